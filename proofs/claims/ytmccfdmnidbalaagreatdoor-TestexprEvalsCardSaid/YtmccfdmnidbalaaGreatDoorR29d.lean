/- Chapter 29: the reference's Clean and Find. -/
import Derived.Test.YtmccfdmnidbalaaGreatDoorR29c
import Derived.Test.YtmccfdmnidbalaaGreatDoorW29w
namespace Go.Proofs.YtmccfdmnidbalaaGreatDoor
open Go.RowKit K
namespace P
def finR (o : Option (List UInt8)) : Option (List UInt8) := match o with
  | none => none
  | some a => if 128 < a.length then none else some a
def limA (k : Nat) : Nat := 200 + 202 * k
theorem limA_top {k n : Nat} (h : k ≤ n) (hn : n ≤ 201) : limA k ≤ 1000000 := by unfold limA; omega
theorem limA_same {k n : Nat} (h : n ≤ limA k) : n ≤ limA (k + 1) := by unfold limA at *; omega
theorem limA_step {k n m x : Nat} (h : n ≤ limA k) (hx : x ≤ 200) (hm : m ≤ n + x + 1) : m ≤ limA (k + 1) := by unfold limA at *; omega
theorem parentS_len (s : List UInt8) : (parentS s).length ≤ s.length + 1 := by
  unfold parentS
  split
  · simp
  · simp; omega
theorem cleanR_at {a : List UInt8} {l : List (List UInt8)} {k : Nat} (h : k < l.length) : cleanRL a (l.drop k) = match stepR a (l.getD k []) with | none => none | some b => cleanRL b (l.drop (k + 1)) := by
  rw [List.drop_eq_getElem_cons h, cleanRL, List.getD_eq_getElem?_getD, List.getElem?_eq_getElem h]
  rfl
theorem cleanRO_fin {cwd path : List UInt8} (h1 : pathB cwd = true) (h2 : path ≠ []) : cleanRO cwd path = finR (cleanRL (if path.head? = some 47 then [47] else cwd) (split47 path)) := by
  unfold cleanRO finR
  rw [if_neg (by rw [h1]; simp), if_neg h2]
  cases cleanRL (if path.head? = some 47 then [47] else cwd) (split47 path) <;> rfl
theorem head_bt2 {p : List UInt8} (h : p ≠ []) : (p.head? = some 47) ↔ (bt p 0 == 47) = true := by
  cases p with
  | nil => exact absurd rfl h
  | cons c r =>
    simp [bt]
    constructor
    · rintro rfl; rfl
    · intro h; apply UInt8.toNat_inj.1; have : (47 : UInt8).toNat = 47 := rfl; omega
end P
namespace W
set_option maxHeartbeats 4000000 in
set_option maxRecDepth 100000 in
theorem Clean_ref (cwd path : List UInt8) (w : World) (hl1 : cwd.length ≤ 200) (hl2 : path.length ≤ 200) :
    Calls Tryz.prog 35 #[.string ⟨cwd.toArray⟩, .string ⟨path.toArray⟩] w (CPost w (P.cleanRO cwd path)) := by
  have HIP := Lib.hid (IsPath_ref cwd w (by omega))
  obtain ⟨R, hR⟩ : ∃ R, P.cleanRO cwd path = R := ⟨_, rfl⟩
  rw [hR]
  have HRR := Lib.hid hR
  clear hR
  cases hp : P.pathB cwd with
  | false =>
    rw [hp] at HIP
    have HF := Lib.hid (show R = none by rw [← HRR.out]; unfold P.cleanRO; rw [if_pos hp])
    clear hp
    go_enter Tryz.func35, Tryz.ntmps35
    go_wp2_with fail
    refine HIP.out.mono ?_
    rintro e w1 ⟨rfl, hb1⟩
    have HB1 := Lib.hid hb1
    clear hb1
    go_wp2
    refine bodyPost_ret (v := .tuple #[.string ⟨#[]⟩, .int .i64 10]) (by simp [results, Tryz.results35, go_sem]) rfl ⟨10, by rw [HF.out]; rfl, by rw [HF.out]; simp, HB1.out⟩
  | true =>
  rw [hp] at HIP
  by_cases h0 : path = []
  · subst h0
    have HF := Lib.hid (show R = none by rw [← HRR.out]; unfold P.cleanRO; rw [if_neg (by rw [hp]; simp), if_pos rfl])
    clear hp
    go_enter Tryz.func35, Tryz.ntmps35
    go_wp2_with fail
    refine HIP.out.mono ?_
    rintro e w1 ⟨rfl, hb1⟩
    have HB1 := Lib.hid hb1
    clear hb1
    go_wp2
    refine bodyPost_ret (v := .tuple #[.string ⟨#[]⟩, .int .i64 8]) (by simp [results, Tryz.results35, go_sem]) rfl ⟨8, by rw [HF.out]; rfl, by rw [HF.out]; simp, HB1.out⟩
  have hemp : path.isEmpty = false := by cases path; simp at h0; rfl
  have hpos : 0 < path.length := by cases path; simp at h0; simp
  have hhead := P.head_bt2 h0
  have HR0 := Lib.hid ((HRR.out.symm).trans (P.cleanRO_fin hp h0))
  have HPR := Lib.hid (fun w1 => parts_ref path w1 (by omega))
  have HLE := Lib.hid (fun x (hx : x ∈ P.split47 path) => Nat.le_trans (P.split47_le path x hx) hl2)
  have HLN := Lib.hid (show (P.split47 path).length ≤ 201 by have := P.split47_len path; omega)
  generalize P.split47 path = L at *
  have hst : ∃ at0 : List UInt8, at0.length ≤ 200 ∧ Hid (R = P.finR (P.cleanRL at0 L)) ∧ ((at0 = [47] ∧ (bt path 0 == 47) = true) ∨ (at0 = cwd ∧ (bt path 0 == 47) = false)) := by
    cases hb : (bt path 0 == 47) with
    | true => exact ⟨[47], by simp, by have := HR0.out; rw [if_pos (hhead.2 hb)] at this; exact this, .inl ⟨rfl, rfl⟩⟩
    | false => exact ⟨cwd, hl1, by have := HR0.out; rw [if_neg (fun h => by rw [hhead.1 h] at hb; cases hb)] at this; exact this, .inr ⟨rfl, rfl⟩⟩
  obtain ⟨at0, hat, HS, hst⟩ := hst
  have HAT := Lib.hid hat
  clear HR0 HRR hhead hp h0 hat hl1 hl2
  rcases hst with ⟨rfl, hb⟩ | ⟨rfl, hb⟩
  all_goals
    go_enter Tryz.func35, Tryz.ntmps35
    go_wp2_with fail
    refine HIP.out.mono ?_
    rintro e w1 ⟨rfl, hb1⟩
    have HB1 := Lib.hid hb1
    clear hb1
    go_wp2_with fail
    refine (HPR.out w1).mono ?_
    rintro e w2 ⟨v, rfl, hown, hb2⟩
    have HB2 := Lib.hid (btr HB1.out hb2)
    obtain ⟨A, c, rfl, hc1, hc2, -, hSL⟩ := own_form hown
    have HSL := Lib.hid hSL
    clear hown hb2 hSL
    go_wp2
    go_loop [6, 8] (fun a i => ∃ (k : Nat) (at_ : List UInt8), k ≤ L.length ∧ i = .int .i64 k ∧ a = .string ⟨at_.toArray⟩ ∧ Hid (at_.length ≤ P.limA k) ∧ Hid (R = P.finR (P.cleanRL at_ (L.drop k)))) (fun _ i => L.length - (intOf i).toNat)
    case atStart => exact ⟨0, _, by omega, rfl, rfl, Nat.le_trans HAT.out (by unfold P.limA; omega), by rw [List.drop_zero]; exact HS⟩
    case round =>
      obtain ⟨k, at_, hk, rfl, rfl, HLA, HK⟩ := hrel
      by_cases hlt : k < L.length
      · obtain ⟨b, off, rfl, hbl, c0⟩ := HSL.out.get hlt
        have HX : Hid ((L.getD k []).length ≤ 200) := HLE.out _ (by rw [List.getD_eq_getElem?_getD, List.getElem?_eq_getElem hlt]; exact List.getElem_mem hlt)
        have HST := Lib.hid (HK.out.trans (by rw [P.cleanR_at hlt]))
        have HTOP := Lib.hid (Nat.le_trans HLA.out (P.limA_top hk HLN.out))
        have k0 : (0 : Int) ≤ (k : Int) := by omega
        have k1 : (k : Int) < (L.length : Int) := by omega
        generalize L.getD k [] = x at *
        clear HK
        by_cases x0 : x = [] ∨ x = [46]
        · have HF := Lib.hid (show R = P.finR (P.cleanRL at_ (L.drop (k + 1))) by rw [HST.out]; unfold P.stepR; rw [if_pos x0])
          rcases x0 with rfl | rfl
          all_goals
            go_wp2
            go_round
            case rel => exact ⟨k + 1, at_, by omega, by go_num, rfl, P.limA_same HLA.out, HF.out⟩
            case measure => simp [intOf]; omega
        have x1 : x.isEmpty = false := by cases x; simp at x0; rfl
        have x2 : (x == [46]) = false := by simp at x0; simpa using x0.2
        by_cases x3 : x = [46, 46]
        · have HF := Lib.hid (show R = P.finR (P.cleanRL (P.parentS at_) (L.drop (k + 1))) by rw [HST.out]; unfold P.stepR; rw [if_neg x0, if_pos x3])
          have HPA := Lib.hid (Parent_ref at_ w2 HTOP.out)
          have HPL := Lib.hid (P.parentS_len at_)
          generalize P.parentS at_ = pa at *
          subst x3
          clear x0 x1 x2
          go_wp2_with fail
          refine HPA.out.mono ?_
          rintro e w3 ⟨rfl, rfl⟩
          go_wp2
          go_round
          case rel => exact ⟨k + 1, pa, by omega, by go_num, rfl, P.limA_step (x := 0) HLA.out (by omega) HPL.out, HF.out⟩
          case measure => simp [intOf]; omega
        have x4 : (x == [46, 46]) = false := by simpa using x3
        have HNM := Lib.hid (name_ref x w2 (Nat.le_trans HX.out (by omega)))
        cases hn : P.nameB x with
        | false =>
          rw [hn] at HNM
          have HF := Lib.hid (show R = none by rw [HST.out]; unfold P.stepR; rw [if_neg x0, if_neg x3, if_neg (by rw [hn]; simp)]; rfl)
          clear x0 x3 hn
          go_wp2_with fail
          refine HNM.out.mono ?_
          rintro e w3 ⟨rfl, rfl⟩
          go_wp2
          refine bodyPost_ret (v := .tuple #[.string ⟨#[]⟩, .int .i64 10]) (by simp [results, Tryz.results35, go_sem]) rfl ⟨10, by rw [HF.out]; rfl, by rw [HF.out]; simp, HB2.out⟩
        | true =>
          rw [hn] at HNM
          have HF := Lib.hid (show R = P.finR (P.cleanRL ((if at_ = [47] then [] else at_) ++ 47 :: x) (L.drop (k + 1))) by rw [HST.out]; unfold P.stepR; rw [if_neg x0, if_neg x3, if_pos hn])
          clear x0 x3 hn
          have hx200 := HX.out
          have hat_ := HTOP.out
          by_cases ha : at_ = [47]
          · subst ha
            have HF2 := Lib.hid (show R = P.finR (P.cleanRL (47 :: x) (L.drop (k + 1))) from HF.out)
            clear HF
            go_wp2_with fail
            refine HNM.out.mono ?_
            rintro e w3 ⟨rfl, rfl⟩
            go_wp2
            go_round
            case rel => exact ⟨k + 1, 47 :: x, by omega, by go_num, by simp, P.limA_step HLA.out HX.out (by simp), HF2.out⟩
            case measure => simp [intOf]; omega
          · have ha2 : (at_ == [47]) = false := by simpa using ha
            have HF2 := Lib.hid (show R = P.finR (P.cleanRL (at_ ++ 47 :: x) (L.drop (k + 1))) by have := HF.out; rw [if_neg ha] at this; exact this)
            clear HF ha
            go_wp2_with fail
            refine HNM.out.mono ?_
            rintro e w3 ⟨rfl, rfl⟩
            go_wp2
            go_round
            case rel => exact ⟨k + 1, at_ ++ 47 :: x, by omega, by go_num, by simp, P.limA_step HLA.out HX.out (by simp; omega), HF2.out⟩
            case measure => simp [intOf]; omega
      · have HF := Lib.hid (show R = P.finR (some at_) by rw [HK.out, List.drop_eq_nil_of_le (by omega)]; rfl)
        clear HK HLA
        by_cases h128 : 128 < at_.length
        · have t1 : ((128 : Int) < (at_.length : Int)) = True := eq_true (by omega)
          have HG := Lib.hid (show R = none by rw [HF.out]; unfold P.finR; simp only; rw [if_pos h128])
          clear h128
          go_wp2
          refine bodyPost_ret (v := .tuple #[.string ⟨#[]⟩, .int .i64 3]) (by simp [results, Tryz.results35, go_sem]) rfl ⟨3, by rw [HG.out]; rfl, by rw [HG.out]; simp, HB2.out⟩
        · have t1 : ((128 : Int) < (at_.length : Int)) = False := eq_false (by omega)
          have HG := Lib.hid (show R = some at_ by rw [HF.out]; unfold P.finR; simp only; rw [if_neg h128])
          clear h128
          go_wp2
          refine bodyPost_ret (v := .tuple #[.string ⟨at_.toArray⟩, .int .i64 0]) (by simp [results, Tryz.results35, go_sem]) rfl ⟨0, by rw [HG.out]; rfl, by rw [HG.out]; simp, HB2.out⟩
set_option maxHeartbeats 1000000 in
theorem Find_ref (v : Value) (fs : List Fi) (p : List UInt8) (w : World) (hV : FV w v fs) (hn : fs.length ≤ 1000000) :
    Calls Tryz.prog 36 #[v, .string ⟨p.toArray⟩] w fun e w' => e = .returned (.tuple #[.agg #[.string ⟨(P.tup (P.findF fs p)).1.toArray⟩, .bool (P.tup (P.findF fs p)).2.1, .string ⟨(P.tup (P.findF fs p)).2.2.toArray⟩], .bool (P.findF fs p).isSome]) ∧ Below w.heap.size w w' := by
  obtain ⟨x, hx⟩ : ∃ x, x = w.alloc (.cells #[.string ⟨#[]⟩, .bool false, .string ⟨#[]⟩] 35) := ⟨_, rfl⟩
  have HX := Lib.hid hx
  have HBx := Lib.hid (show Below w.heap.size w x by rw [hx]; exact balloc _ _)
  have HXH := Lib.hid (show x.heap[w.heap.size]? = some (.cells #[.string ⟨#[]⟩, .bool false, .string ⟨#[]⟩] 35 (0, 0)) by rw [hx]; exact heap_alloc_new w _)
  clear hx
  have HFI := Lib.hid (find_ref v fs p x (hV.below HBx.out) hn)
  obtain ⟨A, c, rfl, hc1, hc2, hF⟩ := hV
  have HF := Lib.hid (hF.below HBx.out)
  generalize P.findF fs p = R at *
  clear hF
  go_enter Tryz.func36, Tryz.ntmps36
  go_wp2_with fail
  rw [← HX.out]
  refine HFI.out.mono ?_
  rintro e w1 ⟨⟨z, rfl, hz⟩, rfl⟩
  obtain ⟨f0, f1, f2, z0, z1, z2⟩ := box3_cells HXH.out
  rcases hz with ⟨rfl, hR⟩ | ⟨k, rfl, hk, hR⟩
  · have HR := Lib.hid hR
    clear hR
    go_wp2
    refine bodyPost_ret (v := .tuple #[.agg #[.string ⟨#[]⟩, .bool false, .string ⟨#[]⟩], .bool false]) (by simp [results, Tryz.results36, go_sem, f0, f1, f2]) rfl ⟨by rw [HR.out]; rfl, ?_⟩
    exact ((HBx.out.setCell (by simp) _).setCell (by simp) _).setCell (by simp) _
  · obtain ⟨b, off, rfl, hb, c0, c1, c2⟩ := HF.out k hk
    obtain ⟨⟨q, d, cc⟩, hf⟩ : ∃ f, fs.getD k fz = f := ⟨_, rfl⟩
    rw [hf] at c0 c1 c2 hR
    simp only at c0 c1 c2
    have HR := Lib.hid hR
    have k0 : (0 : Int) ≤ (k : Int) := by omega
    have k1 : (k : Int) < (fs.length : Int) := by omega
    have k2 : ((k : Int) < 0) = False := eq_false (by omega)
    clear hf hR
    go_wp2
    have h1 := heap_setCell_same x w.heap.size 0 _ 35 (.string ⟨q.toArray⟩) HXH.out
    have h2 := heap_setCell_same _ w.heap.size 1 _ 35 (.bool d) h1
    have h3 := heap_setCell_same _ w.heap.size 2 _ 35 (.string ⟨cc.toArray⟩) h2
    obtain ⟨y0, y1, y2, -⟩ := box3_cells (by rw [h3]; rfl : _ = some (Obj.cells #[.string ⟨q.toArray⟩, .bool d, .string ⟨cc.toArray⟩] 35 (0, 0)))
    refine bodyPost_ret (v := .tuple #[.agg #[.string ⟨q.toArray⟩, .bool d, .string ⟨cc.toArray⟩], .bool true]) (by simp [results, Tryz.results36, go_sem, y0, y1, y2]) rfl ⟨by rw [HR.out]; rfl, ?_⟩
    exact ((HBx.out.setCell (by simp) _).setCell (by simp) _).setCell (by simp) _
end W
end Go.Proofs.YtmccfdmnidbalaaGreatDoor
