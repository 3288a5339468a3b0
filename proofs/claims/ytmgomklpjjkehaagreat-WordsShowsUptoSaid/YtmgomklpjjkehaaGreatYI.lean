/- Several texts in one: G08j G08k G08l G08y. -/
import Derived.Test.YtmgomklpjjkehaaGreatYH
import Derived.Test.YtmgomklpjjkehaaGreatYM
import Derived.Test.YtmgomklpjjkehaaGreatYP
namespace Go.Proofs.YtmgomklpjjkehaaGreat
open Go.RowKit K
open WP (GP gp gpL)
namespace W
set_option maxRecDepth 100000 in
set_option maxHeartbeats 16000000 in
theorem param_op (g : Nat) (l t y : List UInt8) (x c : Bool) (pl : Nat) (nx o : Int) (ps : List GP) (A : Option Addr) (cap : Nat) (w : World) (h : WB g l x w) (hgw : g < w.heap.size) (hz : l.length + (2 * (t.length + WP.sizL ps) + 8 * (1 + WP.cntL ps)) ≤ 40000000) (ht : t.length ≤ 1000000)
    (hs : WP.symbol o = some y) (hP : PartsC g w (.slice A ps.length cap) pl true ps) :
    Calls Tryz.prog 39 #[.pointer (some ⟨g, 0, none⟩), .agg #[.int .i64 4, .string ⟨t.toArray⟩, .int .i64 o, .bool c, .slice A ps.length cap], .int .i64 pl, .int .u8 nx] w
      fun e w' => e = .returned (.tuple #[]) ∧ WB g (l ++ 36 :: 123 :: (t ++ ((if c = true then 58 :: y else y) ++ (WP.outL pl true ps ++ [125])))) (x || WP.badL ps) w' ∧ Bkept g w w' := by
  have HB := Lib.hid h
  have hps : (0 : Int) ≤ (ps.length : Int) := by omega
  have hol := WP.outL_len pl true ps
  obtain ⟨V, hV⟩ : ∃ V, V = w.alloc (.cells #[.int .i64 4, .string ⟨t.toArray⟩, .int .i64 o, .bool c, .slice A ps.length cap] 38) := ⟨_, rfl⟩
  have HVP := Lib.hid (show V.heap[w.heap.size]? = some (.cells #[.int .i64 4, .string ⟨t.toArray⟩, .int .i64 o, .bool c, .slice A ps.length cap] 38 (0, 0)) by rw [hV]; exact al_new w _)
  have HWV := Lib.hid (show Below w.heap.size w V by rw [hV]; exact balloc _ _)
  have HV := Lib.hid hV
  have v1 := Lib.cell_of_heap HVP.out 1
  have hv1 : V.cell? ⟨w.heap.size, 1, none⟩ = some (.string ⟨t.toArray⟩) := v1
  have v3 := Lib.cell_of_heap HVP.out 3
  have hv3 : V.cell? ⟨w.heap.size, 3, none⟩ = some (.bool c) := v3
  have HWVB := Lib.hid (HB.out.below (btr HWV.out (Below.refl _ _).drew))
  have HKV := Lib.hid (Bkept.of_below (btr HWV.out (Below.refl _ _).drew) (Nat.le_of_lt hgw))
  have hyl : y.length ≤ 2 := by rcases symbol_some hs with ⟨_, rfl⟩ | ⟨_, rfl⟩ | ⟨_, rfl⟩ | ⟨_, rfl⟩ | ⟨_, rfl⟩ | ⟨_, rfl⟩ | ⟨_, rfl⟩ | ⟨_, rfl⟩ <;> simp
  obtain ⟨S, hS⟩ : ∃ S, (if c = true then 58 :: y else y) = S := ⟨_, rfl⟩
  have hSl : S.length ≤ 3 := by
    rw [← hS]
    split
    · rw [List.length_cons]; omega
    · omega
  rw [hS]
  have HWS := Lib.hid (writeStringW g l (36 :: 123 :: (t ++ S)) x V.drew HWVB.out (by omega) (by simp; omega))
  have hA1 := str_add [36, 123] t (36 :: 123 :: t) rfl (by decide) (by omega)
  have hA2 := str_add (36 :: 123 :: t) S (36 :: 123 :: (t ++ S)) rfl (by simp; omega) (by omega)
  have HPP := Lib.hid hP
  have HTAIL := Lib.hid (fun (Z : World) (hbz : WB g (l ++ 36 :: 123 :: (t ++ S)) x Z) (hkz : Bkept g w Z) => hP Z _ x hkz hbz (by rw [List.length_append]; simp; omega))
  obtain ⟨OL, hOL⟩ : ∃ OL, WP.outL pl true ps = OL := ⟨_, rfl⟩
  obtain ⟨BL, hBL⟩ : ∃ BL, WP.badL ps = BL := ⟨_, rfl⟩
  rw [hOL] at HTAIL hol ⊢
  rw [hBL] at HTAIL ⊢
  have HFIN := Lib.hid (fun (Z : World) (hbz : WB g (l ++ 36 :: 123 :: (t ++ S) ++ OL) (x || BL) Z) => writeByteW g _ 125 (x || BL) Z hbz (by simp; omega))
  have HAPP := Lib.hid (show l ++ 36 :: 123 :: (t ++ (S ++ (OL ++ [125]))) = l ++ 36 :: 123 :: (t ++ S) ++ OL ++ [125] by simp)
  rw [HAPP.out]
  have HNEW := Lib.hid (show ∀ Y, Bkept g V.drew Y → Y.cell? ⟨w.heap.size, 4, none⟩ = some (.slice A ps.length cap) from fun Y hY => Lib.cell_of_heap (hY.cells (q := w.heap.size) HVP.out (by omega) (by decide)) 4)
  have hsy := symbol_some hs
  clear h hV v1 v3 hs hP hOL hBL hol hz
  rcases hsy with ⟨rfl, rfl⟩ | ⟨rfl, rfl⟩ | ⟨rfl, rfl⟩ | ⟨rfl, rfl⟩ | ⟨rfl, rfl⟩ | ⟨rfl, rfl⟩ | ⟨rfl, rfl⟩ | ⟨rfl, rfl⟩
  all_goals
    rcases (show c = true ∨ c = false by cases c <;> simp) with rfl | rfl
    all_goals
      first | rw [if_pos rfl] at hS | rw [if_neg (by simp)] at hS
      subst hS
      go_enter Tryz.func39, Tryz.ntmps39
      go_wp2_with fail
      rw [← HV.out]
      refine wp_region_still_tail 8 (by kernel_rfl) (by kernel_rfl) ?_
      simp only [List.take_succ_cons, List.take_zero, List.drop_succ_cons, List.drop_zero]
      repeat still_step
      refine wpStill_nil ?_
      change wpList _ _ _ _ _ V.drew
      go_wp2_with fail
      refine HWS.out.mono ?_
      rintro e Y ⟨rfl, hby, hky⟩
      have hy4 := HNEW.out Y hky
      have HT := Lib.hid (HTAIL.out Y hby (HKV.out.trans hky))
      have HKY := Lib.hid (HKV.out.trans hky)
      clear hby hky
      go_wp2_with fail
      refine HT.out.mono ?_
      rintro e Z ⟨rfl, hbz, hkz⟩
      have HF := Lib.hid (HFIN.out Z hbz)
      have HKZ := Lib.hid (HKY.out.trans hkz)
      clear hbz hkz
      go_wp2_with fail
      refine HF.out.mono ?_
      rintro e U ⟨rfl, hbu, hku⟩
      have HU := Lib.hid hbu
      have HKU := Lib.hid (HKZ.out.trans hku)
      clear hbu hku
      go_wp2
      first | go_end0 | refine bodyPost_ret (results_none rfl _ _ _) rfl ?_
      exact ⟨rfl, HU.out, HKU.out⟩
theorem parameter_anyW (g : Nat) (l t : List UInt8) (x c : Bool) (pl : Nat) (nx o : Int) (ps : List GP) (A : Option Addr) (cap : Nat) (w : World) (h : WB g l x w) (hz : l.length + (2 * (t.length + WP.sizL ps) + 8 * (1 + WP.cntL ps)) ≤ 40000000) (ht : t.length ≤ 1000000)
    (hP : PartsC g w (.slice A ps.length cap) pl true ps) :
    Calls Tryz.prog 39 #[.pointer (some ⟨g, 0, none⟩), .agg #[.int .i64 4, .string ⟨t.toArray⟩, .int .i64 o, .bool c, .slice A ps.length cap], .int .i64 pl, .int .u8 nx] w
      fun e w' => e = .returned (.tuple #[]) ∧ WB g (l ++ outQ pl nx t o c ps) (x || badQ o ps) w' ∧ Bkept g w w' := by
  by_cases h0 : o = 0
  · subst h0
    rw [show badQ 0 ps = false from rfl, Bool.or_false]
    by_cases ht0 : t = []
    · subst ht0
      exact param_nil g l x c pl nx ps A cap w h (by omega)
    · exact param_ne g l t x c pl nx ps A cap w h (by omega) ht ht0
  by_cases h5 : o = 5
  · subst h5
    rw [show badQ 5 ps = false from rfl, Bool.or_false]
    exact param_len g l t x c pl nx ps A cap w h (by omega) ht
  unfold outQ badQ
  rw [if_neg h0, if_neg h5, if_neg (by omega)]
  cases hs : WP.symbol o with
  | none =>
    rw [if_pos rfl, Bool.or_true]
    dsimp only
    rw [List.append_nil]
    exact param_bad g l t x c pl nx o ps A cap w h h0 h5 hs
  | some y =>
    rw [if_neg (by simp)]
    exact param_op g l t y x c pl nx o ps A cap w h h.lt hz ht hs hP
end W
end Go.Proofs.YtmgomklpjjkehaaGreat
namespace Go.Proofs.YtmgomklpjjkehaaGreat
open Go.RowKit K
open WP (GP gp gpL)
namespace W
/-- What parts gives for lists of fewer than n parts that lie below the writer. -/
def PartsN (n : Nat) : Prop := ∀ (g : Nat) (w : World) (v : Value) (pl : Nat) (op : Bool) (ps : List GP), WP.cntL ps < n → WP.cntL ps ≤ 1000000 → WP.sizL ps ≤ 1000000 → GS w (fun b => b < g) v ps → PartsC g w v pl op ps
theorem outL_drop {ps : List GP} {k : Nat} {p : GP} (pl : Nat) (op : Bool) (h : ps.drop k = p :: ps.drop (k + 1)) : WP.outL pl op (ps.drop k) = WP.outP pl op (WP.nextB (ps.drop (k + 1))) p ++ WP.outL pl op (ps.drop (k + 1)) := by rw [h, WP.outL]
theorem badL_drop {ps : List GP} {k : Nat} {p : GP} (h : ps.drop k = p :: ps.drop (k + 1)) : WP.badL (ps.drop k) = (WP.badP p || WP.badL (ps.drop (k + 1))) := by rw [h, WP.badL]
theorem cnt_drop {ps : List GP} {k : Nat} {p : GP} (h : ps.drop k = p :: ps.drop (k + 1)) : WP.cntL (ps.drop k) = WP.cntP p + WP.cntL (ps.drop (k + 1)) := by rw [h, WP.cntL]
theorem siz_get : ∀ {l : List GP} {k : Nat} {p : GP}, l[k]? = some p → WP.sizP p ≤ WP.sizL l
  | [], k, p, h => by simp at h
  | q :: r, 0, p, h => by
    simp at h
    subst h
    rw [WP.sizL]
    omega
  | q :: r, k + 1, p, h => by
    have := siz_get (l := r) (k := k) (by simpa using h)
    rw [WP.sizL]
    omega
theorem sizP_eq (k : Int) (t : List UInt8) (o : Int) (c : Bool) (ps : List GP) : WP.sizP (.mk k t o c ps) = t.length + WP.sizL ps := by rw [WP.sizP]
theorem cntP_eq (k : Int) (t : List UInt8) (o : Int) (c : Bool) (ps : List GP) : WP.cntP (.mk k t o c ps) = 1 + WP.cntL ps := by rw [WP.cntP]
section
variable (pl : Nat) (op : Bool) (nx : Int) (t : List UInt8) (o : Int) (c : Bool) (ps : List GP)
theorem outP_7 : WP.outP pl op nx (.mk 7 t o c ps) = [126] := by rw [WP.outP, if_pos rfl]
theorem outP_1 : WP.outP pl op nx (.mk 1 t o c ps) = WP.escT pl op t := by rw [WP.outP, if_neg (by decide), if_pos rfl]
theorem outP_2 : WP.outP pl op nx (.mk 2 t o c ps) = if t = [39] then [92, 39] else 39 :: (t ++ [39]) := by rw [WP.outP, if_neg (by decide), if_neg (by decide), if_pos rfl]
theorem outP_3 : WP.outP pl op nx (.mk 3 t o c ps) = 34 :: (WP.outL 1 false ps ++ [34]) := by rw [WP.outP, if_neg (by decide), if_neg (by decide), if_neg (by decide), if_pos rfl]
theorem outP_5 : WP.outP pl op nx (.mk 5 t o c ps) = 36 :: 40 :: (t ++ [41]) := by rw [WP.outP, if_neg (by decide), if_neg (by decide), if_neg (by decide), if_neg (by decide), if_pos rfl]
theorem outP_6 : WP.outP pl op nx (.mk 6 t o c ps) = 36 :: 40 :: 40 :: (WP.outL 2 false ps ++ [41, 41]) := by rw [WP.outP, if_neg (by decide), if_neg (by decide), if_neg (by decide), if_neg (by decide), if_neg (by decide), if_pos rfl]
theorem outP_4 : WP.outP pl op nx (.mk 4 t o c ps) = outQ pl nx t o c ps := by rw [WP.outP, if_neg (by decide), if_neg (by decide), if_neg (by decide), if_neg (by decide), if_neg (by decide), if_neg (by decide), if_pos rfl]; rfl
theorem outP_other {k : Int} (h7 : ¬ k = 7) (h1 : ¬ k = 1) (h2 : ¬ k = 2) (h3 : ¬ k = 3) (h5 : ¬ k = 5) (h6 : ¬ k = 6) (h4 : ¬ k = 4) : WP.outP pl op nx (.mk k t o c ps) = [] := by rw [WP.outP, if_neg h7, if_neg h1, if_neg h2, if_neg h3, if_neg h5, if_neg h6, if_neg h4]
theorem badP_4 : WP.badP (.mk 4 t o c ps) = badQ o ps := by rw [WP.badP, if_neg (by decide), if_pos rfl]; rfl
theorem badP_in {k : Int} (h : k = 3 ∨ k = 6) : WP.badP (.mk k t o c ps) = WP.badL ps := by rw [WP.badP, if_pos h]
theorem badP_ok {k : Int} (h : k = 7 ∨ k = 1 ∨ k = 2 ∨ k = 5) : WP.badP (.mk k t o c ps) = false := by rw [WP.badP, if_neg (by omega), if_neg (by omega)]; exact decide_eq_false (fun x => x h)
theorem badP_other {k : Int} (h7 : ¬ k = 7) (h1 : ¬ k = 1) (h2 : ¬ k = 2) (h3 : ¬ k = 3) (h5 : ¬ k = 5) (h6 : ¬ k = 6) (h4 : ¬ k = 4) : WP.badP (.mk k t o c ps) = true := by rw [WP.badP, if_neg (by omega), if_neg h4]; exact decide_eq_true (by omega)
end
/-- Where the loop of parts stands: what is written, what is wrong, what is still to come. -/
structure PRel (g : Nat) (V : World) (pl : Nat) (op : Bool) (ps : List GP) (OUT : List UInt8) (BAD : Bool) (k : Nat) (wr : World) : Prop where
  out : ∃ acc xb, WB g acc xb wr ∧ acc ++ WP.outL pl op (ps.drop k) = OUT ∧ (xb || WP.badL (ps.drop k)) = BAD ∧ acc.length + (2 * WP.sizL (ps.drop k) + 8 * WP.cntL (ps.drop k)) ≤ 40000000 ∧ Bkept g V wr
/-- The end of a round. -/
theorem PRel.step {g : Nat} {V : World} {pl : Nat} {op : Bool} {ps : List GP} {OUT : List UInt8} {BAD : Bool} {k : Nat} {p : GP} {acc : List UInt8} {xb : Bool} {Y : World} (hd : ps.drop k = p :: ps.drop (k + 1)) (ho : acc ++ WP.outL pl op (ps.drop k) = OUT) (hb : (xb || WP.badL (ps.drop k)) = BAD)
    (hc : acc.length + (2 * WP.sizL (ps.drop k) + 8 * WP.cntL (ps.drop k)) ≤ 40000000) (hY : WB g (acc ++ WP.outP pl op (WP.nextB (ps.drop (k + 1))) p) (xb || WP.badP p) Y) (hk : Bkept g V Y) : PRel g V pl op ps OUT BAD (k + 1) Y := by
  have hl := WP.outP_len pl op (WP.nextB (ps.drop (k + 1))) p
  rw [siz_drop hd, cnt_drop hd] at hc
  exact ⟨_, _, hY, by rw [List.append_assoc, ← outL_drop pl op hd]; exact ho, by rw [Bool.or_assoc, ← badL_drop hd]; exact hb, by rw [List.length_append]; omega, hk⟩
set_option maxRecDepth 100000 in
set_option maxHeartbeats 16000000 in
theorem parts_step {n : Nat} (IH : PartsN n) (g : Nat) (w : World) (v : Value) (pl : Nat) (op : Bool) (ps : List GP) (hcn : WP.cntL ps ≤ n) (hcm : WP.cntL ps ≤ 1000000) (hsz : WP.sizL ps ≤ 1000000) (hG : GS w (fun b => b < g) v ps) : PartsC g w v pl op ps := by
  intro V l x hKV hWB hlen
  obtain ⟨A, cap, rfl⟩ := hG.slice
  obtain ⟨OUT, hOUT⟩ : ∃ OUT, l ++ WP.outL pl op ps = OUT := ⟨_, rfl⟩
  obtain ⟨BAD, hBAD⟩ : ∃ BAD, (x || WP.badL ps) = BAD := ⟨_, rfl⟩
  rw [hOUT, hBAD]
  have HST := Lib.hid (show PRel g V pl op ps OUT BAD 0 V from ⟨l, x, hWB, hOUT, hBAD, hlen, Bkept.refl _ _⟩)
  have HG := Lib.hid hG
  have HKV := Lib.hid hKV
  have HIH := Lib.hid IH
  have hll := len_cnt ps
  have hpl : ps.length ≤ 1000000 := by omega
  have HCN := Lib.hid hcn
  have HCM := Lib.hid hcm
  have HSZ := Lib.hid hsz
  clear hOUT hBAD hWB hlen hKV hG IH hcn hcm hsz hll
  go_enter Tryz.func26, Tryz.ntmps26
  go_wp2
  go_loopw [13] (fun i wr => ∃ k : Nat, k ≤ ps.length ∧ i = .int .i64 k ∧ Hid (PRel g V pl op ps OUT BAD k wr)) (fun i _ => ps.length - (intOf i).toNat)
  case atStart => exact ⟨0, Nat.zero_le _, rfl, HST⟩
  case round =>
    obtain ⟨k, hk, rfl, HR⟩ := hrel
    obtain ⟨acc, xb, hwb, ho, hb, hc, hkw⟩ := HR.out.out
    have HWB := Lib.hid hwb
    have HO := Lib.hid ho
    have HBD := Lib.hid hb
    have HC := Lib.hid hc
    have HKW := Lib.hid hkw
    have hgl := hwb.lt
    clear hwb ho hb hkw HR HST
    by_cases hlt : k < ps.length
    · obtain ⟨p, hp, hd⟩ := get_of_lt hlt
      have HD := Lib.hid hd
      have HGW := Lib.hid (HG.out.kept (HKV.out.trans HKW.out).below)
      obtain ⟨b, off, A2, cap2, rfl, hbg, g0, g1, g2, g3, g4, hg⟩ := HGW.out.get hp
      have hbr : b < wr.heap.size := by omega
      have hcp := cnt_get hp
      have hsp := siz_get hp
      have hal : acc.length ≤ 40000000 := by omega
      obtain ⟨kd, t, o, c, qs⟩ := p
      rw [sizP_eq] at hsp
      have htl : t.length ≤ 1000000 := by have := HSZ.out; omega
      have hqz : WP.sizL qs ≤ 1000000 := by have := HSZ.out; omega
      have hqn : WP.cntL qs ≤ 1000000 := by have := HCM.out; dsimp only [WP.GP.parts] at hcp; omega
      have hqc : WP.cntL qs < n := by have := HCN.out; dsimp only [WP.GP.parts] at hcp; omega
      dsimp only [WP.GP.kind, WP.GP.text, WP.GP.op, WP.GP.colon, WP.GP.parts] at g0 g1 g2 g3 g4 hg
      have hqs : (0 : Int) ≤ (qs.length : Int) := by omega
      have hcost : acc.length + (2 * (t.length + WP.sizL qs) + 8 * (1 + WP.cntL qs)) ≤ 40000000 := by
        have h1 := siz_drop hd
        have h2 := cnt_drop hd
        rw [sizP_eq] at h1
        rw [cntP_eq] at h2
        omega
      have HCOST := Lib.hid hcost
      obtain ⟨X, hX⟩ : ∃ X, X = wr.alloc (.cells #[.int .i64 kd, .string ⟨t.toArray⟩, .int .i64 o, .bool c, .slice A2 qs.length cap2] 38) := ⟨_, rfl⟩
      have HWX := Lib.hid (show Below wr.heap.size wr X by rw [hX]; exact balloc _ _)
      have hxp : X.heap[wr.heap.size]? = some (.cells #[.int .i64 kd, .string ⟨t.toArray⟩, .int .i64 o, .bool c, .slice A2 qs.length cap2] 38 (0, 0)) := by rw [hX]; exact al_new wr _
      have HXP := Lib.hid hxp
      have HNEW := Lib.hid (show ∀ Y, Bkept g X Y → Y.cell? ⟨wr.heap.size, 4, none⟩ = some (.slice A2 qs.length cap2) from fun Y hY => Lib.cell_of_heap (hY.cells (q := wr.heap.size) HXP.out (by omega) (by decide)) 4)
      have HXB := Lib.hid (show WB g acc xb X from HWB.out.below HWX.out)
      have HKX := Lib.hid (show Bkept g V X from HKW.out.trans (Bkept.of_below HWX.out (by omega)))
      have x1 : X.cell? ⟨wr.heap.size, 1, none⟩ = some (.string ⟨t.toArray⟩) := Lib.cell_of_heap hxp 1
      have hxg : g < X.heap.size := by have := HWX.out.size; omega
      have HPC := Lib.hid (fun (pl' : Nat) (op' : Bool) => HIH.out g X (.slice A2 qs.length cap2) pl' op' qs hqc hqn hqz (hg.below HWX.out))
      have HSTEP := Lib.hid (fun (Y : World) (h1 : WB g (acc ++ WP.outP pl op (WP.nextB (ps.drop (k + 1))) (.mk kd t o c qs)) (xb || WP.badP (.mk kd t o c qs)) Y) (h2 : Bkept g V Y) => PRel.step HD.out HO.out HBD.out HC.out h1 h2)
      have HX := Lib.hid hX
      clear hp hd hbg hcp hsp hX hxp hg hcost hc
      -- cases
      by_cases h7 : kd = 7
      · subst h7
        have HE := Lib.hid (fun (Y : World) (h1 : WB g (acc ++ [126]) xb Y) (h2 : Bkept g V Y) => HSTEP.out Y (by rw [outP_7, badP_ok _ _ _ _ (.inl rfl), Bool.or_false]; exact h1) h2)
        have HW := Lib.hid (show Calls Tryz.prog 37 #[.pointer (some ⟨g, 0, none⟩), .int .u8 126] X fun e w' => e = .returned .nilIface ∧ WB g (acc ++ [126]) xb w' ∧ Bkept g X w' from writeByteW g acc 126 xb X HXB.out (by omega))
        clear HSTEP
        go_wp2_with fail
        rw [← HX.out]
        refine HW.out.mono ?_
        rintro e Y ⟨rfl, h1, h2⟩
        have HN := Lib.hid (HE.out Y h1 (HKX.out.trans h2))
        clear h1 h2
        go_wp2
        go_roundw
        case rel => exact ⟨k + 1, hlt, by go_num, HN⟩
        case measure => simp [intOf]; omega
      have b7 := beq_f h7
      by_cases h1' : kd = 1
      · subst h1'
        have HE := Lib.hid (fun (Y : World) (h1 : WB g (acc ++ WP.escT pl op t) xb Y) (h2 : Bkept g V Y) => HSTEP.out Y (by rw [outP_1, badP_ok _ _ _ _ (.inr (.inl rfl)), Bool.or_false]; exact h1) h2)
        have HW := Lib.hid (text_any g acc t pl op xb X HXB.out (by omega) htl)
        clear HSTEP
        go_wp2_with fail
        rw [← HX.out]
        refine HW.out.mono ?_
        rintro e Y ⟨rfl, h1, h2⟩
        have HN := Lib.hid (HE.out Y h1 (HKX.out.trans h2))
        clear h1 h2
        go_wp2
        go_roundw
        case rel => exact ⟨k + 1, hlt, by go_num, HN⟩
        case measure => simp [intOf]; omega
      have b1 := beq_f h1'
      by_cases h2' : kd = 2
      · subst h2'
        by_cases h39 : t = [39]
        · subst h39
          have HE := Lib.hid (fun (Y : World) (h1 : WB g (acc ++ [92, 39]) xb Y) (h2 : Bkept g V Y) => HSTEP.out Y (by rw [outP_2, if_pos rfl, badP_ok _ _ _ _ (.inr (.inr (.inl rfl))), Bool.or_false]; exact h1) h2)
          have HW := Lib.hid (writeStringW g acc [92, 39] xb X HXB.out (by omega) (by decide))
          clear HSTEP
          go_wp2_with fail
          rw [← HX.out]
          refine HW.out.mono ?_
          rintro e Y ⟨rfl, h1, h2⟩
          have HN := Lib.hid (HE.out Y h1 (HKX.out.trans h2))
          clear h1 h2
          go_wp2
          go_roundw
          case rel => exact ⟨k + 1, hlt, by go_num, HN⟩
          case measure => simp [intOf]; omega

        have HE := Lib.hid (fun (Y : World) (h1 : WB g (acc ++ 39 :: (t ++ [39])) xb Y) (h2 : Bkept g V Y) => HSTEP.out Y (by rw [outP_2, if_neg h39, badP_ok _ _ _ _ (.inr (.inr (.inl rfl))), Bool.or_false]; exact h1) h2)
        have HW := Lib.hid (writeStringW g acc (39 :: (t ++ [39])) xb X.drew (HXB.out.below (Below.refl _ _).drew) (by omega) (by simp; omega))
        have e39 : (t == [39]) = false := by rw [beq_eq_false_iff_ne]; exact h39
        have HKD := Lib.hid (HKX.out.trans (Bkept.of_below (Below.refl X.heap.size X).drew (Nat.le_of_lt hxg)))
        have hA1 := str_add [39] t (39 :: t) rfl (by decide) (by omega)
        have hA2 := str_add (39 :: t) [39] (39 :: (t ++ [39])) rfl (by simp; omega) (by decide)
        clear HSTEP
        go_wp2_with fail
        rw [← HX.out]
        refine wp_region_still_tail 7 (by kernel_rfl) (by kernel_rfl) ?_
        simp only [List.take_succ_cons, List.take_zero, List.drop_succ_cons, List.drop_zero]
        repeat still_step
        refine wpStill_nil ?_
        change wpList _ _ _ _ _ X.drew
        go_wp2_with fail
        refine HW.out.mono ?_
        rintro e Y ⟨rfl, h1, h2⟩
        have HN := Lib.hid (HE.out Y h1 (HKD.out.trans h2))
        clear h1 h2
        go_wp2
        go_roundw
        case rel => exact ⟨k + 1, hlt, by go_num, HN⟩
        case measure => simp [intOf]; omega
      have b2 := beq_f h2'
      by_cases h3' : kd = 3
      · subst h3'
        have HAP := Lib.hid (show acc ++ 34 :: (WP.outL 1 false qs ++ [34]) = acc ++ [34] ++ WP.outL 1 false qs ++ [34] by simp)
        have HE := Lib.hid (fun (Y : World) (h1 : WB g (acc ++ [34] ++ WP.outL 1 false qs ++ [34]) (xb || WP.badL qs) Y) (h2 : Bkept g V Y) => HSTEP.out Y (by rw [outP_3, badP_in _ _ _ _ (.inl rfl), HAP.out]; exact h1) h2)
        have HW := Lib.hid (show Calls Tryz.prog 37 #[.pointer (some ⟨g, 0, none⟩), .int .u8 34] X fun e w' => e = .returned .nilIface ∧ WB g (acc ++ [34]) xb w' ∧ Bkept g X w' from writeByteW g acc 34 xb X HXB.out (by omega))
        have HIN := Lib.hid (fun (Y : World) (h1 : WB g (acc ++ [34]) xb Y) (h2 : Bkept g X Y) => HPC.out 1 false Y _ xb h2 h1 (by rw [List.length_append]; simp only [List.length_cons, List.length_nil]; have := HCOST.out; omega))
        have hol := WP.outL_len 1 false qs
        have HFI := Lib.hid (fun (Z : World) (h1 : WB g (acc ++ [34] ++ WP.outL 1 false qs) (xb || WP.badL qs) Z) => show Calls Tryz.prog 37 #[.pointer (some ⟨g, 0, none⟩), .int .u8 34] Z fun e w' => e = .returned .nilIface ∧ WB g (acc ++ [34] ++ WP.outL 1 false qs ++ [34]) (xb || WP.badL qs) w' ∧ Bkept g Z w' from writeByteW g _ 34 _ Z h1 (by rw [List.length_append, List.length_append]; simp only [List.length_cons, List.length_nil]; have := HCOST.out; omega))
        clear HSTEP
        go_wp2_with fail
        rw [← HX.out]
        refine HW.out.mono ?_
        rintro e Y ⟨rfl, h1, h2⟩
        have hy4 := HNEW.out Y h2
        have HP := Lib.hid (HIN.out Y h1 h2)
        have HKY := Lib.hid (HKX.out.trans h2)
        clear h1 h2
        go_wp2_with fail
        refine HP.out.mono ?_
        rintro e Z ⟨rfl, h1, h2⟩
        have HF := Lib.hid (HFI.out Z h1)
        have HKZ := Lib.hid (HKY.out.trans h2)
        clear h1 h2
        go_wp2_with fail
        refine HF.out.mono ?_
        rintro e U ⟨rfl, h1, h2⟩
        have HN := Lib.hid (HE.out U h1 (HKZ.out.trans h2))
        clear h1 h2
        go_wp2
        go_roundw
        case rel => exact ⟨k + 1, hlt, by go_num, HN⟩
        case measure => simp [intOf]; omega
      have b3 := beq_f h3'
      by_cases h5' : kd = 5
      · subst h5'
        have HE := Lib.hid (fun (Y : World) (h1 : WB g (acc ++ 36 :: 40 :: (t ++ [41])) xb Y) (h2 : Bkept g V Y) => HSTEP.out Y (by rw [outP_5, badP_ok _ _ _ _ (.inr (.inr (.inr rfl))), Bool.or_false]; exact h1) h2)
        have HW := Lib.hid (writeStringW g acc (36 :: 40 :: (t ++ [41])) xb X.drew (HXB.out.below (Below.refl _ _).drew) (by omega) (by simp; omega))
        have HKD := Lib.hid (HKX.out.trans (Bkept.of_below (Below.refl X.heap.size X).drew (Nat.le_of_lt hxg)))
        have hA1 := str_add [36, 40] t (36 :: 40 :: t) rfl (by decide) (by omega)
        have hA2 := str_add (36 :: 40 :: t) [41] (36 :: 40 :: (t ++ [41])) rfl (by simp; omega) (by decide)
        clear HSTEP
        go_wp2_with fail
        rw [← HX.out]
        refine wp_region_still_tail 7 (by kernel_rfl) (by kernel_rfl) ?_
        simp only [List.take_succ_cons, List.take_zero, List.drop_succ_cons, List.drop_zero]
        repeat still_step
        refine wpStill_nil ?_
        change wpList _ _ _ _ _ X.drew
        go_wp2_with fail
        refine HW.out.mono ?_
        rintro e Y ⟨rfl, h1, h2⟩
        have HN := Lib.hid (HE.out Y h1 (HKD.out.trans h2))
        clear h1 h2
        go_wp2
        go_roundw
        case rel => exact ⟨k + 1, hlt, by go_num, HN⟩
        case measure => simp [intOf]; omega
      have b5 := beq_f h5'
      by_cases h6' : kd = 6
      · subst h6'
        have HAP := Lib.hid (show acc ++ 36 :: 40 :: 40 :: (WP.outL 2 false qs ++ [41, 41]) = acc ++ [36, 40, 40] ++ WP.outL 2 false qs ++ [41, 41] by simp)
        have HE := Lib.hid (fun (Y : World) (h1 : WB g (acc ++ [36, 40, 40] ++ WP.outL 2 false qs ++ [41, 41]) (xb || WP.badL qs) Y) (h2 : Bkept g V Y) => HSTEP.out Y (by rw [outP_6, badP_in _ _ _ _ (.inr rfl), HAP.out]; exact h1) h2)
        have HW := Lib.hid (writeStringW g acc [36, 40, 40] xb X HXB.out (by omega) (by decide))
        have HIN := Lib.hid (fun (Y : World) (h1 : WB g (acc ++ [36, 40, 40]) xb Y) (h2 : Bkept g X Y) => HPC.out 2 false Y _ xb h2 h1 (by rw [List.length_append]; simp only [List.length_cons, List.length_nil]; have := HCOST.out; omega))
        have hol := WP.outL_len 2 false qs
        have HFI := Lib.hid (fun (Z : World) (h1 : WB g (acc ++ [36, 40, 40] ++ WP.outL 2 false qs) (xb || WP.badL qs) Z) => writeStringW g _ [41, 41] _ Z h1 (by rw [List.length_append, List.length_append]; simp only [List.length_cons, List.length_nil]; have := HCOST.out; omega) (by decide))
        clear HSTEP
        go_wp2_with fail
        rw [← HX.out]
        refine HW.out.mono ?_
        rintro e Y ⟨rfl, h1, h2⟩
        have hy4 := HNEW.out Y h2
        have HP := Lib.hid (HIN.out Y h1 h2)
        have HKY := Lib.hid (HKX.out.trans h2)
        clear h1 h2
        go_wp2_with fail
        refine HP.out.mono ?_
        rintro e Z ⟨rfl, h1, h2⟩
        have HF := Lib.hid (HFI.out Z h1)
        have HKZ := Lib.hid (HKY.out.trans h2)
        clear h1 h2
        go_wp2_with fail
        refine HF.out.mono ?_
        rintro e U ⟨rfl, h1, h2⟩
        have HN := Lib.hid (HE.out U h1 (HKZ.out.trans h2))
        clear h1 h2
        go_wp2
        go_roundw
        case rel => exact ⟨k + 1, hlt, by go_num, HN⟩
        case measure => simp [intOf]; omega
      have b6 := beq_f h6'
      by_cases h4' : kd = 4
      · subst h4'
        have x0 : X.cell? ⟨wr.heap.size, 0, none⟩ = some (.int .i64 4) := Lib.cell_of_heap HXP.out 0
        have x2 : X.cell? ⟨wr.heap.size, 2, none⟩ = some (.int .i64 o) := Lib.cell_of_heap HXP.out 2
        have x3 : X.cell? ⟨wr.heap.size, 3, none⟩ = some (.bool c) := Lib.cell_of_heap HXP.out 3
        have x4 : X.cell? ⟨wr.heap.size, 4, none⟩ = some (.slice A2 qs.length cap2) := Lib.cell_of_heap HXP.out 4
        have w1 : IntKind.i64.wrap ((k : Int) + 1) = (k : Int) + 1 := IntWalk.i64_in _ (by omega)
        by_cases hk1 : k + 1 < ps.length
        case neg =>
          have hnx : WP.nextB (ps.drop (k + 1)) = 0 := by rw [List.drop_eq_nil_of_le (by omega)]; rfl
          have k1 : ((k : Int) + 1 < (ps.length : Int)) = False := eq_false (by omega)
          have HE := Lib.hid (fun (Y : World) (h1 : WB g (acc ++ outQ pl (0) t o c qs) (xb || badQ o qs) Y) (h2 : Bkept g V Y) => HSTEP.out Y (by rw [outP_4, badP_4, hnx]; exact h1) h2)
          have HW := Lib.hid (parameter_anyW g acc t xb c pl (0) o qs A2 cap2 X HXB.out HCOST.out htl (HPC.out pl true))
          clear HSTEP hnx
          go_wp2_with fail
          rw [← HX.out]
          refine HW.out.mono ?_
          rintro e Y ⟨rfl, h1, h2⟩
          have HN := Lib.hid (HE.out Y h1 (HKX.out.trans h2))
          clear h1 h2
          go_wp2
          go_roundw
          case rel => exact ⟨k + 1, hlt, by go_num, HN⟩
          case measure => simp [intOf]; omega
        case pos =>
          obtain ⟨p2, hp2, hd2⟩ := get_of_lt hk1
          obtain ⟨b2, off2, A3, cap3, hA, -, y0, y1, -, -, -, -⟩ := HGW.out.get hp2
          injection hA with hA
          injection hA with hA1 hA2 _
          subst hA1
          subst hA2
          have k1 : ((k : Int) + 1 < (ps.length : Int)) = True := eq_true (by omega)
          have k2 : ((k : Int) + 1).toNat = k + 1 := by omega
          have k3 : (0 : Int) ≤ (k : Int) + 1 := by omega
          obtain ⟨kd2, t2, o2, c2, qs2⟩ := p2
          dsimp only [WP.GP.kind, WP.GP.text] at y0 y1
          have HD2 := Lib.hid hd2
          clear hp2 hd2
          by_cases hk2 : kd2 = 1
          case neg =>
            have hnx : WP.nextB (ps.drop (k + 1)) = 0 := by
              rw [HD2.out]
              cases t2 with
              | nil => rfl
              | cons z r => show (if kd2 = 1 then _ else _) = _; rw [if_neg hk2]
            have e2 := beq_f hk2
            have HE := Lib.hid (fun (Y : World) (h1 : WB g (acc ++ outQ pl (0) t o c qs) (xb || badQ o qs) Y) (h2 : Bkept g V Y) => HSTEP.out Y (by rw [outP_4, badP_4, hnx]; exact h1) h2)
            have HW := Lib.hid (parameter_anyW g acc t xb c pl (0) o qs A2 cap2 X HXB.out HCOST.out htl (HPC.out pl true))
            clear HSTEP hnx
            go_wp2_with fail
            rw [← HX.out]
            refine HW.out.mono ?_
            rintro e Y ⟨rfl, h1, h2⟩
            have HN := Lib.hid (HE.out Y h1 (HKX.out.trans h2))
            clear h1 h2
            go_wp2
            go_roundw
            case rel => exact ⟨k + 1, hlt, by go_num, HN⟩
            case measure => simp [intOf]; omega
          case pos =>
            subst hk2
            cases t2 with
            | nil =>
              have hnx : WP.nextB (ps.drop (k + 1)) = 0 := by rw [HD2.out]; rfl
              have HE := Lib.hid (fun (Y : World) (h1 : WB g (acc ++ outQ pl (0) t o c qs) (xb || badQ o qs) Y) (h2 : Bkept g V Y) => HSTEP.out Y (by rw [outP_4, badP_4, hnx]; exact h1) h2)
              have HW := Lib.hid (parameter_anyW g acc t xb c pl (0) o qs A2 cap2 X HXB.out HCOST.out htl (HPC.out pl true))
              clear HSTEP hnx
              go_wp2_with fail
              rw [← HX.out]
              refine HW.out.mono ?_
              rintro e Y ⟨rfl, h1, h2⟩
              have HN := Lib.hid (HE.out Y h1 (HKX.out.trans h2))
              clear h1 h2
              go_wp2
              go_roundw
              case rel => exact ⟨k + 1, hlt, by go_num, HN⟩
              case measure => simp [intOf]; omega
            | cons z r =>
              have hnx : WP.nextB (ps.drop (k + 1)) = bt (z :: r) 0 := by rw [HD2.out]; rfl
              have HE := Lib.hid (fun (Y : World) (h1 : WB g (acc ++ outQ pl (bt (z :: r) 0) t o c qs) (xb || badQ o qs) Y) (h2 : Bkept g V Y) => HSTEP.out Y (by rw [outP_4, badP_4, hnx]; exact h1) h2)
              have HW := Lib.hid (parameter_anyW g acc t xb c pl (bt (z :: r) 0) o qs A2 cap2 X HXB.out HCOST.out htl (HPC.out pl true))
              clear HSTEP hnx
              have z0 : 0 < (z :: r).length := by simp
              obtain ⟨tz, htz⟩ : ∃ tz, z :: r = tz := ⟨_, rfl⟩
              have tz0 : ¬ tz = [] := by rw [← htz]; simp
              have tz1 : tz.isEmpty = false := by rw [← htz]; rfl
              rw [htz] at y1 HW HE z0
              clear htz
              go_wp2_with fail
              rw [← HX.out]
              refine HW.out.mono ?_
              rintro e Y ⟨rfl, h1, h2⟩
              have HN := Lib.hid (HE.out Y h1 (HKX.out.trans h2))
              clear h1 h2
              go_wp2
              go_roundw
              case rel => exact ⟨k + 1, hlt, by go_num, HN⟩
              case measure => simp [intOf]; omega
      have b4 := beq_f h4'
      have HE := Lib.hid (fun (Y : World) (h1 : WB g acc true Y) (h2 : Bkept g V Y) => HSTEP.out Y (by rw [outP_other _ _ _ _ _ _ _ h7 h1' h2' h3' h5' h6' h4', badP_other _ _ _ _ h7 h1' h2' h3' h5' h6' h4', Bool.or_true, List.append_nil]; exact h1) h2)
      have f2 : wr.frozen? ⟨g, 2, none⟩ = false := by obtain ⟨q, u, -, hb, -⟩ := HWB.out; exact Lib.frozen_of_heap hb 2
      have c2 : wr.cell? ⟨g, 2, none⟩ = some (.bool xb) := by obtain ⟨q, u, -, hb, -⟩ := HWB.out; exact Lib.cell_of_heap hb 2
      clear HSTEP h7 h1' h2' h3' h5' h6' h4'
      go_wp2
      go_roundw
      case rel => exact ⟨k + 1, hlt, by go_num, Lib.hid (HE.out _ (HWB.out.wrong.1.below (balloc _ _)) (HKW.out.trans (HWB.out.wrong.2.trans (Bkept.of_below (balloc _ _) (Nat.le_of_lt HWB.out.wrong.1.lt)))))⟩
      case measure => simp [intOf]; omega
      -- end of cases
    · have HF := Lib.hid (show acc = OUT ∧ xb = BAD from by
        have h1 := HO.out
        have h2 := HBD.out
        rw [show ps.drop k = [] from List.drop_eq_nil_of_le (by omega)] at h1 h2
        rw [WP.outL, List.append_nil] at h1
        rw [WP.badL, Bool.or_false] at h2
        exact ⟨h1, h2⟩)
      go_wp2
      go_end0
      exact ⟨rfl, by rw [← HF.out.1, ← HF.out.2]; exact HWB.out, HKW.out⟩
end W
end Go.Proofs.YtmgomklpjjkehaaGreat
namespace Go.Proofs.YtmgomklpjjkehaaGreat
open Go.RowKit K
open WP (GP gp gpL)
namespace W
theorem parts_all : ∀ n, PartsN n := by
  intro n
  induction n with
  | zero => intro g w v pl op ps h; exact absurd h (Nat.not_lt_zero _)
  | succ n ih =>
    intro g w v pl op ps h hm hs hG
    exact parts_step ih g w v pl op ps (by omega) hm hs hG
/-- What a plain reading of Parse's outcome says of parts. -/
def sameR (l : List GP) (r : Except WP.Flt (List WP.Part)) : Bool := match r with | .error _ => false | .ok ps => WP.sameL l (gpL ps)
theorem validG_bad {l : List GP} (h : WP.badL l = true) : WP.validG l = ([], false) := by unfold WP.validG; rw [if_pos h]
theorem validG_ok {l : List GP} (h : WP.badL l = false) : WP.validG l = (WP.outL 0 false l, sameR l (WP.parse (WP.outL 0 false l) 0)) := by unfold WP.validG; rw [if_neg (by rw [h]; simp)]; rfl
set_option maxRecDepth 100000 in
set_option maxHeartbeats 8000000 in
theorem valid_any (hB : BrAll) (v : Value) (l : List GP) (w : World) (h : GS w (fun b => b < w.heap.size) v l) (hz : 2 * WP.sizL l + 8 * WP.cntL l ≤ 100000) :
    Calls Tryz.prog 17 #[v] w fun e w' => e = .returned (.tuple #[.string ⟨(WP.validG l).1.toArray⟩, .bool (WP.validG l).2]) ∧ Below w.heap.size w w' := by
  obtain ⟨A, cap, rfl⟩ := h.slice
  have hol := WP.outL_len 0 false l
  obtain ⟨X, hX⟩ : ∃ X, X = w.alloc (.cells #[.pointer none, .slice none 0 0, .bool false] 61) := ⟨_, rfl⟩
  have HWX := Lib.hid (show Below w.heap.size w X by rw [hX]; exact balloc _ _)
  have hxs : w.heap.size < X.heap.size := by rw [hX]; simp
  have HWB := Lib.hid (show WB w.heap.size [] false X from ⟨.pointer none, .slice none 0 0, .inl rfl, by rw [hX]; exact al_new w _, ⟨rfl, .inl ⟨rfl, rfl⟩⟩, fun _ => rfl⟩)
  have HGX := Lib.hid (h.below HWX.out)
  have HP := Lib.hid (parts_all (WP.cntL l + 1) w.heap.size X (.slice A l.length cap) 0 false l (Nat.lt_succ_self _) (by omega) (by omega) HGX.out X [] false (Bkept.refl _ _) HWB.out (by rw [List.length_nil]; omega))
  rw [List.nil_append, Bool.false_or] at HP
  have HX := Lib.hid hX
  obtain ⟨O, hO⟩ : ∃ O, WP.outL 0 false l = O := ⟨_, rfl⟩
  rw [hO] at HP hol
  have HOL := Lib.hid (show O.length ≤ 100000 by omega)
  have HCN := Lib.hid (show WP.cntL l ≤ 1000000 by omega)
  have HBR := Lib.hid hB
  have hln := len_cnt l
  have hl0 : l.length ≤ 100000 := by omega
  cases hb : WP.badL l with
  | true =>
    have HV := Lib.hid (validG_bad hb)
    rw [HV.out]
    rw [hb] at HP
    clear hb hX h hz hol hO hB hln
    go_enter Tryz.func17, Tryz.ntmps17
    go_wp2_with fail
    rw [← HX.out]
    refine HP.out.mono ?_
    rintro e Y ⟨rfl, hwb, hk⟩
    have HY := Lib.hid (HWX.out.trans hk.below)
    obtain ⟨p, u, -, hbl, -⟩ := hwb
    have y2 : Y.cell? ⟨w.heap.size, 2, none⟩ = some (.bool true) := Lib.cell_of_heap hbl 2
    clear hbl hk
    go_wp2
    go_ret2
    exact ⟨rfl, HY.out⟩
  | false =>
    have hvg := validG_ok hb
    rw [hO] at hvg
    rw [hb] at HP
    rw [hvg]
    clear hvg
    have HPS := Lib.hid (fun (Y : World) => Parse_any HBR.out O Y HOL.out)
    obtain ⟨R, hR⟩ : ∃ R, WP.parse O 0 = R := ⟨_, rfl⟩
    have HR := Lib.hid hR
    rw [hR] at HPS ⊢
    clear hb hX h hz hol hO hB hR hln
    dsimp only
    cases R with
    | error f =>
      have hf0 := beq_f (WP.parse_code HR.out)
      rw [show sameR l (.error f) = false from rfl]
      go_enter Tryz.func17, Tryz.ntmps17
      go_wp2_with fail
      rw [← HX.out]
      refine HP.out.mono ?_
      rintro e Y ⟨rfl, hwb, hk⟩
      have HY := Lib.hid (HWX.out.trans hk.below)
      have HST := Lib.hid (stringW w.heap.size O false Y hwb (by have := HOL.out; omega))
      obtain ⟨p, u, -, hbl, -⟩ := hwb
      have y2 : Y.cell? ⟨w.heap.size, 2, none⟩ = some (.bool false) := Lib.cell_of_heap hbl 2
      have HYS := Lib.hid (show w.heap.size ≤ Y.heap.size from (HWX.out.trans hk.below).size)
      clear hbl hk
      go_wp2_with fail
      refine HST.out.mono ?_
      rintro e Z ⟨rfl, hk⟩
      have HZ := Lib.hid (HY.out.trans hk.below)
      clear hk
      go_wp2_with fail
      refine (HPS.out Z).mono ?_
      rintro e U ⟨rfl, hbu⟩
      have HU := Lib.hid (HZ.out.trans (hbu.mono HZ.out.size))
      clear hbu
      go_wp2
      go_ret2
      exact ⟨rfl, HU.out⟩
    | ok ps =>
      have hps0 : (0 : Int) ≤ (ps.length : Int) := by omega
      obtain ⟨S, hS⟩ : ∃ S, sameR l (.ok ps) = S := ⟨_, rfl⟩
      have HS := Lib.hid (show WP.sameL l (gpL ps) = S from hS)
      rw [hS]
      clear hS
      go_enter Tryz.func17, Tryz.ntmps17
      go_wp2_with fail
      rw [← HX.out]
      refine HP.out.mono ?_
      rintro e Y ⟨rfl, hwb, hk⟩
      have HY := Lib.hid (HWX.out.trans hk.below)
      have HGY := Lib.hid (HGX.out.kept hk.below)
      have HST := Lib.hid (stringW w.heap.size O false Y hwb (by have := HOL.out; omega))
      obtain ⟨p, u, -, hbl, -⟩ := hwb
      have y2 : Y.cell? ⟨w.heap.size, 2, none⟩ = some (.bool false) := Lib.cell_of_heap hbl 2
      clear hbl hk
      go_wp2_with fail
      refine HST.out.mono ?_
      rintro e Z ⟨rfl, hk⟩
      have HZ := Lib.hid (HY.out.trans hk.below)
      have HGZ := Lib.hid (HGY.out.kept hk.below)
      clear hk
      go_wp2_with fail
      refine (HPS.out Z).mono ?_
      rintro e U ⟨A2, cap2, rfl, hbu, hrep⟩
      have HU := Lib.hid (HZ.out.trans (hbu.mono HZ.out.size))
      have HSM := Lib.hid (show Calls Tryz.prog 13 #[.slice A l.length cap, .slice A2 ps.length cap2] U fun e w' => e = .returned (.bool S) ∧ Below U.heap.size U w' from by
        have := Same_any l (gpL ps) (.slice A l.length cap) (.slice A2 ps.length cap2) U HCN.out (HGZ.out.up hbu) ((GS.of_rep (cap := cap2) hrep).mono fun b h1 h2 => ⟨h2, rfl⟩)
        rw [HS.out] at this
        exact this)
      clear hbu hrep
      go_wp2_with fail
      refine HSM.out.mono ?_
      rintro e Q ⟨rfl, hq⟩
      have HQ := Lib.hid (HU.out.trans (hq.mono HU.out.size))
      clear hq
      go_wp2
      go_ret2
      exact ⟨rfl, HQ.out⟩
theorem Valid_any (hB : BrAll) (v : Value) (l : List GP) (w : World) (h : GS w (fun b => b < w.heap.size) v l) (hz : 2 * WP.sizL l + 8 * WP.cntL l ≤ 100000) :
    Calls Tryz.prog 8 #[v] w fun e w' => e = .returned (.int .i64 (WP.showG l).2) ∧ Below w.heap.size w w' := by
  obtain ⟨A, cap, rfl⟩ := h.slice
  have HV := Lib.hid (valid_any hB _ l w h hz)
  obtain ⟨⟨s, b⟩, hsb⟩ : ∃ q, WP.validG l = q := ⟨_, rfl⟩
  have hsh : WP.showG l = if b = true then (s, 0) else ([], 1) := by unfold WP.showG; rw [hsb]
  rw [hsb] at HV
  rw [hsh]
  clear h hsb hsh hB
  rcases (show b = true ∨ b = false by cases b <;> simp) with rfl | rfl
  · rw [if_pos rfl]
    go_enter Tryz.func8, Tryz.ntmps8
    go_wp2_with fail
    refine HV.out.mono ?_
    rintro e Y ⟨rfl, hb⟩
    have HB := Lib.hid hb
    clear hb
    go_wp2
    go_ret
    exact ⟨rfl, HB.out⟩
  · rw [if_neg (by simp)]
    go_enter Tryz.func8, Tryz.ntmps8
    go_wp2_with fail
    refine HV.out.mono ?_
    rintro e Y ⟨rfl, hb⟩
    have HB := Lib.hid hb
    clear hb
    go_wp2
    go_ret
    exact ⟨rfl, HB.out⟩
end W
end Go.Proofs.YtmgomklpjjkehaaGreat
namespace Go.Proofs.YtmgomklpjjkehaaGreat
open Go.RowKit K
open WP (GP gp gpL)
namespace W
theorem Show_any (hB : BrAll) (v : Value) (l : List GP) (w : World) (h : GS w (fun b => b < w.heap.size) v l) (hz : 2 * WP.sizL l + 8 * WP.cntL l ≤ 100000) :
    Calls Tryz.prog 6 #[v] w fun e w' => e = .returned (.tuple #[.string ⟨(WP.showG l).1.toArray⟩, .int .i64 (WP.showG l).2]) ∧ Below w.heap.size w w' := by
  obtain ⟨A, cap, rfl⟩ := h.slice
  have HV := Lib.hid (valid_any hB _ l w h hz)
  obtain ⟨⟨s, b⟩, hsb⟩ : ∃ q, WP.validG l = q := ⟨_, rfl⟩
  have hsh : WP.showG l = if b = true then (s, 0) else ([], 1) := by unfold WP.showG; rw [hsb]
  rw [hsb] at HV
  rw [hsh]
  clear h hsb hsh hB
  rcases (show b = true ∨ b = false by cases b <;> simp) with rfl | rfl
  · rw [if_pos rfl]
    go_enter Tryz.func6, Tryz.ntmps6
    go_wp2_with fail
    refine HV.out.mono ?_
    rintro e Y ⟨rfl, hb⟩
    have HB := Lib.hid hb
    clear hb
    go_wp2
    go_ret2
    exact ⟨rfl, HB.out⟩
  · rw [if_neg (by simp)]
    go_enter Tryz.func6, Tryz.ntmps6
    go_wp2_with fail
    refine HV.out.mono ?_
    rintro e Y ⟨rfl, hb⟩
    have HB := Lib.hid hb
    clear hb
    go_wp2
    go_ret2
    exact ⟨rfl, HB.out⟩
end W
end Go.Proofs.YtmgomklpjjkehaaGreat
