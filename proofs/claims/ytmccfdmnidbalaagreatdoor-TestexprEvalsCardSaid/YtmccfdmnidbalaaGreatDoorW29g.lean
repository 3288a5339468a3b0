/- Chapter 29: Clean of files. -/
import Derived.Test.YtmccfdmnidbalaaGreatDoorW29f
import Derived.Test.YtmccfdmnidbalaaGreatDoorP29e
import Derived.Maps.AppendAt
namespace Go.Proofs.YtmccfdmnidbalaaGreatDoor
open Go.RowKit K
namespace P
theorem head_bt {s : List UInt8} (h : s ≠ []) : s.head? = some 47 ↔ bt s 0 = 47 := by
  cases s with
  | nil => exact absurd rfl h
  | cons c r =>
    simp [bt]
    constructor
    · rintro rfl; rfl
    · intro h; exact UInt8.toNat_inj.1 (by have : (47 : UInt8).toNat = 47 := rfl; omega)
theorem joinTail_len (sep : List UInt8) : ∀ r : List (List UInt8), (∀ x ∈ r, x.length ≤ 32) → (Lib.joinTail sep r).length ≤ (sep.length + 32) * r.length
  | [], _ => by simp [Lib.joinTail]
  | x :: r, h => by
    have ih := joinTail_len sep r (fun y hy => h y (List.mem_cons_of_mem _ hy))
    have hx := h x (by simp)
    unfold Lib.joinTail at ih ⊢
    rw [List.map_cons, List.flatten_cons, List.length_append, List.length_append, List.length_cons, Nat.mul_add]
    omega
theorem join_len {r : List (List UInt8)} (h : r.all nameB = true) : (Lib.join r [47]).length ≤ 33 * r.length := by
  cases r with
  | nil => simp [Lib.join]
  | cons x r =>
    have hx : ∀ y ∈ x :: r, y.length ≤ 32 := by
      intro y hy
      have := (List.all_eq_true.1 h) y hy
      unfold nameB at this
      simp only [Bool.and_eq_true, decide_eq_true_eq] at this
      exact this.1.1.1.2
    have h1 := joinTail_len [47] r (fun y hy => hx y (List.mem_cons_of_mem _ hy))
    have h2 := hx x (by simp)
    rw [Lib.join_cons, List.length_append, List.length_cons]
    simp at h1
    omega
/-- What the loop of Clean finds from the piece k on. -/
def cleanAt (ns ls : List (List UInt8)) (k : Nat) : Option (List (List UInt8)) := cleanN ns (ls.drop k)
theorem cleanAt_step {ns ls : List (List UInt8)} {k : Nat} {s : List UInt8} (h : k < ls.length) (hs : ls.getD k [] = s) : cleanAt ns ls k = match stepN ns s with | none => none | some n => cleanAt n ls (k + 1) := by
  unfold cleanAt
  rw [List.drop_eq_getElem_cons h]
  rw [List.getD_eq_getElem?_getD, List.getElem?_eq_getElem h] at hs
  simp only [Option.getD_some] at hs
  rw [hs, cleanN]
  cases stepN ns s <;> rfl
def fin (o : Option (List (List UInt8))) : Option (List UInt8) := match o with
  | none => none
  | some ns => if 128 < (showN ns).length then none else some (showN ns)
theorem cleanO_fin {cwd path : List UInt8} (h1 : pathB cwd = true) (h2 : path ≠ []) : cleanO cwd path = fin (cleanAt (start cwd path) (split47 path) 0) := by
  unfold cleanO
  rw [if_neg (by rw [h1]; simp), if_neg h2]
  rfl
end P
namespace K
theorem own_drop {w : World} {base : Nat} {e : TypeId} {g n cap : Nat} {ns : List (List UInt8)} (h : w.ownsRow base e 1 (.slice (some ⟨g, 0, none⟩) n cap) n (ns.map fun s => .string ⟨s.toArray⟩)) : w.ownsRow base e 1 (.slice (some ⟨g, 0, none⟩) (n - 1) cap) ns.dropLast.length (ns.dropLast.map fun s => .string ⟨s.toArray⟩) := by
  have hn : ns.length = n := by have := h.1; simpa using this
  rcases h.2 with ⟨hv, _⟩ | ⟨g', cap', cur, hv, hg, hh, h1, h2, h3, h4⟩
  · cases hv
  · injection hv with hv1 _ hv3
    subst hv3
    have e1 : ns.dropLast.length = n - 1 := by rw [List.length_dropLast, hn]
    refine ⟨by simp, .inr ⟨g', cap, cur, by rw [e1, hv1], hg, hh, by omega, h2, h3, ?_⟩⟩
    have e2 : cur.toList.take ((n - 1) * 1) = (cur.toList.take (n * 1)).take (n - 1) := by rw [List.take_take]; congr 1; omega
    rw [e1, e2, h4, List.map_dropLast, List.dropLast_eq_take, List.length_map, hn]
theorem own_cases {w : World} {base : Nat} {e : TypeId} {v : Value} {n : Nat} {xs : List Value} (h : w.ownsRow base e 1 v n xs) : (v = .slice none 0 0 ∧ n = 0) ∨ ∃ g cap, v = .slice (some ⟨g, 0, none⟩) n cap ∧ n ≤ cap ∧ cap ≤ 9223372036854775807 ∧ g < w.heap.size := by
  rcases h.2 with h | ⟨g, cap, cur, hv, hg, hh, h1, h2, _⟩
  · exact .inl h
  · exact .inr ⟨g, cap, hv, h1, by unfold maxLen at h2; exact h2, (Array.getElem?_eq_some_iff.1 hh).1⟩
end K
namespace W
theorem info_parts {t : TypeId} {z : Value} {s b : Nat} (h : (Tryz.prog.info? t).map (fun i => (i.zero, i.size, i.bytes)) = some (some z, s, b)) : ∃ i, Tryz.prog.info? t = some i ∧ i.zero = some z ∧ i.size = s ∧ i.bytes = b := by
  obtain ⟨i, hi, he⟩ := Option.map_eq_some_iff.1 h
  simp only [Prod.mk.injEq] at he
  exact ⟨i, hi, he.1, he.2.1, he.2.2⟩
theorem infoStr : (Tryz.prog.info? 9).map (fun i => (i.zero, i.size, i.bytes)) = some (some (.string ⟨#[]⟩), 1, 16) := by kernel_rfl
/-- Split, with the world that it leaves. -/
theorem Split_w (s : List UInt8) (w : World) (hl : s.length ≤ 1000000) (hw : Env w) :
    Calls Tryz.prog 49 #[.string ⟨s.toArray⟩, .string ⟨#[47]⟩] w fun e w' => e = .returned (.slice (some ⟨w.heap.size, 0, none⟩) (P.split47 s).length (P.split47 s).length) ∧ w' = w.alloc (.cells ((P.split47 s).map fun s => .string ⟨s.toArray⟩).toArray 9) := by
  obtain ⟨m, hm⟩ := hw.maxlen
  refine (Tryz.strings_Split ⟨s.toArray⟩ ⟨#[47]⟩ m _ (by simp [ByteArray.size]; omega) hm (by decide)).mono ?_
  rintro e w1 ⟨rfl, rfl⟩
  rw [P.splitB_sl, P.countB_sl, List.map_map]
  exact ⟨rfl, rfl⟩
theorem Join_any (v : Value) (ns : List (List UInt8)) (base : Nat) (w : World) (ho : w.ownsRow base 9 1 v ns.length (ns.map fun s => .string ⟨s.toArray⟩)) (hn : ns.length ≤ 3000000) (ha : ns.all P.nameB = true) :
    Calls Tryz.prog 51 #[v, .string ⟨#[47]⟩] w fun e w' => e = .returned (.string ⟨(Lib.join ns [47]).toArray⟩) ∧ Below w.heap.size w w' := by
  have hjl := P.join_len ha
  by_cases h0 : ns = []
  · subst h0
    rcases own_cases ho with ⟨rfl, -⟩ | ⟨g, cap, rfl, -, -, -⟩
    · exact (Tryz.strings_Join_none none 0 ⟨#[47]⟩ w).mono fun e w' ⟨h1, h2⟩ => ⟨h1, by rw [h2]; exact Below.refl _ _⟩
    · exact (Tryz.strings_Join_none (some ⟨g, 0, none⟩) cap ⟨#[47]⟩ w).mono fun e w' ⟨h1, h2⟩ => ⟨h1, by rw [h2]; exact Below.refl _ _⟩
  · rcases own_cases ho with ⟨-, h1⟩ | ⟨g, cap, rfl, hcap, -, hg⟩
    · exact absurd (List.eq_nil_of_length_eq_zero h1) h0
    · have hm : (ns.map fun s => (⟨s.toArray⟩ : ByteArray)).map (·.data.toList) = ns := by simp [Function.comp_def]
      have hSL := SL.own ho
      have := Tryz.strings_Join g 0 cap (ns.map fun s => (⟨s.toArray⟩ : ByteArray)) ⟨#[47]⟩ w (fun j x hx => ?_) hg (by simp; omega) (by simpa using hcap) (by rw [hm]; show (Lib.join ns [47]).length ≤ _; omega)
      · rw [hm, List.length_map] at this
        exact this
      · have hj : j < ns.length := by have := (List.getElem?_eq_some_iff.1 hx).1; simpa using this
        obtain ⟨b, off, hbo, _, hc⟩ := hSL.get hj
        simp at hbo
        obtain ⟨rfl, rfl⟩ := hbo
        rw [hc]
        simp [hj] at hx
        rw [← hx]
        simp [List.getD_eq_getElem?_getD, hj]
/-- A path, or an error. -/
def CPost (w : World) (o : Option (List UInt8)) (e : Ending) (w' : World) : Prop := ∃ z : Int, e = .returned (.tuple #[.string ⟨(o.getD []).toArray⟩, .int .i64 z]) ∧ (z = 0 ↔ o.isSome = true) ∧ Below w.heap.size w w'
set_option maxHeartbeats 4000000 in
set_option maxRecDepth 100000 in
theorem Clean_of (cwd path : List UInt8) (w : World) (hl1 : cwd.length ≤ 1000000) (hl2 : path.length ≤ 1000000) (HN1 : ∀ x ∈ P.split47 (cwd.drop 1), NameOK x) (HN2 : ∀ x ∈ P.split47 path, NameOK x) (hw : Env w) :
    Calls Tryz.prog 40 #[.string ⟨cwd.toArray⟩, .string ⟨path.toArray⟩] w (CPost w (P.cleanO cwd path)) := by
  obtain ⟨i0, hi, hz0, hz1, hz2⟩ := info_parts infoStr
  have HE := Lib.hid hw
  have HIP := Lib.hid (isPath_of cwd w hl1 HN1 hw)
  obtain ⟨R, hR⟩ : ∃ R, P.cleanO cwd path = R := ⟨_, rfl⟩
  rw [hR]
  have HRR := Lib.hid hR
  clear hR HN1 hw
  cases hp : P.pathB cwd with
  | false =>
    rw [hp] at HIP
    have HF := Lib.hid (show R = none by rw [← HRR.out]; unfold P.cleanO; rw [if_pos hp])
    clear hp HN2
    go_enter Tryz.func40, Tryz.ntmps40
    go_wp2_with fail
    refine HIP.out.mono ?_
    rintro e w1 ⟨rfl, hb1⟩
    have HB1 := Lib.hid hb1
    clear hb1
    go_wp2
    refine bodyPost_ret (v := .tuple #[.string ⟨#[]⟩, .int .i64 10]) (by simp [results, Tryz.results40, go_sem]) rfl ⟨10, by rw [HF.out]; rfl, by rw [HF.out]; simp, HB1.out⟩
  | true =>
    rw [hp] at HIP
    by_cases h0 : path = []
    · subst h0
      have HF := Lib.hid (show R = none by rw [← HRR.out]; unfold P.cleanO; rw [if_neg (by rw [hp]; simp), if_pos rfl])
      clear hp HN2
      go_enter Tryz.func40, Tryz.ntmps40
      go_wp2_with fail
      refine HIP.out.mono ?_
      rintro e w1 ⟨rfl, hb1⟩
      have HB1 := Lib.hid hb1
      clear hb1
      go_wp2
      refine bodyPost_ret (v := .tuple #[.string ⟨#[]⟩, .int .i64 8]) (by simp [results, Tryz.results40, go_sem]) rfl ⟨8, by rw [HF.out]; rfl, by rw [HF.out]; simp, HB1.out⟩
    · have hemp : path.isEmpty = false := by cases path; exact absurd rfl h0; rfl
      have hpos : (0 : Int) < (path.length : Int) := by cases path; exact absurd rfl h0; simp
      have HR0 := Lib.hid (show P.fin (P.cleanAt (P.start cwd path) (P.split47 path) 0) = R by rw [← HRR.out]; exact (P.cleanO_fin hp h0).symm)
      have HSP := Lib.hid (fun w hw => Split_w path w hl2 hw)
      have hlen := P.split47_len path
      have HST := Lib.hid (show P.start cwd path = if path.head? = some 47 ∨ cwd = [47] then [] else P.split47 (cwd.drop 1) from rfl)
      have hhb := P.head_bt h0
      have HN := Lib.hid HN2
      generalize P.split47 path = ls at *
      have hll : ls.length ≤ 1000001 := by omega
      clear HN2 hlen
      by_cases hh : path.head? = some 47
      · have hb47 : (bt path 0 != 47) = false := by have := hhb.1 hh; simpa using this
        rw [HST.out, if_pos (.inl hh)] at HR0
        clear hh hhb hp HRR HST h0
        go_enter Tryz.func40, Tryz.ntmps40
        go_wp2_with fail
        refine HIP.out.mono ?_
        rintro e w1 ⟨rfl, hb1⟩
        have HB1 := Lib.hid hb1
        clear hb1
        go_wp2_with fail
        refine (HSP.out _ (HE.out.below HB1.out)).mono ?_
        rintro e wq ⟨rfl, hwq⟩
        have HPC := Lib.hid (show wq.heap[w1.heap.size]? = some (.cells (ls.map fun s => Value.string ⟨s.toArray⟩).toArray 9 (0, 0)) by rw [hwq]; exact heap_alloc_new _ _)
        have HBq := Lib.hid (show Below w.heap.size w wq by rw [hwq]; exact (HB1.out).alloc (HB1.out).size _)
        have HOq := Lib.hid (show wq.ownsRow w.heap.size 9 1 (Value.slice none 0 0) (([] : List (List UInt8))).length ((([] : List (List UInt8))).map fun s => .string ⟨s.toArray⟩) by rw [hwq]; exact (World.ownsRow_nil w1 w.heap.size 9 1).alloc _)
        have HPL := Lib.hid (show w1.heap.size < wq.heap.size by rw [hwq]; simp)
        have HPW := Lib.hid (show w.heap.size ≤ w1.heap.size from (HB1.out).size)
        have HPN := Lib.hid (show (Value.slice none 0 0).ownBlock ≠ some w1.heap.size from fun e => by have := ((World.ownsRow_nil w1 w.heap.size 9 1).lt _ e).2; omega)
        obtain ⟨gP, hgP⟩ : ∃ gP, w1.heap.size = gP := ⟨_, rfl⟩
        rw [hgP] at HPC HPL HPN HPW ⊢
        obtain ⟨yq, hyq⟩ : ∃ y, y = wq := ⟨_, rfl⟩
        rw [← hyq] at HPC HBq HOq HPL
        clear hwq hgP
        go_wp2
        rw [← hyq]
        clear hyq
        go_loopw [6, 30] (fun nv i wr => ∃ (k : Nat) (ns : List (List UInt8)), k ≤ ls.length ∧ i = .int .i64 k ∧ ns.length ≤ 1000001 + k ∧ wr.ownsRow w.heap.size 9 1 nv ns.length (ns.map fun s => .string ⟨s.toArray⟩) ∧ nv.ownBlock ≠ some gP ∧ gP < wr.heap.size ∧ wr.heap[gP]? = some (.cells (ls.map fun s => Value.string ⟨s.toArray⟩).toArray 9 (0, 0)) ∧ Below w.heap.size w wr ∧ Hid (ns.all P.nameB = true) ∧ Hid (P.fin (P.cleanAt ns ls k) = R)) (fun _ i _ => ls.length - (intOf i).toNat)
        case atStart => exact ⟨0, ([] : List (List UInt8)), by omega, rfl, by simp, HOq.out, HPN.out, HPL.out, HPC.out, HBq.out, Lib.hid rfl, HR0.out⟩
        case round =>
          obtain ⟨k, ns, hk, rfl, hnl, hown, hnb, hgl, hpc, hbw, HNA, HK⟩ := hrel
          have HBw := Lib.hid hbw
          have HOw := Lib.hid hown
          by_cases hlt : k < ls.length
          · have hc : wr.cell? ⟨gP, k, none⟩ = some (.string ⟨(ls.getD k []).toArray⟩) := by
              rw [Lib.cell_of_heap hpc]
              simp [hlt, List.getD_eq_getElem?_getD]
            obtain ⟨s, hs⟩ : ∃ s, ls.getD k [] = s := ⟨_, rfl⟩
            have hmem : s ∈ ls := by rw [← hs, List.getD_eq_getElem?_getD, List.getElem?_eq_getElem hlt]; exact List.getElem_mem hlt
            have HC := Lib.hid (HN.out s hmem wr)
            have HSTEP := Lib.hid (P.cleanAt_step (ns := ns) hlt hs)
            rw [hs] at hc
            have k0 : (0 : Int) ≤ (k : Int) := by omega
            have k1 : (k : Int) < (ls.length : Int) := by omega
            have HPCw := Lib.hid hpc
            clear hmem hs hbw hpc
            by_cases s0 : s = [] ∨ s = [46]
            · have HF := Lib.hid (show P.fin (P.cleanAt ns ls (k + 1)) = R by rw [← HK.out, HSTEP.out]; unfold P.stepN; rw [if_pos s0])
              clear hown
              rcases s0 with s0 | s0
              all_goals
                subst s0
                go_wp2
                go_roundw
                case rel => exact ⟨k + 1, ns, by omega, by go_num, by omega, HOw.out, hnb, hgl, HPCw.out, HBw.out, HNA, HF.out⟩
                case measure => simp [intOf]; omega
            · have q1 : s.isEmpty = false := by cases s; exact absurd (.inl rfl) s0; rfl
              have q2 : (s == [46]) = false := by simpa using fun h => s0 (.inr h)
              by_cases s1 : s = [46, 46]
              · have HF := Lib.hid (show P.fin (P.cleanAt ns.dropLast ls (k + 1)) = R by rw [← HK.out, HSTEP.out]; unfold P.stepN; rw [if_neg s0, if_pos s1])
                have HDA := Lib.hid (show ns.dropLast.all P.nameB = true by have := HNA.out; rw [List.all_eq_true] at this ⊢; exact fun x hx => this x (List.dropLast_subset _ hx))
                subst s1
                rcases own_cases hown with ⟨hv, hn0⟩ | ⟨g, cap, hv, hcap1, hcap2, hgg⟩
                · subst hv
                  have hns : ns = [] := List.eq_nil_of_length_eq_zero hn0
                  subst hns
                  clear hown s0
                  go_wp2
                  go_roundw
                  case rel => exact ⟨k + 1, [], by omega, by go_num, by simp, World.ownsRow_nil _ _ _ _, by simp [Value.ownBlock], hgl, HPCw.out, HBw.out, HDA, HF.out⟩
                  case measure => simp [intOf]; omega
                · subst hv
                  have HOD := Lib.hid (own_drop hown)
                  have hmx : max ((ns.length : Int) - 1) 0 = ((ns.length - 1 : Nat) : Int) := by omega
                  have hx1 : ((ns.length - 1 : Nat) : Int) ≤ (cap : Int) := by omega
                  have hx0 : (0 : Int) ≤ ((ns.length - 1 : Nat) : Int) := by omega
                  have hdl : ns.dropLast.length = ns.length - 1 := List.length_dropLast
                  have HDL := Lib.hid hdl
                  clear hown s0 hdl
                  generalize ns.length - 1 = n1 at *
                  go_wp2
                  go_roundw
                  case rel => exact ⟨k + 1, ns.dropLast, by omega, by go_num, by rw [HDL.out]; omega, HOD.out, hnb, hgl, HPCw.out, HBw.out, HDA, HF.out⟩
                  case measure => simp [intOf]; omega
              · have q3 : (s == [46, 46]) = false := by simpa using s1
                cases hnm : P.nameB s with
                | false =>
                  rw [hnm] at HC
                  have HF := Lib.hid (show R = none by rw [← HK.out, HSTEP.out]; unfold P.stepN; rw [if_neg s0, if_neg s1, if_neg (by rw [hnm]; simp)]; rfl)
                  clear hown s0 s1 hnm
                  go_wp2_with fail
                  refine HC.out.mono ?_
                  rintro e w3 ⟨rfl, hb3⟩
                  have HB3 := Lib.hid (btr HBw.out hb3)
                  clear hb3
                  go_wp2
                  refine bodyPost_ret (v := .tuple #[.string ⟨#[]⟩, .int .i64 10]) (by simp [results, Tryz.results40, go_sem]) rfl ⟨10, by rw [HF.out]; rfl, by rw [HF.out]; simp, HB3.out⟩
                | true =>
                  rw [hnm] at HC
                  have HF := Lib.hid (show P.fin (P.cleanAt (ns ++ [s]) ls (k + 1)) = R by rw [← HK.out, HSTEP.out]; unfold P.stepN; rw [if_neg s0, if_neg s1, if_pos hnm])
                  have HSA := Lib.hid (show (ns ++ [s]).all P.nameB = true by rw [List.all_append, HNA.out]; simpa using hnm)
                  have HSN := Lib.hid (show (ns.map fun s => Value.string ⟨s.toArray⟩) ++ [Value.string ⟨s.toArray⟩] = (ns ++ [s]).map fun s => Value.string ⟨s.toArray⟩ by simp)
                  clear s0 s1 hnm
                  go_wp2_with fail
                  refine HC.out.mono ?_
                  rintro e w3 ⟨rfl, hb3⟩
                  have hown3 := own_below hown hb3
                  have HO3 := Lib.hid hown3
                  have HB3 := Lib.hid (btr HBw.out hb3)
                  have hsz3 := HB3.out.size
                  have HPC3 := Lib.hid ((hb3.block gP hgl).trans HPCw.out)
                  have HGL3 := Lib.hid (Nat.lt_of_lt_of_le hgl hb3.size)
                  clear hown hb3
                  go_wp2_with (at_builtin; refine wpList_append_own_at _ rfl _ _ 22 rfl w.heap.size 9 i0 (.string ⟨#[]⟩) 1 16 Tryz.underlying22 hi hz0 hz1 hz2 rfl (by decide) _ _ _ rfl (hown3.alloc _) ⟨w3.heap.size, 0, none⟩ 1 1 [.string _] rfl rfl (one_cells w3 _ _) (one_str _) (by unfold maxLen; omega) (by omega) (by simp; omega) ?_)
                  intro v4 w4 hown4 hgrow4 _ hblk
                  have HB4 := Lib.hid (show Below w.heap.size w w4 from (HB3.out.alloc HB3.out.size _).grown hgrow4 (by simp; omega) (fun k hk => (HO3.out.lt k hk).1))
                  rw [HSN.out] at hown4
                  have HO4 := Lib.hid hown4
                  have HNB4 := Lib.hid (show v4.ownBlock ≠ some gP by
                    rcases hblk with h | h
                    · rw [h]; exact hnb
                    · rw [h]; intro e; have e2 := Option.some.inj e; have h3 := HGL3.out; have h4 : (w3.alloc (.cells #[.string ⟨s.toArray⟩] 9)).heap.size = w3.heap.size + 1 := by simp
                      omega)
                  have HPC4 := Lib.hid (show w4.heap[gP]? = some (.cells (ls.map fun s => Value.string ⟨s.toArray⟩).toArray 9 (0, 0)) by
                    have hl3 := HGL3.out
                    exact (hgrow4.block gP (by simp; omega) (fun e => hnb e.symm)).trans ((Below.heap_alloc w3 _ gP hl3).trans HPC3.out))
                  have HGL4 := Lib.hid (show gP < w4.heap.size by have h1 := HGL3.out; have h2 := hgrow4.size; simp at h2; omega)
                  clear hown3 hown4 hgrow4 hblk
                  go_wp2
                  go_roundw
                  case rel => exact ⟨k + 1, ns ++ [s], by omega, by go_num, by simp; omega, by simpa using HO4.out, HNB4.out, HGL4.out, HPC4.out, HB4.out, HSA, HF.out⟩
                  case measure => simp [intOf]; omega
          · have HG := Lib.hid (show R = if 128 < (P.showN ns).length then none else some (P.showN ns) by rw [← HK.out]; unfold P.cleanAt; rw [List.drop_eq_nil_of_le (by omega)]; rfl)
            have HJ := Lib.hid (Join_any u6 ns w.heap.size wr hown (by omega) HNA.out)
            have hjl := P.join_len HNA.out
            have HSH := Lib.hid (show P.showN ns = 47 :: Lib.join ns [47] from rfl)
            generalize P.showN ns = sh at HG HSH
            generalize Lib.join ns [47] = J at *
            have hcv : (∃ c, u6 = .slice none 0 c) ∨ ∃ g cap, u6 = .slice (some ⟨g, 0, none⟩) ns.length cap := by
              rcases own_cases hown with ⟨h, _⟩ | ⟨g, cap, h, _⟩
              · exact .inl ⟨0, h⟩
              · exact .inr ⟨g, cap, h⟩
            clear hown hbw hpc hnb
            by_cases hj : 128 < J.length + 1
            · have g1 : ((128 : Int) < (J.length : Int) + 1) = True := eq_true (by omega)
              have HF := Lib.hid (show R = none by rw [HG.out, HSH.out, if_pos (by simpa using hj)])
              rcases hcv with ⟨c, rfl⟩ | ⟨g, cap, rfl⟩
              all_goals
                go_wp2_with fail
                refine HJ.out.mono ?_
                rintro e w3 ⟨rfl, hb3⟩
                have HB3 := Lib.hid (btr HBw.out hb3)
                clear hb3
                go_wp2
                refine bodyPost_ret (v := .tuple #[.string ⟨#[]⟩, .int .i64 3]) (by simp [results, Tryz.results40, go_sem]) rfl ⟨3, by rw [HF.out]; rfl, by rw [HF.out]; simp, HB3.out⟩
            · have g1 : ((128 : Int) < (J.length : Int) + 1) = False := eq_false (by omega)
              have HF := Lib.hid (show R = some (47 :: J) by rw [HG.out, HSH.out, if_neg (by simpa using hj)])
              rcases hcv with ⟨c, rfl⟩ | ⟨g, cap, rfl⟩
              all_goals
                go_wp2_with fail
                refine HJ.out.mono ?_
                rintro e w3 ⟨rfl, hb3⟩
                have HB3 := Lib.hid (btr HBw.out hb3)
                clear hb3
                go_wp2
                refine bodyPost_ret (v := .tuple #[.string ⟨(47 :: J).toArray⟩, .int .i64 0]) (by simp [results, Tryz.results40, go_sem]) rfl ⟨0, by rw [HF.out]; rfl, by rw [HF.out]; simp, HB3.out⟩
      · have hb47 : (bt path 0 != 47) = true := by have := fun h => hh (hhb.2 h); simpa using this
        by_cases hc : cwd = [47]
        · rw [HST.out, if_pos (.inr hc)] at HR0
          subst hc
          clear hh hhb hp HRR HST h0
          go_enter Tryz.func40, Tryz.ntmps40
          go_wp2_with fail
          refine HIP.out.mono ?_
          rintro e w1 ⟨rfl, hb1⟩
          have HB1 := Lib.hid hb1
          clear hb1
          go_wp2_with fail
          refine (HSP.out _ (HE.out.below HB1.out)).mono ?_
          rintro e wq ⟨rfl, hwq⟩
          have HPC := Lib.hid (show wq.heap[w1.heap.size]? = some (.cells (ls.map fun s => Value.string ⟨s.toArray⟩).toArray 9 (0, 0)) by rw [hwq]; exact heap_alloc_new _ _)
          have HBq := Lib.hid (show Below w.heap.size w wq by rw [hwq]; exact (HB1.out).alloc (HB1.out).size _)
          have HOq := Lib.hid (show wq.ownsRow w.heap.size 9 1 (Value.slice none 0 0) (([] : List (List UInt8))).length ((([] : List (List UInt8))).map fun s => .string ⟨s.toArray⟩) by rw [hwq]; exact (World.ownsRow_nil w1 w.heap.size 9 1).alloc _)
          have HPL := Lib.hid (show w1.heap.size < wq.heap.size by rw [hwq]; simp)
          have HPW := Lib.hid (show w.heap.size ≤ w1.heap.size from (HB1.out).size)
          have HPN := Lib.hid (show (Value.slice none 0 0).ownBlock ≠ some w1.heap.size from fun e => by have := ((World.ownsRow_nil w1 w.heap.size 9 1).lt _ e).2; omega)
          obtain ⟨gP, hgP⟩ : ∃ gP, w1.heap.size = gP := ⟨_, rfl⟩
          rw [hgP] at HPC HPL HPN HPW ⊢
          obtain ⟨yq, hyq⟩ : ∃ y, y = wq := ⟨_, rfl⟩
          rw [← hyq] at HPC HBq HOq HPL
          clear hwq hgP
          go_wp2
          rw [← hyq]
          clear hyq
          go_loopw [6, 30] (fun nv i wr => ∃ (k : Nat) (ns : List (List UInt8)), k ≤ ls.length ∧ i = .int .i64 k ∧ ns.length ≤ 1000001 + k ∧ wr.ownsRow w.heap.size 9 1 nv ns.length (ns.map fun s => .string ⟨s.toArray⟩) ∧ nv.ownBlock ≠ some gP ∧ gP < wr.heap.size ∧ wr.heap[gP]? = some (.cells (ls.map fun s => Value.string ⟨s.toArray⟩).toArray 9 (0, 0)) ∧ Below w.heap.size w wr ∧ Hid (ns.all P.nameB = true) ∧ Hid (P.fin (P.cleanAt ns ls k) = R)) (fun _ i _ => ls.length - (intOf i).toNat)
          case atStart => exact ⟨0, ([] : List (List UInt8)), by omega, rfl, by simp, HOq.out, HPN.out, HPL.out, HPC.out, HBq.out, Lib.hid rfl, HR0.out⟩
          case round =>
            obtain ⟨k, ns, hk, rfl, hnl, hown, hnb, hgl, hpc, hbw, HNA, HK⟩ := hrel
            have HBw := Lib.hid hbw
            have HOw := Lib.hid hown
            by_cases hlt : k < ls.length
            · have hc : wr.cell? ⟨gP, k, none⟩ = some (.string ⟨(ls.getD k []).toArray⟩) := by
                rw [Lib.cell_of_heap hpc]
                simp [hlt, List.getD_eq_getElem?_getD]
              obtain ⟨s, hs⟩ : ∃ s, ls.getD k [] = s := ⟨_, rfl⟩
              have hmem : s ∈ ls := by rw [← hs, List.getD_eq_getElem?_getD, List.getElem?_eq_getElem hlt]; exact List.getElem_mem hlt
              have HC := Lib.hid (HN.out s hmem wr)
              have HSTEP := Lib.hid (P.cleanAt_step (ns := ns) hlt hs)
              rw [hs] at hc
              have k0 : (0 : Int) ≤ (k : Int) := by omega
              have k1 : (k : Int) < (ls.length : Int) := by omega
              have HPCw := Lib.hid hpc
              clear hmem hs hbw hpc
              by_cases s0 : s = [] ∨ s = [46]
              · have HF := Lib.hid (show P.fin (P.cleanAt ns ls (k + 1)) = R by rw [← HK.out, HSTEP.out]; unfold P.stepN; rw [if_pos s0])
                clear hown
                rcases s0 with s0 | s0
                all_goals
                  subst s0
                  go_wp2
                  go_roundw
                  case rel => exact ⟨k + 1, ns, by omega, by go_num, by omega, HOw.out, hnb, hgl, HPCw.out, HBw.out, HNA, HF.out⟩
                  case measure => simp [intOf]; omega
              · have q1 : s.isEmpty = false := by cases s; exact absurd (.inl rfl) s0; rfl
                have q2 : (s == [46]) = false := by simpa using fun h => s0 (.inr h)
                by_cases s1 : s = [46, 46]
                · have HF := Lib.hid (show P.fin (P.cleanAt ns.dropLast ls (k + 1)) = R by rw [← HK.out, HSTEP.out]; unfold P.stepN; rw [if_neg s0, if_pos s1])
                  have HDA := Lib.hid (show ns.dropLast.all P.nameB = true by have := HNA.out; rw [List.all_eq_true] at this ⊢; exact fun x hx => this x (List.dropLast_subset _ hx))
                  subst s1
                  rcases own_cases hown with ⟨hv, hn0⟩ | ⟨g, cap, hv, hcap1, hcap2, hgg⟩
                  · subst hv
                    have hns : ns = [] := List.eq_nil_of_length_eq_zero hn0
                    subst hns
                    clear hown s0
                    go_wp2
                    go_roundw
                    case rel => exact ⟨k + 1, [], by omega, by go_num, by simp, World.ownsRow_nil _ _ _ _, by simp [Value.ownBlock], hgl, HPCw.out, HBw.out, HDA, HF.out⟩
                    case measure => simp [intOf]; omega
                  · subst hv
                    have HOD := Lib.hid (own_drop hown)
                    have hmx : max ((ns.length : Int) - 1) 0 = ((ns.length - 1 : Nat) : Int) := by omega
                    have hx1 : ((ns.length - 1 : Nat) : Int) ≤ (cap : Int) := by omega
                    have hx0 : (0 : Int) ≤ ((ns.length - 1 : Nat) : Int) := by omega
                    have hdl : ns.dropLast.length = ns.length - 1 := List.length_dropLast
                    have HDL := Lib.hid hdl
                    clear hown s0 hdl
                    generalize ns.length - 1 = n1 at *
                    go_wp2
                    go_roundw
                    case rel => exact ⟨k + 1, ns.dropLast, by omega, by go_num, by rw [HDL.out]; omega, HOD.out, hnb, hgl, HPCw.out, HBw.out, HDA, HF.out⟩
                    case measure => simp [intOf]; omega
                · have q3 : (s == [46, 46]) = false := by simpa using s1
                  cases hnm : P.nameB s with
                  | false =>
                    rw [hnm] at HC
                    have HF := Lib.hid (show R = none by rw [← HK.out, HSTEP.out]; unfold P.stepN; rw [if_neg s0, if_neg s1, if_neg (by rw [hnm]; simp)]; rfl)
                    clear hown s0 s1 hnm
                    go_wp2_with fail
                    refine HC.out.mono ?_
                    rintro e w3 ⟨rfl, hb3⟩
                    have HB3 := Lib.hid (btr HBw.out hb3)
                    clear hb3
                    go_wp2
                    refine bodyPost_ret (v := .tuple #[.string ⟨#[]⟩, .int .i64 10]) (by simp [results, Tryz.results40, go_sem]) rfl ⟨10, by rw [HF.out]; rfl, by rw [HF.out]; simp, HB3.out⟩
                  | true =>
                    rw [hnm] at HC
                    have HF := Lib.hid (show P.fin (P.cleanAt (ns ++ [s]) ls (k + 1)) = R by rw [← HK.out, HSTEP.out]; unfold P.stepN; rw [if_neg s0, if_neg s1, if_pos hnm])
                    have HSA := Lib.hid (show (ns ++ [s]).all P.nameB = true by rw [List.all_append, HNA.out]; simpa using hnm)
                    have HSN := Lib.hid (show (ns.map fun s => Value.string ⟨s.toArray⟩) ++ [Value.string ⟨s.toArray⟩] = (ns ++ [s]).map fun s => Value.string ⟨s.toArray⟩ by simp)
                    clear s0 s1 hnm
                    go_wp2_with fail
                    refine HC.out.mono ?_
                    rintro e w3 ⟨rfl, hb3⟩
                    have hown3 := own_below hown hb3
                    have HO3 := Lib.hid hown3
                    have HB3 := Lib.hid (btr HBw.out hb3)
                    have hsz3 := HB3.out.size
                    have HPC3 := Lib.hid ((hb3.block gP hgl).trans HPCw.out)
                    have HGL3 := Lib.hid (Nat.lt_of_lt_of_le hgl hb3.size)
                    clear hown hb3
                    go_wp2_with (at_builtin; refine wpList_append_own_at _ rfl _ _ 22 rfl w.heap.size 9 i0 (.string ⟨#[]⟩) 1 16 Tryz.underlying22 hi hz0 hz1 hz2 rfl (by decide) _ _ _ rfl (hown3.alloc _) ⟨w3.heap.size, 0, none⟩ 1 1 [.string _] rfl rfl (one_cells w3 _ _) (one_str _) (by unfold maxLen; omega) (by omega) (by simp; omega) ?_)
                    intro v4 w4 hown4 hgrow4 _ hblk
                    have HB4 := Lib.hid (show Below w.heap.size w w4 from (HB3.out.alloc HB3.out.size _).grown hgrow4 (by simp; omega) (fun k hk => (HO3.out.lt k hk).1))
                    rw [HSN.out] at hown4
                    have HO4 := Lib.hid hown4
                    have HNB4 := Lib.hid (show v4.ownBlock ≠ some gP by
                      rcases hblk with h | h
                      · rw [h]; exact hnb
                      · rw [h]; intro e; have e2 := Option.some.inj e; have h3 := HGL3.out; have h4 : (w3.alloc (.cells #[.string ⟨s.toArray⟩] 9)).heap.size = w3.heap.size + 1 := by simp
                        omega)
                    have HPC4 := Lib.hid (show w4.heap[gP]? = some (.cells (ls.map fun s => Value.string ⟨s.toArray⟩).toArray 9 (0, 0)) by
                      have hl3 := HGL3.out
                      exact (hgrow4.block gP (by simp; omega) (fun e => hnb e.symm)).trans ((Below.heap_alloc w3 _ gP hl3).trans HPC3.out))
                    have HGL4 := Lib.hid (show gP < w4.heap.size by have h1 := HGL3.out; have h2 := hgrow4.size; simp at h2; omega)
                    clear hown3 hown4 hgrow4 hblk
                    go_wp2
                    go_roundw
                    case rel => exact ⟨k + 1, ns ++ [s], by omega, by go_num, by simp; omega, by simpa using HO4.out, HNB4.out, HGL4.out, HPC4.out, HB4.out, HSA, HF.out⟩
                    case measure => simp [intOf]; omega
            · have HG := Lib.hid (show R = if 128 < (P.showN ns).length then none else some (P.showN ns) by rw [← HK.out]; unfold P.cleanAt; rw [List.drop_eq_nil_of_le (by omega)]; rfl)
              have HJ := Lib.hid (Join_any u6 ns w.heap.size wr hown (by omega) HNA.out)
              have hjl := P.join_len HNA.out
              have HSH := Lib.hid (show P.showN ns = 47 :: Lib.join ns [47] from rfl)
              generalize P.showN ns = sh at HG HSH
              generalize Lib.join ns [47] = J at *
              have hcv : (∃ c, u6 = .slice none 0 c) ∨ ∃ g cap, u6 = .slice (some ⟨g, 0, none⟩) ns.length cap := by
                rcases own_cases hown with ⟨h, _⟩ | ⟨g, cap, h, _⟩
                · exact .inl ⟨0, h⟩
                · exact .inr ⟨g, cap, h⟩
              clear hown hbw hpc hnb
              by_cases hj : 128 < J.length + 1
              · have g1 : ((128 : Int) < (J.length : Int) + 1) = True := eq_true (by omega)
                have HF := Lib.hid (show R = none by rw [HG.out, HSH.out, if_pos (by simpa using hj)])
                rcases hcv with ⟨c, rfl⟩ | ⟨g, cap, rfl⟩
                all_goals
                  go_wp2_with fail
                  refine HJ.out.mono ?_
                  rintro e w3 ⟨rfl, hb3⟩
                  have HB3 := Lib.hid (btr HBw.out hb3)
                  clear hb3
                  go_wp2
                  refine bodyPost_ret (v := .tuple #[.string ⟨#[]⟩, .int .i64 3]) (by simp [results, Tryz.results40, go_sem]) rfl ⟨3, by rw [HF.out]; rfl, by rw [HF.out]; simp, HB3.out⟩
              · have g1 : ((128 : Int) < (J.length : Int) + 1) = False := eq_false (by omega)
                have HF := Lib.hid (show R = some (47 :: J) by rw [HG.out, HSH.out, if_neg (by simpa using hj)])
                rcases hcv with ⟨c, rfl⟩ | ⟨g, cap, rfl⟩
                all_goals
                  go_wp2_with fail
                  refine HJ.out.mono ?_
                  rintro e w3 ⟨rfl, hb3⟩
                  have HB3 := Lib.hid (btr HBw.out hb3)
                  clear hb3
                  go_wp2
                  refine bodyPost_ret (v := .tuple #[.string ⟨(47 :: J).toArray⟩, .int .i64 0]) (by simp [results, Tryz.results40, go_sem]) rfl ⟨0, by rw [HF.out]; rfl, by rw [HF.out]; simp, HB3.out⟩
        · rw [HST.out, if_neg (by rintro (h | h); exact hh h; exact hc h)] at HR0
          have hcd : (cwd == [47]) = false := by simpa using hc
          have hcl : 1 ≤ cwd.length := by cases cwd; simp [P.pathB] at hp; simp
          have hcl' : (1 : Int) ≤ (cwd.length : Int) := by omega
          have hcut : cut cwd 1 cwd.length = cwd.drop 1 := cut_end cwd 1
          have HNC := Lib.hid (P.path_names hp hc).1
          have HSC := Lib.hid (fun w hw => Split_any (cwd.drop 1) w (by simp; omega) hw)
          have hcn := P.split47_len (cwd.drop 1)
          rw [List.length_drop] at hcn
          generalize cwd.drop 1 = ct at *
          generalize P.split47 ct = cs at *
          clear hh hhb hp HRR HST h0 hc
          go_enter Tryz.func40, Tryz.ntmps40
          go_wp2_with fail
          refine HIP.out.mono ?_
          rintro e w1 ⟨rfl, hb1⟩
          have HB1 := Lib.hid hb1
          clear hb1
          go_wp2_with fail
          refine (HSC.out _ (HE.out.below HB1.out)).mono ?_
          rintro e w2 ⟨rfl, ho2, hb2⟩
          have HB2 := Lib.hid (btr HB1.out hb2)
          have HO2 := Lib.hid (own_base ho2 HB1.out.size)
          clear hb2 ho2
          go_wp2_with fail
          refine (HSP.out _ (HE.out.below HB2.out)).mono ?_
          rintro e wq ⟨rfl, hwq⟩
          have HPC := Lib.hid (show wq.heap[w2.heap.size]? = some (.cells (ls.map fun s => Value.string ⟨s.toArray⟩).toArray 9 (0, 0)) by rw [hwq]; exact heap_alloc_new _ _)
          have HBq := Lib.hid (show Below w.heap.size w wq by rw [hwq]; exact (HB2.out).alloc (HB2.out).size _)
          have HOq := Lib.hid (show wq.ownsRow w.heap.size 9 1 (Value.slice (some ⟨w1.heap.size, 0, none⟩) cs.length cs.length) (cs).length ((cs).map fun s => .string ⟨s.toArray⟩) by rw [hwq]; exact (HO2.out).alloc _)
          have HPL := Lib.hid (show w2.heap.size < wq.heap.size by rw [hwq]; simp)
          have HPW := Lib.hid (show w.heap.size ≤ w2.heap.size from (HB2.out).size)
          have HPN := Lib.hid (show (Value.slice (some ⟨w1.heap.size, 0, none⟩) cs.length cs.length).ownBlock ≠ some w2.heap.size from fun e => by have := ((HO2.out).lt _ e).2; omega)
          obtain ⟨gP, hgP⟩ : ∃ gP, w2.heap.size = gP := ⟨_, rfl⟩
          rw [hgP] at HPC HPL HPN HPW ⊢
          obtain ⟨yq, hyq⟩ : ∃ y, y = wq := ⟨_, rfl⟩
          rw [← hyq] at HPC HBq HOq HPL
          clear hwq hgP
          go_wp2
          rw [← hyq]
          clear hyq
          go_loopw [6, 30] (fun nv i wr => ∃ (k : Nat) (ns : List (List UInt8)), k ≤ ls.length ∧ i = .int .i64 k ∧ ns.length ≤ 1000001 + k ∧ wr.ownsRow w.heap.size 9 1 nv ns.length (ns.map fun s => .string ⟨s.toArray⟩) ∧ nv.ownBlock ≠ some gP ∧ gP < wr.heap.size ∧ wr.heap[gP]? = some (.cells (ls.map fun s => Value.string ⟨s.toArray⟩).toArray 9 (0, 0)) ∧ Below w.heap.size w wr ∧ Hid (ns.all P.nameB = true) ∧ Hid (P.fin (P.cleanAt ns ls k) = R)) (fun _ i _ => ls.length - (intOf i).toNat)
          case atStart => exact ⟨0, cs, by omega, rfl, by omega, HOq.out, HPN.out, HPL.out, HPC.out, HBq.out, HNC, HR0.out⟩
          case round =>
            obtain ⟨k, ns, hk, rfl, hnl, hown, hnb, hgl, hpc, hbw, HNA, HK⟩ := hrel
            have HBw := Lib.hid hbw
            have HOw := Lib.hid hown
            by_cases hlt : k < ls.length
            · have hc : wr.cell? ⟨gP, k, none⟩ = some (.string ⟨(ls.getD k []).toArray⟩) := by
                rw [Lib.cell_of_heap hpc]
                simp [hlt, List.getD_eq_getElem?_getD]
              obtain ⟨s, hs⟩ : ∃ s, ls.getD k [] = s := ⟨_, rfl⟩
              have hmem : s ∈ ls := by rw [← hs, List.getD_eq_getElem?_getD, List.getElem?_eq_getElem hlt]; exact List.getElem_mem hlt
              have HC := Lib.hid (HN.out s hmem wr)
              have HSTEP := Lib.hid (P.cleanAt_step (ns := ns) hlt hs)
              rw [hs] at hc
              have k0 : (0 : Int) ≤ (k : Int) := by omega
              have k1 : (k : Int) < (ls.length : Int) := by omega
              have HPCw := Lib.hid hpc
              clear hmem hs hbw hpc
              by_cases s0 : s = [] ∨ s = [46]
              · have HF := Lib.hid (show P.fin (P.cleanAt ns ls (k + 1)) = R by rw [← HK.out, HSTEP.out]; unfold P.stepN; rw [if_pos s0])
                clear hown
                rcases s0 with s0 | s0
                all_goals
                  subst s0
                  go_wp2
                  go_roundw
                  case rel => exact ⟨k + 1, ns, by omega, by go_num, by omega, HOw.out, hnb, hgl, HPCw.out, HBw.out, HNA, HF.out⟩
                  case measure => simp [intOf]; omega
              · have q1 : s.isEmpty = false := by cases s; exact absurd (.inl rfl) s0; rfl
                have q2 : (s == [46]) = false := by simpa using fun h => s0 (.inr h)
                by_cases s1 : s = [46, 46]
                · have HF := Lib.hid (show P.fin (P.cleanAt ns.dropLast ls (k + 1)) = R by rw [← HK.out, HSTEP.out]; unfold P.stepN; rw [if_neg s0, if_pos s1])
                  have HDA := Lib.hid (show ns.dropLast.all P.nameB = true by have := HNA.out; rw [List.all_eq_true] at this ⊢; exact fun x hx => this x (List.dropLast_subset _ hx))
                  subst s1
                  rcases own_cases hown with ⟨hv, hn0⟩ | ⟨g, cap, hv, hcap1, hcap2, hgg⟩
                  · subst hv
                    have hns : ns = [] := List.eq_nil_of_length_eq_zero hn0
                    subst hns
                    clear hown s0
                    go_wp2
                    go_roundw
                    case rel => exact ⟨k + 1, [], by omega, by go_num, by simp, World.ownsRow_nil _ _ _ _, by simp [Value.ownBlock], hgl, HPCw.out, HBw.out, HDA, HF.out⟩
                    case measure => simp [intOf]; omega
                  · subst hv
                    have HOD := Lib.hid (own_drop hown)
                    have hmx : max ((ns.length : Int) - 1) 0 = ((ns.length - 1 : Nat) : Int) := by omega
                    have hx1 : ((ns.length - 1 : Nat) : Int) ≤ (cap : Int) := by omega
                    have hx0 : (0 : Int) ≤ ((ns.length - 1 : Nat) : Int) := by omega
                    have hdl : ns.dropLast.length = ns.length - 1 := List.length_dropLast
                    have HDL := Lib.hid hdl
                    clear hown s0 hdl
                    generalize ns.length - 1 = n1 at *
                    go_wp2
                    go_roundw
                    case rel => exact ⟨k + 1, ns.dropLast, by omega, by go_num, by rw [HDL.out]; omega, HOD.out, hnb, hgl, HPCw.out, HBw.out, HDA, HF.out⟩
                    case measure => simp [intOf]; omega
                · have q3 : (s == [46, 46]) = false := by simpa using s1
                  cases hnm : P.nameB s with
                  | false =>
                    rw [hnm] at HC
                    have HF := Lib.hid (show R = none by rw [← HK.out, HSTEP.out]; unfold P.stepN; rw [if_neg s0, if_neg s1, if_neg (by rw [hnm]; simp)]; rfl)
                    clear hown s0 s1 hnm
                    go_wp2_with fail
                    refine HC.out.mono ?_
                    rintro e w3 ⟨rfl, hb3⟩
                    have HB3 := Lib.hid (btr HBw.out hb3)
                    clear hb3
                    go_wp2
                    refine bodyPost_ret (v := .tuple #[.string ⟨#[]⟩, .int .i64 10]) (by simp [results, Tryz.results40, go_sem]) rfl ⟨10, by rw [HF.out]; rfl, by rw [HF.out]; simp, HB3.out⟩
                  | true =>
                    rw [hnm] at HC
                    have HF := Lib.hid (show P.fin (P.cleanAt (ns ++ [s]) ls (k + 1)) = R by rw [← HK.out, HSTEP.out]; unfold P.stepN; rw [if_neg s0, if_neg s1, if_pos hnm])
                    have HSA := Lib.hid (show (ns ++ [s]).all P.nameB = true by rw [List.all_append, HNA.out]; simpa using hnm)
                    have HSN := Lib.hid (show (ns.map fun s => Value.string ⟨s.toArray⟩) ++ [Value.string ⟨s.toArray⟩] = (ns ++ [s]).map fun s => Value.string ⟨s.toArray⟩ by simp)
                    clear s0 s1 hnm
                    go_wp2_with fail
                    refine HC.out.mono ?_
                    rintro e w3 ⟨rfl, hb3⟩
                    have hown3 := own_below hown hb3
                    have HO3 := Lib.hid hown3
                    have HB3 := Lib.hid (btr HBw.out hb3)
                    have hsz3 := HB3.out.size
                    have HPC3 := Lib.hid ((hb3.block gP hgl).trans HPCw.out)
                    have HGL3 := Lib.hid (Nat.lt_of_lt_of_le hgl hb3.size)
                    clear hown hb3
                    go_wp2_with (at_builtin; refine wpList_append_own_at _ rfl _ _ 22 rfl w.heap.size 9 i0 (.string ⟨#[]⟩) 1 16 Tryz.underlying22 hi hz0 hz1 hz2 rfl (by decide) _ _ _ rfl (hown3.alloc _) ⟨w3.heap.size, 0, none⟩ 1 1 [.string _] rfl rfl (one_cells w3 _ _) (one_str _) (by unfold maxLen; omega) (by omega) (by simp; omega) ?_)
                    intro v4 w4 hown4 hgrow4 _ hblk
                    have HB4 := Lib.hid (show Below w.heap.size w w4 from (HB3.out.alloc HB3.out.size _).grown hgrow4 (by simp; omega) (fun k hk => (HO3.out.lt k hk).1))
                    rw [HSN.out] at hown4
                    have HO4 := Lib.hid hown4
                    have HNB4 := Lib.hid (show v4.ownBlock ≠ some gP by
                      rcases hblk with h | h
                      · rw [h]; exact hnb
                      · rw [h]; intro e; have e2 := Option.some.inj e; have h3 := HGL3.out; have h4 : (w3.alloc (.cells #[.string ⟨s.toArray⟩] 9)).heap.size = w3.heap.size + 1 := by simp
                        omega)
                    have HPC4 := Lib.hid (show w4.heap[gP]? = some (.cells (ls.map fun s => Value.string ⟨s.toArray⟩).toArray 9 (0, 0)) by
                      have hl3 := HGL3.out
                      exact (hgrow4.block gP (by simp; omega) (fun e => hnb e.symm)).trans ((Below.heap_alloc w3 _ gP hl3).trans HPC3.out))
                    have HGL4 := Lib.hid (show gP < w4.heap.size by have h1 := HGL3.out; have h2 := hgrow4.size; simp at h2; omega)
                    clear hown3 hown4 hgrow4 hblk
                    go_wp2
                    go_roundw
                    case rel => exact ⟨k + 1, ns ++ [s], by omega, by go_num, by simp; omega, by simpa using HO4.out, HNB4.out, HGL4.out, HPC4.out, HB4.out, HSA, HF.out⟩
                    case measure => simp [intOf]; omega
            · have HG := Lib.hid (show R = if 128 < (P.showN ns).length then none else some (P.showN ns) by rw [← HK.out]; unfold P.cleanAt; rw [List.drop_eq_nil_of_le (by omega)]; rfl)
              have HJ := Lib.hid (Join_any u6 ns w.heap.size wr hown (by omega) HNA.out)
              have hjl := P.join_len HNA.out
              have HSH := Lib.hid (show P.showN ns = 47 :: Lib.join ns [47] from rfl)
              generalize P.showN ns = sh at HG HSH
              generalize Lib.join ns [47] = J at *
              have hcv : (∃ c, u6 = .slice none 0 c) ∨ ∃ g cap, u6 = .slice (some ⟨g, 0, none⟩) ns.length cap := by
                rcases own_cases hown with ⟨h, _⟩ | ⟨g, cap, h, _⟩
                · exact .inl ⟨0, h⟩
                · exact .inr ⟨g, cap, h⟩
              clear hown hbw hpc hnb
              by_cases hj : 128 < J.length + 1
              · have g1 : ((128 : Int) < (J.length : Int) + 1) = True := eq_true (by omega)
                have HF := Lib.hid (show R = none by rw [HG.out, HSH.out, if_pos (by simpa using hj)])
                rcases hcv with ⟨c, rfl⟩ | ⟨g, cap, rfl⟩
                all_goals
                  go_wp2_with fail
                  refine HJ.out.mono ?_
                  rintro e w3 ⟨rfl, hb3⟩
                  have HB3 := Lib.hid (btr HBw.out hb3)
                  clear hb3
                  go_wp2
                  refine bodyPost_ret (v := .tuple #[.string ⟨#[]⟩, .int .i64 3]) (by simp [results, Tryz.results40, go_sem]) rfl ⟨3, by rw [HF.out]; rfl, by rw [HF.out]; simp, HB3.out⟩
              · have g1 : ((128 : Int) < (J.length : Int) + 1) = False := eq_false (by omega)
                have HF := Lib.hid (show R = some (47 :: J) by rw [HG.out, HSH.out, if_neg (by simpa using hj)])
                rcases hcv with ⟨c, rfl⟩ | ⟨g, cap, rfl⟩
                all_goals
                  go_wp2_with fail
                  refine HJ.out.mono ?_
                  rintro e w3 ⟨rfl, hb3⟩
                  have HB3 := Lib.hid (btr HBw.out hb3)
                  clear hb3
                  go_wp2
                  refine bodyPost_ret (v := .tuple #[.string ⟨(47 :: J).toArray⟩, .int .i64 0]) (by simp [results, Tryz.results40, go_sem]) rfl ⟨0, by rw [HF.out]; rfl, by rw [HF.out]; simp, HB3.out⟩
end W
end Go.Proofs.YtmccfdmnidbalaaGreatDoor
