/- Chapter 10: Strip. -/
import Derived.Test.YtggjhkmokgliaaaDoorW10a
namespace Go.Proofs.YtggjhkmokgliaaaDoor
open Go.RowKit Go.Shelf K
attribute [local go_sem] Oper.semAt_some
namespace P
def stripL (ls : List Str) : Str := (ls.map notab).flatten
theorem stripL_snoc (ls : List Str) (x : Str) : stripL (ls ++ [x]) = stripL ls ++ notab x := by unfold stripL; simp
theorem flat_pre {a b : List Str} (h : a <+: b) : a.flatten.length ≤ b.flatten.length := by
  obtain ⟨c, rfl⟩ := h
  simp
theorem stripL_len (ls : List Str) : (stripL ls).length ≤ ls.flatten.length := by
  unfold stripL
  induction ls with
  | nil => simp
  | cons l r ih => simp; have := notab_len l; simp at ih; omega
end P
namespace W
theorem kept_others {b : Nat} {w w' : World} (h : Bkept b w w') (hb : ∃ o : Obj, w.heap[b]? = some o ∧ o.isCells = true) : KeepsOthers w w' := by
  refine ⟨h.below.size, fun k o hk ho => h.others k o hk ?_ ?_⟩
  · rintro e
    obtain ⟨o', h1, h2⟩ := hb
    injection e with e
    subst e
    rw [hk] at h1
    injection h1 with h1
    subst h1
    rw [ho] at h2
    cases h2
  · rintro c fz rfl
    cases ho
theorem Bld.isCells {b : Nat} {l : List UInt8} {w : World} (h : Bld b l w) : ∃ o : Obj, w.heap[b]? = some o ∧ o.isCells = true := by
  unfold Bld at h
  rcases h with ⟨_, v, hbk, _⟩ | ⟨_, v, hbk, _⟩
  · exact ⟨_, hbk, rfl⟩
  · exact ⟨_, hbk, rfl⟩
theorem builderAtF_grown {T e : TypeId} {B b : Nat} {p : Value} {bs : List Value} {w w' : World} {row : Option Nat} (h : Lib.BuilderAtF T e B b p bs w) (hg : w.grownBy w' row) (hr : ∀ r, row = some r → ∃ o : Obj, w.heap[r]? = some o ∧ o.isCells = false) : Lib.BuilderAtF T e B b p bs w' := by
  have hlt := h.lt
  obtain ⟨hB, v, hbk, hown, hne⟩ := h
  have key : ∀ (k : Nat) (o : Obj), w.heap[k]? = some o → o.isCells = true → w'.heap[k]? = some o := by
    intro k o hk ho
    rw [hg.block k (Array.getElem?_eq_some_iff.1 hk).1 ?_]
    · exact hk
    · intro e
      obtain ⟨o', h1, h2⟩ := hr k e.symm
      rw [hk] at h1
      injection h1 with h1
      subst h1
      rw [ho] at h2
      cases h2
  refine ⟨hB, v, key b _ hbk rfl, ⟨hown.1, ?_⟩, hne⟩
  rcases hown.2 with hn | ⟨g, cap, cur, fz, hv, hbg, hg', rest⟩
  · exact .inl hn
  · exact .inr ⟨g, cap, cur, fz, hv, hbg, key g _ hg' rfl, rest⟩
theorem Bld.grown {b : Nat} {l : List UInt8} {w w' : World} {row : Option Nat} (h : Bld b l w) (hg : w.grownBy w' row) (hr : ∀ r, row = some r → ∃ o : Obj, w.heap[r]? = some o ∧ o.isCells = false) : Bld b l w' := by
  unfold Bld at h ⊢
  rcases h with h | h
  · exact .inl (builderAtF_grown h hg hr)
  · exact .inr (builderAtF_grown h hg hr)
theorem Bld.fresh (w : World) : Bld w.heap.size [] (w.alloc (.cells #[.pointer none, .slice none 0 0] 42)) := by
  refine .inl ⟨Nat.le_refl _, .slice none 0 0, heap_alloc_new w _, ⟨rfl, .inl ⟨rfl, rfl⟩⟩, ?_⟩
  simp [Value.ownBlock]
theorem String_k (b : Nat) (l : List UInt8) (w : World) (h : Bld b l w) : Calls Tryd.prog 17 #[.pointer (some ⟨b, 0, none⟩)] w fun e w' => e = .returned (.string ⟨l.toArray⟩) ∧ Bld b l w' ∧ Bkept b w w' :=
  (Tryd.Builder_String_any_k b b l w h (Nat.le_of_lt h.lt)).mono fun _ _ ⟨h1, h2, h3, h4⟩ => ⟨h1, h2, h3, h4⟩
set_option maxRecDepth 100000 in
set_option maxHeartbeats 2000000 in
theorem Strip_any (s : List UInt8) (w : World) (hl : s.length ≤ 10000) : Calls Tryd.prog 8 #[.string ⟨s.toArray⟩] w fun e w' => e = .returned (.string ⟨(P.stripP s).toArray⟩) ∧ Below w.heap.size w w' := by
  refine (callsIn_wide (n := 3)).1 ?_
  refine callsIn_of_wp_marks Tryd.func8 rfl trivial ?_ rfl
  simp only [Tryd.ntmps8, List.size_toArray, List.length_cons, List.length_nil, Nat.reduceAdd, Nat.reduceSub, Array.replicate_succ, Array.replicate_zero, List.push_toArray, List.append_toArray, List.nil_append, List.cons_append]
  gi_wp2_with (first | (gi_at_call 14; refine (callsIn_wide.2 (lines_any s 0 _)).mono ?_; rintro e w' ⟨rfl, rfl⟩) | (refine ⟨trivial, ?_⟩; gi_at_call 14; refine (callsIn_wide.2 (lines_any s 0 _)).mono ?_; rintro e w' ⟨rfl, rfl⟩))
  obtain ⟨x, hx⟩ : ∃ x, x = w.alloc (.cells #[.pointer none, .slice none 0 0] 42) := ⟨_, rfl⟩
  have hxs : x.heap.size = w.heap.size + 1 := by rw [hx]; simp
  have hB1 : Bld w.heap.size [] x := by rw [hx]; exact Bld.fresh w
  have hBx : Below w.heap.size w x := by rw [hx]; exact balloc _ _
  rw [← hx]
  obtain ⟨y, hy⟩ : ∃ y, y = (x.alloc (.cells #[.string ⟨s.toArray⟩] 9)).alloc (.cells #[.int .i64 0] 3) := ⟨_, rfl⟩
  have hys : y.heap.size = w.heap.size + 3 := by rw [hy]; simp; omega
  have d1 : y.cell? ⟨w.heap.size + 1, 0, none⟩ = some (.string ⟨s.toArray⟩) := by rw [hy, ← hxs]; exact ((balloc _ _).cell (p := ⟨x.heap.size, 0, none⟩) (by simp)).trans (by simp)
  have d2 : y.cell? ⟨w.heap.size + 1 + 1, 0, none⟩ = some (.int .i64 ((0 : Nat) : Int)) := by rw [hy, ← hxs, show x.heap.size + 1 = (x.alloc (.cells #[.string ⟨s.toArray⟩] 9)).heap.size by simp]; simp
  have hBy : Below w.heap.size w y := by rw [hy]; exact btr (btr hBx (balloc _ _)) (balloc _ _)
  have hB2 : Bld w.heap.size [] y := by rw [hy]; exact (hB1.below (balloc _ _)).below (balloc _ _)
  rw [← hy]
  clear hx hy hxs hB1 hBx
  have hOwn : Own (fun (pre : List SS) W => Bld w.heap.size (P.stripL (vals pre)) W) := fun s A B row hs hg hr => Bld.grown hs hg hr
  refine wpIn_rangeFunc_ownF rfl (by omega) (gf := 24) (lb := #[.pointer (some ⟨w.heap.size + 1, 0, none⟩), .pointer (some ⟨w.heap.size + 1 + 1, 0, none⟩)]) rfl trivial (enters_of Tryd.func24 (by kernel_rfl) rfl)
    (lines_stops _ (by omega) (w.heap.size + 1) (w.heap.size + 1 + 1) w.heap.size s 0 (by omega) hl y (by omega) (by omega) d1 d2) belowK_t (belowK_b (by omega)) (Below.refl _ _) (fun _ => rfl)
    (fun pre W => Bld w.heap.size (P.stripL (vals pre)) W ∧ Below w.heap.size w W)
    (fun _ _ _ => False)
    (OwnFrom.and (hOwn.from _) (ownFrom_below (Nat.le_refl _) (by omega)))
    (fun _ _ _ _ _ hs _ _ => hs)
    ⟨hB2, hBy⟩
    (fun x => { tmps := #[.string ⟨s.toArray⟩, undef, .string ⟨#[]⟩, .pointer (some ⟨w.heap.size, 0, none⟩), .string ⟨x.1.toArray⟩, .string ⟨s.toArray⟩, .func (.func 24) #[] #[.pointer (some ⟨w.heap.size + 1, 0, none⟩), .pointer (some ⟨w.heap.size + 1 + 1, 0, none⟩)], .string ⟨x.1.toArray⟩, undef, undef, undef, undef], defers := [] }) ?assign ?body ?done ?stop
  case assign =>
    intro l x W K hK
    gi_wp2
    exact hK
  case body =>
    rintro l pre x W ⟨hb, hB⟩ hpl
    have HPL := Lib.hid hpl
    have HW := Lib.hid (WriteString_k w.heap.size (P.stripL (vals pre)) (P.notab x.1) W hb (by
      have h1 := P.stripL_len (vals pre)
      have h2 := vals_len pre
      omega) (by have h1 := P.notab_len x.1; have h2 := x.2; omega))
    have HT := Lib.hid (TrimLeft_tab x.1 W)
    clear hpl
    gi_wp2_with (first
      | (refine ⟨trivial, ?_⟩; gi_at_call 16; refine (CallsIn.inRound l (callsIn_wide.2 HT.out)).mono ?_; rintro e w' ⟨rfl, rfl⟩)
      | (refine ⟨trivial, ?_⟩; gi_at_call 15; refine (CallsIn.inRound l (callsIn_wide.2 HW.out)).mono ?_; rintro e w' ⟨rfl, hb', hk'⟩))
    exact ⟨kept_others hk' hb.isCells, hk'.below, by rw [vals_snoc, P.stripL_snoc]; exact hb', hB.trans hk'.below⟩
  case done =>
    rintro D ys W hD hys' ⟨hb, hB⟩ hK
    have HS := Lib.hid (String_k w.heap.size _ W hb)
    gi_wp2_with (first
      | (gi_at_call 17; refine (callsIn_wide.2 HS.out).mono ?_; rintro e w' ⟨rfl, hb'', hk'⟩)
      | (refine ⟨trivial, ?_⟩; gi_at_call 17; refine (callsIn_wide.2 HS.out).mono ?_; rintro e w' ⟨rfl, hb'', hk'⟩))
    have hK' := (kept_others hk' hb.isCells).same D _ hK rfl
    refine ⟨by simp, .inl ⟨_, _, rfl, run_takeDeferred hK', ?_⟩⟩
    refine ⟨_, results_tmp rfl _ _ _, ?_, (hB.trans hk'.below).trans (belowK_b (w := w) (Nat.le_refl _) _ D _ _ (by omega) hK' rfl rfl)⟩
    first | rfl | (rw [hys', List.drop_zero]; rfl)
  case stop =>
    rintro D c pre W _ _ h _
    exact h.elim
end W
end Go.Proofs.YtggjhkmokgliaaaDoor
