/- Chapter 9: slices.Clone at aliases. -/
import Derived.Test.YtelhobphphkidaaGreatDoorW09k
namespace Go.Proofs.YtelhobphphkidaaGreatDoor
open Go.RowKit K
namespace W
theorem TL_news {w : World} {ad : Addr} {ts : List Tr} (h : TL w (some ad) ts) : ∀ (j : Nat) (u : Value), (tcells ts)[j]? = some u → w.cell? (ad.add j) = some u := by
  intro j u hj
  have hlt : j < ts.length * 2 := by have := (List.getElem?_eq_some_iff.1 hj).1; rw [tcells_length] at this; exact this
  obtain ⟨b, off, e, _, hc⟩ := h (by intro e; subst e; simp at hlt)
  injection e with e
  subst e
  have e0 : (⟨b, off, none⟩ : Addr).add j = ⟨b, off + j, none⟩ := by unfold Addr.add; split <;> simp_all
  rw [e0]
  have hi : j / 2 < ts.length := by omega
  obtain ⟨c0, c1⟩ := hc (j / 2) hi
  obtain ⟨t0, t1⟩ := tcells_at hi
  rcases Nat.mod_two_eq_zero_or_one j with hm | hm
  · have ej : j = j / 2 * 2 := by omega
    rw [ej] at hj ⊢
    rw [t0] at hj
    injection hj with hj
    rw [← hj]
    have : j / 2 * 2 / 2 * 2 = j / 2 * 2 := by omega
    exact c0
  · have ej : j = j / 2 * 2 + 1 := by omega
    rw [ej] at hj ⊢
    rw [t1] at hj
    injection hj with hj
    rw [← hj, ← Nat.add_assoc]
    exact c1
theorem Clone_any (v : Value) (ts : List Tr) (w : World) (hV : TV w v ts) (hn : ts.length ≤ 1000) :
    Calls Tryz.prog 28 #[v] w (TPost w ts) := by
  obtain ⟨i0, hi0, hz0, hzs, hzb⟩ := info_parts infoAl
  obtain ⟨A, c, rfl, hc1, hc2, hA, hT⟩ := hV
  have qn : ∀ (w : World) (a : Option Addr) (n c n' c' : Nat), (binOp .eql 22 (.slice a n c) (.slice none n' c')).run Tryz.prog w = .ok (.bool a.isNone) w := fun w a n c n' c' => Lib.run_eql_slice_nil w _ _ a n c n' c' Tryz.underlying22
  cases A with
  | none =>
    have hl : ts = [] := by
      have := hA rfl
      exact List.eq_nil_of_length_eq_zero (by omega)
    subst hl
    obtain rfl : c = 0 := hA rfl
    clear hn hc1 hc2 hA hT hi0 hz0 hzs hzb
    go_enter Tryz.func28, Tryz.ntmps28
    go_wp2
    go_ret
    exact ⟨_, rfl, World.ownsRow_nil _ _ _ _, Below.refl _ _⟩
  | some ad =>
    have hnews := TL_news (hT.below (w' := w.alloc (.cells #[] 47)) ((Below.refl _ _).alloc (Nat.le_refl _) _))
    have hm : (w.alloc (.cells #[] 47)).ownsRow w.heap.size 47 2 (.slice (some ⟨w.heap.size, 0, none⟩) 0 0) 0 [] := World.ownsRow_made w #[] 0 (Nat.le_refl _) (by unfold maxLen; omega) (by simp)
    have HM := Lib.hid hm
    obtain ⟨n, hnn⟩ : ∃ n, ts.length = n := ⟨_, rfl⟩
    have HNN := Lib.hid hnn
    have hcl : (tcells ts).length = n * 2 := by rw [tcells_length, hnn]
    have HCL := Lib.hid hcl
    have HT1 := Lib.hid (tcells_one ts)
    rw [hnn] at hn hc1 ⊢
    clear hnn hcl hA hT
    go_enter Tryz.func28, Tryz.ntmps28
    go_wp2_with (at_builtin; refine wpList_append_own _ rfl _ _ 22 rfl w.heap.size 47 i0 (.agg #[.string ⟨#[]⟩, .string ⟨#[]⟩]) 2 32 Tryz.underlying22 hi0 hz0 hzs hzb rfl (by decide) _ _ _ rfl HM.out ad n c (tcells ts) rfl HCL.out hnews HT1.out (by unfold maxLen; omega) (by omega) (by simp) ?_)
    intro v2 w2 hown2 hgrow2 _
    have HB2 := Lib.hid (show Below w.heap.size w w2 from ((Below.refl _ w).alloc (Nat.le_refl _) _).grown hgrow2 (by simp) (fun k hk => (HM.out.lt k hk).1))
    try simp only [Nat.zero_add, List.nil_append] at hown2
    have HO2 := Lib.hid hown2
    clear hown2 hgrow2
    go_wp2
    go_ret
    exact ⟨_, rfl, by rw [HNN.out]; exact HO2.out, HB2.out⟩
end W
end Go.Proofs.YtelhobphphkidaaGreatDoor
