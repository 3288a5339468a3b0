/- Built-in commands: lists copied; env.Copy; printed by gen37c.py. -/
import Derived.Test.YtcbebkeakkahgaaGreatDoorW37b
import Derived.Laws.CopyRow
namespace Go.Proofs.YtcbebkeakkahgaaGreatDoor
open Go.RowKit K
namespace W
set_option maxRecDepth 100000
theorem lnil_vars (A : Option Addr) (c : Nat) (w : World) : Calls Tryz.prog 17 #[.slice A 0 c] w fun e w' => e = .returned (.slice none 0 0) ∧ w' = w := by
  go_enter Tryz.func17, Tryz.ntmps17
  go_wp2
  go_ret
  exact ⟨rfl, rfl⟩
theorem lnil_strs (A : Option Addr) (c : Nat) (w : World) : Calls Tryz.prog 18 #[.slice A 0 c] w fun e w' => e = .returned (.slice none 0 0) ∧ w' = w := by
  go_enter Tryz.func18, Tryz.ntmps18
  go_wp2
  go_ret
  exact ⟨rfl, rfl⟩
theorem lnil_als (A : Option Addr) (c : Nat) (w : World) : Calls Tryz.prog 19 #[.slice A 0 c] w fun e w' => e = .returned (.slice none 0 0) ∧ w' = w := by
  go_enter Tryz.func19, Tryz.ntmps19
  go_wp2
  go_ret
  exact ⟨rfl, rfl⟩
theorem lnil_traps (A : Option Addr) (c : Nat) (w : World) : Calls Tryz.prog 20 #[.slice A 0 c] w fun e w' => e = .returned (.slice none 0 0) ∧ w' = w := by
  go_enter Tryz.func20, Tryz.ntmps20
  go_wp2
  go_ret
  exact ⟨rfl, rfl⟩
theorem lnil_funcs (A : Option Addr) (c : Nat) (w : World) : Calls Tryz.prog 43 #[.slice A 0 c] w fun e w' => e = .returned (.slice none 0 0) ∧ w' = w := by
  go_enter Tryz.func43, Tryz.ntmps43
  go_wp2
  go_ret
  exact ⟨rfl, rfl⟩
theorem each_nil (fv : Value) (w : World) : Calls Tryz.prog 21 #[.slice none 0 0, fv] w fun e w' => e = .returned (.slice none 0 0) ∧ w' = w := by
  have HL := Lib.hid (fun V => lnil_funcs none 0 V)
  go_enter Tryz.func21, Tryz.ntmps21
  go_wp2_with fail
  refine (HL.out _).mono ?_
  rintro e Y ⟨rfl, hY⟩
  obtain rfl : w = Y := hY.symm
  go_wp2
  go_loopw [11] (fun i wr => i = .int .i64 0 ∧ wr = w) (fun _ _ => 0)
  case atStart => exact ⟨rfl, rfl⟩
  case round =>
    obtain ⟨rfl, rfl⟩ := hrel
    go_wp2
    go_ret
    exact ⟨rfl, rfl⟩
theorem make_str (n : Nat) (hn : n ≤ 1000) (W : World) : (Instr.makeSlice 26 (.int .i64 (n : Int)) (.int .i64 (n : Int))).run Tryz.prog W = .ok (.slice (some ⟨W.heap.size, 0, none⟩) n n) (W.alloc (.cells (madeCells #[.string ⟨#[]⟩] n) 9)) := by
  obtain ⟨i0, hi, hz0, hz1, hz2⟩ := info_parts infoStr
  have := run_make (P := Tryz.prog) W 26 9 i0 _ Tryz.underlying26 hi hz0 .i64 .i64 (n : Int) (n : Int) (by omega) (by omega) (by rw [hz2]; omega) (by omega)
  rw [this, hz1, show ((n : Int)).toNat = n by omega, Nat.mul_one]
  rfl
/-- The copy of a list of strings: its value and its world are settled. -/
theorem list_det (A : Option Addr) (n c : Nat) (ls : List (List UInt8)) (w : World) (h : SV w (.slice A n c) ls) (hl : ls.length ≤ 1000) :
    ∃ A' c' w', Calls Tryz.prog 18 #[.slice A n c] w (fun e x => e = .returned (.slice A' n c') ∧ x = w') ∧ SV w' (.slice A' n c') ls ∧ Below w.heap.size w w' ∧ ∀ r, (Value.slice A' n c').ownBlock = some r → w.heap.size ≤ r := by
  have hn : n = ls.length := by obtain ⟨A0, c0, h1, -⟩ := h; injection h1
  subst hn
  by_cases hne : ls = []
  · subst hne
    exact ⟨none, 0, w, lnil_strs A c w, RV.nil _, Below.refl _ _, fun r hr => by cases hr⟩
  · obtain ⟨-, b, off, rfl, hb, hat⟩ := RV.at_ h hne
    have hpos : 0 < ls.length := List.length_pos_iff.2 hne
    obtain ⟨X, hX⟩ : ∃ X, X = w.alloc (.cells (madeCells #[.string ⟨#[]⟩] ls.length) 9) := ⟨_, rfl⟩
    have hxb : X.heap[w.heap.size]? = some (.cells (madeCells #[.string ⟨#[]⟩] ls.length) 9 (0, 0)) := by rw [hX]; exact al_new w _
    have hbx : Below w.heap.size w X := by rw [hX]; exact balloc _ _
    have hcl : (ls.flatMap es).length = ls.length := by rw [flat_len es_len]; omega
    have hones : ∀ u ∈ ls.flatMap es, u.oneCell' = true := by
      intro u hu
      obtain ⟨x, _, hx⟩ := List.mem_flatMap.1 hu
      exact es_ones x u hx
    have hsrc : ∀ j v, (ls.flatMap es)[j]? = some v → X.cell? ((⟨b, off, none⟩ : Addr).add j) = some v := by
      intro j v hj
      have := hat.flat es_len j v hj
      have e1 : (⟨b, off, none⟩ : Addr).add j = ⟨b, off + j, none⟩ := by unfold Addr.add; split <;> simp_all
      rw [e1] at this ⊢
      exact (hbx.cell (p := ⟨b, off + j, none⟩) hb).trans this
    have hcp := run_copy_row (P := Tryz.prog) X 26 26 3 9 w.heap.size 0 ls.length ls.length ⟨b, off, none⟩ ls.length c _ 9 (ls.flatMap es) Tryz.underlying26 (by kernel_rfl) hxb (by rw [hcl]; exact (Nat.min_self _).symm) hsrc (by rw [size_madeCells]; omega) hones
    obtain ⟨cs, hcs⟩ : ∃ cs, cs = ((madeCells #[Value.string ⟨#[]⟩] ls.length).toList.take 0 ++ ls.flatMap es ++ (madeCells #[Value.string ⟨#[]⟩] ls.length).toList.drop (0 + (ls.flatMap es).length)).toArray := ⟨_, rfl⟩
    rw [← hcs] at hcp
    obtain ⟨Z, hZ⟩ : ∃ Z, Z = X.setRow w.heap.size cs := ⟨_, rfl⟩
    rw [← hZ] at hcp
    have hzb : Z.heap[w.heap.size]? = some (.cells cs 9 (0, 0)) := by rw [hZ]; exact setRow_heap X _ _ _ _ (0, 0) hxb
    refine ⟨some ⟨w.heap.size, 0, none⟩, ls.length, Z, ?_, ⟨_, _, rfl, Nat.le_refl _, .inr ⟨w.heap.size, 0, rfl, (Array.getElem?_eq_some_iff.1 hzb).1, RAt.of_flat es_len fun j u hj => ?_⟩⟩, by rw [hZ]; exact rowB hbx (Nat.le_refl _) _, fun r hr => by cases hr; exact Nat.le_refl _⟩
    · have HM := Lib.hid (make_str ls.length hl w)
      have HX := Lib.hid hX
      have HCP := Lib.hid hcp
      have h0 : ((ls.length : Int) == 0) = false := by rw [beq_eq_false_iff_ne]; omega
      have h1 : ¬ ls.length = 0 := by omega
      have hmk := HM.out
      rw [← hX] at hmk
      clear hX hxb hbx hcl hones hsrc hZ hzb hat h hne hl hcs
      go_enter Tryz.func18, Tryz.ntmps18
      go_wp2
      go_ret
      exact ⟨rfl, rfl⟩
    · rw [cell_of_row Z w.heap.size _ _ 9 (0, 0) hzb]
      rw [Nat.zero_add, hcs]
      simp only [List.take_zero, List.nil_append, List.getElem?_toArray]
      rw [List.getElem?_append_left (List.getElem?_eq_some_iff.1 hj).1]
      exact hj
end W
end Go.Proofs.YtcbebkeakkahgaaGreatDoor
