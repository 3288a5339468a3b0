/- Words: Params. -/
import Derived.Test.YtijibooneochjaaG08m
import Derived.Laws.EntriesVeiled
namespace Go.Proofs.Ytijibooneochjaa
open Go.RowKit K
open WP (GP gp gpL)
namespace W
theorem visit_all : ∀ n, VisitN n := by
  intro n
  induction n with
  | zero => intro b K acc v l w h; exact absurd h (Nat.not_lt_zero _)
  | succ n ih => exact visit_step ih
/-- What Params gives: a row of strings of its own. -/
def StrOut (B : Nat) (w : World) (ss : List (List UInt8)) (e : Ending) (w' : World) : Prop := ∃ A cap, e = .returned (.slice A ss.length cap) ∧ Below w.heap.size w w' ∧ w'.ownsRow B 9 1 (.slice A ss.length cap) ss.length (strCellsL ss)
set_option maxRecDepth 100000 in
set_option maxHeartbeats 4000000 in
theorem texts_any (K : Int) (v : Value) (l : List GP) (w : World) (h : GS w (fun q => q < w.heap.size) v l) (hn : WP.cntL l ≤ 1000000) : Calls Try.prog 48 #[v, .int .i64 K] w (StrOut w.heap.size w (WP.txtL K l)) := by
  obtain ⟨A, cap, rfl⟩ := h.slice
  have hmf : ∀ (fn : Fn) (first cap : Array Value) (w : World), (Instr.makeFunc fn first cap).run Try.prog w = .ok (.func fn first cap) w := fun _ _ _ _ => rfl
  obtain ⟨F, hF⟩ : ∃ F, F = Value.func (Fn.func 67) #[] #[.pointer (some ⟨w.heap.size, 0, none⟩), .pointer (some ⟨w.heap.size + 1, 0, none⟩), .pointer (some ⟨w.heap.size + 1 + 1, 0, none⟩)] := ⟨_, rfl⟩
  obtain ⟨X, hX⟩ : ∃ X, X = ((w.alloc (.cells #[.int .i64 K] 3)).alloc (.cells #[.slice none 0 0] 58)).alloc (.cells #[F] 118) := ⟨_, rfl⟩
  have HWX := Lib.hid (show Below w.heap.size w X by rw [hX]; exact btr (btr (balloc _ _) (balloc _ _)) (balloc _ _))
  have HTX := Lib.hid (show TX w.heap.size K [] X from by
    refine ⟨?_, ⟨.slice none 0 0, ?_, ⟨rfl, .inl ⟨rfl, rfl⟩⟩⟩, ?_⟩
    · rw [hX]
      exact ((balloc _ _).block _ (by simp; omega)).trans (((balloc _ _).block _ (by simp)).trans (al_new w _))
    · rw [hX]
      exact ((balloc _ _).block _ (by simp)).trans (al_new' _ _ _ (by simp))
    · rw [hX, hF]
      exact al_new' _ _ _ (by simp))
  have HV := Lib.hid (show Calls Try.prog 67 #[.slice A l.length cap, .pointer (some ⟨w.heap.size, 0, none⟩), .pointer (some ⟨w.heap.size + 1, 0, none⟩), .pointer (some ⟨w.heap.size + 1 + 1, 0, none⟩)] X fun e w' => e = .returned (.tuple #[]) ∧ TX w.heap.size K (WP.txtL K l) w' ∧ Tkept (w.heap.size + 1) X w' from
    visit_all (WP.cntL l + 1) w.heap.size K [] _ l X (Nat.lt_succ_self _) (by simpa using hn) (h.below HWX.out) HTX.out)
  have HX := Lib.hid hX
  have HF := Lib.hid hF
  clear h hX hF
  go_enter Try.func48, Try.ntmps48
  go_wp2_with fail
  rw [← HF.out, ← HX.out]
  refine HV.out.mono ?_
  rintro e Y ⟨rfl, hty, hky⟩
  have HY := Lib.hid (HWX.out.trans (hky.below.mono (by omega)))
  obtain ⟨v, hv1, hv2⟩ := hty.found
  obtain ⟨Av, cv, rfl⟩ := row_val hv2
  have y1 : Y.cell? ⟨w.heap.size + 1, 0, none⟩ = some (.slice Av (WP.txtL K l).length cv) := Lib.cell_of_heap hv1 0
  have HR := Lib.hid (show Y.ownsRow w.heap.size 9 1 (.slice Av (WP.txtL K l).length cv) (WP.txtL K l).length (strCellsL (WP.txtL K l)) from ⟨hv2.1, hv2.2.imp id (fun ⟨g, c, cur, h1, h2, h3⟩ => ⟨g, c, cur, h1, by omega, h3⟩)⟩)
  clear hv1 hv2 hty hky
  go_wp2
  go_ret
  exact ⟨Av, cv, rfl, HY.out, HR.out⟩
theorem Params_any (v : Value) (l : List GP) (w : World) (h : GS w (fun q => q < w.heap.size) v l) (hn : WP.cntL l ≤ 1000000) : Calls Try.prog 29 #[v] w (StrOut w.heap.size w (WP.txtL 4 l)) := by
  obtain ⟨A, cap, rfl⟩ := h.slice
  have HT := Lib.hid (texts_any 4 _ l w h hn)
  clear h hn
  go_enter Try.func29, Try.ntmps29
  go_wp2_with fail
  refine HT.out.mono ?_
  rintro e Y ⟨Av, cv, rfl, hb, hr⟩
  have HB := Lib.hid hb
  have HR := Lib.hid hr
  clear hb hr
  go_wp2
  go_ret
  exact ⟨Av, cv, rfl, HB.out, HR.out⟩
end W
end Go.Proofs.Ytijibooneochjaa
