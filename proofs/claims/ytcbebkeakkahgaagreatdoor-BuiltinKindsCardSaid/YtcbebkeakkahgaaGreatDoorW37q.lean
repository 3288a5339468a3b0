/- Built-in commands: getopts.All where there is no option. -/
import Derived.Test.YtcbebkeakkahgaaGreatDoorW37p
namespace Go.Proofs.YtcbebkeakkahgaaGreatDoor
open Go.RowKit K
namespace W
set_option maxRecDepth 100000
set_option maxHeartbeats 4000000 in
theorem All_stop (s : List UInt8) (hV : ∀ v, Calls Tryz.prog 125 #[.string ⟨s.toArray⟩] v fun e w' => e = .returned (.int .i64 0) ∧ Below v.heap.size v w') (GA : Option Addr) (n gc : Nat) (wd : List UInt8) (w : World) (hw : NoOpt w GA n wd) :
    Calls Tryz.prog 98 #[.string ⟨s.toArray⟩, .slice GA n gc] w fun e w' => e = .returned (.tuple #[.slice none 0 0, .int .i64 0, .int .i64 0]) ∧ Below w.heap.size w w' := by
  have HN := Lib.hid (fun V (hb : Below w.heap.size w V) => Next_stop s hV GA n gc wd V (by
    obtain ⟨h1, h2, h3⟩ := hw
    refine ⟨?_, h2, h3⟩
    rcases h1 with h1 | ⟨h1, b, off, h4, h5, h6⟩
    · exact .inl h1
    · exact .inr ⟨h1, b, off, h4, Nat.lt_of_lt_of_le h5 hb.size, (hb.cell (p := ⟨b, off, none⟩) h5).trans h6⟩))
  clear hV hw
  go_enter Tryz.func98, Tryz.ntmps98
  obtain ⟨X, hX⟩ : ∃ X, X = w.alloc (.cells #[.int .i64 1, .int .i64 0] 24) := ⟨_, rfl⟩
  have HX := Lib.hid hX
  have hx0 : X.heap[w.heap.size]? = some (.cells #[.int .i64 1, .int .i64 0] 24 (0, 0)) := by rw [hX]; exact al_new w _
  have HX0 := Lib.hid hx0
  have HB := Lib.hid (show Below w.heap.size w X by rw [hX]; exact balloc _ _)
  have hsx : X.heap.size = w.heap.size + 1 := by rw [hX]; simp
  clear hX hx0
  go_upto_region 2 with (fail)
  go_wp2
  rw [← HX.out]
  have HNX := Lib.hid (HN.out X HB.out)
  go_loopg [7] 1 (fun g x wr => g = 1 ∧ x = .slice none 0 0 ∧ wr = X)
  case atStart => exact ⟨rfl, rfl, rfl⟩
  case round =>
    obtain ⟨rfl, rfl, hwr⟩ := hrel
    obtain rfl : X = wr := hwr.symm
    have e0 : X.cell? ⟨w.heap.size, 0, none⟩ = some (.int .i64 1) := Lib.cell_of_heap HX0.out 0
    have e1 : X.cell? ⟨w.heap.size, 1, none⟩ = some (.int .i64 0) := Lib.cell_of_heap HX0.out 1
    go_wp2_with fail
    refine HNX.out.mono ?_
    rintro e Y ⟨rfl, hy⟩
    obtain ⟨Z, hZ⟩ : ∃ Z, Z = (Y.alloc (.cells #[.string ⟨#[63]⟩, .string ⟨#[]⟩, .int .i64 1, .string ⟨#[]⟩] 123)).alloc (.cells #[.int .i64 1, .int .i64 0] 24) := ⟨_, rfl⟩
    have HZ := Lib.hid hZ
    have hsy := hy.size
    have hbz : Below Y.heap.size Y Z := by rw [hZ]; exact btr (balloc _ _) (balloc _ _)
    have hza : Z.heap[w.heap.size]? = some (.cells #[.int .i64 1, .int .i64 0] 24 (0, 0)) := (hbz.block _ (by omega)).trans ((hy.block _ (by omega)).trans HX0.out)
    have hz1 : Z.heap[Y.heap.size]? = some (.cells #[.string ⟨#[63]⟩, .string ⟨#[]⟩, .int .i64 1, .string ⟨#[]⟩] 123 (0, 0)) := by
      rw [hZ, (balloc _ _).block _ (by simp)]; exact al_new Y _
    have hz2 : Z.heap[Y.heap.size + 1]? = some (.cells #[.int .i64 1, .int .i64 0] 24 (0, 0)) := by
      rw [hZ]; exact al_new' _ _ _ (by simp)
    have d0 : Z.cell? ⟨w.heap.size, 0, none⟩ = some (.int .i64 1) := Lib.cell_of_heap hza 0
    have d1 : Z.cell? ⟨w.heap.size, 1, none⟩ = some (.int .i64 0) := Lib.cell_of_heap hza 1
    have d2 : Z.cell? ⟨Y.heap.size, 2, none⟩ = some (.int .i64 1) := Lib.cell_of_heap hz1 2
    have d3 : Z.cell? ⟨Y.heap.size + 1, 0, none⟩ = some (.int .i64 1) := Lib.cell_of_heap hz2 0
    have d4 : Z.cell? ⟨Y.heap.size + 1, 1, none⟩ = some (.int .i64 0) := Lib.cell_of_heap hz2 1
    have d5 : Z.frozen? ⟨w.heap.size, 0, none⟩ = false := by simp [World.frozen?, hza]
    have d6 : Z.frozen? ⟨w.heap.size, 1, none⟩ = false := by simp [World.frozen?, hza]
    have hne : ¬ Y.heap.size = w.heap.size := by omega
    have HBZ := Lib.hid (show Below w.heap.size w Z from btr HB.out (btr hy hbz))
    have HZA := Lib.hid hza
    clear hZ hbz hza hz1 hz2 hy
    go_upto_region 4 with (fail)
    rw [← HZ.out]
    go_upto_region 7 with (fail)
    obtain ⟨Z2, hZ2⟩ : ∃ Z2, Z2 = (Z.setCell ⟨w.heap.size, 0, none⟩ (.int .i64 1)).setCell ⟨w.heap.size, 1, none⟩ (.int .i64 0) := ⟨_, rfl⟩
    have HZ2 := Lib.hid hZ2
    have HB2 := Lib.hid (show Below w.heap.size w Z2 by
      rw [hZ2]
      exact (HBZ.out.setCell (p := ⟨w.heap.size, 0, none⟩) (Nat.le_refl _) (.int .i64 1)).setCell (p := ⟨w.heap.size, 1, none⟩) (Nat.le_refl _) (.int .i64 0))
    have hc2 : Z2.cell? ⟨Y.heap.size, 2, none⟩ = some (.int .i64 1) := by
      rw [hZ2, World.cell?_of_block (Below.heap_setCell _ ⟨w.heap.size, 1, none⟩ _ Y.heap.size (by dsimp only; omega)), World.cell?_of_block (Below.heap_setCell _ ⟨w.heap.size, 0, none⟩ _ Y.heap.size (by dsimp only; omega))]
      exact d2
    have hc0 : Z2.cell? ⟨w.heap.size, 0, none⟩ = some (.int .i64 1) := by
      rw [hZ2]
      exact Lib.cell_of_heap (heap_setCell_same _ _ 1 _ _ _ (heap_setCell_same _ _ 0 _ _ _ HZA.out)) 0
    clear hZ2 d0 d1 d2 d3 d4 d5 d6 e0 e1
    rw [← HZ2.out]
    go_wp2
    go_quiet (fail)
    go_wp2
    go_ret3
    exact ⟨rfl, bdN HB2.out _⟩
end W
end Go.Proofs.YtcbebkeakkahgaaGreatDoor
