/- Words: the text of the writer's builder. -/
import Derived.Test.YtlhijlmbfjlglaaG08e
namespace Go.Proofs.Ytlhijlmbfjlglaa
open Go.RowKit K
open WP (GP gp gpL)
namespace W
set_option maxHeartbeats 2000000 in
set_option maxRecDepth 100000 in
theorem stringW (b : Nat) (l : List UInt8) (x : Bool) (w : World) (h : WB b l x w) (hlen : l.length ≤ 100000000) :
    Calls Try.prog 47 #[.pointer (some ⟨b, 0, none⟩)] w fun e w' => e = .returned (.string ⟨l.toArray⟩) ∧ Bkept b w w' := by
  have mixed : Try.prog.follows .mixedOrders = true := by kernel_rfl
  obtain ⟨p, v, -, hb, hr, hn⟩ := h
  by_cases h0 : l = []
  · subst h0
    obtain rfl := hn rfl
    have hUS := Lib.run_unsafeString_none (P := Try.prog)
    have c1 : w.drew.cell? ⟨b, 1, none⟩ = some (.slice none 0 0) := Lib.cell_of_heap (show w.drew.heap[b]? = _ from hb) 1
    have hSD : (Builtin.unsafeSliceData_ #[87] 111 #[.slice none 0 0]).run Try.prog w.drew = .ok (.pointer none) w.drew := rfl
    go_enter Try.func47, Try.ntmps47
    go_wp2
    go_region_o
    all_goals (go_wp2; go_ret; exact ⟨rfl, Below.drew (Below.refl b w), (Lib.OthersKept.refl _ _ w).drew⟩)
  · rcases hr.2 with ⟨_, hz⟩ | ⟨g, cap, cur, hv, hbg, hg, hnc, hcm, hcs, htake⟩
    · exact absurd (List.length_eq_zero_iff.1 hz) h0
    have hl0 : l.length ≠ 0 := by simpa using h0
    subst hv
    have c1 : w.drew.cell? ⟨b, 1, none⟩ = some (.slice (some ⟨g, 0, none⟩) l.length cap) := Lib.cell_of_heap (show w.drew.heap[b]? = _ from hb) 1
    have hSD : (Builtin.unsafeSliceData_ #[87] 111 #[.slice (some ⟨g, 0, none⟩) l.length cap]).run Try.prog w.drew = .ok (.pointer (some ⟨g, 0, none⟩)) w.drew :=
      Lib.run_unsafeSliceData_row _ _ _ _ _ _ (by omega)
    have hUS : (Builtin.unsafeString_ #[111, 3] 9 #[.pointer (some ⟨g, 0, none⟩), .int .i64 l.length]).run Try.prog w.drew = .ok (.string ⟨l.toArray⟩) (w.drew.freeze ⟨g, 0, none⟩ l.length) := by
      refine Lib.run_unsafeString_row w.drew 111 3 9 5 Try.underlying111 cellsByteW g cur.size (by have hg' : w.drew.heap[g]? = some (.cells cur 5 (0, 0)) := hg; simp [World.shape?, hg']) l h0 (by omega) (by omega) ?_
      intro j x hx
      exact hr.cells (g := g) rfl j (.int .u8 x.toNat) (by simp [Lib.byteCells, hx])
    have HBG := Lib.hid hbg
    have HG := Lib.hid hg
    clear hr hb hn hbg hg hnc hcm hcs htake h0
    go_enter Try.func47, Try.ntmps47
    go_wp2
    go_region_o
    all_goals (go_wp2; go_ret; exact ⟨rfl, Lib.below_freeze (Below.drew (Below.refl b w)) (p := ⟨g, 0, none⟩) (by have := HBG.out; show b ≤ g; omega) _, ((Lib.OthersKept.refl _ _ w).drew).freeze ⟨g, 0, none⟩ _ ⟨cur, (0, 0), HG.out⟩⟩)
end W
end Go.Proofs.Ytlhijlmbfjlglaa
