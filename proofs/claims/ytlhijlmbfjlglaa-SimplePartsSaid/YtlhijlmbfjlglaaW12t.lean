/- Chapter 12: SameRedirs at one redirection. -/
import Derived.Test.YtlhijlmbfjlglaaW12p
import Derived.StillTailTactics
namespace Go.Proofs.Ytlhijlmbfjlglaa
open Go.RowKit K
open WP (GP gp gpL)
namespace W
set_option maxRecDepth 100000 in
set_option maxHeartbeats 4000000 in
/-- SameRedirs at one redirection and one that is like it. -/
theorem SameRedirs_one (l : List GP) (w : World) (hn : WP.cntL l ≤ 1000000) (qa qb off m cap cap' ca cb : Nat) (A B : Option Addr) (fd op : Int) (a1 : w.cell? ⟨qa, 1, none⟩ = some (.int .i64 fd)) (a2 : w.cell? ⟨qa, 2, none⟩ = some (.int .i64 op)) (a4 : w.cell? ⟨qa, 4, none⟩ = some (.slice A m cap))
    (b1 : w.cell? ⟨qb, off + 1, none⟩ = some (.int .i64 fd)) (b2 : w.cell? ⟨qb, off + 2, none⟩ = some (.int .i64 op)) (b4 : w.cell? ⟨qb, off + 4, none⟩ = some (.slice B m cap')) (h : GS w (fun b => b < w.heap.size) (.slice A m cap) l) (h' : GS w (fun b => b < w.heap.size) (.slice B m cap') l) :
    Calls Try.prog 11 #[.slice (some ⟨qa, 0, none⟩) 1 ca, .slice (some ⟨qb, off, none⟩) 1 cb] w fun e w' => e = .returned (.bool true) ∧ Below w.heap.size w w' := by
  have HS := Lib.hid (SameR_any l _ _ w.drew hn (GS.mono (w := w) (w' := w.drew) (F' := fun b => b < w.drew.heap.size) (fun b h1 _ => ⟨h1, rfl⟩) h) (GS.mono (w := w) (w' := w.drew) (F' := fun b => b < w.drew.heap.size) (fun b h1 _ => ⟨h1, rfl⟩) h'))
  have f1 : (fd != fd) = false := by simp
  have f2 : (op != op) = false := by simp
  have m0 : (0 : Int) ≤ (m : Int) := by omega
  clear h h' hn
  go_enter Try.func11, Try.ntmps11
  go_wp2
  go_loopg [5] 1 (fun g i wr => (g = 1 ∧ i = .int .i64 0 ∧ wr = w) ∨ (g = 0 ∧ i = .int .i64 1 ∧ Hid (Below w.heap.size w wr)))
  case atStart => exact .inl ⟨rfl, rfl, rfl⟩
  case round =>
    rcases hrel with ⟨rfl, rfl, rfl⟩ | ⟨rfl, rfl, HB⟩
    · go_upto_region 6 with (fail)
      refine wp_region_still_tail 37 (by kernel_rfl) (by kernel_rfl) ?_
      simp only [List.take_succ_cons, List.take_zero, List.drop_succ_cons, List.drop_zero]
      repeat still_step
      refine wpStill_nil ?_
      change wpList _ _ _ _ _ (World.drew _)
      go_wp2_with fail
      refine HS.out.mono ?_
      rintro e Y ⟨rfl, hb⟩
      have HB := Lib.hid (show Below wr.heap.size wr Y from ((Below.refl wr.heap.size wr).drew).trans hb)
      clear hb a1 a2 a4 b1 b2 b4
      go_wp2
      go_roundg 0
      case measure => omega
      case rel => exact .inr ⟨rfl, by go_num, HB⟩
    · go_wp2
      go_ret
      exact ⟨rfl, HB.out⟩
end W
end Go.Proofs.Ytlhijlmbfjlglaa
