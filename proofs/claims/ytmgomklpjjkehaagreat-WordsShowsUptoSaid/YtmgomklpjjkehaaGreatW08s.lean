/- Chapter 8: the reference's Same at two lists of the same parts (out of my texts on chapter 12). -/
import Derived.Test.YtmgomklpjjkehaaGreatYG
import Derived.Deep.DeepCutAuto
import Derived.Deep.LoopGhost
import Derived.Laws.StructEq
namespace Go.Proofs.YtmgomklpjjkehaaGreat
open Go.RowKit K
open WP (GP gp gpL)
namespace W
theorem blkR {v : World} {b : Nat} {a0 a1 a2 a3 a4 : Value} {t : TypeId} (h : v.heap[b]? = some (.cells #[a0, a1, a2, a3, a4] t (0, 0))) :
    v.cell? ⟨b, 0, none⟩ = some a0 ∧ v.cell? ⟨b, 1, none⟩ = some a1 ∧ v.cell? ⟨b, 2, none⟩ = some a2 ∧ v.cell? ⟨b, 3, none⟩ = some a3 ∧ v.cell? ⟨b, 4, none⟩ = some a4 ∧ v.frozen? ⟨b, 0, none⟩ = false ∧ v.frozen? ⟨b, 1, none⟩ = false ∧ v.frozen? ⟨b, 2, none⟩ = false ∧ v.frozen? ⟨b, 3, none⟩ = false ∧ v.frozen? ⟨b, 4, none⟩ = false :=
  ⟨Lib.cell_of_heap h 0, Lib.cell_of_heap h 1, Lib.cell_of_heap h 2, Lib.cell_of_heap h 3, Lib.cell_of_heap h 4, Lib.frozen_of_heap h 0, Lib.frozen_of_heap h 1, Lib.frozen_of_heap h 2, Lib.frozen_of_heap h 3, Lib.frozen_of_heap h 4⟩
/-- What the reference's Same gives at the same parts, for lists of fewer than n parts. -/
def SameT (n : Nat) : Prop := ∀ (l : List GP) (v u : Value) (w : World), WP.cntL l < n → WP.cntL l ≤ 1000000 → GS w (fun b => b < w.heap.size) v l → GS w (fun b => b < w.heap.size) u l →
  Calls Tryz.prog 28 #[v, u] w fun e w' => e = .returned (.bool true) ∧ Below w.heap.size w w'
set_option maxRecDepth 100000 in
set_option maxHeartbeats 4000000 in
theorem sameT_step {n : Nat} (HC : SameT n) : SameT (n + 1) := by
  intro l v u w hl hn h h'
  obtain ⟨A, cap, rfl⟩ := h.slice
  obtain ⟨B, cap', rfl⟩ := h'.slice
  have HG := Lib.hid h
  have HG' := Lib.hid h'
  have hll := len_cnt l
  have HCC := Lib.hid HC
  have HL := Lib.hid hl
  have HN := Lib.hid hn
  have e1 : ((l.length : Int) != (l.length : Int)) = false := by simp
  have hlm : (l.length : Int) ≤ 1000000 := by omega
  clear h h' HC hl hn
  go_enter Tryz.func28, Tryz.ntmps28
  go_wp2
  go_loopg [5] l.length (fun g i wr => ∃ k : Nat, k ≤ l.length ∧ g = l.length - k ∧ i = .int .i64 k ∧ Hid (Below w.heap.size w wr))
  case atStart => exact ⟨0, Nat.zero_le _, rfl, rfl, Lib.hid (Below.refl _ _)⟩
  case round =>
    obtain ⟨k, hk, rfl, rfl, HB⟩ := hrel
    by_cases hlt : k < l.length
    · obtain ⟨p, hp, hd⟩ := get_of_lt hlt
      obtain ⟨b, off, A2, cap2, rfl, hb, g0, g1, g2, g3, g4, hg⟩ := (HG.out.kept HB.out).get hp
      obtain ⟨b', off', B2, cap3, rfl, hb', g0', g1', g2', g3', g4', hg'⟩ := (HG'.out.kept HB.out).get hp
      have hbr : b < wr.heap.size := Nat.lt_of_lt_of_le hb HB.out.size
      have hbr' : b' < wr.heap.size := Nat.lt_of_lt_of_le hb' HB.out.size
      have HCL := Lib.hid (fun (V : World) (hV : Below wr.heap.size wr V) => HCC.out p.parts _ _ V (by have := cnt_get hp; have := HL.out; omega) (by have := cnt_get hp; have := HN.out; omega) (hg.up hV) (hg'.up hV))
      have hlt2 : (k : Int) < (l.length : Int) := by omega
      clear hp hd hb hb' hg hg'
      have hps : (0 : Int) ≤ (p.parts.length : Int) := by omega
      obtain ⟨kd, t, o, c, ps⟩ := p
      dsimp only [WP.GP.kind, WP.GP.text, WP.GP.op, WP.GP.colon, WP.GP.parts] at g0 g1 g2 g3 g4 g0' g1' g2' g3' g4' HCL hps
      go_upto_region 6 with (fail)
      go_cut [6, 7] (fun x y wx => ∃ q r : Nat, x = .pointer (some ⟨q, 0, none⟩) ∧ y = .pointer (some ⟨r, 0, none⟩) ∧ Hid (Below wr.heap.size wr wx) ∧
        Hid (wx.heap[q]? = some (.cells #[.int .i64 kd, .string ⟨t.toArray⟩, .int .i64 o, .bool c, .slice A2 ps.length cap2] 38 (0, 0))) ∧ Hid (wx.heap[r]? = some (.cells #[.int .i64 kd, .string ⟨t.toArray⟩, .int .i64 o, .bool c, .slice B2 ps.length cap3] 38 (0, 0))))
      case first =>
        go_region
        all_goals (repeat go_step)
        all_goals go_meet
        all_goals first
          | exact ⟨_, _, rfl, rfl, Lib.hid (btr (balloc _ _) (balloc _ _)).drew, Lib.hid (((balloc _ _).block _ (by simp)).trans (al_new wr _)), Lib.hid (al_new' _ _ _ (by simp))⟩
          | exact ⟨_, _, rfl, rfl, Lib.hid (btr (balloc _ _) (balloc _ _)).drew, Lib.hid (al_new' _ _ _ (by simp)), Lib.hid (((balloc _ _).block _ (by simp)).trans (al_new wr _))⟩
      case rest =>
        obtain ⟨q, r, rfl, rfl, HBX, HQ, HR⟩ := hcut
        obtain ⟨y0, y1, y2, y3, y4, -, -, -, -, -⟩ := blkR HQ.out
        obtain ⟨z0, z1, z2, z3, z4, -, -, -, -, -⟩ := blkR HR.out
        have HCX := Lib.hid (HCL.out wc HBX.out)
        clear g0 g1 g2 g3 g4 g0' g1' g2' g3' g4'
        go_wp2_with fail
        refine HCX.out.mono ?_
        rintro e Y ⟨rfl, hby⟩
        have HBY := Lib.hid (HB.out.trans ((HBX.out.trans (hby.mono HBX.out.size)).mono HB.out.size))
        clear hby
        go_wp2
        go_roundg (l.length - (k + 1))
        case measure => omega
        case rel => exact ⟨k + 1, hlt, rfl, by go_num, HBY⟩
    · have hlt2 : ¬ (k : Int) < (l.length : Int) := by omega
      go_wp2
      go_ret
      exact ⟨rfl, HB.out⟩
theorem sameT_all : ∀ n, SameT n
  | 0 => fun _ _ _ _ h => absurd h (Nat.not_lt_zero _)
  | n + 1 => sameT_step (sameT_all n)
theorem SameR_any (l : List GP) (v u : Value) (w : World) (hn : WP.cntL l ≤ 1000000) (h : GS w (fun b => b < w.heap.size) v l) (h' : GS w (fun b => b < w.heap.size) u l) :
    Calls Tryz.prog 28 #[v, u] w fun e w' => e = .returned (.bool true) ∧ Below w.heap.size w w' := sameT_all _ l v u w (Nat.lt_succ_self _) hn h h'
end W
end Go.Proofs.YtmgomklpjjkehaaGreat
