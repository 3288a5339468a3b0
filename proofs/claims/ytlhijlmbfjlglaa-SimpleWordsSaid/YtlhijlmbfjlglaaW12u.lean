/- Chapter 12: the reference's Literal at texts and quoted pieces. -/
import Derived.Test.YtlhijlmbfjlglaaYB
import Derived.Test.YtlhijlmbfjlglaaYF
import Derived.Deep.LoopGhost
namespace Go.Proofs.Ytlhijlmbfjlglaa
open Go.RowKit K
open WP (GP gp gpL)
namespace W
set_option maxRecDepth 100000 in
set_option maxHeartbeats 4000000 in
theorem LitR_any (l : List GP) (v : Value) (w : World) (q : List UInt8) (hk : ∀ p ∈ l, p.kind = 1 ∨ p.kind = 2) (hq : WP.glit l = some q) (hn : l.length ≤ 1000000) (hz : WP.sizL l ≤ 100000) (h : GS w (fun b => b < w.heap.size) v l) :
    Calls Try.prog 15 #[v] w fun e w' => e = .returned (.tuple #[.string ⟨q.toArray⟩, .bool true]) ∧ Below w.heap.size w w' := by
  obtain ⟨A, cap, rfl⟩ := h.slice
  have HG := Lib.hid h
  have HK := Lib.hid hk
  have HQ0 := Lib.hid (show ∃ r, WP.glit (l.drop 0) = some r ∧ [] ++ r = q from ⟨q, hq, rfl⟩)
  have HZ0 := Lib.hid (show ([] : List UInt8).length + WP.sizL (l.drop 0) ≤ 100000 by simpa using hz)
  have hln : (l.length : Int) ≤ 1000000 := by omega
  clear h hk hq hz hn
  go_enter Try.func15, Try.ntmps15
  go_wp2
  go_loopg [4, 5] l.length (fun g o i wr => ∃ (k : Nat) (acc : List UInt8), k ≤ l.length ∧ g = l.length - k ∧ i = .int .i64 k ∧ o = .string ⟨acc.toArray⟩ ∧ Hid (∃ r, WP.glit (l.drop k) = some r ∧ acc ++ r = q) ∧ Hid (acc.length + WP.sizL (l.drop k) ≤ 100000) ∧ Hid (Below w.heap.size w wr))
  case atStart => exact ⟨0, [], Nat.zero_le _, rfl, rfl, rfl, HQ0, HZ0, Lib.hid (Below.refl _ _)⟩
  case round =>
    obtain ⟨k, acc, hkl, rfl, rfl, rfl, HQ, HZ, HB⟩ := hrel
    clear HQ0 HZ0
    by_cases hlt : k < l.length
    · obtain ⟨p, hp, hd⟩ := get_of_lt hlt
      obtain ⟨b, off, A2, cap2, rfl, hb, g0, g1, g2, g3, g4, hg⟩ := (HG.out.kept HB.out).get hp
      have hbr : b < wr.heap.size := Nat.lt_of_lt_of_le hb HB.out.size
      have hlt2 : (k : Int) < (l.length : Int) := by omega
      have hkd := HK.out p (List.mem_of_getElem? hp)
      have hqq := HQ.out
      have hzz := HZ.out
      rw [hd] at hqq hzz
      obtain ⟨kd, t, o, c, ps⟩ := p
      dsimp only [WP.GP.kind, WP.GP.text, WP.GP.op, WP.GP.colon, WP.GP.parts] at g0 g1 g2 g3 g4 hkd
      rw [WP.sizL, WP.sizP] at hzz
      have hq2 : ∃ r, WP.glit (l.drop (k + 1)) = some r ∧ (acc ++ t) ++ r = q := by
        obtain ⟨r, h1, h2⟩ := hqq
        rw [WP.glit, WP.glit1, if_pos hkd] at h1
        cases h3 : WP.glit (l.drop (k + 1)) with
        | none => rw [h3] at h1; exact absurd h1 (by simp)
        | some r' =>
          rw [h3] at h1
          simp at h1
          exact ⟨r', rfl, by rw [← h2, ← h1]; simp⟩
      have HQ2 := Lib.hid hq2
      have HZ2 := Lib.hid (show (acc ++ t).length + WP.sizL (l.drop (k + 1)) ≤ 100000 by rw [List.length_append]; omega)
      have ha1 : acc.length ≤ 100000 := by omega
      have ht1 : t.length ≤ 100000 := by omega
      have hps : (0 : Int) ≤ (ps.length : Int) := by omega
      have HBA := Lib.hid (btr HB.out (balloc wr (.cells #[.int .i64 kd, .string ⟨t.toArray⟩, .int .i64 o, .bool c, .slice A2 ps.length cap2] 77)))
      have HLT := Lib.hid hlt
      clear hp hd hb hg hqq hzz hq2
      rcases hkd with rfl | rfl
      · go_wp2
        go_roundg (l.length - (k + 1))
        case measure => have := HLT.out; omega
        case rel => exact ⟨k + 1, acc ++ t, HLT.out, rfl, by go_num, by simp, HQ2, HZ2, HBA⟩
      · go_wp2
        go_roundg (l.length - (k + 1))
        case measure => have := HLT.out; omega
        case rel => exact ⟨k + 1, acc ++ t, HLT.out, rfl, by go_num, by simp, HQ2, HZ2, HBA⟩
    · have hlt2 : ¬ (k : Int) < (l.length : Int) := by omega
      have hacc : acc = q := by
        obtain ⟨r, h1, h2⟩ := HQ.out
        rw [List.drop_eq_nil_of_le (by omega), WP.glit] at h1
        injection h1 with h1
        subst h1
        rw [← h2, List.append_nil]
      subst hacc
      clear HQ HZ
      go_wp2
      go_ret2
      exact ⟨rfl, HB.out⟩
end W
end Go.Proofs.Ytlhijlmbfjlglaa
