/- Chapter 8: the law WordsShows. -/
import Derived.Test.YtmgomklpjjkehaaGreatV08
import Derived.Test.YtmgomklpjjkehaaGreatW08p
import Derived.Test.YtmgomklpjjkehaaGreatR08zb
namespace Go.Proofs.YtmgomklpjjkehaaGreat
open Go.RowKit K
open WP (GP gp gpL)
namespace W
set_option maxRecDepth 100000
theorem few_any (l : List GP) (v : Value) (w : World) (h : GS w (fun b => b < w.heap.size) v l) (hn : WP.cntL l ≤ 2000000) (hz : WP.sizL l ≤ 2000000) :
    Calls Tryz.prog 4 #[v] w fun e w' => e = .returned (.bool (decide (WP.cntL l ≤ 200 ∧ WP.sizL l ≤ 1000))) ∧ Below w.heap.size w w' := by
  obtain ⟨A, cap, rfl⟩ := h.slice
  have HC := Lib.hid (count_all (WP.cntL l + 1) l _ w (Nat.lt_succ_self _) hn hz h)
  generalize WP.cntL l = c at *
  generalize WP.sizL l = z at *
  generalize hl : l.length = n at *
  clear h hn hz hl
  by_cases h1 : c ≤ 200
  · by_cases h2 : z ≤ 1000
    · have q1 : ((c : Int) ≤ 200) = True := eq_true (by omega)
      have q2 : ((z : Int) ≤ 1000) = True := eq_true (by omega)
      have q3 : decide (c ≤ 200 ∧ z ≤ 1000) = true := decide_eq_true ⟨h1, h2⟩
      rw [q3]
      clear h1 h2 q3
      go_enter Tryz.func4, Tryz.ntmps4
      go_wp2_with fail
      refine HC.out.mono ?_
      rintro e w1 ⟨rfl, hb⟩
      have HB := Lib.hid hb
      clear hb
      go_wp2
      go_ret
      exact ⟨rfl, HB.out⟩
    · have q1 : ((c : Int) ≤ 200) = True := eq_true (by omega)
      have q2 : ((z : Int) ≤ 1000) = False := eq_false (by omega)
      have q3 : decide (c ≤ 200 ∧ z ≤ 1000) = false := decide_eq_false (fun h => h2 h.2)
      rw [q3]
      clear h1 h2 q3
      go_enter Tryz.func4, Tryz.ntmps4
      go_wp2_with fail
      refine HC.out.mono ?_
      rintro e w1 ⟨rfl, hb⟩
      have HB := Lib.hid hb
      clear hb
      go_wp2
      go_ret
      exact ⟨rfl, HB.out⟩
  · have q1 : ((c : Int) ≤ 200) = False := eq_false (by omega)
    have q3 : decide (c ≤ 200 ∧ z ≤ 1000) = false := decide_eq_false (fun h => h1 h.1)
    rw [q3]
    clear h1 q3
    go_enter Tryz.func4, Tryz.ntmps4
    go_wp2_with fail
    refine HC.out.mono ?_
    rintro e w1 ⟨rfl, hb⟩
    have HB := Lib.hid hb
    clear hb
    go_wp2
    go_ret
    exact ⟨rfl, HB.out⟩
set_option maxHeartbeats 4000000 in
theorem WordsShows_any (hB : BrAll) (v : Value) (l : List GP) (w : World) (h : HS w (fun b => b < w.heap.size) v l) (hn : WP.cntL l ≤ 1048576) (hz : WP.sizL l ≤ 1048576) :
    Calls Tryz.prog 3 #[v] w fun e w' => e = .returned (.bool true) ∧ Below w.heap.size w w' := by
  have HAW := Lib.hid (fun V => awake8_any hB V)
  have HF := Lib.hid (few_any l v w h.gs (by omega) (by omega))
  obtain ⟨A, cap, rfl, hcap⟩ := h.slice
  by_cases hf : WP.cntL l ≤ 200 ∧ WP.sizL l ≤ 1000
  case neg =>
    rw [decide_eq_false hf] at HF
    generalize l.length = n at *
    clear hB h hn hz hf hcap
    go_enter Tryz.func3, Tryz.ntmps3
    go_wp2_with fail
    refine HF.out.mono ?_
    rintro e w1 ⟨rfl, hb⟩
    have HB := Lib.hid hb
    clear hb
    go_wp2_with fail
    refine (HAW.out _).mono ?_
    rintro e w2 ⟨rfl, hb⟩
    have HB2 := Lib.hid (btr HB.out hb)
    clear hb
    go_wp2
    go_ret
    exact ⟨rfl, HB2.out⟩
  case pos =>
  rw [decide_eq_true hf] at HF
  have HSP := Lib.hid (fun V (hV : Below w.heap.size w V) => Show_any hB _ l V (h.up hV).gs (by omega))
  have HVP := Lib.hid (fun V (hV : Below w.heap.size w V) => Valid_any hB _ l V (h.up hV).gs (by omega))
  have HSR := Lib.hid (fun V (hV : Below w.heap.size w V) => Show_ref l _ V (h.up hV) (by omega))
  rw [RS.show_eq l (by omega)] at HSP HVP
  obtain ⟨⟨s, x⟩, hQ⟩ : ∃ Q, RS.showR l = Q := ⟨_, rfl⟩
  rw [hQ] at HSP HVP HSR
  dsimp only at HSP HVP HSR
  generalize l.length = n at *
  clear hB h hn hz hf hQ hcap
  go_enter Tryz.func3, Tryz.ntmps3
  go_wp2_with fail
  refine HF.out.mono ?_
  rintro e w1 ⟨rfl, hb⟩
  have HB1 := Lib.hid hb
  clear hb
  go_wp2_with fail
  refine (HSP.out _ HB1.out).mono ?_
  rintro e w2 ⟨rfl, hb⟩
  have HB2 := Lib.hid (btr HB1.out hb)
  clear hb
  go_wp2_with fail
  refine (HSR.out _ HB2.out).mono ?_
  rintro e w3 ⟨rfl, hb⟩
  have HB3 := Lib.hid (btr HB2.out hb)
  clear hb
  go_wp2_with fail
  refine (HVP.out _ HB3.out).mono ?_
  rintro e w4 ⟨rfl, hb⟩
  have HB4 := Lib.hid (btr HB3.out hb)
  clear hb
  go_wp2_with fail
  refine (HAW.out _).mono ?_
  rintro e w5 ⟨rfl, hb⟩
  have HB5 := Lib.hid (btr HB4.out hb)
  clear hb
  go_wp2
  go_ret
  exact ⟨rfl, HB5.out⟩
theorem WordsShows_all (v : Value) (l : List GP) (w : World) (h : HS w (fun b => b < w.heap.size) v l) (hn : WP.cntL l ≤ 1048576) (hz : WP.sizL l ≤ 1048576) :
    Calls Tryz.prog 3 #[v] w fun e w' => e = .returned (.bool true) ∧ Below w.heap.size w w' := WordsShows_any brAll v l w h hn hz
end W
end Go.Proofs.YtmgomklpjjkehaaGreat
