/- Chapter 29: the law TestexprOpposites, walked. -/
import Derived.Test.YtmccfdmnidbalaaDoorW29r
namespace Go.Proofs.YtmccfdmnidbalaaDoor
open Go.RowKit K
namespace P
theorem bin3_text (a b : Str) : bin3 a [61] b = (a == b, 0) ∧ bin3 a [33, 61] b = (a != b, 0) := ⟨rfl, rfl⟩
theorem bin3_opp (a b op op' : Str) (h1 : text? op = false) (h2 : text? op' = false) (hc : ∀ m n, cmpV op' m n = !(cmpV op m n)) : (bin3 a op b = (false, 1) ∧ bin3 a op' b = (false, 1)) ∨ ∃ v, bin3 a op b = (v, 0) ∧ bin3 a op' b = (!v, 0) := by
  have n1 : ¬ op = [61] ∧ ¬ op = [33, 61] := by unfold text? at h1; simp at h1; exact h1
  have n2 : ¬ op' = [61] ∧ ¬ op' = [33, 61] := by unfold text? at h2; simp at h2; exact h2
  unfold bin3 binI binV
  rw [h1, h2, if_neg n1.1, if_neg n1.2, if_neg n2.1, if_neg n2.2]
  cases intP a with
  | none => left; simp
  | some m =>
    cases intP b with
    | none => left; simp
    | some n => right; exact ⟨cmpV op m n, rfl, by simp [hc]⟩
theorem opp1 (m n : Int) : cmpV [45, 110, 101] m n = !(cmpV [45, 101, 113] m n) := by simp [cmpV]
theorem opp2 (m n : Int) : cmpV [45, 103, 101] m n = !(cmpV [45, 108, 116] m n) := by
  simp [cmpV]
  by_cases h : m < n
  · have : ¬ n ≤ m := by omega
    simp [h, this]
  · have : n ≤ m := by omega
    simp [h, this]
theorem opp3 (m n : Int) : cmpV [45, 108, 101] m n = !(cmpV [45, 103, 116] m n) := by
  simp [cmpV]
  by_cases h : n < m
  · have : ¬ m ≤ n := by omega
    simp [h, this]
  · have : m ≤ n := by omega
    simp [h, this]
end P
namespace W
set_option maxHeartbeats 4000000 in
set_option maxRecDepth 100000 in
theorem TestexprOpposites_any (a b : List UInt8) (w : World) (hw : Env w) :
    Calls Tryd.prog 4 #[.string ⟨a.toArray⟩, .string ⟨b.toArray⟩] w fun e w' => e = .returned (.bool true) ∧ Below w.heap.size w w' := by
  have HA := Lib.hid (fun w' (hb : Below w.heap.size w w') => awake_any w' (hw.below hb))
  by_cases h1 : 40 < a.length
  · have e1 : ((40 : Int) < (a.length : Int)) = True := eq_true (by omega)
    clear hw h1
    go_enter Tryd.func4, Tryd.ntmps4
    go_wp2_with fail
    refine (HA.out w (Below.refl _ _)).mono ?_
    rintro e w1 ⟨rfl, hb1⟩
    have HB := Lib.hid hb1
    clear hb1
    go_wp2
    go_ret
    exact ⟨rfl, HB.out⟩
  have e1 : ((40 : Int) < (a.length : Int)) = False := eq_false (by omega)
  by_cases h2 : 40 < b.length
  · have e2 : ((40 : Int) < (b.length : Int)) = True := eq_true (by omega)
    clear hw h1 h2
    go_enter Tryd.func4, Tryd.ntmps4
    go_wp2_with fail
    refine (HA.out w (Below.refl _ _)).mono ?_
    rintro e w1 ⟨rfl, hb1⟩
    have HB := Lib.hid hb1
    clear hb1
    go_wp2
    go_ret
    exact ⟨rfl, HB.out⟩
  have e2 : ((40 : Int) < (b.length : Int)) = False := eq_false (by omega)
  have HEV := Lib.hid (fun op (ho : P.isBin op = true) w' (hb : Below w.heap.size w w') => eval_any w' a op b (hw.below hb) ho (by omega) (by omega))
  unfold EPost at HEV
  obtain ⟨x, hx⟩ : ∃ x, x = w.alloc (.cells #[.string ⟨#[61]⟩, .string ⟨#[45, 101, 113]⟩, .string ⟨#[45, 108, 116]⟩, .string ⟨#[45, 103, 116]⟩] 9) := ⟨_, rfl⟩
  obtain ⟨y, hy⟩ : ∃ y, y = x.alloc (.cells #[.string ⟨#[33, 61]⟩, .string ⟨#[45, 110, 101]⟩, .string ⟨#[45, 103, 101]⟩, .string ⟨#[45, 108, 101]⟩] 9) := ⟨_, rfl⟩
  have hsx : x.heap.size = w.heap.size + 1 := by rw [hx]; simp
  have HLX := Lib.hid (show x.heap[w.heap.size]? = some (.cells #[.string ⟨#[61]⟩, .string ⟨#[45, 101, 113]⟩, .string ⟨#[45, 108, 116]⟩, .string ⟨#[45, 103, 116]⟩] 9 (0, 0)) by rw [hx]; exact heap_alloc_new w _)
  have HLY := Lib.hid (show y.heap[x.heap.size]? = some (.cells #[.string ⟨#[33, 61]⟩, .string ⟨#[45, 110, 101]⟩, .string ⟨#[45, 103, 101]⟩, .string ⟨#[45, 108, 101]⟩] 9 (0, 0)) by rw [hy]; exact heap_alloc_new x _)
  have HBX := Lib.hid (show Below w.heap.size w x by rw [hx]; exact balloc _ _)
  have HBY := Lib.hid (show Below x.heap.size x y by rw [hy]; exact balloc _ _)
  have hly : x.heap.size < y.heap.size := by rw [hy]; simp
  have HLX2 := Lib.hid ((HBY.out.block w.heap.size (by omega)).trans HLX.out)
  rw [hsx] at HLY hly
  have HX := Lib.hid hx
  have HY := Lib.hid hy
  have HLT := Lib.hid hly
  have HBW := Lib.hid (btr HBX.out HBY.out)
  clear hw h1 h2 hx hy hsx HLX HBX HBY
  go_enter Tryd.func4, Tryd.ntmps4
  go_wp2
  rw [← HX.out, ← HY.out]
  clear HX HY
  go_loopw [7] (fun i wr => ∃ k : Nat, k ≤ 4 ∧ i = .int .i64 k ∧ Below y.heap.size y wr) (fun i _ => 4 - (intOf i).toNat)
  case atStart => exact ⟨0, by omega, rfl, Below.refl _ _⟩
  case round =>
    obtain ⟨k, hk, rfl, hbw⟩ := hrel
    have HBw := Lib.hid hbw
    have hxw := (hbw.block w.heap.size (by omega)).trans HLX2.out
    have hyw := (hbw.block (w.heap.size + 1) hly).trans HLY.out
    have HXW := Lib.hid hxw
    have HYW := Lib.hid hyw
    clear hbw
    have hcase : k = 0 ∨ k = 1 ∨ k = 2 ∨ k = 3 ∨ k = 4 := by omega
    rcases hcase with rfl | rfl | rfl | rfl | rfl
    · have c1 : wr.cell? ⟨w.heap.size, 0, none⟩ = some (.string ⟨#[61]⟩) := Lib.cell_of_heap hxw 0
      clear hxw hyw
      have HE1 := Lib.hid (HEV.out [61] rfl wr (btr HBW.out HBw.out))
      have HE2 := Lib.hid (fun w1 (hb : Below wr.heap.size wr w1) => HEV.out [33, 61] rfl w1 (btr HBW.out (btr HBw.out hb)))
      have HC2 := Lib.hid (fun w1 (hb : Below wr.heap.size wr w1) => show w1.cell? ⟨w.heap.size + 1, 0, none⟩ = some (.string ⟨#[33, 61]⟩) from (hb.cell (p := ⟨w.heap.size + 1, 0, none⟩) (Array.getElem?_eq_some_iff.1 HYW.out).1).trans (Lib.cell_of_heap HYW.out 0))
      rw [(P.bin3_text a b).1] at HE1
      rw [(P.bin3_text a b).2] at HE2
      by_cases hab : a = b
      · have g1 : (a == b) = true := by simp [hab]
        have g2 : (a != b) = false := by simp [hab]
        rw [g1] at HE1
        rw [g2] at HE2
        clear hab
        go_wp2_with fail
        refine HE1.out.mono ?_
        rintro e w1 ⟨rfl, hb1⟩
        have HB1 := Lib.hid hb1
        have c2 := HC2.out w1 hb1
        have HE2' := Lib.hid (HE2.out w1 hb1)
        clear hb1
        simp only
        go_wp2_with fail
        refine HE2'.out.mono ?_
        rintro e w2 ⟨rfl, hb2⟩
        have HB2 := Lib.hid (btr HBw.out (btr HB1.out hb2))
        clear hb2
        simp only
        go_wp2
        go_roundw
        case rel => exact ⟨0 + 1, by omega, by go_num, HB2.out⟩
        case measure => simp [intOf]
      · have g1 : (a == b) = false := by simp [hab]
        have g2 : (a != b) = true := by simp [hab]
        rw [g1] at HE1
        rw [g2] at HE2
        clear hab
        go_wp2_with fail
        refine HE1.out.mono ?_
        rintro e w1 ⟨rfl, hb1⟩
        have HB1 := Lib.hid hb1
        have c2 := HC2.out w1 hb1
        have HE2' := Lib.hid (HE2.out w1 hb1)
        clear hb1
        simp only
        go_wp2_with fail
        refine HE2'.out.mono ?_
        rintro e w2 ⟨rfl, hb2⟩
        have HB2 := Lib.hid (btr HBw.out (btr HB1.out hb2))
        clear hb2
        simp only
        go_wp2
        go_roundw
        case rel => exact ⟨0 + 1, by omega, by go_num, HB2.out⟩
        case measure => simp [intOf]
    · have c1 : wr.cell? ⟨w.heap.size, 1, none⟩ = some (.string ⟨#[45, 101, 113]⟩) := Lib.cell_of_heap hxw 1
      clear hxw hyw
      have HE1 := Lib.hid (HEV.out [45, 101, 113] rfl wr (btr HBW.out HBw.out))
      have HE2 := Lib.hid (fun w1 (hb : Below wr.heap.size wr w1) => HEV.out [45, 110, 101] rfl w1 (btr HBW.out (btr HBw.out hb)))
      have HC2 := Lib.hid (fun w1 (hb : Below wr.heap.size wr w1) => show w1.cell? ⟨w.heap.size + 1, 1, none⟩ = some (.string ⟨#[45, 110, 101]⟩) from (hb.cell (p := ⟨w.heap.size + 1, 1, none⟩) (Array.getElem?_eq_some_iff.1 HYW.out).1).trans (Lib.cell_of_heap HYW.out 1))
      rcases P.bin3_opp a b [45, 101, 113] [45, 110, 101] rfl rfl P.opp1 with ⟨p1, p2⟩ | ⟨v, p1, p2⟩
      · rw [p1] at HE1
        rw [p2] at HE2
        clear p1 p2
        go_wp2_with fail
        refine HE1.out.mono ?_
        rintro e w1 ⟨rfl, hb1⟩
        have HB1 := Lib.hid hb1
        have c2 := HC2.out w1 hb1
        have HE2' := Lib.hid (HE2.out w1 hb1)
        clear hb1
        simp only
        go_wp2_with fail
        refine HE2'.out.mono ?_
        rintro e w2 ⟨rfl, hb2⟩
        have HB2 := Lib.hid (btr HBw.out (btr HB1.out hb2))
        clear hb2
        simp only
        go_wp2
        go_roundw
        case rel => exact ⟨1 + 1, by omega, by go_num, HB2.out⟩
        case measure => simp [intOf]
      · rw [p1] at HE1
        rw [p2] at HE2
        clear p1 p2
        cases v
        all_goals
          go_wp2_with fail
          refine HE1.out.mono ?_
          rintro e w1 ⟨rfl, hb1⟩
          have HB1 := Lib.hid hb1
          have c2 := HC2.out w1 hb1
          have HE2' := Lib.hid (HE2.out w1 hb1)
          clear hb1
          simp only
          go_wp2_with fail
          refine HE2'.out.mono ?_
          rintro e w2 ⟨rfl, hb2⟩
          have HB2 := Lib.hid (btr HBw.out (btr HB1.out hb2))
          clear hb2
          simp only
          go_wp2
          go_roundw
          case rel => exact ⟨1 + 1, by omega, by go_num, HB2.out⟩
          case measure => simp [intOf]
    · have c1 : wr.cell? ⟨w.heap.size, 2, none⟩ = some (.string ⟨#[45, 108, 116]⟩) := Lib.cell_of_heap hxw 2
      clear hxw hyw
      have HE1 := Lib.hid (HEV.out [45, 108, 116] rfl wr (btr HBW.out HBw.out))
      have HE2 := Lib.hid (fun w1 (hb : Below wr.heap.size wr w1) => HEV.out [45, 103, 101] rfl w1 (btr HBW.out (btr HBw.out hb)))
      have HC2 := Lib.hid (fun w1 (hb : Below wr.heap.size wr w1) => show w1.cell? ⟨w.heap.size + 1, 2, none⟩ = some (.string ⟨#[45, 103, 101]⟩) from (hb.cell (p := ⟨w.heap.size + 1, 2, none⟩) (Array.getElem?_eq_some_iff.1 HYW.out).1).trans (Lib.cell_of_heap HYW.out 2))
      rcases P.bin3_opp a b [45, 108, 116] [45, 103, 101] rfl rfl P.opp2 with ⟨p1, p2⟩ | ⟨v, p1, p2⟩
      · rw [p1] at HE1
        rw [p2] at HE2
        clear p1 p2
        go_wp2_with fail
        refine HE1.out.mono ?_
        rintro e w1 ⟨rfl, hb1⟩
        have HB1 := Lib.hid hb1
        have c2 := HC2.out w1 hb1
        have HE2' := Lib.hid (HE2.out w1 hb1)
        clear hb1
        simp only
        go_wp2_with fail
        refine HE2'.out.mono ?_
        rintro e w2 ⟨rfl, hb2⟩
        have HB2 := Lib.hid (btr HBw.out (btr HB1.out hb2))
        clear hb2
        simp only
        go_wp2
        go_roundw
        case rel => exact ⟨2 + 1, by omega, by go_num, HB2.out⟩
        case measure => simp [intOf]
      · rw [p1] at HE1
        rw [p2] at HE2
        clear p1 p2
        cases v
        all_goals
          go_wp2_with fail
          refine HE1.out.mono ?_
          rintro e w1 ⟨rfl, hb1⟩
          have HB1 := Lib.hid hb1
          have c2 := HC2.out w1 hb1
          have HE2' := Lib.hid (HE2.out w1 hb1)
          clear hb1
          simp only
          go_wp2_with fail
          refine HE2'.out.mono ?_
          rintro e w2 ⟨rfl, hb2⟩
          have HB2 := Lib.hid (btr HBw.out (btr HB1.out hb2))
          clear hb2
          simp only
          go_wp2
          go_roundw
          case rel => exact ⟨2 + 1, by omega, by go_num, HB2.out⟩
          case measure => simp [intOf]
    · have c1 : wr.cell? ⟨w.heap.size, 3, none⟩ = some (.string ⟨#[45, 103, 116]⟩) := Lib.cell_of_heap hxw 3
      clear hxw hyw
      have HE1 := Lib.hid (HEV.out [45, 103, 116] rfl wr (btr HBW.out HBw.out))
      have HE2 := Lib.hid (fun w1 (hb : Below wr.heap.size wr w1) => HEV.out [45, 108, 101] rfl w1 (btr HBW.out (btr HBw.out hb)))
      have HC2 := Lib.hid (fun w1 (hb : Below wr.heap.size wr w1) => show w1.cell? ⟨w.heap.size + 1, 3, none⟩ = some (.string ⟨#[45, 108, 101]⟩) from (hb.cell (p := ⟨w.heap.size + 1, 3, none⟩) (Array.getElem?_eq_some_iff.1 HYW.out).1).trans (Lib.cell_of_heap HYW.out 3))
      rcases P.bin3_opp a b [45, 103, 116] [45, 108, 101] rfl rfl P.opp3 with ⟨p1, p2⟩ | ⟨v, p1, p2⟩
      · rw [p1] at HE1
        rw [p2] at HE2
        clear p1 p2
        go_wp2_with fail
        refine HE1.out.mono ?_
        rintro e w1 ⟨rfl, hb1⟩
        have HB1 := Lib.hid hb1
        have c2 := HC2.out w1 hb1
        have HE2' := Lib.hid (HE2.out w1 hb1)
        clear hb1
        simp only
        go_wp2_with fail
        refine HE2'.out.mono ?_
        rintro e w2 ⟨rfl, hb2⟩
        have HB2 := Lib.hid (btr HBw.out (btr HB1.out hb2))
        clear hb2
        simp only
        go_wp2
        go_roundw
        case rel => exact ⟨3 + 1, by omega, by go_num, HB2.out⟩
        case measure => simp [intOf]
      · rw [p1] at HE1
        rw [p2] at HE2
        clear p1 p2
        cases v
        all_goals
          go_wp2_with fail
          refine HE1.out.mono ?_
          rintro e w1 ⟨rfl, hb1⟩
          have HB1 := Lib.hid hb1
          have c2 := HC2.out w1 hb1
          have HE2' := Lib.hid (HE2.out w1 hb1)
          clear hb1
          simp only
          go_wp2_with fail
          refine HE2'.out.mono ?_
          rintro e w2 ⟨rfl, hb2⟩
          have HB2 := Lib.hid (btr HBw.out (btr HB1.out hb2))
          clear hb2
          simp only
          go_wp2
          go_roundw
          case rel => exact ⟨3 + 1, by omega, by go_num, HB2.out⟩
          case measure => simp [intOf]
    · clear hxw hyw
      go_wp2_with fail
      refine (HA.out wr (btr HBW.out HBw.out)).mono ?_
      rintro e w1 ⟨rfl, hb1⟩
      have HB1 := Lib.hid (btr (btr HBW.out HBw.out) hb1)
      clear hb1
      go_wp2
      go_ret
      exact ⟨rfl, HB1.out⟩
end W
end Go.Proofs.YtmccfdmnidbalaaDoor
