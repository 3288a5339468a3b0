/- Chapter 7: the lexer's constructs, walked: contracts at a fuel; the small ones first. -/
import Derived.Test.YtcbdhheelddgeaaGreatDoorW07a
namespace Go.Proofs.YtcbdhheelddgeaaGreatDoor
open Go.RowKit K
namespace W
theorem ret_two {k k' : IntKind} {a b c d : Int} (h1 : a = c) (h2 : b = d) : Ending.returned (.tuple #[.int k a, .int k' b]) = .returned (.tuple #[.int k c, .int k' d]) := by rw [h1, h2]
theorem fst_of {a b : Nat} {x y : Int} (h : (a, x) = (b, y)) : (a : Int) = b := congrArg (fun p : Nat × Int => (p.1 : Int)) h
theorem beq_f {a b : Int} (h : ¬ a = b) : (a == b) = false := by rw [beq_eq_false_iff_ne]; exact h
theorem snd_of {a b : Nat} {x y : Int} (h : (a, x) = (b, y)) : x = y := congrArg Prod.snd h
/-- What a call of a construct's function gives: a pair of an offset and an error; nothing that existed is changed. -/
def Pair (w : World) (k : Nat) (x : Int) (e : Ending) (w' : World) : Prop := e = .returned (.tuple #[.int .i64 k, .int .i64 x]) ∧ Below w.heap.size w w'
structure LexC (f : Nat) : Prop where
  con : ∀ (s : List UInt8) (a : Nat) (q d : Bool) (w : World) (k : Nat) (x : Int), s.length ≤ 100000 → a < s.length → LX.begins s a = true → 3 * (s.length - a) + 1 ≤ f → LX.con f s a q d = (k, x) →
    Calls Tryz.prog 29 #[.string ⟨s.toArray⟩, .int .i64 a, .agg #[.bool q, .bool d]] w (Pair w k x)
  ins : ∀ (s : List UInt8) (a : Nat) (q d : Bool) (w : World) (k : Nat) (x : Int), s.length ≤ 100000 → a < s.length → 3 * (s.length - a) + 2 ≤ f → LX.ins f s a q d = (k, x) →
    Calls Tryz.prog 91 #[.string ⟨s.toArray⟩, .int .i64 a, .agg #[.bool q, .bool d]] w (Pair w k x)
  dbl : ∀ (s : List UInt8) (a : Nat) (w : World) (k : Nat) (x : Int), s.length ≤ 100000 → a < s.length → 3 * (s.length - (a + 1)) + 3 ≤ f → LX.dbl f s a (a + 1) = (k, x) →
    Calls Tryz.prog 60 #[.string ⟨s.toArray⟩, .int .i64 a] w (Pair w k x)
  ari : ∀ (s : List UInt8) (a : Nat) (w : World) (k : Nat) (x : Int), s.length ≤ 100000 → a + 3 ≤ s.length → 3 * (s.length - (a + 3)) + 3 ≤ f → LX.ari f s a (a + 3) 0 = (k, x) →
    Calls Tryz.prog 63 #[.string ⟨s.toArray⟩, .int .i64 a] w (Pair w k x)
  cmd : ∀ (s : List UInt8) (a : Nat) (w : World) (k : Nat) (x : Int), s.length ≤ 100000 → a + 2 ≤ s.length → 3 * (s.length - (a + 2)) + 3 ≤ f → LX.cmd f s a (a + 2) 0 true = (k, x) →
    Calls Tryz.prog 64 #[.string ⟨s.toArray⟩, .int .i64 a] w (Pair w k x)
  brc : ∀ (s : List UInt8) (a : Nat) (q d : Bool) (w : World) (k : Nat) (x : Int), s.length ≤ 100000 → a + 2 ≤ s.length → 3 * (s.length - (a + 2)) + 3 ≤ f → LX.brc f s a (a + 2) q d = (k, x) →
    Calls Tryz.prog 65 #[.string ⟨s.toArray⟩, .int .i64 a, .agg #[.bool q, .bool d]] w (Pair w k x)
set_option maxRecDepth 100000 in
theorem lx_bkq (f : Nat) (s : List UInt8) (a : Nat) (w : World) (k : Nat) (x : Int) (hl : s.length ≤ 100000) (ha : a < s.length) (hf : s.length - (a + 1) + 1 ≤ f) (hr : LX.bkq f s a (a + 1) = (k, x)) :
    Calls Tryz.prog 61 #[.string ⟨s.toArray⟩, .int .i64 a] w (Pair w k x) := by
  have HF := Lib.hid hf
  have HR := Lib.hid hr
  clear hf hr
  go_enter Tryz.func61, Tryz.ntmps61
  go_wp2
  go_loop [6] (fun v => ∃ i g : Nat, v = .int .i64 i ∧ a < i ∧ i ≤ s.length ∧ Hid (s.length - i + 1 ≤ g ∧ LX.bkq g s a i = (k, x))) (fun v => s.length - (intOf v).toNat)
  case atStart => exact ⟨a + 1, f, by go_num, by omega, by omega, HF.out, HR.out⟩
  case round =>
    obtain ⟨i, g, rfl, hi1, hi2, HG⟩ := hrel
    obtain ⟨g, rfl⟩ : ∃ g', g = g' + 1 := ⟨g - 1, by have := HG.out; omega⟩
    have HE := HG.out.2
    rw [LX.bkq] at HE
    by_cases hlt : i < s.length
    · rw [if_pos hlt] at HE
      by_cases h96 : bt s i = 96
      · rw [if_pos h96] at HE
        replace HE := Lib.hid HE
        go_wp2
        go_ret2
        exact ⟨ret_two (by have := fst_of HE.out; omega) (snd_of HE.out), Below.refl _ _⟩
      · rw [if_neg h96] at HE
        by_cases h92 : bt s i = 92
        · rw [if_pos h92] at HE
          by_cases hi3 : i + 1 = s.length
          · rw [if_pos hi3] at HE
            replace HE := Lib.hid HE
            have ht : ((i : Int) + 1 == (s.length : Int)) = true := by rw [beq_iff_eq]; omega
            go_wp2
            go_ret2
            exact ⟨ret_two (fst_of HE.out) (snd_of HE.out), Below.refl _ _⟩
          · rw [if_neg hi3] at HE
            replace HE := Lib.hid HE
            have ht : ((i : Int) + 1 == (s.length : Int)) = false := by rw [beq_eq_false_iff_ne]; omega
            go_wp2
            go_round
            case rel => exact ⟨i + 2, g, by go_num, by omega, by omega, by have := HG.out.1; omega, HE.out⟩
            case measure => simp [intOf]; omega
        · rw [if_neg h92] at HE
          replace HE := Lib.hid HE
          go_wp2
          go_round
          case rel => exact ⟨i + 1, g, by go_num, by omega, by omega, by have := HG.out.1; omega, HE.out⟩
          case measure => simp [intOf]; omega
    · rw [if_neg hlt] at HE
      replace HE := Lib.hid HE
      go_wp2
      go_ret2
      exact ⟨ret_two (fst_of HE.out) (snd_of HE.out), Below.refl _ _⟩
set_option maxRecDepth 100000 in
theorem lx_dbl {f : Nat} (ih : ∀ g, g ≤ f → LexC g) (s : List UInt8) (a : Nat) (w : World) (k : Nat) (x : Int) (hl : s.length ≤ 100000) (ha : a < s.length) (hf : 3 * (s.length - (a + 1)) + 3 ≤ f + 1) (hr : LX.dbl (f + 1) s a (a + 1) = (k, x)) :
    Calls Tryz.prog 60 #[.string ⟨s.toArray⟩, .int .i64 a] w (Pair w k x) := by
  have IH := Lib.hid ih
  have HF := Lib.hid hf
  have HR := Lib.hid hr
  clear ih hf hr
  go_enter Tryz.func60, Tryz.ntmps60
  go_wp2
  go_loopw [6] (fun v wr => ∃ i g : Nat, v = .int .i64 i ∧ a < i ∧ i ≤ s.length ∧ Hid (g ≤ f + 1 ∧ 3 * (s.length - i) + 3 ≤ g ∧ LX.dbl g s a i = (k, x)) ∧ Hid (Below w.heap.size w wr)) (fun v _ => s.length - (intOf v).toNat)
  case atStart => exact ⟨a + 1, f + 1, by go_num, by omega, by omega, ⟨Nat.le_refl _, HF.out, HR.out⟩, Below.refl _ _⟩
  case round =>
    obtain ⟨i, g, rfl, hi1, hi2, HG, HB⟩ := hrel
    obtain ⟨g, rfl⟩ : ∃ g', g = g' + 1 := ⟨g - 1, by have := HG.out; omega⟩
    have HE := HG.out.2.2
    rw [LX.dbl] at HE
    by_cases hlt : i < s.length
    · rw [if_pos hlt] at HE
      by_cases h34 : bt s i = 34
      · rw [if_pos h34] at HE
        replace HE := Lib.hid HE
        go_wp2
        go_ret2
        exact ⟨ret_two (by have := fst_of HE.out; omega) (snd_of HE.out), HB.out⟩
      · rw [if_neg h34] at HE
        obtain ⟨j, y, hj⟩ : ∃ j y, LX.ins g s i true true = (j, y) := ⟨_, _, rfl⟩
        have HC := Lib.hid ((IH.out g (by have := HG.out; omega)).ins s i true true wr j y hl hlt (by have := HG.out; omega) hj)
        have HGD := (LX.good_all g).ins s i true true hlt
        rw [hj] at HE HGD
        obtain ⟨hj1, hj2, hj3⟩ := HGD
        replace HE := Lib.hid HE
        clear hj
        go_wp2_with fail
        refine HC.out.mono ?_
        rintro e1 w1 ⟨rfl, hb1⟩
        have HB1 := Lib.hid (btr HB.out hb1)
        clear hb1
        (try dsimp only at hj1 hj2 hj3)
        rcases hj3 with rfl | rfl | rfl
        · have hj4 := hj2 rfl
          clear hj2
          go_wp2
          go_roundw
          case rel => exact ⟨j, g, rfl, by omega, hj1, ⟨by have := HG.out; omega, by have := HG.out; omega, HE.out⟩, HB1.out⟩
          case measure => simp [intOf]; omega
        · clear hj2
          go_wp2
          go_ret2
          exact ⟨ret_two (fst_of HE.out) (snd_of HE.out), HB1.out⟩
        · clear hj2
          go_wp2
          go_ret2
          exact ⟨ret_two (fst_of HE.out) (snd_of HE.out), HB1.out⟩
    · rw [if_neg hlt] at HE
      replace HE := Lib.hid HE
      go_wp2
      go_ret2
      exact ⟨ret_two (fst_of HE.out) (snd_of HE.out), HB.out⟩
set_option maxRecDepth 100000 in
theorem lx_ins {f : Nat} (ih : LexC f) (s : List UInt8) (i : Nat) (q d : Bool) (w : World) (k : Nat) (x : Int) (hl : s.length ≤ 100000) (hi : i < s.length) (hf : 3 * (s.length - i) + 2 ≤ f + 1) (hr : LX.ins (f + 1) s i q d = (k, x)) :
    Calls Tryz.prog 91 #[.string ⟨s.toArray⟩, .int .i64 i, .agg #[.bool q, .bool d]] w (Pair w k x) := by
  have hi2 : ((i : Int) < (s.length : Int)) = True := eq_true (by omega)
  have HBG := Lib.hid (fun v => lx_begins s i v hi hl)
  rw [LX.ins] at hr
  by_cases h39 : bt s i = 39
  · rw [if_pos (.inl h39)] at hr
    have HR := Lib.hid hr
    clear hr ih hf
    go_enter Tryz.func91, Tryz.ntmps91
    go_wp2
    go_ret2
    exact ⟨ret_two (by have := fst_of HR.out; omega) (snd_of HR.out), balloc _ _⟩
  have e39 := beq_f h39
  by_cases h34 : bt s i = 34
  · rw [if_pos (.inr (.inl h34))] at hr
    have HR := Lib.hid hr
    clear hr ih hf
    go_enter Tryz.func91, Tryz.ntmps91
    go_wp2
    go_ret2
    exact ⟨ret_two (by have := fst_of HR.out; omega) (snd_of HR.out), balloc _ _⟩
  have e34 := beq_f h34
  cases hb : LX.begins s i with
  | false =>
    rw [if_pos (.inr (.inr hb))] at hr
    rw [hb] at HBG
    have HR := Lib.hid hr
    clear hr ih hf hb
    go_enter Tryz.func91, Tryz.ntmps91
    go_wp2_with (go_at_call 28; refine (HBG.out _).mono ?_; rintro e w' ⟨rfl, rfl⟩)
    go_ret2
    exact ⟨ret_two (by have := fst_of HR.out; omega) (snd_of HR.out), balloc _ _⟩
  | true =>
    rw [if_neg (by rintro (h | h | h); exact h39 h; exact h34 h; rw [hb] at h; cases h)] at hr
    have HC := Lib.hid (fun v => ih.con s i q d v k x hl hi hb (by omega) hr)
    rw [hb] at HBG
    clear hr ih hf hb
    go_enter Tryz.func91, Tryz.ntmps91
    go_wp2_with (go_at_call 28; refine (HBG.out _).mono ?_; rintro e w' ⟨rfl, rfl⟩)
    refine (HC.out _).mono ?_
    rintro e w1 ⟨rfl, hb1⟩
    have HB1 := Lib.hid (btr (balloc _ _) hb1)
    clear hb1
    go_wp2
    go_ret2
    exact ⟨rfl, HB1.out⟩
end W
end Go.Proofs.YtcbdhheelddgeaaGreatDoor
