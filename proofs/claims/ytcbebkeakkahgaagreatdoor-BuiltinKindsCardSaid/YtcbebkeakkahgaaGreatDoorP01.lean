/- Chapter 1 in plain Lean: names, numbers, quoting, escapes, over lists of bytes. No program in sight. -/
import Derived.Test.YtcbebkeakkahgaaGreatDoorK
import Derived.Lib.Bytealg
namespace Go.Proofs.YtcbebkeakkahgaaGreatDoor
open K
namespace P

def lt (c : Int) : Bool := (decide (97 ≤ c) && decide (c ≤ 122)) || (decide (65 ≤ c) && decide (c ≤ 90))
def dg (c : Int) : Bool := decide (48 ≤ c) && decide (c ≤ 57)
def wd (c : Int) : Bool := lt c || dg c || c == 95
def bl (c : Int) : Bool := c == 9 || c == 32
def ob (c : Int) : Bool := c == 38 || c == 124 || c == 59 || c == 40 || c == 41 || c == 60 || c == 62
def iv (x : UInt8) : Int := (x.toNat : Int)
def has (l : List UInt8) (c : Int) : Bool := l.any fun x => iv x == c

def nameB (l : List UInt8) : Bool := !l.isEmpty && decide (l.length ≤ 32) && !dg (bt l 0) && l.all fun x => wd (iv x)

/-- The reference's loop. -/
def rloop (n : Int) : List UInt8 → Option Int
  | [] => if 2147483647 < n then none else some n
  | x :: r => if dg (iv x) then rloop (10 * n + (iv x - 48)) r else none
/-- The program's loop. -/
def dloop (n : Int) : List UInt8 → Option Int
  | [] => some n
  | x :: r => if dg (iv x) then (if 2147483647 < 10 * n + (iv x - 48) then none else dloop (10 * n + (iv x - 48)) r) else none
def digits (l : List UInt8) : Option Int :=
  if l.isEmpty || decide (10 < l.length) || (bt l 0 == 48 && decide (1 < l.length)) then none else rloop 0 l
def digitsI (l : List UInt8) : Option Int :=
  if l == [48] then some 0 else if l.isEmpty || bt l 0 == 48 then none else dloop 0 l

def pun : List UInt8 := [45, 46, 47, 44, 58, 43, 37, 64, 94]
def pl (c : Int) : Bool := wd c || has pun c
def plainB (l : List UInt8) : Bool := l.all (fun x => pl (iv x)) && !l.isEmpty

def quoteBody : List UInt8 → List UInt8
  | [] => []
  | x :: r => (if iv x == 39 then [39, 92, 39, 39] else [x]) ++ quoteBody r
def quote (l : List UInt8) : List UInt8 := if plainB l then l else 39 :: (quoteBody l ++ [39])

/-- The contents of a single-quoted string behind its opening quote, and what follows. -/
def sq (acc : List UInt8) : List UInt8 → Option (List UInt8 × List UInt8)
  | [] => none
  | x :: r => if iv x == 39 then some (acc, r) else sq (acc ++ [x]) r
def dqEsc (y : UInt8) : List UInt8 := if iv y == 36 || iv y == 96 || iv y == 34 || iv y == 92 then [y] else if iv y == 10 then [] else [92, y]
/-- The contents of a double-quoted string behind its opening quote, and what follows; or the error's number. -/
def dq (acc : List UInt8) : List UInt8 → Except Int (List UInt8 × List UInt8)
  | [] => .error 7
  | [x] => if iv x == 34 then .ok (acc, []) else if iv x == 36 || iv x == 96 then .error 6 else .error 7
  | x :: y :: r => if iv x == 34 then .ok (acc, y :: r) else if iv x == 36 || iv x == 96 then .error 6
      else if iv x == 92 then dq (acc ++ dqEsc y) r else dq (acc ++ [x]) (y :: r)
def stop (c : Int) : Bool := bl c || c == 10 || ob c || c == 36 || c == 96
def ofSq : Option (List UInt8 × List UInt8) → Except Int (List UInt8 × List UInt8)
  | some p => .ok p
  | none => .error 7
/-- One element of a quoted form. -/
def piece (acc : List UInt8) : List UInt8 → Except Int (List UInt8 × List UInt8)
  | [] => .error 0
  | x :: r =>
    if iv x == 39 then ofSq (sq acc r)
    else if iv x == 34 then dq acc r
    else if iv x == 92 then (match r with | [] => .error 7 | y :: r' => .ok (if iv y == 10 then acc else acc ++ [y], r'))
    else if stop (iv x) then .error 6
    else .ok (acc ++ [x], r)
def unq : Nat → List UInt8 → List UInt8 → Except Int (List UInt8)
  | 0, acc, _ => .ok acc
  | n + 1, acc, l => if l.isEmpty then .ok acc else match piece acc l with | .ok (a, r) => unq n a r | .error e => .error e
def unquote (l : List UInt8) : Except Int (List UInt8) := unq l.length [] l

def hexd (n : Int) : UInt8 := by8 (if n < 10 then 48 + n else 87 + n)
def esc1 (x : UInt8) : List UInt8 :=
  if iv x == 10 then [92, 110] else if iv x == 9 then [92, 116] else if iv x == 92 then [92, 92]
  else if decide (iv x < 32) || decide (126 < iv x) then [92, 120, hexd (iv x / 16), hexd (iv x % 16)] else [x]
def escape : List UInt8 → List UInt8
  | [] => []
  | x :: r => esc1 x ++ escape r

def hexv (c : Int) : Int := Lib.indexByte [48, 49, 50, 51, 52, 53, 54, 55, 56, 57, 97, 98, 99, 100, 101, 102] c.toNat.toUInt8
def coded (l : List UInt8) : Except Int (UInt8 × Nat) :=
  if l.length < 2 then .error 28
  else if hexv (bt l 1) < 0 ∨ (2 ≤ hexv (bt l 1) ∧ hexv (bt l 1) ≤ 6) then .error 6
  else if l.length < 3 then .error 28
  else if hexv (bt l 2) < 0 ∨ 16 * hexv (bt l 1) + hexv (bt l 2) = 10 ∨ 16 * hexv (bt l 1) + hexv (bt l 2) = 9 ∨ (32 ≤ 16 * hexv (bt l 1) + hexv (bt l 2) ∧ 16 * hexv (bt l 1) + hexv (bt l 2) ≤ 126) then .error 6
  else .ok (by8 (16 * hexv (bt l 1) + hexv (bt l 2)), 3)
/-- The escape sequence behind a backslash: its byte, and how many bytes belong to it. -/
def seqn (l : List UInt8) : Except Int (UInt8 × Nat) :=
  if l.isEmpty then .error 28 else if bt l 0 == 110 then .ok (10, 1) else if bt l 0 == 116 then .ok (9, 1)
  else if bt l 0 == 92 then .ok (92, 1) else if bt l 0 == 120 then coded l else .error 6
/-- The program's step. -/
def dec1 : List UInt8 → Except Int (UInt8 × List UInt8)
  | [] => .error 0
  | x :: r => if iv x < 32 ∨ 126 < iv x then .error 6 else if iv x ≠ 92 then .ok (x, r) else
      match seqn r with | .ok (c, n) => .ok (c, r.drop n) | .error z => .error z
def une : Nat → List UInt8 → List UInt8 → Except Int (List UInt8)
  | 0, acc, _ => .ok acc
  | n + 1, acc, l => if l.isEmpty then .ok acc else match dec1 l with | .ok (c, r) => une n (acc ++ [c]) r | .error z => .error z
def unescape (l : List UInt8) : Except Int (List UInt8) := une l.length [] l
/-- The reference's test. -/
def beg : List UInt8 → List UInt8 → Bool × Bool
  | _, [] => (true, false)
  | [], _ :: _ => (false, true)
  | x :: r, y :: t => if x = y then beg r t else (false, false)
/-- The reference's search over the first k bytes. -/
def scan (r : List UInt8) : Nat → Int × Bool
  | 0 => (-1, false)
  | k + 1 => (if (beg r (esc1 (by8 k))).1 then (k : Int) else (scan r k).1, (scan r k).2 || (beg r (esc1 (by8 k))).2)
def uneR : Nat → List UInt8 → List UInt8 → Except Int (List UInt8)
  | 0, acc, _ => .ok acc
  | n + 1, acc, l => if l.isEmpty then .ok acc else
      if (scan l 256).1 < 0 then (if (scan l 256).2 then .error 28 else .error 6)
      else uneR n (acc ++ [by8 (scan l 256).1]) (l.drop (esc1 (by8 (scan l 256).1)).length)
def unescapeR (l : List UInt8) : Except Int (List UInt8) := uneR l.length [] l

/-! ### Steps of the loops -/
def nameFrom (l : List UInt8) (pos : Nat) : Bool := (l.drop pos).all (fun x => wd (iv x)) && (decide (0 < pos) || !dg (bt l 0))
theorem nameFrom_zero (l : List UInt8) (h0 : 0 < l.length) (h : l.length ≤ 32) : nameB l = nameFrom l 0 := by
  have hne : l.isEmpty = false := by cases l; simp at h0; simp
  simp [nameB, nameFrom, hne, h, Bool.and_comm]
theorem nameFrom_step {l : List UInt8} {pos : Nat} {c : Int} (hp : pos < l.length) (hc : bt l pos = c) (h : (lt c || c == 95 || (dg c && decide (0 < pos))) = true) : nameFrom l pos = nameFrom l (pos + 1) := by
  obtain ⟨x, hx, hb, _⟩ := drop_cons l pos hp
  unfold nameFrom
  rw [hx, List.all_cons, show iv x = c from by rw [← hc, hb]; rfl]
  have hw : wd c = true := by
    unfold wd; revert h; cases lt c <;> cases dg c <;> simp
  rw [hw]
  by_cases h0 : pos = 0
  · subst h0
    have : dg (bt l 0) = false := by
      rw [hc]; revert h; unfold lt dg; simp; omega
    simp [this]
  · simp [show 0 < pos by omega]
theorem nameFrom_stop {l : List UInt8} {pos : Nat} {c : Int} (hp : pos < l.length) (hc : bt l pos = c) (h : (lt c || c == 95 || (dg c && decide (0 < pos))) = false) : nameFrom l pos = false := by
  obtain ⟨x, hx, hb, _⟩ := drop_cons l pos hp
  unfold nameFrom
  rw [hx, List.all_cons, show iv x = c from by rw [← hc, hb]; rfl]
  by_cases h0 : pos = 0
  · subst h0
    rw [hc]; revert h; unfold wd; cases lt c <;> cases dg c <;> cases (c == 95) <;> simp
  · revert h; unfold wd; cases lt c <;> cases dg c <;> cases (c == 95) <;> simp <;> omega
theorem nameFrom_end {l : List UInt8} {pos : Nat} (h0 : 0 < l.length) (hp : ¬ pos < l.length) : nameFrom l pos = true := by
  unfold nameFrom
  rw [List.drop_eq_nil_of_le (by omega)]; simp; omega
theorem lt_high (r : Int) (h : 128 ≤ r) : lt r = false := by unfold lt; simp; omega
theorem dg_high (r : Int) (h : 128 ≤ r) : dg r = false := by unfold dg; simp; omega
theorem wd_high (r : Int) (h : 128 ≤ r) : wd r = false := by unfold wd; rw [lt_high r h, dg_high r h]; simp; omega

/-! ### Plain -/
def plI (c : Int) : Bool := lt c || dg c || (decide (c ≤ 126) && decide (0 ≤ Lib.indexByte [95, 45, 46, 47, 44, 58, 43, 37, 64, 94] c.toNat.toUInt8))
theorem plI_small : ∀ n : Nat, n < 127 → decide (0 ≤ Lib.indexByte [95, 45, 46, 47, 44, 58, 43, 37, 64, 94] n.toUInt8) = ((n : Int) == 95 || has pun n) := by decide +kernel
theorem plI_eq (c : Int) (h0 : 0 ≤ c) : plI c = pl c := by
  unfold plI pl wd
  by_cases h : c ≤ 126
  · have := plI_small c.toNat (by omega)
    rw [this, show ((c.toNat : Nat) : Int) = c by omega]
    simp [h, Bool.or_assoc]
  · have h2 : has pun c = false := by
      simp [has, pun, iv]; omega
    have h3 : (c == 95) = false := by simp; omega
    simp [h, h2, h3]
theorem pl_high (r : Int) (h : 128 ≤ r) : pl r = false := by
  have := plI_eq r (by omega)
  rw [← this]; unfold plI; rw [lt_high r h, dg_high r h]; simp; omega

/-! ### Numbers -/
theorem dg_iff (c : Int) : dg c = true ↔ 48 ≤ c ∧ c ≤ 57 := by unfold dg; simp
theorem rloop_yes {n c : Int} {x : UInt8} {r : List UInt8} (hx : iv x = c) (h : dg c = true) : rloop n (x :: r) = rloop (10 * n + (c - 48)) r := by
  rw [rloop, hx, if_pos h]
theorem rloop_no {n c : Int} {x : UInt8} {r : List UInt8} (hx : iv x = c) (h : dg c = false) : rloop n (x :: r) = none := by
  rw [rloop, hx, if_neg (by simp [h])]
theorem dloop_yes {n c : Int} {x : UInt8} {r : List UInt8} (hx : iv x = c) (h : dg c = true) (hm : ¬ 2147483647 < 10 * n + (c - 48)) : dloop n (x :: r) = dloop (10 * n + (c - 48)) r := by
  rw [dloop, hx, if_pos h, if_neg hm]
theorem dloop_big {n c : Int} {x : UInt8} {r : List UInt8} (hx : iv x = c) (h : dg c = true) (hm : 2147483647 < 10 * n + (c - 48)) : dloop n (x :: r) = none := by
  rw [dloop, hx, if_pos h, if_pos hm]
theorem dloop_no {n c : Int} {x : UInt8} {r : List UInt8} (hx : iv x = c) (h : dg c = false) : dloop n (x :: r) = none := by
  rw [dloop, hx, if_neg (by simp [h])]
theorem rloop_big (l : List UInt8) : ∀ n : Int, 2147483647 < n → rloop n l = none := by
  induction l with
  | nil => intro n h; simp [rloop, h]
  | cons x r ih =>
    intro n h
    unfold rloop
    split
    · rename_i hd
      rw [dg_iff] at hd
      exact ih _ (by omega)
    · rfl
theorem dloop_eq (l : List UInt8) : ∀ n : Int, 0 ≤ n → n ≤ 2147483647 → dloop n l = rloop n l := by
  induction l with
  | nil => intro n h0 h; simp [dloop, rloop]; omega
  | cons x r ih =>
    intro n h0 h
    unfold dloop rloop
    split
    · rename_i hd
      rw [dg_iff] at hd
      by_cases hm : 2147483647 < 10 * n + (iv x - 48)
      · rw [if_pos hm, rloop_big r _ hm]
      · rw [if_neg hm]; exact ih _ (by omega) (by omega)
    · rfl
def bd : Nat → Int
  | 0 => 1
  | k + 1 => 10 * bd k
theorem bd_pos : ∀ k, 1 ≤ bd k
  | 0 => by simp [bd]
  | k + 1 => by have := bd_pos k; simp only [bd]; omega
theorem bd_le (k : Nat) (h : k ≤ 10) : bd k ≤ 10000000000 := by
  have : k = 0 ∨ k = 1 ∨ k = 2 ∨ k = 3 ∨ k = 4 ∨ k = 5 ∨ k = 6 ∨ k = 7 ∨ k = 8 ∨ k = 9 ∨ k = 10 := by omega
  rcases this with h | h | h | h | h | h | h | h | h | h | h <;> subst h <;> decide
theorem bd_step (k : Nat) (m : Int) (h : m + 1 ≤ bd k) : ∀ d : Int, d ≤ 9 → 10 * m + d + 1 ≤ bd (k + 1) := by
  intro d hd; simp only [bd]; omega
theorem bd_ten : ∀ k, bd 10 ≤ bd (10 + k)
  | 0 => Int.le_refl _
  | k + 1 => by have := bd_ten k; have h2 := bd_pos (10 + k); show _ ≤ 10 * bd (10 + k); omega
theorem rloop_long (l : List UInt8) : ∀ n : Int, 0 ≤ n → 2147483647 < n * bd l.length → rloop n l = none := by
  induction l with
  | nil => intro n _ h; simp [bd] at h; simp [rloop, h]
  | cons x r ih =>
    intro n h0 h
    unfold rloop
    split
    · rename_i hd
      rw [dg_iff] at hd
      refine ih _ (by omega) ?_
      have hp := bd_pos r.length
      have e : n * bd (x :: r).length = (10 * n) * bd r.length := by
        show n * (10 * bd r.length) = _
        rw [← Int.mul_assoc, Int.mul_comm n 10]
      rw [e] at h
      have := Int.mul_le_mul_of_nonneg_right (show 10 * n ≤ 10 * n + (iv x - 48) by omega) (show 0 ≤ bd r.length by omega)
      omega
    · rfl
theorem digitsI_eq (l : List UInt8) : digitsI l = digits l := by
  unfold digitsI digits
  by_cases h1 : l = [48]
  · subst h1; decide
  rw [if_neg (by simpa using h1)]
  cases l with
  | nil => rfl
  | cons x r =>
    have hb : bt (x :: r) 0 = iv x := rfl
    rw [hb]
    by_cases h2 : iv x = 48
    · have hr : r ≠ [] := by
        intro hr; apply h1; rw [hr]
        have : x = 48 := by
          unfold iv at h2
          apply UInt8.toNat_inj.1
          have : (48 : UInt8).toNat = 48 := rfl
          omega
        rw [this]
      have hr' : 1 < (x :: r).length := by cases r; simp at hr; simp
      rw [if_pos (by simp [h2]), if_pos (by simp [h2]; right; cases r; simp at hr; simp)]
    · rw [if_neg (by simp [h2])]
      by_cases h3 : 10 < (x :: r).length
      · rw [if_pos (by simp at h3; simp; omega), dloop_eq _ _ (by omega) (by omega)]
        unfold rloop
        split
        · rename_i hd
          rw [dg_iff] at hd
          apply rloop_long _ _ (by omega)
          simp at h3
          obtain ⟨k, hk⟩ : ∃ k, r.length = 10 + k := ⟨r.length - 10, by omega⟩
          have h10 := bd_ten k
          rw [hk]
          have e10 : bd 10 = 10000000000 := by decide
          have := Int.mul_le_mul_of_nonneg_right (show 1 ≤ 10 * 0 + (iv x - 48) by omega) (show 0 ≤ bd (10 + k) by omega)
          omega
        · rfl
      · rw [if_neg (by simp at h3; simp [h2]; omega), dloop_eq _ _ (by omega) (by omega)]
end P
end Go.Proofs.YtcbebkeakkahgaaGreatDoor
