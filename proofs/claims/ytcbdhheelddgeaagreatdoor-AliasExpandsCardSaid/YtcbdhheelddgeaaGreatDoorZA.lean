/- Several texts in one: P01 P01b P01c P09. -/
import Derived.Test.YtcbdhheelddgeaaGreatDoorK
import Derived.Lib.Bytealg
import Derived.Lib.Replace
import Derived.Lib.ReplaceLaws
import Derived.Lib.IndexBytes
import Derived.Lib.IndexLaws
import Derived.Lib.CountLaws
namespace Go.Proofs.YtcbdhheelddgeaaGreatDoor
open K
namespace P

def lt (c : Int) : Bool := (decide (97 ≤ c) && decide (c ≤ 122)) || (decide (65 ≤ c) && decide (c ≤ 90))
def dg (c : Int) : Bool := decide (48 ≤ c) && decide (c ≤ 57)
def wd (c : Int) : Bool := lt c || dg c || c == 95
def bl (c : Int) : Bool := c == 9 || c == 32
def ob (c : Int) : Bool := c == 38 || c == 124 || c == 59 || c == 40 || c == 41 || c == 60 || c == 62
def iv (x : UInt8) : Int := (x.toNat : Int)
def has (l : List UInt8) (c : Int) : Bool := l.any fun x => iv x == c

def nameB (l : List UInt8) : Bool := !l.isEmpty && decide (l.length ≤ 32) && !dg (bt l 0) && l.all fun x => wd (iv x)

/-- The reference's loop. -/
def rloop (n : Int) : List UInt8 → Option Int
  | [] => if 2147483647 < n then none else some n
  | x :: r => if dg (iv x) then rloop (10 * n + (iv x - 48)) r else none
/-- The program's loop. -/
def dloop (n : Int) : List UInt8 → Option Int
  | [] => some n
  | x :: r => if dg (iv x) then (if 2147483647 < 10 * n + (iv x - 48) then none else dloop (10 * n + (iv x - 48)) r) else none
def digits (l : List UInt8) : Option Int :=
  if l.isEmpty || decide (10 < l.length) || (bt l 0 == 48 && decide (1 < l.length)) then none else rloop 0 l
def digitsI (l : List UInt8) : Option Int :=
  if l == [48] then some 0 else if l.isEmpty || bt l 0 == 48 then none else dloop 0 l

def pun : List UInt8 := [45, 46, 47, 44, 58, 43, 37, 64, 94]
def pl (c : Int) : Bool := wd c || has pun c
def plainB (l : List UInt8) : Bool := l.all (fun x => pl (iv x)) && !l.isEmpty

def quoteBody : List UInt8 → List UInt8
  | [] => []
  | x :: r => (if iv x == 39 then [39, 92, 39, 39] else [x]) ++ quoteBody r
def quote (l : List UInt8) : List UInt8 := if plainB l then l else 39 :: (quoteBody l ++ [39])

/-- The contents of a single-quoted string behind its opening quote, and what follows. -/
def sq (acc : List UInt8) : List UInt8 → Option (List UInt8 × List UInt8)
  | [] => none
  | x :: r => if iv x == 39 then some (acc, r) else sq (acc ++ [x]) r
def dqEsc (y : UInt8) : List UInt8 := if iv y == 36 || iv y == 96 || iv y == 34 || iv y == 92 then [y] else if iv y == 10 then [] else [92, y]
/-- The contents of a double-quoted string behind its opening quote, and what follows; or the error's number. -/
def dq (acc : List UInt8) : List UInt8 → Except Int (List UInt8 × List UInt8)
  | [] => .error 7
  | [x] => if iv x == 34 then .ok (acc, []) else if iv x == 36 || iv x == 96 then .error 6 else .error 7
  | x :: y :: r => if iv x == 34 then .ok (acc, y :: r) else if iv x == 36 || iv x == 96 then .error 6
      else if iv x == 92 then dq (acc ++ dqEsc y) r else dq (acc ++ [x]) (y :: r)
def stop (c : Int) : Bool := bl c || c == 10 || ob c || c == 36 || c == 96
def ofSq : Option (List UInt8 × List UInt8) → Except Int (List UInt8 × List UInt8)
  | some p => .ok p
  | none => .error 7
/-- One element of a quoted form. -/
def piece (acc : List UInt8) : List UInt8 → Except Int (List UInt8 × List UInt8)
  | [] => .error 0
  | x :: r =>
    if iv x == 39 then ofSq (sq acc r)
    else if iv x == 34 then dq acc r
    else if iv x == 92 then (match r with | [] => .error 7 | y :: r' => .ok (if iv y == 10 then acc else acc ++ [y], r'))
    else if stop (iv x) then .error 6
    else .ok (acc ++ [x], r)
def unq : Nat → List UInt8 → List UInt8 → Except Int (List UInt8)
  | 0, acc, _ => .ok acc
  | n + 1, acc, l => if l.isEmpty then .ok acc else match piece acc l with | .ok (a, r) => unq n a r | .error e => .error e
def unquote (l : List UInt8) : Except Int (List UInt8) := unq l.length [] l

def hexd (n : Int) : UInt8 := by8 (if n < 10 then 48 + n else 87 + n)
def esc1 (x : UInt8) : List UInt8 :=
  if iv x == 10 then [92, 110] else if iv x == 9 then [92, 116] else if iv x == 92 then [92, 92]
  else if decide (iv x < 32) || decide (126 < iv x) then [92, 120, hexd (iv x / 16), hexd (iv x % 16)] else [x]
def escape : List UInt8 → List UInt8
  | [] => []
  | x :: r => esc1 x ++ escape r

def hexv (c : Int) : Int := Lib.indexByte [48, 49, 50, 51, 52, 53, 54, 55, 56, 57, 97, 98, 99, 100, 101, 102] c.toNat.toUInt8
def coded (l : List UInt8) : Except Int (UInt8 × Nat) :=
  if l.length < 2 then .error 28
  else if hexv (bt l 1) < 0 ∨ (2 ≤ hexv (bt l 1) ∧ hexv (bt l 1) ≤ 6) then .error 6
  else if l.length < 3 then .error 28
  else if hexv (bt l 2) < 0 ∨ 16 * hexv (bt l 1) + hexv (bt l 2) = 10 ∨ 16 * hexv (bt l 1) + hexv (bt l 2) = 9 ∨ (32 ≤ 16 * hexv (bt l 1) + hexv (bt l 2) ∧ 16 * hexv (bt l 1) + hexv (bt l 2) ≤ 126) then .error 6
  else .ok (by8 (16 * hexv (bt l 1) + hexv (bt l 2)), 3)
/-- The escape sequence behind a backslash: its byte, and how many bytes belong to it. -/
def seqn (l : List UInt8) : Except Int (UInt8 × Nat) :=
  if l.isEmpty then .error 28 else if bt l 0 == 110 then .ok (10, 1) else if bt l 0 == 116 then .ok (9, 1)
  else if bt l 0 == 92 then .ok (92, 1) else if bt l 0 == 120 then coded l else .error 6
/-- The program's step. -/
def dec1 : List UInt8 → Except Int (UInt8 × List UInt8)
  | [] => .error 0
  | x :: r => if iv x < 32 ∨ 126 < iv x then .error 6 else if iv x ≠ 92 then .ok (x, r) else
      match seqn r with | .ok (c, n) => .ok (c, r.drop n) | .error z => .error z
def une : Nat → List UInt8 → List UInt8 → Except Int (List UInt8)
  | 0, acc, _ => .ok acc
  | n + 1, acc, l => if l.isEmpty then .ok acc else match dec1 l with | .ok (c, r) => une n (acc ++ [c]) r | .error z => .error z
def unescape (l : List UInt8) : Except Int (List UInt8) := une l.length [] l
/-- The reference's test. -/
def beg : List UInt8 → List UInt8 → Bool × Bool
  | _, [] => (true, false)
  | [], _ :: _ => (false, true)
  | x :: r, y :: t => if x = y then beg r t else (false, false)
/-- The reference's search over the first k bytes. -/
def scan (r : List UInt8) : Nat → Int × Bool
  | 0 => (-1, false)
  | k + 1 => (if (beg r (esc1 (by8 k))).1 then (k : Int) else (scan r k).1, (scan r k).2 || (beg r (esc1 (by8 k))).2)
def uneR : Nat → List UInt8 → List UInt8 → Except Int (List UInt8)
  | 0, acc, _ => .ok acc
  | n + 1, acc, l => if l.isEmpty then .ok acc else
      if (scan l 256).1 < 0 then (if (scan l 256).2 then .error 28 else .error 6)
      else uneR n (acc ++ [by8 (scan l 256).1]) (l.drop (esc1 (by8 (scan l 256).1)).length)
def unescapeR (l : List UInt8) : Except Int (List UInt8) := uneR l.length [] l

/-! ### Steps of the loops -/
def nameFrom (l : List UInt8) (pos : Nat) : Bool := (l.drop pos).all (fun x => wd (iv x)) && (decide (0 < pos) || !dg (bt l 0))
theorem nameFrom_zero (l : List UInt8) (h0 : 0 < l.length) (h : l.length ≤ 32) : nameB l = nameFrom l 0 := by
  have hne : l.isEmpty = false := by cases l; simp at h0; simp
  simp [nameB, nameFrom, hne, h, Bool.and_comm]
theorem nameFrom_step {l : List UInt8} {pos : Nat} {c : Int} (hp : pos < l.length) (hc : bt l pos = c) (h : (lt c || c == 95 || (dg c && decide (0 < pos))) = true) : nameFrom l pos = nameFrom l (pos + 1) := by
  obtain ⟨x, hx, hb, _⟩ := drop_cons l pos hp
  unfold nameFrom
  rw [hx, List.all_cons, show iv x = c from by rw [← hc, hb]; rfl]
  have hw : wd c = true := by
    unfold wd; revert h; cases lt c <;> cases dg c <;> simp
  rw [hw]
  by_cases h0 : pos = 0
  · subst h0
    have : dg (bt l 0) = false := by
      rw [hc]; revert h; unfold lt dg; simp; omega
    simp [this]
  · simp [show 0 < pos by omega]
theorem nameFrom_stop {l : List UInt8} {pos : Nat} {c : Int} (hp : pos < l.length) (hc : bt l pos = c) (h : (lt c || c == 95 || (dg c && decide (0 < pos))) = false) : nameFrom l pos = false := by
  obtain ⟨x, hx, hb, _⟩ := drop_cons l pos hp
  unfold nameFrom
  rw [hx, List.all_cons, show iv x = c from by rw [← hc, hb]; rfl]
  by_cases h0 : pos = 0
  · subst h0
    rw [hc]; revert h; unfold wd; cases lt c <;> cases dg c <;> cases (c == 95) <;> simp
  · revert h; unfold wd; cases lt c <;> cases dg c <;> cases (c == 95) <;> simp <;> omega
theorem nameFrom_end {l : List UInt8} {pos : Nat} (h0 : 0 < l.length) (hp : ¬ pos < l.length) : nameFrom l pos = true := by
  unfold nameFrom
  rw [List.drop_eq_nil_of_le (by omega)]; simp; omega
theorem lt_high (r : Int) (h : 128 ≤ r) : lt r = false := by unfold lt; simp; omega
theorem dg_high (r : Int) (h : 128 ≤ r) : dg r = false := by unfold dg; simp; omega
theorem wd_high (r : Int) (h : 128 ≤ r) : wd r = false := by unfold wd; rw [lt_high r h, dg_high r h]; simp; omega

/-! ### Plain -/
def plI (c : Int) : Bool := lt c || dg c || (decide (c ≤ 126) && decide (0 ≤ Lib.indexByte [95, 45, 46, 47, 44, 58, 43, 37, 64, 94] c.toNat.toUInt8))
theorem plI_small : ∀ n : Nat, n < 127 → decide (0 ≤ Lib.indexByte [95, 45, 46, 47, 44, 58, 43, 37, 64, 94] n.toUInt8) = ((n : Int) == 95 || has pun n) := by decide +kernel
theorem plI_eq (c : Int) (h0 : 0 ≤ c) : plI c = pl c := by
  unfold plI pl wd
  by_cases h : c ≤ 126
  · have := plI_small c.toNat (by omega)
    rw [this, show ((c.toNat : Nat) : Int) = c by omega]
    simp [h, Bool.or_assoc]
  · have h2 : has pun c = false := by
      simp [has, pun, iv]; omega
    have h3 : (c == 95) = false := by simp; omega
    simp [h, h2, h3]
theorem pl_high (r : Int) (h : 128 ≤ r) : pl r = false := by
  have := plI_eq r (by omega)
  rw [← this]; unfold plI; rw [lt_high r h, dg_high r h]; simp; omega

/-! ### Numbers -/
theorem dg_iff (c : Int) : dg c = true ↔ 48 ≤ c ∧ c ≤ 57 := by unfold dg; simp
theorem rloop_yes {n c : Int} {x : UInt8} {r : List UInt8} (hx : iv x = c) (h : dg c = true) : rloop n (x :: r) = rloop (10 * n + (c - 48)) r := by
  rw [rloop, hx, if_pos h]
theorem rloop_no {n c : Int} {x : UInt8} {r : List UInt8} (hx : iv x = c) (h : dg c = false) : rloop n (x :: r) = none := by
  rw [rloop, hx, if_neg (by simp [h])]
theorem dloop_yes {n c : Int} {x : UInt8} {r : List UInt8} (hx : iv x = c) (h : dg c = true) (hm : ¬ 2147483647 < 10 * n + (c - 48)) : dloop n (x :: r) = dloop (10 * n + (c - 48)) r := by
  rw [dloop, hx, if_pos h, if_neg hm]
theorem dloop_big {n c : Int} {x : UInt8} {r : List UInt8} (hx : iv x = c) (h : dg c = true) (hm : 2147483647 < 10 * n + (c - 48)) : dloop n (x :: r) = none := by
  rw [dloop, hx, if_pos h, if_pos hm]
theorem dloop_no {n c : Int} {x : UInt8} {r : List UInt8} (hx : iv x = c) (h : dg c = false) : dloop n (x :: r) = none := by
  rw [dloop, hx, if_neg (by simp [h])]
theorem rloop_big (l : List UInt8) : ∀ n : Int, 2147483647 < n → rloop n l = none := by
  induction l with
  | nil => intro n h; simp [rloop, h]
  | cons x r ih =>
    intro n h
    unfold rloop
    split
    · rename_i hd
      rw [dg_iff] at hd
      exact ih _ (by omega)
    · rfl
theorem dloop_eq (l : List UInt8) : ∀ n : Int, 0 ≤ n → n ≤ 2147483647 → dloop n l = rloop n l := by
  induction l with
  | nil => intro n h0 h; simp [dloop, rloop]; omega
  | cons x r ih =>
    intro n h0 h
    unfold dloop rloop
    split
    · rename_i hd
      rw [dg_iff] at hd
      by_cases hm : 2147483647 < 10 * n + (iv x - 48)
      · rw [if_pos hm, rloop_big r _ hm]
      · rw [if_neg hm]; exact ih _ (by omega) (by omega)
    · rfl
def bd : Nat → Int
  | 0 => 1
  | k + 1 => 10 * bd k
theorem bd_pos : ∀ k, 1 ≤ bd k
  | 0 => by simp [bd]
  | k + 1 => by have := bd_pos k; simp only [bd]; omega
theorem bd_le (k : Nat) (h : k ≤ 10) : bd k ≤ 10000000000 := by
  have : k = 0 ∨ k = 1 ∨ k = 2 ∨ k = 3 ∨ k = 4 ∨ k = 5 ∨ k = 6 ∨ k = 7 ∨ k = 8 ∨ k = 9 ∨ k = 10 := by omega
  rcases this with h | h | h | h | h | h | h | h | h | h | h <;> subst h <;> decide
theorem bd_step (k : Nat) (m : Int) (h : m + 1 ≤ bd k) : ∀ d : Int, d ≤ 9 → 10 * m + d + 1 ≤ bd (k + 1) := by
  intro d hd; simp only [bd]; omega
theorem bd_ten : ∀ k, bd 10 ≤ bd (10 + k)
  | 0 => Int.le_refl _
  | k + 1 => by have := bd_ten k; have h2 := bd_pos (10 + k); show _ ≤ 10 * bd (10 + k); omega
theorem rloop_long (l : List UInt8) : ∀ n : Int, 0 ≤ n → 2147483647 < n * bd l.length → rloop n l = none := by
  induction l with
  | nil => intro n _ h; simp [bd] at h; simp [rloop, h]
  | cons x r ih =>
    intro n h0 h
    unfold rloop
    split
    · rename_i hd
      rw [dg_iff] at hd
      refine ih _ (by omega) ?_
      have hp := bd_pos r.length
      have e : n * bd (x :: r).length = (10 * n) * bd r.length := by
        show n * (10 * bd r.length) = _
        rw [← Int.mul_assoc, Int.mul_comm n 10]
      rw [e] at h
      have := Int.mul_le_mul_of_nonneg_right (show 10 * n ≤ 10 * n + (iv x - 48) by omega) (show 0 ≤ bd r.length by omega)
      omega
    · rfl
theorem digitsI_eq (l : List UInt8) : digitsI l = digits l := by
  unfold digitsI digits
  by_cases h1 : l = [48]
  · subst h1; decide
  rw [if_neg (by simpa using h1)]
  cases l with
  | nil => rfl
  | cons x r =>
    have hb : bt (x :: r) 0 = iv x := rfl
    rw [hb]
    by_cases h2 : iv x = 48
    · have hr : r ≠ [] := by
        intro hr; apply h1; rw [hr]
        have : x = 48 := by
          unfold iv at h2
          apply UInt8.toNat_inj.1
          have : (48 : UInt8).toNat = 48 := rfl
          omega
        rw [this]
      have hr' : 1 < (x :: r).length := by cases r; simp at hr; simp
      rw [if_pos (by simp [h2]), if_pos (by simp [h2]; right; cases r; simp at hr; simp)]
    · rw [if_neg (by simp [h2])]
      by_cases h3 : 10 < (x :: r).length
      · rw [if_pos (by simp at h3; simp; omega), dloop_eq _ _ (by omega) (by omega)]
        unfold rloop
        split
        · rename_i hd
          rw [dg_iff] at hd
          apply rloop_long _ _ (by omega)
          simp at h3
          obtain ⟨k, hk⟩ : ∃ k, r.length = 10 + k := ⟨r.length - 10, by omega⟩
          have h10 := bd_ten k
          rw [hk]
          have e10 : bd 10 = 10000000000 := by decide
          have := Int.mul_le_mul_of_nonneg_right (show 1 ≤ 10 * 0 + (iv x - 48) by omega) (show 0 ≤ bd (10 + k) by omega)
          omega
        · rfl
      · rw [if_neg (by simp at h3; simp [h2]; omega), dloop_eq _ _ (by omega) (by omega)]
end P
end Go.Proofs.YtcbdhheelddgeaaGreatDoor
namespace Go.Proofs.YtcbdhheelddgeaaGreatDoor
open K
namespace P

/-! ### Quote -/
theorem quoteBody_append (a b : List UInt8) : quoteBody (a ++ b) = quoteBody a ++ quoteBody b := by
  induction a with
  | nil => rfl
  | cons x r ih => simp [quoteBody, ih]
theorem quoteBody_none (a : List UInt8) (h : ∀ k : Nat, a[k]? ≠ some 39) : quoteBody a = a := by
  induction a with
  | nil => rfl
  | cons x r ih =>
    have hx : (iv x == 39) = false := by
      have := h 0
      simp at this
      unfold iv
      simp
      intro e
      apply this
      apply UInt8.toNat_inj.1
      have : (39 : UInt8).toNat = 39 := rfl
      omega
    have := ih (fun k => by have := h (k + 1); simpa using this)
    simp [quoteBody, hx, this]
theorem replace_quote : ∀ (n : Nat) (l : List UInt8), l.length ≤ n → Lib.replaceK [39] [39, 92, 39, 39] (Lib.count l [39]) l = quoteBody l := by
  intro n
  induction n with
  | zero =>
    intro l h
    have : l = [] := List.eq_nil_of_length_eq_zero (by omega)
    subst this
    rfl
  | succ n ih =>
    intro l h
    by_cases hi : Lib.index l [39] = -1
    · have hc : Lib.count l [39] = 0 := Lib.count_miss hi
      rw [hc, Lib.replaceK]
      rw [Lib.index_one] at hi
      exact (quoteBody_none l (Lib.indexByte_none hi)).symm
    · obtain ⟨i, he⟩ : ∃ i : Nat, Lib.index l [39] = i := by
        have := Lib.indexByte_ge l 39
        rw [Lib.index_one] at hi
        exact ⟨(Lib.index l [39]).toNat, by rw [Lib.index_one]; omega⟩
      have hb : Lib.indexByte l 39 = i := by rw [← Lib.index_one]; exact he
      obtain ⟨h1, h2⟩ := Lib.indexByte_some hb
      have hlt : i < l.length := (List.getElem?_eq_some_iff.1 h1).1
      have hc : Lib.count l [39] = 1 + Lib.count (l.drop (i + 1)) [39] := by
        have := Lib.countB_hit ⟨l.toArray⟩ ⟨#[39]⟩ i (by decide) (by simpa [Lib.indexB] using he)
        have s1 : (ByteArray.mk l.toArray).size = l.length := by simp [ByteArray.size]
        have s2 : (ByteArray.mk #[39]).size = 1 := rfl
        rw [s1, s2] at this
        simp [Lib.countB] at this
        rw [List.take_of_length_le (by simp)] at this
        exact this
      rw [hc, Nat.add_comm, Lib.replaceK_hit _ _ _ _ i he]
      rw [List.length_singleton, ih (l.drop (i + 1)) (by simp; omega)]
      have e : l = l.take i ++ 39 :: l.drop (i + 1) := by
        have h3 : l[i] = 39 := by
          have := List.getElem?_eq_getElem hlt
          rw [h1] at this
          exact (Option.some.inj this).symm
        rw [← h3, ← List.drop_eq_getElem_cons hlt, List.take_append_drop]
      conv => rhs; rw [e, quoteBody_append]
      rw [quoteBody_none (l.take i) (fun k => by
        by_cases hk : k < i
        · rw [List.getElem?_take_of_lt hk]; exact h2 k hk
        · rw [List.getElem?_eq_none (by simp; omega)]; simp)]
      simp [quoteBody, iv]
theorem replaceAll_quote (l : List UInt8) : Lib.replaceAll l [39] [39, 92, 39, 39] = quoteBody l := by
  unfold Lib.replaceAll Lib.replace
  rw [if_neg (by decide)]
  unfold Lib.replaceNum
  rw [if_pos (by omega)]
  exact replace_quote l.length l (Nat.le_refl _)
theorem quoteBody_le (l : List UInt8) : (quoteBody l).length ≤ 4 * l.length := by
  induction l with
  | nil => simp [quoteBody]
  | cons x r ih =>
    rw [quoteBody, List.length_append, List.length_cons]
    split <;> simp <;> omega
theorem quote_le (l : List UInt8) : (quote l).length ≤ 4 * l.length + 2 := by
  unfold quote; have := quoteBody_le l; split <;> simp <;> omega

/-! ### Unquote -/
theorem sq_hit {acc r : List UInt8} {x : UInt8} (h : iv x = 39) : sq acc (x :: r) = some (acc, r) := by rw [sq, if_pos (by simp [h])]
theorem sq_miss {acc r : List UInt8} {x : UInt8} (h : iv x ≠ 39) : sq acc (x :: r) = sq (acc ++ [x]) r := by rw [sq, if_neg (by simp [h])]
theorem sq_acc (r : List UInt8) : ∀ acc, sq acc r = (sq [] r).map fun p => (acc ++ p.1, p.2) := by
  induction r with
  | nil => intro acc; rfl
  | cons x r ih =>
    intro acc
    by_cases h : iv x = 39
    · rw [sq_hit h, sq_hit h]; simp
    · rw [sq_miss h, sq_miss h, ih (acc ++ [x]), ih ([] ++ [x])]
      cases sq [] r <;> simp
theorem iv_eq {x : UInt8} {n : Nat} (hn : n < 256) (h : iv x = n) : x = UInt8.ofNat n := by
  apply UInt8.toNat_inj.1
  unfold iv at h
  rw [UInt8.toNat_ofNat']
  omega
theorem sq_index (r : List UInt8) : ∀ acc, sq acc r = if Lib.indexByte r 39 < 0 then none else some (acc ++ r.take (Lib.indexByte r 39).toNat, r.drop ((Lib.indexByte r 39).toNat + 1)) := by
  induction r with
  | nil => intro acc; rfl
  | cons x r ih =>
    intro acc
    by_cases h : iv x = 39
    · rw [sq_hit h]
      have : x = 39 := iv_eq (n := 39) (by omega) h
      subst this
      simp [Lib.indexByte]
    · rw [sq_miss h, ih]
      have hne : (x == 39) = false := by
        simp; intro e; subst e; exact h rfl
      have hge := Lib.indexByte_ge r 39
      rw [show Lib.indexByte (x :: r) 39 = if (x == 39) = true then 0 else if Lib.indexByte r 39 == -1 then -1 else Lib.indexByte r 39 + 1 from rfl, hne]
      by_cases hm : Lib.indexByte r 39 = -1
      · simp [hm]
      · have e1 : (Lib.indexByte r 39 == -1) = false := by simpa using hm
        rw [e1]
        obtain ⟨n, hn⟩ : ∃ n : Nat, Lib.indexByte r 39 = n := ⟨(Lib.indexByte r 39).toNat, by omega⟩
        rw [hn]
        have e2 : ((n : Int) + 1).toNat = n + 1 := by omega
        simp only [Bool.false_eq_true, if_false]
        rw [if_neg (by omega), if_neg (by omega), e2]
        simp
theorem dq_close {acc r : List UInt8} {x : UInt8} (h : iv x = 34) : dq acc (x :: r) = .ok (acc, r) := by
  cases r <;> simp [dq, h]
theorem dq_bad {acc r : List UInt8} {x : UInt8} (h : iv x = 36 ∨ iv x = 96) : dq acc (x :: r) = .error 6 := by
  cases r <;> rcases h with h | h <;> simp [dq, h]
theorem dq_lone {acc : List UInt8} {x : UInt8} (h : iv x = 92) : dq acc [x] = .error 7 := by simp [dq, h]
theorem dq_esc {acc r : List UInt8} {x y : UInt8} (h : iv x = 92) : dq acc (x :: y :: r) = dq (acc ++ dqEsc y) r := by simp [dq, h]
theorem dq_other {acc r : List UInt8} {x : UInt8} (h1 : iv x ≠ 34) (h2 : iv x ≠ 36) (h3 : iv x ≠ 96) (h4 : iv x ≠ 92) : dq acc (x :: r) = dq (acc ++ [x]) r := by
  cases r <;> simp [dq, h1, h2, h3, h4]
def mapAcc (acc : List UInt8) : Except Int (List UInt8 × List UInt8) → Except Int (List UInt8 × List UInt8)
  | .ok (a, s) => .ok (acc ++ a, s)
  | .error e => .error e
theorem dq_acc : ∀ (n : Nat) (r : List UInt8), r.length ≤ n → ∀ acc, dq acc r = mapAcc acc (dq [] r) := by
  intro n
  induction n with
  | zero => intro r h acc; have : r = [] := List.eq_nil_of_length_eq_zero (by omega); subst this; rfl
  | succ n ih =>
    intro r h acc
    match r, h with
    | [], _ => rfl
    | x :: r, h =>
      by_cases h1 : iv x = 34
      · rw [dq_close h1, dq_close h1]; simp [mapAcc]
      by_cases h2 : iv x = 36 ∨ iv x = 96
      · rw [dq_bad h2, dq_bad h2]; rfl
      by_cases h4 : iv x = 92
      · match r, h with
        | [], _ => rw [dq_lone h4, dq_lone h4]; rfl
        | y :: r, h =>
          rw [dq_esc h4, dq_esc h4, ih r (by simp at h; omega), ih r (by simp at h; omega) ([] ++ dqEsc y)]
          cases dq [] r <;> simp [mapAcc]
      · rw [dq_other h1 (by omega) (by omega) h4, dq_other h1 (by omega) (by omega) h4, ih r (by simp at h; omega), ih r (by simp at h; omega) ([] ++ [x])]
        cases dq [] r <;> simp [mapAcc]
theorem dq_error_aux : ∀ (n : Nat) (r : List UInt8), r.length ≤ n → ∀ acc z, dq acc r = .error z → z = 6 ∨ z = 7 := by
  intro n
  induction n with
  | zero =>
    intro r h acc z hz
    have : r = [] := List.eq_nil_of_length_eq_zero (by omega)
    subst this
    simp [dq] at hz; omega
  | succ n ih =>
    intro r h acc z hz
    match r, h with
    | [], _ => simp [dq] at hz; omega
    | x :: r, h =>
      by_cases h1 : iv x = 34
      · rw [dq_close h1] at hz; simp at hz
      by_cases h2 : iv x = 36 ∨ iv x = 96
      · rw [dq_bad h2] at hz; simp at hz; omega
      by_cases h4 : iv x = 92
      · match r, h with
        | [], _ => rw [dq_lone h4] at hz; simp at hz; omega
        | y :: r, h => rw [dq_esc h4] at hz; exact ih r (by simp at h; omega) _ _ hz
      · rw [dq_other h1 (by omega) (by omega) h4] at hz; exact ih r (by simp at h; omega) _ _ hz
theorem dq_error {r acc : List UInt8} {z : Int} (h : dq acc r = .error z) : z = 6 ∨ z = 7 := dq_error_aux r.length r (Nat.le_refl _) acc z h
theorem piece_acc (r : List UInt8) (acc : List UInt8) : piece acc r = mapAcc acc (piece [] r) := by
  match r with
  | [] => rfl
  | x :: r =>
    unfold piece
    simp only
    split
    · rw [sq_acc]
      cases sq [] r <;> simp [ofSq, mapAcc]
    · split
      · exact dq_acc r.length r (Nat.le_refl _) acc
      · split
        · cases r with
          | nil => rfl
          | cons y r => simp only; split <;> simp [mapAcc]
        · split <;> simp [mapAcc]
theorem piece_sq {a r : List UInt8} {x : UInt8} (h : iv x = 39) : piece a (x :: r) = ofSq (sq a r) := by
  have h' : (iv x == 39) = true := by simp [h]
  unfold piece
  simp only
  rw [if_pos h']
theorem piece_sqNone {a r : List UInt8} {x : UInt8} (h : iv x = 39) (hi : Lib.indexByte r 39 < 0) : piece a (x :: r) = .error 7 := by
  rw [piece_sq h, sq_index r a, if_pos hi]; rfl
theorem piece_sqSome {a r : List UInt8} {x : UInt8} {n : Nat} (h : iv x = 39) (hi : Lib.indexByte r 39 = n) : piece a (x :: r) = .ok (a ++ r.take n, r.drop (n + 1)) := by
  rw [piece_sq h, sq_index r a, if_neg (by omega), hi, Int.toNat_natCast]; rfl
theorem piece_dq {a r : List UInt8} {x : UInt8} (h : iv x = 34) : piece a (x :: r) = dq a r := by
  unfold piece; simp [h]
theorem piece_lone {a : List UInt8} {x : UInt8} (h : iv x = 92) : piece a [x] = .error 7 := by
  unfold piece; simp [h]
theorem piece_esc {a r : List UInt8} {x y : UInt8} (h : iv x = 92) : piece a (x :: y :: r) = .ok (if iv y == 10 then a else a ++ [y], r) := by
  unfold piece; simp [h]
theorem piece_stop {a r : List UInt8} {x : UInt8} (h : stop (iv x) = true) (h1 : iv x ≠ 39) (h2 : iv x ≠ 34) (h3 : iv x ≠ 92) : piece a (x :: r) = .error 6 := by
  unfold piece; simp [h, h1, h2, h3]
theorem piece_one {a r : List UInt8} {x : UInt8} (h : stop (iv x) = false) (h1 : iv x ≠ 39) (h2 : iv x ≠ 34) (h3 : iv x ≠ 92) : piece a (x :: r) = .ok (a ++ [x], r) := by
  unfold piece; simp [h, h1, h2, h3]
theorem piece_error {a l : List UInt8} {z : Int} (hl : l ≠ []) (h : piece a l = .error z) : z = 6 ∨ z = 7 := by
  match l, hl with
  | x :: r, _ =>
    by_cases h1 : iv x = 39
    · rw [piece_sq h1] at h
      cases hs : sq a r with
      | none => rw [hs] at h; simp [ofSq] at h; omega
      | some p => rw [hs] at h; simp [ofSq] at h
    by_cases h2 : iv x = 34
    · rw [piece_dq h2] at h; exact dq_error h
    by_cases h3 : iv x = 92
    · cases r with
      | nil => rw [piece_lone h3] at h; simp at h; omega
      | cons y r => rw [piece_esc h3] at h; simp at h
    cases h4 : stop (iv x)
    · rw [piece_one h4 h1 h2 h3] at h; simp at h
    · rw [piece_stop h4 h1 h2 h3] at h; simp at h; omega
theorem unq_nil (n : Nat) (acc : List UInt8) : unq n acc [] = .ok acc := by cases n <;> rfl
theorem unq_ok {n : Nat} {acc l a r : List UInt8} (hl : l ≠ []) (h : piece acc l = .ok (a, r)) : unq (n + 1) acc l = unq n a r := by
  rw [unq, h]; cases l <;> simp at hl ⊢
theorem unq_error {n : Nat} {acc l : List UInt8} {e : Int} (hl : l ≠ []) (h : piece acc l = .error e) : unq (n + 1) acc l = .error e := by
  rw [unq, h]; cases l <;> simp at hl ⊢
/-! ### Unescape -/
theorem dec1_bad {x : UInt8} {r : List UInt8} (h : iv x < 32 ∨ 126 < iv x) : dec1 (x :: r) = .error 6 := by rw [dec1, if_pos h]
theorem dec1_plain {x : UInt8} {r : List UInt8} (h : ¬ (iv x < 32 ∨ 126 < iv x)) (h2 : iv x ≠ 92) : dec1 (x :: r) = .ok (x, r) := by rw [dec1, if_neg h, if_pos h2]
theorem dec1_ok {x : UInt8} {r : List UInt8} {c : UInt8} {n : Nat} (h : iv x = 92) (hs : seqn r = .ok (c, n)) : dec1 (x :: r) = .ok (c, r.drop n) := by
  rw [dec1, if_neg (by omega), if_neg (by omega), hs]
theorem dec1_error {x : UInt8} {r : List UInt8} {z : Int} (h : iv x = 92) (hs : seqn r = .error z) : dec1 (x :: r) = .error z := by
  rw [dec1, if_neg (by omega), if_neg (by omega), hs]
theorem une_nil (n : Nat) (acc : List UInt8) : une n acc [] = .ok acc := by cases n <;> rfl
theorem une_ok {n : Nat} {acc l r : List UInt8} {c : UInt8} (hl : l ≠ []) (h : dec1 l = .ok (c, r)) : une (n + 1) acc l = une n (acc ++ [c]) r := by
  rw [une, h]; cases l <;> simp at hl ⊢
theorem une_error {n : Nat} {acc l : List UInt8} {z : Int} (hl : l ≠ []) (h : dec1 l = .error z) : une (n + 1) acc l = .error z := by
  rw [une, h]; cases l <;> simp at hl ⊢
theorem coded_ok {l : List UInt8} {c : UInt8} {n : Nat} (h : coded l = .ok (c, n)) : ¬ l.length < 3 ∧ n = 3 ∧ c = by8 (16 * hexv (bt l 1) + hexv (bt l 2)) ∧ ¬ (hexv (bt l 1) < 0 ∨ (2 ≤ hexv (bt l 1) ∧ hexv (bt l 1) ≤ 6)) ∧ ¬ (hexv (bt l 2) < 0 ∨ 16 * hexv (bt l 1) + hexv (bt l 2) = 10 ∨ 16 * hexv (bt l 1) + hexv (bt l 2) = 9 ∨ (32 ≤ 16 * hexv (bt l 1) + hexv (bt l 2) ∧ 16 * hexv (bt l 1) + hexv (bt l 2) ≤ 126)) := by
  unfold coded at h
  by_cases h1 : l.length < 2
  · rw [if_pos h1] at h; simp at h
  rw [if_neg h1] at h
  by_cases h2 : hexv (bt l 1) < 0 ∨ (2 ≤ hexv (bt l 1) ∧ hexv (bt l 1) ≤ 6)
  · rw [if_pos h2] at h; simp at h
  rw [if_neg h2] at h
  by_cases h3 : l.length < 3
  · rw [if_pos h3] at h; simp at h
  rw [if_neg h3] at h
  by_cases h4 : hexv (bt l 2) < 0 ∨ 16 * hexv (bt l 1) + hexv (bt l 2) = 10 ∨ 16 * hexv (bt l 1) + hexv (bt l 2) = 9 ∨ (32 ≤ 16 * hexv (bt l 1) + hexv (bt l 2) ∧ 16 * hexv (bt l 1) + hexv (bt l 2) ≤ 126)
  · rw [if_pos h4] at h; simp at h
  rw [if_neg h4] at h
  simp at h
  exact ⟨h3, h.2.symm, h.1.symm, h2, h4⟩
theorem coded_error {l : List UInt8} {z : Int} (h : coded l = .error z) : z = 28 ∨ z = 6 := by
  unfold coded at h
  repeat' split at h
  all_goals (first | (simp at h; done) | (simp at h; omega))
theorem seqn_le {l : List UInt8} {c : UInt8} {n : Nat} (h : seqn l = .ok (c, n)) : 1 ≤ n ∧ n ≤ l.length := by
  unfold seqn at h
  cases l with
  | nil => simp at h
  | cons x r =>
    simp only [List.isEmpty_cons, Bool.false_eq_true, if_false] at h
    by_cases h1 : (bt (x :: r) 0 == 110) = true
    · rw [if_pos h1] at h; simp at h; simp; omega
    rw [if_neg h1] at h
    by_cases h2 : (bt (x :: r) 0 == 116) = true
    · rw [if_pos h2] at h; simp at h; simp; omega
    rw [if_neg h2] at h
    by_cases h3 : (bt (x :: r) 0 == 92) = true
    · rw [if_pos h3] at h; simp at h; simp; omega
    rw [if_neg h3] at h
    by_cases h4 : (bt (x :: r) 0 == 120) = true
    · rw [if_pos h4] at h
      obtain ⟨h5, h6, _⟩ := coded_ok h
      omega
    rw [if_neg h4] at h; simp at h
theorem seqn_error {l : List UInt8} {z : Int} (h : seqn l = .error z) : z = 28 ∨ z = 6 := by
  unfold seqn at h
  cases l with
  | nil => simp at h; omega
  | cons x r =>
    simp only [List.isEmpty_cons, Bool.false_eq_true, if_false] at h
    by_cases h1 : (bt (x :: r) 0 == 110) = true
    · rw [if_pos h1] at h; simp at h
    rw [if_neg h1] at h
    by_cases h2 : (bt (x :: r) 0 == 116) = true
    · rw [if_pos h2] at h; simp at h
    rw [if_neg h2] at h
    by_cases h3 : (bt (x :: r) 0 == 92) = true
    · rw [if_pos h3] at h; simp at h
    rw [if_neg h3] at h
    by_cases h4 : (bt (x :: r) 0 == 120) = true
    · rw [if_pos h4] at h; exact coded_error h
    rw [if_neg h4] at h; simp at h; omega
theorem esc1_le (x : UInt8) : (esc1 x).length ≤ 4 := by
  unfold esc1; repeat' split
  all_goals simp
end P
end Go.Proofs.YtcbdhheelddgeaaGreatDoor
namespace Go.Proofs.YtcbdhheelddgeaaGreatDoor
open K
namespace P

/-! ### Unquote without fuel -/
theorem sq_lt {r : List UInt8} : ∀ {acc a s : List UInt8}, sq acc r = some (a, s) → s.length < r.length := by
  induction r with
  | nil => intro acc a s h; simp [sq] at h
  | cons x r ih =>
    intro acc a s h
    by_cases hx : iv x = 39
    · rw [sq_hit hx] at h; simp at h; simp [h.2]
    · rw [sq_miss hx] at h; have := ih h; simp; omega
theorem dq_lt_aux : ∀ (n : Nat) (r : List UInt8), r.length ≤ n → ∀ acc a s, dq acc r = .ok (a, s) → s.length < r.length := by
  intro n
  induction n with
  | zero =>
    intro r h acc a s hz
    have : r = [] := List.eq_nil_of_length_eq_zero (by omega)
    subst this
    simp [dq] at hz
  | succ n ih =>
    intro r h acc a s hz
    match r, h with
    | [], _ => simp [dq] at hz
    | x :: r, h =>
      by_cases h1 : iv x = 34
      · rw [dq_close h1] at hz; simp at hz; simp [hz.2]
      by_cases h2 : iv x = 36 ∨ iv x = 96
      · rw [dq_bad h2] at hz; simp at hz
      by_cases h4 : iv x = 92
      · match r, h with
        | [], _ => rw [dq_lone h4] at hz; simp at hz
        | y :: r, h => rw [dq_esc h4] at hz; have := ih r (by simp at h; omega) _ _ _ hz; simp; omega
      · rw [dq_other h1 (by omega) (by omega) h4] at hz; have := ih r (by simp at h; omega) _ _ _ hz; simp; omega
theorem piece_lt {l acc a s : List UInt8} (hl : l ≠ []) (h : piece acc l = .ok (a, s)) : s.length < l.length := by
  match l, hl with
  | x :: r, _ =>
    by_cases h1 : iv x = 39
    · rw [piece_sq h1] at h
      cases hs : sq acc r with
      | none => rw [hs] at h; simp [ofSq] at h
      | some p =>
        rw [hs] at h; simp [ofSq] at h
        have := sq_lt (a := a) (s := s) (by rw [hs, h])
        simp; omega
    by_cases h2 : iv x = 34
    · rw [piece_dq h2] at h; have := dq_lt_aux r.length r (Nat.le_refl _) _ _ _ h; simp; omega
    by_cases h3 : iv x = 92
    · cases r with
      | nil => rw [piece_lone h3] at h; simp at h
      | cons y r => rw [piece_esc h3] at h; simp at h; simp [← h.2]; omega
    cases h4 : stop (iv x)
    · rw [piece_one h4 h1 h2 h3] at h; simp at h; simp [← h.2]
    · rw [piece_stop h4 h1 h2 h3] at h; simp at h
theorem unq_more : ∀ (n : Nat) (l acc : List UInt8), l.length ≤ n → unq (n + 1) acc l = unq n acc l := by
  intro n
  induction n with
  | zero =>
    intro l acc h
    have : l = [] := List.eq_nil_of_length_eq_zero (by omega)
    subst this; rfl
  | succ n ih =>
    intro l acc h
    by_cases hl : l = []
    · subst hl; rw [unq_nil, unq_nil]
    · cases hp : piece acc l with
      | ok p =>
        obtain ⟨a, r⟩ := p
        have := piece_lt hl hp
        rw [unq_ok hl hp, unq_ok hl hp, ih r a (by omega)]
      | error z => rw [unq_error hl hp, unq_error hl hp]
theorem unq_fuel (l acc : List UInt8) : ∀ k, unq (l.length + k) acc l = unq l.length acc l
  | 0 => rfl
  | k + 1 => by rw [← unq_fuel l acc k, ← unq_more (l.length + k) l acc (by omega)]; rfl
def U (acc l : List UInt8) : Except Int (List UInt8) := unq l.length acc l
theorem U_nil (acc : List UInt8) : U acc [] = .ok acc := rfl
theorem U_ok {acc l a r : List UInt8} (hl : l ≠ []) (h : piece acc l = .ok (a, r)) : U acc l = U a r := by
  have hlt := piece_lt hl h
  obtain ⟨k, hk⟩ : ∃ k, l.length = (r.length + k) + 1 := ⟨l.length - r.length - 1, by omega⟩
  unfold U
  rw [hk, unq_ok hl h, unq_fuel]
theorem unquote_U (l : List UInt8) : unquote l = U [] l := rfl

/-! ### Quote and Unquote -/
theorem pl_small : ∀ n : Nat, n < 256 → pl n = true → (stop n = false ∧ n ≠ 39 ∧ n ≠ 34 ∧ n ≠ 92) := by decide +kernel
theorem pl_free {x : UInt8} (h : pl (iv x) = true) : stop (iv x) = false ∧ iv x ≠ 39 ∧ iv x ≠ 34 ∧ iv x ≠ 92 := by
  have := pl_small x.toNat x.toNat_lt h
  unfold iv
  refine ⟨this.1, ?_, ?_, ?_⟩ <;> omega
theorem U_plain (s : List UInt8) : ∀ acc r, s.all (fun x => pl (iv x)) = true → U acc (s ++ r) = U (acc ++ s) r := by
  induction s with
  | nil => intro acc r _; simp
  | cons x s ih =>
    intro acc r h
    rw [List.all_cons, Bool.and_eq_true] at h
    obtain ⟨h1, h2, h3, h4⟩ := pl_free h.1
    rw [List.cons_append, U_ok (by simp) (piece_one h1 h2 h3 h4), ih _ _ h.2]
    simp
theorem U_single (s : List UInt8) : ∀ acc r, U acc (39 :: (quoteBody s ++ 39 :: r)) = U (acc ++ s) r := by
  have open39 : ∀ (acc l a r : List UInt8), sq acc l = some (a, r) → U acc (39 :: l) = U a r := by
    intro acc l a r h
    exact U_ok (by simp) (by rw [piece_sq (by rfl), h]; rfl)
  induction s with
  | nil =>
    intro acc r
    rw [show quoteBody [] ++ 39 :: r = 39 :: r from rfl, open39 acc (39 :: r) acc r (sq_hit (x := 39) rfl)]; simp
  | cons x s ih =>
    intro acc r
    by_cases hx : iv x = 39
    · have hx' : x = 39 := iv_eq (n := 39) (by omega) hx
      subst hx'
      rw [show quoteBody (39 :: s) = [39, 92, 39, 39] ++ quoteBody s from rfl]
      simp only [List.cons_append, List.nil_append]
      rw [open39 acc _ acc (92 :: 39 :: 39 :: (quoteBody s ++ 39 :: r)) (sq_hit rfl)]
      rw [U_ok (a := acc ++ [39]) (r := 39 :: (quoteBody s ++ 39 :: r)) (by simp) (by rw [piece_esc (by rfl)]; rfl)]
      rw [ih]; simp
    · have e : quoteBody (x :: s) = x :: quoteBody s := by
        rw [quoteBody, if_neg (by simpa using hx)]; rfl
      rw [e, List.cons_append]
      have := ih (acc ++ [x]) r
      rw [List.append_assoc, List.singleton_append] at this
      rw [← this]
      have hs : sq acc (x :: (quoteBody s ++ 39 :: r)) = sq (acc ++ [x]) (quoteBody s ++ 39 :: r) := sq_miss hx
      cases hq : sq (acc ++ [x]) (quoteBody s ++ 39 :: r) with
      | none => exact absurd hq (sq_found s _ r)
      | some p => rw [open39 acc _ p.1 p.2 (by rw [hs, hq]), open39 (acc ++ [x]) _ p.1 p.2 hq]
where
  sq_found (s : List UInt8) (acc r : List UInt8) : sq acc (quoteBody s ++ 39 :: r) ≠ none := by
    induction s generalizing acc with
    | nil => rw [show quoteBody [] ++ 39 :: r = 39 :: r from rfl, sq_hit rfl]; simp
    | cons x s ih =>
      by_cases hx : iv x = 39
      · rw [quoteBody, if_pos (by simpa using hx)]
        simp only [List.cons_append]
        rw [sq_hit rfl]; simp
      · rw [quoteBody, if_neg (by simpa using hx)]
        simp only [List.cons_append, List.nil_append]
        rw [sq_miss hx]
        exact ih _
theorem U_quote (s acc r : List UInt8) : U acc (quote s ++ r) = U (acc ++ s) r := by
  unfold quote
  by_cases h : plainB s = true
  · rw [if_pos h]
    unfold plainB at h
    rw [Bool.and_eq_true] at h
    exact U_plain s acc r h.1
  · rw [if_neg h, List.cons_append, List.append_assoc]
    exact U_single s acc r
theorem back (s t : List UInt8) : unquote (quote s ++ quote t) = .ok (s ++ t) := by
  rw [unquote_U, U_quote]
  have := U_quote t ([] ++ s) []
  rw [List.append_nil] at this
  rw [this, U_nil]; simp
theorem quoteBody_ge (l : List UInt8) : l.length ≤ (quoteBody l).length := by
  induction l with
  | nil => simp [quoteBody]
  | cons x r ih => rw [quoteBody, List.length_append, List.length_cons]; split <;> simp <;> omega
theorem quote_iff (l : List UInt8) : (quote l == l) = plainB l := by
  unfold quote
  cases h : plainB l
  · simp only [Bool.false_eq_true, if_false]
    rw [beq_eq_false_iff_ne]
    intro e
    have := congrArg List.length e
    have h2 := quoteBody_ge l
    simp at this
    omega
  · simp

/-! ### Double quotes -/
def dqBody : List UInt8 → List UInt8
  | [] => []
  | x :: r => (if iv x == 36 || iv x == 96 || iv x == 34 || iv x == 92 then [92, x] else [x]) ++ dqBody r
theorem dqBody_le (l : List UInt8) : (dqBody l).length ≤ 2 * l.length := by
  induction l with
  | nil => simp [dqBody]
  | cons x r ih => rw [dqBody, List.length_append, List.length_cons]; split <;> simp <;> omega
theorem dq_body (s : List UInt8) : ∀ acc, dq acc (dqBody s ++ [34]) = .ok (acc ++ s, []) := by
  induction s with
  | nil => intro acc; rw [show dqBody [] ++ [34] = [34] from rfl, dq_close rfl]; simp
  | cons x s ih =>
    intro acc
    by_cases h : (iv x == 36 || iv x == 96 || iv x == 34 || iv x == 92) = true
    · rw [dqBody, if_pos h]
      simp only [List.cons_append, List.nil_append]
      rw [dq_esc (by rfl), ih, show dqEsc x = [x] by unfold dqEsc; rw [if_pos h]]
      simp
    · rw [dqBody, if_neg h]
      simp only [List.cons_append, List.nil_append]
      simp at h
      rw [dq_other (by omega) (by omega) (by omega) (by omega), ih]
      simp
theorem doubles (s : List UInt8) : unquote (34 :: (dqBody s ++ [34])) = .ok s := by
  rw [unquote_U, U_ok (a := s) (r := []) (by simp) (by rw [piece_dq (by rfl), dq_body]; rfl), U_nil]
end P
end Go.Proofs.YtcbdhheelddgeaaGreatDoor
namespace Go.Proofs.YtcbdhheelddgeaaGreatDoor
open K
namespace AL
abbrev Str := List UInt8
/-- An alias: its name, its value. -/
abbrev Al := Str × Str
def res : List Str := [[33], [123], [125], [99, 97, 115, 101], [100, 111], [100, 111, 110, 101], [101, 108, 105, 102], [101, 108, 115, 101], [101, 115, 97, 99], [102, 105], [102, 111, 114], [105, 102], [105, 110], [116, 104, 101, 110], [117, 110, 116, 105, 108], [119, 104, 105, 108, 101]]
def resB (t : Str) : Bool := decide (t ∈ res)
def named (s : Str) : Bool := decide (s.length ≤ 32) && (P.plainB s && !resB s)
/-- Whether a name does not lie behind the one ahead of it. -/
def behind : Option Str → Str → Bool
  | none, _ => false
  | some q, s => !decide (q < s)
def vfrom : Option Str → List Al → Int
  | _, [] => 0
  | p, a :: r => if named a.1 = false then 10 else if 4096 < a.2.length then 3 else if behind p a.1 = true then 1 else vfrom (some a.1) r
def valid (l : List Al) : Int := if 64 < l.length then 4 else vfrom none l
def get : List Al → Str → Option Str
  | [], _ => none
  | a :: r, n => if a.1 = n then some a.2 else get r n
def Sorted (l : List Al) : Prop := l.Pairwise fun a b => a.1 < b.1
def Good (a : Al) : Prop := named a.1 = true ∧ a.2.length ≤ 4096
theorem lt_of_not {a b : Str} (h : ¬ a < b) (h2 : a ≠ b) : b < a := by
  rcases Std.lt_trichotomy a b with h3 | h3 | h3
  · exact absurd h3 h
  · exact absurd h3 h2
  · exact h3
theorem vfrom_zero : ∀ (l : List Al) (p : Option Str), vfrom p l = 0 ↔ (∀ a ∈ l, Good a) ∧ Sorted l ∧ ∀ q, p = some q → ∀ a ∈ l, q < a.1
  | [], p => by simp [vfrom, Sorted]
  | a :: r, p => by
    rw [vfrom]
    have ih := vfrom_zero r (some a.1)
    constructor
    · intro h
      split at h
      · exact absurd h (by decide)
      rename_i h1
      split at h
      · exact absurd h (by decide)
      rename_i h2
      split at h
      · exact absurd h (by decide)
      rename_i h3
      obtain ⟨i1, i2, i3⟩ := ih.1 h
      have i4 := i3 a.1 rfl
      refine ⟨fun b hb => ?_, List.Pairwise.cons i4 i2, fun q hq b hb => ?_⟩
      · rcases List.mem_cons.1 hb with rfl | hb
        · exact ⟨by simpa using h1, by omega⟩
        · exact i1 b hb
      · subst hq
        have hqa : q < a.1 := by simpa [behind] using h3
        rcases List.mem_cons.1 hb with rfl | hb
        · exact hqa
        · exact List.lt_trans hqa (i4 b hb)
    · rintro ⟨h1, h2, h3⟩
      obtain ⟨g1, g2⟩ := h1 a (List.mem_cons_self ..)
      rw [if_neg (by rw [g1]; simp), if_neg (by omega), if_neg]
      · unfold Sorted at h2
        rw [List.pairwise_cons] at h2
        exact ih.2 ⟨fun b hb => h1 b (List.mem_cons_of_mem _ hb), h2.2, fun q hq b hb => by injection hq with hq; subst hq; exact h2.1 b hb⟩
      · cases p with
        | none => simp [behind]
        | some q =>
          have := h3 q rfl a (List.mem_cons_self ..)
          simp [behind, this]
theorem valid_zero (l : List Al) : valid l = 0 ↔ l.length ≤ 64 ∧ (∀ a ∈ l, Good a) ∧ Sorted l := by
  unfold valid
  constructor
  · intro h
    split at h
    · exact absurd h (by decide)
    · obtain ⟨h1, h2, -⟩ := (vfrom_zero l none).1 h
      exact ⟨by omega, h1, h2⟩
  · rintro ⟨h1, h2, h3⟩
    rw [if_neg (by omega)]
    exact (vfrom_zero l none).2 ⟨h2, h3, fun q hq => by cases hq⟩
theorem get_high {n : Str} : ∀ {l : List Al}, (∀ a ∈ l, n < a.1) → get l n = none
  | [], _ => rfl
  | a :: r, h => by
    have h1 := h a (List.mem_cons_self ..)
    rw [get, if_neg (by intro e; rw [e] at h1; exact List.lt_irrefl _ h1)]
    exact get_high fun b hb => h b (List.mem_cons_of_mem _ hb)
theorem get_low {n : Str} (m : List Al) : ∀ {l : List Al}, (∀ a ∈ l, a.1 < n) → get (l ++ m) n = get m n
  | [], _ => rfl
  | a :: r, h => by
    have h1 := h a (List.mem_cons_self ..)
    rw [List.cons_append, get, if_neg (by intro e; rw [e] at h1; exact List.lt_irrefl _ h1)]
    exact get_low m fun b hb => h b (List.mem_cons_of_mem _ hb)
/-- A list in order around a name. -/
structure Split (l : List Al) (n : Str) (A B : List Al) (o : Option Str) : Prop where
  eq : l = A ++ ((match o with | none => [] | some v => [(n, v)]) ++ B)
  low : ∀ a ∈ A, a.1 < n
  high : ∀ b ∈ B, n < b.1
  get : AL.get l n = o
theorem split : ∀ {l : List Al} (n : Str), Sorted l → ∃ A B, Split l n A B (get l n)
  | [], n, _ => ⟨[], [], rfl, fun a h => by simp at h, fun b h => by simp at h, rfl⟩
  | a :: r, n, h => by
    have h0 := h
    unfold Sorted at h
    rw [List.pairwise_cons] at h
    by_cases h1 : a.1 = n
    · have hg : get (a :: r) n = some a.2 := by rw [get, if_pos h1]
      rw [hg]
      exact ⟨[], r, by rw [← h1]; rfl, fun a h => by simp at h, fun b hb => by rw [← h1]; exact h.1 b hb, hg⟩
    · by_cases h2 : a.1 < n
      · obtain ⟨A, B, s⟩ := split (l := r) n h.2
        have hg : get (a :: r) n = get r n := by rw [get, if_neg h1]
        rw [hg]
        exact ⟨a :: A, B, by rw [List.cons_append, ← s.eq], fun b hb => by rcases List.mem_cons.1 hb with rfl | hb; exact h2; exact s.low b hb, s.high, hg⟩
      · have h3 := lt_of_not h2 h1
        have hh : ∀ b ∈ a :: r, n < b.1 := fun b hb => by
          rcases List.mem_cons.1 hb with rfl | hb
          · exact h3
          · exact List.lt_trans h3 (h.1 b hb)
        have hg := get_high hh
        rw [hg]
        exact ⟨[], a :: r, rfl, fun a h => by simp at h, hh, hg⟩
def low (l : List Al) (n : Str) : List Al := l.takeWhile fun a => decide (a.1 < n)
theorem take_low {n : Str} (m : List Al) (hm : ∀ b, m.head? = some b → ¬ b.1 < n) : ∀ {A : List Al}, (∀ a ∈ A, a.1 < n) → low (A ++ m) n = A
  | [], _ => by
    unfold low
    cases m with
    | nil => rfl
    | cons b r => rw [List.nil_append, List.takeWhile_cons, if_neg (by simpa using hm b rfl)]
  | a :: r, h => by
    have ih := take_low m hm (A := r) fun b hb => h b (List.mem_cons_of_mem _ hb)
    unfold low at ih ⊢
    rw [List.cons_append, List.takeWhile_cons, if_pos (by simpa using h a (List.mem_cons_self ..)), ih]
theorem Split.low_eq {l : List Al} {n : Str} {A B : List Al} {o : Option Str} (s : Split l n A B o) : AL.low l n = A := by
  rw [s.eq]
  refine take_low _ (fun b hb => ?_) s.low
  cases o with
  | none =>
    cases B with
    | nil => simp at hb
    | cons c r =>
      simp at hb
      subst hb
      intro h
      exact List.lt_irrefl _ (List.lt_trans h (s.high _ (List.mem_cons_self ..)))
  | some v =>
    simp at hb
    subst hb
    exact List.lt_irrefl _
/-- The list with an alias. -/
def ins (l : List Al) (n v : Str) : List Al := low l n ++ (n, v) :: l.drop ((low l n).length + if (get l n).isSome = true then 1 else 0)
/-- The list without one. -/
def del (l : List Al) (n : Str) : List Al := low l n ++ l.drop ((low l n).length + 1)
theorem Split.ins {l : List Al} {n : Str} {A B : List Al} {o : Option Str} (s : Split l n A B o) (v : Str) : AL.ins l n v = A ++ (n, v) :: B := by
  unfold AL.ins
  rw [s.low_eq, s.get, s.eq]
  cases o with
  | none => simp
  | some u => simp
theorem Split.del {l : List Al} {n u : Str} {A B : List Al} (s : Split l n A B (some u)) : AL.del l n = A ++ B := by
  unfold AL.del
  rw [s.low_eq, s.eq]
  simp
def set (l : List Al) (n v : Str) : List Al × Int :=
  if valid l = 0 then (if named n = false then (l, 10) else if 4096 < v.length then (l, 3) else if get l n = none ∧ l.length = 64 then (l, 4) else (ins l n v, 0)) else (l, valid l)
def unset (l : List Al) (n : Str) : List Al × Int :=
  if valid l = 0 then (if get l n = none then (l, 8) else (del l n, 0)) else (l, valid l)
def without (l : List Al) (n : Str) : List Al := l.filter fun a => !decide (a.1 = n)
def setR (l : List Al) (n v : Str) : List Al × Int :=
  if valid l = 0 then (if named n = false then (l, 10) else if 4096 < v.length then (l, 3) else if 64 ≤ (without l n).length then (l, 4) else (low (without l n) n ++ (n, v) :: (without l n).drop (low (without l n) n).length, 0)) else (l, valid l)
def unsetR (l : List Al) (n : Str) : List Al × Int :=
  if valid l = 0 then (if get l n = none then (l, 8) else (without l n, 0)) else (l, valid l)
theorem Split.without {l : List Al} {n : Str} {A B : List Al} {o : Option Str} (s : Split l n A B o) : AL.without l n = A ++ B := by
  unfold AL.without
  have hA : (A.filter fun a => !decide (a.1 = n)) = A := List.filter_eq_self.2 fun a ha => by
    have := s.low a ha
    simp
    intro e
    rw [e] at this
    exact List.lt_irrefl _ this
  have hB : (B.filter fun a => !decide (a.1 = n)) = B := List.filter_eq_self.2 fun b hb => by
    have := s.high b hb
    simp
    intro e
    rw [e] at this
    exact List.lt_irrefl _ this
  rw [s.eq, List.filter_append, List.filter_append, hA, hB]
  cases o with
  | none => rfl
  | some u => simp
theorem Split.len {l : List Al} {n : Str} {A B : List Al} {o : Option Str} (s : Split l n A B o) : l.length = A.length + B.length + (if o.isSome = true then 1 else 0) := by
  rw [s.eq]
  cases o with
  | none => simp
  | some u => simp; omega
/-- The plain law of AliasSets. -/
theorem set_eq (l : List Al) (n v : Str) : set l n v = setR l n v := by
  unfold set setR
  by_cases h0 : valid l = 0
  case neg => rw [if_neg h0, if_neg h0]
  rw [if_pos h0, if_pos h0]
  obtain ⟨hl, -, hs⟩ := (valid_zero l).1 h0
  obtain ⟨A, B, s⟩ := split n hs
  have hw := s.without
  have hlen := s.len
  have hlow : low (A ++ B) n = A := take_low B (fun b hb => by
    cases B with
    | nil => simp at hb
    | cons c r =>
      simp at hb
      subst hb
      intro h
      exact List.lt_irrefl _ (List.lt_trans h (s.high _ (List.mem_cons_self ..)))) s.low
  rw [hw, s.ins, hlow]
  by_cases h1 : named n = false
  · rw [if_pos h1, if_pos h1]
  rw [if_neg h1, if_neg h1]
  by_cases h2 : 4096 < v.length
  · rw [if_pos h2, if_pos h2]
  rw [if_neg h2, if_neg h2]
  have hiff : (get l n = none ∧ l.length = 64) ↔ 64 ≤ (A ++ B).length := by
    rw [List.length_append]
    cases hg : get l n with
    | none => rw [hg] at hlen; simp at hlen ⊢; omega
    | some u => rw [hg] at hlen; simp at hlen ⊢; omega
  by_cases h3 : get l n = none ∧ l.length = 64
  · rw [if_pos h3, if_pos (hiff.1 h3)]
  · rw [if_neg h3, if_neg (fun e => h3 (hiff.2 e))]
    simp
/-- The plain law of AliasUnsets. -/
theorem unset_eq (l : List Al) (n : Str) : unset l n = unsetR l n := by
  unfold unset unsetR
  by_cases h0 : valid l = 0
  case neg => rw [if_neg h0, if_neg h0]
  rw [if_pos h0, if_pos h0]
  obtain ⟨hl, -, hs⟩ := (valid_zero l).1 h0
  obtain ⟨A, B, s⟩ := split n hs
  cases hg : get l n with
  | none => rfl
  | some u =>
    rw [hg] at s
    rw [s.del, s.without]
theorem Split.sorted {l : List Al} {n : Str} {A B : List Al} {o : Option Str} (s : Split l n A B o) (h : Sorted l) : Sorted (A ++ B) ∧ ∀ v, Sorted (A ++ (n, v) :: B) := by
  unfold Sorted at h ⊢
  rw [s.eq, List.pairwise_append, List.pairwise_append] at h
  obtain ⟨h1, ⟨-, h3, -⟩, -⟩ := h
  refine ⟨List.pairwise_append.2 ⟨h1, h3, fun a ha b hb => List.lt_trans (s.low a ha) (s.high b hb)⟩, fun v => List.pairwise_append.2 ⟨h1, List.Pairwise.cons (fun b hb => s.high b hb) h3, fun a ha b hb => ?_⟩⟩
  rcases List.mem_cons.1 hb with rfl | hb
  · exact s.low a ha
  · exact List.lt_trans (s.low a ha) (s.high b hb)
theorem get_mid (A B : List Al) (n v : Str) (k : Str) (h : k ≠ n) : get (A ++ (n, v) :: B) k = get (A ++ B) k := by
  induction A with
  | nil => rw [List.nil_append, List.nil_append, get, if_neg (fun e => h e.symm)]
  | cons a r ih => rw [List.cons_append, List.cons_append, get, get, ih]
/-- The plain law of AliasList. -/
theorem list_law {l m : List Al} {n v : Str} (h : set l n v = (m, 0)) (h2 : valid l = 0) : get m n = some v ∧ valid m = 0 ∧ (∀ k, k ≠ n → get m k = get l k) ∧ ∃ q, unset m n = (q, 0) ∧ get q n = none ∧ q.length + 1 = m.length ∧ valid q = 0 := by
  obtain ⟨hl, hgd, hs⟩ := (valid_zero l).1 h2
  obtain ⟨A, B, s⟩ := split n hs
  have hlen := s.len
  unfold set at h
  rw [if_pos h2] at h
  split at h
  · exact absurd (congrArg Prod.snd h) (show ¬ (10 : Int) = 0 by decide)
  rename_i h3
  split at h
  · exact absurd (congrArg Prod.snd h) (show ¬ (3 : Int) = 0 by decide)
  rename_i h4
  split at h
  · exact absurd (congrArg Prod.snd h) (show ¬ (4 : Int) = 0 by decide)
  rename_i h5
  rw [s.ins] at h
  have hm : m = A ++ (n, v) :: B := (congrArg Prod.fst h).symm
  obtain ⟨s1, s2⟩ := s.sorted hs
  have hAB : ∀ a ∈ A ++ B, Good a := fun a ha => hgd a (by rw [s.eq]; rcases List.mem_append.1 ha with h | h; exact List.mem_append_left _ h; exact List.mem_append_right _ (List.mem_append_right _ h))
  have hgn : Good (n, v) := ⟨by simpa using h3, by show v.length ≤ 4096; omega⟩
  have hmg : ∀ a ∈ m, Good a := fun a ha => by
    rw [hm] at ha
    rcases List.mem_append.1 ha with h | h
    · exact hAB a (List.mem_append_left _ h)
    · rcases List.mem_cons.1 h with rfl | h
      · exact hgn
      · exact hAB a (List.mem_append_right _ h)
  have hml : m.length ≤ 64 := by
    rw [hm]
    simp
    cases hg : get l n with
    | none =>
      have : ¬ l.length = 64 := fun e => h5 ⟨hg, e⟩
      rw [hg] at hlen
      simp at hlen
      omega
    | some u => rw [hg] at hlen; simp at hlen; omega
  have hmv : valid m = 0 := (valid_zero m).2 ⟨hml, hmg, by rw [hm]; exact s2 v⟩
  have hgm : get m n = some v := by rw [hm, get_low _ s.low, get, if_pos rfl]
  have sm : Split m n A B (some v) := ⟨hm, s.low, s.high, hgm⟩
  refine ⟨hgm, hmv, fun k hk => ?_, A ++ B, ?_, ?_, ?_, ?_⟩
  · rw [hm, get_mid _ _ _ _ _ hk]
    conv => rhs; rw [s.eq]
    cases hg : get l n with
    | none => simp
    | some u => exact (get_mid A B n u k hk).symm
  · unfold unset
    rw [if_pos hmv, hgm, if_neg (by simp), sm.del]
  · rw [get_low _ s.low]
    exact get_high s.high
  · rw [hm]
    simp
    omega
  · exact (valid_zero _).2 ⟨by rw [hm] at hml; simp at hml ⊢; omega, hAB, s1⟩
end AL
end Go.Proofs.YtcbdhheelddgeaaGreatDoor
