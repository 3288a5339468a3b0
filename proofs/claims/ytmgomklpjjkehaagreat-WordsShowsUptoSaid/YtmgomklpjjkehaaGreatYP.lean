/- Several texts in one: P01 P01b P01c P08q P08w P08c P08d. -/
import Derived.Test.YtmgomklpjjkehaaGreatK
import Derived.Lib.Bytealg
import Derived.Lib.Replace
import Derived.Lib.ReplaceLaws
import Derived.Lib.IndexBytes
import Derived.Lib.IndexLaws
import Derived.Lib.CountLaws
import Derived.Test.YtmgomklpjjkehaaGreatP08b
namespace Go.Proofs.YtmgomklpjjkehaaGreat
open K
namespace P

def lt (c : Int) : Bool := (decide (97 ≤ c) && decide (c ≤ 122)) || (decide (65 ≤ c) && decide (c ≤ 90))
def dg (c : Int) : Bool := decide (48 ≤ c) && decide (c ≤ 57)
def wd (c : Int) : Bool := lt c || dg c || c == 95
def bl (c : Int) : Bool := c == 9 || c == 32
def ob (c : Int) : Bool := c == 38 || c == 124 || c == 59 || c == 40 || c == 41 || c == 60 || c == 62
def iv (x : UInt8) : Int := (x.toNat : Int)
def has (l : List UInt8) (c : Int) : Bool := l.any fun x => iv x == c

def nameB (l : List UInt8) : Bool := !l.isEmpty && decide (l.length ≤ 32) && !dg (bt l 0) && l.all fun x => wd (iv x)

/-- The reference's loop. -/
def rloop (n : Int) : List UInt8 → Option Int
  | [] => if 2147483647 < n then none else some n
  | x :: r => if dg (iv x) then rloop (10 * n + (iv x - 48)) r else none
/-- The program's loop. -/
def dloop (n : Int) : List UInt8 → Option Int
  | [] => some n
  | x :: r => if dg (iv x) then (if 2147483647 < 10 * n + (iv x - 48) then none else dloop (10 * n + (iv x - 48)) r) else none
def digits (l : List UInt8) : Option Int :=
  if l.isEmpty || decide (10 < l.length) || (bt l 0 == 48 && decide (1 < l.length)) then none else rloop 0 l
def digitsI (l : List UInt8) : Option Int :=
  if l == [48] then some 0 else if l.isEmpty || bt l 0 == 48 then none else dloop 0 l

def pun : List UInt8 := [45, 46, 47, 44, 58, 43, 37, 64, 94]
def pl (c : Int) : Bool := wd c || has pun c
def plainB (l : List UInt8) : Bool := l.all (fun x => pl (iv x)) && !l.isEmpty

def quoteBody : List UInt8 → List UInt8
  | [] => []
  | x :: r => (if iv x == 39 then [39, 92, 39, 39] else [x]) ++ quoteBody r
def quote (l : List UInt8) : List UInt8 := if plainB l then l else 39 :: (quoteBody l ++ [39])

/-- The contents of a single-quoted string behind its opening quote, and what follows. -/
def sq (acc : List UInt8) : List UInt8 → Option (List UInt8 × List UInt8)
  | [] => none
  | x :: r => if iv x == 39 then some (acc, r) else sq (acc ++ [x]) r
def dqEsc (y : UInt8) : List UInt8 := if iv y == 36 || iv y == 96 || iv y == 34 || iv y == 92 then [y] else if iv y == 10 then [] else [92, y]
/-- The contents of a double-quoted string behind its opening quote, and what follows; or the error's number. -/
def dq (acc : List UInt8) : List UInt8 → Except Int (List UInt8 × List UInt8)
  | [] => .error 7
  | [x] => if iv x == 34 then .ok (acc, []) else if iv x == 36 || iv x == 96 then .error 6 else .error 7
  | x :: y :: r => if iv x == 34 then .ok (acc, y :: r) else if iv x == 36 || iv x == 96 then .error 6
      else if iv x == 92 then dq (acc ++ dqEsc y) r else dq (acc ++ [x]) (y :: r)
def stop (c : Int) : Bool := bl c || c == 10 || ob c || c == 36 || c == 96
def ofSq : Option (List UInt8 × List UInt8) → Except Int (List UInt8 × List UInt8)
  | some p => .ok p
  | none => .error 7
/-- One element of a quoted form. -/
def piece (acc : List UInt8) : List UInt8 → Except Int (List UInt8 × List UInt8)
  | [] => .error 0
  | x :: r =>
    if iv x == 39 then ofSq (sq acc r)
    else if iv x == 34 then dq acc r
    else if iv x == 92 then (match r with | [] => .error 7 | y :: r' => .ok (if iv y == 10 then acc else acc ++ [y], r'))
    else if stop (iv x) then .error 6
    else .ok (acc ++ [x], r)
def unq : Nat → List UInt8 → List UInt8 → Except Int (List UInt8)
  | 0, acc, _ => .ok acc
  | n + 1, acc, l => if l.isEmpty then .ok acc else match piece acc l with | .ok (a, r) => unq n a r | .error e => .error e
def unquote (l : List UInt8) : Except Int (List UInt8) := unq l.length [] l

def hexd (n : Int) : UInt8 := by8 (if n < 10 then 48 + n else 87 + n)
def esc1 (x : UInt8) : List UInt8 :=
  if iv x == 10 then [92, 110] else if iv x == 9 then [92, 116] else if iv x == 92 then [92, 92]
  else if decide (iv x < 32) || decide (126 < iv x) then [92, 120, hexd (iv x / 16), hexd (iv x % 16)] else [x]
def escape : List UInt8 → List UInt8
  | [] => []
  | x :: r => esc1 x ++ escape r

def hexv (c : Int) : Int := Lib.indexByte [48, 49, 50, 51, 52, 53, 54, 55, 56, 57, 97, 98, 99, 100, 101, 102] c.toNat.toUInt8
def coded (l : List UInt8) : Except Int (UInt8 × Nat) :=
  if l.length < 2 then .error 28
  else if hexv (bt l 1) < 0 ∨ (2 ≤ hexv (bt l 1) ∧ hexv (bt l 1) ≤ 6) then .error 6
  else if l.length < 3 then .error 28
  else if hexv (bt l 2) < 0 ∨ 16 * hexv (bt l 1) + hexv (bt l 2) = 10 ∨ 16 * hexv (bt l 1) + hexv (bt l 2) = 9 ∨ (32 ≤ 16 * hexv (bt l 1) + hexv (bt l 2) ∧ 16 * hexv (bt l 1) + hexv (bt l 2) ≤ 126) then .error 6
  else .ok (by8 (16 * hexv (bt l 1) + hexv (bt l 2)), 3)
/-- The escape sequence behind a backslash: its byte, and how many bytes belong to it. -/
def seqn (l : List UInt8) : Except Int (UInt8 × Nat) :=
  if l.isEmpty then .error 28 else if bt l 0 == 110 then .ok (10, 1) else if bt l 0 == 116 then .ok (9, 1)
  else if bt l 0 == 92 then .ok (92, 1) else if bt l 0 == 120 then coded l else .error 6
/-- The program's step. -/
def dec1 : List UInt8 → Except Int (UInt8 × List UInt8)
  | [] => .error 0
  | x :: r => if iv x < 32 ∨ 126 < iv x then .error 6 else if iv x ≠ 92 then .ok (x, r) else
      match seqn r with | .ok (c, n) => .ok (c, r.drop n) | .error z => .error z
def une : Nat → List UInt8 → List UInt8 → Except Int (List UInt8)
  | 0, acc, _ => .ok acc
  | n + 1, acc, l => if l.isEmpty then .ok acc else match dec1 l with | .ok (c, r) => une n (acc ++ [c]) r | .error z => .error z
def unescape (l : List UInt8) : Except Int (List UInt8) := une l.length [] l
/-- The reference's test. -/
def beg : List UInt8 → List UInt8 → Bool × Bool
  | _, [] => (true, false)
  | [], _ :: _ => (false, true)
  | x :: r, y :: t => if x = y then beg r t else (false, false)
/-- The reference's search over the first k bytes. -/
def scan (r : List UInt8) : Nat → Int × Bool
  | 0 => (-1, false)
  | k + 1 => (if (beg r (esc1 (by8 k))).1 then (k : Int) else (scan r k).1, (scan r k).2 || (beg r (esc1 (by8 k))).2)
def uneR : Nat → List UInt8 → List UInt8 → Except Int (List UInt8)
  | 0, acc, _ => .ok acc
  | n + 1, acc, l => if l.isEmpty then .ok acc else
      if (scan l 256).1 < 0 then (if (scan l 256).2 then .error 28 else .error 6)
      else uneR n (acc ++ [by8 (scan l 256).1]) (l.drop (esc1 (by8 (scan l 256).1)).length)
def unescapeR (l : List UInt8) : Except Int (List UInt8) := uneR l.length [] l

/-! ### Steps of the loops -/
def nameFrom (l : List UInt8) (pos : Nat) : Bool := (l.drop pos).all (fun x => wd (iv x)) && (decide (0 < pos) || !dg (bt l 0))
theorem nameFrom_zero (l : List UInt8) (h0 : 0 < l.length) (h : l.length ≤ 32) : nameB l = nameFrom l 0 := by
  have hne : l.isEmpty = false := by cases l; simp at h0; simp
  simp [nameB, nameFrom, hne, h, Bool.and_comm]
theorem nameFrom_step {l : List UInt8} {pos : Nat} {c : Int} (hp : pos < l.length) (hc : bt l pos = c) (h : (lt c || c == 95 || (dg c && decide (0 < pos))) = true) : nameFrom l pos = nameFrom l (pos + 1) := by
  obtain ⟨x, hx, hb, _⟩ := drop_cons l pos hp
  unfold nameFrom
  rw [hx, List.all_cons, show iv x = c from by rw [← hc, hb]; rfl]
  have hw : wd c = true := by
    unfold wd; revert h; cases lt c <;> cases dg c <;> simp
  rw [hw]
  by_cases h0 : pos = 0
  · subst h0
    have : dg (bt l 0) = false := by
      rw [hc]; revert h; unfold lt dg; simp; omega
    simp [this]
  · simp [show 0 < pos by omega]
theorem nameFrom_stop {l : List UInt8} {pos : Nat} {c : Int} (hp : pos < l.length) (hc : bt l pos = c) (h : (lt c || c == 95 || (dg c && decide (0 < pos))) = false) : nameFrom l pos = false := by
  obtain ⟨x, hx, hb, _⟩ := drop_cons l pos hp
  unfold nameFrom
  rw [hx, List.all_cons, show iv x = c from by rw [← hc, hb]; rfl]
  by_cases h0 : pos = 0
  · subst h0
    rw [hc]; revert h; unfold wd; cases lt c <;> cases dg c <;> cases (c == 95) <;> simp
  · revert h; unfold wd; cases lt c <;> cases dg c <;> cases (c == 95) <;> simp <;> omega
theorem nameFrom_end {l : List UInt8} {pos : Nat} (h0 : 0 < l.length) (hp : ¬ pos < l.length) : nameFrom l pos = true := by
  unfold nameFrom
  rw [List.drop_eq_nil_of_le (by omega)]; simp; omega
theorem lt_high (r : Int) (h : 128 ≤ r) : lt r = false := by unfold lt; simp; omega
theorem dg_high (r : Int) (h : 128 ≤ r) : dg r = false := by unfold dg; simp; omega
theorem wd_high (r : Int) (h : 128 ≤ r) : wd r = false := by unfold wd; rw [lt_high r h, dg_high r h]; simp; omega

/-! ### Plain -/
def plI (c : Int) : Bool := lt c || dg c || (decide (c ≤ 126) && decide (0 ≤ Lib.indexByte [95, 45, 46, 47, 44, 58, 43, 37, 64, 94] c.toNat.toUInt8))
theorem plI_small : ∀ n : Nat, n < 127 → decide (0 ≤ Lib.indexByte [95, 45, 46, 47, 44, 58, 43, 37, 64, 94] n.toUInt8) = ((n : Int) == 95 || has pun n) := by decide +kernel
theorem plI_eq (c : Int) (h0 : 0 ≤ c) : plI c = pl c := by
  unfold plI pl wd
  by_cases h : c ≤ 126
  · have := plI_small c.toNat (by omega)
    rw [this, show ((c.toNat : Nat) : Int) = c by omega]
    simp [h, Bool.or_assoc]
  · have h2 : has pun c = false := by
      simp [has, pun, iv]; omega
    have h3 : (c == 95) = false := by simp; omega
    simp [h, h2, h3]
theorem pl_high (r : Int) (h : 128 ≤ r) : pl r = false := by
  have := plI_eq r (by omega)
  rw [← this]; unfold plI; rw [lt_high r h, dg_high r h]; simp; omega

/-! ### Numbers -/
theorem dg_iff (c : Int) : dg c = true ↔ 48 ≤ c ∧ c ≤ 57 := by unfold dg; simp
theorem rloop_yes {n c : Int} {x : UInt8} {r : List UInt8} (hx : iv x = c) (h : dg c = true) : rloop n (x :: r) = rloop (10 * n + (c - 48)) r := by
  rw [rloop, hx, if_pos h]
theorem rloop_no {n c : Int} {x : UInt8} {r : List UInt8} (hx : iv x = c) (h : dg c = false) : rloop n (x :: r) = none := by
  rw [rloop, hx, if_neg (by simp [h])]
theorem dloop_yes {n c : Int} {x : UInt8} {r : List UInt8} (hx : iv x = c) (h : dg c = true) (hm : ¬ 2147483647 < 10 * n + (c - 48)) : dloop n (x :: r) = dloop (10 * n + (c - 48)) r := by
  rw [dloop, hx, if_pos h, if_neg hm]
theorem dloop_big {n c : Int} {x : UInt8} {r : List UInt8} (hx : iv x = c) (h : dg c = true) (hm : 2147483647 < 10 * n + (c - 48)) : dloop n (x :: r) = none := by
  rw [dloop, hx, if_pos h, if_pos hm]
theorem dloop_no {n c : Int} {x : UInt8} {r : List UInt8} (hx : iv x = c) (h : dg c = false) : dloop n (x :: r) = none := by
  rw [dloop, hx, if_neg (by simp [h])]
theorem rloop_big (l : List UInt8) : ∀ n : Int, 2147483647 < n → rloop n l = none := by
  induction l with
  | nil => intro n h; simp [rloop, h]
  | cons x r ih =>
    intro n h
    unfold rloop
    split
    · rename_i hd
      rw [dg_iff] at hd
      exact ih _ (by omega)
    · rfl
theorem dloop_eq (l : List UInt8) : ∀ n : Int, 0 ≤ n → n ≤ 2147483647 → dloop n l = rloop n l := by
  induction l with
  | nil => intro n h0 h; simp [dloop, rloop]; omega
  | cons x r ih =>
    intro n h0 h
    unfold dloop rloop
    split
    · rename_i hd
      rw [dg_iff] at hd
      by_cases hm : 2147483647 < 10 * n + (iv x - 48)
      · rw [if_pos hm, rloop_big r _ hm]
      · rw [if_neg hm]; exact ih _ (by omega) (by omega)
    · rfl
def bd : Nat → Int
  | 0 => 1
  | k + 1 => 10 * bd k
theorem bd_pos : ∀ k, 1 ≤ bd k
  | 0 => by simp [bd]
  | k + 1 => by have := bd_pos k; simp only [bd]; omega
theorem bd_le (k : Nat) (h : k ≤ 10) : bd k ≤ 10000000000 := by
  have : k = 0 ∨ k = 1 ∨ k = 2 ∨ k = 3 ∨ k = 4 ∨ k = 5 ∨ k = 6 ∨ k = 7 ∨ k = 8 ∨ k = 9 ∨ k = 10 := by omega
  rcases this with h | h | h | h | h | h | h | h | h | h | h <;> subst h <;> decide
theorem bd_step (k : Nat) (m : Int) (h : m + 1 ≤ bd k) : ∀ d : Int, d ≤ 9 → 10 * m + d + 1 ≤ bd (k + 1) := by
  intro d hd; simp only [bd]; omega
theorem bd_ten : ∀ k, bd 10 ≤ bd (10 + k)
  | 0 => Int.le_refl _
  | k + 1 => by have := bd_ten k; have h2 := bd_pos (10 + k); show _ ≤ 10 * bd (10 + k); omega
theorem rloop_long (l : List UInt8) : ∀ n : Int, 0 ≤ n → 2147483647 < n * bd l.length → rloop n l = none := by
  induction l with
  | nil => intro n _ h; simp [bd] at h; simp [rloop, h]
  | cons x r ih =>
    intro n h0 h
    unfold rloop
    split
    · rename_i hd
      rw [dg_iff] at hd
      refine ih _ (by omega) ?_
      have hp := bd_pos r.length
      have e : n * bd (x :: r).length = (10 * n) * bd r.length := by
        show n * (10 * bd r.length) = _
        rw [← Int.mul_assoc, Int.mul_comm n 10]
      rw [e] at h
      have := Int.mul_le_mul_of_nonneg_right (show 10 * n ≤ 10 * n + (iv x - 48) by omega) (show 0 ≤ bd r.length by omega)
      omega
    · rfl
theorem digitsI_eq (l : List UInt8) : digitsI l = digits l := by
  unfold digitsI digits
  by_cases h1 : l = [48]
  · subst h1; decide
  rw [if_neg (by simpa using h1)]
  cases l with
  | nil => rfl
  | cons x r =>
    have hb : bt (x :: r) 0 = iv x := rfl
    rw [hb]
    by_cases h2 : iv x = 48
    · have hr : r ≠ [] := by
        intro hr; apply h1; rw [hr]
        have : x = 48 := by
          unfold iv at h2
          apply UInt8.toNat_inj.1
          have : (48 : UInt8).toNat = 48 := rfl
          omega
        rw [this]
      have hr' : 1 < (x :: r).length := by cases r; simp at hr; simp
      rw [if_pos (by simp [h2]), if_pos (by simp [h2]; right; cases r; simp at hr; simp)]
    · rw [if_neg (by simp [h2])]
      by_cases h3 : 10 < (x :: r).length
      · rw [if_pos (by simp at h3; simp; omega), dloop_eq _ _ (by omega) (by omega)]
        unfold rloop
        split
        · rename_i hd
          rw [dg_iff] at hd
          apply rloop_long _ _ (by omega)
          simp at h3
          obtain ⟨k, hk⟩ : ∃ k, r.length = 10 + k := ⟨r.length - 10, by omega⟩
          have h10 := bd_ten k
          rw [hk]
          have e10 : bd 10 = 10000000000 := by decide
          have := Int.mul_le_mul_of_nonneg_right (show 1 ≤ 10 * 0 + (iv x - 48) by omega) (show 0 ≤ bd (10 + k) by omega)
          omega
        · rfl
      · rw [if_neg (by simp at h3; simp [h2]; omega), dloop_eq _ _ (by omega) (by omega)]
end P
end Go.Proofs.YtmgomklpjjkehaaGreat
namespace Go.Proofs.YtmgomklpjjkehaaGreat
open K
namespace P

/-! ### Quote -/
theorem quoteBody_append (a b : List UInt8) : quoteBody (a ++ b) = quoteBody a ++ quoteBody b := by
  induction a with
  | nil => rfl
  | cons x r ih => simp [quoteBody, ih]
theorem quoteBody_none (a : List UInt8) (h : ∀ k : Nat, a[k]? ≠ some 39) : quoteBody a = a := by
  induction a with
  | nil => rfl
  | cons x r ih =>
    have hx : (iv x == 39) = false := by
      have := h 0
      simp at this
      unfold iv
      simp
      intro e
      apply this
      apply UInt8.toNat_inj.1
      have : (39 : UInt8).toNat = 39 := rfl
      omega
    have := ih (fun k => by have := h (k + 1); simpa using this)
    simp [quoteBody, hx, this]
theorem replace_quote : ∀ (n : Nat) (l : List UInt8), l.length ≤ n → Lib.replaceK [39] [39, 92, 39, 39] (Lib.count l [39]) l = quoteBody l := by
  intro n
  induction n with
  | zero =>
    intro l h
    have : l = [] := List.eq_nil_of_length_eq_zero (by omega)
    subst this
    rfl
  | succ n ih =>
    intro l h
    by_cases hi : Lib.index l [39] = -1
    · have hc : Lib.count l [39] = 0 := Lib.count_miss hi
      rw [hc, Lib.replaceK]
      rw [Lib.index_one] at hi
      exact (quoteBody_none l (Lib.indexByte_none hi)).symm
    · obtain ⟨i, he⟩ : ∃ i : Nat, Lib.index l [39] = i := by
        have := Lib.indexByte_ge l 39
        rw [Lib.index_one] at hi
        exact ⟨(Lib.index l [39]).toNat, by rw [Lib.index_one]; omega⟩
      have hb : Lib.indexByte l 39 = i := by rw [← Lib.index_one]; exact he
      obtain ⟨h1, h2⟩ := Lib.indexByte_some hb
      have hlt : i < l.length := (List.getElem?_eq_some_iff.1 h1).1
      have hc : Lib.count l [39] = 1 + Lib.count (l.drop (i + 1)) [39] := by
        have := Lib.countB_hit ⟨l.toArray⟩ ⟨#[39]⟩ i (by decide) (by simpa [Lib.indexB] using he)
        have s1 : (ByteArray.mk l.toArray).size = l.length := by simp [ByteArray.size]
        have s2 : (ByteArray.mk #[39]).size = 1 := rfl
        rw [s1, s2] at this
        simp [Lib.countB] at this
        rw [List.take_of_length_le (by simp)] at this
        exact this
      rw [hc, Nat.add_comm, Lib.replaceK_hit _ _ _ _ i he]
      rw [List.length_singleton, ih (l.drop (i + 1)) (by simp; omega)]
      have e : l = l.take i ++ 39 :: l.drop (i + 1) := by
        have h3 : l[i] = 39 := by
          have := List.getElem?_eq_getElem hlt
          rw [h1] at this
          exact (Option.some.inj this).symm
        rw [← h3, ← List.drop_eq_getElem_cons hlt, List.take_append_drop]
      conv => rhs; rw [e, quoteBody_append]
      rw [quoteBody_none (l.take i) (fun k => by
        by_cases hk : k < i
        · rw [List.getElem?_take_of_lt hk]; exact h2 k hk
        · rw [List.getElem?_eq_none (by simp; omega)]; simp)]
      simp [quoteBody, iv]
theorem replaceAll_quote (l : List UInt8) : Lib.replaceAll l [39] [39, 92, 39, 39] = quoteBody l := by
  unfold Lib.replaceAll Lib.replace
  rw [if_neg (by decide)]
  unfold Lib.replaceNum
  rw [if_pos (by omega)]
  exact replace_quote l.length l (Nat.le_refl _)
theorem quoteBody_le (l : List UInt8) : (quoteBody l).length ≤ 4 * l.length := by
  induction l with
  | nil => simp [quoteBody]
  | cons x r ih =>
    rw [quoteBody, List.length_append, List.length_cons]
    split <;> simp <;> omega
theorem quote_le (l : List UInt8) : (quote l).length ≤ 4 * l.length + 2 := by
  unfold quote; have := quoteBody_le l; split <;> simp <;> omega

/-! ### Unquote -/
theorem sq_hit {acc r : List UInt8} {x : UInt8} (h : iv x = 39) : sq acc (x :: r) = some (acc, r) := by rw [sq, if_pos (by simp [h])]
theorem sq_miss {acc r : List UInt8} {x : UInt8} (h : iv x ≠ 39) : sq acc (x :: r) = sq (acc ++ [x]) r := by rw [sq, if_neg (by simp [h])]
theorem sq_acc (r : List UInt8) : ∀ acc, sq acc r = (sq [] r).map fun p => (acc ++ p.1, p.2) := by
  induction r with
  | nil => intro acc; rfl
  | cons x r ih =>
    intro acc
    by_cases h : iv x = 39
    · rw [sq_hit h, sq_hit h]; simp
    · rw [sq_miss h, sq_miss h, ih (acc ++ [x]), ih ([] ++ [x])]
      cases sq [] r <;> simp
theorem iv_eq {x : UInt8} {n : Nat} (hn : n < 256) (h : iv x = n) : x = UInt8.ofNat n := by
  apply UInt8.toNat_inj.1
  unfold iv at h
  rw [UInt8.toNat_ofNat']
  omega
theorem sq_index (r : List UInt8) : ∀ acc, sq acc r = if Lib.indexByte r 39 < 0 then none else some (acc ++ r.take (Lib.indexByte r 39).toNat, r.drop ((Lib.indexByte r 39).toNat + 1)) := by
  induction r with
  | nil => intro acc; rfl
  | cons x r ih =>
    intro acc
    by_cases h : iv x = 39
    · rw [sq_hit h]
      have : x = 39 := iv_eq (n := 39) (by omega) h
      subst this
      simp [Lib.indexByte]
    · rw [sq_miss h, ih]
      have hne : (x == 39) = false := by
        simp; intro e; subst e; exact h rfl
      have hge := Lib.indexByte_ge r 39
      rw [show Lib.indexByte (x :: r) 39 = if (x == 39) = true then 0 else if Lib.indexByte r 39 == -1 then -1 else Lib.indexByte r 39 + 1 from rfl, hne]
      by_cases hm : Lib.indexByte r 39 = -1
      · simp [hm]
      · have e1 : (Lib.indexByte r 39 == -1) = false := by simpa using hm
        rw [e1]
        obtain ⟨n, hn⟩ : ∃ n : Nat, Lib.indexByte r 39 = n := ⟨(Lib.indexByte r 39).toNat, by omega⟩
        rw [hn]
        have e2 : ((n : Int) + 1).toNat = n + 1 := by omega
        simp only [Bool.false_eq_true, if_false]
        rw [if_neg (by omega), if_neg (by omega), e2]
        simp
theorem dq_close {acc r : List UInt8} {x : UInt8} (h : iv x = 34) : dq acc (x :: r) = .ok (acc, r) := by
  cases r <;> simp [dq, h]
theorem dq_bad {acc r : List UInt8} {x : UInt8} (h : iv x = 36 ∨ iv x = 96) : dq acc (x :: r) = .error 6 := by
  cases r <;> rcases h with h | h <;> simp [dq, h]
theorem dq_lone {acc : List UInt8} {x : UInt8} (h : iv x = 92) : dq acc [x] = .error 7 := by simp [dq, h]
theorem dq_esc {acc r : List UInt8} {x y : UInt8} (h : iv x = 92) : dq acc (x :: y :: r) = dq (acc ++ dqEsc y) r := by simp [dq, h]
theorem dq_other {acc r : List UInt8} {x : UInt8} (h1 : iv x ≠ 34) (h2 : iv x ≠ 36) (h3 : iv x ≠ 96) (h4 : iv x ≠ 92) : dq acc (x :: r) = dq (acc ++ [x]) r := by
  cases r <;> simp [dq, h1, h2, h3, h4]
def mapAcc (acc : List UInt8) : Except Int (List UInt8 × List UInt8) → Except Int (List UInt8 × List UInt8)
  | .ok (a, s) => .ok (acc ++ a, s)
  | .error e => .error e
theorem dq_acc : ∀ (n : Nat) (r : List UInt8), r.length ≤ n → ∀ acc, dq acc r = mapAcc acc (dq [] r) := by
  intro n
  induction n with
  | zero => intro r h acc; have : r = [] := List.eq_nil_of_length_eq_zero (by omega); subst this; rfl
  | succ n ih =>
    intro r h acc
    match r, h with
    | [], _ => rfl
    | x :: r, h =>
      by_cases h1 : iv x = 34
      · rw [dq_close h1, dq_close h1]; simp [mapAcc]
      by_cases h2 : iv x = 36 ∨ iv x = 96
      · rw [dq_bad h2, dq_bad h2]; rfl
      by_cases h4 : iv x = 92
      · match r, h with
        | [], _ => rw [dq_lone h4, dq_lone h4]; rfl
        | y :: r, h =>
          rw [dq_esc h4, dq_esc h4, ih r (by simp at h; omega), ih r (by simp at h; omega) ([] ++ dqEsc y)]
          cases dq [] r <;> simp [mapAcc]
      · rw [dq_other h1 (by omega) (by omega) h4, dq_other h1 (by omega) (by omega) h4, ih r (by simp at h; omega), ih r (by simp at h; omega) ([] ++ [x])]
        cases dq [] r <;> simp [mapAcc]
theorem dq_error_aux : ∀ (n : Nat) (r : List UInt8), r.length ≤ n → ∀ acc z, dq acc r = .error z → z = 6 ∨ z = 7 := by
  intro n
  induction n with
  | zero =>
    intro r h acc z hz
    have : r = [] := List.eq_nil_of_length_eq_zero (by omega)
    subst this
    simp [dq] at hz; omega
  | succ n ih =>
    intro r h acc z hz
    match r, h with
    | [], _ => simp [dq] at hz; omega
    | x :: r, h =>
      by_cases h1 : iv x = 34
      · rw [dq_close h1] at hz; simp at hz
      by_cases h2 : iv x = 36 ∨ iv x = 96
      · rw [dq_bad h2] at hz; simp at hz; omega
      by_cases h4 : iv x = 92
      · match r, h with
        | [], _ => rw [dq_lone h4] at hz; simp at hz; omega
        | y :: r, h => rw [dq_esc h4] at hz; exact ih r (by simp at h; omega) _ _ hz
      · rw [dq_other h1 (by omega) (by omega) h4] at hz; exact ih r (by simp at h; omega) _ _ hz
theorem dq_error {r acc : List UInt8} {z : Int} (h : dq acc r = .error z) : z = 6 ∨ z = 7 := dq_error_aux r.length r (Nat.le_refl _) acc z h
theorem piece_acc (r : List UInt8) (acc : List UInt8) : piece acc r = mapAcc acc (piece [] r) := by
  match r with
  | [] => rfl
  | x :: r =>
    unfold piece
    simp only
    split
    · rw [sq_acc]
      cases sq [] r <;> simp [ofSq, mapAcc]
    · split
      · exact dq_acc r.length r (Nat.le_refl _) acc
      · split
        · cases r with
          | nil => rfl
          | cons y r => simp only; split <;> simp [mapAcc]
        · split <;> simp [mapAcc]
theorem piece_sq {a r : List UInt8} {x : UInt8} (h : iv x = 39) : piece a (x :: r) = ofSq (sq a r) := by
  have h' : (iv x == 39) = true := by simp [h]
  unfold piece
  simp only
  rw [if_pos h']
theorem piece_sqNone {a r : List UInt8} {x : UInt8} (h : iv x = 39) (hi : Lib.indexByte r 39 < 0) : piece a (x :: r) = .error 7 := by
  rw [piece_sq h, sq_index r a, if_pos hi]; rfl
theorem piece_sqSome {a r : List UInt8} {x : UInt8} {n : Nat} (h : iv x = 39) (hi : Lib.indexByte r 39 = n) : piece a (x :: r) = .ok (a ++ r.take n, r.drop (n + 1)) := by
  rw [piece_sq h, sq_index r a, if_neg (by omega), hi, Int.toNat_natCast]; rfl
theorem piece_dq {a r : List UInt8} {x : UInt8} (h : iv x = 34) : piece a (x :: r) = dq a r := by
  unfold piece; simp [h]
theorem piece_lone {a : List UInt8} {x : UInt8} (h : iv x = 92) : piece a [x] = .error 7 := by
  unfold piece; simp [h]
theorem piece_esc {a r : List UInt8} {x y : UInt8} (h : iv x = 92) : piece a (x :: y :: r) = .ok (if iv y == 10 then a else a ++ [y], r) := by
  unfold piece; simp [h]
theorem piece_stop {a r : List UInt8} {x : UInt8} (h : stop (iv x) = true) (h1 : iv x ≠ 39) (h2 : iv x ≠ 34) (h3 : iv x ≠ 92) : piece a (x :: r) = .error 6 := by
  unfold piece; simp [h, h1, h2, h3]
theorem piece_one {a r : List UInt8} {x : UInt8} (h : stop (iv x) = false) (h1 : iv x ≠ 39) (h2 : iv x ≠ 34) (h3 : iv x ≠ 92) : piece a (x :: r) = .ok (a ++ [x], r) := by
  unfold piece; simp [h, h1, h2, h3]
theorem piece_error {a l : List UInt8} {z : Int} (hl : l ≠ []) (h : piece a l = .error z) : z = 6 ∨ z = 7 := by
  match l, hl with
  | x :: r, _ =>
    by_cases h1 : iv x = 39
    · rw [piece_sq h1] at h
      cases hs : sq a r with
      | none => rw [hs] at h; simp [ofSq] at h; omega
      | some p => rw [hs] at h; simp [ofSq] at h
    by_cases h2 : iv x = 34
    · rw [piece_dq h2] at h; exact dq_error h
    by_cases h3 : iv x = 92
    · cases r with
      | nil => rw [piece_lone h3] at h; simp at h; omega
      | cons y r => rw [piece_esc h3] at h; simp at h
    cases h4 : stop (iv x)
    · rw [piece_one h4 h1 h2 h3] at h; simp at h
    · rw [piece_stop h4 h1 h2 h3] at h; simp at h; omega
theorem unq_nil (n : Nat) (acc : List UInt8) : unq n acc [] = .ok acc := by cases n <;> rfl
theorem unq_ok {n : Nat} {acc l a r : List UInt8} (hl : l ≠ []) (h : piece acc l = .ok (a, r)) : unq (n + 1) acc l = unq n a r := by
  rw [unq, h]; cases l <;> simp at hl ⊢
theorem unq_error {n : Nat} {acc l : List UInt8} {e : Int} (hl : l ≠ []) (h : piece acc l = .error e) : unq (n + 1) acc l = .error e := by
  rw [unq, h]; cases l <;> simp at hl ⊢
/-! ### Unescape -/
theorem dec1_bad {x : UInt8} {r : List UInt8} (h : iv x < 32 ∨ 126 < iv x) : dec1 (x :: r) = .error 6 := by rw [dec1, if_pos h]
theorem dec1_plain {x : UInt8} {r : List UInt8} (h : ¬ (iv x < 32 ∨ 126 < iv x)) (h2 : iv x ≠ 92) : dec1 (x :: r) = .ok (x, r) := by rw [dec1, if_neg h, if_pos h2]
theorem dec1_ok {x : UInt8} {r : List UInt8} {c : UInt8} {n : Nat} (h : iv x = 92) (hs : seqn r = .ok (c, n)) : dec1 (x :: r) = .ok (c, r.drop n) := by
  rw [dec1, if_neg (by omega), if_neg (by omega), hs]
theorem dec1_error {x : UInt8} {r : List UInt8} {z : Int} (h : iv x = 92) (hs : seqn r = .error z) : dec1 (x :: r) = .error z := by
  rw [dec1, if_neg (by omega), if_neg (by omega), hs]
theorem une_nil (n : Nat) (acc : List UInt8) : une n acc [] = .ok acc := by cases n <;> rfl
theorem une_ok {n : Nat} {acc l r : List UInt8} {c : UInt8} (hl : l ≠ []) (h : dec1 l = .ok (c, r)) : une (n + 1) acc l = une n (acc ++ [c]) r := by
  rw [une, h]; cases l <;> simp at hl ⊢
theorem une_error {n : Nat} {acc l : List UInt8} {z : Int} (hl : l ≠ []) (h : dec1 l = .error z) : une (n + 1) acc l = .error z := by
  rw [une, h]; cases l <;> simp at hl ⊢
theorem coded_ok {l : List UInt8} {c : UInt8} {n : Nat} (h : coded l = .ok (c, n)) : ¬ l.length < 3 ∧ n = 3 ∧ c = by8 (16 * hexv (bt l 1) + hexv (bt l 2)) ∧ ¬ (hexv (bt l 1) < 0 ∨ (2 ≤ hexv (bt l 1) ∧ hexv (bt l 1) ≤ 6)) ∧ ¬ (hexv (bt l 2) < 0 ∨ 16 * hexv (bt l 1) + hexv (bt l 2) = 10 ∨ 16 * hexv (bt l 1) + hexv (bt l 2) = 9 ∨ (32 ≤ 16 * hexv (bt l 1) + hexv (bt l 2) ∧ 16 * hexv (bt l 1) + hexv (bt l 2) ≤ 126)) := by
  unfold coded at h
  by_cases h1 : l.length < 2
  · rw [if_pos h1] at h; simp at h
  rw [if_neg h1] at h
  by_cases h2 : hexv (bt l 1) < 0 ∨ (2 ≤ hexv (bt l 1) ∧ hexv (bt l 1) ≤ 6)
  · rw [if_pos h2] at h; simp at h
  rw [if_neg h2] at h
  by_cases h3 : l.length < 3
  · rw [if_pos h3] at h; simp at h
  rw [if_neg h3] at h
  by_cases h4 : hexv (bt l 2) < 0 ∨ 16 * hexv (bt l 1) + hexv (bt l 2) = 10 ∨ 16 * hexv (bt l 1) + hexv (bt l 2) = 9 ∨ (32 ≤ 16 * hexv (bt l 1) + hexv (bt l 2) ∧ 16 * hexv (bt l 1) + hexv (bt l 2) ≤ 126)
  · rw [if_pos h4] at h; simp at h
  rw [if_neg h4] at h
  simp at h
  exact ⟨h3, h.2.symm, h.1.symm, h2, h4⟩
theorem coded_error {l : List UInt8} {z : Int} (h : coded l = .error z) : z = 28 ∨ z = 6 := by
  unfold coded at h
  repeat' split at h
  all_goals (first | (simp at h; done) | (simp at h; omega))
theorem seqn_le {l : List UInt8} {c : UInt8} {n : Nat} (h : seqn l = .ok (c, n)) : 1 ≤ n ∧ n ≤ l.length := by
  unfold seqn at h
  cases l with
  | nil => simp at h
  | cons x r =>
    simp only [List.isEmpty_cons, Bool.false_eq_true, if_false] at h
    by_cases h1 : (bt (x :: r) 0 == 110) = true
    · rw [if_pos h1] at h; simp at h; simp; omega
    rw [if_neg h1] at h
    by_cases h2 : (bt (x :: r) 0 == 116) = true
    · rw [if_pos h2] at h; simp at h; simp; omega
    rw [if_neg h2] at h
    by_cases h3 : (bt (x :: r) 0 == 92) = true
    · rw [if_pos h3] at h; simp at h; simp; omega
    rw [if_neg h3] at h
    by_cases h4 : (bt (x :: r) 0 == 120) = true
    · rw [if_pos h4] at h
      obtain ⟨h5, h6, _⟩ := coded_ok h
      omega
    rw [if_neg h4] at h; simp at h
theorem seqn_error {l : List UInt8} {z : Int} (h : seqn l = .error z) : z = 28 ∨ z = 6 := by
  unfold seqn at h
  cases l with
  | nil => simp at h; omega
  | cons x r =>
    simp only [List.isEmpty_cons, Bool.false_eq_true, if_false] at h
    by_cases h1 : (bt (x :: r) 0 == 110) = true
    · rw [if_pos h1] at h; simp at h
    rw [if_neg h1] at h
    by_cases h2 : (bt (x :: r) 0 == 116) = true
    · rw [if_pos h2] at h; simp at h
    rw [if_neg h2] at h
    by_cases h3 : (bt (x :: r) 0 == 92) = true
    · rw [if_pos h3] at h; simp at h
    rw [if_neg h3] at h
    by_cases h4 : (bt (x :: r) 0 == 120) = true
    · rw [if_pos h4] at h; exact coded_error h
    rw [if_neg h4] at h; simp at h; omega
theorem esc1_le (x : UInt8) : (esc1 x).length ≤ 4 := by
  unfold esc1; repeat' split
  all_goals simp
end P
end Go.Proofs.YtmgomklpjjkehaaGreat
namespace Go.Proofs.YtmgomklpjjkehaaGreat
open K
namespace P

/-! ### Unquote without fuel -/
theorem sq_lt {r : List UInt8} : ∀ {acc a s : List UInt8}, sq acc r = some (a, s) → s.length < r.length := by
  induction r with
  | nil => intro acc a s h; simp [sq] at h
  | cons x r ih =>
    intro acc a s h
    by_cases hx : iv x = 39
    · rw [sq_hit hx] at h; simp at h; simp [h.2]
    · rw [sq_miss hx] at h; have := ih h; simp; omega
theorem dq_lt_aux : ∀ (n : Nat) (r : List UInt8), r.length ≤ n → ∀ acc a s, dq acc r = .ok (a, s) → s.length < r.length := by
  intro n
  induction n with
  | zero =>
    intro r h acc a s hz
    have : r = [] := List.eq_nil_of_length_eq_zero (by omega)
    subst this
    simp [dq] at hz
  | succ n ih =>
    intro r h acc a s hz
    match r, h with
    | [], _ => simp [dq] at hz
    | x :: r, h =>
      by_cases h1 : iv x = 34
      · rw [dq_close h1] at hz; simp at hz; simp [hz.2]
      by_cases h2 : iv x = 36 ∨ iv x = 96
      · rw [dq_bad h2] at hz; simp at hz
      by_cases h4 : iv x = 92
      · match r, h with
        | [], _ => rw [dq_lone h4] at hz; simp at hz
        | y :: r, h => rw [dq_esc h4] at hz; have := ih r (by simp at h; omega) _ _ _ hz; simp; omega
      · rw [dq_other h1 (by omega) (by omega) h4] at hz; have := ih r (by simp at h; omega) _ _ _ hz; simp; omega
theorem piece_lt {l acc a s : List UInt8} (hl : l ≠ []) (h : piece acc l = .ok (a, s)) : s.length < l.length := by
  match l, hl with
  | x :: r, _ =>
    by_cases h1 : iv x = 39
    · rw [piece_sq h1] at h
      cases hs : sq acc r with
      | none => rw [hs] at h; simp [ofSq] at h
      | some p =>
        rw [hs] at h; simp [ofSq] at h
        have := sq_lt (a := a) (s := s) (by rw [hs, h])
        simp; omega
    by_cases h2 : iv x = 34
    · rw [piece_dq h2] at h; have := dq_lt_aux r.length r (Nat.le_refl _) _ _ _ h; simp; omega
    by_cases h3 : iv x = 92
    · cases r with
      | nil => rw [piece_lone h3] at h; simp at h
      | cons y r => rw [piece_esc h3] at h; simp at h; simp [← h.2]; omega
    cases h4 : stop (iv x)
    · rw [piece_one h4 h1 h2 h3] at h; simp at h; simp [← h.2]
    · rw [piece_stop h4 h1 h2 h3] at h; simp at h
theorem unq_more : ∀ (n : Nat) (l acc : List UInt8), l.length ≤ n → unq (n + 1) acc l = unq n acc l := by
  intro n
  induction n with
  | zero =>
    intro l acc h
    have : l = [] := List.eq_nil_of_length_eq_zero (by omega)
    subst this; rfl
  | succ n ih =>
    intro l acc h
    by_cases hl : l = []
    · subst hl; rw [unq_nil, unq_nil]
    · cases hp : piece acc l with
      | ok p =>
        obtain ⟨a, r⟩ := p
        have := piece_lt hl hp
        rw [unq_ok hl hp, unq_ok hl hp, ih r a (by omega)]
      | error z => rw [unq_error hl hp, unq_error hl hp]
theorem unq_fuel (l acc : List UInt8) : ∀ k, unq (l.length + k) acc l = unq l.length acc l
  | 0 => rfl
  | k + 1 => by rw [← unq_fuel l acc k, ← unq_more (l.length + k) l acc (by omega)]; rfl
def U (acc l : List UInt8) : Except Int (List UInt8) := unq l.length acc l
theorem U_nil (acc : List UInt8) : U acc [] = .ok acc := rfl
theorem U_ok {acc l a r : List UInt8} (hl : l ≠ []) (h : piece acc l = .ok (a, r)) : U acc l = U a r := by
  have hlt := piece_lt hl h
  obtain ⟨k, hk⟩ : ∃ k, l.length = (r.length + k) + 1 := ⟨l.length - r.length - 1, by omega⟩
  unfold U
  rw [hk, unq_ok hl h, unq_fuel]
theorem unquote_U (l : List UInt8) : unquote l = U [] l := rfl

/-! ### Quote and Unquote -/
theorem pl_small : ∀ n : Nat, n < 256 → pl n = true → (stop n = false ∧ n ≠ 39 ∧ n ≠ 34 ∧ n ≠ 92) := by decide +kernel
theorem pl_free {x : UInt8} (h : pl (iv x) = true) : stop (iv x) = false ∧ iv x ≠ 39 ∧ iv x ≠ 34 ∧ iv x ≠ 92 := by
  have := pl_small x.toNat x.toNat_lt h
  unfold iv
  refine ⟨this.1, ?_, ?_, ?_⟩ <;> omega
theorem U_plain (s : List UInt8) : ∀ acc r, s.all (fun x => pl (iv x)) = true → U acc (s ++ r) = U (acc ++ s) r := by
  induction s with
  | nil => intro acc r _; simp
  | cons x s ih =>
    intro acc r h
    rw [List.all_cons, Bool.and_eq_true] at h
    obtain ⟨h1, h2, h3, h4⟩ := pl_free h.1
    rw [List.cons_append, U_ok (by simp) (piece_one h1 h2 h3 h4), ih _ _ h.2]
    simp
theorem U_single (s : List UInt8) : ∀ acc r, U acc (39 :: (quoteBody s ++ 39 :: r)) = U (acc ++ s) r := by
  have open39 : ∀ (acc l a r : List UInt8), sq acc l = some (a, r) → U acc (39 :: l) = U a r := by
    intro acc l a r h
    exact U_ok (by simp) (by rw [piece_sq (by rfl), h]; rfl)
  induction s with
  | nil =>
    intro acc r
    rw [show quoteBody [] ++ 39 :: r = 39 :: r from rfl, open39 acc (39 :: r) acc r (sq_hit (x := 39) rfl)]; simp
  | cons x s ih =>
    intro acc r
    by_cases hx : iv x = 39
    · have hx' : x = 39 := iv_eq (n := 39) (by omega) hx
      subst hx'
      rw [show quoteBody (39 :: s) = [39, 92, 39, 39] ++ quoteBody s from rfl]
      simp only [List.cons_append, List.nil_append]
      rw [open39 acc _ acc (92 :: 39 :: 39 :: (quoteBody s ++ 39 :: r)) (sq_hit rfl)]
      rw [U_ok (a := acc ++ [39]) (r := 39 :: (quoteBody s ++ 39 :: r)) (by simp) (by rw [piece_esc (by rfl)]; rfl)]
      rw [ih]; simp
    · have e : quoteBody (x :: s) = x :: quoteBody s := by
        rw [quoteBody, if_neg (by simpa using hx)]; rfl
      rw [e, List.cons_append]
      have := ih (acc ++ [x]) r
      rw [List.append_assoc, List.singleton_append] at this
      rw [← this]
      have hs : sq acc (x :: (quoteBody s ++ 39 :: r)) = sq (acc ++ [x]) (quoteBody s ++ 39 :: r) := sq_miss hx
      cases hq : sq (acc ++ [x]) (quoteBody s ++ 39 :: r) with
      | none => exact absurd hq (sq_found s _ r)
      | some p => rw [open39 acc _ p.1 p.2 (by rw [hs, hq]), open39 (acc ++ [x]) _ p.1 p.2 hq]
where
  sq_found (s : List UInt8) (acc r : List UInt8) : sq acc (quoteBody s ++ 39 :: r) ≠ none := by
    induction s generalizing acc with
    | nil => rw [show quoteBody [] ++ 39 :: r = 39 :: r from rfl, sq_hit rfl]; simp
    | cons x s ih =>
      by_cases hx : iv x = 39
      · rw [quoteBody, if_pos (by simpa using hx)]
        simp only [List.cons_append]
        rw [sq_hit rfl]; simp
      · rw [quoteBody, if_neg (by simpa using hx)]
        simp only [List.cons_append, List.nil_append]
        rw [sq_miss hx]
        exact ih _
theorem U_quote (s acc r : List UInt8) : U acc (quote s ++ r) = U (acc ++ s) r := by
  unfold quote
  by_cases h : plainB s = true
  · rw [if_pos h]
    unfold plainB at h
    rw [Bool.and_eq_true] at h
    exact U_plain s acc r h.1
  · rw [if_neg h, List.cons_append, List.append_assoc]
    exact U_single s acc r
theorem back (s t : List UInt8) : unquote (quote s ++ quote t) = .ok (s ++ t) := by
  rw [unquote_U, U_quote]
  have := U_quote t ([] ++ s) []
  rw [List.append_nil] at this
  rw [this, U_nil]; simp
theorem quoteBody_ge (l : List UInt8) : l.length ≤ (quoteBody l).length := by
  induction l with
  | nil => simp [quoteBody]
  | cons x r ih => rw [quoteBody, List.length_append, List.length_cons]; split <;> simp <;> omega
theorem quote_iff (l : List UInt8) : (quote l == l) = plainB l := by
  unfold quote
  cases h : plainB l
  · simp only [Bool.false_eq_true, if_false]
    rw [beq_eq_false_iff_ne]
    intro e
    have := congrArg List.length e
    have h2 := quoteBody_ge l
    simp at this
    omega
  · simp

/-! ### Double quotes -/
def dqBody : List UInt8 → List UInt8
  | [] => []
  | x :: r => (if iv x == 36 || iv x == 96 || iv x == 34 || iv x == 92 then [92, x] else [x]) ++ dqBody r
theorem dqBody_le (l : List UInt8) : (dqBody l).length ≤ 2 * l.length := by
  induction l with
  | nil => simp [dqBody]
  | cons x r ih => rw [dqBody, List.length_append, List.length_cons]; split <;> simp <;> omega
theorem dq_body (s : List UInt8) : ∀ acc, dq acc (dqBody s ++ [34]) = .ok (acc ++ s, []) := by
  induction s with
  | nil => intro acc; rw [show dqBody [] ++ [34] = [34] from rfl, dq_close rfl]; simp
  | cons x s ih =>
    intro acc
    by_cases h : (iv x == 36 || iv x == 96 || iv x == 34 || iv x == 92) = true
    · rw [dqBody, if_pos h]
      simp only [List.cons_append, List.nil_append]
      rw [dq_esc (by rfl), ih, show dqEsc x = [x] by unfold dqEsc; rw [if_pos h]]
      simp
    · rw [dqBody, if_neg h]
      simp only [List.cons_append, List.nil_append]
      simp at h
      rw [dq_other (by omega) (by omega) (by omega) (by omega), ih]
      simp
theorem doubles (s : List UInt8) : unquote (34 :: (dqBody s ++ [34])) = .ok s := by
  rw [unquote_U, U_ok (a := s) (r := []) (by simp) (by rw [piece_dq (by rfl), dq_body]; rfl), U_nil]
end P
end Go.Proofs.YtmgomklpjjkehaaGreat
namespace Go.Proofs.YtmgomklpjjkehaaGreat
open K
namespace WP
def Part.kind : Part → Nat | .mk k _ _ _ _ => k
def Part.text : Part → Str | .mk _ t _ _ _ => t
def litIn : List Part → Option Str
  | [] => some []
  | .mk k t _ _ _ :: r => if k = 1 then (litIn r).map (t ++ ·) else none
def lit1 : Part → Option Str
  | .mk k t _ _ ps => if k = 1 ∨ k = 2 then some t else if k = 3 then litIn ps else none
/-- The string that a word without expansions denotes. -/
def litA : List Part → Option Str
  | [] => some []
  | p :: r => (lit1 p).bind fun a => (litA r).map (a ++ ·)
def quotedB (l : List Part) : Bool := l.any fun p => decide (p.kind = 2 ∨ p.kind = 3)
theorem split39 : ∀ t : Str, ∃ u r, t = u ++ r ∧ (∀ k : Nat, u[k]? ≠ some 39) ∧ (r = [] ∨ ∃ t', r = 39 :: t')
  | [] => ⟨[], [], rfl, fun k => by simp, .inl rfl⟩
  | x :: t => by
    by_cases hx : x = 39
    · exact ⟨[], x :: t, rfl, fun k => by simp, .inr ⟨t, by rw [hx]⟩⟩
    · obtain ⟨u, r, h1, h2, h3⟩ := split39 t
      refine ⟨x :: u, r, by rw [h1]; rfl, fun k => ?_, h3⟩
      cases k with
      | zero => simp; exact hx
      | succ k => simpa using h2 k
theorem find39 {s u r : Str} {i : Nat} (h : s.drop i = u ++ 39 :: r) (hu : ∀ k : Nat, u[k]? ≠ some 39) : LX.find s i 39 = some u.length := by
  unfold LX.find
  rw [h]
  rw [List.findIdx?_eq_some_iff_getElem]
  refine ⟨by simp, by simp, fun j hj => ?_⟩
  have := hu j
  rw [List.getElem_append_left hj]
  rw [List.getElem?_eq_getElem hj] at this
  simpa using this
theorem drop_parts {s u r : Str} {a : Nat} (h : s.drop a = u ++ r) (ha : a ≤ s.length) : cut s a (a + u.length) = u ∧ s.drop (a + u.length) = r ∧ a + u.length ≤ s.length := by
  have hl := congrArg List.length h
  rw [List.length_drop, List.length_append] at hl
  refine ⟨?_, ?_, by omega⟩
  · unfold cut
    rw [List.drop_take, h, show a + u.length - a = u.length by omega, List.take_left']
    rfl
  · rw [← List.drop_drop, h, List.drop_left']
    rfl
/-- What close gives at a quoted piece. -/
theorem cls_single {s u r : Str} {a : Nat} (hl : s.length ≤ 16384) (h : s.drop a = 39 :: (u ++ 39 :: r)) (hu : ∀ k : Nat, u[k]? ≠ some 39) :
    cls s a = .ok (a + u.length + 2) ∧ cut s (a + 1) (a + u.length + 2 - 1) = u ∧ s.drop (a + u.length + 2) = r ∧ a + u.length + 2 ≤ s.length := by
  obtain ⟨h1, h2', h3⟩ := LX.drop_head h
  have h2 : bt s a = 39 := h2'
  have hb : LX.begins s a = true := by
    unfold LX.begins
    rw [if_neg (by rw [h2]; decide)]
    exact decide_eq_true (.inr (.inl h2))
  have hf := find39 h3 hu
  obtain ⟨d1, d2, d3⟩ := drop_parts h3 (by omega)
  obtain ⟨e1, e2, e3⟩ := LX.drop_head d2
  refine ⟨?_, ?_, ?_, by omega⟩
  · unfold cls
    have hc : LX.close s a = (a + u.length + 2, 0) := by
      unfold LX.close
      rw [if_neg (by omega), if_pos ⟨h1, hb⟩, LX.construct_eq, LX.con, if_neg (by rw [h2]; decide), if_pos h2, hf]
    rw [hc]
    rfl
  · rw [show a + u.length + 2 - 1 = a + 1 + u.length by omega]
    exact d1
  · rw [show a + u.length + 2 = a + 1 + u.length + 1 by omega]
    exact e3
def Quotes (ps : List Part) (t : Str) : Prop := litA ps = some t ∧ ∀ p ∈ ps, p.kind = 2
theorem Quotes.nil : Quotes [] [] := ⟨rfl, fun p hp => by cases hp⟩
theorem Quotes.cons {u t : Str} {ps : List Part} (h : Quotes ps t) : Quotes (.mk 2 u 0 false [] :: ps) (u ++ t) := by
  refine ⟨?_, fun p hp => ?_⟩
  · rw [litA, h.1, lit1, if_pos (.inr rfl)]
    rfl
  · rcases List.mem_cons.1 hp with rfl | hp
    · rfl
    · exact h.2 p hp
theorem flush_nil' {st : St} (h : st.tx = []) : flush st = st := by unfold flush; rw [if_pos h]
theorem add_nil {st : St} (h : st.tx = []) (p : Part) (k : Nat) : add p k st = { st with ls := st.ls ++ [p], a := k } := by unfold add; rw [flush_nil' h]
theorem ended_bare {c : Ctx} {st : St} (hp : c.pl = 0) (ho : c.op = false) (h : st.a < c.s.length) : ended c st = .ok false := by
  unfold ended
  rw [if_neg (by omega), if_neg (by rw [ho]; simp), if_neg (by rw [hp]; decide), if_neg (by rw [hp]; simp)]
theorem run_quoted {c : Ctx} (hp : c.pl = 0) (ho : c.op = false) (hn : ¬ 0 ≤ c.opn) (hl : c.s.length ≤ 16384) : ∀ (n : Nat) (t : Str) (st : St) (f : Nat), t.length ≤ n → st.tx = [] → c.s.drop st.a = 39 :: (P.quoteBody t ++ [39]) → c.s.length - st.a < f →
    ∃ ps st', run f c st = .ok st' ∧ st'.ls = st.ls ++ ps ∧ ps ≠ [] ∧ Quotes ps t := by
  intro n
  induction n with
  | zero =>
    intro t st f ht htx hd hf
    have : t = [] := List.length_eq_zero_iff.1 (by omega)
    subst this
    obtain ⟨q1, q2, q3, q4⟩ := cls_single (u := []) (r := []) hl hd (fun k => by simp)
    obtain ⟨b1, b2', b3⟩ := LX.drop_head hd
    have b2 : bt c.s st.a = 39 := b2'
    obtain ⟨f, rfl⟩ : ∃ k, f = k + 2 := ⟨f - 2, by omega⟩
    have he : st.a + 0 + 2 = c.s.length := by have := congrArg List.length q3; rw [List.length_drop] at this; simp at this q4 ⊢; omega
    refine ⟨[.mk 2 [] 0 false []], { st with ls := st.ls ++ [.mk 2 [] 0 false []], a := st.a + 2 }, ?_, rfl, by simp, by simpa using Quotes.nil.cons (u := [])⟩
    rw [run_succ, ended_bare hp ho b1]
    dsimp only
    rw [next, if_neg (by rw [b2]; decide), if_neg (by rw [b2]; decide), if_neg (by rw [b2]; decide), if_pos hp, unquoted, if_pos b2, q1]
    dsimp only
    rw [add_nil htx, show cut c.s (st.a + 1) (st.a + ([] : Str).length + 2 - 1) = [] from q2, run_succ, ended, if_pos (by simpa using he), if_neg hn]
    dsimp only
    rw [flush_nil' (by exact htx)]
    rfl
  | succ n ih =>
    intro t st f ht htx hd hf
    obtain ⟨u, r, htu, hu, hr⟩ := split39 t
    obtain ⟨b1, b2', b3⟩ := LX.drop_head hd
    have b2 : bt c.s st.a = 39 := b2'
    rcases hr with rfl | ⟨t', rfl⟩
    · rw [List.append_nil] at htu
      subst htu
      rw [P.quoteBody_none _ hu] at hd
      obtain ⟨q1, q2, q3, q4⟩ := cls_single (u := t) (r := []) hl hd hu
      obtain ⟨f, rfl⟩ : ∃ k, f = k + 2 := ⟨f - 2, by omega⟩
      have he : st.a + t.length + 2 = c.s.length := by have := congrArg List.length q3; rw [List.length_drop] at this; simp at this; omega
      refine ⟨[.mk 2 t 0 false []], { st with ls := st.ls ++ [.mk 2 t 0 false []], a := st.a + t.length + 2 }, ?_, rfl, by simp, by simpa using Quotes.nil.cons (u := t)⟩
      rw [run_succ, ended_bare hp ho b1]
      dsimp only
      rw [next, if_neg (by rw [b2]; decide), if_neg (by rw [b2]; decide), if_neg (by rw [b2]; decide), if_pos hp, unquoted, if_pos b2, q1]
      dsimp only
      rw [add_nil htx, q2, run_succ, ended, if_pos he, if_neg hn]
      dsimp only
      rw [flush_nil' (by exact htx)]
    · subst htu
      rw [P.quoteBody_append, P.quoteBody_none _ hu] at hd
      have hq : P.quoteBody (39 :: t') = 39 :: 92 :: 39 :: 39 :: P.quoteBody t' := rfl
      rw [hq] at hd
      have hd2 : c.s.drop st.a = 39 :: (u ++ 39 :: (92 :: 39 :: (39 :: (P.quoteBody t' ++ [39])))) := by rw [hd]; simp
      obtain ⟨q1, q2, q3, q4⟩ := cls_single (u := u) hl hd2 hu
      obtain ⟨e1, e2', e3⟩ := LX.drop_head q3
      obtain ⟨g1, g2', g3⟩ := LX.drop_head e3
      obtain ⟨k1, k2, k3⟩ := LX.drop_head g3
      have e2 : bt c.s (st.a + u.length + 2) = 92 := e2'
      have g2 : bt c.s (st.a + u.length + 2 + 1) = 39 := g2'
      obtain ⟨f, rfl⟩ : ∃ k, f = k + 2 := ⟨f - 2, by omega⟩
      have hlen : (u ++ 39 :: t').length = u.length + (t'.length + 1) := by rw [List.length_append, List.length_cons]
      obtain ⟨ps, st', i1, i2, i3, i4⟩ := ih t' { st with ls := st.ls ++ [.mk 2 u 0 false []] ++ [.mk 2 [39] 0 false []], a := st.a + u.length + 2 + 2 } f (by omega) htx g3 (by dsimp only; omega)
      refine ⟨.mk 2 u 0 false [] :: .mk 2 [39] 0 false [] :: ps, st', ?_, by rw [i2]; simp, by simp, by simpa using (i4.cons (u := [39])).cons (u := u)⟩
      rw [run_succ, ended_bare hp ho b1]
      dsimp only
      rw [next, if_neg (by rw [b2]; decide), if_neg (by rw [b2]; decide), if_neg (by rw [b2]; decide), if_pos hp, unquoted, if_pos b2, q1]
      dsimp only
      rw [add_nil htx, q2, run_succ, ended_bare hp ho e1]
      dsimp only
      rw [next, if_pos e2, backslash, if_neg (by dsimp only; omega), if_neg (by rw [g2]; decide), if_pos hp]
      dsimp only
      have hc : cut c.s (st.a + u.length + 2 + 1) (st.a + u.length + 2 + 2) = [39] := by
        have := cut_one c.s (st.a + u.length + 2 + 1) g1
        rw [g2] at this
        exact this
      rw [hc, add_nil (by exact htx)]
      exact i1
theorem flush_ls_eq {st st' : St} (h1 : st.tx = st'.tx) (h2 : st.ls = st'.ls) : (flush st).ls = (flush st').ls := by
  unfold flush
  rw [h1, h2]
  split <;> first | rfl | exact h2
theorem plain_bt : ∀ n : Nat, n < 256 → P.pl n = true → ¬ n = 92 ∧ ¬ n = 36 ∧ ¬ n = 96 ∧ ¬ n = 39 ∧ ¬ n = 34 ∧ LX.divides n = false ∧ ¬ n = 126 := by decide +kernel
theorem run_plain {c : Ctx} (hp : c.pl = 0) (ho : c.op = false) (hn : ¬ 0 ≤ c.opn) : ∀ (t : Str) (st : St) (f : Nat), c.s.drop st.a = t → st.a ≤ c.s.length → t.all (fun x => P.pl (P.iv x)) = true → c.s.length - st.a < f →
    ∃ st', run f c st = .ok st' ∧ st'.ls = (flush { st with tx := st.tx ++ t }).ls := by
  intro t
  induction t with
  | nil =>
    intro st f hd ha _ hf
    obtain ⟨f, rfl⟩ : ∃ k, f = k + 1 := ⟨f - 1, by omega⟩
    have he : st.a = c.s.length := by have := congrArg List.length hd; rw [List.length_drop] at this; simp at this; omega
    refine ⟨flush st, ?_, by rw [List.append_nil]⟩
    rw [run_succ, ended, if_pos he, if_neg hn]
  | cons x t ih =>
    intro st f hd ha hall hf
    obtain ⟨f, rfl⟩ : ∃ k, f = k + 1 := ⟨f - 1, by omega⟩
    obtain ⟨b1, b2, b3⟩ := LX.drop_head hd
    rw [List.all_cons, Bool.and_eq_true] at hall
    obtain ⟨p1, p2, p3, p4, p5, p6, p7⟩ := plain_bt x.toNat x.toNat_lt (by simpa [P.iv] using hall.1)
    obtain ⟨st', i1, i2⟩ := ih (lit x 1 st) f b3 (by show st.a + 1 ≤ _; omega) hall.2 (by show _ - (st.a + 1) < _; omega)
    refine ⟨st', ?_, ?_⟩
    · rw [run_succ, ended_bare hp ho b1]
      dsimp only
      rw [next, if_neg (by rw [b2]; omega), if_neg (by rw [b2]; omega), if_neg (by rw [b2]; omega), if_pos hp, unquoted, if_neg (by rw [b2]; omega), if_neg (by rw [b2]; omega), if_neg (by rw [b2, p6]; simp), if_neg (by rw [b2]; omega), b2, by8_of]
      exact i1
    · rw [i2]
      exact flush_ls_eq (by simp [lit]) rfl
/-- What Parse gives at a quoted form. -/
theorem parse_quote (s : Str) (hs : s.length ≤ 4000) : ∃ ps, parse (P.quote s) 0 = .ok ps ∧ litA ps = some s ∧ quotedB ps = !P.plainB s := by
  have hlen := P.quote_le s
  unfold parse
  rw [if_neg (by omega)]
  cases hpl : P.plainB s with
  | true =>
    have hq : P.quote s = s := by unfold P.quote; rw [if_pos hpl]
    rw [hq]
    unfold P.plainB at hpl
    rw [Bool.and_eq_true] at hpl
    have hne : s ≠ [] := by intro e; rw [e] at hpl; simp at hpl
    obtain ⟨st', h1, h2⟩ := run_plain (c := ⟨s, 0, false, 1, -1⟩) rfl rfl (show ¬ (0 : Int) ≤ -1 by decide) s ⟨0, 0, [], []⟩ (s.length + 1) (by simp) (by simp) hpl.1 (by simp)
    refine ⟨st'.ls, by rw [h1], ?_, ?_⟩
    · rw [h2, flush, if_neg (by simpa using hne)]
      simp [litA, lit1]
    · rw [h2, flush, if_neg (by simpa using hne)]
      simp [quotedB, Part.kind]
  | false =>
    have hq : P.quote s = 39 :: (P.quoteBody s ++ [39]) := by unfold P.quote; rw [if_neg (by rw [hpl]; simp)]
    obtain ⟨ps, st', h1, h2, h3, h4⟩ := run_quoted (c := ⟨P.quote s, 0, false, 1, -1⟩) rfl rfl (show ¬ (0 : Int) ≤ -1 by decide) (by show (P.quote s).length ≤ 16384; omega) s.length s ⟨0, 0, [], []⟩ ((P.quote s).length + 1) (Nat.le_refl _) rfl (by simpa using hq) (by simp)
    refine ⟨st'.ls, by rw [h1], ?_, ?_⟩
    · rw [h2]; simpa using h4.1
    · rw [h2]
      cases ps with
      | nil => exact absurd rfl h3
      | cons p ps =>
        have := h4.2 p (List.mem_cons_self ..)
        simp [quotedB, this]
end WP
end Go.Proofs.YtmgomklpjjkehaaGreat
namespace Go.Proofs.YtmgomklpjjkehaaGreat
open K
namespace WP
/-- A part whatever its kind. -/
inductive GP where
  | mk (kind : Int) (text : Str) (op : Int) (colon : Bool) (parts : List GP)
mutual
def gp : Part → GP
  | .mk k t o c ps => .mk k t o c (gpL ps)
def gpL : List Part → List GP
  | [] => []
  | p :: r => gp p :: gpL r
end
theorem gpL_length : ∀ l : List Part, (gpL l).length = l.length
  | [] => rfl
  | p :: r => by rw [gpL, List.length_cons, List.length_cons, gpL_length r]
theorem gpL_append : ∀ a b : List Part, gpL (a ++ b) = gpL a ++ gpL b
  | [], b => rfl
  | p :: r, b => by rw [List.cons_append, gpL, gpL, gpL_append r b]; rfl
namespace GP
def kind : GP → Int | .mk k _ _ _ _ => k
def text : GP → Str | .mk _ t _ _ _ => t
def op : GP → Int | .mk _ _ o _ _ => o
def colon : GP → Bool | .mk _ _ _ c _ => c
def parts : GP → List GP | .mk _ _ _ _ ps => ps
end GP
def escT (pl : Nat) (op : Bool) : Str → Str
  | [] => []
  | x :: r => (if escapes pl x.toNat op = true then [92, x] else [x]) ++ escT pl op r
theorem escT_append (pl : Nat) (op : Bool) : ∀ a b : Str, escT pl op (a ++ b) = escT pl op a ++ escT pl op b
  | [], b => rfl
  | x :: r, b => by rw [List.cons_append, escT, escT, escT_append pl op r b, List.append_assoc]
theorem escT_len (pl : Nat) (op : Bool) : ∀ a : Str, (escT pl op a).length ≤ 2 * a.length
  | [] => Nat.le_refl _
  | x :: r => by
    have := escT_len pl op r
    rw [escT, List.length_append, List.length_cons]
    split <;> simp <;> omega
/-- Whether a parameter's name wants braces ahead of a byte. -/
def braces (t : Str) (nx : Int) : Bool := (LX.number t && decide (1 < t.length)) || (decide (t ≠ []) && (LX.starts (bt t 0) && (LX.starts nx || LX.digit nx)))
def symbol (o : Int) : Option Str :=
  if o = 1 then some [45] else if o = 2 then some [61] else if o = 3 then some [63] else if o = 4 then some [43] else if o = 6 then some [37] else if o = 7 then some [37, 37] else if o = 8 then some [35] else if o = 9 then some [35, 35] else none
def nextB : List GP → Int
  | .mk k (x :: _) _ _ _ :: _ => if k = 1 then x.toNat else 0
  | _ => 0
mutual
/-- What the writer writes for a part. -/
def outP (pl : Nat) (op : Bool) (nx : Int) : GP → Str
  | .mk k t o c ps =>
    if k = 7 then [126]
    else if k = 1 then escT pl op t
    else if k = 2 then (if t = [39] then [92, 39] else 39 :: (t ++ [39]))
    else if k = 3 then 34 :: (outL 1 false ps ++ [34])
    else if k = 5 then 36 :: 40 :: (t ++ [41])
    else if k = 6 then 36 :: 40 :: 40 :: (outL 2 false ps ++ [41, 41])
    else if k = 4 then
      (if o = 0 then (if braces t nx = true then 36 :: 123 :: (t ++ [125]) else 36 :: t)
      else if o = 5 then 36 :: 123 :: 35 :: (t ++ [125])
      else match symbol o with
        | none => []
        | some y => 36 :: 123 :: (t ++ ((if c = true then 58 :: y else y) ++ (outL pl true ps ++ [125]))))
    else []
def outL (pl : Nat) (op : Bool) : List GP → Str
  | [] => []
  | p :: r => outP pl op (nextB r) p ++ outL pl op r
end
mutual
/-- Whether the writer finds no source. -/
def badP : GP → Bool
  | .mk k _ o _ ps =>
    if k = 3 ∨ k = 6 then badL ps
    else if k = 4 then (if o = 0 ∨ o = 5 then false else if symbol o = none then true else badL ps)
    else decide (¬ (k = 7 ∨ k = 1 ∨ k = 2 ∨ k = 5))
def badL : List GP → Bool
  | [] => false
  | p :: r => badP p || badL r
end
mutual
/-- The number of parts, and the bytes of their texts. -/
def cntP : GP → Nat
  | .mk _ _ _ _ ps => 1 + cntL ps
def cntL : List GP → Nat
  | [] => 0
  | p :: r => cntP p + cntL r
end
mutual
def sizP : GP → Nat
  | .mk _ t _ _ ps => t.length + sizL ps
def sizL : List GP → Nat
  | [] => 0
  | p :: r => sizP p + sizL r
end
mutual
def sameP : GP → GP → Bool
  | .mk k t o c ps, .mk k' t' o' c' qs => decide (k = k' ∧ t = t' ∧ o = o' ∧ c = c') && sameL ps qs
def sameL : List GP → List GP → Bool
  | [], [] => true
  | p :: r, q :: s => sameP p q && sameL r s
  | _, _ => false
end
def glitIn : List GP → Option Str
  | [] => some []
  | p :: r => if p.kind = 1 then (glitIn r).map (p.text ++ ·) else none
def glit1 : GP → Option Str
  | .mk k t _ _ ps => if k = 1 ∨ k = 2 then some t else if k = 3 then glitIn ps else none
def glit : List GP → Option Str
  | [] => some []
  | p :: r => (glit1 p).bind fun a => (glit r).map (a ++ ·)
def isQ (k : Int) : Bool := decide (k = 2 ∨ k = 3)
def gquoted (l : List GP) : Bool := l.any fun p => isQ p.kind
mutual
/-- The texts of the parts of a kind, in order. -/
def txtP (K : Int) : GP → List Str
  | .mk k t _ _ ps => (if k = K then [t] else []) ++ txtL K ps
def txtL (K : Int) : List GP → List Str
  | [] => []
  | p :: r => txtP K p ++ txtL K r
end
/-- What valid says: the source, and whether Parse returns the parts for it. -/
def validG (l : List GP) : Str × Bool :=
  if badL l = true then ([], false)
  else (outL 0 false l, match parse (outL 0 false l) 0 with | .error _ => false | .ok ps => sameL l (gpL ps))
def showG (l : List GP) : Str × Int := if (validG l).2 = true then ((validG l).1, 0) else ([], 1)
theorem litIn_gp : ∀ l : List Part, glitIn (gpL l) = litIn l
  | [] => rfl
  | .mk k t o c ps :: r => by
    rw [gpL, gp, glitIn, litIn, litIn_gp r]
    show (if (k : Int) = 1 then _ else _) = _
    by_cases h : k = 1
    · rw [if_pos h, if_pos (by omega)]; rfl
    · rw [if_neg h, if_neg (by omega)]
theorem lit1_gp (p : Part) : glit1 (gp p) = lit1 p := by
  obtain ⟨k, t, o, c, ps⟩ := p
  rw [gp, glit1, lit1, litIn_gp]
  by_cases h : k = 1 ∨ k = 2
  · rw [if_pos h, if_pos (by omega)]
  · rw [if_neg h, if_neg (by omega)]
    by_cases h3 : k = 3
    · rw [if_pos h3, if_pos (by omega)]
    · rw [if_neg h3, if_neg (by omega)]
theorem lit_gp : ∀ l : List Part, glit (gpL l) = litA l
  | [] => rfl
  | p :: r => by rw [gpL, glit, litA, lit1_gp, lit_gp r]
theorem quoted_gp : ∀ l : List Part, gquoted (gpL l) = quotedB l
  | [] => rfl
  | p :: r => by
    have := quoted_gp r
    unfold gquoted quotedB at this ⊢
    rw [gpL, List.any_cons, List.any_cons, this]
    congr 1
    obtain ⟨k, t, o, c, ps⟩ := p
    rw [gp]
    show isQ (k : Int) = decide (k = 2 ∨ k = 3)
    unfold isQ
    exact decide_eq_decide.2 (by omega)
mutual
theorem sameP_refl : ∀ p : GP, sameP p p = true
  | .mk k t o c ps => by rw [sameP, sameL_refl ps]; simp
theorem sameL_refl : ∀ l : List GP, sameL l l = true
  | [] => by rw [sameL]
  | p :: r => by rw [sameL, sameP_refl p, sameL_refl r]; rfl
end
mutual
theorem sameP_eq : ∀ p q : GP, sameP p q = true → p = q
  | .mk k t o c ps, .mk k' t' o' c' qs, h => by
    rw [sameP, Bool.and_eq_true] at h
    obtain ⟨h1, h2, h3, h4⟩ := of_decide_eq_true h.1
    rw [h1, h2, h3, h4, sameL_eq ps qs h.2]
theorem sameL_eq : ∀ l m : List GP, sameL l m = true → l = m
  | [], [], _ => rfl
  | [], _ :: _, h => by rw [sameL] at h <;> first | cases h | simp
  | _ :: _, [], h => by rw [sameL] at h <;> first | cases h | simp
  | p :: r, q :: s, h => by
    rw [sameL, Bool.and_eq_true] at h
    rw [sameP_eq p q h.1, sameL_eq r s h.2]
end
theorem sameL_iff (l m : List GP) : sameL l m = true ↔ l = m := ⟨sameL_eq l m, fun h => h ▸ sameL_refl l⟩
theorem sameL_len : ∀ {l m : List GP}, l.length ≠ m.length → sameL l m = false := by
  intro l m h
  cases hs : sameL l m with
  | false => rfl
  | true => exact absurd (congrArg List.length (sameL_eq l m hs)) h
mutual
theorem outP_len (pl : Nat) (op : Bool) (nx : Int) : ∀ p : GP, (outP pl op nx p).length ≤ 2 * sizP p + 8 * cntP p
  | .mk k t o c ps => by
    have h1 := outL_len 1 false ps
    have h2 := outL_len 2 false ps
    have h3 := outL_len pl true ps
    have h4 := escT_len pl op t
    rw [outP, sizP, cntP]
    split
    · simp; omega
    split
    · omega
    split
    · split <;> simp <;> omega
    split
    · simp; omega
    split
    · simp; omega
    split
    · simp; omega
    split
    · split
      · split <;> simp <;> omega
      · split
        · simp; omega
        · cases hy : symbol o with
          | none => simp
          | some y =>
            have hyl : y.length ≤ 2 := by
              unfold symbol at hy
              repeat' split at hy
              all_goals first | (injection hy with hy; subst hy; simp) | cases hy
            dsimp only
            have : ((if c = true then 58 :: y else y) : Str).length ≤ 3 := by
              split
              · rw [List.length_cons]; omega
              · omega
            simp only [List.length_cons, List.length_append]
            simp only [List.length_nil]
            omega
    · simp
theorem outL_len (pl : Nat) (op : Bool) : ∀ l : List GP, (outL pl op l).length ≤ 2 * sizL l + 8 * cntL l
  | [] => by rw [outL]; simp
  | p :: r => by
    have h1 := outP_len pl op (nextB r) p
    have h2 := outL_len pl op r
    rw [outL, sizL, cntL, List.length_append]
    omega
end
end WP
end Go.Proofs.YtmgomklpjjkehaaGreat
namespace Go.Proofs.YtmgomklpjjkehaaGreat
open K
namespace WP
/-- The errors of a reader of a construct's parts have a number. -/
def CodeN (s : Str) (lo : Nat) (N : Nest) : Prop := ∀ (c : Ctx) (k : Nat) (x : Flt), c.s = s → lo ≤ k → k ≤ s.length → N c k = .error x → ¬ x.2 = 0
theorem err_code {α : Type} {a : Int} {n : Int} {x : Flt} (h : (Except.error (a, n) : Except Flt α) = .error x) (hn : ¬ n = 0) : ¬ x.2 = 0 := by
  injection h with h
  rw [← h]
  exact hn
theorem cls_code {s : Str} {a : Nat} {x : Flt} (h : cls s a = .error x) : ¬ x.2 = 0 := by
  unfold cls at h
  split at h
  · cases h
  · rename_i hn
    exact err_code h hn
theorem ended_code {c : Ctx} {st : St} {x : Flt} (h : ended c st = .error x) : ¬ x.2 = 0 := by
  unfold ended at h
  split at h
  · split at h
    · exact err_code h (by decide)
    · cases h
  split at h
  · cases h
  split at h
  · cases h
  split at h
  · split at h
    · exact err_code h (by decide)
    · split at h
      · cases h
      · exact err_code h (by decide)
  · cases h
theorem reject_code (c : Ctx) (st : St) (i : Nat) : ¬ (reject c st i).2 = 0 := by
  unfold reject
  split
  · exact (by decide : ¬ (7 : Int) = 0)
  · exact (by decide : ¬ (6 : Int) = 0)
theorem operator_le' (t : Str) (colon : Bool) : (operator t colon).2 ≤ t.length := by
  unfold operator
  have h22 : ∀ {a b : UInt8}, Lib.hasPrefix t [a, b] = true → 2 ≤ t.length := by
    intro a b hx
    obtain ⟨r, hr⟩ := LX.has2 hx
    rw [hr]
    simp
  by_cases h0 : t = []
  · rw [if_pos h0]; exact Nat.zero_le _
  · have := List.length_pos_iff.2 h0
    rw [if_neg h0]
    repeat' split
    all_goals first | omega | (dsimp only; omega) | exact h22 (by assumption)
theorem braced3_code {N : Nest} {c : Ctx} {st : St} {e k o z : Nat} {colon : Bool} {x : Flt} (hN : CodeN c.s (st.a + 1) N) (hk : st.a < k) (hz : k + z ≤ c.s.length) (h : braced3 N c st e k o z colon = .error x) : ¬ x.2 = 0 := by
  unfold braced3 at h
  split at h
  · injection h with h; rw [← h]; exact reject_code _ _ _
  split at h
  · exact err_code h (by decide)
  split at h
  · exact err_code h (by decide)
  split at h
  · rename_i y hy
    injection h with h
    rw [← h]
    exact hN ⟨c.s, c.pl, true, c.lv + 1, st.a⟩ (k + z) _ rfl (by omega) hz hy
  · cases h
theorem braced_code {N : Nest} {c : Ctx} {st : St} {x : Flt} (hN : CodeN c.s (st.a + 1) N) (ha : st.a + 2 ≤ c.s.length) (h : braced N c st = .error x) : ¬ x.2 = 0 := by
  unfold braced at h
  split at h
  · rename_i y hy
    injection h with h
    rw [← h]
    unfold braced1 at hy
    split at hy
    · split at hy
      · exact err_code hy (by decide)
      split at hy
      · exact err_code hy (by decide)
      split at hy
      · cases hy
      split at hy
      · exact err_code hy (by decide)
      · cases hy
    · cases hy
  · cases h
  · have hp := parameter_le' ha
    unfold braced2 at h
    split at h
    · injection h with h; rw [← h]; exact reject_code _ _ _
    split at h
    · exact err_code h (by decide)
    split at h
    · cases h
    split at h
    · rename_i h58
      obtain ⟨r, hr⟩ := LX.has1 h58
      have h7 := (LX.drop_head hr).1
      have h8 := operator_le' (c.s.drop (parameter c.s (st.a + 2) + 1)) true
      rw [List.length_drop] at h8
      exact braced3_code hN (by omega) (by omega) h
    · have h8 := operator_le' (c.s.drop (parameter c.s (st.a + 2))) false
      rw [List.length_drop] at h8
      exact braced3_code hN (by omega) (by omega) h
theorem dollar_code {N : Nest} {c : Ctx} {st : St} {x : Flt} (hN : CodeN c.s (st.a + 1) N) (h : dollar N c st = .error x) : ¬ x.2 = 0 := by
  unfold dollar at h
  split at h
  · rename_i h40
    split at h
    · exact err_code h (by decide)
    split at h
    · rename_i y hy
      injection h with h
      rw [← h]
      obtain ⟨r, hr⟩ := LX.has2 h40
      have d1 := LX.drop_head hr
      have d2 := LX.drop_head d1.2.2
      exact hN ⟨c.s, 2, false, c.lv + 1, st.a⟩ (st.a + 3) _ rfl (by omega) (by omega) hy
    · cases h
  split at h
  · split at h
    · rename_i y hy
      injection h with h
      rw [← h]
      exact cls_code hy
    · cases h
  split at h
  · rename_i h123
    split at h
    · rename_i y hy
      injection h with h
      rw [← h]
      obtain ⟨r, hr⟩ := LX.has1 h123
      have d1 := LX.drop_head hr
      exact braced_code hN (by omega) hy
    · cases h
  split at h
  · cases h
  split at h
  · split at h
    · exact err_code h (by decide)
    · cases h
  split at h
  · exact err_code h (by decide)
  · cases h
theorem next_code {N : Nest} {c : Ctx} {st : St} {x : Flt} (hN : CodeN c.s (st.a + 1) N) (ha : st.a < c.s.length) (h : next N c st = .error x) : ¬ x.2 = 0 := by
  unfold next at h
  split at h
  · unfold backslash at h
    split at h
    · split at h
      · cases h
      · exact err_code h (by decide)
    split at h
    · cases h
    split at h
    · cases h
    split at h
    · cases h
    split at h
    · exact err_code h (by decide)
    · cases h
  split at h
  · exact dollar_code hN h
  split at h
  · unfold backquoted at h
    split at h
    · rename_i y hy
      injection h with h
      rw [← h]
      exact cls_code hy
    · split at h
      · cases h
      split at h
      · cases h
      · exact err_code h (by decide)
  split at h
  · unfold unquoted at h
    split at h
    · split at h
      · rename_i y hy
        injection h with h
        rw [← h]
        exact cls_code hy
      · cases h
    split at h
    · split at h
      · exact err_code h (by decide)
      split at h
      · rename_i y hy
        injection h with h
        rw [← h]
        exact hN ⟨c.s, 1, false, c.lv + 1, st.a⟩ (st.a + 1) _ rfl (by omega) (by omega) hy
      · cases h
    split at h
    · split at h
      · cases h
      · exact err_code h (by decide)
    split at h
    · cases h
    · cases h
  split at h
  · exact err_code h (by decide)
  · cases h
theorem run_code : ∀ (f : Nat) (c : Ctx) (st : St) (x : Flt), Inv c st → c.s.length - st.a < f → run f c st = .error x → ¬ x.2 = 0 := by
  intro f
  induction f using Nat.strongRecOn with
  | ind f ih =>
    intro c st x hi hf h
    obtain ⟨f, rfl⟩ : ∃ k, f = k + 1 := ⟨f - 1, by omega⟩
    rw [run_succ] at h
    cases he : ended c st with
    | error y =>
      rw [he] at h
      injection h with h
      rw [← h]
      exact ended_code he
    | ok b =>
      rw [he] at h
      cases b with
      | true => cases h
      | false =>
        dsimp only at h
        have hlt : st.a < c.s.length := by
          rcases Nat.lt_or_ge st.a c.s.length with h' | h'
          · exact h'
          · have := hi.le
            unfold ended at he
            rw [if_pos (by omega)] at he
            split at he <;> cases he
        have hN : CodeN c.s (st.a + 1) (nest f) := by
          intro c' k y hc hlo hk hy
          unfold nest at hy
          cases hr : run f c' ⟨k, 0, [], []⟩ with
          | error z =>
            rw [hr] at hy
            injection hy with hy
            rw [← hy]
            exact ih f (Nat.lt_succ_self _) c' ⟨k, 0, [], []⟩ z ⟨by rw [hc]; exact hk, by simp, by simp⟩ (by rw [hc]; show _ - k < _; omega) hr
          | ok z => rw [hr] at hy; cases hy
        cases hn : next (nest f) c st with
        | error y =>
          rw [hn] at h
          injection h with h
          rw [← h]
          exact next_code hN hlt hn
        | ok y =>
          rw [hn] at h
          have hg := next_good (nest_good f c.s) hi hlt hn
          exact ih f (Nat.lt_succ_self _) c y x hg.2 (by omega) h
theorem parse_code {s : Str} {pl : Nat} {x : Flt} (h : parse s pl = .error x) : ¬ x.2 = 0 := by
  unfold parse at h
  split at h
  · exact err_code h (by decide)
  · cases hr : run (s.length + 1) ⟨s, pl, false, 1, -1⟩ ⟨0, 0, [], []⟩ with
    | error y =>
      rw [hr] at h
      injection h with h
      rw [← h]
      exact run_code _ _ _ _ ⟨Nat.zero_le _, by simp, Nat.le_refl _⟩ (by show s.length - 0 < _; omega) hr
    | ok y => rw [hr] at h; cases h
end WP
end Go.Proofs.YtmgomklpjjkehaaGreat
namespace Go.Proofs.YtmgomklpjjkehaaGreat
open K
namespace WP
theorem cutLen (l : Str) (a b : Nat) : (cut l a b).length ≤ b - a := by unfold cut; simp; omega
theorem unqLen : ∀ (n : Nat) (t : Str), t.length ≤ n → (unq t).length ≤ t.length := by
  intro n
  induction n with
  | zero =>
    intro t h
    rw [List.length_eq_zero_iff.1 (by omega : t.length = 0)]
    exact Nat.le_refl _
  | succ n ih =>
    intro t h
    match t, h with
    | [], _ => exact Nat.le_refl _
    | [x], _ => exact Nat.le_refl _
    | x :: y :: r, h =>
      rw [unq]
      simp only [List.length_cons] at h
      split
      · have := ih r (by omega)
        simp only [List.length_cons]
        omega
      · have := ih (y :: r) (by simp only [List.length_cons]; omega)
        simp only [List.length_cons] at this ⊢
        omega
theorem cntL_append : ∀ a b : List GP, cntL (a ++ b) = cntL a + cntL b
  | [], b => by rw [List.nil_append, cntL, Nat.zero_add]
  | p :: r, b => by rw [List.cons_append, cntL, cntL, cntL_append r b, Nat.add_assoc]
theorem sizL_append : ∀ a b : List GP, sizL (a ++ b) = sizL a + sizL b
  | [], b => by rw [List.nil_append, sizL, Nat.zero_add]
  | p :: r, b => by rw [List.cons_append, sizL, sizL, sizL_append r b, Nat.add_assoc]
/-- The parts and the bytes of a state, its text with them. -/
def wc (st : St) : Nat := cntL (gpL st.ls) + st.tx.length
def ws (st : St) : Nat := sizL (gpL st.ls) + st.tx.length
theorem cnt_one (p : Part) : cntL (gpL [p]) = cntP (gp p) := by rw [gpL, gpL, cntL, cntL, Nat.add_zero]
theorem siz_one (p : Part) : sizL (gpL [p]) = sizP (gp p) := by rw [gpL, gpL, sizL, sizL, Nat.add_zero]
theorem flush_w (st : St) : wc (flush st) ≤ wc st ∧ ws (flush st) ≤ ws st ∧ (flush st).tx = [] := by
  unfold flush
  split
  · rename_i h; exact ⟨Nat.le_refl _, Nat.le_refl _, h⟩
  · rename_i h
    have := List.length_pos_iff.2 h
    refine ⟨?_, ?_, rfl⟩
    · unfold wc
      dsimp only
      rw [gpL_append, cntL_append, cnt_one, gp, cntP, gpL, cntL]
      simp
      omega
    · unfold ws
      dsimp only
      rw [gpL_append, sizL_append, siz_one, gp, sizP, gpL, sizL]
      simp
theorem add_w (p : Part) (k : Nat) (st : St) : wc (add p k st) ≤ wc st + cntP (gp p) ∧ ws (add p k st) ≤ ws st + sizP (gp p) := by
  obtain ⟨h1, h2, h3⟩ := flush_w st
  refine ⟨?_, ?_⟩
  · have : wc (add p k st) = wc (flush st) + cntP (gp p) := by
      unfold wc add
      dsimp only
      rw [gpL_append, cntL_append, cnt_one]
      omega
    omega
  · have : ws (add p k st) = ws (flush st) + sizP (gp p) := by
      unfold ws add
      dsimp only
      rw [gpL_append, sizL_append, siz_one]
      omega
    omega
theorem lit_w (c : UInt8) (m : Nat) (st : St) : wc (lit c m st) = wc st + 1 ∧ ws (lit c m st) = ws st + 1 := by
  unfold wc ws lit
  simp
  omega
/-- What a reader gives is no more than it read. -/
def WtN (s : Str) (lo : Nat) (N : Nest) : Prop := ∀ (c : Ctx) (k : Nat) (ps : List Part) (e : Nat), c.s = s → 0 ≤ c.opn → lo ≤ k → k ≤ s.length → N c k = .ok (ps, e) → cntL (gpL ps) + k ≤ e ∧ sizL (gpL ps) + k ≤ e
def Wt (st st' : St) : Prop := wc st' + st.a ≤ wc st + st'.a ∧ ws st' + st.a ≤ ws st + st'.a
theorem wt_add {st : St} {p : Part} {k : Nat} (h1 : cntP (gp p) + st.a ≤ k) (h2 : sizP (gp p) + st.a ≤ k) : Wt st (add p k st) := by
  obtain ⟨h3, h4⟩ := add_w p k st
  refine ⟨?_, ?_⟩
  · show _ ≤ wc st + k; omega
  · show _ ≤ ws st + k; omega
theorem wt_lit (c : UInt8) {m : Nat} (st : St) (h : 1 ≤ m) : Wt st (lit c m st) := by
  obtain ⟨h3, h4⟩ := lit_w c m st
  refine ⟨?_, ?_⟩
  · show _ ≤ wc st + (st.a + m); omega
  · show _ ≤ ws st + (st.a + m); omega
theorem leaf (k : Nat) (t : Str) (o : Nat) (b : Bool) : cntP (gp (.mk k t o b [])) = 1 ∧ sizP (gp (.mk k t o b [])) = t.length := by
  rw [gp, cntP, sizP, gpL, cntL, sizL]
  omega
theorem node (k : Nat) (t : Str) (o : Nat) (b : Bool) (ps : List Part) : cntP (gp (.mk k t o b ps)) = 1 + cntL (gpL ps) ∧ sizP (gp (.mk k t o b ps)) = t.length + sizL (gpL ps) := by
  rw [gp, cntP, sizP]
  omega
theorem wt_leaf {st : St} {k : Nat} {t : Str} {o : Nat} {b : Bool} {e : Nat} (h : t.length + st.a ≤ e) (h1 : st.a < e) : Wt st (add (.mk k t o b []) e st) := by
  obtain ⟨h2, h3⟩ := leaf k t o b
  exact wt_add (by omega) (by omega)
theorem braced3_wt {N : Nest} {c : Ctx} {st : St} (hN : WtN c.s (st.a + 1) N) {e k o z : Nat} {colon : Bool} {p : Part} {j : Nat} (hk : st.a + 2 ≤ e) (hk2 : e ≤ k) (hz : k + z ≤ c.s.length) (h : braced3 N c st e k o z colon = .ok (p, j)) : cntP (gp p) + st.a ≤ j ∧ sizP (gp p) + st.a ≤ j := by
  unfold braced3 at h
  split at h
  · cases h
  split at h
  · cases h
  split at h
  · cases h
  split at h
  · cases h
  · rename_i ps x hn
    injection h with h
    injection h with h1 h2
    obtain ⟨h5, h6⟩ := hN ⟨c.s, c.pl, true, c.lv + 1, st.a⟩ (k + z) ps x rfl (show (0 : Int) ≤ (st.a : Int) by omega) (by omega) hz hn
    obtain ⟨h7, h8⟩ := node 4 (cut c.s (st.a + 2) e) o colon ps
    have := cutLen c.s (st.a + 2) e
    rw [← h1, ← h2]
    omega
theorem braced_wt {N : Nest} {c : Ctx} {st : St} (hN : WtN c.s (st.a + 1) N) (ha : st.a + 2 ≤ c.s.length) {p : Part} {j : Nat} (h : braced N c st = .ok (p, j)) : cntP (gp p) + st.a ≤ j ∧ sizP (gp p) + st.a ≤ j := by
  have hp := parameter_le' ha
  have hop : ∀ (t : Str) (colon : Bool), (operator t colon).2 ≤ t.length := by
    intro t colon
    unfold operator
    have h22 : ∀ {a b : UInt8}, Lib.hasPrefix t [a, b] = true → 2 ≤ t.length := by
      intro a b hx
      obtain ⟨r, hr⟩ := LX.has2 hx
      rw [hr]
      simp
    by_cases h0 : t = []
    · rw [if_pos h0]; exact Nat.zero_le _
    · have := List.length_pos_iff.2 h0
      rw [if_neg h0]
      repeat' split
      all_goals first | omega | (dsimp only; omega) | exact h22 (by assumption)
  unfold braced at h
  split at h
  · cases h
  · rename_i r hr
    injection h with h
    unfold braced1 at hr
    split at hr
    · rename_i hc
      split at hr
      · cases hr
      split at hr
      · cases hr
      split at hr
      · injection hr with hr
        injection hr with hr
        rw [h] at hr
        injection hr with h1 h2
        obtain ⟨h7, h8⟩ := leaf 4 (cut c.s (st.a + 3) (parameter c.s (st.a + 3))) 5 false
        have := cutLen c.s (st.a + 3) (parameter c.s (st.a + 3))
        rw [← h1, ← h2]
        omega
      split at hr
      · cases hr
      · injection hr with hr; cases hr
    · injection hr with hr; cases hr
  · unfold braced2 at h
    split at h
    · cases h
    split at h
    · cases h
    split at h
    · injection h with h
      injection h with h1 h2
      obtain ⟨h7, h8⟩ := leaf 4 (cut c.s (st.a + 2) (parameter c.s (st.a + 2))) 0 false
      have := cutLen c.s (st.a + 2) (parameter c.s (st.a + 2))
      rw [← h1, ← h2]
      omega
    split at h
    · rename_i h58
      obtain ⟨r, hr⟩ := LX.has1 h58
      have h7 := (LX.drop_head hr).1
      have h8 := hop (c.s.drop (parameter c.s (st.a + 2) + 1)) true
      rw [List.length_drop] at h8
      exact braced3_wt hN (by omega) (by omega) (by omega) h
    · have h8 := hop (c.s.drop (parameter c.s (st.a + 2))) false
      rw [List.length_drop] at h8
      exact braced3_wt hN (by omega) (by omega) (by omega) h
theorem dollar_wt {N : Nest} {c : Ctx} {st st' : St} (hN : WtN c.s (st.a + 1) N) (hb : bt c.s st.a = 36) (h : dollar N c st = .ok st') : Wt st st' := by
  unfold dollar at h
  split at h
  · rename_i h40
    split at h
    · cases h
    split at h
    · cases h
    · rename_i ps e hn
      injection h with h
      subst h
      obtain ⟨r, hr⟩ := LX.has2 h40
      have d1 := LX.drop_head hr
      have d2 := LX.drop_head d1.2.2
      obtain ⟨h5, h6⟩ := hN ⟨c.s, 2, false, c.lv + 1, st.a⟩ (st.a + 3) _ _ rfl (show (0 : Int) ≤ (st.a : Int) by omega) (by omega) (by omega) hn
      obtain ⟨h7, h8⟩ := node 6 [] 0 false ps
      exact wt_add (by omega) (by rw [h8, List.length_nil]; omega)
  split at h
  · rename_i hn40 h40
    split at h
    · cases h
    · rename_i e he
      injection h with h
      subst h
      obtain ⟨he1, he2⟩ := cls_le he
      obtain ⟨r, hr⟩ := LX.has1 h40
      have d1 := LX.drop_head hr
      have := LX.close_cmd hb d1.2.1 (LX.has_not3 (by simpa using hn40)) he1
      have := cutLen c.s (st.a + 2) (e - 1)
      exact wt_leaf (by omega) (by omega)
  split at h
  · rename_i h123
    split at h
    · cases h
    · rename_i p e hbr
      injection h with h
      subst h
      obtain ⟨r, hr⟩ := LX.has1 h123
      have d1 := LX.drop_head hr
      obtain ⟨h5, h6⟩ := braced_wt hN (by omega) hbr
      exact wt_add h5 h6
  split at h
  · injection h with h
    subst h
    have := cutLen c.s (st.a + 1) (st.a + 2)
    exact wt_leaf (by omega) (by omega)
  split at h
  · rename_i hp
    split at h
    · cases h
    · injection h with h
      subst h
      have := cutLen c.s (st.a + 1) (parameter c.s (st.a + 1))
      exact wt_leaf (by omega) (by omega)
  split at h
  · cases h
  · injection h with h
    subst h
    exact wt_lit _ _ (Nat.le_refl _)
theorem next_wt {N : Nest} {c : Ctx} {st st' : St} (hN : WtN c.s (st.a + 1) N) (ha : st.a < c.s.length) (h : next N c st = .ok st') : Wt st st' := by
  unfold next at h
  split at h
  · unfold backslash at h
    split at h
    · split at h
      · injection h with h; subst h; exact wt_lit _ _ (Nat.le_refl _)
      · cases h
    split at h
    · injection h with h
      subst h
      refine ⟨?_, ?_⟩
      · show wc st + st.a ≤ wc st + (st.a + 2); omega
      · show ws st + st.a ≤ ws st + (st.a + 2); omega
    split at h
    · injection h with h
      subst h
      have := cutLen c.s (st.a + 1) (st.a + 2)
      exact wt_leaf (by omega) (by omega)
    split at h
    · injection h with h; subst h; exact wt_lit _ _ (by decide)
    split at h
    · cases h
    · injection h with h
      subst h
      obtain ⟨h1, h2⟩ := wt_lit 92 (m := 1) st (Nat.le_refl _)
      obtain ⟨h3, h4⟩ := wt_lit (by8 (bt c.s (st.a + 1))) (m := 1) (lit 92 1 st) (Nat.le_refl _)
      exact ⟨by omega, by omega⟩
  split at h
  · rename_i hb; exact dollar_wt hN hb h
  split at h
  · rename_i hb
    unfold backquoted at h
    split at h
    · cases h
    · rename_i e he
      obtain ⟨he1, he2⟩ := cls_le he
      have := LX.close_back hb he1
      have h5 := cutLen c.s (st.a + 1) (e - 1)
      have h6 := unqLen _ (cut c.s (st.a + 1) (e - 1)) (Nat.le_refl _)
      have h7 : (bqText (unq (cut c.s (st.a + 1) (e - 1)))).length ≤ (unq (cut c.s (st.a + 1) (e - 1))).length + 1 := by unfold bqText; split <;> simp
      split at h
      · injection h with h; subst h; exact wt_leaf (by omega) (by omega)
      split at h
      · injection h with h; subst h; exact wt_leaf (by rw [List.length_append, List.length_singleton]; omega) (by omega)
      · cases h
  split at h
  · unfold unquoted at h
    split at h
    · rename_i hb
      split at h
      · cases h
      · rename_i e he
        obtain ⟨he1, he2⟩ := cls_le he
        have := LX.close_single hb he1
        have := cutLen c.s (st.a + 1) (e - 1)
        injection h with h; subst h; exact wt_leaf (by omega) (by omega)
    split at h
    · split at h
      · cases h
      split at h
      · cases h
      · rename_i ps e hn
        obtain ⟨h5, h6⟩ := hN ⟨c.s, 1, false, c.lv + 1, st.a⟩ (st.a + 1) _ _ rfl (show (0 : Int) ≤ (st.a : Int) by omega) (by omega) (by omega) hn
        obtain ⟨h7, h8⟩ := node 3 [] 0 false ps
        injection h with h; subst h; exact wt_add (by omega) (by rw [h8, List.length_nil]; omega)
    split at h
    · split at h
      · injection h with h; subst h; exact wt_lit _ _ (Nat.le_refl _)
      · cases h
    split at h
    · injection h with h; subst h; exact wt_leaf (by rw [List.length_nil]; omega) (by omega)
    · injection h with h; subst h; exact wt_lit _ _ (Nat.le_refl _)
  split at h
  · cases h
  · injection h with h
    subst h
    exact wt_lit (by8 (bt c.s st.a)) (m := 1) { st with dep := depth c st } (Nat.le_refl _)
theorem run_wt : ∀ (f : Nat) (c : Ctx) (st st' : St), Inv c st → run f c st = .ok st' → Wt st st' ∧ st'.a ≤ c.s.length := by
  intro f
  induction f using Nat.strongRecOn with
  | ind f ih =>
    intro c st st' hi h
    cases f with
    | zero => rw [run] at h; cases h
    | succ f =>
      rw [run_succ] at h
      cases he : ended c st with
      | error y => rw [he] at h; cases h
      | ok b =>
        rw [he] at h
        cases b with
        | true =>
          injection h with h
          subst h
          obtain ⟨h1, h2, -⟩ := flush_w st
          have := flush_a' st
          have := hi.le
          exact ⟨⟨by omega, by omega⟩, by omega⟩
        | false =>
          dsimp only at h
          have hlt : st.a < c.s.length := by
            rcases Nat.lt_or_ge st.a c.s.length with h' | h'
            · exact h'
            · have := hi.le
              unfold ended at he
              rw [if_pos (by omega)] at he
              split at he <;> cases he
          have hN : WtN c.s (st.a + 1) (nest f) := by
            intro c' k ps e hc _ _ hk hn
            unfold nest at hn
            cases hr : run f c' ⟨k, 0, [], []⟩ with
            | error z => rw [hr] at hn; cases hn
            | ok z =>
              rw [hr] at hn
              injection hn with hn
              injection hn with h1 h2
              obtain ⟨⟨h3, h4⟩, -⟩ := ih f (Nat.lt_succ_self _) c' ⟨k, 0, [], []⟩ z ⟨by rw [hc]; exact hk, by simp, by simp⟩ hr
              rw [← h1, ← h2]
              have e1 : wc ⟨k, 0, [], []⟩ = 0 := rfl
              have e2 : ws ⟨k, 0, [], []⟩ = 0 := rfl
              rw [e1] at h3
              rw [e2] at h4
              unfold wc at h3
              unfold ws at h4
              dsimp only at h3 h4
              exact ⟨by omega, by omega⟩
          cases hn : next (nest f) c st with
          | error y => rw [hn] at h; cases h
          | ok y =>
            rw [hn] at h
            have hg := next_good (nest_good f c.s) hi hlt hn
            obtain ⟨h1, h2⟩ := next_wt hN hlt hn
            obtain ⟨⟨h3, h4⟩, h5⟩ := ih f (Nat.lt_succ_self _) c y st' hg.2 h
            exact ⟨⟨by omega, by omega⟩, h5⟩
/-- What Parse gives is no more, and no longer, than its source. -/
theorem parse_wt {s : Str} {pl : Nat} {ps : List Part} (h : parse s pl = .ok ps) : cntL (gpL ps) ≤ s.length ∧ sizL (gpL ps) ≤ s.length := by
  unfold parse at h
  split at h
  · cases h
  · cases hr : run (s.length + 1) ⟨s, pl, false, 1, -1⟩ ⟨0, 0, [], []⟩ with
    | error y => rw [hr] at h; cases h
    | ok y =>
      rw [hr] at h
      injection h with h
      subst h
      obtain ⟨⟨h1, h2⟩, hle⟩ := run_wt _ _ _ _ ⟨Nat.zero_le _, by simp, Nat.le_refl _⟩ hr
      replace hle : y.a ≤ s.length := hle
      have e1 : wc ⟨0, 0, [], []⟩ = 0 := rfl
      have e2 : ws ⟨0, 0, [], []⟩ = 0 := rfl
      rw [e1] at h1
      rw [e2] at h2
      unfold wc at h1
      unfold ws at h2
      dsimp only at h1 h2
      exact ⟨by omega, by omega⟩
end WP
end Go.Proofs.YtmgomklpjjkehaaGreat
