/- Chapter 7 in plain Lean: the lexer's constructs. -/
import Derived.Test.YtcbdhheelddgeaaGreatDoorK
import Derived.Lib.IndexLaws
import Derived.Lib.IndexAny
namespace Go.Proofs.YtcbdhheelddgeaaGreatDoor
open K
namespace LX
abbrev Str := List UInt8
def blank (c : Int) : Bool := decide (c = 9 ∨ c = 32)
def divides (c : Int) : Bool := decide (c = 38 ∨ c = 124 ∨ c = 59 ∨ c = 40 ∨ c = 41 ∨ c = 60 ∨ c = 62 ∨ c = 10 ∨ c = 9 ∨ c = 32)
def digit (c : Int) : Bool := decide (48 ≤ c ∧ c ≤ 57)
def starts (c : Int) : Bool := decide (c = 95 ∨ (65 ≤ c ∧ c ≤ 90) ∨ (97 ≤ c ∧ c ≤ 122))
def special (c : Int) : Bool := decide (0 ≤ Lib.indexByte [64, 42, 35, 63, 45, 36, 33, 123, 40] c.toNat.toUInt8)
def dollar (s : Str) (i : Nat) : Bool := decide (i < s.length) && (starts (bt s i) || digit (bt s i) || special (bt s i))
def begins (s : Str) (i : Nat) : Bool := if bt s i = 36 then dollar s (i + 1) else decide (bt s i = 92 ∨ bt s i = 39 ∨ bt s i = 34 ∨ bt s i = 96)
def joins (s : Str) (i : Nat) : Bool := Lib.hasPrefix (s.drop i) [92, 10]
/-- The index of a byte from an offset on, or none. -/
def find (s : Str) (i : Nat) (c : UInt8) : Option Nat := (s.drop i).findIdx? (· == c)
theorem indexByte_eq : ∀ (l : Str) (c : UInt8), Lib.indexByte l c = match l.findIdx? (· == c) with | none => -1 | some n => (n : Int)
  | [], _ => rfl
  | x :: l, c => by
    rw [Lib.indexByte, List.findIdx?_cons]
    by_cases h : (x == c) = true
    · rw [if_pos h, if_pos h]; rfl
    · rw [if_neg h, if_neg h, indexByte_eq l c]
      cases l.findIdx? (· == c) with
      | none => rfl
      | some n =>
        have h2 : ((n : Int) == -1) = false := by rw [beq_eq_false_iff_ne]; omega
        simp [h2]
theorem index_find (s : Str) (i : Nat) (c : UInt8) : Lib.indexByte (s.drop i) c = match find s i c with | none => -1 | some n => (n : Int) := indexByte_eq _ _
def comment (s : Str) (i : Nat) : Nat := match find s i 10 with | none => s.length | some n => i + n
/-- The offset after the name that goes on at an offset. -/
def nameEnd (s : Str) (i : Nat) : Nat := i + ((s.drop i).takeWhile fun c => starts (c.toNat : Int) || digit (c.toNat : Int)).length
def bkq : Nat → Str → Nat → Nat → Nat × Int
  | 0, _, a, _ => (a, 7)
  | f + 1, s, a, i =>
    if i < s.length then
      if bt s i = 96 then (i + 1, 0)
      else if bt s i = 92 then (if i + 1 = s.length then (i, 7) else bkq f s a (i + 2))
      else bkq f s a (i + 1)
    else (a, 7)
/-- Goes on behind a part unless it failed. -/
def thn (r : Nat × Int) (k : Nat → Nat × Int) : Nat × Int := if r.2 = 0 then k r.1 else r
mutual
def con : Nat → Str → Nat → Bool → Bool → Nat × Int
  | 0, _, a, _, _ => (a, 7)
  | f + 1, s, a, q, d =>
    if bt s a = 92 then (if a + 1 = s.length then (a, 7) else (a + 2, 0))
    else if bt s a = 39 then (match find s (a + 1) 39 with | none => (a, 7) | some n => (a + n + 2, 0))
    else if bt s a = 34 then dbl f s a (a + 1)
    else if bt s a = 96 then bkq f s a (a + 1)
    else if Lib.hasPrefix (s.drop a) [36, 40, 40] then ari f s a (a + 3) 0
    else if bt s (a + 1) = 40 then cmd f s a (a + 2) 0 true
    else if bt s (a + 1) = 123 then brc f s a (a + 2) q d
    else if starts (bt s (a + 1)) = false then (a + 2, 0)
    else (nameEnd s (a + 2), 0)
def ins : Nat → Str → Nat → Bool → Bool → Nat × Int
  | 0, _, a, _, _ => (a, 7)
  | f + 1, s, i, q, d => if bt s i = 39 ∨ bt s i = 34 ∨ begins s i = false then (i + 1, 0) else con f s i q d
def dbl : Nat → Str → Nat → Nat → Nat × Int
  | 0, _, a, _ => (a, 7)
  | f + 1, s, a, i =>
    if i < s.length then
      if bt s i = 34 then (i + 1, 0) else thn (ins f s i true true) fun k => dbl f s a k
    else (a, 7)
def ari : Nat → Str → Nat → Nat → Nat → Nat × Int
  | 0, _, a, _, _ => (a, 7)
  | f + 1, s, a, i, n =>
    if i < s.length then
      if bt s i = 40 then thn (ins f s i true false) fun k => ari f s a k (n + 1)
      else if bt s i = 41 ∧ 0 < n then thn (ins f s i true false) fun k => ari f s a k (n - 1)
      else if bt s i = 41 then (if i + 1 = s.length then (a, 7) else if bt s (i + 1) = 41 then (i + 2, 0) else (i, 6))
      else thn (ins f s i true false) fun k => ari f s a k n
    else (a, 7)
def cmd : Nat → Str → Nat → Nat → Nat → Bool → Nat × Int
  | 0, _, a, _, _, _ => (a, 7)
  | f + 1, s, a, i, n, b =>
    if i < s.length then
      if joins s i = true then cmd f s a (i + 2) n b
      else if bt s i = 35 ∧ b = true then cmd f s a (comment s i) n b
      else if begins s i = true then thn (con f s i false false) fun k => cmd f s a k n false
      else if bt s i = 40 then cmd f s a (i + 1) (n + 1) (divides (bt s i))
      else if bt s i = 41 ∧ n = 0 then (i + 1, 0)
      else if bt s i = 41 then cmd f s a (i + 1) (n - 1) (divides (bt s i))
      else cmd f s a (i + 1) n (divides (bt s i))
    else (a, 7)
def brc : Nat → Str → Nat → Nat → Bool → Bool → Nat × Int
  | 0, _, a, _, _, _ => (a, 7)
  | f + 1, s, a, i, q, d =>
    if i < s.length then
      if bt s i = 125 then (i + 1, 0)
      else if bt s i = 34 ∧ d = true then (i, 6)
      else if ((bt s i = 34 ∨ bt s i = 39) ∧ q = true) ∨ begins s i = false then brc f s a (i + 1) q d
      else thn (con f s i q d) fun k => brc f s a k q d
    else (a, 7)
end
/-- What a result is good for. -/
def Good (L a : Nat) (r : Nat × Int) : Prop := r.1 ≤ L ∧ (r.2 = 0 → a < r.1) ∧ (r.2 = 0 ∨ r.2 = 6 ∨ r.2 = 7)
theorem good_ok {L a k : Nat} (h : k ≤ L) (h2 : a < k) : Good L a (k, 0) := ⟨h, fun _ => h2, .inl rfl⟩
theorem good_no {L a k : Nat} (h : k ≤ L) : Good L a (k, 7) := ⟨h, fun e => absurd (show (7 : Int) = 0 from e) (by decide), .inr (.inr rfl)⟩
theorem good_six {L a k : Nat} (h : k ≤ L) : Good L a (k, 6) := ⟨h, fun e => absurd (show (6 : Int) = 0 from e) (by decide), .inr (.inl rfl)⟩
theorem Good.up {L a b : Nat} {r : Nat × Int} (h : Good L b r) (hb : a ≤ b) : Good L a r := ⟨h.1, fun e => Nat.lt_of_le_of_lt hb (h.2.1 e), h.2.2⟩
theorem good_ite {L a : Nat} {c : Prop} [Decidable c] {x y : Nat × Int} (h1 : c → Good L a x) (h2 : ¬ c → Good L a y) : Good L a (if c then x else y) := by
  by_cases h : c
  · rw [if_pos h]; exact h1 h
  · rw [if_neg h]; exact h2 h
theorem good_thn {L a b : Nat} {r : Nat × Int} {k : Nat → Nat × Int} (h : Good L b r) (h2 : ∀ j, b < j → j ≤ L → Good L a (k j)) : Good L a (thn r k) := by
  unfold thn
  by_cases e : r.2 = 0
  · rw [if_pos e]; exact h2 _ (h.2.1 e) h.1
  · rw [if_neg e]; exact ⟨h.1, fun e' => absurd e' e, h.2.2⟩
theorem find_some {s : Str} {i n : Nat} {c : UInt8} (h : find s i c = some n) : i + n < s.length ∧ s[i + n]? = some c ∧ ∀ j, j < n → s[i + j]? ≠ some c := by
  unfold find at h
  obtain ⟨h1, h2, h3⟩ := List.findIdx?_eq_some_iff_getElem.1 h
  rw [List.length_drop] at h1
  refine ⟨by omega, ?_, fun j hj e => ?_⟩
  · rw [List.getElem?_eq_getElem (by omega)]
    have := h2
    rw [List.getElem_drop] at this
    exact congrArg some (by simpa using this)
  · have := h3 j hj
    rw [List.getElem_drop] at this
    rw [List.getElem?_eq_getElem (by omega)] at e
    simp at this
    exact this (Option.some.inj e)
theorem find_none {s : Str} {i : Nat} {c : UInt8} (h : find s i c = none) : ∀ j, i ≤ j → s[j]? ≠ some c := by
  unfold find at h
  rw [List.findIdx?_eq_none_iff] at h
  intro j hj e
  have hm : c ∈ s.drop i := by
    obtain ⟨hl, he⟩ := List.getElem?_eq_some_iff.1 e
    rw [List.mem_iff_getElem?]
    refine ⟨j - i, ?_⟩
    rw [List.getElem?_drop, show i + (j - i) = j by omega]
    exact e
  have := h c hm
  simp at this
theorem comment_le (s : Str) (i : Nat) : comment s i ≤ s.length := by
  unfold comment
  split
  · exact Nat.le_refl _
  · rename_i n h; have := (find_some h).1; omega
theorem bt_some {s : Str} {k : Nat} {x : UInt8} (h : s[k]? = some x) : bt s k = (x.toNat : Int) := by
  unfold bt
  rw [List.getD_eq_getElem?_getD, h]
  rfl
theorem comment_lt {s : Str} {i : Nat} (hi : i < s.length) (h : ¬ bt s i = 10) : i < comment s i := by
  unfold comment
  split
  · exact hi
  · rename_i n hn
    rcases Nat.eq_zero_or_pos n with rfl | hp
    · have := (find_some hn).2.1
      rw [Nat.add_zero] at this
      exact absurd (bt_some this) h
    · omega
theorem nameEnd_le (s : Str) {i : Nat} (h : i ≤ s.length) : nameEnd s i ≤ s.length := by
  unfold nameEnd
  have := (List.takeWhile_sublist (l := s.drop i) fun c => starts (c.toNat : Int) || digit (c.toNat : Int)).length_le
  rw [List.length_drop] at this
  omega
theorem nameEnd_ge (s : Str) (i : Nat) : i ≤ nameEnd s i := by unfold nameEnd; omega
theorem nameEnd_go {s : Str} {i : Nat} (hi : i < s.length) (h : (starts (bt s i) || digit (bt s i)) = true) : nameEnd s i = nameEnd s (i + 1) := by
  obtain ⟨x, hx, hb, _⟩ := drop_cons s i hi
  unfold nameEnd
  rw [hb] at h
  rw [hx, List.takeWhile_cons, if_pos h]
  simp
  omega
theorem nameEnd_stop {s : Str} {i : Nat} (hi : i < s.length) (h : (starts (bt s i) || digit (bt s i)) = false) : nameEnd s i = i := by
  obtain ⟨x, hx, hb, _⟩ := drop_cons s i hi
  unfold nameEnd
  rw [hb] at h
  rw [hx, List.takeWhile_cons, if_neg (by rw [h]; simp)]
  simp
theorem nameEnd_end {s : Str} {i : Nat} (hi : s.length ≤ i) : nameEnd s i = i := by unfold nameEnd; rw [List.drop_eq_nil_of_le hi]; simp
theorem begins_dollar {s : Str} {i : Nat} (h : begins s i = true) (hb : bt s i = 36) : i + 1 < s.length := by
  unfold begins at h
  rw [if_pos hb] at h
  unfold dollar at h
  simp at h
  exact h.1
theorem begins_other {s : Str} {i : Nat} (h : begins s i = true) (h1 : ¬ bt s i = 92) (h2 : ¬ bt s i = 39) (h3 : ¬ bt s i = 34) (h4 : ¬ bt s i = 96) : bt s i = 36 := by
  by_cases hb : bt s i = 36
  · exact hb
  · unfold begins at h
    rw [if_neg hb] at h
    have := of_decide_eq_true h
    rcases this with e | e | e | e
    · exact absurd e h1
    · exact absurd e h2
    · exact absurd e h3
    · exact absurd e h4
theorem bkq_good : ∀ (f : Nat) (s : Str) (a i : Nat), a < i → a ≤ s.length → Good s.length a (bkq f s a i)
  | 0, s, a, i, _, ha => good_no ha
  | f + 1, s, a, i, h, ha => by
    rw [bkq]
    refine good_ite (fun hi => good_ite (fun _ => good_ok (by omega) (by omega)) (fun _ => good_ite (fun _ => good_ite (fun _ => good_no (by omega)) (fun _ => bkq_good f s a _ (by omega) ha)) (fun _ => bkq_good f s a _ (by omega) ha))) (fun _ => good_no ha)
theorem has3 {s : Str} {a : Nat} (h : Lib.hasPrefix (s.drop a) [36, 40, 40] = true) : a + 3 ≤ s.length ∧ bt s a = 36 ∧ bt s (a + 1) = 40 ∧ bt s (a + 2) = 40 := by
  have hl : 3 ≤ (s.drop a).length := by
    match hd : s.drop a with
    | [] => rw [hd] at h; exact absurd h (by decide)
    | [x] => rw [hd] at h; simp [Lib.hasPrefix] at h
    | [x, y] => rw [hd] at h; simp [Lib.hasPrefix] at h
    | x :: y :: z :: r => simp
  rw [List.length_drop] at hl
  obtain ⟨x, hx, hbx, _⟩ := drop_cons s a (by omega)
  obtain ⟨y, hy, hby, _⟩ := drop_cons s (a + 1) (by omega)
  obtain ⟨z, hz, hbz, _⟩ := drop_cons s (a + 2) (by omega)
  rw [hx, hy, hz] at h
  simp [Lib.hasPrefix] at h
  obtain ⟨rfl, rfl, rfl⟩ := h
  exact ⟨by omega, hbx, hby, hbz⟩
theorem joins_iff {s : Str} {i : Nat} : joins s i = true ↔ bt s i = 92 ∧ bt s (i + 1) = 10 ∧ i + 2 ≤ s.length := by
  unfold joins
  constructor
  · intro h
    have hl : 2 ≤ (s.drop i).length := by
      match hd : s.drop i with
      | [] => rw [hd] at h; exact absurd h (by decide)
      | [x] => rw [hd] at h; simp [Lib.hasPrefix] at h
      | x :: y :: r => simp
    rw [List.length_drop] at hl
    obtain ⟨x, hx, hbx, _⟩ := drop_cons s i (by omega)
    obtain ⟨y, hy, hby, _⟩ := drop_cons s (i + 1) (by omega)
    rw [hx, hy] at h
    simp [Lib.hasPrefix] at h
    obtain ⟨rfl, rfl⟩ := h
    exact ⟨hbx, hby, by omega⟩
  · rintro ⟨h1, h2, h3⟩
    obtain ⟨x, hx, hbx, _⟩ := drop_cons s i (by omega)
    obtain ⟨y, hy, hby, _⟩ := drop_cons s (i + 1) (by omega)
    rw [hx, hy]
    obtain rfl : x = 92 := UInt8.toNat_inj.1 (by have : ((x.toNat : Nat) : Int) = 92 := by rw [← hbx, h1]
                                                 show x.toNat = 92; omega)
    obtain rfl : y = 10 := UInt8.toNat_inj.1 (by have : ((y.toNat : Nat) : Int) = 10 := by rw [← hby, h2]
                                                 show y.toNat = 10; omega)
    simp [Lib.hasPrefix]
/-- All that the constructs' functions give, at a fuel. -/
structure AllGood (f : Nat) : Prop where
  con : ∀ (s : Str) (a : Nat) (q d : Bool), a < s.length → begins s a = true → Good s.length a (con f s a q d)
  ins : ∀ (s : Str) (a : Nat) (q d : Bool), a < s.length → Good s.length a (ins f s a q d)
  dbl : ∀ (s : Str) (a i : Nat), a < i → a ≤ s.length → Good s.length a (dbl f s a i)
  ari : ∀ (s : Str) (a i n : Nat), a < i → a ≤ s.length → Good s.length a (ari f s a i n)
  cmd : ∀ (s : Str) (a i n : Nat) (b : Bool), a < i → a ≤ s.length → Good s.length a (cmd f s a i n b)
  brc : ∀ (s : Str) (a i : Nat) (q d : Bool), a < i → a ≤ s.length → Good s.length a (brc f s a i q d)
theorem good_all : ∀ f, AllGood f
  | 0 => ⟨fun s a q d h _ => by rw [con]; exact good_no (by omega), fun s a q d h => by rw [ins]; exact good_no (by omega), fun s a i _ h => by rw [dbl]; exact good_no h, fun s a i n _ h => by rw [ari]; exact good_no h, fun s a i n b _ h => by rw [cmd]; exact good_no h, fun s a i q d _ h => by rw [brc]; exact good_no h⟩
  | f + 1 => by
    have ih := good_all f
    refine ⟨fun s a q d h hb => ?_, fun s a q d h => ?_, fun s a i h ha => ?_, fun s a i n h ha => ?_, fun s a i n b h ha => ?_, fun s a i q d h ha => ?_⟩
    · rw [con]
      refine good_ite (fun h1 => good_ite (fun _ => good_no (by omega)) (fun _ => good_ok (by omega) (by omega))) (fun h1 => ?_)
      refine good_ite (fun h2 => ?_) (fun h2 => ?_)
      · split
        · exact good_no (by omega)
        · rename_i n hn; have := (find_some hn).1; exact good_ok (by omega) (by omega)
      refine good_ite (fun h3 => ih.dbl s a _ (by omega) (by omega)) (fun h3 => ?_)
      refine good_ite (fun h4 => bkq_good f s a _ (by omega) (by omega)) (fun h4 => ?_)
      have hd := begins_dollar hb (begins_other hb h1 h2 h3 h4)
      refine good_ite (fun h5 => ih.ari s a _ _ (by omega) (by omega)) (fun h5 => ?_)
      refine good_ite (fun h6 => ih.cmd s a _ _ _ (by omega) (by omega)) (fun h6 => ?_)
      refine good_ite (fun h7 => ih.brc s a _ _ _ (by omega) (by omega)) (fun h7 => ?_)
      refine good_ite (fun h8 => good_ok (by omega) (by omega)) (fun h8 => good_ok (nameEnd_le s (by omega)) (Nat.lt_of_lt_of_le (by omega) (nameEnd_ge s _)))
    · rw [ins]
      refine good_ite (fun _ => good_ok (by omega) (by omega)) (fun h1 => ih.con s a q d h ?_)
      cases hb : begins s a
      · exact absurd (.inr (.inr hb)) h1
      · rfl
    · rw [dbl]
      exact good_ite (fun hi => good_ite (fun _ => good_ok (by omega) (by omega)) (fun _ => good_thn (ih.ins s i true true hi) fun j hj hl => ih.dbl s a j (by omega) ha)) (fun _ => good_no ha)
    · rw [ari]
      refine good_ite (fun hi => ?_) (fun _ => good_no ha)
      refine good_ite (fun _ => good_thn (ih.ins s i true false hi) fun j hj hl => ih.ari s a j _ (by omega) ha) (fun _ => ?_)
      refine good_ite (fun _ => good_thn (ih.ins s i true false hi) fun j hj hl => ih.ari s a j _ (by omega) ha) (fun _ => ?_)
      refine good_ite (fun _ => good_ite (fun _ => good_no ha) (fun _ => good_ite (fun _ => good_ok (by omega) (by omega)) (fun _ => good_six (by omega)))) (fun _ => ?_)
      exact good_thn (ih.ins s i true false hi) fun j hj hl => ih.ari s a j _ (by omega) ha
    · rw [cmd]
      refine good_ite (fun hi => ?_) (fun _ => good_no ha)
      refine good_ite (fun _ => ih.cmd s a _ _ _ (by omega) ha) (fun _ => ?_)
      refine good_ite (fun h2 => ih.cmd s a _ _ _ (by have := comment_lt hi (by rw [h2.1]; decide); omega) ha) (fun _ => ?_)
      refine good_ite (fun hb => good_thn (ih.con s i false false hi hb) fun j hj hl => ih.cmd s a j _ _ (by omega) ha) (fun _ => ?_)
      refine good_ite (fun _ => ih.cmd s a _ _ _ (by omega) ha) (fun _ => ?_)
      refine good_ite (fun _ => good_ok (by omega) (by omega)) (fun _ => ?_)
      exact good_ite (fun _ => ih.cmd s a _ _ _ (by omega) ha) (fun _ => ih.cmd s a _ _ _ (by omega) ha)
    · rw [brc]
      refine good_ite (fun hi => ?_) (fun _ => good_no ha)
      refine good_ite (fun _ => good_ok (by omega) (by omega)) (fun _ => ?_)
      refine good_ite (fun _ => good_six (by omega)) (fun _ => ?_)
      refine good_ite (fun _ => ih.brc s a _ _ _ (by omega) ha) (fun h3 => ?_)
      refine good_thn (ih.con s i q d hi ?_) fun j hj hl => ih.brc s a j _ _ (by omega) ha
      cases hb : begins s i
      · exact absurd (.inr hb) h3
      · rfl
/-- The offset after the construct at an offset, or of the error, and the error. -/
def construct (s : Str) (a : Nat) (q d : Bool) : Nat × Int := con (3 * s.length + 3) s a q d
theorem construct_good {s : Str} {a : Nat} {q d : Bool} (h : a < s.length) (hb : begins s a = true) : Good s.length a (construct s a q d) := (good_all _).con s a q d h hb
def close (s : Str) (a : Nat) : Nat × Int := if 16384 < s.length then (0, 3) else if a < s.length ∧ begins s a = true then construct s a false false else (0, 1)
end LX
end Go.Proofs.YtcbdhheelddgeaaGreatDoor
