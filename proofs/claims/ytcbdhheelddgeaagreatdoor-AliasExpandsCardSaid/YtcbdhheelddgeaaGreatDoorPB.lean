/- Several texts in one: P09e P09f P09g P09h P09i. -/
import Derived.Test.YtcbdhheelddgeaaGreatDoorZH
import Derived.Test.YtcbdhheelddgeaaGreatDoorZB
import Derived.Lib.IndexMore
import Derived.Lib.TrimByte
namespace Go.Proofs.YtcbdhheelddgeaaGreatDoor
open K W AX
namespace LX
/-- What a token is, other than the end. -/
theorem next_cases {s : Str} {a : Nat} {t : Tok} (ha : a ≤ s.length) (h : next s a = (t, 0)) : t.kind = 5 ∨ (a ≤ t.pos ∧ t.pos < s.length ∧ t.text = cut s t.pos t.stop ∧ t.pos < t.stop ∧ t.stop ≤ s.length ∧
  ((t.kind = 3 ∧ bt s t.pos = 10 ∧ t.stop = t.pos + 1) ∨ (t.kind = 2 ∧ t.stop = t.pos + opLen s t.pos ∧ ¬ bt s t.pos = 10) ∨ ((t.kind = 1 ∨ t.kind = 4) ∧ divides (bt s t.pos) = false ∧ t.stop = (wordEnd s t.pos).1 ∧ (wordEnd s t.pos).2 = 0))) := by
 unfold next at h
 split at h
 ·simp at h
 have hle := skipTo_le ha
 have hge := skipTo_ge s a
 have hat := skipTo_at ha
 generalize skipTo s a = p at h hle hge hat
 unfold nextAt at h
 split at h
 ·left
  have := congrArg Prod.fst h
  dsimp only at this
  rw [← this]
 rename_i hne
 have hlt : p < s.length := by omega
 obtain ⟨hbl, -, -⟩ := hat hlt
 right
 split at h
 ·rename_i h10
  have := congrArg Prod.fst h
  dsimp only at this
  rw [← this]
  exact ⟨hge, hlt, rfl, Nat.lt_succ_self p, hlt, .inl ⟨rfl, h10, rfl⟩⟩
 rename_i h10
 split at h
 ·rename_i ho
  have := congrArg Prod.fst h
  dsimp only at this
  rw [← this]
  have h3 := opFrom_le s p (min 3 (s.length - p))
  refine ⟨hge, hlt, rfl, show p < p + opLen s p by omega, show p + opLen s p ≤ s.length from ?_, .inr (.inl ⟨rfl, rfl, h10⟩)⟩
  unfold opLen
  omega
 ·rename_i ho
  have hd : divides (bt s p) = false := by
   cases hd : divides (bt s p) with
   | false => rfl
   | true => exact absurd (opLen_pos hlt hd hbl) ho
  unfold nextW at h
  split at h
  ·rename_i he
   have := congrArg Prod.fst h
   dsimp only at this
   rw [← this]
   refine ⟨hge, hlt, rfl, word_lt hlt hd he, (word_good _ s p hle).1, .inr (.inr ⟨?_, hd, rfl, he⟩)⟩
   unfold tok
   dsimp only
   split
   ·exact .inr rfl
   ·exact .inl rfl
  ·rename_i he
   exact absurd (congrArg Prod.snd h) he
/-- A word ends at the end or ahead of a byte that divides. -/
theorem word_stop : ∀ (f : Nat) (s : Str) (i : Nat), i ≤ s.length → s.length - i < f → (word f s i).2 = 0 → (word f s i).1 = s.length ∨ divides (bt s (word f s i).1) = true
 | 0, s, i, _, h, _ => absurd h (by omega)
 | f + 1, s, i, hi, hf, h => by
  rw [word] at h ⊢
  by_cases hc : i < s.length ∧ divides (bt s i) = false
  ·rw [if_pos hc] at h ⊢
   by_cases hb : begins s i = true
   ·rw [if_pos hb] at h ⊢
    have hg := construct_good (q := false) (d := false) hc.1 hb
    unfold thn at h ⊢
    by_cases he : (construct s i false false).2 = 0
    ·rw [if_pos he] at h ⊢
     have h2 := hg.2.1 he
     exact word_stop f s _ hg.1 (by have := hg.1; omega) h
    ·rw [if_neg he] at h
     exact absurd h he
   ·rw [if_neg hb] at h ⊢
    exact word_stop f s (i + 1) (by omega) (by omega) h
  ·rw [if_neg hc] at h ⊢
   dsimp only
   by_cases h1 : i = s.length
   ·exact .inl h1
   ·refine .inr ?_
    cases hd : divides (bt s i) with
    | true => rfl
    | false => exact absurd ⟨by omega, hd⟩ hc
theorem plain_dv : ∀ n : Nat, n < 256 → P.pl (n : Int) = true → divides (n : Int) = false := by decide +kernel
end LX
namespace AY
abbrev D := List UInt8 × Bool
def tabsL (t : List UInt8) : List UInt8 := t.dropWhile (· == 9)
/-- Behind the line that ends one here-document's contents. -/
def find1 : Nat → List UInt8 → D → Nat → Nat
 | 0, _, _, a => a
 | f + 1, s, d, a =>
  if a < s.length then
   if (if d.2 = true then tabsL (cut s a (LX.comment s a)) else cut s a (LX.comment s a)) = d.1 then min (LX.comment s a + 1) s.length else find1 f s d (min (LX.comment s a + 1) s.length)
  else a
def skipL (s : List UInt8) : List D → Nat → Nat
 | [], a => a
 | d :: r, a => skipL s r (find1 (s.length + 1) s d a)
theorem comment_ge {s : List UInt8} {a : Nat} (h : a < s.length) : a ≤ LX.comment s a := by
 by_cases hb : bt s a = 10
 ·unfold LX.comment
  split
  ·omega
  ·omega
 ·exact Nat.le_of_lt (LX.comment_lt h hb)
theorem find1_good : ∀ (f : Nat) (s : List UInt8) (d : D) (a : Nat), a ≤ s.length → a ≤ find1 f s d a ∧ find1 f s d a ≤ s.length
 | 0, _, _, a, h => ⟨Nat.le_refl _, h⟩
 | f + 1, s, d, a, h => by
  rw [find1]
  by_cases hl : a < s.length
  ·rw [if_pos hl]
   have h1 := comment_ge hl
   have h2 : a ≤ min (LX.comment s a + 1) s.length ∧ min (LX.comment s a + 1) s.length ≤ s.length := ⟨by omega, Nat.min_le_right _ _⟩
   generalize (if d.2 = true then tabsL (cut s a (LX.comment s a)) else cut s a (LX.comment s a)) = q
   by_cases hq : q = d.1
   ·rw [if_pos hq]
    exact h2
   ·rw [if_neg hq]
    have := find1_good f s d _ h2.2
    exact ⟨Nat.le_trans h2.1 this.1, this.2⟩
  ·rw [if_neg hl]
   exact ⟨Nat.le_refl _, h⟩
theorem skipL_good (s : List UInt8) : ∀ (l : List D) (a : Nat), a ≤ s.length → a ≤ skipL s l a ∧ skipL s l a ≤ s.length
 | [], a, h => ⟨Nat.le_refl _, h⟩
 | d :: r, a, h => by
  have h1 := find1_good (s.length + 1) s d a h
  have h2 := skipL_good s r _ h1.2
  exact ⟨Nat.le_trans h1.1 h2.1, h2.2⟩
/-- The program's examiner: its state, and the delimiters since the last newline. -/
structure Y where
 x : AX.X
 lines : List D
def linesOf (L : List UInt8 → Option (List UInt8)) (h st : Bool) (ls : List D) (kd : Nat) (tx : List UInt8) : List D :=
 if h = true ∧ kd = 1 then (match L tx with | some u => ls ++ [(u, st)] | none => ls) else ls
def passY (L : List UInt8 → Option (List UInt8)) (y : Y) (kd st : Nat) (tx : List UInt8) : Y :=
 if kd = 3 then ⟨{ y.x with at_ := skipL y.x.s (linesOf L y.x.here y.x.strip y.lines kd tx) st, cmd := true, here := false }, []⟩ else
 if kd = 2 then ⟨{ y.x with at_ := st, here := tx == [60, 60] || tx == [60, 60, 45], strip := tx == [60, 60, 45], cmd := opensB tx }, linesOf L y.x.here y.x.strip y.lines kd tx⟩
 else ⟨{ y.x with at_ := st, here := false, cmd := y.x.cmd && kd == 1 && introB tx }, linesOf L y.x.here y.x.strip y.lines kd tx⟩
def runY (L : List UInt8 → Option (List UInt8)) (l : List AL.Al) : Nat → Y → Option (List UInt8 × Int)
 | 0, _ => none
 | n + 1, y =>
  if (LX.next y.x.s y.x.at_).2 ≠ 0 then some (y.x.s, 0) else if (LX.next y.x.s y.x.at_).1.kind = 5 then some (y.x.s, 0) else
  match value l (reach y.x (LX.next y.x.s y.x.at_).1.pos).ends (reach y.x (LX.next y.x.s y.x.at_).1.pos).cmd (LX.next y.x.s y.x.at_).1.kind (LX.next y.x.s y.x.at_).1.pos (LX.next y.x.s y.x.at_).1.text with
  | some v => if 16384 < (replace (reach y.x (LX.next y.x.s y.x.at_).1.pos) (LX.next y.x.s y.x.at_).1.pos (LX.next y.x.s y.x.at_).1.stop (LX.next y.x.s y.x.at_).1.text v).s.length then some ([], 3)
   else runY L l n ⟨replace (reach y.x (LX.next y.x.s y.x.at_).1.pos) (LX.next y.x.s y.x.at_).1.pos (LX.next y.x.s y.x.at_).1.stop (LX.next y.x.s y.x.at_).1.text v, y.lines⟩
  | none => runY L l n (passY L ⟨reach y.x (LX.next y.x.s y.x.at_).1.pos, y.lines⟩ (LX.next y.x.s y.x.at_).1.kind (LX.next y.x.s y.x.at_).1.stop (LX.next y.x.s y.x.at_).1.text)
def start (s : List UInt8) : Y := ⟨⟨s, 0, [], [], true, false, false⟩, []⟩
/-- The program's Expand. -/
def expandY (L : List UInt8 → Option (List UInt8)) (l : List AL.Al) (n : Nat) (s : List UInt8) : Option (List UInt8 × Int) :=
 if AL.valid l ≠ 0 then some ([], AL.valid l) else if 16384 < s.length then some ([], 3) else runY L l n (start s)
/-- A value that was substituted, in the specification. -/
structure G where
 nm : List UInt8
 e : Int
 bl : Bool
/-- The specification's state. -/
structure R where
 s : List UInt8
 at_ : Nat
 place : Bool
 regs : List G
 heres : List D
 here : List UInt8
def restR (pos : Nat) (gs : List G) : List G := gs.filter fun g => decide ((pos : Int) < g.e)
def blankR (pos : Nat) (gs : List G) : Bool := gs.any fun g => !decide ((pos : Int) < g.e) && g.bl
def activeR (gs : List G) (nm : List UInt8) (pos : Nat) : Bool := gs.any fun g => g.nm == nm && decide ((pos : Int) < g.e)
def movedR (gs : List G) (by_ : Int) : List G := gs.map fun g => { g with e := g.e + by_ }
def opensR (kd : Nat) (tx : List UInt8) (place : Bool) : Bool :=
 if tx = [10] ∨ opensB tx = true then kd == 2 || kd == 3 else if introB tx = true then place && kd == 1 else false
inductive O where
 | over : O
 | long : O
 | go : R → O
def valueR (l : List AL.Al) (rest : List G) (place : Bool) (kd ps : Nat) (tx : List UInt8) : Option (List UInt8) :=
 if place = true ∧ kd = 1 ∧ activeR rest tx ps = false then AL.get l tx else none
def stepR (L : List UInt8 → Option (List UInt8)) (l : List AL.Al) (r : R) (t : LX.Tok) (e : Int) : O :=
 if e ≠ 0 then .over else if t.kind = 5 then .over else
 match valueR l (restR t.pos r.regs) (r.place || blankR t.pos r.regs) t.kind t.pos t.text with
 | some v => if 16384 < (r.s.take t.pos ++ v ++ r.s.drop t.stop).length then .long
  else .go ⟨r.s.take t.pos ++ v ++ r.s.drop t.stop, t.pos, true, movedR (restR t.pos r.regs) ((v.length : Int) - ((t.stop : Int) - t.pos)) ++ [⟨t.text, (t.pos : Int) + v.length, AX.blank v⟩], r.heres, r.here⟩
 | none =>
  if t.kind = 3 then .go ⟨r.s, skipL r.s (linesOf L (!r.here.isEmpty) (r.here == [60, 60, 45]) r.heres t.kind t.text) t.stop, opensR t.kind t.text (r.place || blankR t.pos r.regs), restR t.pos r.regs, [], []⟩
  else .go ⟨r.s, t.stop, opensR t.kind t.text (r.place || blankR t.pos r.regs), restR t.pos r.regs, linesOf L (!r.here.isEmpty) (r.here == [60, 60, 45]) r.heres t.kind t.text,
   if t.kind = 2 ∧ (t.text = [60, 60] ∨ t.text = [60, 60, 45]) then t.text else []⟩
def runR (L : List UInt8 → Option (List UInt8)) (l : List AL.Al) : Nat → R → List UInt8 × Int
 | 0, r => (r.s, 0)
 | n + 1, r =>
  match stepR L l r (LX.next r.s r.at_).1 (LX.next r.s r.at_).2 with
  | .over => (r.s, 0)
  | .long => ([], 3)
  | .go r' => runR L l n r'
def startR (s : List UInt8) : R := ⟨s, 0, true, [], [], []⟩
/-- The specification's Expand. -/
def expandR (L : List UInt8 → Option (List UInt8)) (l : List AL.Al) (n : Nat) (s : List UInt8) : List UInt8 × Int :=
 if AL.valid l ≠ 0 then ([], AL.valid l) else if 16384 < s.length then ([], 3) else runR L l n (startR s)
end AY
end Go.Proofs.YtcbdhheelddgeaaGreatDoor
namespace Go.Proofs.YtcbdhheelddgeaaGreatDoor
open K W AX
namespace AY
theorem sget_sput (k : List UInt8) (v : Int) : ∀ (T : List SE) (n : List UInt8), sget (sput T k v) n = if k = n then some v else sget T n
 | [], n => by simp [sput, sget]
 | (a, u) :: r, n => by
  unfold sput
  by_cases h : a = k
  ·rw [if_pos h]
   subst h
   simp only [sget]
   by_cases h2 : a = n
   ·rw [if_pos h2, if_pos h2]
   ·rw [if_neg h2, if_neg h2, if_neg h2]
  ·rw [if_neg h]
   simp only [sget]
   by_cases h2 : a = n
   ·rw [if_pos h2, if_neg (fun e => h (by rw [h2, e])), if_pos h2]
   ·rw [if_neg h2, sget_sput k v r n, if_neg h2]
theorem sget_moved (ps : Nat) (mv : Int) (n : List UInt8) : ∀ T : List SE, sget (moved ps mv T) n = (sget T n).map fun e => if (ps : Int) < e then e + mv else e
 | [] => rfl
 | (a, u) :: r => by
  unfold moved
  simp only [List.map_cons, sget]
  by_cases h : a = n
  ·rw [if_pos h, if_pos h]; rfl
  ·rw [if_neg h, if_neg h]; exact sget_moved ps mv n r
theorem hit_eq (pos : Nat) : ∀ gs : List G, hit pos ((gs.filter fun g => g.bl).map fun g => g.e) = blankR pos gs
 | [] => rfl
 | g :: r => by
  have ih := hit_eq pos r
  unfold hit blankR at ih ⊢
  cases hb : g.bl with
  | true =>
   rw [List.filter_cons_of_pos (by exact hb)]
   simp only [List.map_cons, List.any_cons, ih, hb, Bool.and_true]
   congr 1
   by_cases h : g.e ≤ (pos : Int)
   ·rw [decide_eq_true h, decide_eq_false (by omega)]; rfl
   ·rw [decide_eq_false h, decide_eq_true (by omega)]; rfl
  | false =>
   rw [List.filter_cons_of_neg (by simp [hb])]
   simp only [List.any_cons, ih, hb, Bool.and_false, Bool.false_or]
theorem flt_eq (pos : Nat) : ∀ gs : List G, flt pos ((gs.filter fun g => g.bl).map fun g => g.e) = ((restR pos gs).filter fun g => g.bl).map fun g => g.e
 | [] => rfl
 | g :: r => by
  have ih := flt_eq pos r
  unfold flt restR at ih ⊢
  cases hb : g.bl with
  | true =>
   rw [List.filter_cons_of_pos (by exact hb)]
   by_cases h : (pos : Int) < g.e
   ·rw [List.map_cons, List.filter_cons_of_pos (by simpa using h), List.filter_cons_of_pos (by simpa using h), List.filter_cons_of_pos (by exact hb), List.map_cons, ih]
   ·rw [List.map_cons, List.filter_cons_of_neg (by simpa using h), List.filter_cons_of_neg (by simpa using h), ih]
  | false =>
   rw [List.filter_cons_of_neg (by simp [hb])]
   by_cases h : (pos : Int) < g.e
   ·rw [List.filter_cons_of_pos (by simpa using h), List.filter_cons_of_neg (by simp [hb]), ih]
   ·rw [List.filter_cons_of_neg (by simpa using h), ih]
theorem moved_bl (by_ : Int) (gs : List G) : ((movedR gs by_).filter fun g => g.bl).map (fun g => g.e) = ((gs.filter fun g => g.bl).map fun g => g.e).map (· + by_) := by
 induction gs with
 | nil => rfl
 | cons g r ih =>
  unfold movedR at ih ⊢
  rw [List.map_cons]
  cases hb : g.bl with
  | true =>
   rw [List.filter_cons_of_pos rfl, List.filter_cons_of_pos (by exact hb), List.map_cons, List.map_cons, List.map_cons, ih]
  | false =>
   rw [List.filter_cons_of_neg (by simp), List.filter_cons_of_neg (by simp [hb]), ih]
/-- The two states agree. -/
structure Sim (r : R) (y : Y) : Prop where
 s : y.x.s = r.s
 at_ : y.x.at_ = r.at_
 cmd : y.x.cmd = r.place
 lines : r.at_ = r.s.length ∨ y.lines = r.heres
 here : y.x.here = !r.here.isEmpty
 strip : y.x.here = true → y.x.strip = (r.here == [60, 60, 45])
 two : y.x.here = true → 2 ≤ r.at_
 blanks : y.x.blanks = (r.regs.filter fun g => g.bl).map fun g => g.e
 e1 : ∀ g ∈ r.regs, (r.at_ : Int) < g.e → sget y.x.ends g.nm = some g.e
 e2 : ∀ n e, sget y.x.ends n = some e → (r.at_ : Int) < e → ∃ b, (⟨n, e, b⟩ : G) ∈ r.regs
 le : r.at_ ≤ r.s.length
 len : r.s.length ≤ 16384
theorem mem_rest {pos : Nat} {gs : List G} {g : G} : g ∈ restR pos gs ↔ g ∈ gs ∧ (pos : Int) < g.e := by
 unfold restR
 rw [List.mem_filter, decide_eq_true_iff]
/-- The value by which a token is replaced is the same. -/
theorem value_eq {r : R} {y : Y} (h : Sim r y) (l : List AL.Al) (kd pos : Nat) (tx : List UInt8) (hp : r.at_ ≤ pos) :
  value l (reach y.x pos).ends (reach y.x pos).cmd kd pos tx = valueR l (restR pos r.regs) (r.place || blankR pos r.regs) kd pos tx := by
 have hc : (reach y.x pos).cmd = (r.place || blankR pos r.regs) := by
  unfold reach
  dsimp only
  rw [h.cmd, h.blanks, hit_eq]
 have he : (reach y.x pos).ends = y.x.ends := rfl
 rw [hc, he]
 unfold value valueR
 generalize (r.place || blankR pos r.regs) = c
 cases c with
 | false => rw [if_pos rfl, if_neg (by simp)]
 | true =>
  rw [if_neg (by simp)]
  by_cases hk : kd = 1
  ·rw [if_neg (by simpa using hk)]
   have hact : activeR (restR pos r.regs) tx pos = true ↔ ∃ e, sget y.x.ends tx = some e ∧ (pos : Int) < e := by
    unfold activeR
    rw [List.any_eq_true]
    constructor
    ·rintro ⟨g, hg, h2⟩
     obtain ⟨h3, h4⟩ := mem_rest.1 hg
     have h5 : g.nm = tx := by simpa using (Bool.and_eq_true_iff.1 h2).1
     exact ⟨g.e, by rw [← h5]; exact h.e1 g h3 (by omega), h4⟩
    ·rintro ⟨e, h2, h3⟩
     obtain ⟨b, h4⟩ := h.e2 tx e h2 (by omega)
     exact ⟨⟨tx, e, b⟩, mem_rest.2 ⟨h4, h3⟩, by simp [h3]⟩
   by_cases ha : activeR (restR pos r.regs) tx pos = true
   ·rw [if_neg (by rw [ha]; simp)]
    obtain ⟨e, h2, h3⟩ := hact.1 ha
    rw [h2]
    dsimp only
    rw [if_pos h3]
   ·rw [if_pos ⟨rfl, hk, by simpa using ha⟩]
    cases hs : sget y.x.ends tx with
    | none => rfl
    | some e =>
     dsimp only
     rw [if_neg (fun h3 => ha (hact.2 ⟨e, hs, h3⟩))]
  ·rw [if_pos (by simpa using hk), if_neg (fun h2 => hk h2.2.1)]
theorem take_drop_len {s v : List UInt8} {p st : Nat} (h1 : p ≤ st) (h2 : st ≤ s.length) : (s.take p ++ v ++ s.drop st).length = p + v.length + (s.length - st) := by
 simp only [List.length_append, List.length_take, List.length_drop]
 omega
/-- A replacement keeps the states together. -/
theorem Sim.replace {r : R} {y : Y} (h : Sim r y) {l : List AL.Al} {pos st : Nat} {tx v : List UInt8} (hp : r.at_ ≤ pos) (h1 : pos < st) (h2 : st ≤ r.s.length) (hv : valueR l (restR pos r.regs) (r.place || blankR pos r.regs) 1 pos tx = some v) (hlen : ¬ 16384 < (r.s.take pos ++ v ++ r.s.drop st).length) :
  Sim ⟨r.s.take pos ++ v ++ r.s.drop st, pos, true, movedR (restR pos r.regs) ((v.length : Int) - ((st : Int) - pos)) ++ [⟨tx, (pos : Int) + v.length, AX.blank v⟩], r.heres, r.here⟩ ⟨AX.replace (reach y.x pos) pos st tx v, y.lines⟩ := by
 have hna : activeR (restR pos r.regs) tx pos = false := by
  unfold valueR at hv
  split at hv
  ·rename_i hc; exact hc.2.2
  ·cases hv
 have hl2 := take_drop_len (v := v) (Nat.le_of_lt h1) h2
 have hends : ∀ n, sget (AX.replace (reach y.x pos) pos st tx v).ends n = if tx = n then some ((pos : Int) + v.length) else (sget y.x.ends n).map fun e => if (pos : Int) < e then e + ((v.length : Int) - ((st : Int) - pos)) else e := fun n => by
  unfold AX.replace
  dsimp only
  rw [sget_sput, sget_moved]
  rfl
 have hno : ∀ g ∈ r.regs, (pos : Int) < g.e → ¬ g.nm = tx := fun g hg he hn => by
  have : activeR (restR pos r.regs) tx pos = true := by
   unfold activeR
   rw [List.any_eq_true]
   exact ⟨g, mem_rest.2 ⟨hg, he⟩, by simp [hn, he]⟩
  rw [this] at hna
  cases hna
 refine ⟨?_, rfl, rfl, ?_, h.here, h.strip, fun hh => Nat.le_trans (h.two hh) hp, ?_, ?_, ?_, ?_, Nat.le_of_not_lt hlen⟩
 ·unfold AX.replace reach
  dsimp only
  rw [h.s]
 ·rcases h.lines with h3 | h3
  ·omega
  ·exact .inr h3
 ·unfold AX.replace reach
  dsimp only
  rw [h.blanks, flt_eq, List.filter_append, List.map_append, moved_bl]
  congr 1
  cases hb : AX.blank v with
  | true => rfl
  | false => rfl
 ·intro g hg he
  dsimp only at he
  rw [hends]
  rcases List.mem_append.1 hg with hg | hg
  ·unfold movedR at hg
   obtain ⟨g0, hg0, rfl⟩ := List.mem_map.1 hg
   obtain ⟨h3, h4⟩ := mem_rest.1 hg0
   rw [if_neg (fun e => hno g0 h3 h4 e.symm), h.e1 g0 h3 (by omega)]
   dsimp only [Option.map_some]
   rw [if_pos h4]
  ·rw [List.mem_singleton] at hg
   subst hg
   rw [if_pos rfl]
 ·intro n e hs he
  dsimp only at he ⊢
  rw [hends] at hs
  by_cases hn : tx = n
  ·rw [if_pos hn] at hs
   injection hs with hs
   exact ⟨AX.blank v, List.mem_append.2 (.inr (by rw [List.mem_singleton, hn, hs]))⟩
  ·rw [if_neg hn] at hs
   cases h3 : sget y.x.ends n with
   | none => rw [h3] at hs; cases hs
   | some e0 =>
    rw [h3] at hs
    simp only [Option.map_some, Option.some.injEq] at hs
    by_cases h4 : (pos : Int) < e0
    ·rw [if_pos h4] at hs
     obtain ⟨b, h5⟩ := h.e2 n e0 h3 (by omega)
     refine ⟨b, List.mem_append.2 (.inl ?_)⟩
     unfold movedR
     exact List.mem_map.2 ⟨⟨n, e0, b⟩, mem_rest.2 ⟨h5, h4⟩, by rw [← hs]⟩
    ·rw [if_neg h4] at hs
     omega
 ·show pos ≤ (r.s.take pos ++ v ++ r.s.drop st).length
  omega
theorem intro_no (tx : List UInt8) (h : introB tx = true) : opensB tx = false ∧ ¬ tx = [10] := by
 unfold introB at h
 simp only [List.contains_eq_mem, List.mem_cons, List.not_mem_nil, or_false, decide_eq_true_eq] at h
 rcases h with h | h | h | h | h | h | h | h | h <;> subst h <;> exact ⟨by decide, by decide⟩
theorem opens1 {kd : Nat} (tx : List UInt8) (c : Bool) (h2 : ¬ kd = 2) (h3 : ¬ kd = 3) : opensR kd tx c = (c && kd == 1 && introB tx) := by
 have a1 : (kd == 2) = false := by simpa using h2
 have a2 : (kd == 3) = false := by simpa using h3
 unfold opensR
 by_cases ho : tx = [10] ∨ opensB tx = true
 ·rw [if_pos ho, a1, a2]
  cases hi : introB tx with
  | false => simp
  | true =>
   obtain ⟨h4, h5⟩ := intro_no tx hi
   rcases ho with ho | ho
   ·exact absurd ho h5
   ·rw [h4] at ho; cases ho
 ·rw [if_neg ho]
  cases hi : introB tx <;> simp
theorem opens2 (tx : List UInt8) (c : Bool) (h : ¬ tx = [10]) : opensR 2 tx c = opensB tx := by
 unfold opensR
 cases ho : opensB tx with
 | true => rw [if_pos (.inr rfl)]; rfl
 | false =>
  rw [if_neg (by simp [h])]
  split <;> simp
theorem opens3 (c : Bool) : opensR 3 [10] c = true := by unfold opensR; rw [if_pos (.inl rfl)]; rfl
variable {L L' : List UInt8 → Option (List UInt8)}
/-- The delimiters noted are the same, but for a token that is nearly the whole text. -/
theorem lines_eq (hL : ∀ t : List UInt8, t.length ≤ 16381 → L t = L' t) {r : R} {y : Y} (h : Sim r y) {kd : Nat} {tx : List UInt8} (hn : ¬ r.at_ = r.s.length) (ht : y.x.here = true → tx.length ≤ 16381) :
  linesOf L y.x.here y.x.strip y.lines kd tx = linesOf L' (!r.here.isEmpty) (r.here == [60, 60, 45]) r.heres kd tx := by
 have hl : y.lines = r.heres := h.lines.resolve_left hn
 unfold linesOf
 rw [← h.here, hl]
 by_cases hc : y.x.here = true ∧ kd = 1
 ·rw [if_pos hc, if_pos hc, hL tx (ht hc.1), h.strip hc.1]
 ·rw [if_neg hc, if_neg hc]
theorem restR_e1 {r : R} {y : Y} (h : Sim r y) {pos a : Nat} (hp : r.at_ ≤ pos) (ha : pos ≤ a) : (∀ g ∈ restR pos r.regs, (a : Int) < g.e → sget y.x.ends g.nm = some g.e) ∧ ∀ n e, sget y.x.ends n = some e → (a : Int) < e → ∃ b, (⟨n, e, b⟩ : G) ∈ restR pos r.regs :=
 ⟨fun g hg he => h.e1 g (mem_rest.1 hg).1 (by omega), fun n e hs he => by
  obtain ⟨b, hb⟩ := h.e2 n e hs (by omega)
  exact ⟨b, mem_rest.2 ⟨hb, by show (pos : Int) < e; omega⟩⟩⟩
theorem pass_ends (y : Y) (kd st : Nat) (tx : List UInt8) : (passY L y kd st tx).x.ends = y.x.ends ∧ (passY L y kd st tx).x.blanks = y.x.blanks ∧ (passY L y kd st tx).x.s = y.x.s := by
 unfold passY
 split
 ·exact ⟨rfl, rfl, rfl⟩
 split
 ·exact ⟨rfl, rfl, rfl⟩
 ·exact ⟨rfl, rfl, rfl⟩
/-- A token that is passed keeps the states together. -/
theorem sim_pass (hL : ∀ t : List UInt8, t.length ≤ 16381 → L t = L' t) {r : R} {y : Y} (h : Sim r y) {l : List AL.Al} {t : LX.Tok} (ht : LX.next r.s r.at_ = (t, 0)) (h5 : ¬ t.kind = 5) (hv : valueR l (restR t.pos r.regs) (r.place || blankR t.pos r.regs) t.kind t.pos t.text = none) :
  ∃ r', stepR L' l r t 0 = .go r' ∧ Sim r' (passY L ⟨reach y.x t.pos, y.lines⟩ t.kind t.stop t.text) := by
 obtain ⟨c1, c2, c3, c4, c5, c6⟩ := (LX.next_cases h.le ht).resolve_left h5
 have hlt : ¬ r.at_ = r.s.length := by omega
 have htl : t.text.length = t.stop - t.pos := by rw [c3, cut_length]; omega
 have hcmd : (reach y.x t.pos).cmd = (r.place || blankR t.pos r.regs) := by
  unfold reach
  dsimp only
  rw [h.cmd, h.blanks, hit_eq]
 have hbl : (reach y.x t.pos).blanks = ((restR t.pos r.regs).filter fun g => g.bl).map fun g => g.e := by
  unfold reach
  dsimp only
  rw [h.blanks, flt_eq]
 have hs : (reach y.x t.pos).s = r.s := h.s
 have hends : (reach y.x t.pos).ends = y.x.ends := rfl
 have hlines : t.stop = r.s.length ∨ linesOf L (reach y.x t.pos).here (reach y.x t.pos).strip y.lines t.kind t.text = linesOf L' (!r.here.isEmpty) (r.here == [60, 60, 45]) r.heres t.kind t.text := by
  by_cases hst : t.stop = r.s.length
  ·exact .inl hst
  ·refine .inr (lines_eq hL h hlt fun hh => ?_)
   have h2 := h.two hh
   have := h.len
   omega
 unfold stepR
 rw [if_neg (by simp), if_neg h5, hv]
 dsimp only
 by_cases h3 : t.kind = 3
 ·rw [if_pos h3]
  obtain ⟨c7, c8⟩ : bt r.s t.pos = 10 ∧ t.stop = t.pos + 1 := by
   rcases c6 with ⟨-, c7, c8⟩ | ⟨c7, -⟩ | ⟨c7, -⟩
   ·exact ⟨c7, c8⟩
   ·omega
   ·omega
  have htx : t.text = [10] := by
   rw [c3, c8, K.cut_one r.s t.pos c2, c7]
   rfl
  refine ⟨_, rfl, ?_⟩
  unfold passY
  rw [if_pos h3]
  have hg := skipL_good r.s (linesOf L' (!r.here.isEmpty) (r.here == [60, 60, 45]) r.heres t.kind t.text) t.stop c5
  have hat : skipL (reach y.x t.pos).s (linesOf L (reach y.x t.pos).here (reach y.x t.pos).strip y.lines t.kind t.text) t.stop = skipL r.s (linesOf L' (!r.here.isEmpty) (r.here == [60, 60, 45]) r.heres t.kind t.text) t.stop := by
   rw [hs]
   rcases hlines with e | e
   ·have g1 := skipL_good r.s (linesOf L (reach y.x t.pos).here (reach y.x t.pos).strip y.lines t.kind t.text) t.stop c5
    omega
   ·rw [e]
  have he := restR_e1 h c1 (show t.pos ≤ skipL r.s (linesOf L' (!r.here.isEmpty) (r.here == [60, 60, 45]) r.heres t.kind t.text) t.stop by omega)
  exact ⟨hs, hat, by rw [h3, htx, opens3], .inr rfl, rfl, fun e => (by cases e), fun e => (by cases e), hbl, he.1, he.2, hg.2, h.len⟩
 ·rw [if_neg h3]
  refine ⟨_, rfl, ?_⟩
  have he := restR_e1 h c1 (Nat.le_of_lt c4)
  by_cases h2 : t.kind = 2
  ·have hne : ¬ t.text = [10] := by
    intro e
    have c7 : ¬ bt r.s t.pos = 10 := by
     rcases c6 with ⟨c7, -⟩ | ⟨-, -, c7⟩ | ⟨c7, -⟩
     ·omega
     ·exact c7
     ·omega
    apply c7
    have := bt_cut r.s t.pos t.stop 0 (by omega)
    rw [← c3, e] at this
    exact this.symm
   unfold passY
   rw [if_neg h3, if_pos h2]
   refine ⟨hs, rfl, by rw [h2, opens2 _ _ hne], hlines, ?_, fun hh => ?_, fun hh => ?_, hbl, he.1, he.2, c5, h.len⟩
   ·dsimp only
    by_cases ho : t.text = [60, 60] ∨ t.text = [60, 60, 45]
    ·rw [if_pos ⟨h2, ho⟩]
     rcases ho with ho | ho <;> rw [ho] <;> rfl
    ·rw [if_neg (fun e => ho e.2)]
     have a1 : (t.text == [60, 60]) = false := by simpa using fun e => ho (.inl e)
     have a2 : (t.text == [60, 60, 45]) = false := by simpa using fun e => ho (.inr e)
     rw [a1, a2]; rfl
   ·dsimp only at hh ⊢
    have ho : t.text = [60, 60] ∨ t.text = [60, 60, 45] := by simpa using hh
    rw [if_pos ⟨h2, ho⟩]
   ·dsimp only at hh ⊢
    have ho : t.text = [60, 60] ∨ t.text = [60, 60, 45] := by simpa using hh
    have : 2 ≤ t.text.length := by rcases ho with ho | ho <;> rw [ho] <;> decide
    omega
  ·unfold passY
   rw [if_neg h3, if_neg h2]
   refine ⟨hs, rfl, ?_, hlines, ?_, fun hh => (by cases hh), fun hh => (by cases hh), hbl, he.1, he.2, c5, h.len⟩
   ·dsimp only
    rw [opens1 _ _ h2 h3, hcmd]
   ·rw [if_neg (fun e => h2 e.1)]; rfl
/-- What the program gives in n steps the specification gives. -/
theorem sim_run (hL : ∀ t : List UInt8, t.length ≤ 16381 → L t = L' t) (l : List AL.Al) : ∀ (n : Nat) (r : R) (y : Y), Sim r y → ∀ res, runY L l n y = some res → runR L' l n r = res
 | 0, _, _, _, _, h => by cases h
 | n + 1, r, y, h, res, hr => by
  rw [runY] at hr
  rw [runR]
  rw [h.s, h.at_] at hr
  obtain ⟨⟨t, e⟩, ht⟩ : ∃ q, LX.next r.s r.at_ = q := ⟨_, rfl⟩
  rw [ht] at hr ⊢
  dsimp only at hr ⊢
  by_cases he : e = 0
  ·subst he
   rw [if_neg (by simp)] at hr
   by_cases h5 : t.kind = 5
   ·rw [if_pos h5] at hr
    unfold stepR
    rw [if_neg (by simp), if_pos h5]
    injection hr with hr
   ·rw [if_neg h5] at hr
    obtain ⟨c1, c2, c3, c4, c5, c6⟩ := (LX.next_cases h.le ht).resolve_left h5
    rw [value_eq h l t.kind t.pos t.text c1] at hr
    cases hv : valueR l (restR t.pos r.regs) (r.place || blankR t.pos r.regs) t.kind t.pos t.text with
    | none =>
     rw [hv] at hr
     dsimp only at hr
     obtain ⟨r', h1, h2⟩ := sim_pass hL h ht h5 hv
     rw [h1]
     exact sim_run hL l n r' _ h2 res hr
    | some v =>
     rw [hv] at hr
     dsimp only at hr
     have hk : t.kind = 1 := by
      unfold valueR at hv
      split at hv
      ·rename_i hc; exact hc.2.1
      ·cases hv
     have hrs : (AX.replace (reach y.x t.pos) t.pos t.stop t.text v).s = r.s.take t.pos ++ v ++ r.s.drop t.stop := by
      unfold AX.replace reach
      dsimp only
      rw [h.s]
     rw [hrs] at hr
     unfold stepR
     rw [if_neg (by simp), if_neg h5, hv]
     dsimp only
     by_cases hlen : 16384 < (r.s.take t.pos ++ v ++ r.s.drop t.stop).length
     ·rw [if_pos hlen] at hr ⊢
      injection hr with hr
     ·rw [if_neg hlen] at hr ⊢
      rw [hk] at hv
      exact sim_run hL l n _ _ (h.replace c1 c4 c5 hv hlen) res hr
  ·rw [if_pos he] at hr
   unfold stepR
   rw [if_pos he]
   injection hr with hr
theorem sim_start {s : List UInt8} (h : s.length ≤ 16384) : Sim (startR s) (start s) :=
 ⟨rfl, rfl, rfl, .inr rfl, rfl, fun e => (by cases e), fun e => (by cases e), rfl, fun g hg => (by cases hg), fun n e hs => (by cases hs), Nat.zero_le _, h⟩
theorem expand_eq (hL : ∀ t : List UInt8, t.length ≤ 16381 → L t = L' t) {l : List AL.Al} {n : Nat} {s : List UInt8} {res : List UInt8 × Int} (h : expandY L l n s = some res) : expandR L' l n s = res := by
 unfold expandY at h
 unfold expandR
 by_cases hv : AL.valid l = 0
 ·rw [if_neg (by simpa using hv)] at h ⊢
  by_cases hl : 16384 < s.length
  ·rw [if_pos hl] at h ⊢; injection h with h
  ·rw [if_neg hl] at h ⊢
   exact sim_run hL l n _ _ (sim_start (by omega)) res h
 ·rw [if_pos (by simpa using hv)] at h ⊢; injection h with h
end AY
end Go.Proofs.YtcbdhheelddgeaaGreatDoor
namespace Go.Proofs.YtcbdhheelddgeaaGreatDoor
open K W AX
namespace AY
/-- An offset that is the end, or whose byte divides. -/
def Stop (s : List UInt8) (e : Nat) : Prop := e = s.length ∨ (e < s.length ∧ LX.divides (bt s e) = true)
structure Inv (y : Y) : Prop where
 le : y.x.at_ ≤ y.x.s.length
 len : y.x.s.length ≤ 16384
 stop : ∀ n e, sget y.x.ends n = some e → (y.x.at_ : Int) < e → ∃ k : Nat, e = (k : Int) ∧ Stop y.x.s k
def live (y : Y) (n : List UInt8) : Bool := match sget y.x.ends n with | some e => decide ((y.x.at_ : Int) < e) | none => false
def idle (l : List AL.Al) (y : Y) : Nat := l.countP fun a => !live y a.1
def cnt (l : List AL.Al) (y : Y) : Nat := if y.x.at_ < y.x.s.length ∧ LX.divides (bt y.x.s y.x.at_) = false then 1 + idle l y else 0
def mu (l : List AL.Al) (y : Y) : Nat := (16384 - y.x.at_) * 66 + cnt l y
theorem cnt_le {l : List AL.Al} (h : l.length ≤ 64) (y : Y) : cnt l y ≤ 65 := by
 unfold cnt
 split
 ·have : idle l y ≤ l.length := List.countP_le_length
  omega
 ·omega
theorem count_lt {α : Type} {p q : α → Bool} : ∀ {l : List α}, (∀ a ∈ l, p a = true → q a = true) → (∃ a ∈ l, q a = true ∧ p a = false) → l.countP p < l.countP q
 | [], _, ⟨_, h, _⟩ => by cases h
 | a :: r, h, ⟨b, hb, h1, h2⟩ => by
  have hr : ∀ c ∈ r, p c = true → q c = true := fun c hc => h c (List.mem_cons_of_mem _ hc)
  have hle : r.countP p ≤ r.countP q := List.countP_mono_left hr
  by_cases hpa : p a = true
  ·have hqa := h a List.mem_cons_self hpa
   rw [List.countP_cons_of_pos hpa, List.countP_cons_of_pos hqa]
   have : ∃ c ∈ r, q c = true ∧ p c = false := by
    rcases List.mem_cons.1 hb with rfl | hb
    ·rw [hpa] at h2; cases h2
    ·exact ⟨b, hb, h1, h2⟩
   have := count_lt hr this
   omega
  ·rw [List.countP_cons_of_neg hpa]
   by_cases hqa : q a = true
   ·rw [List.countP_cons_of_pos hqa]; omega
   ·rw [List.countP_cons_of_neg hqa]
    have : ∃ c ∈ r, q c = true ∧ p c = false := by
     rcases List.mem_cons.1 hb with rfl | hb
     ·exact absurd h1 hqa
     ·exact ⟨b, hb, h1, h2⟩
    exact count_lt hr this
theorem get_mem : ∀ {l : List AL.Al} {n v : List UInt8}, AL.get l n = some v → (n, v) ∈ l
 | [], _, _, h => by cases h
 | a :: r, n, v, h => by
  unfold AL.get at h
  by_cases ha : a.1 = n
  ·rw [if_pos ha] at h
   injection h with h
   exact List.mem_cons.2 (.inl (by rw [← ha, ← h]))
  ·rw [if_neg ha] at h
   exact List.mem_cons_of_mem _ (get_mem h)
theorem bt_app_r {a b : List UInt8} {k : Nat} : bt (a ++ b) (a.length + k) = bt b k := by
 unfold bt
 rw [List.getD_eq_getElem?_getD, List.getD_eq_getElem?_getD, List.getElem?_append_right (by omega), show a.length + k - a.length = k by omega]
/-- Behind a replaced token the bytes are moved. -/
theorem bt_moved {s v : List UInt8} {p st k : Nat} (h1 : p ≤ st) (h2 : st ≤ s.length) : bt (s.take p ++ v ++ s.drop st) (p + v.length + k) = bt s (st + k) := by
 have hl : (s.take p ++ v).length = p + v.length := by
  rw [List.length_append, List.length_take]; omega
 rw [← hl, bt_app_r, bt_drop]
theorem stop_moved {s v : List UInt8} {p st k : Nat} (h1 : p ≤ st) (h2 : st ≤ s.length) (h : Stop s (st + k)) : Stop (s.take p ++ v ++ s.drop st) (p + v.length + k) := by
 have hl := take_drop_len (v := v) h1 h2
 rcases h with h | ⟨h3, h4⟩
 ·exact .inl (by omega)
 ·exact .inr ⟨by omega, by rw [bt_moved h1 h2]; exact h4⟩
/-- The bytes of an alias's name do not divide. -/
theorem plain_bytes {tx : List UInt8} (h : P.plainB tx = true) {k : Nat} (hk : k < tx.length) : LX.divides (bt tx k) = false := by
 unfold P.plainB at h
 have h1 := (Bool.and_eq_true_iff.1 h).1
 rw [List.all_eq_true] at h1
 have h2 := h1 _ (List.getElem_mem hk)
 rw [bt_of _ _ hk]
 exact LX.plain_dv _ (UInt8.toNat_lt _) h2
section
variable {l : List AL.Al} {y : Y} {t : LX.Tok} {v : List UInt8}
theorem ends_rep (y : Y) (pos st : Nat) (tx v : List UInt8) (n : List UInt8) : sget (AX.replace (reach y.x pos) pos st tx v).ends n = if tx = n then some ((pos : Int) + v.length) else (sget y.x.ends n).map fun e => if (pos : Int) < e then e + ((v.length : Int) - ((st : Int) - pos)) else e := by
 unfold AX.replace
 dsimp only
 rw [sget_sput, sget_moved]
 rfl
theorem value_some (hv : value l (reach y.x t.pos).ends (reach y.x t.pos).cmd t.kind t.pos t.text = some v) : t.kind = 1 ∧ AL.get l t.text = some v ∧ ∀ e, sget y.x.ends t.text = some e → ¬ (t.pos : Int) < e := by
 unfold value at hv
 split at hv
 ·cases hv
 split at hv
 ·cases hv
 rename_i h2
 have hk : t.kind = 1 := by simpa using h2
 have he : (reach y.x t.pos).ends = y.x.ends := rfl
 rw [he] at hv
 cases hs : sget y.x.ends t.text with
 | none =>
  rw [hs] at hv
  exact ⟨hk, hv, fun e h => by cases h⟩
 | some e =>
  rw [hs] at hv
  dsimp only at hv
  split at hv
  ·cases hv
  ·rename_i h3
   exact ⟨hk, hv, fun e' h => by injection h with h; rw [← h]; exact h3⟩
/-- What a replaced token is. -/
theorem rep_facts (hi : Inv y) (hl : AL.valid l = 0) (ht : LX.next y.x.s y.x.at_ = (t, 0)) (h5 : ¬ t.kind = 5) (hv : value l (reach y.x t.pos).ends (reach y.x t.pos).cmd t.kind t.pos t.text = some v) :
  y.x.at_ ≤ t.pos ∧ t.pos < t.stop ∧ t.stop ≤ y.x.s.length ∧ Stop y.x.s t.stop ∧ LX.divides (bt y.x.s t.pos) = false ∧ (∀ n e, sget y.x.ends n = some e → (t.pos : Int) < e → ∃ k : Nat, e = ((t.stop + k : Nat) : Int) ∧ Stop y.x.s (t.stop + k)) := by
 obtain ⟨c1, c2, c3, c4, c5, c6⟩ := (LX.next_cases hi.le ht).resolve_left h5
 obtain ⟨hk, hg, -⟩ := value_some hv
 have hpl : P.plainB t.text = true := by
  have hm := ((AL.valid_zero l).1 hl).2.1 _ (get_mem hg)
  have h3 := hm.1
  unfold AL.named at h3
  exact (Bool.and_eq_true_iff.1 (Bool.and_eq_true_iff.1 h3).2).1
 obtain ⟨c7, c8, c9⟩ : LX.divides (bt y.x.s t.pos) = false ∧ t.stop = (LX.wordEnd y.x.s t.pos).1 ∧ (LX.wordEnd y.x.s t.pos).2 = 0 := by
  rcases c6 with ⟨h, -⟩ | ⟨h, -⟩ | ⟨-, h⟩
  ·omega
  ·omega
  ·exact h
 have hst : Stop y.x.s t.stop := by
  have := LX.word_stop (y.x.s.length + 1) y.x.s t.pos (Nat.le_of_lt c2) (by omega) c9
  rcases this with h | h
  ·exact .inl (c8.trans h)
  ·by_cases h2 : t.stop = y.x.s.length
   ·exact .inl h2
   ·exact .inr ⟨by omega, by rw [c8]; exact h⟩
 refine ⟨c1, c4, c5, hst, c7, fun n e hs he => ?_⟩
 obtain ⟨k, rfl, hk2⟩ := hi.stop n e hs (by omega)
 have hge : t.stop ≤ k := by
  rcases Nat.lt_or_ge k t.stop with h | h
  ·exfalso
   have hk3 : LX.divides (bt y.x.s k) = true := by
    rcases hk2 with h2 | h2
    ·omega
    ·exact h2.2
   have hlen : t.text.length = t.stop - t.pos := by rw [c3, cut_length]; omega
   have := plain_bytes hpl (k := k - t.pos) (by omega)
   rw [c3, bt_cut _ _ _ _ (by omega), show t.pos + (k - t.pos) = k by omega, hk3] at this
   cases this
  ·exact h
 exact ⟨k - t.stop, by congr 1; omega, by rw [show t.stop + (k - t.stop) = k by omega]; exact hk2⟩
theorem inv_rep (hi : Inv y) (hl : AL.valid l = 0) (ht : LX.next y.x.s y.x.at_ = (t, 0)) (h5 : ¬ t.kind = 5) (hv : value l (reach y.x t.pos).ends (reach y.x t.pos).cmd t.kind t.pos t.text = some v) (hlen : ¬ 16384 < (AX.replace (reach y.x t.pos) t.pos t.stop t.text v).s.length) (ls : List D) :
  Inv ⟨AX.replace (reach y.x t.pos) t.pos t.stop t.text v, ls⟩ := by
 obtain ⟨c1, c2, c3, c4, c5, c6⟩ := rep_facts hi hl ht h5 hv
 have hs : (AX.replace (reach y.x t.pos) t.pos t.stop t.text v).s = y.x.s.take t.pos ++ v ++ y.x.s.drop t.stop := rfl
 have hll := take_drop_len (v := v) (Nat.le_of_lt c2) c3
 refine ⟨?_, Nat.le_of_not_lt hlen, fun n e hse hlt => ?_⟩
 ·show t.pos ≤ (AX.replace (reach y.x t.pos) t.pos t.stop t.text v).s.length
  rw [hs]; omega
 ·have hlt' : (t.pos : Int) < e := hlt
  show ∃ k : Nat, e = (k : Int) ∧ Stop (AX.replace (reach y.x t.pos) t.pos t.stop t.text v).s k
  rw [hs]
  have hse' : sget (AX.replace (reach y.x t.pos) t.pos t.stop t.text v).ends n = some e := hse
  rw [ends_rep] at hse'
  by_cases hn : t.text = n
  ·rw [if_pos hn] at hse'
   injection hse' with hse'
   exact ⟨t.pos + v.length, by omega, by have := stop_moved (v := v) (k := 0) (Nat.le_of_lt c2) c3 c4; exact this⟩
  ·rw [if_neg hn] at hse'
   cases h3 : sget y.x.ends n with
   | none => rw [h3] at hse'; cases hse'
   | some e0 =>
    rw [h3] at hse'
    simp only [Option.map_some, Option.some.injEq] at hse'
    by_cases h4 : (t.pos : Int) < e0
    ·rw [if_pos h4] at hse'
     obtain ⟨k, h6, h7⟩ := c6 n e0 h3 h4
     exact ⟨t.pos + v.length + k, by omega, stop_moved (Nat.le_of_lt c2) c3 h7⟩
    ·rw [if_neg h4] at hse'
     omega
theorem mu_rep (hi : Inv y) (hl : AL.valid l = 0) (ht : LX.next y.x.s y.x.at_ = (t, 0)) (h5 : ¬ t.kind = 5) (hv : value l (reach y.x t.pos).ends (reach y.x t.pos).cmd t.kind t.pos t.text = some v) (ls : List D) :
  mu l ⟨AX.replace (reach y.x t.pos) t.pos t.stop t.text v, ls⟩ < mu l y := by
 obtain ⟨c1, c2, c3, c4, c5, c6⟩ := rep_facts hi hl ht h5 hv
 obtain ⟨hk, hg, hna⟩ := value_some hv
 have hs : (AX.replace (reach y.x t.pos) t.pos t.stop t.text v).s = y.x.s.take t.pos ++ v ++ y.x.s.drop t.stop := rfl
 have hll := take_drop_len (v := v) (Nat.le_of_lt c2) c3
 have hle := hi.len
 have h64 := ((AL.valid_zero l).1 hl).1
 have hc := cnt_le h64 ⟨AX.replace (reach y.x t.pos) t.pos t.stop t.text v, ls⟩
 unfold mu
 show (16384 - t.pos) * 66 + _ < _
 by_cases hp : y.x.at_ = t.pos
 ·have hcy : cnt l y = 1 + idle l y := by
   unfold cnt
   rw [if_pos ⟨by omega, by rw [hp]; exact c5⟩]
  rw [hcy, hp]
  refine Nat.add_lt_add_left ?_ _
  by_cases hv0 : v = []
  ·have : cnt l ⟨AX.replace (reach y.x t.pos) t.pos t.stop t.text v, ls⟩ = 0 := by
    unfold cnt
    rw [if_neg]
    rintro ⟨h1, h2⟩
    have h1' : t.pos < (y.x.s.take t.pos ++ v ++ y.x.s.drop t.stop).length := h1
    have h2' : LX.divides (bt (y.x.s.take t.pos ++ v ++ y.x.s.drop t.stop) t.pos) = false := h2
    have h3 : Stop (y.x.s.take t.pos ++ v ++ y.x.s.drop t.stop) (t.pos + v.length + 0) := stop_moved (Nat.le_of_lt c2) c3 c4
    rw [hv0] at h1' h2' h3
    rcases h3 with h3 | h3
    ·simp only [List.length_nil, Nat.add_zero] at h3; omega
    ·have h4 := h3.2
     simp only [List.length_nil, Nat.add_zero] at h4
     rw [h2'] at h4
     cases h4
   rw [this]; omega
  ·have hvl : 0 < v.length := List.length_pos_iff.2 hv0
   have hlt : idle l ⟨AX.replace (reach y.x t.pos) t.pos t.stop t.text v, ls⟩ < idle l y := by
    unfold idle
    refine count_lt (fun a _ ha => ?_) ⟨(t.text, v), get_mem hg, ?_, ?_⟩
    ·rw [Bool.not_eq_true'] at ha ⊢
     unfold live at ha ⊢
     have hr := ends_rep y t.pos t.stop t.text v a.1
     cases h3 : sget y.x.ends a.1 with
     | none => rfl
     | some e0 =>
      dsimp only
      refine decide_eq_false fun h4 => ?_
      have hpe : (t.pos : Int) < e0 := by omega
      have hn : ¬ t.text = a.1 := fun e => hna e0 (by rw [e]; exact h3) hpe
      rw [if_neg hn, h3] at hr
      simp only [Option.map_some] at hr
      rw [if_pos hpe] at hr
      have ha' : (match sget (AX.replace (reach y.x t.pos) t.pos t.stop t.text v).ends a.1 with | some e => decide ((t.pos : Int) < e) | none => false) = false := ha
      rw [hr] at ha'
      dsimp only at ha'
      obtain ⟨k, h6, -⟩ := c6 a.1 e0 h3 hpe
      have := of_decide_eq_false ha'
      omega
    ·dsimp only
     rw [Bool.not_eq_true']
     unfold live
     cases h3 : sget y.x.ends t.text with
     | none => rfl
     | some e0 =>
      dsimp only
      exact decide_eq_false fun h4 => hna e0 h3 (by omega)
    ·dsimp only
     rw [Bool.not_eq_false']
     have hr := ends_rep y t.pos t.stop t.text v t.text
     rw [if_pos rfl] at hr
     show (match sget (AX.replace (reach y.x t.pos) t.pos t.stop t.text v).ends t.text with | some e => decide ((t.pos : Int) < e) | none => false) = true
     rw [hr]
     dsimp only
     exact decide_eq_true (by omega)
   unfold cnt
   split
   ·omega
   ·omega
 ·have : (16384 - t.pos) * 66 + 66 ≤ (16384 - y.x.at_) * 66 := by omega
  omega
theorem inv_pass {L : List UInt8 → Option (List UInt8)} (hi : Inv y) (ht : LX.next y.x.s y.x.at_ = (t, 0)) (h5 : ¬ t.kind = 5) :
  Inv (passY L ⟨reach y.x t.pos, y.lines⟩ t.kind t.stop t.text) ∧ mu l y > (16384 - (passY L ⟨reach y.x t.pos, y.lines⟩ t.kind t.stop t.text).x.at_) * 66 + 65 := by
 obtain ⟨c1, c2, c3, c4, c5, c6⟩ := (LX.next_cases hi.le ht).resolve_left h5
 obtain ⟨p1, -, p3⟩ := pass_ends (L := L) ⟨reach y.x t.pos, y.lines⟩ t.kind t.stop t.text
 have hat : t.stop ≤ (passY L ⟨reach y.x t.pos, y.lines⟩ t.kind t.stop t.text).x.at_ ∧ (passY L ⟨reach y.x t.pos, y.lines⟩ t.kind t.stop t.text).x.at_ ≤ y.x.s.length := by
  unfold passY
  split
  ·exact skipL_good y.x.s _ t.stop c5
  split
  ·exact ⟨Nat.le_refl _, c5⟩
  ·exact ⟨Nat.le_refl _, c5⟩
 have hs : (passY L ⟨reach y.x t.pos, y.lines⟩ t.kind t.stop t.text).x.s = y.x.s := p3
 have he : (passY L ⟨reach y.x t.pos, y.lines⟩ t.kind t.stop t.text).x.ends = y.x.ends := p1
 have hlen := hi.len
 refine ⟨⟨by rw [hs]; exact hat.2, by rw [hs]; exact hlen, fun n e hse hlt => ?_⟩, ?_⟩
 ·rw [he] at hse
  rw [hs]
  exact hi.stop n e hse (by omega)
 ·unfold mu
  omega
end
/-- The program's Expand ends within mu steps. -/
theorem run_some (L : List UInt8 → Option (List UInt8)) {l : List AL.Al} (hl : AL.valid l = 0) : ∀ (f : Nat) (y : Y), Inv y → mu l y < f → ∃ res, runY L l f y = some res
 | 0, _, _, h => absurd h (Nat.not_lt_zero _)
 | f + 1, y, hi, hf => by
  rw [runY]
  obtain ⟨⟨t, e⟩, ht⟩ : ∃ q, LX.next y.x.s y.x.at_ = q := ⟨_, rfl⟩
  rw [ht]
  dsimp only
  by_cases he : e = 0
  ·subst he
   rw [if_neg (by simp)]
   by_cases h5 : t.kind = 5
   ·rw [if_pos h5]; exact ⟨_, rfl⟩
   ·rw [if_neg h5]
    cases hv : value l (reach y.x t.pos).ends (reach y.x t.pos).cmd t.kind t.pos t.text with
    | none =>
     dsimp only
     obtain ⟨h1, h2⟩ := inv_pass (L := L) (l := l) hi ht h5
     refine run_some L hl f _ h1 ?_
     have hc := cnt_le ((AL.valid_zero l).1 hl).1 (passY L ⟨reach y.x t.pos, y.lines⟩ t.kind t.stop t.text)
     unfold mu at h2 hf ⊢
     omega
    | some v =>
     dsimp only
     by_cases hlen : 16384 < (AX.replace (reach y.x t.pos) t.pos t.stop t.text v).s.length
     ·rw [if_pos hlen]; exact ⟨_, rfl⟩
     ·rw [if_neg hlen]
      have := mu_rep hi hl ht h5 hv y.lines
      exact run_some L hl f _ (inv_rep hi hl ht h5 hv hlen y.lines) (by omega)
  ·rw [if_pos he]; exact ⟨_, rfl⟩
theorem expand_some (L : List UInt8 → Option (List UInt8)) (l : List AL.Al) {n : Nat} (hn : 1081500 ≤ n) (s : List UInt8) : ∃ res, expandY L l n s = some res := by
 unfold expandY
 by_cases hv : AL.valid l = 0
 ·rw [if_neg (by simpa using hv)]
  by_cases hl : 16384 < s.length
  ·rw [if_pos hl]; exact ⟨_, rfl⟩
  ·rw [if_neg hl]
   refine run_some L hv n _ ⟨Nat.zero_le _, Nat.le_of_not_lt hl, fun n e h => by cases h⟩ ?_
   have hc := cnt_le ((AL.valid_zero l).1 hv).1 (start s)
   unfold mu
   show (16384 - 0) * 66 + _ < n
   omega
 ·rw [if_pos (by simpa using hv)]; exact ⟨_, rfl⟩
end AY
end Go.Proofs.YtcbdhheelddgeaaGreatDoor
namespace Go.Proofs.YtcbdhheelddgeaaGreatDoor
open K W AX
namespace AY
theorem index_one (c : UInt8) : ∀ l : List UInt8, Lib.index l [c] = match l.findIdx? (· == c) with | none => -1 | some n => (n : Int)
 | [] => rfl
 | b :: l => by
  have ih := index_one c l
  rw [Lib.index, List.findIdx?_cons]
  by_cases h : b = c
  ·subst h
   simp [List.isPrefixOf]
  ·have h1 : ([c].isPrefixOf (b :: l)) = false := by simp [List.isPrefixOf]; exact fun e => h e.symm
   have h2 : (b == c) = false := by simpa using h
   rw [h1, h2, ih]
   cases l.findIdx? (· == c) with
   | none => rfl
   | some n =>
    simp only [Option.map_some]
    have : (((n : Int) == -1) : Bool) = false := by rw [beq_eq_false_iff_ne]; omega
    rw [this]
    simp
theorem line_cut (s : List UInt8) (a : Nat) : (Lib.cut (cut s a s.length) [10]).1 = cut s a (LX.comment s a) := by
 rw [cut_end]
 unfold Lib.cut LX.comment LX.find
 rw [index_one]
 cases h : (s.drop a).findIdx? (· == 10) with
 | none =>
  dsimp only
  rw [if_neg (by decide), cut_end]
 | some n =>
  dsimp only
  rw [if_pos (Int.natCast_nonneg n)]
  dsimp only
  unfold cut
  rw [List.drop_take, Int.toNat_natCast, show a + n - a = n by omega]
theorem find1_more : ∀ (f g : Nat) (s : List UInt8) (d : D) (a : Nat), s.length - a + 1 ≤ f → s.length - a + 1 ≤ g → find1 f s d a = find1 g s d a
 | 0, _, _, _, _, h, _ => absurd h (by omega)
 | _ + 1, 0, _, _, _, _, h => absurd h (by omega)
 | f + 1, g + 1, s, d, a, h1, h2 => by
  rw [find1, find1]
  by_cases hl : a < s.length
  ·rw [if_pos hl, if_pos hl]
   have h3 := comment_ge hl
   rw [find1_more f g s d (min (LX.comment s a + 1) s.length) (by omega) (by omega)]
  ·rw [if_neg hl, if_neg hl]
/-- Behind the contents of one here-document. -/
def F (s : List UInt8) (d : D) (a : Nat) : Nat := find1 (s.length + 1) s d a
theorem F_end {s : List UInt8} {d : D} {a : Nat} (h : ¬ a < s.length) : F s d a = a := by unfold F; rw [find1, if_neg h]
theorem F_line {s : List UInt8} {d : D} {a a3 : Nat} {ln : List UInt8} (h : a < s.length) (hln : (Lib.cut (cut s a s.length) [10]).1 = ln) (ha3 : a3 = min (a + ln.length + 1) s.length) : F s d a = if (if d.2 = true then Lib.trimLeftB ln 9 else ln) = d.1 then a3 else F s d a3 := by
 have h1 := comment_ge h
 have h2 := LX.comment_le s a
 rw [line_cut] at hln
 have hll : ln.length = LX.comment s a - a := by rw [← hln, cut_length]; omega
 have h3 : a3 = min (LX.comment s a + 1) s.length := by omega
 unfold F
 rw [find1, if_pos h, hln, ← h3, find1_more s.length (s.length + 1) s d a3 (by omega) (by omega)]
 rfl
theorem skipL_step {s : List UInt8} {ls : List D} {k a : Nat} {d : D} (h : ls[k]? = some d) : skipL s (ls.drop k) a = skipL s (ls.drop (k + 1)) (F s d a) := by
 obtain ⟨hk, he⟩ := List.getElem?_eq_some_iff.1 h
 rw [List.drop_eq_getElem_cons hk, he]
 rfl
theorem skipL_end {s : List UInt8} {ls : List D} {k a : Nat} (h : ¬ k < ls.length) : skipL s (ls.drop k) a = a := by
 rw [List.drop_eq_nil_of_le (by omega)]
 rfl
end AY
end Go.Proofs.YtcbdhheelddgeaaGreatDoor
namespace Go.Proofs.YtcbdhheelddgeaaGreatDoor
open K W AX
namespace AY
def litP (tx : List UInt8) : Option (List UInt8) := match WP.parse tx 0 with | .error _ => none | .ok qs => WP.glit (WP.gpL qs)
def litK (kd : Nat) (tx : List UInt8) : Option (List UInt8) := if kd = 1 then litP tx else none
theorem lines_no {st : Bool} {ls : List D} {kd : Nat} {tx : List UInt8} : linesOf litP false st ls kd tx = ls := by unfold linesOf; rw [if_neg (by simp)]
theorem lines_none {st : Bool} {ls : List D} {kd : Nat} {tx : List UInt8} (h : litK kd tx = none) : linesOf litP true st ls kd tx = ls := by
 unfold linesOf
 unfold litK at h
 by_cases hk : kd = 1
 ·rw [if_pos hk] at h; rw [if_pos ⟨rfl, hk⟩, h]
 ·rw [if_neg (fun e => hk e.2)]
theorem lines_some {st : Bool} {ls : List D} {kd : Nat} {tx u : List UInt8} (h : litK kd tx = some u) : linesOf litP true st ls kd tx = ls ++ [(u, st)] := by
 unfold linesOf
 unfold litK at h
 by_cases hk : kd = 1
 ·rw [if_pos hk] at h; rw [if_pos ⟨rfl, hk⟩, h]
 ·rw [if_neg hk] at h; cases h
theorem lines_len {L : List UInt8 → Option (List UInt8)} {h st : Bool} {ls : List D} {kd : Nat} {tx : List UInt8} : (linesOf L h st ls kd tx).length ≤ ls.length + 1 := by
 unfold linesOf
 split
 ·split
  ·simp
  ·omega
 ·omega
end AY
end Go.Proofs.YtcbdhheelddgeaaGreatDoor
