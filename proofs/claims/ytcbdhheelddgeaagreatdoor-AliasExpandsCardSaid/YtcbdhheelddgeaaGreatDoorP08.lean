/- Chapter 8 in plain Lean: words and their parts. -/
import Derived.Test.YtcbdhheelddgeaaGreatDoorP07b
namespace Go.Proofs.YtcbdhheelddgeaaGreatDoor
open K
namespace WP
abbrev Str := List UInt8
inductive Part where
  | mk (kind : Nat) (text : Str) (op : Nat) (colon : Bool) (parts : List Part)
/-- An error at an offset. -/
abbrev Flt := Int × Int
/-- What does not change within a sequence of parts. -/
structure Ctx where
  s : Str
  pl : Nat
  op : Bool
  lv : Nat
  opn : Int
/-- A sequence of parts that is being read. -/
structure St where
  a : Nat
  dep : Nat
  tx : Str
  ls : List Part
def flush (st : St) : St := if st.tx = [] then st else { st with tx := [], ls := st.ls ++ [.mk 1 st.tx 0 false []] }
def add (p : Part) (k : Nat) (st : St) : St := { flush st with ls := (flush st).ls ++ [p], a := k }
def lit (c : UInt8) (m : Nat) (st : St) : St := { st with tx := st.tx ++ [c], a := st.a + m }
def ended (c : Ctx) (st : St) : Except Flt Bool :=
  if st.a = c.s.length then (if 0 ≤ c.opn then .error (c.opn, 7) else .ok true)
  else if c.op = true then .ok (decide (bt c.s st.a = 125))
  else if c.pl = 1 then .ok (decide (bt c.s st.a = 34))
  else if c.pl = 2 ∧ bt c.s st.a = 41 ∧ st.dep = 0 then
    (if st.a + 1 = c.s.length then .error (c.opn, 7) else if bt c.s (st.a + 1) = 41 then .ok true else .error (st.a, 6))
  else .ok false
def escapes (pl : Nat) (c : Int) (op : Bool) : Bool :=
  if c = 36 ∨ c = 96 ∨ c = 92 then decide (pl ≠ 0) else if c = 34 then decide (pl = 1) else if c = 125 then decide (pl ≠ 0) && op else false
def strip : Nat → Str → Str
  | 0, l => l
  | f + 1, l => if Lib.hasPrefix l [92, 10] = true then strip f (l.drop 2) else l
def tildeAt (s : Str) (a : Nat) (op : Bool) : Bool :=
  decide (strip s.length (s.drop (a + 1)) = []) || decide (bt (strip s.length (s.drop (a + 1))) 0 = 47) || (op && decide (bt (strip s.length (s.drop (a + 1))) 0 = 125))
def tilde (c : Ctx) (st : St) : Bool := decide (st.ls = [] ∧ st.tx = []) && tildeAt c.s st.a c.op
def cls (s : Str) (a : Nat) : Except Flt Nat := if (LX.close s a).2 = 0 then .ok (LX.close s a).1 else .error ((LX.close s a).1, (LX.close s a).2)
def unq : Str → Str
  | [] => []
  | [x] => [x]
  | x :: y :: r => if x = 92 ∧ (y = 96 ∨ y = 92 ∨ y = 36) then y :: unq r else x :: unq (y :: r)
def subst (t : Str) : Bool := decide (LX.close (36 :: 40 :: (t ++ [41])) 0 = (t.length + 3, 0))
def bqText (t : Str) : Str := if Lib.hasPrefix t [40] = true then 32 :: t else t
def backquoted (c : Ctx) (st : St) : Except Flt St :=
  match cls c.s st.a with
  | .error e => .error e
  | .ok e =>
    if subst (bqText (unq (cut c.s (st.a + 1) (e - 1)))) = true then .ok (add (.mk 5 (bqText (unq (cut c.s (st.a + 1) (e - 1)))) 0 false []) e st)
    else if subst (bqText (unq (cut c.s (st.a + 1) (e - 1))) ++ [10]) = true then .ok (add (.mk 5 (bqText (unq (cut c.s (st.a + 1) (e - 1))) ++ [10]) 0 false []) e st)
    else .error (st.a, 6)
def backslash (c : Ctx) (st : St) : Except Flt St :=
  if st.a + 1 = c.s.length then (if c.pl = 3 ∧ c.op = false then .ok (lit 92 1 st) else .error (st.a, 7))
  else if bt c.s (st.a + 1) = 10 then .ok { st with a := st.a + 2 }
  else if c.pl = 0 then .ok (add (.mk 2 (cut c.s (st.a + 1) (st.a + 2)) 0 false []) (st.a + 2) st)
  else if escapes c.pl (bt c.s (st.a + 1)) c.op = true then .ok (lit (by8 (bt c.s (st.a + 1))) 2 st)
  else if c.pl = 2 ∧ c.op = false ∧ (bt c.s (st.a + 1) = 40 ∨ bt c.s (st.a + 1) = 41) then .error (st.a, 6)
  else .ok (lit (by8 (bt c.s (st.a + 1))) 1 (lit 92 1 st))
/-- The special parameters with one byte, and 0. -/
def one8 (c : Int) : Bool := decide (0 ≤ Lib.indexByte [64, 42, 35, 63, 45, 36, 33, 48] c.toNat.toUInt8)
def numLen : Str → Int → Nat
  | [], _ => 0
  | c :: r, n => if LX.digit c.toNat = true ∧ 10 * n + ((c.toNat : Int) - 48) ≤ 2147483647 then 1 + numLen r (10 * n + ((c.toNat : Int) - 48)) else 0
def parameter (s : Str) (i : Nat) : Nat :=
  if i = s.length then i
  else if one8 (bt s i) = true then i + 1
  else if LX.digit (bt s i) = true then i + numLen (s.drop i) 0
  else if LX.starts (bt s i) = true then LX.nameEnd s i
  else i
def tooLong (s : Str) (i e : Nat) : Bool := LX.starts (bt s i) && decide (32 < e - i)
def operator (t : Str) (colon : Bool) : Nat × Nat :=
  if t = [] then (0, 0)
  else if bt t 0 = 45 then (1, 1)
  else if bt t 0 = 61 then (2, 1)
  else if bt t 0 = 63 then (3, 1)
  else if bt t 0 = 43 then (4, 1)
  else if colon = true then (0, 0)
  else if Lib.hasPrefix t [37, 37] = true then (7, 2)
  else if Lib.hasPrefix t [35, 35] = true then (9, 2)
  else if bt t 0 = 37 then (6, 1)
  else if bt t 0 = 35 then (8, 1)
  else (0, 0)
def reject (c : Ctx) (st : St) (i : Nat) : Flt := if i = c.s.length then (st.a, 7) else (i, 6)
/-- What reads the parts of a construct: it gives them and the offset of what ends them. -/
abbrev Nest := Ctx → Nat → Except Flt (List Part × Nat)
/-- The first stage of a braced parameter: a length, or nothing. -/
def braced1 (c : Ctx) (st : St) : Except Flt (Option (Part × Nat)) :=
  if st.a + 2 < c.s.length ∧ bt c.s (st.a + 2) = 35 ∧ st.a + 3 < parameter c.s (st.a + 3) then
    if tooLong c.s (st.a + 3) (parameter c.s (st.a + 3)) = true then .error ((st.a + 3 : Nat), 3)
    else if parameter c.s (st.a + 3) = c.s.length then .error (st.a, 7)
    else if bt c.s (parameter c.s (st.a + 3)) = 125 then .ok (some (.mk 4 (cut c.s (st.a + 3) (parameter c.s (st.a + 3))) 5 false [], parameter c.s (st.a + 3) + 1))
    else if (operator (c.s.drop (st.a + 3)) false).2 = 0 then .error (parameter c.s (st.a + 3), 6)
    else .ok none
  else .ok none
def braced3 (N : Nest) (c : Ctx) (st : St) (e k o z : Nat) (colon : Bool) : Except Flt (Part × Nat) :=
  if z = 0 then .error (reject c st k)
  else if c.lv = 32 then .error (e, 5)
  else if Lib.hasPrefix (c.s.drop (k + z)) [92, 10] = true then .error ((k + z : Nat), 6)
  else match N ⟨c.s, c.pl, true, c.lv + 1, st.a⟩ (k + z) with
    | .error x => .error x
    | .ok (ps, j) => .ok (.mk 4 (cut c.s (st.a + 2) e) o colon ps, j + 1)
def braced2 (N : Nest) (c : Ctx) (st : St) (e : Nat) : Except Flt (Part × Nat) :=
  if e = st.a + 2 then .error (reject c st e)
  else if tooLong c.s (st.a + 2) e = true then .error ((st.a + 2 : Nat), 3)
  else if Lib.hasPrefix (c.s.drop e) [125] = true then .ok (.mk 4 (cut c.s (st.a + 2) e) 0 false [], e + 1)
  else if Lib.hasPrefix (c.s.drop e) [58] = true then braced3 N c st e (e + 1) (operator (c.s.drop (e + 1)) true).1 (operator (c.s.drop (e + 1)) true).2 true
  else braced3 N c st e e (operator (c.s.drop e) false).1 (operator (c.s.drop e) false).2 false
def braced (N : Nest) (c : Ctx) (st : St) : Except Flt (Part × Nat) :=
  match braced1 c st with
  | .error x => .error x
  | .ok (some r) => .ok r
  | .ok none => braced2 N c st (parameter c.s (st.a + 2))
def dollar (N : Nest) (c : Ctx) (st : St) : Except Flt St :=
  if Lib.hasPrefix (c.s.drop (st.a + 1)) [40, 40] = true then
    if c.lv = 32 then .error (st.a, 5)
    else match N ⟨c.s, 2, false, c.lv + 1, st.a⟩ (st.a + 3) with
      | .error x => .error x
      | .ok (ps, e) => .ok (add (.mk 6 [] 0 false ps) (e + 2) st)
  else if Lib.hasPrefix (c.s.drop (st.a + 1)) [40] = true then
    match cls c.s st.a with
    | .error x => .error x
    | .ok e => .ok (add (.mk 5 (cut c.s (st.a + 2) (e - 1)) 0 false []) e st)
  else if Lib.hasPrefix (c.s.drop (st.a + 1)) [123] = true then
    match braced N c st with
    | .error x => .error x
    | .ok (p, e) => .ok (add p e st)
  else if st.a + 1 < c.s.length ∧ LX.digit (bt c.s (st.a + 1)) = true then .ok (add (.mk 4 (cut c.s (st.a + 1) (st.a + 2)) 0 false []) (st.a + 2) st)
  else if st.a + 1 < parameter c.s (st.a + 1) then
    if tooLong c.s (st.a + 1) (parameter c.s (st.a + 1)) = true then .error (st.a, 3)
    else .ok (add (.mk 4 (cut c.s (st.a + 1) (parameter c.s (st.a + 1))) 0 false []) (parameter c.s (st.a + 1)) st)
  else if c.pl = 0 ∧ (Lib.hasPrefix (c.s.drop (st.a + 1)) [96] = true ∨ Lib.hasPrefix (c.s.drop (st.a + 1)) [92, 10] = true) then .error (st.a, 6)
  else .ok (lit 36 1 st)
def unquoted (N : Nest) (c : Ctx) (st : St) : Except Flt St :=
  if bt c.s st.a = 39 then
    match cls c.s st.a with
    | .error x => .error x
    | .ok e => .ok (add (.mk 2 (cut c.s (st.a + 1) (e - 1)) 0 false []) e st)
  else if bt c.s st.a = 34 then
    if c.lv = 32 then .error (st.a, 5)
    else match N ⟨c.s, 1, false, c.lv + 1, st.a⟩ (st.a + 1) with
      | .error x => .error x
      | .ok (ps, e) => .ok (add (.mk 3 [] 0 false ps) (e + 1) st)
  else if LX.divides (bt c.s st.a) = true then (if c.op = true then .ok (lit (by8 (bt c.s st.a)) 1 st) else .error (st.a, 6))
  else if bt c.s st.a = 126 ∧ tilde c st = true then .ok (add (.mk 7 [] 0 false []) (st.a + 1) st)
  else .ok (lit (by8 (bt c.s st.a)) 1 st)
/-- The count of open parentheses behind a byte. -/
def depth (c : Ctx) (st : St) : Nat :=
  if c.pl = 2 ∧ c.op = false then (if bt c.s st.a = 40 then st.dep + 1 else if bt c.s st.a = 41 then st.dep - 1 else st.dep) else st.dep
def next (N : Nest) (c : Ctx) (st : St) : Except Flt St :=
  if bt c.s st.a = 92 then backslash c st
  else if bt c.s st.a = 36 then dollar N c st
  else if bt c.s st.a = 96 then backquoted c st
  else if c.pl = 0 then unquoted N c st
  else if bt c.s st.a = 34 ∧ c.pl = 1 then .error (st.a, 6)
  else .ok (lit (by8 (bt c.s st.a)) 1 { st with dep := depth c st })
/-- The parts of a sequence, to what ends them. -/
def run : Nat → Ctx → St → Except Flt St
  | 0, _, st => .error (st.a, 0)
  | f + 1, c, st =>
    match ended c st with
    | .error x => .error x
    | .ok true => .ok (flush st)
    | .ok false =>
      match next (fun c' k => match run f c' ⟨k, 0, [], []⟩ with | .error x => .error x | .ok y => .ok (y.ls, y.a)) c st with
      | .error x => .error x
      | .ok st' => run f c st'
def nest (f : Nat) : Nest := fun c' k => match run f c' ⟨k, 0, [], []⟩ with | .error x => .error x | .ok y => .ok (y.ls, y.a)
theorem run_succ (f : Nat) (c : Ctx) (st : St) : run (f + 1) c st = match ended c st with
    | .error x => .error x
    | .ok true => .ok (flush st)
    | .ok false => match next (nest f) c st with | .error x => .error x | .ok st' => run f c st' := by
  rw [run]; rfl
def parse (s : Str) (pl : Nat) : Except Flt (List Part) :=
  if 16384 < s.length then .error (0, 3)
  else match run (s.length + 1) ⟨s, pl, false, 1, -1⟩ ⟨0, 0, [], []⟩ with | .error x => .error x | .ok y => .ok y.ls
end WP
end Go.Proofs.YtcbdhheelddgeaaGreatDoor
