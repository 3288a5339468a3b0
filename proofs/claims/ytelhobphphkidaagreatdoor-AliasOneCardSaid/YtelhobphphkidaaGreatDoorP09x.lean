/- Chapter 9: Expand in plain Lean. A here-document's delimiter is left to 'none' here. -/
import Derived.Test.YtelhobphphkidaaGreatDoorW09q
import Derived.Test.YtelhobphphkidaaGreatDoorP07b
namespace Go.Proofs.YtelhobphphkidaaGreatDoor
open K W
namespace AX
structure X where
  s : List UInt8
  at_ : Nat
  ends : List SE
  blanks : List Int
  cmd : Bool
  here : Bool
  strip : Bool
def reach (x : X) (pos : Nat) : X := { x with blanks := flt pos x.blanks, cmd := x.cmd || hit pos x.blanks }
def blank (v : List UInt8) : Bool := v.getLast? == some 32 || v.getLast? == some 9
def moved (ps : Nat) (mv : Int) (T : List SE) : List SE := T.map fun e => (e.1, if (ps : Int) < e.2 then e.2 + mv else e.2)
def replace (x : X) (ps st : Nat) (tx v : List UInt8) : X :=
  let mv : Int := (v.length : Int) - ((st : Int) - ps)
  { x with s := x.s.take ps ++ v ++ x.s.drop st, at_ := ps, ends := sput (moved ps mv x.ends) tx (ps + v.length), blanks := x.blanks.map (· + mv) ++ (if blank v then [((ps : Int) + v.length)] else []), cmd := true }
/-- The operators behind which a token is in command position. -/
def opensB (t : List UInt8) : Bool := [[59], [38], [38, 38], [124, 124], [124], [40]].contains t
/-- ! { do elif else if then until while -/
def introB (t : List UInt8) : Bool := [[33], [123], [100, 111], [101, 108, 105, 102], [101, 108, 115, 101], [105, 102], [116, 104, 101, 110], [117, 110, 116, 105, 108], [119, 104, 105, 108, 101]].contains t
def pass (x : X) (kd st : Nat) (tx : List UInt8) : Option X :=
  if x.here = true then none else if kd = 3 then some { x with at_ := st, cmd := true } else
  if kd = 2 then some { x with at_ := st, here := tx == [60, 60] || tx == [60, 60, 45], strip := tx == [60, 60, 45], cmd := opensB tx }
  else some { x with at_ := st, cmd := x.cmd && kd == 1 && introB tx }
def run (l : List AL.Al) : Nat → X → Option (List UInt8 × Int)
  | 0, _ => none
  | n + 1, x =>
    match LX.next x.s x.at_ with
    | (t, e) =>
      if e ≠ 0 then some (x.s, 0) else if t.kind = 5 then some (x.s, 0) else
      match value l (reach x t.pos).ends (reach x t.pos).cmd t.kind t.pos t.text with
      | some v => if 16384 < (replace (reach x t.pos) t.pos t.stop t.text v).s.length then some ([], 3) else run l n (replace (reach x t.pos) t.pos t.stop t.text v)
      | none =>
        match pass (reach x t.pos) t.kind t.stop t.text with
        | none => none
        | some y => run l n y
def expand (l : List AL.Al) (n : Nat) (s : List UInt8) : Option (List UInt8 × Int) :=
  if AL.valid l ≠ 0 then some ([], AL.valid l) else if 16384 < s.length then some ([], 3) else run l n ⟨s, 0, [], [], true, false, false⟩
/-- The chapter's list, source and answer. -/
def exL : List AL.Al := [([108, 108], [108, 115, 32, 45, 108]), ([115, 117, 100, 111], [115, 117, 100, 111, 32])]
def exS : List UInt8 := [105, 102, 32, 108, 108, 32, 97, 59, 32, 101, 99, 104, 111, 32, 108, 108, 59, 32, 115, 117, 100, 111, 32, 108, 108]
def exR : List UInt8 := [105, 102, 32, 108, 115, 32, 45, 108, 32, 97, 59, 32, 101, 99, 104, 111, 32, 108, 108, 59, 32, 115, 117, 100, 111, 32, 32, 108, 115, 32, 45, 108]
theorem ex_expand : expand exL 30 exS = some (exR, 0) := by decide +kernel
theorem ex_set1 : AL.set [] [108, 108] [108, 115, 32, 45, 108] = ([([108, 108], [108, 115, 32, 45, 108])], 0) := by decide +kernel
theorem ex_set2 : AL.set [([108, 108], [108, 115, 32, 45, 108])] [115, 117, 100, 111] [115, 117, 100, 111, 32] = (exL, 0) := by decide +kernel
theorem ex_get : AL.get exL [108, 108] = some [108, 115, 32, 45, 108] := by decide +kernel
theorem ex_unset : AL.unset exL [108, 108] = ([([115, 117, 100, 111], [115, 117, 100, 111, 32])], 0) := by decide +kernel
theorem ex_valid : AL.valid [([105, 102], [])] ≠ 0 := by decide +kernel
end AX
end Go.Proofs.YtelhobphphkidaaGreatDoor
