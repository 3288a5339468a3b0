/- Chapter 9: replace's answer by the walk is AX.replace. -/
import Derived.Test.YtelhobphphkidaaGreatDoorW09v
namespace Go.Proofs.YtelhobphphkidaaGreatDoor
open K W
namespace AX
theorem suffix_one (v : List UInt8) (b : UInt8) : Lib.hasSuffix v [b] = (v.getLast? == some b) := by
  unfold Lib.hasSuffix
  rw [Bool.eq_iff_iff, List.isSuffixOf_iff_suffix, beq_iff_eq, List.getLast?_eq_some_iff]
  constructor
  · rintro ⟨t, rfl⟩
    exact ⟨t, rfl⟩
  · rintro ⟨t, rfl⟩
    exact ⟨t, rfl⟩
theorem cuts {s v : List UInt8} {ps st : Nat} : cut s 0 ps ++ (v ++ cut s st s.length) = s.take ps ++ v ++ s.drop st := by
  simp [cut]
theorem replace_eq (x : X) (ps st : Nat) (tx v : List UInt8) : replace x ps st tx v =
    { x with s := cut x.s 0 ps ++ (v ++ cut x.s st x.s.length), at_ := ps, ends := sput (x.ends.map fun e => (e.1, if (ps : Int) < e.2 then e.2 + ((v.length : Int) - ((st : Int) - (ps : Int))) else e.2)) tx ((ps : Int) + v.length), blanks := (x.blanks.map (· + ((v.length : Int) - ((st : Int) - (ps : Int)))) ++ if Lib.hasSuffix v [32] || Lib.hasSuffix v [9] then [(ps : Int) + v.length] else []), cmd := true } := by
  rw [suffix_one, suffix_one, cuts]
  rfl
end AX
end Go.Proofs.YtelhobphphkidaaGreatDoor
