/- Chapter 34: the plain facts of awake, literal slices. -/
import Derived.Test.YtfigidknocpdaaaDoorW34q
import Derived.Test.YtfigidknocpdaaaDoorW34l
namespace Go.Proofs.YtfigidknocpdaaaDoor
open Go.RowKit K
namespace P
def echo : List UInt8 := [101, 99, 104, 111, 32, 104, 105]
theorem aw1 : signal [83, 73, 71, 73, 78, 84] = some 2 := by kernel_rfl
theorem aw2 : signal [69, 88, 73, 84] = some 0 := by kernel_rfl
theorem aw3 : signal [83, 73, 71, 50] = none := by kernel_rfl
theorem aw4 : setT [] 2 [101, 99, 104, 111, 32, 104, 105] = [(2, [101, 99, 104, 111, 32, 104, 105])] := by kernel_rfl
theorem aw5 : setT [(2, [101, 99, 104, 111, 32, 104, 105])] 0 [] = [(0, []), (2, [101, 99, 104, 111, 32, 104, 105])] := by kernel_rfl
theorem aw6 : shows [(0, []), (2, [101, 99, 104, 111, 32, 104, 105])] = [[116, 114, 97, 112, 32, 45, 45, 32, 39, 39, 32, 69, 88, 73, 84], [116, 114, 97, 112, 32, 45, 45, 32, 39, 101, 99, 104, 111, 32, 104, 105, 39, 32, 73, 78, 84]] := by kernel_rfl
theorem aw7 : due [(2, [97]), (15, [98])] [1, 15, 2] = [15, 2] := by kernel_rfl
theorem aw8 : Lib.minOf [15, 2] = 2 := by kernel_rfl
theorem aw9 : trapsF [(2, [97]), (15, [98])] 2 = some (2, [97]) := by kernel_rfl
theorem aw10 : requests [] [(2, [97]), (15, [])] false = [(2, 2), (15, 1)] := by kernel_rfl
theorem aw11 : requests [] [(2, [97]), (15, [])] true = [] := by kernel_rfl
end P
namespace K
theorem TV.lit2 (x : World) (z1 z2 : Int) (s1 s2 : List UInt8) (t : TypeId) : TV (x.alloc (.cells #[.int .i64 z1, .string ⟨s1.toArray⟩, .int .i64 z2, .string ⟨s2.toArray⟩] t)) (.slice (some ⟨x.heap.size, 0, none⟩) 2 2) [(z1, s1), (z2, s2)] := by
  refine ⟨_, _, rfl, by simp, by omega, (fun h => by cases h), fun _ => ⟨x.heap.size, 0, rfl, by simp, fun i hi => ?_⟩⟩
  match i, hi with
  | 0, _ => simp
  | 1, _ => simp
theorem IL.lit3 (x : World) (a b c : Int) (t : TypeId) : IL .i64 (x.alloc (.cells #[.int .i64 a, .int .i64 b, .int .i64 c] t)) (some ⟨x.heap.size, 0, none⟩) [a, b, c] := by
  refine fun _ => ⟨x.heap.size, 0, rfl, by simp, fun i hi => ?_⟩
  match i, hi with
  | 0, _ => simp
  | 1, _ => simp
  | 2, _ => simp
end K
end Go.Proofs.YtfigidknocpdaaaDoor
