/- Small plain lemmas of this seat's proofs: bytes of a string as integers, endings. Nothing of the program is in it. -/
import Derived.WalkKit
import Derived.Lib.Hide
import Derived.Outline
import Derived.Handy
import Derived.WalkSpells
import Derived.Lib.OthersKept
import Derived.Deep.Light
namespace Go.Proofs.YtcbdhheelddgeaaGreatDoor
open Go.RowKit
namespace K

/-- The k-th byte of a list, as an integer; 0 behind the end. -/
def bt (l : List UInt8) (k : Nat) : Int := ((l.getD k 0).toNat : Int)
theorem bt_nonneg (l : List UInt8) (k : Nat) : 0 ≤ bt l k := by unfold bt; omega
theorem bt_le (l : List UInt8) (k : Nat) : bt l k ≤ 255 := by
  unfold bt; have := (l.getD k 0).toNat_lt; omega
@[go_sem] theorem get_bt (l : List UInt8) (n : Nat) (h : n < (ByteArray.mk l.toArray).size) : (((ByteArray.mk l.toArray)[n]'h).toNat : Int) = bt l n := by
  have h' : n < l.length := by simpa [ByteArray.size] using h
  unfold bt
  rw [List.getD_eq_getElem?_getD, List.getElem?_eq_getElem h', Option.getD_some]
  rfl
theorem bt_of (l : List UInt8) (n : Nat) (h : n < l.length) : bt l n = ((l[n]'h).toNat : Int) := by
  unfold bt
  rw [List.getD_eq_getElem?_getD, List.getElem?_eq_getElem h, Option.getD_some]
theorem bt_drop (l : List UInt8) (a n : Nat) : bt (l.drop a) n = bt l (a + n) := by
  unfold bt
  simp [List.getD_eq_getElem?_getD]
theorem bt_take (l : List UInt8) (a n : Nat) (h : n < a) : bt (l.take a) n = bt l n := by
  unfold bt
  simp [List.getD_eq_getElem?_getD, h]
theorem drop_cons (l : List UInt8) (n : Nat) (h : n < l.length) : ∃ x, l.drop n = x :: l.drop (n + 1) ∧ bt l n = (x.toNat : Int) ∧ l[n]? = some x :=
  ⟨l[n], by rw [List.drop_eq_getElem_cons h], bt_of l n h, by simp [h]⟩
theorem drop_end (l : List UInt8) (k : Nat) (h : ¬ k < l.length) : l.drop k = [] := List.drop_eq_nil_of_le (by omega)
theorem string_list (s : ByteArray) : s = ⟨s.data.toList.toArray⟩ := by cases s; simp

@[go_sem] theorem append_list (a b : List UInt8) : (ByteArray.mk a.toArray) ++ (ByteArray.mk b.toArray) = ⟨(a ++ b).toArray⟩ := by
  apply ByteArray.ext
  rw [ByteArray.data_append]
  simp
/-- The byte of an integer. -/
def by8 (c : Int) : UInt8 := UInt8.ofNat c.toNat
theorem by8_toNat (c : Int) (h0 : 0 ≤ c) (h1 : c ≤ 255) : ((by8 c).toNat : Int) = c := by
  unfold by8
  rw [UInt8.toNat_ofNat']
  omega
theorem by8_of (x : UInt8) : by8 (x.toNat : Int) = x := by
  unfold by8; simp
/-- A cut of a string. -/
def cut (l : List UInt8) (a b : Nat) : List UInt8 := (l.take b).drop a
@[go_sem] theorem extract_list (l : List UInt8) (a b : Nat) : (ByteArray.mk l.toArray).extract a b = ⟨(cut l a b).toArray⟩ := by
  apply ByteArray.ext
  show ((ByteArray.mk l.toArray).extract a b).data = (cut l a b).toArray
  rw [ByteArray.data_extract]
  simp [cut, List.drop_take]
@[simp] theorem cut_length (l : List UInt8) (a b : Nat) : (cut l a b).length = min b l.length - a := by simp [cut]
theorem cut_end (l : List UInt8) (a : Nat) : cut l a l.length = l.drop a := by simp [cut]
theorem bt_cut (l : List UInt8) (a b n : Nat) (h : a + n < b) : bt (cut l a b) n = bt l (a + n) := by
  unfold cut; rw [bt_drop, bt_take _ _ _ h]
theorem by8_bt {l : List UInt8} {k : Nat} {x : UInt8} (h : bt l k = (x.toNat : Int)) : by8 (bt l k) = x := by rw [h, by8_of]
theorem cut_one (l : List UInt8) (k : Nat) (h : k < l.length) : cut l k (k + 1) = [by8 (bt l k)] := by
  obtain ⟨x, hx, hb, _⟩ := drop_cons l k h
  unfold cut
  rw [by8_bt hb, List.drop_take, hx]
  simp
theorem cut_snoc (l : List UInt8) (a k : Nat) (x : UInt8) (h : a ≤ k) (hk : k < l.length) (hb : bt l k = (x.toNat : Int)) : cut l a (k + 1) = cut l a k ++ [x] := by
  have hx : l[k] = x := by
    have := bt_of l k hk
    rw [hb] at this
    apply UInt8.toNat_inj.1
    omega
  unfold cut
  rw [List.take_succ_eq_append_getElem hk, hx, List.drop_append_of_le_length (by simp; omega)]
theorem cut_empty (l : List UInt8) (a : Nat) : cut l a a = [] := by
  apply List.eq_nil_of_length_eq_zero
  simp; omega
theorem cut_two (l : List UInt8) (k : Nat) (h : k + 1 < l.length) : cut l k (k + 2) = [by8 (bt l k), by8 (bt l (k + 1))] := by
  obtain ⟨x, hx, hb, _⟩ := drop_cons l (k + 1) h
  rw [show k + 2 = k + 1 + 1 from rfl, cut_snoc l k (k + 1) x (by omega) h hb, cut_one l k (by omega), by8_bt hb]
  rfl
theorem next_low {P : Program} (w : World) (k : Nat) (l : List UInt8) (pos : Nat) (hk : w.heap[k]? = some (.stringIter ⟨l.toArray⟩ pos)) (h : pos < l.length) (c : Int) (hc : bt l pos = c) (ha : c < 128) (ty : TypeId) :
    (Instr.next (.pointer (some ⟨k, 0, none⟩)) true ty).run P w = .ok (.tuple #[.bool true, .int .i64 pos, .int .i32 c]) (w.iterAt k ⟨l.toArray⟩ (pos + 1)) := by
  have h' : pos < (ByteArray.mk l.toArray).size := by simpa [ByteArray.size] using h
  have hb := get_bt l pos h'
  rw [Lib.run_next_ascii_at w k ⟨l.toArray⟩ pos ty hk h' (by omega), hb, hc]
theorem next_high {P : Program} (w : World) (k : Nat) (l : List UInt8) (pos : Nat) (hk : w.heap[k]? = some (.stringIter ⟨l.toArray⟩ pos)) (h : pos < l.length) (ha : 128 ≤ bt l pos) :
    ∃ r d : Nat, 128 ≤ r ∧ r ≤ 2147483647 ∧ 1 ≤ d ∧ ∀ ty, (Instr.next (.pointer (some ⟨k, 0, none⟩)) true ty).run P w = .ok (.tuple #[.bool true, .int .i64 pos, .int .i32 r]) (w.iterAt k ⟨l.toArray⟩ (pos + d)) := by
  have h' : pos < (ByteArray.mk l.toArray).size := by simpa [ByteArray.size] using h
  have hb := get_bt l pos h'
  obtain ⟨h1, h2⟩ := decode_high ⟨l.toArray⟩ pos h' (by omega)
  exact ⟨_, _, h1, decode_le _ _, h2, fun ty => Lib.run_next_any_at w k ⟨l.toArray⟩ pos ty hk h'⟩
theorem next_end {P : Program} (w : World) (k : Nat) (l : List UInt8) (pos : Nat) (hk : w.heap[k]? = some (.stringIter ⟨l.toArray⟩ pos)) (h : ¬ pos < l.length) (ty : TypeId) :
    (Instr.next (.pointer (some ⟨k, 0, none⟩)) true ty).run P w = .ok (.tuple #[.bool false]) w :=
  Lib.run_next_end_at w k ⟨l.toArray⟩ pos ty hk (by simpa [ByteArray.size] using h)
theorem ret_bool {a b : Bool} (h : a = b) : Ending.returned (.bool a) = .returned (.bool b) := by rw [h]
theorem ret_int {k : IntKind} {a b : Int} (h : a = b) : Ending.returned (.int k a) = .returned (.int k b) := by rw [h]
theorem ret_str {a b : List UInt8} (h : a = b) : Ending.returned (.string ⟨a.toArray⟩) = .returned (.string ⟨b.toArray⟩) := by rw [h]
end K
end Go.Proofs.YtcbdhheelddgeaaGreatDoor
