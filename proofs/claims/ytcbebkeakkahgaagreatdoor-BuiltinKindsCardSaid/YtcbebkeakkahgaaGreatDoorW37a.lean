/- Built-in commands: Known and Special; printed by gen37a.py. -/
import Derived.Test.YtcbebkeakkahgaaGreatDoorE00
import Derived.LoopTactic
namespace Go.Proofs.YtcbebkeakkahgaaGreatDoor
open Go.RowKit K
def BK.sp : List (List UInt8) := [[46], [58], [98, 114, 101, 97, 107], [99, 111, 110, 116, 105, 110, 117, 101], [101, 118, 97, 108], [101, 120, 101, 99], [101, 120, 105, 116], [101, 120, 112, 111, 114, 116], [114, 101, 97, 100, 111, 110, 108, 121], [114, 101, 116, 117, 114, 110], [115, 101, 116], [115, 104, 105, 102, 116], [116, 114, 97, 112], [117, 110, 115, 101, 116]]
def BK.kn : List (List UInt8) := [[91], [97, 108, 105, 97, 115], [98, 103], [99, 100], [99, 111, 109, 109, 97, 110, 100], [102, 97, 108, 115, 101], [102, 103], [103, 101, 116, 111, 112, 116, 115], [106, 111, 98, 115], [107, 105, 108, 108], [112, 119, 100], [114, 101, 97, 100], [116, 101, 115, 116], [116, 114, 117, 101], [116, 121, 112, 101], [117, 110, 97, 108, 105, 97, 115], [119, 97, 105, 116]]
def BK.spB (s : List UInt8) : Bool := decide (s ∈ BK.sp)
def BK.knB (s : List UInt8) : Bool := decide (s ∈ BK.sp ∨ s ∈ BK.kn)
namespace W
set_option maxRecDepth 100000
theorem ret_boolE {a b : Bool} (h : a = b) : Ending.returned (.bool a) = .returned (.bool b) := by rw [h]
theorem sv_alloc (w : World) (T : TypeId) (l : List (List UInt8)) (cs : Array Value) (h : cs = (l.map fun s => Value.string ⟨s.toArray⟩).toArray) : SV (w.alloc (.cells cs T)) (.slice (some ⟨w.heap.size, 0, none⟩) l.length l.length) l := by
  refine ⟨_, _, rfl, Nat.le_refl _, .inr ⟨w.heap.size, 0, rfl, by simp, fun i x hx j u hj => ?_⟩⟩
  match j, hj with
  | 0, hj =>
    simp [es] at hj
    subst hj
    have := cell_of_row (w.alloc (.cells cs T)) w.heap.size (0 + i * 1 + 0) cs T (0, 0) (al_new w _)
    rw [this, h]
    simp [hx]
  | j + 1, hj => simp [es] at hj
set_option maxHeartbeats 2000000 in
theorem has_any (l : List (List UInt8)) (v : Value) (s : List UInt8) (w : World) (hv : SV w v l) (hl : l.length ≤ 1000) : Calls Tryz.prog 14 #[v, .string ⟨s.toArray⟩] w fun e w' => e = .returned (.bool (decide (s ∈ l))) ∧ Below w.heap.size w w' := by
  obtain ⟨A, c, rfl, -⟩ := hv.slice
  have HV := Lib.hid hv
  clear hv
  go_enter Tryz.func14, Tryz.ntmps14
  go_wp2
  go_loopw [5] (fun i wr => ∃ k : Nat, k ≤ l.length ∧ i = .int .i64 k ∧ Hid (s ∉ l.take k) ∧ Hid (Below w.heap.size w wr)) (fun i _ => l.length - (intOf i).toNat)
  case atStart => exact ⟨0, Nat.zero_le _, rfl, Lib.hid (by simp), Lib.hid (Below.refl _ _)⟩
  case round =>
    obtain ⟨k, hk, rfl, HN, HB⟩ := hrel
    by_cases hlt : k < l.length
    · obtain ⟨x, hx⟩ : ∃ x, l[k]? = some x := ⟨_, List.getElem?_eq_getElem hlt⟩
      obtain ⟨bb, off, rfl, hbl, q0⟩ := SV.get (HV.out.below HB.out) hx
      by_cases hxs : x = s
      · have HM := Lib.hid (show decide (s ∈ l) = true from decide_eq_true (by rw [← hxs]; exact List.mem_of_getElem? hx))
        have hb1 : (x == s) = true := by rw [beq_iff_eq]; exact hxs
        clear hx
        go_wp2
        go_ret
        exact ⟨ret_boolE HM.out.symm, HB.out⟩
      · have hb1 : (x == s) = false := by rw [beq_eq_false_iff_ne]; exact hxs
        have HN2 := Lib.hid (show s ∉ l.take (k + 1) by
          rw [List.take_add_one, hx]
          intro hm
          rcases List.mem_append.1 hm with hm | hm
          · exact HN.out hm
          · simp at hm; exact hxs hm.symm)
        clear hx
        go_wp2
        go_roundw
        case rel => exact ⟨k + 1, hlt, by go_num, HN2, HB⟩
        case measure => simp [intOf]; omega
    · have HM := Lib.hid (show decide (s ∈ l) = false from decide_eq_false (by have := HN.out; rwa [List.take_of_length_le (by omega)] at this))
      go_wp2
      go_ret
      exact ⟨ret_boolE HM.out.symm, HB.out⟩
theorem Special_ref (s : List UInt8) (w : World) : Calls Tryz.prog 10 #[.string ⟨s.toArray⟩] w fun e w' => e = .returned (.bool (BK.spB s)) ∧ Below w.heap.size w w' := by
  go_enter Tryz.func10, Tryz.ntmps10
  go_wp2_with fail
  refine (has_any BK.sp _ s _ (sv_alloc _ _ BK.sp _ (by rfl)) (by decide)).mono ?_
  rintro e Y ⟨rfl, hY⟩
  have HY := Lib.hid (btr (balloc _ _) hY)
  clear hY
  go_wp2
  go_ret
  exact ⟨rfl, HY.out⟩
theorem Known_ref (s : List UInt8) (w : World) : Calls Tryz.prog 8 #[.string ⟨s.toArray⟩] w fun e w' => e = .returned (.bool (BK.knB s)) ∧ Below w.heap.size w w' := by
  have HSP := Lib.hid (fun V => Special_ref s V)
  cases h : BK.spB s with
  | true =>
    have HK := Lib.hid (show BK.knB s = true from decide_eq_true (.inl (of_decide_eq_true h)))
    rw [h] at HSP
    go_enter Tryz.func8, Tryz.ntmps8
    go_wp2_with fail
    refine (HSP.out _).mono ?_
    rintro e Y ⟨rfl, hY⟩
    go_wp2
    go_ret
    exact ⟨ret_boolE HK.out.symm, hY⟩
  | false =>
    have HK := Lib.hid (show decide (s ∈ BK.kn) = BK.knB s from by unfold BK.knB; have := of_decide_eq_false h; simp [this])
    rw [h] at HSP
    go_enter Tryz.func8, Tryz.ntmps8
    go_wp2_with fail
    refine (HSP.out _).mono ?_
    rintro e Y ⟨rfl, hY⟩
    have HY := Lib.hid hY
    clear hY
    go_wp2_with fail
    refine (has_any BK.kn _ s _ (sv_alloc _ _ BK.kn _ (by rfl)) (by decide)).mono ?_
    rintro e Z ⟨rfl, hZ⟩
    have HZ := Lib.hid (btr HY.out (btr (balloc _ _) hZ))
    clear hZ
    go_wp2
    go_ret
    exact ⟨ret_boolE HK.out, HZ.out⟩
set_option maxHeartbeats 2000000 in
theorem Special_any (s : List UInt8) (w : World) : Calls Tryz.prog 9 #[.string ⟨s.toArray⟩] w fun e w' => e = .returned (.bool (BK.spB s)) ∧ w' = w := by
  by_cases h : s ∈ BK.sp
  · have HR := Lib.hid (show BK.spB s = true from decide_eq_true h)
    simp only [BK.sp, List.mem_cons, List.not_mem_nil, or_false] at h
    rcases h with rfl | rfl | rfl | rfl | rfl | rfl | rfl | rfl | rfl | rfl | rfl | rfl | rfl | rfl
    all_goals
      go_enter Tryz.func9, Tryz.ntmps9
      go_wp2
      go_ret
      exact ⟨ret_boolE HR.out.symm, rfl⟩
  · have HR := Lib.hid (show BK.spB s = false from decide_eq_false h)
    have hn : ∀ x ∈ BK.sp, (s == x) = false := fun x hx => by rw [beq_eq_false_iff_ne]; rintro rfl; exact h hx
    have n0 := hn [46] (by decide)
    have n1 := hn [58] (by decide)
    have n2 := hn [98, 114, 101, 97, 107] (by decide)
    have n3 := hn [99, 111, 110, 116, 105, 110, 117, 101] (by decide)
    have n4 := hn [101, 118, 97, 108] (by decide)
    have n5 := hn [101, 120, 101, 99] (by decide)
    have n6 := hn [101, 120, 105, 116] (by decide)
    have n7 := hn [101, 120, 112, 111, 114, 116] (by decide)
    have n8 := hn [114, 101, 97, 100, 111, 110, 108, 121] (by decide)
    have n9 := hn [114, 101, 116, 117, 114, 110] (by decide)
    have n10 := hn [115, 101, 116] (by decide)
    have n11 := hn [115, 104, 105, 102, 116] (by decide)
    have n12 := hn [116, 114, 97, 112] (by decide)
    have n13 := hn [117, 110, 115, 101, 116] (by decide)
    clear hn h
    go_enter Tryz.func9, Tryz.ntmps9
    go_wp2
    go_ret
    exact ⟨ret_boolE HR.out.symm, rfl⟩
set_option maxHeartbeats 2000000 in
theorem Known_any (s : List UInt8) (w : World) : Calls Tryz.prog 7 #[.string ⟨s.toArray⟩] w fun e w' => e = .returned (.bool (BK.knB s)) ∧ w' = w := by
  have HSP := Lib.hid (fun V => Special_any s V)
  by_cases h : s ∈ BK.kn
  · have HR := Lib.hid (show BK.knB s = true from decide_eq_true (.inr h))
    simp only [BK.kn, List.mem_cons, List.not_mem_nil, or_false] at h
    rcases h with rfl | rfl | rfl | rfl | rfl | rfl | rfl | rfl | rfl | rfl | rfl | rfl | rfl | rfl | rfl | rfl | rfl
    all_goals
      go_enter Tryz.func7, Tryz.ntmps7
      go_wp2
      go_ret
      exact ⟨ret_boolE HR.out.symm, rfl⟩
  · have HR := Lib.hid (show BK.spB s = BK.knB s from by unfold BK.spB BK.knB; simp [h])
    have hn : ∀ x ∈ BK.kn, (s == x) = false := fun x hx => by rw [beq_eq_false_iff_ne]; rintro rfl; exact h hx
    have n0 := hn [91] (by decide)
    have n1 := hn [97, 108, 105, 97, 115] (by decide)
    have n2 := hn [98, 103] (by decide)
    have n3 := hn [99, 100] (by decide)
    have n4 := hn [99, 111, 109, 109, 97, 110, 100] (by decide)
    have n5 := hn [102, 97, 108, 115, 101] (by decide)
    have n6 := hn [102, 103] (by decide)
    have n7 := hn [103, 101, 116, 111, 112, 116, 115] (by decide)
    have n8 := hn [106, 111, 98, 115] (by decide)
    have n9 := hn [107, 105, 108, 108] (by decide)
    have n10 := hn [112, 119, 100] (by decide)
    have n11 := hn [114, 101, 97, 100] (by decide)
    have n12 := hn [116, 101, 115, 116] (by decide)
    have n13 := hn [116, 114, 117, 101] (by decide)
    have n14 := hn [116, 121, 112, 101] (by decide)
    have n15 := hn [117, 110, 97, 108, 105, 97, 115] (by decide)
    have n16 := hn [119, 97, 105, 116] (by decide)
    clear hn h
    go_enter Tryz.func7, Tryz.ntmps7
    go_wp2_with fail
    refine (HSP.out _).mono ?_
    rintro e Y ⟨rfl, hY⟩
    obtain rfl : w = Y := hY.symm
    go_wp2
    go_ret
    exact ⟨ret_boolE HR.out, rfl⟩
end W
end Go.Proofs.YtcbebkeakkahgaaGreatDoor
