/- Chapter 9: names, lists of aliases in memory, Valid. -/
import Derived.Test.YtelhobphphkidaaGreatDoorP09
import Derived.Test.YtelhobphphkidaaGreatDoorQ09
import Derived.Laws.Cover1
import Derived.IntWalk
import Derived.BigQuiet
import Derived.Sort.Walk0
import Derived.Deep.LoopGhost
namespace Go.Proofs.YtelhobphphkidaaGreatDoor
open Go.RowKit K
namespace W
set_option maxRecDepth 100000 in
set_option maxHeartbeats 1000000 in
theorem Reserved_any (t : List UInt8) (w : World) : Calls Tryz.prog 40 #[.string ⟨t.toArray⟩] w fun e w' => e = .returned (.bool (AL.resB t)) ∧ w = w' := by
  by_cases h : t ∈ AL.res
  · have HR := Lib.hid (show AL.resB t = true from decide_eq_true h)
    simp only [AL.res, List.mem_cons, List.not_mem_nil, or_false] at h
    rcases h with rfl | rfl | rfl | rfl | rfl | rfl | rfl | rfl | rfl | rfl | rfl | rfl | rfl | rfl | rfl | rfl
    all_goals
      go_enter Tryz.func40, Tryz.ntmps40
      go_wp2
      go_ret
      exact ⟨ret_bool HR.out.symm, rfl⟩
  · have HR := Lib.hid (show AL.resB t = false from decide_eq_false h)
    have hn : ∀ x ∈ AL.res, (t == x) = false := fun x hx => by rw [beq_eq_false_iff_ne]; rintro rfl; exact h hx
    have n0 := hn [33] (by decide)
    have n1 := hn [123] (by decide)
    have n2 := hn [125] (by decide)
    have n3 := hn [99, 97, 115, 101] (by decide)
    have n4 := hn [100, 111] (by decide)
    have n5 := hn [100, 111, 110, 101] (by decide)
    have n6 := hn [101, 108, 105, 102] (by decide)
    have n7 := hn [101, 108, 115, 101] (by decide)
    have n8 := hn [101, 115, 97, 99] (by decide)
    have n9 := hn [102, 105] (by decide)
    have n10 := hn [102, 111, 114] (by decide)
    have n11 := hn [105, 102] (by decide)
    have n12 := hn [105, 110] (by decide)
    have n13 := hn [116, 104, 101, 110] (by decide)
    have n14 := hn [117, 110, 116, 105, 108] (by decide)
    have n15 := hn [119, 104, 105, 108, 101] (by decide)
    clear hn h
    go_enter Tryz.func40, Tryz.ntmps40
    go_wp2
    go_ret
    exact ⟨ret_bool HR.out.symm, rfl⟩
set_option maxRecDepth 100000 in
set_option maxHeartbeats 1000000 in
theorem Reserved_ref (t : List UInt8) (w : World) : Calls Tryz.prog 24 #[.string ⟨t.toArray⟩] w fun e w' => e = .returned (.bool (AL.resB t)) ∧ w = w' := by
  by_cases h : t ∈ AL.res
  · have HR := Lib.hid (show AL.resB t = true from decide_eq_true h)
    simp only [AL.res, List.mem_cons, List.not_mem_nil, or_false] at h
    rcases h with rfl | rfl | rfl | rfl | rfl | rfl | rfl | rfl | rfl | rfl | rfl | rfl | rfl | rfl | rfl | rfl
    all_goals
      go_enter Tryz.func24, Tryz.ntmps24
      go_wp2
      go_ret
      exact ⟨ret_bool HR.out.symm, rfl⟩
  · have HR := Lib.hid (show AL.resB t = false from decide_eq_false h)
    have hn : ∀ x ∈ AL.res, (t == x) = false := fun x hx => by rw [beq_eq_false_iff_ne]; rintro rfl; exact h hx
    have n0 := hn [33] (by decide)
    have n1 := hn [123] (by decide)
    have n2 := hn [125] (by decide)
    have n3 := hn [99, 97, 115, 101] (by decide)
    have n4 := hn [100, 111] (by decide)
    have n5 := hn [100, 111, 110, 101] (by decide)
    have n6 := hn [101, 108, 105, 102] (by decide)
    have n7 := hn [101, 108, 115, 101] (by decide)
    have n8 := hn [101, 115, 97, 99] (by decide)
    have n9 := hn [102, 105] (by decide)
    have n10 := hn [102, 111, 114] (by decide)
    have n11 := hn [105, 102] (by decide)
    have n12 := hn [105, 110] (by decide)
    have n13 := hn [116, 104, 101, 110] (by decide)
    have n14 := hn [117, 110, 116, 105, 108] (by decide)
    have n15 := hn [119, 104, 105, 108, 101] (by decide)
    clear hn h
    go_enter Tryz.func24, Tryz.ntmps24
    go_wp2
    go_ret
    exact ⟨ret_bool HR.out.symm, rfl⟩
theorem named_any (s : List UInt8) (w : World) (hl : s.length ≤ 100000000) : Calls Tryz.prog 25 #[.string ⟨s.toArray⟩] w fun e w' => e = .returned (.bool (AL.named s)) ∧ Below w.heap.size w w' := by
  have HP := Lib.hid (fun V => Plain_any s V (by omega))
  have HR := Lib.hid (fun V => Reserved_any s V)
  obtain ⟨R, hR⟩ : ∃ R, AL.named s = R := ⟨_, rfl⟩
  have HV := Lib.hid hR
  rw [hR]
  unfold AL.named at hR
  by_cases h1 : s.length ≤ 32
  case neg =>
    have t1 : ((s.length : Int) ≤ 32) = False := eq_false (by omega)
    have HRE := Lib.hid (show R = false by rw [← hR, decide_eq_false h1]; rfl)
    clear hR h1
    go_enter Tryz.func25, Tryz.ntmps25
    go_wp2
    go_ret
    exact ⟨ret_bool HRE.out.symm, Below.refl _ _⟩
  have t1 : ((s.length : Int) ≤ 32) = True := eq_true (by omega)
  rw [decide_eq_true h1, Bool.true_and] at hR
  cases hp : P.plainB s with
  | false =>
    rw [hp] at hR HP
    have HRE := Lib.hid (show R = false from hR.symm)
    clear hR h1 hp
    go_enter Tryz.func25, Tryz.ntmps25
    go_wp2_with fail
    refine (HP.out _).mono ?_
    rintro e w1 ⟨rfl, hb⟩
    have HB := Lib.hid hb
    clear hb
    go_wp2
    go_ret
    exact ⟨ret_bool HRE.out.symm, HB.out⟩
  | true =>
    rw [hp] at hR HP
    rw [Bool.true_and] at hR
    have HRE := Lib.hid hR
    obtain ⟨b, hb0⟩ : ∃ b, AL.resB s = b := ⟨_, rfl⟩
    rw [hb0] at HR HRE
    clear hR h1 hp hb0
    go_enter Tryz.func25, Tryz.ntmps25
    go_wp2_with fail
    refine (HP.out _).mono ?_
    rintro e w1 ⟨rfl, hb⟩
    have HB := Lib.hid hb
    clear hb
    go_wp2_with fail
    refine (HR.out _).mono ?_
    rintro e w2 ⟨rfl, rfl⟩
    go_wp2
    go_ret
    exact ⟨ret_bool HRE.out, HB.out⟩
theorem name_ref (s : List UInt8) (w : World) (hl : s.length ≤ 100000000) : Calls Tryz.prog 26 #[.string ⟨s.toArray⟩] w fun e w' => e = .returned (.bool (AL.named s)) ∧ w = w' := by
  have HP := Lib.hid (fun V => Plain_ref s V (by omega))
  have HR := Lib.hid (fun V => Reserved_ref s V)
  obtain ⟨R, hR⟩ : ∃ R, AL.named s = R := ⟨_, rfl⟩
  rw [hR]
  unfold AL.named at hR
  cases hp : P.plainB s with
  | false =>
    rw [hp] at hR HP
    have HRE := Lib.hid (show R = false by rw [← hR]; simp)
    clear hR hp
    go_enter Tryz.func26, Tryz.ntmps26
    go_wp2_with fail
    refine (HP.out _).mono ?_
    rintro e w1 ⟨rfl, rfl⟩
    go_wp2
    go_ret
    exact ⟨ret_bool HRE.out.symm, rfl⟩
  | true =>
    rw [hp] at hR HP
    by_cases h1 : s.length ≤ 32
    case neg =>
      have t1 : ((s.length : Int) ≤ 32) = False := eq_false (by omega)
      have HRE := Lib.hid (show R = false by rw [← hR, decide_eq_false h1]; rfl)
      clear hR h1 hp
      go_enter Tryz.func26, Tryz.ntmps26
      go_wp2_with fail
      refine (HP.out _).mono ?_
      rintro e w1 ⟨rfl, rfl⟩
      go_wp2
      go_ret
      exact ⟨ret_bool HRE.out.symm, rfl⟩
    have t1 : ((s.length : Int) ≤ 32) = True := eq_true (by omega)
    rw [decide_eq_true h1, Bool.true_and, Bool.true_and] at hR
    have HRE := Lib.hid hR
    obtain ⟨b, hb0⟩ : ∃ b, AL.resB s = b := ⟨_, rfl⟩
    rw [hb0] at HR HRE
    clear hR h1 hp hb0
    go_enter Tryz.func26, Tryz.ntmps26
    go_wp2_with fail
    refine (HP.out _).mono ?_
    rintro e w1 ⟨rfl, rfl⟩
    go_wp2_with fail
    refine (HR.out _).mono ?_
    rintro e w2 ⟨rfl, rfl⟩
    go_wp2
    go_ret
    exact ⟨ret_bool HRE.out, rfl⟩
/-- A slice of aliases. -/
def AS (w : World) (v : Value) (l : List AL.Al) : Prop :=
  ∃ A c, v = .slice A l.length c ∧ l.length ≤ c ∧ c ≤ maxLen ∧ ∀ k a, l[k]? = some a → ∃ b off, A = some ⟨b, off, none⟩ ∧ b < w.heap.size ∧ w.cell? ⟨b, off + k * 2, none⟩ = some (.string ⟨a.1.toArray⟩) ∧ w.cell? ⟨b, off + k * 2 + 1, none⟩ = some (.string ⟨a.2.toArray⟩)
theorem cell_go {W V : World} {a : Addr} {v : Value} (h : W.cell? a = some v) (hb : Below W.heap.size W V) : V.cell? a = some v :=
  (World.cell?_of_block (hb.block _ (World.block_lt_of_cell? _ _ h))).trans h
theorem AS.go {w w' : World} {v : Value} {l : List AL.Al} (h : AS w v l) (hb : Below w.heap.size w w') : AS w' v l := by
  obtain ⟨A, c, h1, h2, h3, h4⟩ := h
  refine ⟨A, c, h1, h2, h3, fun k a ha => ?_⟩
  obtain ⟨b, off, e1, e2, e3, e4⟩ := h4 k a ha
  exact ⟨b, off, e1, Nat.lt_of_lt_of_le e2 hb.size, cell_go e3 hb, cell_go e4 hb⟩
theorem AS.slice {w : World} {v : Value} {l : List AL.Al} (h : AS w v l) : ∃ A c, v = .slice A l.length c := by
  obtain ⟨A, c, h1, -⟩ := h
  exact ⟨A, c, h1⟩
theorem AS.get {w : World} {A : Option Addr} {n c : Nat} {l : List AL.Al} (h : AS w (.slice A n c) l) {k : Nat} (hk : k < l.length) :
    ∃ a b off, l[k]? = some a ∧ A = some ⟨b, off, none⟩ ∧ b < w.heap.size ∧ w.cell? ⟨b, off + k * 2, none⟩ = some (.string ⟨a.1.toArray⟩) ∧ w.cell? ⟨b, off + k * 2 + 1, none⟩ = some (.string ⟨a.2.toArray⟩) := by
  obtain ⟨A', c', h1, -, -, h4⟩ := h
  injection h1 with h1 _ _
  subst h1
  obtain ⟨b, off, e⟩ := h4 k _ (List.getElem?_eq_getElem hk)
  exact ⟨_, b, off, List.getElem?_eq_getElem hk, e⟩
theorem Get_any (l : List AL.Al) (n : List UInt8) (v : Value) (w : World) (hA : AS w v l) (hl : l.length ≤ 1000000) : Calls Tryz.prog 19 #[v, .string ⟨n.toArray⟩] w fun e w' => e = .returned (.tuple #[.string ⟨((AL.get l n).getD []).toArray⟩, .bool (AL.get l n).isSome]) ∧ Below w.heap.size w w' := by
  obtain ⟨A, c, rfl⟩ := hA.slice
  obtain ⟨R, hR⟩ : ∃ R, AL.get l n = R := ⟨_, rfl⟩
  rw [hR]
  have HA := Lib.hid hA
  have HR := Lib.hid (show AL.get (l.drop 0) n = R from hR)
  have hln : (l.length : Int) ≤ 1000000 := by omega
  clear hA hR
  go_enter Tryz.func19, Tryz.ntmps19
  go_wp2
  go_loopg [10] l.length (fun g i wr => ∃ k : Nat, k ≤ l.length ∧ g = l.length - k ∧ i = .int .i64 k ∧ Hid (AL.get (l.drop k) n = R) ∧ Hid (Below w.heap.size w wr))
  case atStart => exact ⟨0, Nat.zero_le _, rfl, rfl, HR, Lib.hid (Below.refl _ _)⟩
  case round =>
    obtain ⟨k, hk, rfl, rfl, HK, HB⟩ := hrel
    clear HR
    by_cases hlt : k < l.length
    · have hlt2 : (k : Int) < (l.length : Int) := by omega
      obtain ⟨⟨nm, vl⟩, b, off, ha, rfl, hb, c0, c1⟩ := (HA.out.go HB.out).get hlt
      dsimp only at c0 c1
      have hd : l.drop k = (nm, vl) :: l.drop (k + 1) := by
        obtain ⟨h1, h2⟩ := List.getElem?_eq_some_iff.1 ha
        rw [← h2]; exact List.drop_eq_getElem_cons h1
      have hK := HK.out
      rw [hd, AL.get] at hK
      dsimp only at hK
      have HBA := Lib.hid (btr HB.out (balloc wr (.cells #[.string ⟨nm.toArray⟩, .string ⟨vl.toArray⟩] 47)))
      have HLT := Lib.hid hlt
      clear ha hd
      by_cases hn : nm = n
      · rw [if_pos hn] at hK
        have e1 : (nm == n) = true := by rw [beq_iff_eq]; exact hn
        have HRE := Lib.hid hK
        clear hK hn
        go_wp2
        go_ret2
        rw [← HRE.out]
        exact ⟨rfl, HBA.out⟩
      · rw [if_neg hn] at hK
        have e1 : (nm == n) = false := by rw [beq_eq_false_iff_ne]; exact hn
        have HRE := Lib.hid hK
        clear hK
        go_wp2
        go_roundg (l.length - (k + 1))
        case measure => have := HLT.out; omega
        case rel => exact ⟨k + 1, HLT.out, rfl, by go_num, HRE, HBA⟩
    · have hlt2 : ¬ (k : Int) < (l.length : Int) := by omega
      have HRE := Lib.hid (show none = R by rw [← HK.out, List.drop_eq_nil_of_le (by omega)]; rfl)
      go_wp2
      go_ret2
      rw [← HRE.out]
      exact ⟨rfl, HB.out⟩
end W
end Go.Proofs.YtelhobphphkidaaGreatDoor
