/- Several texts in one: W09a W09b W09c W09d. -/
import Derived.Test.YtcbdhheelddgeaaGreatDoorZA
import Derived.Test.YtcbdhheelddgeaaGreatDoorQ09
import Derived.Laws.Cover1
import Derived.IntWalk
import Derived.BigQuiet
import Derived.Sort.Walk0
import Derived.Deep.LoopGhost
import Derived.StillTailTactics
namespace Go.Proofs.YtcbdhheelddgeaaGreatDoor
open Go.RowKit K
namespace W
set_option maxRecDepth 100000 in
set_option maxHeartbeats 1000000 in
theorem Reserved_any (t : List UInt8) (w : World) : Calls Tryz.prog 49 #[.string ⟨t.toArray⟩] w fun e w' => e = .returned (.bool (AL.resB t)) ∧ w = w' := by
  by_cases h : t ∈ AL.res
  · have HR := Lib.hid (show AL.resB t = true from decide_eq_true h)
    simp only [AL.res, List.mem_cons, List.not_mem_nil, or_false] at h
    rcases h with rfl | rfl | rfl | rfl | rfl | rfl | rfl | rfl | rfl | rfl | rfl | rfl | rfl | rfl | rfl | rfl
    all_goals
      go_enter Tryz.func49, Tryz.ntmps49
      go_wp2
      go_ret
      exact ⟨ret_bool HR.out.symm, rfl⟩
  · have HR := Lib.hid (show AL.resB t = false from decide_eq_false h)
    have hn : ∀ x ∈ AL.res, (t == x) = false := fun x hx => by rw [beq_eq_false_iff_ne]; rintro rfl; exact h hx
    have n0 := hn [33] (by decide)
    have n1 := hn [123] (by decide)
    have n2 := hn [125] (by decide)
    have n3 := hn [99, 97, 115, 101] (by decide)
    have n4 := hn [100, 111] (by decide)
    have n5 := hn [100, 111, 110, 101] (by decide)
    have n6 := hn [101, 108, 105, 102] (by decide)
    have n7 := hn [101, 108, 115, 101] (by decide)
    have n8 := hn [101, 115, 97, 99] (by decide)
    have n9 := hn [102, 105] (by decide)
    have n10 := hn [102, 111, 114] (by decide)
    have n11 := hn [105, 102] (by decide)
    have n12 := hn [105, 110] (by decide)
    have n13 := hn [116, 104, 101, 110] (by decide)
    have n14 := hn [117, 110, 116, 105, 108] (by decide)
    have n15 := hn [119, 104, 105, 108, 101] (by decide)
    clear hn h
    go_enter Tryz.func49, Tryz.ntmps49
    go_wp2
    go_ret
    exact ⟨ret_bool HR.out.symm, rfl⟩
set_option maxRecDepth 100000 in
set_option maxHeartbeats 1000000 in
theorem Reserved_ref (t : List UInt8) (w : World) : Calls Tryz.prog 76 #[.string ⟨t.toArray⟩] w fun e w' => e = .returned (.bool (AL.resB t)) ∧ w = w' := by
  by_cases h : t ∈ AL.res
  · have HR := Lib.hid (show AL.resB t = true from decide_eq_true h)
    simp only [AL.res, List.mem_cons, List.not_mem_nil, or_false] at h
    rcases h with rfl | rfl | rfl | rfl | rfl | rfl | rfl | rfl | rfl | rfl | rfl | rfl | rfl | rfl | rfl | rfl
    all_goals
      go_enter Tryz.func76, Tryz.ntmps76
      go_wp2
      go_ret
      exact ⟨ret_bool HR.out.symm, rfl⟩
  · have HR := Lib.hid (show AL.resB t = false from decide_eq_false h)
    have hn : ∀ x ∈ AL.res, (t == x) = false := fun x hx => by rw [beq_eq_false_iff_ne]; rintro rfl; exact h hx
    have n0 := hn [33] (by decide)
    have n1 := hn [123] (by decide)
    have n2 := hn [125] (by decide)
    have n3 := hn [99, 97, 115, 101] (by decide)
    have n4 := hn [100, 111] (by decide)
    have n5 := hn [100, 111, 110, 101] (by decide)
    have n6 := hn [101, 108, 105, 102] (by decide)
    have n7 := hn [101, 108, 115, 101] (by decide)
    have n8 := hn [101, 115, 97, 99] (by decide)
    have n9 := hn [102, 105] (by decide)
    have n10 := hn [102, 111, 114] (by decide)
    have n11 := hn [105, 102] (by decide)
    have n12 := hn [105, 110] (by decide)
    have n13 := hn [116, 104, 101, 110] (by decide)
    have n14 := hn [117, 110, 116, 105, 108] (by decide)
    have n15 := hn [119, 104, 105, 108, 101] (by decide)
    clear hn h
    go_enter Tryz.func76, Tryz.ntmps76
    go_wp2
    go_ret
    exact ⟨ret_bool HR.out.symm, rfl⟩
theorem named_any (s : List UInt8) (w : World) (hl : s.length ≤ 100000000) : Calls Tryz.prog 19 #[.string ⟨s.toArray⟩] w fun e w' => e = .returned (.bool (AL.named s)) ∧ Below w.heap.size w w' := by
  have HP := Lib.hid (fun V => Plain_any s V (by omega))
  have HR := Lib.hid (fun V => Reserved_any s V)
  obtain ⟨R, hR⟩ : ∃ R, AL.named s = R := ⟨_, rfl⟩
  have HV := Lib.hid hR
  rw [hR]
  unfold AL.named at hR
  by_cases h1 : s.length ≤ 32
  case neg =>
    have t1 : ((s.length : Int) ≤ 32) = False := eq_false (by omega)
    have HRE := Lib.hid (show R = false by rw [← hR, decide_eq_false h1]; rfl)
    clear hR h1
    go_enter Tryz.func19, Tryz.ntmps19
    go_wp2
    go_ret
    exact ⟨ret_bool HRE.out.symm, Below.refl _ _⟩
  have t1 : ((s.length : Int) ≤ 32) = True := eq_true (by omega)
  rw [decide_eq_true h1, Bool.true_and] at hR
  cases hp : P.plainB s with
  | false =>
    rw [hp] at hR HP
    have HRE := Lib.hid (show R = false from hR.symm)
    clear hR h1 hp
    go_enter Tryz.func19, Tryz.ntmps19
    go_wp2_with fail
    refine (HP.out _).mono ?_
    rintro e w1 ⟨rfl, hb⟩
    have HB := Lib.hid hb
    clear hb
    go_wp2
    go_ret
    exact ⟨ret_bool HRE.out.symm, HB.out⟩
  | true =>
    rw [hp] at hR HP
    rw [Bool.true_and] at hR
    have HRE := Lib.hid hR
    obtain ⟨b, hb0⟩ : ∃ b, AL.resB s = b := ⟨_, rfl⟩
    rw [hb0] at HR HRE
    clear hR h1 hp hb0
    go_enter Tryz.func19, Tryz.ntmps19
    go_wp2_with fail
    refine (HP.out _).mono ?_
    rintro e w1 ⟨rfl, hb⟩
    have HB := Lib.hid hb
    clear hb
    go_wp2_with fail
    refine (HR.out _).mono ?_
    rintro e w2 ⟨rfl, rfl⟩
    go_wp2
    go_ret
    exact ⟨ret_bool HRE.out, HB.out⟩
theorem name_ref (s : List UInt8) (w : World) (hl : s.length ≤ 100000000) : Calls Tryz.prog 38 #[.string ⟨s.toArray⟩] w fun e w' => e = .returned (.bool (AL.named s)) ∧ w = w' := by
  have HP := Lib.hid (fun V => Plain_ref s V (by omega))
  have HR := Lib.hid (fun V => Reserved_ref s V)
  obtain ⟨R, hR⟩ : ∃ R, AL.named s = R := ⟨_, rfl⟩
  rw [hR]
  unfold AL.named at hR
  cases hp : P.plainB s with
  | false =>
    rw [hp] at hR HP
    have HRE := Lib.hid (show R = false by rw [← hR]; simp)
    clear hR hp
    go_enter Tryz.func38, Tryz.ntmps38
    go_wp2_with fail
    refine (HP.out _).mono ?_
    rintro e w1 ⟨rfl, rfl⟩
    go_wp2
    go_ret
    exact ⟨ret_bool HRE.out.symm, rfl⟩
  | true =>
    rw [hp] at hR HP
    by_cases h1 : s.length ≤ 32
    case neg =>
      have t1 : ((s.length : Int) ≤ 32) = False := eq_false (by omega)
      have HRE := Lib.hid (show R = false by rw [← hR, decide_eq_false h1]; rfl)
      clear hR h1 hp
      go_enter Tryz.func38, Tryz.ntmps38
      go_wp2_with fail
      refine (HP.out _).mono ?_
      rintro e w1 ⟨rfl, rfl⟩
      go_wp2
      go_ret
      exact ⟨ret_bool HRE.out.symm, rfl⟩
    have t1 : ((s.length : Int) ≤ 32) = True := eq_true (by omega)
    rw [decide_eq_true h1, Bool.true_and, Bool.true_and] at hR
    have HRE := Lib.hid hR
    obtain ⟨b, hb0⟩ : ∃ b, AL.resB s = b := ⟨_, rfl⟩
    rw [hb0] at HR HRE
    clear hR h1 hp hb0
    go_enter Tryz.func38, Tryz.ntmps38
    go_wp2_with fail
    refine (HP.out _).mono ?_
    rintro e w1 ⟨rfl, rfl⟩
    go_wp2_with fail
    refine (HR.out _).mono ?_
    rintro e w2 ⟨rfl, rfl⟩
    go_wp2
    go_ret
    exact ⟨ret_bool HRE.out, rfl⟩
/-- A slice of aliases. -/
def AS (w : World) (v : Value) (l : List AL.Al) : Prop :=
  ∃ A c, v = .slice A l.length c ∧ l.length ≤ c ∧ c ≤ maxLen ∧ ∀ k a, l[k]? = some a → ∃ b off, A = some ⟨b, off, none⟩ ∧ b < w.heap.size ∧ w.cell? ⟨b, off + k * 2, none⟩ = some (.string ⟨a.1.toArray⟩) ∧ w.cell? ⟨b, off + k * 2 + 1, none⟩ = some (.string ⟨a.2.toArray⟩)
theorem cell_go {W V : World} {a : Addr} {v : Value} (h : W.cell? a = some v) (hb : Below W.heap.size W V) : V.cell? a = some v :=
  (World.cell?_of_block (hb.block _ (World.block_lt_of_cell? _ _ h))).trans h
theorem AS.go {w w' : World} {v : Value} {l : List AL.Al} (h : AS w v l) (hb : Below w.heap.size w w') : AS w' v l := by
  obtain ⟨A, c, h1, h2, h3, h4⟩ := h
  refine ⟨A, c, h1, h2, h3, fun k a ha => ?_⟩
  obtain ⟨b, off, e1, e2, e3, e4⟩ := h4 k a ha
  exact ⟨b, off, e1, Nat.lt_of_lt_of_le e2 hb.size, cell_go e3 hb, cell_go e4 hb⟩
theorem AS.slice {w : World} {v : Value} {l : List AL.Al} (h : AS w v l) : ∃ A c, v = .slice A l.length c := by
  obtain ⟨A, c, h1, -⟩ := h
  exact ⟨A, c, h1⟩
theorem AS.get {w : World} {A : Option Addr} {n c : Nat} {l : List AL.Al} (h : AS w (.slice A n c) l) {k : Nat} (hk : k < l.length) :
    ∃ a b off, l[k]? = some a ∧ A = some ⟨b, off, none⟩ ∧ b < w.heap.size ∧ w.cell? ⟨b, off + k * 2, none⟩ = some (.string ⟨a.1.toArray⟩) ∧ w.cell? ⟨b, off + k * 2 + 1, none⟩ = some (.string ⟨a.2.toArray⟩) := by
  obtain ⟨A', c', h1, -, -, h4⟩ := h
  injection h1 with h1 _ _
  subst h1
  obtain ⟨b, off, e⟩ := h4 k _ (List.getElem?_eq_getElem hk)
  exact ⟨_, b, off, List.getElem?_eq_getElem hk, e⟩
theorem Get_any (l : List AL.Al) (n : List UInt8) (v : Value) (w : World) (hA : AS w v l) (hl : l.length ≤ 1000000) : Calls Tryz.prog 9 #[v, .string ⟨n.toArray⟩] w fun e w' => e = .returned (.tuple #[.string ⟨((AL.get l n).getD []).toArray⟩, .bool (AL.get l n).isSome]) ∧ Below w.heap.size w w' := by
  obtain ⟨A, c, rfl⟩ := hA.slice
  obtain ⟨R, hR⟩ : ∃ R, AL.get l n = R := ⟨_, rfl⟩
  rw [hR]
  have HA := Lib.hid hA
  have HR := Lib.hid (show AL.get (l.drop 0) n = R from hR)
  have hln : (l.length : Int) ≤ 1000000 := by omega
  clear hA hR
  go_enter Tryz.func9, Tryz.ntmps9
  go_wp2
  go_loopg [10] l.length (fun g i wr => ∃ k : Nat, k ≤ l.length ∧ g = l.length - k ∧ i = .int .i64 k ∧ Hid (AL.get (l.drop k) n = R) ∧ Hid (Below w.heap.size w wr))
  case atStart => exact ⟨0, Nat.zero_le _, rfl, rfl, HR, Lib.hid (Below.refl _ _)⟩
  case round =>
    obtain ⟨k, hk, rfl, rfl, HK, HB⟩ := hrel
    clear HR
    by_cases hlt : k < l.length
    · have hlt2 : (k : Int) < (l.length : Int) := by omega
      obtain ⟨⟨nm, vl⟩, b, off, ha, rfl, hb, c0, c1⟩ := (HA.out.go HB.out).get hlt
      dsimp only at c0 c1
      have hd : l.drop k = (nm, vl) :: l.drop (k + 1) := by
        obtain ⟨h1, h2⟩ := List.getElem?_eq_some_iff.1 ha
        rw [← h2]; exact List.drop_eq_getElem_cons h1
      have hK := HK.out
      rw [hd, AL.get] at hK
      dsimp only at hK
      have HBA := Lib.hid (btr HB.out (balloc wr (.cells #[.string ⟨nm.toArray⟩, .string ⟨vl.toArray⟩] 32)))
      have HLT := Lib.hid hlt
      clear ha hd
      by_cases hn : nm = n
      · rw [if_pos hn] at hK
        have e1 : (nm == n) = true := by rw [beq_iff_eq]; exact hn
        have HRE := Lib.hid hK
        clear hK hn
        go_wp2
        go_ret2
        rw [← HRE.out]
        exact ⟨rfl, HBA.out⟩
      · rw [if_neg hn] at hK
        have e1 : (nm == n) = false := by rw [beq_eq_false_iff_ne]; exact hn
        have HRE := Lib.hid hK
        clear hK
        go_wp2
        go_roundg (l.length - (k + 1))
        case measure => have := HLT.out; omega
        case rel => exact ⟨k + 1, HLT.out, rfl, by go_num, HRE, HBA⟩
    · have hlt2 : ¬ (k : Int) < (l.length : Int) := by omega
      have HRE := Lib.hid (show none = R by rw [← HK.out, List.drop_eq_nil_of_le (by omega)]; rfl)
      go_wp2
      go_ret2
      rw [← HRE.out]
      exact ⟨rfl, HB.out⟩
end W
end Go.Proofs.YtcbdhheelddgeaaGreatDoor
namespace Go.Proofs.YtcbdhheelddgeaaGreatDoor
open Go.RowKit K
theorem binOp_leq_al (t : TypeId) (a b : List UInt8) : binOp .leq t (.string ⟨a.toArray⟩) (.string ⟨b.toArray⟩) = pure (.bool (!decide (b < a))) := by
  rw [binOp_string_leq, Lib.toList_data, Lib.toList_data, Proofs.bytesLess_eq]
  congr 2
  by_cases h : a < b
  · have : ¬ b < a := fun h' => List.lt_irrefl a (List.lt_trans h h')
    simp [h, this]
  · by_cases h2 : a = b
    · subst h2; simp
    · have := AL.lt_of_not h h2
      simp [h, this, h2]
theorem binOp_geq_al (t : TypeId) (a b : List UInt8) : binOp .geq t (.string ⟨a.toArray⟩) (.string ⟨b.toArray⟩) = pure (.bool (!decide (a < b))) := by
  rw [binOp_string_geq, Lib.toList_data, Lib.toList_data, Proofs.bytesLess_eq]
namespace AL
def tot : List Al → Nat
  | [] => 0
  | a :: r => a.1.length + a.2.length + tot r
theorem tot_append : ∀ a b : List Al, tot (a ++ b) = tot a + tot b
  | [], b => by simp [tot]
  | q :: r, b => by rw [List.cons_append, tot, tot, tot_append r b]; omega
theorem tot_mem : ∀ {l : List Al} {q : Al}, q ∈ l → q.1.length + q.2.length ≤ tot l
  | [], q, h => by simp at h
  | x :: r, q, h => by
    rw [tot]
    rcases List.mem_cons.1 h with rfl | h
    · omega
    · have := tot_mem h; omega
def fewB (l : List Al) : Bool := decide (l.length ≤ 70) && decide (tot l ≤ 10000)
theorem take_one {α : Type} {l : List α} {k : Nat} {x : α} (h : l[k]? = some x) : l.take (k + 1) = l.take k ++ [x] := by
  rw [List.take_add_one, h]
  rfl
/-- The name ahead of an index. -/
def prev (l : List Al) (k : Nat) : Option Str := if k = 0 then none else (l[k - 1]?).map (·.1)
end AL
namespace W
set_option maxRecDepth 100000 in
set_option maxHeartbeats 4000000 in
theorem few_any (l : List AL.Al) (v : Value) (w : World) (hA : AS w v l) (hz : ∀ a ∈ l, a.1.length ≤ 140737488351232 ∧ a.2.length ≤ 140737488351232) : Calls Tryz.prog 4 #[v] w fun e w' => e = .returned (.bool (AL.fewB l)) ∧ Below w.heap.size w w' := by
  obtain ⟨A, c, rfl⟩ := hA.slice
  have HA := Lib.hid hA
  have HZ := Lib.hid hz
  obtain ⟨m, hm⟩ : ∃ m, m = l.length := ⟨_, rfl⟩
  have HM := Lib.hid hm
  rw [← hm]
  have m0 : (0 : Int) ≤ (m : Int) := by omega
  clear hA hz
  by_cases h70 : m ≤ 70
  case neg =>
    have t1 : ((70 : Int) < (m : Int)) = True := eq_true (by omega)
    have HRE := Lib.hid (show AL.fewB l = false by unfold AL.fewB; rw [decide_eq_false (by omega)]; rfl)
    clear h70 hm
    go_enter Tryz.func4, Tryz.ntmps4
    go_wp2
    go_ret
    exact ⟨ret_bool HRE.out.symm, Below.refl _ _⟩
  have t1 : ((70 : Int) < (m : Int)) = False := eq_false (by omega)
  have m70 : (m : Int) ≤ 70 := by omega
  have HRE := Lib.hid (show AL.fewB l = decide (AL.tot l ≤ 10000) by unfold AL.fewB; rw [decide_eq_true (by omega), Bool.true_and])
  clear h70 hm
  go_enter Tryz.func4, Tryz.ntmps4
  go_wp2
  go_loopg [3, 4] m (fun g x i wr => ∃ k sm : Nat, k ≤ m ∧ g = m - k ∧ i = .int .i64 k ∧ x = .int .i64 sm ∧ Hid (Below w.heap.size w wr) ∧ Hid (sm = AL.tot (l.take k)) ∧ Hid (sm ≤ 10000))
  case atStart => exact ⟨0, 0, Nat.zero_le _, rfl, rfl, rfl, Lib.hid (Below.refl _ _), Lib.hid rfl, Lib.hid (by omega)⟩
  case round =>
    obtain ⟨k, sm, hk, rfl, rfl, rfl, HBW, HSM, HLE⟩ := hrel
    by_cases hlt : k < m
    · have hlt2 : (k : Int) < (m : Int) := by omega
      obtain ⟨⟨nm, vl⟩, b, off, ha, rfl, hb, c0, c1⟩ := (HA.out.go HBW.out).get (k := k) (by have := HM.out; omega)
      dsimp only at c0 c1
      obtain ⟨z1, z2⟩ := HZ.out _ (List.mem_of_getElem? ha)
      dsimp only at z1 z2
      obtain ⟨s1, hs1⟩ : ∃ s1 : Nat, s1 = sm + nm.length := ⟨_, rfl⟩
      obtain ⟨sn, hsn⟩ : ∃ sn : Nat, sn = s1 + vl.length := ⟨_, rfl⟩
      have HSN := Lib.hid (show sn = AL.tot (l.take (k + 1)) by rw [hsn, hs1, HSM.out, AL.take_one ha, AL.tot_append]; simp [AL.tot]; omega)
      have HLT := Lib.hid hlt
      have s0 : (0 : Int) ≤ (sm : Int) := by omega
      have s10 : (0 : Int) ≤ (s1 : Int) := by omega
      have sn0 : (0 : Int) ≤ (sn : Int) := by omega
      have v0 : (0 : Int) ≤ (nm.length : Int) := by omega
      have v1 : (0 : Int) ≤ (vl.length : Int) := by omega
      have w1 : IntKind.i64.wrap ((sm : Int) + (nm.length : Int)) = (s1 : Int) := by rw [IntWalk.i64_in _ (by have := HLE.out; omega)]; omega
      have w2 : IntKind.i64.wrap ((s1 : Int) + (vl.length : Int)) = (sn : Int) := by rw [IntWalk.i64_in _ (by have := HLE.out; omega)]; omega
      have W1 := Lib.hid w1
      have W2 := Lib.hid w2
      clear ha z1 z2 hs1 hsn w1 w2
      by_cases h5 : sn ≤ 10000
      · have t5 : ((10000 : Int) < (sn : Int)) = False := eq_false (by omega)
        have H5 := Lib.hid h5
        clear h5
        have w1 := W1.out
        have w2 := W2.out
        go_wp2_with fail
        go_quiet (fail)
        go_wp2
        go_roundg (m - (k + 1))
        case measure => have := HLT.out; omega
        case rel => exact ⟨k + 1, sn, HLT.out, rfl, by go_num, rfl, Lib.hid (by first | exact bdN HBW.out _ | exact HBW.out), HSN, H5⟩
      · have t5 : ((10000 : Int) < (sn : Int)) = True := eq_true (by omega)
        have HF := Lib.hid (show AL.fewB l = false by
          rw [HRE.out, decide_eq_false]
          have h1 := HSN.out
          have h2 := List.take_append_drop (k + 1) l
          have h3 : AL.tot (l.take (k + 1)) ≤ AL.tot l := by conv => rhs; rw [← h2, AL.tot_append]
                                                             omega
          omega)
        clear h5
        have w1 := W1.out
        have w2 := W2.out
        go_wp2_with fail
        go_quiet (fail)
        go_wp2
        go_ret
        exact ⟨ret_bool HF.out.symm, by first | exact bdN HBW.out _ | exact HBW.out⟩
    · have hlt2 : ¬ (k : Int) < (m : Int) := by omega
      have hkm : k = m := by omega
      have HF := Lib.hid (show AL.fewB l = true by
        rw [HRE.out, decide_eq_true]
        have h1 := HSM.out
        rw [hkm, HM.out, List.take_length] at h1
        have := HLE.out
        omega)
      clear hkm
      go_wp2
      go_ret
      exact ⟨ret_bool HF.out.symm, HBW.out⟩
set_option maxRecDepth 100000 in
set_option maxHeartbeats 4000000 in
theorem Valid_any (l : List AL.Al) (v : Value) (w : World) (hA : AS w v l) (hz : ∀ a ∈ l, a.1.length ≤ 10000 ∧ a.2.length ≤ 10000) : Calls Tryz.prog 11 #[v] w fun e w' => e = .returned (.int .i64 (AL.valid l)) ∧ Below w.heap.size w w' := by
  obtain ⟨A, c, rfl⟩ := hA.slice
  have HA := Lib.hid hA
  have HZ := Lib.hid hz
  obtain ⟨m, hm⟩ : ∃ m, m = l.length := ⟨_, rfl⟩
  have HM := Lib.hid hm
  rw [← hm]
  have m0 : (0 : Int) ≤ (m : Int) := by omega
  obtain ⟨R, hR⟩ : ∃ R, AL.valid l = R := ⟨_, rfl⟩
  rw [hR]
  unfold AL.valid at hR
  clear hA hz
  by_cases h64 : 64 < l.length
  · have t1 : ((64 : Int) < (m : Int)) = True := eq_true (by omega)
    rw [if_pos h64] at hR
    have HRE := Lib.hid hR
    clear h64 hm hR
    go_enter Tryz.func11, Tryz.ntmps11
    go_wp2
    go_ret
    exact ⟨ret_int HRE.out, Below.refl _ _⟩
  have t1 : ((64 : Int) < (m : Int)) = False := eq_false (by omega)
  have m64 : (m : Int) ≤ 64 := by omega
  rw [if_neg h64] at hR
  have HR0 := Lib.hid (show AL.vfrom (AL.prev l 0) (l.drop 0) = R from hR)
  clear h64 hm hR
  go_enter Tryz.func11, Tryz.ntmps11
  go_wp2
  go_loopg [10] m (fun g i wr => ∃ k : Nat, k ≤ m ∧ g = m - k ∧ i = .int .i64 k ∧ Hid (AL.vfrom (AL.prev l k) (l.drop k) = R) ∧ Hid (Below w.heap.size w wr))
  case atStart => exact ⟨0, Nat.zero_le _, rfl, rfl, HR0, Lib.hid (Below.refl _ _)⟩
  case round =>
    obtain ⟨k, hk, rfl, rfl, HK, HB⟩ := hrel
    clear HR0
    by_cases hlt : k < m
    · have hlt2 : (k : Int) < (m : Int) := by omega
      obtain ⟨⟨nm, vl⟩, b, off, ha, rfl, hb, c0, c1⟩ := (HA.out.go HB.out).get (k := k) (by have := HM.out; omega)
      dsimp only at c0 c1
      obtain ⟨z1, z2⟩ := HZ.out _ (List.mem_of_getElem? ha)
      dsimp only at z1 z2
      have hd : l.drop k = (nm, vl) :: l.drop (k + 1) := by
        obtain ⟨h1, h2⟩ := List.getElem?_eq_some_iff.1 ha
        rw [← h2]; exact List.drop_eq_getElem_cons h1
      have hK := HK.out
      rw [hd, AL.vfrom] at hK
      dsimp only at hK
      have HK2 := Lib.hid hK
      have HAK := Lib.hid ha
      have HLT := Lib.hid hlt
      obtain ⟨V, hV⟩ : ∃ V, V = wr.alloc (.cells #[.string ⟨nm.toArray⟩, .string ⟨vl.toArray⟩] 32) := ⟨_, rfl⟩
      obtain ⟨q, hq⟩ : ∃ q, q = wr.heap.size := ⟨_, rfl⟩
      have hbv : Below wr.heap.size wr V := by rw [hV]; exact balloc _ _
      have hx := (show V.heap[q]? = some (.cells #[.string ⟨nm.toArray⟩, .string ⟨vl.toArray⟩] 32 (0, 0)) by rw [hV, hq]; exact al_new wr _)
      have HBV := Lib.hid hbv
      have HX := Lib.hid hx
      have a0 := Lib.cell_of_heap hx 0
      have HN := Lib.hid (named_any nm V (by omega))
      obtain ⟨bn, hbn⟩ : ∃ bn, AL.named nm = bn := ⟨_, rfl⟩
      rw [hbn] at HN
      have HBN := Lib.hid hbn
      have HV := Lib.hid hV
      have HQ := Lib.hid hq
      clear ha hd hK hV hq hbv hx hbn
      go_upto_region 6 with (fail)
      rw [← HV.out, ← HQ.out]
      go_wp2_with fail
      refine HN.out.mono ?_
      rintro e V2 ⟨rfl, hb2⟩
      have hx2 := (hb2.block q (Array.getElem?_eq_some_iff.1 HX.out).1).trans HX.out
      have HB2 := Lib.hid (btr HB.out (btr HBV.out hb2))
      have HBW := Lib.hid (btr HBV.out hb2)
      clear hb2 a0
      have a0 := Lib.cell_of_heap hx2 0
      have a1 := Lib.cell_of_heap hx2 1
      clear hx2
      cases bn with
      | false =>
        have HRE := Lib.hid (show R = 10 by rw [← HK2.out, if_pos HBN.out])
        go_wp2
        go_ret
        exact ⟨ret_int HRE.out.symm, HB2.out⟩
      | true =>
        by_cases h3 : 4096 < vl.length
        · have t3 : ((4096 : Int) < (vl.length : Int)) = True := eq_true (by omega)
          have HRE := Lib.hid (show R = 3 by rw [← HK2.out, if_neg (by rw [HBN.out]; simp), if_pos h3])
          clear h3
          go_wp2
          go_ret
          exact ⟨ret_int HRE.out.symm, HB2.out⟩
        have t3 : ((4096 : Int) < (vl.length : Int)) = False := eq_false (by omega)
        have HK3 := Lib.hid (show (if AL.behind (AL.prev l k) nm = true then (1 : Int) else AL.vfrom (some nm) (l.drop (k + 1))) = R by have h9 := HK2.out; rw [if_neg (by rw [HBN.out]; simp), if_neg h3] at h9; exact h9)
        have HPN := Lib.hid (show AL.prev l (k + 1) = some nm by unfold AL.prev; rw [if_neg (by omega), Nat.add_sub_cancel, HAK.out]; rfl)
        clear h3 t1
        by_cases hk0 : k = 0
        · have g0 : decide (0 < k) = false := decide_eq_false (by omega)
          have HRE := Lib.hid (show AL.vfrom (AL.prev l (k + 1)) (l.drop (k + 1)) = R by rw [HPN.out, ← HK3.out, if_neg]; unfold AL.prev; rw [if_pos hk0]; simp [AL.behind])
          clear hk0
          go_wp2_with fail
          go_quiet (fail)
          go_wp2
          go_roundg (m - (k + 1))
          case measure => have := HLT.out; omega
          case rel => exact ⟨k + 1, HLT.out, rfl, by go_num, HRE, Lib.hid (by first | exact bdN HB2.out _ | exact HB2.out)⟩
        · have g0 : decide (0 < k) = true := decide_eq_true (by omega)
          obtain ⟨⟨pn, pv⟩, b', off', hpa, hbb, hb', p0, p1⟩ := (HA.out.go HB2.out).get (k := k - 1) (by have := HM.out; have := HLT.out; omega)
          injection hbb with hbb
          injection hbb with e1 e2
          subst e1 e2
          dsimp only at p0 p1
          obtain ⟨j, hj⟩ : ∃ j, j = k - 1 := ⟨_, rfl⟩
          have HBH := Lib.hid (show AL.behind (AL.prev l k) nm = !decide (pn < nm) by unfold AL.prev; rw [if_neg hk0, hpa]; rfl)
          obtain ⟨cmp, hcmp⟩ : ∃ cmp, (!decide (pn < nm)) = cmp := ⟨_, rfl⟩
          have hbo := fun t => (binOp_leq_al t nm pn).trans (by rw [hcmp])
          rw [hcmp] at HBH
          have k1 : wrap64 ((k : Int) - 1) = (j : Int) := by unfold RowKit.wrap64; omega
          have k1' : IntKind.i64.wrap ((k : Int) - 1) = (j : Int) := by rw [IntWalk.i64_in _ (by omega)]; omega
          have j0 : (0 : Int) ≤ (j : Int) := by omega
          have j1 : (j : Int) < (m : Int) := by omega
          have j2 : ((j : Int)).toNat = j := by omega
          rw [← hj] at p0 p1
          clear hpa hk0 hj hcmp
          rcases (show cmp = true ∨ cmp = false by cases cmp <;> simp) with rfl | rfl
          · have HRE := Lib.hid (show R = 1 by rw [← HK3.out, if_pos HBH.out])
            go_wp2_with fail
            go_quiet (fail)
            go_wp2
            go_ret
            exact ⟨ret_int HRE.out.symm, by first | exact bdN HB2.out _ | exact HB2.out⟩
          · have HRE := Lib.hid (show AL.vfrom (AL.prev l (k + 1)) (l.drop (k + 1)) = R by rw [HPN.out, ← HK3.out, if_neg]; rw [HBH.out]; simp)
            go_wp2_with fail
            go_quiet (fail)
            go_wp2
            go_roundg (m - (k + 1))
            case measure => have := HLT.out; omega
            case rel => exact ⟨k + 1, HLT.out, rfl, by go_num, HRE, Lib.hid (by first | exact bdN HB2.out _ | exact HB2.out)⟩
    · have hlt2 : ¬ (k : Int) < (m : Int) := by omega
      have HRE := Lib.hid (show R = 0 by rw [← HK.out, List.drop_eq_nil_of_le (by have := HM.out; omega)]; simp [AL.vfrom])
      go_wp2
      go_ret
      exact ⟨ret_int HRE.out.symm, HB.out⟩
end W
end Go.Proofs.YtcbdhheelddgeaaGreatDoor
namespace Go.Proofs.YtcbdhheelddgeaaGreatDoor
open Go.RowKit K
namespace W
set_option maxRecDepth 100000 in
set_option maxHeartbeats 4000000 in
theorem Valid_ref (l : List AL.Al) (v : Value) (w : World) (hA : AS w v l) (hz : ∀ a ∈ l, a.1.length ≤ 10000 ∧ a.2.length ≤ 10000) : Calls Tryz.prog 17 #[v] w fun e w' => e = .returned (.int .i64 (AL.valid l)) ∧ Below w.heap.size w w' := by
  obtain ⟨A, c, rfl⟩ := hA.slice
  have HA := Lib.hid hA
  have HZ := Lib.hid hz
  obtain ⟨m, hm⟩ : ∃ m, m = l.length := ⟨_, rfl⟩
  have HM := Lib.hid hm
  rw [← hm]
  have m0 : (0 : Int) ≤ (m : Int) := by omega
  obtain ⟨R, hR⟩ : ∃ R, AL.valid l = R := ⟨_, rfl⟩
  rw [hR]
  unfold AL.valid at hR
  clear hA hz
  by_cases h64 : 64 < l.length
  · have t1 : ((64 : Int) < (m : Int)) = True := eq_true (by omega)
    rw [if_pos h64] at hR
    have HRE := Lib.hid hR
    clear h64 hm hR
    go_enter Tryz.func17, Tryz.ntmps17
    go_wp2
    go_ret
    exact ⟨ret_int HRE.out, Below.refl _ _⟩
  have t1 : ((64 : Int) < (m : Int)) = False := eq_false (by omega)
  have m64 : (m : Int) ≤ 64 := by omega
  rw [if_neg h64] at hR
  have HR0 := Lib.hid (show AL.vfrom (AL.prev l 0) (l.drop 0) = R from hR)
  clear h64 hm hR
  go_enter Tryz.func17, Tryz.ntmps17
  go_wp2
  go_loopg [3] m (fun g i wr => ∃ k : Nat, k ≤ m ∧ g = m - k ∧ i = .int .i64 k ∧ Hid (AL.vfrom (AL.prev l k) (l.drop k) = R) ∧ Hid (Below w.heap.size w wr))
  case atStart => exact ⟨0, Nat.zero_le _, rfl, rfl, HR0, Lib.hid (Below.refl _ _)⟩
  case round =>
    obtain ⟨k, hk, rfl, rfl, HK, HB⟩ := hrel
    clear HR0
    by_cases hlt : k < m
    · have hlt2 : (k : Int) < (m : Int) := by omega
      obtain ⟨⟨nm, vl⟩, b, off, ha, rfl, hb, c0, c1⟩ := (HA.out.go HB.out).get (k := k) (by have := HM.out; omega)
      dsimp only at c0 c1
      obtain ⟨z1, z2⟩ := HZ.out _ (List.mem_of_getElem? ha)
      dsimp only at z1 z2
      have hd : l.drop k = (nm, vl) :: l.drop (k + 1) := by
        obtain ⟨h1, h2⟩ := List.getElem?_eq_some_iff.1 ha
        rw [← h2]; exact List.drop_eq_getElem_cons h1
      have hK := HK.out
      rw [hd, AL.vfrom] at hK
      dsimp only at hK
      have HK2 := Lib.hid hK
      have HAK := Lib.hid ha
      have HLT := Lib.hid hlt
      have HN := Lib.hid (name_ref nm wr (by omega))
      obtain ⟨bn, hbn⟩ : ∃ bn, AL.named nm = bn := ⟨_, rfl⟩
      rw [hbn] at HN
      have HBN := Lib.hid hbn
      clear ha hd hK hbn
      go_wp2_with fail
      refine HN.out.mono ?_
      rintro e V2 ⟨rfl, rfl⟩
      have HB2 := HB
      cases bn with
      | false =>
        have HRE := Lib.hid (show R = 10 by rw [← HK2.out, if_pos HBN.out])
        go_wp2
        go_ret
        exact ⟨ret_int HRE.out.symm, HB2.out⟩
      | true =>
        by_cases h3 : 4096 < vl.length
        · have t3 : ((4096 : Int) < (vl.length : Int)) = True := eq_true (by omega)
          have HRE := Lib.hid (show R = 3 by rw [← HK2.out, if_neg (by rw [HBN.out]; simp), if_pos h3])
          clear h3
          go_wp2
          go_ret
          exact ⟨ret_int HRE.out.symm, HB2.out⟩
        have t3 : ((4096 : Int) < (vl.length : Int)) = False := eq_false (by omega)
        have HK3 := Lib.hid (show (if AL.behind (AL.prev l k) nm = true then (1 : Int) else AL.vfrom (some nm) (l.drop (k + 1))) = R by have h9 := HK2.out; rw [if_neg (by rw [HBN.out]; simp), if_neg h3] at h9; exact h9)
        have HPN := Lib.hid (show AL.prev l (k + 1) = some nm by unfold AL.prev; rw [if_neg (by omega), Nat.add_sub_cancel, HAK.out]; rfl)
        clear h3 t1
        by_cases hk0 : k = 0
        · have g0 : decide (0 < k) = false := decide_eq_false (by omega)
          have HRE := Lib.hid (show AL.vfrom (AL.prev l (k + 1)) (l.drop (k + 1)) = R by rw [HPN.out, ← HK3.out, if_neg]; unfold AL.prev; rw [if_pos hk0]; simp [AL.behind])
          clear hk0
          go_wp2_with fail
          go_quiet (fail)
          go_wp2
          go_roundg (m - (k + 1))
          case measure => have := HLT.out; omega
          case rel => exact ⟨k + 1, HLT.out, rfl, by go_num, HRE, Lib.hid (by first | exact bdN HB2.out _ | exact HB2.out)⟩
        · have g0 : decide (0 < k) = true := decide_eq_true (by omega)
          obtain ⟨⟨pn, pv⟩, b', off', hpa, hbb, hb', p0, p1⟩ := (HA.out.go HB2.out).get (k := k - 1) (by have := HM.out; have := HLT.out; omega)
          injection hbb with hbb
          injection hbb with e1 e2
          subst e1 e2
          dsimp only at p0 p1
          obtain ⟨j, hj⟩ : ∃ j, j = k - 1 := ⟨_, rfl⟩
          have HBH := Lib.hid (show AL.behind (AL.prev l k) nm = !decide (pn < nm) by unfold AL.prev; rw [if_neg hk0, hpa]; rfl)
          obtain ⟨cmp, hcmp⟩ : ∃ cmp, (!decide (pn < nm)) = cmp := ⟨_, rfl⟩
          have hbo := fun t => (binOp_geq_al t pn nm).trans (by rw [hcmp])
          rw [hcmp] at HBH
          have k1 : wrap64 ((k : Int) - 1) = (j : Int) := by unfold RowKit.wrap64; omega
          have k1' : IntKind.i64.wrap ((k : Int) - 1) = (j : Int) := by rw [IntWalk.i64_in _ (by omega)]; omega
          have j0 : (0 : Int) ≤ (j : Int) := by omega
          have j1 : (j : Int) < (m : Int) := by omega
          have j2 : ((j : Int)).toNat = j := by omega
          rw [← hj] at p0 p1
          clear hpa hk0 hj hcmp
          rcases (show cmp = true ∨ cmp = false by cases cmp <;> simp) with rfl | rfl
          · have HRE := Lib.hid (show R = 1 by rw [← HK3.out, if_pos HBH.out])
            go_wp2_with fail
            go_quiet (fail)
            go_wp2
            go_ret
            exact ⟨ret_int HRE.out.symm, by first | exact bdN HB2.out _ | exact HB2.out⟩
          · have HRE := Lib.hid (show AL.vfrom (AL.prev l (k + 1)) (l.drop (k + 1)) = R by rw [HPN.out, ← HK3.out, if_neg]; rw [HBH.out]; simp)
            go_wp2_with fail
            go_quiet (fail)
            go_wp2
            go_roundg (m - (k + 1))
            case measure => have := HLT.out; omega
            case rel => exact ⟨k + 1, HLT.out, rfl, by go_num, HRE, Lib.hid (by first | exact bdN HB2.out _ | exact HB2.out)⟩
    · have hlt2 : ¬ (k : Int) < (m : Int) := by omega
      have HRE := Lib.hid (show R = 0 by rw [← HK.out, List.drop_eq_nil_of_le (by have := HM.out; omega)]; simp [AL.vfrom])
      go_wp2
      go_ret
      exact ⟨ret_int HRE.out.symm, HB.out⟩
theorem Get_ref (l : List AL.Al) (n : List UInt8) (v : Value) (w : World) (hA : AS w v l) (hl : l.length ≤ 1000000) : Calls Tryz.prog 41 #[v, .string ⟨n.toArray⟩] w fun e w' => e = .returned (.tuple #[.string ⟨((AL.get l n).getD []).toArray⟩, .bool (AL.get l n).isSome]) ∧ w = w' := by
  obtain ⟨A, c, rfl⟩ := hA.slice
  obtain ⟨R, hR⟩ : ∃ R, AL.get l n = R := ⟨_, rfl⟩
  rw [hR]
  have HA := Lib.hid hA
  have HR := Lib.hid (show AL.get (l.drop 0) n = R from hR)
  have hln : (l.length : Int) ≤ 1000000 := by omega
  clear hA hR
  go_enter Tryz.func41, Tryz.ntmps41
  go_wp2
  go_loopg [6] l.length (fun g i wr => ∃ k : Nat, k ≤ l.length ∧ g = l.length - k ∧ i = .int .i64 k ∧ Hid (AL.get (l.drop k) n = R) ∧ wr = w)
  case atStart => exact ⟨0, Nat.zero_le _, rfl, rfl, HR, rfl⟩
  case round =>
    obtain ⟨k, hk, rfl, rfl, HK, rfl⟩ := hrel
    clear HR
    by_cases hlt : k < l.length
    · have hlt2 : (k : Int) < (l.length : Int) := by omega
      obtain ⟨⟨nm, vl⟩, b, off, ha, rfl, hb, c0, c1⟩ := HA.out.get hlt
      dsimp only at c0 c1
      have hd : l.drop k = (nm, vl) :: l.drop (k + 1) := by
        obtain ⟨h1, h2⟩ := List.getElem?_eq_some_iff.1 ha
        rw [← h2]; exact List.drop_eq_getElem_cons h1
      have hK := HK.out
      rw [hd, AL.get] at hK
      dsimp only at hK
      have HLT := Lib.hid hlt
      clear ha hd
      by_cases hn : nm = n
      · rw [if_pos hn] at hK
        have e1 : (nm == n) = true := by rw [beq_iff_eq]; exact hn
        have HRE := Lib.hid hK
        clear hK hn
        go_wp2
        go_ret2
        rw [← HRE.out]
        exact ⟨rfl, rfl⟩
      · rw [if_neg hn] at hK
        have e1 : (nm == n) = false := by rw [beq_eq_false_iff_ne]; exact hn
        have HRE := Lib.hid hK
        clear hK
        go_wp2
        go_roundg (l.length - (k + 1))
        case measure => have := HLT.out; omega
        case rel => exact ⟨k + 1, HLT.out, rfl, by go_num, HRE, rfl⟩
    · have hlt2 : ¬ (k : Int) < (l.length : Int) := by omega
      have HRE := Lib.hid (show none = R by rw [← HK.out, List.drop_eq_nil_of_le (by omega)]; rfl)
      go_wp2
      go_ret2
      rw [← HRE.out]
      exact ⟨rfl, rfl⟩
end W
end Go.Proofs.YtcbdhheelddgeaaGreatDoor
namespace Go.Proofs.YtcbdhheelddgeaaGreatDoor
open Go.RowKit K
namespace AL
theorem cmp_neg : ∀ a b : Str, Lib.compareBytes a b < 0 ↔ a < b
  | [], [] => by simp [Lib.compareBytes]
  | [], _ :: _ => by simp [Lib.compareBytes]
  | _ :: _, [] => by simp [Lib.compareBytes]
  | x :: a, y :: b => by
    rw [Lib.compareBytes, List.cons_lt_cons_iff]
    by_cases h1 : x < y
    · rw [if_pos h1]; simp [h1]
    rw [if_neg h1]
    by_cases h2 : y < x
    · rw [if_pos h2]
      have : x ≠ y := by rintro rfl; exact h1 h2
      simp [h1, this]
    · rw [if_neg h2]
      have : x = y := by
        have h3 : ¬ x.toNat < y.toNat := fun h => h1 (UInt8.lt_iff_toNat_lt.2 h)
        have h4 : ¬ y.toNat < x.toNat := fun h => h2 (UInt8.lt_iff_toNat_lt.2 h)
        exact UInt8.toNat_inj.1 (by omega)
      simp [this, cmp_neg a b]
theorem cmp_zero : ∀ a b : Str, Lib.compareBytes a b = 0 ↔ a = b
  | [], [] => by simp [Lib.compareBytes]
  | [], _ :: _ => by simp [Lib.compareBytes]
  | _ :: _, [] => by simp [Lib.compareBytes]
  | x :: a, y :: b => by
    rw [Lib.compareBytes, List.cons.injEq]
    by_cases h1 : x < y
    · rw [if_pos h1]
      have : x ≠ y := by rintro rfl; exact absurd h1 (by rw [UInt8.lt_iff_toNat_lt]; omega)
      simp [this]
    rw [if_neg h1]
    by_cases h2 : y < x
    · rw [if_pos h2]
      have : x ≠ y := by rintro rfl; exact h1 h2
      simp [this]
    · rw [if_neg h2]
      have : x = y := by
        have h3 : ¬ x.toNat < y.toNat := fun h => h1 (UInt8.lt_iff_toNat_lt.2 h)
        have h4 : ¬ y.toNat < x.toNat := fun h => h2 (UInt8.lt_iff_toNat_lt.2 h)
        exact UInt8.toNat_inj.1 (by omega)
      simp [this, cmp_zero a b]
/-- Where a name lies, or would lie, in a list in order. -/
theorem at_pos {l : List Al} (h : Sorted l) (n : Str) : (low l n).length ≤ l.length ∧ (∀ (t : Nat) (a : Al), l[t]? = some a → (a.1 < n ↔ t < (low l n).length)) ∧ (∀ a : Al, l[(low l n).length]? = some a → (a.1 = n ↔ (get l n).isSome = true)) ∧ ((low l n).length = l.length → get l n = none) := by
  obtain ⟨A, B, s⟩ := split n h
  have hlow := s.low_eq
  have hlen := s.len
  rw [hlow]
  have hhi : ∀ (t : Nat) (a : Al), ((match get l n with | none => [] | some v => [(n, v)]) ++ B)[t]? = some a → ¬ a.1 < n := by
    intro t a ha
    have hm := List.mem_of_getElem? ha
    rcases List.mem_append.1 hm with h1 | h1
    · cases hg : get l n with
      | none => rw [hg] at h1; simp at h1
      | some v => rw [hg] at h1; simp at h1; subst h1; exact List.lt_irrefl _
    · intro h2; exact List.lt_irrefl _ (List.lt_trans h2 (s.high a h1))
  refine ⟨by omega, fun t a ha => ?_, fun a ha => ?_, fun he => ?_⟩
  · rw [s.eq] at ha
    by_cases ht : t < A.length
    · rw [List.getElem?_append_left ht] at ha
      exact ⟨fun _ => ht, fun _ => s.low a (List.mem_of_getElem? ha)⟩
    · rw [List.getElem?_append_right (by omega)] at ha
      exact ⟨fun h1 => absurd h1 (hhi _ a ha), fun h1 => absurd h1 ht⟩
  · rw [s.eq, List.getElem?_append_right (Nat.le_refl _), Nat.sub_self] at ha
    cases hg : get l n with
    | none =>
      rw [hg, List.nil_append] at ha
      have := s.high a (List.mem_of_getElem? ha)
      constructor
      · intro e; rw [e] at this; exact absurd this (List.lt_irrefl _)
      · intro e; simp at e
    | some v =>
      rw [hg] at ha
      simp at ha
      rw [← ha]
      simp
  · cases hg : get l n with
    | none => rfl
    | some v => rw [hg] at hlen; simp at hlen; omega
end AL
namespace W
theorem placeF_any (a n : List UInt8) (b : List UInt8) (w : World) : Calls Tryz.prog 51 #[.agg #[.string ⟨a.toArray⟩, .string ⟨b.toArray⟩], .string ⟨n.toArray⟩] w fun e w' => e = .returned (.int .i64 (Lib.compareBytes a n)) ∧ Below w.heap.size w w' := by
  have HC := Lib.hid (fun V => Tryz.strings_Compare ⟨a.toArray⟩ ⟨n.toArray⟩ V)
  have a0 := Lib.cell_of_heap (al_new w (.cells #[.string ⟨a.toArray⟩, .string ⟨b.toArray⟩] 32)) 0
  have HB := Lib.hid (balloc w (.cells #[.string ⟨a.toArray⟩, .string ⟨b.toArray⟩] 32))
  go_enter Tryz.func51, Tryz.ntmps51
  go_wp2_with fail
  refine (HC.out _).mono ?_
  rintro e w1 ⟨rfl, rfl⟩
  go_wp2
  go_ret
  exact ⟨rfl, HB.out⟩
set_option maxRecDepth 100000 in
set_option maxHeartbeats 4000000 in
theorem bs_any (l : List AL.Al) (n : List UInt8) (v : Value) (w : World) (hA : AS w v l) (hs : AL.Sorted l) (hl : l.length ≤ 64) :
    Calls Tryz.prog 50 #[v, .string ⟨n.toArray⟩, .func (Fn.func 51) #[] #[]] w fun e w' => e = .returned (.tuple #[.int .i64 ((AL.low l n).length : Nat), .bool (AL.get l n).isSome]) ∧ Below w.heap.size w w' := by
  obtain ⟨A, c, rfl⟩ := hA.slice
  obtain ⟨p1, p2, p3, p4⟩ := AL.at_pos hs n
  obtain ⟨p, hp⟩ : ∃ p, p = (AL.low l n).length := ⟨_, rfl⟩
  obtain ⟨f, hf⟩ : ∃ f, f = (AL.get l n).isSome := ⟨_, rfl⟩
  rw [← hp] at p1 p2 p3 p4 ⊢
  rw [← hf] at p3 ⊢
  obtain ⟨m, hm⟩ : ∃ m, m = l.length := ⟨_, rfl⟩
  have HM := Lib.hid hm
  rw [← hm] at p1 p4 hl ⊢
  have m0 : (0 : Int) ≤ (m : Int) := by omega
  have m64 : (m : Int) ≤ 64 := by omega
  have HP1 := Lib.hid p1
  have HP2 := Lib.hid p2
  have HP3 := Lib.hid p3
  have HP4 := Lib.hid (show p = m → f = false from fun e => by rw [hf, p4 e]; rfl)
  have HA := Lib.hid hA
  have HF := Lib.hid (fun a b V => placeF_any a n b V)
  clear hA p1 p2 p3 p4 hs hl hp hf hm
  go_enter Tryz.func50, Tryz.ntmps50
  go_wp2
  go_loopg [9, 10] m (fun g x y wr => ∃ lo hi : Nat, x = .int .i64 lo ∧ y = .int .i64 hi ∧ lo ≤ p ∧ p ≤ hi ∧ hi ≤ m ∧ g = hi - lo ∧ Hid (Below w.heap.size w wr))
  case atStart => exact ⟨0, m, rfl, rfl, Nat.zero_le _, HP1.out, Nat.le_refl _, by omega, Lib.hid (Below.refl _ _)⟩
  case round =>
    obtain ⟨lo, hi, rfl, rfl, h1, h2, h3, rfl, HB⟩ := hrel
    by_cases hlt : lo < hi
    · have hlt2 : (lo : Int) < (hi : Int) := by omega
      obtain ⟨⟨nm, vl⟩, b, off, ha, rfl, hb, c0, c1⟩ := (HA.out.go HB.out).get (k := (lo + hi) / 2) (by have := HM.out; omega)
      dsimp only at c0 c1
      have hi2 := HP2.out _ _ ha
      dsimp only at hi2
      have HI := Lib.hid hi2
      have HH := Lib.hid (And.intro h1 (And.intro h2 (And.intro h3 hlt)))
      obtain ⟨R, hR⟩ : ∃ R, Lib.compareBytes nm n = R := ⟨_, rfl⟩
      have HN := Lib.hid (show (R < 0 ↔ nm < n) from hR ▸ AL.cmp_neg nm n)
      have HFF := Lib.hid (fun V => show Calls Tryz.prog 51 #[.agg #[.string ⟨nm.toArray⟩, .string ⟨vl.toArray⟩], .string ⟨n.toArray⟩] V (fun e w' => e = .returned (.int .i64 R) ∧ Below V.heap.size V w') from hR ▸ HF.out nm vl V)
      clear ha hi2 hR
      by_cases hneg : R < 0
      · have HLO := Lib.hid (show (lo + hi) / 2 < p from HI.out.1 (HN.out.1 hneg))
        go_wp2_with fail
        refine (HFF.out _).mono ?_
        rintro e w1 ⟨rfl, hb1⟩
        have HB1 := Lib.hid (btr HB.out hb1)
        clear hb1
        go_wp2
        go_roundg (hi - ((lo + hi) / 2 + 1))
        case measure => have := HH.out; omega
        case rel => exact ⟨(lo + hi) / 2 + 1, hi, by first | go_num | (simp; unfold RowKit.wrap64; omega), rfl, by have := HLO.out; omega, by have := HH.out; omega, by have := HH.out; omega, rfl, HB1⟩
      · have HLO := Lib.hid (show p ≤ (lo + hi) / 2 from by
          rcases Nat.lt_or_ge ((lo + hi) / 2) p with h | h
          · exact absurd (HN.out.2 (HI.out.2 h)) hneg
          · exact h)
        go_wp2_with fail
        refine (HFF.out _).mono ?_
        rintro e w1 ⟨rfl, hb1⟩
        have HB1 := Lib.hid (btr HB.out hb1)
        clear hb1
        go_wp2
        go_roundg ((lo + hi) / 2 - lo)
        case measure => have := HH.out; omega
        case rel => exact ⟨lo, (lo + hi) / 2, rfl, by first | rfl | go_num | (simp; omega), by have := HH.out; omega, HLO.out, by have := HH.out; omega, rfl, HB1⟩
    · have hlt2 : ¬ (lo : Int) < (hi : Int) := by omega
      obtain rfl : lo = p := by omega
      by_cases hend : lo < m
      · have hend2 : (lo : Int) < (m : Int) := by omega
        obtain ⟨⟨nm, vl⟩, b, off, ha, rfl, hb, c0, c1⟩ := (HA.out.go HB.out).get (k := lo) (by have := HM.out; omega)
        dsimp only at c0 c1
        have hi3 := HP3.out _ ha
        dsimp only at hi3
        obtain ⟨R, hR⟩ : ∃ R, Lib.compareBytes nm n = R := ⟨_, rfl⟩
        have HFF := Lib.hid (fun V => show Calls Tryz.prog 51 #[.agg #[.string ⟨nm.toArray⟩, .string ⟨vl.toArray⟩], .string ⟨n.toArray⟩] V (fun e w' => e = .returned (.int .i64 R) ∧ Below V.heap.size V w') from hR ▸ HF.out nm vl V)
        have HZ := Lib.hid (show (R == 0) = f by rw [Bool.eq_iff_iff, beq_iff_eq, ← hR, AL.cmp_zero]; exact hi3)
        clear ha hi3 hR
        go_wp2_with fail
        refine (HFF.out _).mono ?_
        rintro e w1 ⟨rfl, hb1⟩
        have HB1 := Lib.hid (btr HB.out hb1)
        have hz := HZ.out
        clear hb1
        go_wp2
        go_ret2
        exact ⟨rfl, HB1.out⟩
      · have hend2 : ¬ (lo : Int) < (m : Int) := by omega
        have HFL := Lib.hid (HP4.out (by omega))
        go_wp2
        go_ret2
        rw [HFL.out]
        exact ⟨rfl, HB.out⟩
theorem place_any (l : List AL.Al) (n : List UInt8) (v : Value) (w : World) (hA : AS w v l) (hs : AL.Sorted l) (hl : l.length ≤ 64) :
    Calls Tryz.prog 20 #[v, .string ⟨n.toArray⟩] w fun e w' => e = .returned (.tuple #[.int .i64 ((AL.low l n).length : Nat), .bool (AL.get l n).isSome]) ∧ Below w.heap.size w w' := by
  obtain ⟨A, c, rfl⟩ := hA.slice
  have HC := Lib.hid (bs_any l n _ w hA hs hl)
  clear hA hs
  go_enter Tryz.func20, Tryz.ntmps20
  go_wp2_with fail
  refine HC.out.mono ?_
  rintro e w1 ⟨rfl, hb⟩
  have HB := Lib.hid hb
  clear hb
  go_wp2
  go_ret2
  exact ⟨rfl, HB.out⟩
end W
end Go.Proofs.YtcbdhheelddgeaaGreatDoor
