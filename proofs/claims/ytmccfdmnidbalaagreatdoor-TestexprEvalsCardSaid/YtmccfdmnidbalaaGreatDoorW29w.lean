/- Chapter 29: the reference's Small and Short, IsPath. -/
import Derived.Test.YtmccfdmnidbalaaGreatDoorW29v
namespace Go.Proofs.YtmccfdmnidbalaaGreatDoor
open Go.RowKit K
namespace P
def lim9 (k : Nat) : Int := 9300 * k
theorem lim9_step {k : Nat} {z a b : Int} (h : z ≤ lim9 k) (ha : a ≤ 300) (hb : b ≤ 9000) : z + a + b ≤ lim9 (k + 1) := by unfold lim9 at *; omega
theorem lim9_top {k : Nat} (h : k ≤ 40) : lim9 k ≤ 1000000 := by unfold lim9; omega
def smOK (f : Fi) : Prop := f.1.length ≤ 300 ∧ f.2.2.length ≤ 9000
theorem getD_take_all {p : Fi → Prop} {fs : List Fi} {k : Nat} (h : ∀ f ∈ fs.take k, p f) (hk : k < fs.length) (hp : p (fs.getD k fz)) : ∀ f ∈ fs.take (k + 1), p f := by
  intro f hf
  rw [List.take_succ_eq_append_getElem hk, List.mem_append] at hf
  rcases hf with hf | hf
  · exact h f hf
  · simp only [List.mem_singleton] at hf
    rw [hf]
    rw [List.getD_eq_getElem?_getD, List.getElem?_eq_getElem hk] at hp
    exact hp
theorem str_take_all {p : List UInt8 → Prop} {fs : List (List UInt8)} {k : Nat} (h : ∀ f ∈ fs.take k, p f) (hk : k < fs.length) (hp : p (fs.getD k [])) : ∀ f ∈ fs.take (k + 1), p f := by
  intro f hf
  rw [List.take_succ_eq_append_getElem hk, List.mem_append] at hf
  rcases hf with hf | hf
  · exact h f hf
  · simp only [List.mem_singleton] at hf
    rw [hf]
    rw [List.getD_eq_getElem?_getD, List.getElem?_eq_getElem hk] at hp
    exact hp
end P
namespace W
/-- A truth value is returned, and what it tells. -/
def BWhen (p : Prop) (e : Ending) : Prop := ∃ b, e = .returned (.bool b) ∧ (b = true → p)
set_option maxHeartbeats 1000000 in
theorem IsPath_ref (s : List UInt8) (w : World) (hl : s.length ≤ 1000000) :
    Calls Tryz.prog 13 #[.string ⟨s.toArray⟩] w fun e w' => e = .returned (.bool (P.pathB s)) ∧ Below w.heap.size w w' := by
  by_cases h0 : s = [47]
  · subst h0
    go_enter Tryz.func13, Tryz.ntmps13
    go_wp2
    go_ret
    exact ⟨rfl, Below.refl _ _⟩
  have d0 : (s == [47]) = false := by simpa using h0
  have HR := Lib.hid (show P.pathB s = (decide (s.length ≤ 128) && s.head? == some 47 && (P.split47 (s.drop 1)).all P.nameB) by unfold P.pathB; rw [d0]; rfl)
  generalize P.pathB s = R at HR
  by_cases h2 : s.length < 2
  · have e2 : ((s.length : Int) < (2 : Int)) = True := eq_true (by omega)
    have HF := Lib.hid (show R = false by
      rw [HR.out]
      match s, h2, h0 with
      | [], _, _ => rfl
      | [c], _, _ =>
        have : (P.split47 (([c] : List UInt8).drop 1)).all P.nameB = false := by
          show (P.split47 []).all P.nameB = false
          decide
        rw [this, Bool.and_false])
    clear h2 h0
    go_enter Tryz.func13, Tryz.ntmps13
    go_wp2
    go_ret
    exact ⟨ret_bool HF.out.symm, Below.refl _ _⟩
  have e2 : ((s.length : Int) < (2 : Int)) = False := eq_false (by omega)
  by_cases h1 : s.length ≤ 128
  case neg =>
    have e1 : ((128 : Int) < (s.length : Int)) = True := eq_true (by omega)
    have HF := Lib.hid (show R = false by rw [HR.out, decide_eq_false h1]; rfl)
    clear h1 h0 h2
    go_enter Tryz.func13, Tryz.ntmps13
    go_wp2
    go_ret
    exact ⟨ret_bool HF.out.symm, Below.refl _ _⟩
  have e1 : ((128 : Int) < (s.length : Int)) = False := eq_false (by omega)
  have hhd : (s.head? == some 47) = (bt s 0 == 47) := by
    match s, h2 with
    | c :: r, _ =>
      rw [Bool.eq_iff_iff]
      simp only [List.head?_cons, beq_iff_eq, Option.some.injEq]
      show c = 47 ↔ (c.toNat : Int) = 47
      constructor
      · rintro rfl; rfl
      · exact P.u47
  cases hh : (bt s 0 == 47) with
  | false =>
    rw [hhd, hh] at HR
    have HF := Lib.hid (show R = false by rw [HR.out]; simp)
    have hh2 : (bt s 0 != 47) = true := by unfold bne; rw [hh]; rfl
    have hp0 : (0 : Int) < (s.length : Int) := by omega
    clear h1 h0 hhd h2
    go_enter Tryz.func13, Tryz.ntmps13
    go_wp2
    go_ret
    exact ⟨ret_bool HF.out.symm, Below.refl _ _⟩
  | true =>
    rw [hhd, hh] at HR
    have hh2 : (bt s 0 != 47) = false := by unfold bne; rw [hh]; rfl
    have hpos' : (1 : Int) ≤ (s.length : Int) := by omega
    have hcut : cut s 1 s.length = s.drop 1 := cut_end s 1
    have HS := Lib.hid (fun w => parts_ref (s.drop 1) w (by simp; omega))
    have HFR := Lib.hid (show R = (P.split47 (s.drop 1)).all P.nameB by rw [HR.out, decide_eq_true h1]; simp)
    have hlen := P.split47_len (s.drop 1)
    have HLE := Lib.hid (P.split47_le (s.drop 1))
    rw [List.length_drop] at hlen
    have htl : (s.drop 1).length ≤ 1000000 := by rw [List.length_drop]; omega
    generalize s.drop 1 = t at *
    generalize P.split47 t = ls at *
    have hll : ls.length ≤ 200 := by omega
    have HTL := Lib.hid htl
    clear h1 h0 HR hlen hhd h2 htl
    go_enter Tryz.func13, Tryz.ntmps13
    go_wp2_with fail
    refine (HS.out _).mono ?_
    rintro e w1 ⟨v1, rfl, hown, hb1⟩
    obtain ⟨A, cap, rfl, q1, q2, -, hSL⟩ := own_form hown
    have HSL := Lib.hid hSL
    have HB1 := Lib.hid hb1
    clear hown hb1 hSL
    go_wp2
    go_loop [4] (fun i => ∃ k : Nat, k ≤ ls.length ∧ i = .int .i64 k ∧ Hid ((ls.drop k).all P.nameB = R)) (fun i => ls.length - (intOf i).toNat)
    case atStart => exact ⟨0, by omega, rfl, HFR.out.symm⟩
    case round =>
      obtain ⟨k, hk, rfl, HK⟩ := hrel
      by_cases hlt : k < ls.length
      · obtain ⟨b, off, rfl, hb, hc⟩ := HSL.out.get hlt
        have HD := Lib.hid (show ls.drop k = ls.getD k [] :: ls.drop (k + 1) by rw [List.getD_eq_getElem?_getD, List.getElem?_eq_getElem hlt, List.drop_eq_getElem_cons hlt]; rfl)
        have hmem : ls.getD k [] ∈ ls := by rw [List.getD_eq_getElem?_getD, List.getElem?_eq_getElem hlt]; exact List.getElem_mem hlt
        have HC := Lib.hid (fun w => name_ref (ls.getD k []) w (Nat.le_trans (HLE.out _ hmem) HTL.out))
        generalize ls.getD k [] = x at *
        have k0 : (0 : Int) ≤ (k : Int) := by omega
        have k1 : (k : Int) < (ls.length : Int) := by omega
        have HX := Lib.hid (show (ls.drop k).all P.nameB = (P.nameB x && (ls.drop (k + 1)).all P.nameB) by rw [HD.out, List.all_cons])
        generalize P.nameB x = N at *
        clear hmem HD
        cases N with
        | false =>
          have HF := Lib.hid (show R = false by rw [← HK.out, HX.out]; rfl)
          go_wp2_with fail
          refine (HC.out _).mono ?_
          rintro e w2 ⟨rfl, rfl⟩
          go_wp2
          go_ret
          exact ⟨ret_bool HF.out.symm, HB1.out⟩
        | true =>
          have HF := Lib.hid (show (ls.drop (k + 1)).all P.nameB = R by rw [← HK.out, HX.out]; rfl)
          go_wp2_with fail
          refine (HC.out _).mono ?_
          rintro e w2 ⟨rfl, rfl⟩
          go_wp2
          go_round
          case rel => exact ⟨k + 1, by omega, by go_num, HF.out⟩
          case measure => simp [intOf]; omega
      · have HF := Lib.hid (show R = true by rw [← HK.out, List.drop_eq_nil_of_le (by omega)]; rfl)
        go_wp2
        go_ret
        exact ⟨ret_bool HF.out.symm, HB1.out⟩
theorem Short_ref (v : Value) (ls : List (List UInt8)) (w : World) (hV : ∃ A cap, v = .slice A ls.length cap ∧ SL w A ls) (hl : ls.length ≤ 9223372036854775807) :
    Calls Tryz.prog 8 #[v, .int .i64 12, .int .i64 40] w fun e w' => BWhen (ls.length ≤ 12 ∧ ∀ s ∈ ls, s.length ≤ 40) e ∧ w = w' := by
  obtain ⟨A, cap, rfl, hSL⟩ := hV
  go_enter Tryz.func8, Tryz.ntmps8
  go_wp2
  go_loop [7] (fun i => ∃ k : Nat, k ≤ ls.length ∧ k ≤ 13 ∧ i = .int .i64 k ∧ Hid (∀ s ∈ ls.take k, s.length ≤ 40)) (fun i => ls.length - (intOf i).toNat)
  case atStart => exact ⟨0, by omega, by omega, rfl, by simp [Hid]⟩
  case round =>
    obtain ⟨k, hk, hk13, rfl, HK⟩ := hrel
    by_cases hlt : k < ls.length
    · have k1 : ((k : Int) < (ls.length : Int)) = True := eq_true (by omega)
      by_cases h12 : k ≤ 12
      · have k2 : ((k : Int) ≤ 12) = True := eq_true (by omega)
        obtain ⟨b, off, rfl, hb, hc⟩ := hSL.get hlt
        have HST := Lib.hid (fun hp => P.str_take_all (p := fun s => s.length ≤ 40) HK.out hlt hp)
        generalize ls.getD k [] = x at *
        by_cases hx : x.length ≤ 40
        · have e1 : ((40 : Int) < (x.length : Int)) = False := eq_false (by omega)
          have HG := Lib.hid (HST.out hx)
          have k3 : (k : Int) < (ls.length : Int) := by omega
          have k0 : (0 : Int) ≤ (k : Int) := by omega
          clear hx k1
          go_wp2
          go_round
          case rel => exact ⟨k + 1, by omega, by omega, by go_num, HG.out⟩
          case measure => simp [intOf]; omega
        · have e1 : ((40 : Int) < (x.length : Int)) = True := eq_true (by omega)
          have k3 : (k : Int) < (ls.length : Int) := by omega
          have k0 : (0 : Int) ≤ (k : Int) := by omega
          clear hx k1
          go_wp2
          go_ret
          exact ⟨⟨_, rfl, fun h => by cases h⟩, rfl⟩
      · have k2 : ((k : Int) ≤ 12) = False := eq_false (by omega)
        have k4 : ((ls.length : Int) ≤ 12) = False := eq_false (by omega)
        go_wp2
        go_ret
        exact ⟨⟨_, rfl, fun h => by simp at h⟩, rfl⟩
    · have k1 : ((k : Int) < (ls.length : Int)) = False := eq_false (by omega)
      have HG := Lib.hid (show ∀ s ∈ ls, s.length ≤ 40 by have := HK.out; rwa [List.take_of_length_le (by omega)] at this)
      go_wp2
      go_ret
      exact ⟨⟨_, rfl, fun h => ⟨by simp at h; omega, HG.out⟩⟩, rfl⟩
set_option maxHeartbeats 1000000 in
theorem Small_ref (v : Value) (fs : List Fi) (w : World) (hV : FV w v fs) (hn : fs.length ≤ 40) :
    Calls Tryz.prog 9 #[v] w fun e w' => BWhen (∀ f ∈ fs, P.smOK f) e ∧ Below w.heap.size w w' := by
  obtain ⟨A, cap, rfl, hc1, hc2, hF⟩ := hV
  have HF := Lib.hid hF
  clear hF
  go_enter Tryz.func9, Tryz.ntmps9
  go_wp2
  go_loopw [3, 4] (fun n i wr => ∃ (k : Nat) (z : Int), k ≤ fs.length ∧ n = .int .i64 z ∧ 0 ≤ z ∧ i = .int .i64 k ∧ Below w.heap.size w wr ∧ Hid ((∀ f ∈ fs.take k, P.smOK f) ∧ z ≤ P.lim9 k)) (fun _ i _ => fs.length - (intOf i).toNat)
  case atStart => exact ⟨0, 0, by omega, rfl, by omega, rfl, Below.refl _ _, by simp, by decide⟩
  case round =>
    obtain ⟨k, z, hk, rfl, hz0, rfl, hbw, HK⟩ := hrel
    have hz1 : z ≤ 1000000 := Int.le_trans HK.out.2 (P.lim9_top (by omega))
    have HB := Lib.hid hbw
    by_cases hlt : k < fs.length
    · have k1 : ((k : Int) < (fs.length : Int)) = True := eq_true (by omega)
      have k2 : ((k : Int) < 140) = True := eq_true (by omega)
      by_cases hz : z < 40000
      · have z1 : (z < 40000) = True := eq_true hz
        obtain ⟨b, off, rfl, hb, c0, c1, c2⟩ := (HF.out.below hbw) k hlt
        have HST := Lib.hid (fun hp => P.getD_take_all (p := P.smOK) HK.out.1 hlt hp)
        obtain ⟨⟨q, d, cc⟩, hf⟩ : ∃ f, fs.getD k fz = f := ⟨_, rfl⟩
        rw [hf] at c0 c1 c2 HST
        simp only at c0 c1 c2
        have k0 : (0 : Int) ≤ (k : Int) := by omega
        have k3 : (k : Int) < (fs.length : Int) := by omega
        clear hf k1 hz hbw
        by_cases hq : q.length ≤ 300
        · have q1 : ((300 : Int) < (q.length : Int)) = False := eq_false (by omega)
          by_cases hcc : cc.length ≤ 9000
          · have q2 : ((9000 : Int) < (cc.length : Int)) = False := eq_false (by omega)
            have HG : Hid ((∀ f ∈ fs.take (k + 1), P.smOK f) ∧ z + q.length + cc.length ≤ P.lim9 (k + 1)) := ⟨HST.out ⟨hq, hcc⟩, P.lim9_step HK.out.2 (by omega) (by omega)⟩
            go_wp2_with fail
            go_quiet (fail)
            go_wp2
            go_roundw
            case rel => exact ⟨k + 1, _, by omega, rfl, by omega, by go_num, bdN0 HB.out _, HG.out⟩
            case measure => simp [intOf]; omega
          · have q2 : ((9000 : Int) < (cc.length : Int)) = True := eq_true (by omega)
            go_wp2
            go_ret
            exact ⟨⟨_, rfl, fun h => by cases h⟩, HB.out⟩
        · have q1 : ((300 : Int) < (q.length : Int)) = True := eq_true (by omega)
          go_wp2
          go_ret
          exact ⟨⟨_, rfl, fun h => by cases h⟩, HB.out⟩
      · have z1 : (z < 40000) = False := eq_false hz
        have n1 : ((fs.length : Int) ≤ 140) = True := eq_true (by omega)
        clear hbw hz
        go_wp2
        go_ret
        exact ⟨⟨_, rfl, fun h => by cases h⟩, HB.out⟩
    · have k1 : ((k : Int) < (fs.length : Int)) = False := eq_false (by omega)
      have n1 : ((fs.length : Int) ≤ 140) = True := eq_true (by omega)
      have HG := Lib.hid (show ∀ s ∈ fs, P.smOK s by have := HK.out.1; rwa [List.take_of_length_le (by omega)] at this)
      clear hbw
      go_wp2
      go_ret
      exact ⟨⟨_, rfl, fun _ => HG.out⟩, HB.out⟩
end W
end Go.Proofs.YtmccfdmnidbalaaGreatDoor
