/- Chapter 8: the law WordsBack. -/
import Derived.Test.YtfncecpdnkpokaaV08
import Derived.Test.YtfncecpdnkpokaaW08s
import Derived.Test.YtfncecpdnkpokaaYS
import Derived.Test.YtfncecpdnkpokaaW08p
namespace Go.Proofs.Ytfncecpdnkpokaa
open Go.RowKit K
open WP (GP gp gpL)
namespace W
set_option maxRecDepth 100000 in
set_option maxHeartbeats 4000000 in
theorem WordsBack_any (hB : BrAll) (s : List UInt8) (w : World) : Calls Try.prog 3 #[.string ⟨s.toArray⟩] w fun e w' => e = .returned (.bool true) ∧ Below w.heap.size w w' := by
  have HAW := Lib.hid (fun V => awake8_any hB V)
  by_cases h1 : 500 < s.length
  · have h1' : ((500 : Int) < (s.length : Int)) = True := eq_true (by omega)
    clear hB
    go_enter Try.func3, Try.ntmps3
    go_wp2_with fail
    refine (HAW.out _).mono ?_
    rintro e w1 ⟨rfl, hb⟩
    go_wp2
    go_ret
    exact ⟨rfl, hb⟩
  have h1' : ((500 : Int) < (s.length : Int)) = False := eq_false (by omega)
  cases hp : WP.parse s 0 with
  | error x =>
    have HP := Lib.hid (show Calls Try.prog 5 #[.string ⟨s.toArray⟩] w (ParseOut w (.error x)) from by rw [← hp]; exact Parse_any hB _ w (by omega))
    have hx := WP.parse_code hp
    obtain ⟨x1, x2⟩ := x
    dsimp only at hx
    have e1 : (x2 == 0) = false := by rw [beq_eq_false_iff_ne]; exact hx
    have e2 : (x2 != 0) = true := by simp [bne, e1]
    clear hB hp hx h1
    go_enter Try.func3, Try.ntmps3
    go_wp2_with fail
    refine HP.out.mono ?_
    rintro e w1 ⟨rfl, hb⟩
    have HB := Lib.hid hb
    clear hb
    go_wp2_with fail
    refine (HAW.out _).mono ?_
    rintro e w2 ⟨rfl, hb⟩
    have HB2 := Lib.hid (HB.out.trans (hb.mono HB.out.size))
    clear hb
    go_wp2
    go_ret
    exact ⟨rfl, HB2.out⟩
  | ok ps =>
    obtain ⟨hbk, hsh, hln⟩ := WP.show_back hp (by omega)
    obtain ⟨hc, hz⟩ := WP.parse_wt hp
    obtain ⟨t, ht⟩ : ∃ t, WP.outL 0 false (gpL ps) = t := ⟨_, rfl⟩
    rw [ht] at hbk hsh hln
    have HP := Lib.hid (show Calls Try.prog 5 #[.string ⟨s.toArray⟩] w (ParseOut w (.ok ps)) from by rw [← hp]; exact Parse_any hB _ w (by omega))
    have HPT := Lib.hid (fun V => show Calls Try.prog 5 #[.string ⟨t.toArray⟩] V (ParseOut V (.ok ps)) from by rw [← hbk]; exact Parse_any hB _ V (by omega))
    have HSH := Lib.hid (fun v V (hV : Stand V v (gpL ps)) => show Calls Try.prog 6 #[v] V (fun e w' => e = .returned (.tuple #[.string ⟨t.toArray⟩, .int .i64 0]) ∧ Below V.heap.size V w') from by
      have := Show_any hB v (gpL ps) V hV (by omega)
      rw [hsh] at this
      exact this)
    have HVA := Lib.hid (fun v V (hV : Stand V v (gpL ps)) => show Calls Try.prog 8 #[v] V (fun e w' => e = .returned (.int .i64 0) ∧ Below V.heap.size V w') from by
      have := Valid_any hB v (gpL ps) V hV (by omega)
      rw [hsh] at this
      exact this)
    have HSM := Lib.hid (fun v u V (hV : Stand V v (gpL ps)) (hU : Stand V u (gpL ps)) => SameR_any (gpL ps) v u V (by omega) hV hU)
    clear hB hp hbk hsh hln hc hz ht h1
    go_enter Try.func3, Try.ntmps3
    go_wp2_with fail
    refine HP.out.mono ?_
    rintro e w1 ⟨A, ca, rfl, hb, hrep⟩
    have HB1 := Lib.hid hb
    have HL1 := Lib.hid (Stand.of_parse (cap := ca) hrep)
    clear hb hrep
    go_wp2_with fail
    refine (HSH.out _ _ HL1.out).mono ?_
    rintro e w2 ⟨rfl, hb⟩
    have HB2 := Lib.hid (btr HB1.out hb)
    have HL2 := Lib.hid (HL1.out.go hb)
    clear hb HL1
    go_wp2_with fail
    refine (HPT.out _).mono ?_
    rintro e w3 ⟨A2, ca2, rfl, hb, hrep⟩
    have HB3 := Lib.hid (btr HB2.out hb)
    have HL3 := Lib.hid (HL2.out.go hb)
    have HM3 := Lib.hid (Stand.of_parse (cap := ca2) hrep)
    clear hb hrep HL2
    go_wp2_with fail
    refine (HSH.out _ _ HM3.out).mono ?_
    rintro e w4 ⟨rfl, hb⟩
    have HB4 := Lib.hid (btr HB3.out hb)
    have HL4 := Lib.hid (HL3.out.go hb)
    have HM4 := Lib.hid (HM3.out.go hb)
    clear hb HL3 HM3
    go_wp2_with fail
    refine (HSM.out _ _ _ HL4.out HM4.out).mono ?_
    rintro e w5 ⟨rfl, hb⟩
    have HB5 := Lib.hid (btr HB4.out hb)
    have HL5 := Lib.hid (HL4.out.go hb)
    clear hb HL4 HM4
    go_wp2_with fail
    refine (HVA.out _ _ HL5.out).mono ?_
    rintro e w6 ⟨rfl, hb⟩
    have HB6 := Lib.hid (btr HB5.out hb)
    clear hb HL5
    go_wp2_with fail
    refine (HAW.out _).mono ?_
    rintro e w7 ⟨rfl, hb⟩
    have HB7 := Lib.hid (btr HB6.out hb)
    clear hb
    go_wp2
    go_ret
    exact ⟨rfl, HB7.out⟩
theorem WordsBack_all (s : List UInt8) (w : World) : Calls Try.prog 3 #[.string ⟨s.toArray⟩] w fun e w' => e = .returned (.bool true) ∧ Below w.heap.size w w' := WordsBack_any brAll s w
end W
end Go.Proofs.Ytfncecpdnkpokaa
