/- Chapter 8: the law WordsQuotes. -/
import Derived.Test.YtijibooneochjaaV08
import Derived.Test.YtijibooneochjaaQ08
import Derived.Test.YtijibooneochjaaP08q
import Derived.Test.YtijibooneochjaaP08d
namespace Go.Proofs.Ytijibooneochjaa
open Go.RowKit K
open WP (GP gp gpL)
namespace W
theorem quote_len (s : List UInt8) : (P.quote s).length ≤ 4 * s.length + 2 := by
  unfold P.quote
  split
  · omega
  · have h : ∀ t : List UInt8, (P.quoteBody t).length ≤ 4 * t.length := by
      intro t
      induction t with
      | nil => exact Nat.le_refl _
      | cons c r ih =>
        rw [P.quoteBody]
        split
        · simp only [List.length_append, List.length_cons, List.length_nil]; omega
        · simp only [List.length_append, List.length_cons, List.length_nil]; omega
    have := h s
    simp only [List.length_append, List.length_cons, List.length_nil]
    omega
set_option maxRecDepth 100000 in
set_option maxHeartbeats 4000000 in
theorem WordsQuotes_any (hB : BrAll) (s : List UInt8) (w : World) : Calls Try.prog 3 #[.string ⟨s.toArray⟩] w fun e w' => e = .returned (.bool true) ∧ Below w.heap.size w w' := by
  have HAW := Lib.hid (fun V => awake8_any hB V)
  by_cases h1 : 500 < s.length
  · have h1' : ((500 : Int) < (s.length : Int)) = True := eq_true (by omega)
    clear hB
    go_enter Try.func3, Try.ntmps3
    go_wp2_with fail
    refine (HAW.out _).mono ?_
    rintro e w1 ⟨rfl, hb⟩
    go_wp2
    go_ret
    exact ⟨rfl, hb⟩
  have h1' : ((500 : Int) < (s.length : Int)) = False := eq_false (by omega)
  obtain ⟨ps, hp, hlit, hq⟩ := WP.parse_quote s (by omega)
  have hlen := quote_len s
  obtain ⟨hc, hz⟩ := WP.parse_wt hp
  have HQ := Lib.hid (fun V => Quote_ref s V (by omega))
  have HP := Lib.hid (fun V => show Calls Try.prog 9 #[.string ⟨(P.quote s).toArray⟩] V (ParseOut V (.ok ps)) from by rw [← hp]; exact Parse_any hB _ V (by omega))
  have HPL := Lib.hid (fun V => Plain_ref s V (by omega))
  have HLI := Lib.hid (fun v V (hV : Stand V v (gpL ps)) => show Calls Try.prog 11 #[v] V (fun e w' => e = .returned (.tuple #[.string ⟨s.toArray⟩, .bool true]) ∧ Below V.heap.size V w') from by
    have := Literal_any v (gpL ps) V hV (by omega) (by omega)
    rw [WP.lit_gp, hlit] at this
    exact this)
  obtain ⟨b, hb⟩ : ∃ b, P.plainB s = b := ⟨_, rfl⟩
  rw [hb] at HPL hq
  have hn : (gpL ps).length ≤ 1000000 := by
    have := len_cnt (gpL ps)
    omega
  have HQU := Lib.hid (fun v V (hV : Stand V v (gpL ps)) => show Calls Try.prog 12 #[v] V (fun e w' => e = .returned (.bool (!b)) ∧ Below V.heap.size V w') from by
    have := Quoted_any v (gpL ps) V hV hn
    rw [WP.quoted_gp, hq] at this
    exact this)
  clear hB hp hlit hq hlen hc hz hn hb
  go_enter Try.func3, Try.ntmps3
  go_wp2_with fail
  refine (HQ.out _).mono ?_
  rintro e w0 ⟨rfl, rfl⟩
  go_wp2_with fail
  refine (HP.out _).mono ?_
  rintro e w1 ⟨A, ca, rfl, hb, hrep⟩
  have HB1 := Lib.hid hb
  have HL1 := Lib.hid (Stand.of_parse (cap := ca) hrep)
  clear hb hrep
  go_wp2_with fail
  refine (HLI.out _ _ HL1.out).mono ?_
  rintro e w2 ⟨rfl, hb⟩
  have HB2 := Lib.hid (btr HB1.out hb)
  have HL2 := Lib.hid (HL1.out.go hb)
  clear hb
  go_wp2_with fail
  refine (HQU.out _ _ HL2.out).mono ?_
  rintro e w3 ⟨rfl, hb⟩
  have HB3 := Lib.hid (btr HB2.out hb)
  clear hb
  go_wp2_with fail
  refine (HPL.out _).mono ?_
  rintro e w4 ⟨rfl, rfl⟩
  have hne : ((!b) != b) = true := by cases b <;> rfl
  go_wp2_with fail
  refine (HAW.out _).mono ?_
  rintro e w5 ⟨rfl, hb⟩
  have HB5 := Lib.hid (btr HB3.out hb)
  clear hb
  go_wp2
  go_ret
  exact ⟨rfl, HB5.out⟩
end W
end Go.Proofs.Ytijibooneochjaa
