/- Chapter 8: the examples (awake). -/
import Derived.Test.YtmgomklpjjkehaaGreatYJ
import Derived.Test.YtmgomklpjjkehaaGreatYM
namespace Go.Proofs.YtmgomklpjjkehaaGreat
open Go.RowKit K
open WP (GP gp gpL)
namespace W
def L8 : List WP.Part := [.mk 1 [97] 0 false [], .mk 2 [98] 0 false [], .mk 3 [] 0 false [.mk 1 [99] 0 false [], .mk 4 [120] 0 false []], .mk 2 [100] 0 false []]
def M8 : List WP.Part := [.mk 4 [35] 1 false [.mk 1 [120] 0 false []]]
def H8 : List WP.Part := [.mk 1 [97, 32, 34] 0 false [], .mk 4 [98] 0 false [], .mk 1 [34, 10] 0 false []]
def N8 : List GP := [.mk 9 [] 0 false []]
theorem parse_L8 : WP.parse [97, 39, 98, 39, 34, 99, 36, 120, 34, 92, 100] 0 = .ok L8 := by kernel_rfl
theorem parse_M8 : WP.parse [36, 123, 35, 45, 120, 125] 0 = .ok M8 := by kernel_rfl
theorem parse_E8 : WP.parse [36, 123, 120, 33, 125] 0 = .error (3, 6) := by kernel_rfl
theorem parse_H8 : WP.parse [97, 32, 34, 36, 98, 34, 10] 3 = .ok H8 := by kernel_rfl
theorem show_L8 : WP.showG (gpL L8) = ([97, 39, 98, 39, 34, 99, 36, 120, 34, 39, 100, 39], 0) := by kernel_rfl
theorem show_N8 : (WP.showG N8).2 = 1 := by kernel_rfl
theorem lit_L8 : WP.glit (gpL L8) = none := by kernel_rfl
theorem same_LL : WP.sameL (gpL L8) (gpL L8) = true := by kernel_rfl
theorem same_LM : WP.sameL (gpL L8) (gpL M8) = false := by kernel_rfl
theorem quoted_L8 : WP.gquoted (gpL L8) = true := by kernel_rfl
theorem quoted_M8 : WP.gquoted (gpL M8) = false := by kernel_rfl
theorem txt_L8 : WP.txtL 4 (gpL L8) = [[120]] := by kernel_rfl
theorem cost_L8 : 2 * WP.sizL (gpL L8) + 8 * WP.cntL (gpL L8) ≤ 100000 ∧ WP.cntL (gpL L8) ≤ 1000000 ∧ WP.sizL (gpL L8) ≤ 1000000 := by decide +kernel
theorem cost_N8 : 2 * WP.sizL N8 + 8 * WP.cntL N8 ≤ 100000 := by decide +kernel
/-- Parts that stand in a world and go on standing while new memory is made. -/
def Stand (w : World) (v : Value) (l : List GP) : Prop := GS w (fun b => b < w.heap.size) v l
theorem Stand.go {w w' : World} {v : Value} {l : List GP} (h : Stand w v l) (hb : Below w.heap.size w w') : Stand w' v l := GS.up h hb
theorem Stand.of_parse {w w' : World} {ps : List WP.Part} {A : Option Addr} {cap : Nat} (h : ps = [] ∨ ∃ b cells, A = some ⟨b, 0, none⟩ ∧ w.heap.size ≤ b ∧ LRep w' (fun b => w.heap.size ≤ b) ps cells ∧ ∀ j u, cells[j]? = some u → w'.cell? ⟨b, j, none⟩ = some u) : Stand w' (.slice A ps.length cap) (gpL ps) :=
  (GS.of_rep (cap := cap) h).mono fun _ _ h2 => ⟨h2, rfl⟩
theorem Stand.nine (W : World) : Stand (W.alloc (.cells #[.int .i64 9, .string ⟨#[]⟩, .int .i64 0, .bool false, .slice none 0 0] 38)) (.slice (some ⟨W.heap.size, 0, none⟩) 1 1) N8 := by
  refine ⟨some ⟨W.heap.size, 0, none⟩, 1, rfl, .inr ⟨W.heap.size, 0, pc 9 [] 0 false (.slice none 0 0), rfl, by simp, ?_, fun j u hj => ?_⟩⟩
  · rw [N8, GL]
    refine ⟨_, [], (List.append_nil _).symm, ?_, by rw [GL]⟩
    rw [GR]
    exact ⟨none, 0, rfl, .inl rfl⟩
  · have h := al_new W (.cells #[.int .i64 9, .string ⟨#[]⟩, .int .i64 0, .bool false, .slice none 0 0] 38)
    rw [Lib.cell_of_heap h, Nat.zero_add]
    simpa [pc] using hj
theorem SSl.one (W : World) (s : List UInt8) : SSl (W.alloc (.cells #[.string ⟨s.toArray⟩] 9)) (fun b => b < (W.alloc (.cells #[.string ⟨s.toArray⟩] 9)).heap.size) (.slice (some ⟨W.heap.size, 0, none⟩) 1 1) [s] := by
  refine ⟨some ⟨W.heap.size, 0, none⟩, 1, rfl, .inr ⟨W.heap.size, 0, rfl, by simp, fun j u hj => ?_⟩⟩
  have h := al_new W (.cells #[.string ⟨s.toArray⟩] 9)
  rw [Lib.cell_of_heap h, Nat.zero_add]
  cases j with
  | zero => simp at hj; subst hj; rfl
  | succ j => simp at hj
theorem SSl.up {w w' : World} {v : Value} {ss : List (List UInt8)} (h : SSl w (fun b => b < w.heap.size) v ss) (hb : Below w.heap.size w w') : SSl w' (fun b => b < w'.heap.size) v ss := by
  obtain ⟨A, cap, h1, h2⟩ := h.below hb
  exact ⟨A, cap, h1, h2.imp id (fun ⟨b, off, h3, h4, h5⟩ => ⟨b, off, h3, Nat.lt_of_lt_of_le h4 hb.size, h5⟩)⟩
set_option maxRecDepth 100000 in
set_option maxHeartbeats 16000000 in
theorem awake8_any (hB : BrAll) (w : World) : Calls Tryz.prog 5 #[] w fun e w' => e = .returned (.bool true) ∧ Below w.heap.size w w' := by
  have HPL := Lib.hid (fun V => show Calls Tryz.prog 10 #[.string ⟨#[97, 39, 98, 39, 34, 99, 36, 120, 34, 92, 100]⟩] V (ParseOut V (.ok L8)) from by rw [← parse_L8]; exact Parse_any hB _ V (by decide))
  have HPM := Lib.hid (fun V => show Calls Tryz.prog 10 #[.string ⟨#[36, 123, 35, 45, 120, 125]⟩] V (ParseOut V (.ok M8)) from by rw [← parse_M8]; exact Parse_any hB _ V (by decide))
  have HPE := Lib.hid (fun V => show Calls Tryz.prog 10 #[.string ⟨#[36, 123, 120, 33, 125]⟩] V (ParseOut V (.error (3, 6))) from by rw [← parse_E8]; exact Parse_any hB _ V (by decide))
  have HPH := Lib.hid (fun V => show Calls Tryz.prog 12 #[.string ⟨#[97, 32, 34, 36, 98, 34, 10]⟩] V (ParseOut V (.ok H8)) from by rw [← parse_H8]; exact Here_any hB _ V (by decide))
  have HSH := Lib.hid (fun v V (hV : Stand V v (gpL L8)) => show Calls Tryz.prog 6 #[v] V (fun e w' => e = .returned (.tuple #[.string ⟨#[97, 39, 98, 39, 34, 99, 36, 120, 34, 39, 100, 39]⟩, .int .i64 0]) ∧ Below V.heap.size V w') from by
    have := Show_any hB v (gpL L8) V hV cost_L8.1
    rw [show_L8] at this
    exact this)
  have HVA := Lib.hid (fun v V (hV : Stand V v (gpL L8)) => show Calls Tryz.prog 8 #[v] V (fun e w' => e = .returned (.int .i64 0) ∧ Below V.heap.size V w') from by
    have := Valid_any hB v (gpL L8) V hV cost_L8.1
    rw [show_L8] at this
    exact this)
  have HVN := Lib.hid (fun v V (hV : Stand V v N8) => show Calls Tryz.prog 8 #[v] V (fun e w' => e = .returned (.int .i64 1) ∧ Below V.heap.size V w') from by
    have := Valid_any hB v N8 V hV cost_N8
    rw [show_N8] at this
    exact this)
  have HLI := Lib.hid (fun v V (hV : Stand V v (gpL L8)) => show Calls Tryz.prog 11 #[v] V (fun e w' => e = .returned (.tuple #[.string ⟨#[]⟩, .bool false]) ∧ Below V.heap.size V w') from by
    have := Literal_any v (gpL L8) V hV cost_L8.2.1 cost_L8.2.2
    rw [lit_L8] at this
    exact this)
  have HSL := Lib.hid (fun v u V (hV : Stand V v (gpL L8)) (hU : Stand V u (gpL L8)) => show Calls Tryz.prog 13 #[v, u] V (fun e w' => e = .returned (.bool true) ∧ Below V.heap.size V w') from by
    have := Same_any (gpL L8) (gpL L8) v u V cost_L8.2.1 hV hU
    rw [same_LL] at this
    exact this)
  have HSM := Lib.hid (fun v u V (hV : Stand V v (gpL L8)) (hU : Stand V u (gpL M8)) => show Calls Tryz.prog 13 #[v, u] V (fun e w' => e = .returned (.bool false) ∧ Below V.heap.size V w') from by
    have := Same_any (gpL L8) (gpL M8) v u V cost_L8.2.1 hV hU
    rw [same_LM] at this
    exact this)
  have HQL := Lib.hid (fun v V (hV : Stand V v (gpL L8)) => show Calls Tryz.prog 14 #[v] V (fun e w' => e = .returned (.bool true) ∧ Below V.heap.size V w') from by
    have := Quoted_any v (gpL L8) V hV (by decide +kernel)
    rw [quoted_L8] at this
    exact this)
  have HQM := Lib.hid (fun v V (hV : Stand V v (gpL M8)) => show Calls Tryz.prog 14 #[v] V (fun e w' => e = .returned (.bool false) ∧ Below V.heap.size V w') from by
    have := Quoted_any v (gpL M8) V hV (by decide +kernel)
    rw [quoted_M8] at this
    exact this)
  have HPA := Lib.hid (fun v V (hV : Stand V v (gpL L8)) => show Calls Tryz.prog 16 #[v] V (StrOut V.heap.size V [[120]]) from by
    have := Params_any v (gpL L8) V hV cost_L8.2.1
    rw [txt_L8] at this
    exact this)
  clear hB
  go_enter Tryz.func5, Tryz.ntmps5
  go_wp2_with fail
  refine (HPL.out _).mono ?_
  rintro e w1 ⟨A, ca, rfl, hb, hrep⟩
  have HB1 := Lib.hid hb
  have HL1 := Lib.hid (Stand.of_parse (cap := ca) hrep)
  clear hb hrep
  go_wp2_with fail
  refine (HSH.out _ _ HL1.out).mono ?_
  rintro e w2 ⟨rfl, hb⟩
  have HB2 := Lib.hid (btr HB1.out hb)
  have HL2 := Lib.hid (HL1.out.go hb)
  clear hb
  go_wp2_with fail
  refine (HPM.out _).mono ?_
  rintro e w3 ⟨B, cb, rfl, hb, hrep⟩
  have HB3 := Lib.hid (btr HB2.out hb)
  have HL3 := Lib.hid (HL2.out.go hb)
  have HM3 := Lib.hid (Stand.of_parse (cap := cb) hrep)
  clear hb hrep
  go_wp2_with fail
  refine (HPE.out _).mono ?_
  rintro e w4 ⟨rfl, hb⟩
  have HB4 := Lib.hid (btr HB3.out hb)
  have HL4 := Lib.hid (HL3.out.go hb)
  have HM4 := Lib.hid (HM3.out.go hb)
  clear hb
  go_wp2_with fail
  refine (HLI.out _ _ HL4.out).mono ?_
  rintro e w5 ⟨rfl, hb⟩
  have HB5 := Lib.hid (btr HB4.out hb)
  have HL5 := Lib.hid (HL4.out.go hb)
  have HM5 := Lib.hid (HM4.out.go hb)
  clear hb
  have l8 : L8.length = 4 := rfl
  have m8 : M8.length = 1 := rfl
  go_wp2_with fail
  refine (HPH.out _).mono ?_
  rintro e w6 ⟨C, cc, rfl, hb, -⟩
  have h8 : H8.length = 3 := rfl
  have HB6 := Lib.hid (btr HB5.out hb)
  have HL6 := Lib.hid (HL5.out.go hb)
  have hm6 := HM5.out.go hb
  have HM6 := Lib.hid hm6
  obtain ⟨mb, mo, A2, c2, rfl, hmb, m0, m1, m2, m3, m4, -⟩ := GS.get (i := 0) (p := .mk 4 [35] 1 false [.mk 1 [120] 0 false []]) hm6 rfl
  dsimp only [WP.GP.kind, WP.GP.text, WP.GP.op, WP.GP.colon, WP.GP.parts, Nat.zero_mul, Nat.add_zero] at m0 m1 m2 m3
  clear hb hm6
  go_wp2_with fail
  refine (HVA.out _ _ HL6.out).mono ?_
  rintro e w7 ⟨rfl, hb⟩
  have HB7 := Lib.hid (btr HB6.out hb)
  have HL7 := Lib.hid (HL6.out.go hb)
  have HM7 := Lib.hid (HM6.out.go hb)
  clear hb m0 m1 m2 m3 m4
  go_wp2_with fail
  refine (HSL.out _ _ _ HL7.out HL7.out).mono ?_
  rintro e w8 ⟨rfl, hb⟩
  have HB8 := Lib.hid (btr HB7.out hb)
  have HL8 := Lib.hid (HL7.out.go hb)
  have HM8 := Lib.hid (HM7.out.go hb)
  clear hb
  go_wp2_with fail
  refine (HSM.out _ _ _ HL8.out HM8.out).mono ?_
  rintro e w9 ⟨rfl, hb⟩
  have HB9 := Lib.hid (btr HB8.out hb)
  have HL9 := Lib.hid (HL8.out.go hb)
  have HM9 := Lib.hid (HM8.out.go hb)
  clear hb
  go_wp2_with fail
  refine (HQL.out _ _ HL9.out).mono ?_
  rintro e w10 ⟨rfl, hb⟩
  have HB10 := Lib.hid (btr HB9.out hb)
  have HL10 := Lib.hid (HL9.out.go hb)
  have HM10 := Lib.hid (HM9.out.go hb)
  clear hb
  go_wp2_with fail
  refine (HQM.out _ _ HM10.out).mono ?_
  rintro e w11 ⟨rfl, hb⟩
  have HB11 := Lib.hid (btr HB10.out hb)
  have HL11 := Lib.hid (HL10.out.go hb)
  clear hb
  go_wp2_with fail
  refine (HPA.out _ _ HL11.out).mono ?_
  rintro e w12 ⟨Av, cv, rfl, hb, hrow⟩
  have HB12 := Lib.hid (btr HB11.out hb)
  have HEQ := Lib.hid (show Calls Tryz.prog 15 #[.slice Av 1 cv, .slice (some ⟨w12.heap.size, 0, none⟩) 1 1] (w12.alloc (.cells #[.string ⟨#[120]⟩] 9)) (fun e w' => e = .returned (.bool true) ∧ Below (w12.alloc (.cells #[.string ⟨#[120]⟩] 9)).heap.size (w12.alloc (.cells #[.string ⟨#[120]⟩] 9)) w') from
    Equal_any [[120]] [[120]] _ _ _ ((SSl.of_row hrow).up (balloc _ _)) (SSl.one w12 [120]) (by decide))
  have HA12 := Lib.hid (btr HB12.out (balloc w12 (.cells #[.string ⟨#[120]⟩] 9)))
  clear hb hrow
  go_wp2_with fail
  refine HEQ.out.mono ?_
  rintro e w13 ⟨rfl, hb⟩
  have HB13 := Lib.hid (btr HA12.out hb)
  have HA13 := Lib.hid (btr HB13.out (balloc w13 (.cells #[.int .i64 9, .string ⟨#[]⟩, .int .i64 0, .bool false, .slice none 0 0] 38)))
  clear hb
  go_wp2_with fail
  refine (HVN.out _ _ (Stand.nine w13)).mono ?_
  rintro e w14 ⟨rfl, hb⟩
  have HB14 := Lib.hid (btr HA13.out hb)
  clear hb
  go_wp2
  go_ret
  exact ⟨rfl, HB14.out⟩
end W
end Go.Proofs.YtmgomklpjjkehaaGreat
