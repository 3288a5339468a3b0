/- Several texts in one: W22a W22b W22c. -/
import Derived.Test.YtkceenmlhfkkhaaGreatDoorY21e
import Derived.Test.YtkceenmlhfkkhaaGreatDoorY21h
namespace Go.Proofs.YtkceenmlhfkkhaaGreatDoor
open Go.RowKit K
open WP (GP gp gpL)
namespace SP
theorem listed_snoc : ∀ (l : List Str) (x : Str), l ≠ [] → listed (l ++ [x]) = listed l ++ [([], 3)] ++ [(x, 1)]
  | [], _, h => absurd rfl h
  | [p], x, _ => rfl
  | p :: q :: r, x, _ => by
    have := listed_snoc (q :: r) x (by simp)
    show (p, 1) :: ([], 3) :: listed ((q :: r) ++ [x]) = (p, 1) :: ([], 3) :: listed (q :: r) ++ [([], 3)] ++ [(x, 1)]
    rw [this]
    simp
theorem listed_len : ∀ l : List Str, (listed l).length ≤ 2 * l.length
  | [] => Nat.le_refl _
  | [p] => by show 1 ≤ 2; omega
  | p :: q :: r => by
    have := listed_len (q :: r)
    show (listed (q :: r)).length + 2 ≤ 2 * ((q :: r).length + 1)
    omega
end SP
namespace W
set_option maxRecDepth 100000
section
variable {w : World} {g : Nat} {VA : Option Addr} {vn vc : Nat} {PA : Option Addr} {pn pc : Nat} {opt : Int} {fv : Value} {vars : List VR.Var} {ps : List (List UInt8)} {y : VR.Var}
set_option maxHeartbeats 8000000 in
theorem itself_at (hx : EXC w g VA vn vc PA pn pc opt fv vars ps y) (s : List UInt8) :
    Calls Tryz.prog 191 #[.pointer (some ⟨g, 0, none⟩), .string ⟨#[64]⟩, .string ⟨s.toArray⟩, .agg #[.bool true, .bool true, .int .i64 0]] w fun e w' => ∃ A c, e = .returned (.slice A (SP.listed ps).length c) ∧ R2 w' (.slice A (SP.listed ps).length c) (SP.listed ps) ∧ Below w.heap.size w w' := by
  obtain ⟨i0, hi, hz0, hz1, hz2⟩ := info_parts infoRun
  have hpn : pn = ps.length := by obtain ⟨A, c, h1, -⟩ := hx.sv; injection h1
  subst hpn
  have HL := Lib.hid (fun Y => list_at Y)
  have HM := Lib.hid (fun Y => show Calls Tryz.prog 132 #[.agg #[.bool true, .bool true, .int .i64 0]] Y (fun e w' => e = .returned (.int .i64 1) ∧ Below Y.heap.size Y w') from mresult_any true true 0 Y)
  obtain ⟨X, hX⟩ : ∃ X, X = w.alloc (.cells #[.bool true, .bool true, .int .i64 0] 90) := ⟨_, rfl⟩
  have HX := Lib.hid hX
  have HBX := Lib.hid (show Below w.heap.size w X by rw [hX]; exact balloc _ _)
  have hb : X.heap[w.heap.size]? = some (.cells #[.bool true, .bool true, .int .i64 0] 90 (0, 0)) := by rw [hX]; exact al_new w _
  have HMB := Lib.hid (fun V (hV : Below X.heap.size X V) => (hV.block _ (Array.getElem?_eq_some_iff.1 hb).1).trans hb)
  obtain ⟨m0, m1, m2⟩ := m3 hb
  have hsz := (Array.getElem?_eq_some_iff.1 hb).1
  obtain ⟨-, -, c2, -⟩ := (hx.xb.below HBX.out).env
  have hgx : g < X.heap.size := Nat.lt_of_lt_of_le hx.xb.lt HBX.out.size
  have HSV := Lib.hid (fun V (hV : Below X.heap.size X V) => (hx.sv.below HBX.out).below hV)
  have HPL := Lib.hid hx.pl
  have hpl := hx.pl
  clear hX hb hx
  go_enter Tryz.func191, Tryz.ntmps191
  go_upto_region 1 with (fail)
  rw [← HX.out]
  go_wp2_with fail
  refine (HL.out _).mono ?_
  rintro e Y0 ⟨rfl, h0⟩
  obtain rfl : X = Y0 := h0.symm
  go_wp2
  go_loopw [9, 38] (fun o i wr => ∃ (k : Nat) (acc : List SP.Run), k ≤ ps.length ∧ i = .int .i64 k ∧ Hid (acc = SP.listed (ps.take k)) ∧ Hid (acc.length ≤ 2000) ∧ Hid (OR 2 e2 121 X.heap.size wr o acc) ∧ Hid (Below X.heap.size X wr)) (fun _ i _ => ps.length - (intOf i).toNat)
  case atStart => exact ⟨0, [], Nat.zero_le _, rfl, Lib.hid rfl, Lib.hid (Nat.zero_le _), Lib.hid (OR.nil _ _ _), Lib.hid (Below.refl _ _)⟩
  case round =>
    obtain ⟨k, acc, hk, rfl, HACC, HAL, HO, HB⟩ := hrel
    obtain ⟨A1, c1, rfl⟩ := HO.out.val
    by_cases hlt : k < ps.length
    · obtain ⟨x, hxk⟩ : ∃ x, ps[k]? = some x := ⟨_, List.getElem?_eq_getElem hlt⟩
      obtain ⟨bb, off, rfl, hbl, q0⟩ := SV.get (HSV.out _ HB.out) hxk
      have HTK := Lib.hid (show SP.listed (ps.take (k + 1)) = (if k = 0 then [] else acc ++ [([], 3)]) ++ [(x, 1)] by
        rw [List.take_add_one, hxk]
        by_cases h0 : k = 0
        · subst h0; rfl
        · rw [if_neg h0, HACC.out]
          exact SP.listed_snoc _ _ (by intro e; have := congrArg List.length e; rw [List.length_take, List.length_nil] at this; omega))
      have HLN := Lib.hid (show (SP.listed (ps.take (k + 1))).length ≤ 2000 by have := SP.listed_len (ps.take (k + 1)); rw [List.length_take] at this; have := HPL.out; omega)
      have hmw := HMB.out _ HB.out
      have f0 := Lib.cell_of_heap hmw 0
      have f1 := Lib.cell_of_heap hmw 1
      have f2 := Lib.cell_of_heap hmw 2
      have hsw := (Array.getElem?_eq_some_iff.1 hmw).1
      clear hmw hxk
      by_cases h0 : k = 0
      case pos =>
        subst h0
        have h0 : (0 : Nat) = 0 := rfl
        rw [Nat.add_zero] at q0
        have HA0 := Lib.hid (show acc = [] by rw [HACC.out]; rfl)
        have HT0 := HTK.out
        rw [if_pos h0] at HT0
        have HT0 := Lib.hid HT0
        clear h0
        go_wp2_with fail
        refine (HM.out _).mono ?_
        rintro e Y1 ⟨rfl, h1⟩
        have HB1 := Lib.hid (HB.out.trans (h1.mono HB.out.size))
        have HO1 := Lib.hid (HO.out.below h1)
        clear h1
        go_wp2_with (at_builtin; refine wpList_append_own_at _ rfl _ _ 86 rfl X.heap.size 121 i0 _ 2 24 Tryz.underlying86 hi hz0 hz1 hz2 rfl (by decide) _ acc.length _ rfl (row_below HO1.out (balloc _ _)) ⟨Y1.heap.size, 0, none⟩ 1 1 [.string ⟨x.toArray⟩, .int .i64 1] rfl rfl (cells2 _ _ _ _) (e2_one (x, 1)) (by have := HAL.out; unfold maxLen; omega) (by have := HAL.out; omega) (by have := HB1.out.size; simp; omega) ?_)
        intro v1 W1 ho1 hg1 _ _
        have HB2 := Lib.hid ((btr HB1.out (balloc Y1 (.cells #[.string ⟨x.toArray⟩, .int .i64 1] 121))).grown hg1 (by have := HB1.out.size; simp; omega) (fun q hq => own_ge HO1.out q hq))
        have HO2 := Lib.hid (OR.snoc (l := acc) (x := (x, 1)) ho1)
        have HACC2 := Lib.hid (show acc ++ [(x, 1)] = SP.listed (ps.take 1) by rw [HT0.out, HA0.out])
        have HAL2 := Lib.hid (show (acc ++ [(x, 1)]).length ≤ 2000 by rw [HACC2.out]; exact HLN.out)
        clear ho1 hg1
        go_wp2
        go_roundw
        case rel => exact ⟨1, acc ++ [(x, 1)], hlt, by go_num, HACC2, HAL2, HO2, HB2⟩
        case measure => simp [intOf]; omega
      case neg =>
        have HT0 := HTK.out
        rw [if_neg h0] at HT0
        have HT0 := Lib.hid HT0
        have hg0 : ((k : Int) > 0) = True := eq_true (by omega)
        have hg1 : ((0 : Int) < (k : Int)) = True := eq_true (by omega)
        go_wp2_with (at_builtin; refine wpList_append_own_at _ rfl _ _ 86 rfl X.heap.size 121 i0 _ 2 24 Tryz.underlying86 hi hz0 hz1 hz2 rfl (by decide) _ acc.length _ rfl (row_below HO.out (balloc _ _)) ⟨wr.heap.size, 0, none⟩ 1 1 [.string ⟨#[]⟩, .int .i64 3] rfl rfl (cells2 _ _ _ _) (e2_one ([], 3)) (by have := HAL.out; unfold maxLen; omega) (by have := HAL.out; omega) (by have := HB.out.size; simp; omega) ?_)
        intro v0 W0 ho0 hgr0 _ _
        have HB0 := Lib.hid ((btr HB.out (balloc wr (.cells #[.string ⟨#[]⟩, .int .i64 3] 121))).grown hgr0 (by have := HB.out.size; simp; omega) (fun q hq => own_ge HO.out q hq))
        have HO0 := Lib.hid (OR.snoc (l := acc) (x := ([], 3)) ho0)
        obtain ⟨A0, c0, hv0⟩ := HO0.out.val
        have HV0 := Lib.hid hv0
        have hmw := HMB.out _ HB0.out
        have f0 := Lib.cell_of_heap hmw 0
        have f1 := Lib.cell_of_heap hmw 1
        have f2 := Lib.cell_of_heap hmw 2
        have hsw := (Array.getElem?_eq_some_iff.1 hmw).1
        clear ho0 hgr0 hmw hv0
        go_wp2_with fail
        refine (HM.out _).mono ?_
        rintro e Y1 ⟨rfl, h1⟩
        have HB1 := Lib.hid (HB0.out.trans (h1.mono HB0.out.size))
        have HO1 := Lib.hid (HO0.out.below h1)
        have hal : (acc ++ [(([] : List UInt8), (3 : Int))]).length ≤ 2001 := by have := HAL.out; rw [List.length_append]; simp; omega
        have HALL := Lib.hid hal
        clear h1 hal
        obtain ⟨acc1, hacc1⟩ : ∃ acc1, acc1 = acc ++ [(([] : List UInt8), (3 : Int))] := ⟨_, rfl⟩
        rw [← hacc1] at HO1 HALL
        have HAC1 := Lib.hid hacc1
        clear hacc1
        go_wp2_with (at_builtin; refine wpList_append_own_at _ rfl _ _ 86 rfl X.heap.size 121 i0 _ 2 24 Tryz.underlying86 hi hz0 hz1 hz2 rfl (by decide) _ acc1.length _ rfl (row_below HO1.out (balloc _ _)) ⟨Y1.heap.size, 0, none⟩ 1 1 [.string ⟨x.toArray⟩, .int .i64 1] rfl rfl (cells2 _ _ _ _) (e2_one (x, 1)) (by have := HALL.out; unfold maxLen; omega) (by have := HALL.out; omega) (by have := HB1.out.size; simp; omega) ?_)
        intro v1 W1 ho1 hgr1 _ _
        have HB2 := Lib.hid ((btr HB1.out (balloc Y1 (.cells #[.string ⟨x.toArray⟩, .int .i64 1] 121))).grown hgr1 (by have := HB1.out.size; simp; omega) (fun q hq => own_ge HO1.out q hq))
        have HO2 := Lib.hid (OR.snoc (l := acc1) (x := (x, 1)) ho1)
        have HACC2 := Lib.hid (show acc1 ++ [(x, 1)] = SP.listed (ps.take (k + 1)) by rw [HT0.out, HAC1.out])
        have HAL2 := Lib.hid (show (acc1 ++ [(x, 1)]).length ≤ 2000 by rw [HACC2.out]; exact HLN.out)
        clear ho1 hgr1
        go_wp2
        go_roundw
        case rel => exact ⟨k + 1, acc1 ++ [(x, 1)], hlt, by go_num, HACC2, HAL2, HO2, HB2⟩
        case measure => simp [intOf]; omega
    · have HAE := Lib.hid (show acc = SP.listed ps by rw [HACC.out, List.take_of_length_le (by omega)])
      have HR := Lib.hid (show R2 wr (.slice A1 acc.length c1) acc from HO.out.rv e2_len)
      have HBZ := Lib.hid (show Below w.heap.size w wr from HBX.out.trans (HB.out.mono HBX.out.size))
      go_wp2
      go_ret
      exact ⟨A1, c1, congrArg (fun l : List SP.Run => Ending.returned (.slice A1 l.length c1)) HAE.out, HAE.out ▸ HR.out, HBZ.out⟩
end
end W
end Go.Proofs.YtkceenmlhfkkhaaGreatDoor
namespace Go.Proofs.YtkceenmlhfkkhaaGreatDoor
open Go.RowKit K
open WP (GP gp gpL)
namespace W
set_option maxRecDepth 100000
section
variable {w : World} {g : Nat} {VA : Option Addr} {vn vc : Nat} {PA : Option Addr} {pn pc : Nat} {opt : Int} {fv : Value} {vars : List VR.Var} {ps : List (List UInt8)} {y : VR.Var}
set_option maxHeartbeats 4000000 in
theorem choose_at (hx : EXC w g VA vn vc PA pn pc opt fv vars ps y) (PP : Option Addr) (qn qc : Nat) (s : List UInt8) (st : Bool) :
    Calls Tryz.prog 144 #[.pointer (some ⟨g, 0, none⟩), .agg #[.int .i64 4, .string ⟨#[64]⟩, .int .i64 0, .bool false, .slice PP qn qc], .agg #[.bool true, .bool true, .int .i64 0], .string ⟨s.toArray⟩, .bool st] w (RunOut w (SP.listed ps)) := by
  have HC := Lib.hid (fun Y => Choose_none st s Y)
  obtain ⟨X, hX⟩ := bx2 w 4 [64] PP qn qc true true 0
  have HX := Lib.hid hX.eq
  have HBX := Lib.hid hX
  have HI := Lib.hid (itself_at (hx.below hX.bel) s)
  obtain ⟨⟨p0, p1, p2, p3, p4⟩, ⟨m0, m1, m2⟩, z1, z2⟩ := hX.at_ (Below.refl _ _)
  clear hX hx
  go_enter Tryz.func144, Tryz.ntmps144
  go_upto_region 1 with (fail)
  rw [← HX.out]
  go_wp2_with fail
  refine (HC.out _).mono ?_
  rintro e Y0 ⟨rfl, h0⟩
  obtain rfl : X = Y0 := h0.symm
  go_wp2_with fail
  refine HI.out.mono ?_
  rintro e Y1 ⟨A1, c1, rfl, h1, h2⟩
  have H1 := Lib.hid h1
  have H2 := Lib.hid (HBX.out.bel.trans (h2.mono HBX.out.bel.size))
  clear h1 h2
  go_wp2
  go_ret2
  exact ⟨_, rfl, H1.out, H2.out⟩
set_option maxHeartbeats 8000000 in
theorem parameter_at (hx : EXC w g VA vn vc PA pn pc opt fv vars ps y) (PP : Option Addr) (qc : Nat) :
    Calls Tryz.prog 91 #[.pointer (some ⟨g, 0, none⟩), .agg #[.int .i64 4, .string ⟨#[64]⟩, .int .i64 0, .bool false, .slice PP 0 qc], .agg #[.bool true, .bool true, .int .i64 0]] w (RunOut w (SP.listed ps)) := by
  have HEX := Lib.hid hx
  obtain ⟨X, hX⟩ := bx2 w 4 [64] PP 0 qc true true 0
  have HXE := Lib.hid hX.eq
  have HBX := Lib.hid hX
  have hop := hx.op
  have HVX := Lib.hid (fun Y (hY : Below w.heap.size w Y) => Value_at VA vn vc PA pn pc ps opt Y (hx.sv.below hY) (Nat.le_trans hx.pl (by omega)) (Nat.le_trans hx.pj (by omega)))
  have HCX := Lib.hid (fun Y (hY : Below w.heap.size w Y) s st => choose_at (hx.below hY) PP 0 qc s st)
  obtain ⟨⟨p0, p1, p2, p3, p4⟩, ⟨m0, m1, m2⟩, z1, z2⟩ := hX.at_ (Below.refl _ _)
  obtain ⟨e0, e1, e2, e3, e4, e5, e6, e7, e8, e9, e10, e11, e12, e13, e14⟩ := (hx.xb.below hX.bel).env
  have hgx : g < X.heap.size := Nat.lt_of_lt_of_le hx.xb.lt hX.bel.size
  have hgn : ¬ g = w.heap.size := by have := hx.xb.lt; omega
  generalize Lib.join ps [32] = s at *
  generalize decide (0 < ps.length) = st at *
  unfold envC at HVX
  clear hX hx
  rcases hop with rfl | rfl
  all_goals
    go_enter Tryz.func91, Tryz.ntmps91
    go_upto_region 1 with (fail)
    rw [← HXE.out]
    go_wp2_with fail
    go_region_with (go_at_call 139; refine (HVX.out _ HBX.out.bel.drew).mono ?_; rintro e Y ⟨rfl, hY⟩)
  all_goals
    have hXY : Below X.heap.size X Y := (Below.refl _ _).drew.trans hY
    have HXY := Lib.hid hXY
    have HWY := Lib.hid (HBX.out.bel.trans (hXY.mono HBX.out.bel.size))
    obtain ⟨⟨p0, p1, p2, p3, p4⟩, ⟨m0, m1, m2⟩, z1, z2⟩ := HBX.out.at_ hXY
    have e6 : Y.cell? ⟨g, 6, none⟩ = _ := (hXY.cell (p := ⟨g, 6, none⟩) hgx).trans e6
    have hgy : g < Y.heap.size := Nat.lt_of_lt_of_le hgx hXY.size
    clear e0 e1 e2 e3 e4 e5 e7 e8 e9 e10 e11 e12 e13 e14 hY hXY
    go_wp2_with fail
    refine (HCX.out _ HWY.out _ _).mono ?_
    rintro e Z ⟨v', rfl, h1, h2⟩
    have H1 := Lib.hid h1
    have H2 := Lib.hid (HWY.out.trans (h2.mono HWY.out.size))
    clear h1 h2
    obtain ⟨Av, cv, rfl, -⟩ := H1.out.slice
    go_wp2
    go_ret2
    exact ⟨_, rfl, H1.out, H2.out⟩
set_option maxHeartbeats 4000000 in
theorem part_at (hx : EXC w g VA vn vc PA pn pc opt fv vars ps y) : PCON w g (.mk 4 [64] 0 false []) true true 0 (SP.listed ps) := by
  intro Y A cap hwY _
  dsimp only [GP.kind, GP.text, GP.op, GP.colon, GP.parts]
  obtain ⟨X, hX⟩ := bx2 Y 4 [64] A 0 cap true true 0
  have HXE := Lib.hid hX.eq
  have HBX := Lib.hid hX.bel
  have HPR := Lib.hid (parameter_at (hx.below (hwY.trans (hX.bel.mono hwY.size))) A cap)
  obtain ⟨⟨p0, p1, p2, p3, p4⟩, ⟨m0, m1, m2⟩, z1, z2⟩ := hX.at_ (Below.refl _ _)
  clear hX hx
  go_enter Tryz.func52, Tryz.ntmps52
  go_upto_region 1 with (fail)
  rw [← HXE.out]
  go_wp2_with fail
  refine HPR.out.mono ?_
  rintro e V ⟨v', rfl, hr, hv⟩
  have HR := Lib.hid hr
  have HB := Lib.hid (btr HBX.out hv)
  obtain ⟨Av, cv, rfl, -⟩ := HR.out.slice
  clear hr hv
  go_wp2
  go_ret2
  exact ⟨_, rfl, HR.out, HB.out⟩
set_option maxHeartbeats 4000000 in
/-- Double quotes around @ without positional parameters: no run. -/
theorem double_none (A : Option Addr) (cap : Nat) (q f : Bool) (c : Int) (hv : GT w (.slice A 1 cap) [.mk 4 [64] 0 false []])
    (hp : ∀ Y, Below w.heap.size w Y → Calls Tryz.prog 36 #[.pointer (some ⟨g, 0, none⟩), .slice A 1 cap, .agg #[.bool true, .bool f, .int .i64 0]] Y (RunOut Y [])) :
    Calls Tryz.prog 88 #[.pointer (some ⟨g, 0, none⟩), .agg #[.int .i64 3, .string ⟨#[]⟩, .int .i64 0, .bool false, .slice A 1 cap], .agg #[.bool q, .bool f, .int .i64 c]] w (RunOut w []) := by
  obtain ⟨X, hX⟩ := bx2 w 3 [] A 1 cap q f c
  have HXE := Lib.hid hX.eq
  have HBX := Lib.hid hX.bel
  have HXX := Lib.hid hX
  have HPR := Lib.hid (hp X hX.bel)
  have HGV := Lib.hid hv
  obtain ⟨⟨p0, p1, p2, p3, p4⟩, ⟨m0, m1, m2⟩, z1, z2⟩ := hX.at_ (Below.refl _ _)
  clear hX hp hv
  go_enter Tryz.func88, Tryz.ntmps88
  go_upto_region 1 with (fail)
  rw [← HXE.out]
  go_wp2_with fail
  refine HPR.out.mono ?_
  rintro e V ⟨v', rfl, hr, hv⟩
  obtain ⟨Ar, cr, rfl, -⟩ := hr.slice
  have HB := Lib.hid (btr HBX.out hv)
  obtain ⟨⟨p0, p1, p2, p3, p4⟩, ⟨m0, m1, m2⟩, z1, z2⟩ := HXX.out.at_ hv
  clear hr hv
  obtain ⟨bq, oq, Aq, cq, rfl, -, g0, g1, g2, g3, g4, -⟩ := GS.get (HGV.out.below HB.out) (i := 0) (p := .mk 4 [64] 0 false []) rfl
  rw [Nat.zero_mul, Nat.add_zero] at g0 g1 g2 g3 g4
  dsimp only [GP.kind, GP.text, GP.op, GP.colon, GP.parts] at g0 g1 g2 g3 g4
  have hbq : bq < V.heap.size := lt_of_cell g0
  go_wp2
  go_loopw [31] (fun i wr => i = .int .i64 0 ∧ wr = V) (fun _ _ => 0)
  case atStart => exact ⟨rfl, rfl⟩
  case round =>
    obtain ⟨rfl, rfl⟩ := hrel
    obtain ⟨T, hT⟩ : ∃ T, T = wr.alloc (.cells #[.int .i64 4, .string ⟨#[64]⟩, .int .i64 0, .bool false, .slice Aq 0 cq] 114) := ⟨_, rfl⟩
    have HT := Lib.hid hT
    have HBT := Lib.hid (show Below w.heap.size w T by rw [hT]; exact btr HB.out (balloc _ _))
    have hbt : T.heap[wr.heap.size]? = some (.cells #[.int .i64 4, .string ⟨#[64]⟩, .int .i64 0, .bool false, .slice Aq 0 cq] 114 (0, 0)) := by rw [hT]; exact al_new wr _
    obtain ⟨t0, t1, t2, t3, t4⟩ := p5 hbt
    have htz := (Array.getElem?_eq_some_iff.1 hbt).1
    clear hT hbt
    go_upto_region 9 with (fail)
    rw [← HT.out]
    go_wp2
    go_ret2
    exact ⟨_, rfl, RV.nil _, HBT.out⟩
set_option maxHeartbeats 4000000 in
theorem part_double_none (q f : Bool) (c : Int)
    (hp : ∀ Y A cap, Below w.heap.size w Y → GT Y (.slice A 1 cap) [.mk 4 [64] 0 false []] → Calls Tryz.prog 36 #[.pointer (some ⟨g, 0, none⟩), .slice A 1 cap, .agg #[.bool true, .bool f, .int .i64 0]] Y (RunOut Y [])) : PCON w g (.mk 3 [] 0 false [.mk 4 [64] 0 false []]) q f c [] := by
  intro Y A cap hwY hg
  dsimp only [GP.kind, GP.text, GP.op, GP.colon, GP.parts] at hg ⊢
  obtain ⟨X, hX⟩ := bx2 Y 3 [] A 1 cap q f c
  have HXE := Lib.hid hX.eq
  have HBX := Lib.hid hX.bel
  have HPR := Lib.hid (double_none (w := X) (g := g) A cap q f c (hg.below hX.bel) fun Z hZ => hp Z A cap ((hwY.trans (hX.bel.mono hwY.size)).trans (hZ.mono (by have := hX.bel.size; have := hwY.size; omega))) ((hg.below hX.bel).below hZ))
  obtain ⟨⟨p0, p1, p2, p3, p4⟩, ⟨m0, m1, m2⟩, z1, z2⟩ := hX.at_ (Below.refl _ _)
  clear hX hp hg
  go_enter Tryz.func52, Tryz.ntmps52
  go_upto_region 1 with (fail)
  rw [← HXE.out]
  go_wp2_with fail
  refine HPR.out.mono ?_
  rintro e V ⟨v', rfl, hr, hv⟩
  have HR := Lib.hid hr
  have HB := Lib.hid (btr HBX.out hv)
  obtain ⟨Av, cv, rfl, -⟩ := HR.out.slice
  clear hr hv
  go_wp2
  go_ret2
  exact ⟨_, rfl, HR.out, HB.out⟩
end
end W
end Go.Proofs.YtkceenmlhfkkhaaGreatDoor
namespace Go.Proofs.YtkceenmlhfkkhaaGreatDoor
open Go.RowKit K
open WP (GP gp gpL)
namespace W
set_option maxRecDepth 100000
theorem e2_ones : ∀ (x : List UInt8 × Int), ∀ u ∈ e2 x, u.oneCell' = true := by
  intro x u hu
  simp [e2] at hu
  rcases hu with rfl | rfl <;> rfl
section
variable {w : World} {g : Nat}
set_option maxHeartbeats 8000000 in
theorem parts_one (p : GP) (rs : List SP.Run) (q f : Bool) (c : Int) (v : Value) (hv : GT w v [p]) (hb : rs.length ≤ 100000) (hc : PCON w g p q f c rs) :
    Calls Tryz.prog 36 #[.pointer (some ⟨g, 0, none⟩), v, .agg #[.bool q, .bool f, .int .i64 c]] w (RunOut w rs) := by
  obtain ⟨i0, hi, hz0, hz1, hz2⟩ := info_parts infoRun
  obtain ⟨A, cap, rfl⟩ := hv.slice
  have HV := Lib.hid hv
  have HC := Lib.hid hc
  have HB := Lib.hid hb
  obtain ⟨X0, hX0⟩ : ∃ X0, X0 = w.alloc (.cells #[.bool q, .bool f, .int .i64 c] 90) := ⟨_, rfl⟩
  have HX0 := Lib.hid hX0
  have HBX := Lib.hid (show Below w.heap.size w X0 by rw [hX0]; exact balloc _ _)
  have hm0 : X0.heap[w.heap.size]? = some (.cells #[.bool q, .bool f, .int .i64 c] 90 (0, 0)) := by rw [hX0]; exact al_new w _
  have HM0 := Lib.hid hm0
  have hmf : ∀ (fn : Fn) (first cap : Array Value) (w : World), (Instr.makeFunc fn first cap).run Tryz.prog w = .ok (.func fn first cap) w := fun _ _ _ _ => rfl
  have hzx : w.heap.size < X0.heap.size := (Array.getElem?_eq_some_iff.1 hm0).1
  clear hv hc hb hX0 hm0
  dsimp only [List.length_cons, List.length_nil] at *
  go_enter Tryz.func36, Tryz.ntmps36
  go_upto_region 1 with (fail)
  rw [← HX0.out]
  go_wp2
  go_loopw [9, 18] (fun o i wr => (i = .int .i64 0 ∧ o = .slice none 0 0 ∧ wr = X0) ∨ (i = .int .i64 1 ∧ (∃ A' c', o = .slice A' rs.length c') ∧ Hid (R2 wr o rs) ∧ Hid (Below w.heap.size w wr))) (fun _ i _ => 1 - (intOf i).toNat)
  case atStart => exact .inl ⟨rfl, rfl, rfl⟩
  case round =>
    rcases hrel with ⟨rfl, rfl, hwr⟩ | ⟨rfl, ⟨A', c', rfl⟩, HR, HBW⟩
    · have HWR := Lib.hid hwr
      have HWB := Lib.hid (show Below w.heap.size w wr ∧ wr.heap[w.heap.size]? = some (.cells #[.bool q, .bool f, .int .i64 c] 90 (0, 0)) from by rw [hwr]; exact ⟨HBX.out, HM0.out⟩)
      clear hwr
      obtain ⟨b, off, A2, cap2, rfl, -, g0, g1, g2, g3, g4, hg⟩ := (HV.out.below HWB.out.1).get (i := 0) (p := p) rfl
      rw [Nat.zero_mul, Nat.add_zero] at g0 g1 g2 g3 g4
      have hbw : b < wr.heap.size := lt_of_cell g0
      obtain ⟨kd, t, o, cl, qs⟩ := p
      dsimp only [GP.kind, GP.text, GP.op, GP.colon, GP.parts] at g0 g1 g2 g3 g4 hg
      obtain ⟨X, hX⟩ : ∃ X, X = wr.alloc (.cells #[.int .i64 kd, .string ⟨t.toArray⟩, .int .i64 o, .bool cl, .slice A2 qs.length cap2] 114) := ⟨_, rfl⟩
      have HX := Lib.hid hX
      have HBW := Lib.hid (show Below wr.heap.size wr X by rw [hX]; exact balloc _ _)
      have hxp : X.heap[wr.heap.size]? = some (.cells #[.int .i64 kd, .string ⟨t.toArray⟩, .int .i64 o, .bool cl, .slice A2 qs.length cap2] 114 (0, 0)) := by rw [hX]; exact al_new wr _
      obtain ⟨x0, x1, x2, x3, x4⟩ := p5 hxp
      have hxl := (Array.getElem?_eq_some_iff.1 hxp).1
      have HMX := Lib.hid ((HBW.out.block _ (Array.getElem?_eq_some_iff.1 HWB.out.2).1).trans HWB.out.2)
      obtain ⟨m0, m1, m2⟩ := m3 HMX.out
      have hml := (Array.getElem?_eq_some_iff.1 HMX.out).1
      have HCALL := Lib.hid (HC.out X A2 cap2 (HWB.out.1.trans (HBW.out.mono HWB.out.1.size)) (hg.below HBW.out))
      dsimp only [GP.kind, GP.text, GP.op, GP.colon, GP.parts] at HCALL
      clear hX hxp hg HC HV
      go_upto_region 6 with (fail)
      rw [← HX.out]
      go_wp2_with fail
      refine HCALL.out.mono ?_
      rintro e Y ⟨v', rfl, hr, hY⟩
      obtain ⟨Ar, cr, rfl, -⟩ := hr.slice
      obtain ⟨A3, c3, W3, hrun, hr3, hb3⟩ := clone_row e2_len e2_ones Tryz.underlying86 hi hz0 hz1 hz2 rfl (by decide) (by omega) hr HB.out
      have HRUN := Lib.hid hrun
      have HR3 := Lib.hid hr3
      have HB3 := Lib.hid (show Below w.heap.size w W3 from ((HWB.out.1.trans (HBW.out.mono HWB.out.1.size)).trans (hY.mono (Nat.le_trans HWB.out.1.size HBW.out.size))).trans (hb3.mono (Nat.le_trans HWB.out.1.size (Nat.le_trans HBW.out.size hY.size))))
      clear hr hY hrun hr3 hb3
      go_wp2_with (at_builtin; refine append_eqT rfl _ _ 86 rfl _ _ _ rfl rfl HRUN.out ?_)
      go_wp2
      go_roundw
      case rel => exact .inr ⟨by go_num, ⟨A3, c3, rfl⟩, HR3, HB3⟩
      case measure => simp [intOf]
    · go_wp2
      go_ret2
      exact ⟨_, rfl, HR.out, HBW.out⟩
end
end W
end Go.Proofs.YtkceenmlhfkkhaaGreatDoor
