/- Several texts in one: W09sa W09sb W09sc W09sd. -/
import Derived.Test.YtcbdhheelddgeaaGreatDoorNA
import Derived.Test.YtcbdhheelddgeaaGreatDoorPB
namespace Go.Proofs.YtcbdhheelddgeaaGreatDoor
open Go.RowKit K
namespace W
set_option maxRecDepth 100000 in
set_option maxHeartbeats 4000000 in
theorem skipS_any (ls : List (List UInt8 × Bool)) (base g : Nat) (s : List UInt8) (at_ : Nat) (va vm vb : Value) (A : Option Addr) (cap : Nat) (c h str : Bool) (w : World) (he : EB w g s at_ va vm vb c h str (.slice A ls.length cap)) (hown : w.ownsRow base 77 2 (.slice A ls.length cap) ls.length (dls ls)) (hA : (Value.slice A ls.length cap).ownBlock ≠ some g) (hE : Env9 w) (hg : 0 < g) (hs : s.length ≤ 100000) (ha : at_ ≤ s.length) (hn : ls.length ≤ 100000) :
  Calls Tryz.prog 35 #[.pointer (some ⟨g, 0, none⟩)] w fun e w' => e = .returned (.tuple #[]) ∧ EB w' g s (AY.skipL s ls at_ : Nat) va vm vb c h str (.slice none 0 0) ∧ OneBox g w w' := by
 obtain ⟨-, -, -, -, -, -, -, -, x8⟩ := he.cells
 have hgs := he.lt
 have HE := Lib.hid he
 have HO := Lib.hid hown
 have HA := Lib.hid hA
 have HV := Lib.hid hE
 have HS := Lib.hid hs
 have HAT := Lib.hid ha
 have k0 : (0 : Int) ≤ (ls.length : Int) := by omega
 have hg0 := hg
 clear he hown hA hE hs ha hg
 go_enter Tryz.func35, Tryz.ntmps35
 go_wp2
 go_loopw [13] (fun i wr => ∃ k a : Nat, k ≤ ls.length ∧ i = .int .i64 k ∧ Hid ((at_ ≤ a ∧ a ≤ s.length) ∧ AY.skipL s (ls.drop k) a = AY.skipL s ls at_) ∧ Hid (EB wr g s a va vm vb c h str (.slice A ls.length cap)) ∧ Hid (OneBox g w wr)) (fun i _ => ls.length - (intOf i).toNat)
 case atStart => exact ⟨0, at_, Nat.zero_le _, rfl, Lib.hid ⟨⟨Nat.le_refl _, HAT.out⟩, rfl⟩, HE, Lib.hid (OneBox.refl _ _)⟩
 case round =>
  obtain ⟨k, a, hk, rfl, HAA, HB, HOB⟩ := hrel
  clear HE x8
  by_cases hlt : k < ls.length
  ·have hlt2 : ((k : Int) < (ls.length : Int)) = True := eq_true (by omega)
   have hk0 : (0 : Int) ≤ (k : Int) := by omega
   obtain ⟨q, cq, hq, hqc⟩ := row_some HO.out (by omega)
   obtain ⟨d, hd⟩ : ∃ d, ls[k]? = some d := ⟨_, List.getElem?_eq_getElem hlt⟩
   obtain ⟨e0, e1⟩ := dls_at hd
   injection hq with hq _ hq3
   subst hq hq3
   have hqg : q ≠ g := fun e => HA.out (by rw [e]; rfl)
   have hqs : q < w.heap.size := World.block_lt_of_cell? _ _ (hqc _ _ e0)
   have hq2 := HOB.out.2.1 q hqs hqg
   have c0 : wr.cell? ⟨q, k * 2, none⟩ = some (.string ⟨d.1.toArray⟩) := (World.cell?_of_block hq2).trans (hqc _ _ e0)
   have c1 : wr.cell? ⟨q, k * 2 + 1, none⟩ = some (.bool d.2) := (World.cell?_of_block hq2).trans (hqc _ _ e1)
   obtain ⟨d0, d1⟩ := d
   have HSK := Lib.hid (AY.skipL_step (s := s) (a := a) hd)
   dsimp only at c0 c1
   obtain ⟨qd, hqd⟩ : ∃ qd, qd = wr.heap.size := ⟨_, rfl⟩
   obtain ⟨X, hX⟩ : ∃ X, X = wr.alloc (.cells #[.string ⟨d0.toArray⟩, .bool d1] 77) := ⟨_, rfl⟩
   have hxb : Below wr.heap.size wr X := by rw [hX]; exact balloc _ _
   have HBX := Lib.hid (HB.out.new hxb)
   have HOX := Lib.hid (HOB.out.trans (OneBox.of HB.out.lt hxb))
   have HDX := Lib.hid (show X.heap[qd]? = some (.cells #[.string ⟨d0.toArray⟩, .bool d1] 77 (0, 0)) by rw [hX, hqd]; exact al_new _ _)
   have HQG := Lib.hid (show qd ≠ g by have := HB.out.lt; omega)
   have HX := Lib.hid hX
   have HQD := Lib.hid hqd
   clear hd e0 e1 hqc hqg hqs hq2 hX hxb hqd HB HOB
   go_upto_region 3 with (fail)
   rw [← HX.out, ← HQD.out]
   go_wp2
   go_loopg [4] (left9 false (s.length - a)) (fun m f wi => ∃ (fb : Bool) (a2 : Nat), f = .bool fb ∧ Hid (m = left9 fb (s.length - a2)) ∧ Hid ((at_ ≤ a2 ∧ a2 ≤ s.length) ∧ AY.F s (d0, d1) a = if fb = true then a2 else AY.F s (d0, d1) a2) ∧ Hid (EB wi g s a2 va vm vb c h str (.slice (some ⟨q, 0, none⟩) ls.length cap)) ∧ Hid (OneBox g w wi) ∧ Hid (wi.heap[qd]? = some (.cells #[.string ⟨d0.toArray⟩, .bool d1] 77 (0, 0))))
   case atStart => exact ⟨false, a, rfl, Lib.hid rfl, Lib.hid ⟨HAA.out.1, by rw [if_neg (by decide)]⟩, HBX, HOX, HDX⟩
   case round =>
    obtain ⟨fb, a2, rfl, HM, HA2, HB2, HO2, HD2⟩ := hrel
    clear HBX HOX HDX HX HQD
    obtain ⟨x0, x1, -⟩ := HB2.out.cells
    cases fb with
    | true =>
     go_wp2_with fail
     go_quiet (fail)
     go_wp2
     go_roundw
     case measure => simp [intOf]; omega
     case rel => exact ⟨k + 1, a2, hlt, by go_num, Lib.hid ⟨HA2.out.1, by have e1 := HA2.out.2; have e2 := HSK.out; simp only [if_true] at e1; rw [← HAA.out.2, e2, e1]⟩, Lib.hid (HB2.out.new (bdN (Below.refl _ _) _)), Lib.hid (HO2.out.trans (OneBox.of HB2.out.lt (bdN (Below.refl _ _) _)))⟩
    | false =>
     by_cases hlt3 : a2 < s.length
     ·have hl4 : ((a2 : Int) < (s.length : Int)) = True := eq_true (by omega)
      have hl5 : decide ((a2 : Int) < (s.length : Int)) = true := decide_eq_true (by omega)
      have hl6 : (0 : Int) ≤ (a2 : Int) := by omega
      have hl7 : (a2 : Int) ≤ (s.length : Int) := by omega
      obtain ⟨m0, hm0⟩ := HV.out.box HO2.out hg0
      obtain ⟨ln, hln⟩ : ∃ ln, (Lib.cut (cut s a2 s.length) [10]).1 = ln := ⟨_, rfl⟩
      have hll : ln.length + a2 ≤ s.length := by rw [← hln]; have := cut_fst (cut s a2 s.length) [10]; simp at this ⊢; omega
      have HC := Lib.hid (fun V (hV : V.cell? ⟨0, 0, none⟩ = some (.int .i64 m0)) => show Calls Tryz.prog 72 #[.string ⟨(cut s a2 s.length).toArray⟩, .string ⟨#[10]⟩] V (fun e w' => e = .returned (.tuple #[.string ⟨ln.toArray⟩, .string ⟨(Lib.cut (cut s a2 s.length) [10]).2.1.toArray⟩, .bool (Lib.cut (cut s a2 s.length) [10]).2.2]) ∧ ∃ m, w' = V.drewN m) from by
       have := Tryz.strings_Cut ⟨(cut s a2 s.length).toArray⟩ ⟨#[10]⟩ m0 V (by have := HS.out; simp [ByteArray.size]; omega) hV
       rw [← hln]
       exact this)
      have HLN := Lib.hid hln
      have HM0 := Lib.hid hm0
      have HLL := Lib.hid hll
      clear hm0 hln hll
      generalize (Lib.cut (cut s a2 s.length) [10]).2.1 = rst at HC
      generalize (Lib.cut (cut s a2 s.length) [10]).2.2 = fnd at HC
      go_wp2_with fail
      go_quiet (fail)
      go_wp2_with fail
      obtain ⟨V, hV⟩ : ∃ V, V = wr.drewN nq := ⟨_, rfl⟩
      rw [← hV]
      have hbV : Below wr.heap.size wr V := by rw [hV]; exact bdN (Below.refl _ _) nq
      have HBV := Lib.hid hbV
      have hm1 : V.cell? ⟨0, 0, none⟩ = some (.int .i64 m0) := by rw [hV]; exact HM0.out
      have HM1 := Lib.hid hm1
      obtain ⟨y0, y1, -⟩ := (HB2.out.new hbV).cells
      clear x0 x1 hV hbV hm1 hl4 hl5
      go_quiet ((go_at_call 72; exact Calls.quiet_of (HC.out _ HM1.out)))
      obtain ⟨V1, hV1⟩ : ∃ V1, V1 = V.drewN nq := ⟨_, rfl⟩
      rw [← hV1]
      have hbv : Below wr.heap.size wr V1 := by rw [hV1]; exact bdN HBV.out _
      have HBW := Lib.hid (HB2.out.new hbv)
      have HOW := Lib.hid (HO2.out.trans (OneBox.of HB2.out.lt hbv))
      have HDW := Lib.hid ((hbv.block qd (Array.getElem?_eq_some_iff.1 HD2.out).1).trans HD2.out)
      clear hbv hV1 y0 y1
      obtain ⟨z0, z1, -⟩ := HBW.out.cells
      have zf := HBW.out.thaw 1
      have w1 : IntKind.i64.wrap ((a2 : Int) + (ln.length : Int)) = (a2 : Int) + ln.length := IntWalk.i64_in _ (by have := HLL.out; have := HS.out; omega)
      have w2 : IntKind.i64.wrap ((a2 : Int) + (ln.length : Int) + 1) = (a2 : Int) + ln.length + 1 := IntWalk.i64_in _ (by have := HLL.out; have := HS.out; omega)
      go_wp2_with fail
      go_still_tail 17, (by kernel_rfl)
      change wpList _ _ _ _ _ V1.drew
      go_upto_region 7 with (fail)
      obtain ⟨a3, ha3⟩ : ∃ a3 : Nat, a3 = min (a2 + ln.length + 1) s.length := ⟨_, rfl⟩
      have hmin : min ((a2 : Int) + (ln.length : Int) + 1) (s.length : Int) = (a3 : Int) := by omega
      rw [hmin]
      obtain ⟨U, hU⟩ : ∃ U, U = (V1.setCell ⟨g, 1, none⟩ (.int .i64 (a3 : Int))).drew := ⟨_, rfl⟩
      rw [← hU]
      have HBU := Lib.hid (show EB U g s a3 va vm vb c h str (.slice (some ⟨q, 0, none⟩) ls.length cap) by rw [hU]; exact HBW.out.set1 _)
      have HOU := Lib.hid (show OneBox g w U by
       rw [hU]
       have h1 := HOW.out.set 1 (.int .i64 (a3 : Int))
       exact h1.trans (OneBox.of (by have := HBW.out.lt; simpa using this) (Below.refl _ _).drew))
      have HDU := Lib.hid (show U.heap[qd]? = some (.cells #[.string ⟨d0.toArray⟩, .bool d1] 77 (0, 0)) by rw [hU]; exact (Below.heap_setCell _ _ _ _ (by dsimp only; exact HQG.out)).trans HDW.out)
      have HA3 := Lib.hid (show at_ ≤ a3 ∧ a3 ≤ s.length ∧ a2 < a3 by have := HA2.out.1; omega)
      have HFL := Lib.hid (AY.F_line (d := (d0, d1)) hlt3 HLN.out ha3)
      clear hU hmin ha3 z0 z1 zf w1 w2
      have u0 := Lib.cell_of_heap HDU.out 0
      have u1 := Lib.cell_of_heap HDU.out 1
      cases d1 with
      | true =>
       have HTL := Lib.hid (show Calls Tryz.prog 73 #[.string ⟨ln.toArray⟩, .string ⟨#[9]⟩] U (fun e w' => e = .returned (.string ⟨(Lib.trimLeftB ln 9).toArray⟩) ∧ w' = U) from Tryz.strings_TrimLeft_one ⟨ln.toArray⟩ 9 (by decide) U)
       obtain ⟨l2, hl2⟩ : ∃ l2, Lib.trimLeftB ln 9 = l2 := ⟨_, rfl⟩
       have HL2 := Lib.hid hl2
       rw [hl2] at HTL
       obtain ⟨f2, hf2⟩ : ∃ f2, (l2 == d0) = f2 := ⟨_, rfl⟩
       have HF2 := Lib.hid hf2
       go_wp2_with fail
       refine HTL.out.mono ?_
       rintro e U2 ⟨rfl, rfl⟩
       go_wp2
       go_roundg (left9 f2 (s.length - a3))
       case measure => have e1 := HM.out; have e2 := HA3.out; rw [e1]; unfold left9; cases f2 <;> simp <;> omega
       case rel => exact ⟨f2, a3, rfl, Lib.hid rfl, Lib.hid ⟨⟨HA3.out.1, HA3.out.2.1⟩, by have e1 := HA2.out.2; have e3 := HFL.out; have e4 := HL2.out; have e5 := HF2.out; simp only [Bool.false_eq_true, if_false] at e1; simp only [if_true, e4] at e3; rw [e1, e3, ← e5]; by_cases hq : l2 = d0 <;> simp [hq]⟩, HBU, HOU, HDU⟩
      | false =>
       obtain ⟨f2, hf2⟩ : ∃ f2, (ln == d0) = f2 := ⟨_, rfl⟩
       have HF2 := Lib.hid hf2
       go_wp2
       go_roundg (left9 f2 (s.length - a3))
       case measure => have e1 := HM.out; have e2 := HA3.out; rw [e1]; unfold left9; cases f2 <;> simp <;> omega
       case rel => exact ⟨f2, a3, rfl, Lib.hid rfl, Lib.hid ⟨⟨HA3.out.1, HA3.out.2.1⟩, by have e1 := HA2.out.2; have e3 := HFL.out; have e5 := HF2.out; simp only [Bool.false_eq_true, if_false] at e1 e3; rw [e1, e3, ← e5]; by_cases hq : ln = d0 <;> simp [hq]⟩, HBU, HOU, HDU⟩
     ·have hl4 : ((a2 : Int) < (s.length : Int)) = False := eq_false (by omega)
      have hl5 : decide ((a2 : Int) < (s.length : Int)) = false := decide_eq_false (by omega)
      go_wp2_with fail
      go_quiet (fail)
      go_wp2
      go_roundw
      case measure => simp [intOf]; omega
      case rel => exact ⟨k + 1, a2, hlt, by go_num, Lib.hid ⟨HA2.out.1, by have e1 := HA2.out.2; have e2 := HSK.out; simp only [Bool.false_eq_true, if_false] at e1; rw [← HAA.out.2, e2, e1, AY.F_end hlt3]⟩, Lib.hid (HB2.out.new (bdN (Below.refl _ _) _)), Lib.hid (HO2.out.trans (OneBox.of HB2.out.lt (bdN (Below.refl _ _) _)))⟩
  ·have hlt2 : ((k : Int) < (ls.length : Int)) = False := eq_false (by omega)
   have f8 := HB.out.thaw 8
   obtain ⟨-, -, -, -, -, -, -, -, y8⟩ := HB.out.cells
   have HF := Lib.hid (show EB (wr.setCell ⟨g, 8, none⟩ (.slice none 0 0)) g s (AY.skipL s ls at_ : Nat) va vm vb c h str (.slice none 0 0) ∧ OneBox g w (wr.setCell ⟨g, 8, none⟩ (.slice none 0 0)) from ⟨by rw [← HAA.out.2, AY.skipL_end hlt]; exact HB.out.set8 _, HOB.out.set _ _⟩)
   go_wp2
   first | go_end0 | refine bodyPost_ret (results_none rfl _ _ _) rfl ?_
   exact ⟨rfl, HF.out⟩
end W
end Go.Proofs.YtcbdhheelddgeaaGreatDoor
namespace Go.Proofs.YtcbdhheelddgeaaGreatDoor
open Go.RowKit K
open WP (GP gp gpL)
namespace W
set_option maxRecDepth 100000 in
set_option maxHeartbeats 1000000 in
theorem literalS_any (hB : BrAll) (kd ps st : Nat) (tx : List UInt8) (w : World) (hl : tx.length ≤ 20000) :
  Calls Tryz.prog 34 #[.agg #[.int .i64 kd, .int .i64 ps, .int .i64 st, .string ⟨tx.toArray⟩]] w fun e w' => e = .returned (.tuple #[.string ⟨(litStr (AY.litK kd tx)).toArray⟩, .bool (AY.litK kd tx).isSome]) ∧ Below w.heap.size w w' := by
 obtain ⟨R, hR⟩ : ∃ R, AY.litK kd tx = R := ⟨_, rfl⟩
 rw [hR]
 unfold AY.litK AY.litP at hR
 obtain ⟨V, hV⟩ : ∃ V, V = w.alloc (.cells #[.int .i64 kd, .int .i64 ps, .int .i64 st, .string ⟨tx.toArray⟩] 46) := ⟨_, rfl⟩
 have HB := Lib.hid (show Below w.heap.size w V by rw [hV]; exact balloc _ _)
 obtain ⟨t0, -, -, t3, -⟩ := blk4 (show V.heap[w.heap.size]? = some (.cells #[.int .i64 kd, .int .i64 ps, .int .i64 st, .string ⟨tx.toArray⟩] 46 (0, 0)) by rw [hV]; exact al_new w _)
 have HV := Lib.hid hV
 have HP := Lib.hid (Parse_any hB tx V (by omega))
 clear hV hB
 by_cases hk : kd = 1
 case neg =>
  have h1 : ((kd : Int) == 1) = false := by rw [beq_eq_false_iff_ne]; omega
  rw [if_neg hk] at hR
  subst hR
  have h2 : ((kd : Int) != 1) = true := by simp [bne, h1]
  go_enter Tryz.func34, Tryz.ntmps34
  go_upto_region 1 with (fail)
  rw [← HV.out]
  go_wp2
  refine bodyPost_ret (v := .tuple #[.string ⟨#[]⟩, .bool false]) (by simp [results, Tryz.results34, go_sem]) rfl ⟨rfl, HB.out⟩
 have h1 : ((kd : Int) == 1) = true := by rw [beq_iff_eq]; omega
 have h2 : ((kd : Int) != 1) = false := by simp [bne, h1]
 rw [if_pos hk] at hR
 clear hk
 cases hp : WP.parse tx 0 with
 | error x =>
  rw [hp] at HP hR
  dsimp only at hR
  subst hR
  have hx := WP.parse_code hp
  clear hp
  obtain ⟨x1, x2⟩ := x
  dsimp only at hx HP
  have h3 : (x2 == 0) = false := by rw [beq_eq_false_iff_ne]; exact hx
  have h4 : (x2 != 0) = true := by simp [bne, h3]
  clear hx
  go_enter Tryz.func34, Tryz.ntmps34
  go_upto_region 1 with (fail)
  rw [← HV.out]
  go_wp2_with fail
  refine HP.out.mono ?_
  rintro e V2 ⟨rfl, hb⟩
  have HB2 := Lib.hid (btr HB.out hb)
  clear hb
  go_wp2
  refine bodyPost_ret (v := .tuple #[.string ⟨#[]⟩, .bool false]) (by simp [results, Tryz.results34, go_sem]) rfl ⟨rfl, HB2.out⟩
 | ok qs =>
  rw [hp] at HP hR
  dsimp only at hR
  have HRR := Lib.hid hR
  obtain ⟨hc, hz⟩ := WP.parse_wt hp
  have HC := Lib.hid (And.intro hc hz)
  clear hp hc hz hR
  go_enter Tryz.func34, Tryz.ntmps34
  go_upto_region 1 with (fail)
  rw [← HV.out]
  go_wp2_with fail
  refine HP.out.mono ?_
  rintro e V2 ⟨A, cap, rfl, hb, hrep⟩
  have HB2 := Lib.hid (btr HB.out hb)
  have HLI := Lib.hid (Literal_any _ (gpL qs) V2 (stand9 (cap := cap) hrep) (by have := HC.out; omega) (by have := HC.out; omega))
  clear hb hrep
  go_wp2_with fail
  refine HLI.out.mono ?_
  rintro e V3 ⟨rfl, hb⟩
  have HB3 := Lib.hid (btr HB2.out hb)
  rw [HRR.out]
  obtain ⟨x, hx⟩ : ∃ x, litStr R = x := ⟨_, rfl⟩
  obtain ⟨b, hb2⟩ : ∃ b, R.isSome = b := ⟨_, rfl⟩
  have HEX := Lib.hid (And.intro hx hb2)
  rw [hx, hb2]
  clear hb hx hb2 HLI HRR
  go_wp2
  refine bodyPost_ret (v := .tuple #[.string ⟨x.toArray⟩, .bool b]) (by simp [results, Tryz.results34, go_sem]) rfl ⟨by rw [HEX.out.1, HEX.out.2], HB3.out⟩
end W
end Go.Proofs.YtcbdhheelddgeaaGreatDoor
namespace Go.Proofs.YtcbdhheelddgeaaGreatDoor
open Go.RowKit K
namespace AY
/-- pass, the delimiters being settled. -/
def passY' (M : List D) (kd st : Nat) (s tx : List UInt8) (c str : Bool) : Y :=
 if kd = 3 then ⟨⟨s, skipL s M st, [], [], true, false, str⟩, []⟩ else
 if kd = 2 then ⟨⟨s, st, [], [], AX.opensB tx, tx == [60, 60] || tx == [60, 60, 45], tx == [60, 60, 45]⟩, M⟩
 else ⟨⟨s, st, [], [], c && kd == 1 && AX.introB tx, false, str⟩, M⟩
theorem passY'_op {M : List D} {st : Nat} {s tx : List UInt8} {c str b1 b2 bo : Bool} (h1 : (tx == [60, 60]) = b1) (h2 : (tx == [60, 60, 45]) = b2) (h3 : W.opsL.contains tx = bo) : passY' M 2 st s tx c str = ⟨⟨s, st, [], [], bo, b1 || b2, b2⟩, M⟩ := by
 unfold passY'
 rw [if_neg (by decide), if_pos rfl, h1, h2, ← h3]
 rfl
theorem passY'_word {M : List D} {kd st : Nat} {s tx : List UInt8} {c str k1 : Bool} (h2 : ¬ kd = 2) (h3 : ¬ kd = 3) (h1 : (kd == 1) = k1) : passY' M kd st s tx c str = ⟨⟨s, st, [], [], c && k1 && AX.introB tx, false, str⟩, M⟩ := by
 unfold passY'
 rw [if_neg h3, if_neg h2, h1]
theorem passY'_eq (y : Y) (kd st : Nat) (tx : List UInt8) : (passY litP y kd st tx).x.at_ = (passY' (linesOf litP y.x.here y.x.strip y.lines kd tx) kd st y.x.s tx y.x.cmd y.x.strip).x.at_ ∧ (passY litP y kd st tx).x.cmd = (passY' (linesOf litP y.x.here y.x.strip y.lines kd tx) kd st y.x.s tx y.x.cmd y.x.strip).x.cmd ∧ (passY litP y kd st tx).x.here = (passY' (linesOf litP y.x.here y.x.strip y.lines kd tx) kd st y.x.s tx y.x.cmd y.x.strip).x.here ∧ (passY litP y kd st tx).x.strip = (passY' (linesOf litP y.x.here y.x.strip y.lines kd tx) kd st y.x.s tx y.x.cmd y.x.strip).x.strip ∧ (passY litP y kd st tx).lines = (passY' (linesOf litP y.x.here y.x.strip y.lines kd tx) kd st y.x.s tx y.x.cmd y.x.strip).lines := by
 unfold passY passY'
 by_cases h3 : kd = 3
 ·rw [if_pos h3, if_pos h3]; exact ⟨rfl, rfl, rfl, rfl, rfl⟩
 ·rw [if_neg h3, if_neg h3]
  by_cases h2 : kd = 2
  ·rw [if_pos h2, if_pos h2]; exact ⟨rfl, rfl, rfl, rfl, rfl⟩
  ·rw [if_neg h2, if_neg h2]; exact ⟨rfl, rfl, rfl, rfl, rfl⟩
end AY
namespace W
/-- What pass leaves, exactly. -/
def PassS (base g : Nat) (s : List UInt8) (p : AY.Y) (va vm vb vl : Value) (w : World) (w' : World) : Prop :=
 ∃ (A' : Option Addr) (cap' : Nat), EB w' g s p.x.at_ va vm vb p.x.cmd p.x.here p.x.strip (.slice A' p.lines.length cap') ∧ w'.ownsRow base 77 2 (.slice A' p.lines.length cap') p.lines.length (dls p.lines) ∧ FP base g vl w w' ∧ ∀ q, q < w.heap.size → (Value.slice A' p.lines.length cap').ownBlock = some q → vl.ownBlock = some q
abbrev PassB (base g : Nat) (s : List UInt8) (M : List AY.D) (c' h' st' : Bool) (st : Nat) (va vm vb vl : Value) (w : World) (w' : World) : Prop := PassS base g s ⟨⟨s, st, [], [], c', h', st'⟩, M⟩ va vm vb vl w w'
def Mid9S (base g : Nat) (s : List UInt8) (st : Nat) (M : List AY.D) (va vm vb vl : Value) (c str : Bool) (tok : Array Value) (w : World) (w' : World) : Prop :=
 ∃ (A' : Option Addr) (cap' : Nat), EB w' g s st va vm vb c false str (.slice A' M.length cap') ∧ w'.ownsRow base 77 2 (.slice A' M.length cap') M.length (dls M) ∧ FP base g vl w w' ∧ (∀ q, q < w.heap.size → (Value.slice A' M.length cap').ownBlock = some q → vl.ownBlock = some q) ∧ w'.heap[w.heap.size]? = some (.cells tok 46 (0, 0)) ∧ (Value.slice A' M.length cap').ownBlock ≠ some g
theorem passS_end {base g : Nat} {s : List UInt8} {st : Nat} {va vm vb vl : Value} {c' h' st' : Bool} {A' : Option Addr} {cap' : Nat} {M : List AY.D} {w wc w' : World} (hbg : base ≤ g)
  (m2 : wc.ownsRow base 77 2 (.slice A' M.length cap') M.length (dls M)) (m4 : FP base g vl w wc) (m5 : ∀ q, q < w.heap.size → (Value.slice A' M.length cap').ownBlock = some q → vl.ownBlock = some q) (m7 : (Value.slice A' M.length cap').ownBlock ≠ some g)
  (he : EB w' g s st va vm vb c' h' st' (.slice A' M.length cap')) (ho : OneBox g wc w') : PassB base g s M c' h' st' st va vm vb vl w w' :=
 ⟨A', cap', he, own_same m2 (fun q hq => ho.2.1 q (m2.lt q hq).2 (fun e => m7 (by rw [← e]; exact hq))), m4.trans (FP.of_box (v := vl) ho hbg) (fun q _ e => e), m5⟩
set_option maxRecDepth 100000 in
set_option maxHeartbeats 8000000 in
theorem passS_any (hB : BrAll) (kd ps st : Nat) (tx : List UInt8) (base g : Nat) (s : List UInt8) (at_ : Int) (va vm vb : Value) (A : Option Addr) (cap : Nat) (ls : List (List UInt8 × Bool)) (c h str : Bool) (w : World) (he : EB w g s at_ va vm vb c h str (.slice A ls.length cap)) (hown : w.ownsRow base 77 2 (.slice A ls.length cap) ls.length (dls ls)) (hbg : base ≤ g) (hE : Env9 w) (hbs : 0 < base) (hl : tx.length ≤ 20000) (hs : s.length ≤ 100000) (hst : st ≤ s.length) (hn : ls.length ≤ 50000) :
  Calls Tryz.prog 16 #[.pointer (some ⟨g, 0, none⟩), .agg #[.int .i64 kd, .int .i64 ps, .int .i64 st, .string ⟨tx.toArray⟩]] w fun e w' => e = .returned (.tuple #[]) ∧ PassS base g s (AY.passY' (AY.linesOf AY.litP h str ls kd tx) kd st s tx c str) va vm vb (.slice A ls.length cap) w w' := by
 obtain ⟨M, hM⟩ : ∃ M, AY.linesOf AY.litP h str ls kd tx = M := ⟨_, rfl⟩
 rw [hM]
 have HMM := Lib.hid hM
 have HML := Lib.hid (show M.length ≤ ls.length + 1 by rw [← hM]; exact AY.lines_len)
 clear hM
 have hgs := he.lt
 have hAg := row_g he hown
 obtain ⟨V, hV⟩ : ∃ V, V = w.setCell ⟨g, 1, none⟩ (.int .i64 st) := ⟨_, rfl⟩
 have e1 : EB V g s st va vm vb c h str (.slice A ls.length cap) := by rw [hV]; exact he.set1 _
 have hVs : V.heap.size = w.heap.size := by rw [hV]; simp
 have hV1 : OneBox g w V := by rw [hV]; exact (OneBox.refl g w).set 1 _
 obtain ⟨X, hX⟩ : ∃ X, X = V.alloc (.cells #[.int .i64 kd, .int .i64 ps, .int .i64 st, .string ⟨tx.toArray⟩] 46) := ⟨_, rfl⟩
 have e2 : EB X g s st va vm vb c h str (.slice A ls.length cap) := by rw [hX]; exact e1.new (balloc V _)
 have hX1 : OneBox g w X := by rw [hX]; exact hV1.alloc hgs _
 have hnX : X.heap[w.heap.size]? = some (.cells #[.int .i64 kd, .int .i64 ps, .int .i64 st, .string ⟨tx.toArray⟩] 46 (0, 0)) := by rw [hX, ← hVs]; exact al_new V _
 have hown2 : X.ownsRow base 77 2 (.slice A ls.length cap) ls.length (dls ls) := own_same hown (fun q hq => hX1.2.1 q (hown.lt q hq).2 (fun e => hAg (by rw [← e]; exact hq)))
 obtain ⟨-, w1, -⟩ := he.cells
 have wf := he.thaw 1
 have HX := Lib.hid (show X = (w.setCell ⟨g, 1, none⟩ (.int .i64 st)).alloc (.cells #[.int .i64 kd, .int .i64 ps, .int .i64 st, .string ⟨tx.toArray⟩] 46) by rw [hX, hV])
 have HE2 := Lib.hid e2
 have HO2 := Lib.hid hown2
 have HX1 := Lib.hid hX1
 have HN := Lib.hid hnX
 have HENV := Lib.hid hE
 have HBG := Lib.hid (And.intro hbg hgs)
 have hg0 : 0 < g := Nat.lt_of_lt_of_le hbs hbg
 have HG0 := Lib.hid hg0
 have HBS := Lib.hid hbs
 have HL := Lib.hid (And.intro hl (And.intro hs (And.intro hst hn)))
 have HAG := Lib.hid hAg
 have HLT := Lib.hid (literalS_any hB kd ps st tx)
 have HOW := Lib.hid (fun q hq => (hown.lt q hq).2)
 obtain ⟨x0, x1, x2, x3, x4, x5, x6, x7, x8⟩ := e2.cells
 have f6 := e2.thaw 6
 clear he hown hE hg0 hbs hl hs hst hn hAg e1 hV1 hX hV e2 hX1 hnX hVs hown2 hbg hB
 go_enter Tryz.func16, Tryz.ntmps16
 go_upto_region 2 with (fail)
 rw [← HX.out]
 go_upto_if 14 with (fail)
 go_cut [] (fun wx => Hid (Mid9S base g s st M va vm vb (.slice A ls.length cap) c str #[.int .i64 kd, .int .i64 ps, .int .i64 st, .string ⟨tx.toArray⟩] w wx))
 case first =>
  cases h with
  | false =>
   go_wp2_with fail
   go_meet
   obtain rfl : ls = M := AY.lines_no.symm.trans HMM.out
   exact Lib.hid ⟨A, cap, HE2.out, HO2.out, FP.of_box HX1.out HBG.out.1, fun q _ e => e, HN.out, HAG.out⟩
  | true =>
   obtain ⟨Y, hY⟩ : ∃ Y, Y = X.setCell ⟨g, 6, none⟩ (.bool false) := ⟨_, rfl⟩
   have HEY := Lib.hid (show EB Y g s st va vm vb c false str (.slice A ls.length cap) by rw [hY]; exact HE2.out.set6 false)
   have HBY := Lib.hid (show OneBox g w Y by rw [hY]; exact HX1.out.set 6 _)
   have HNY := Lib.hid (show Y.heap[w.heap.size]? = some (.cells #[.int .i64 kd, .int .i64 ps, .int .i64 st, .string ⟨tx.toArray⟩] 46 (0, 0)) by rw [hY]; exact (Below.heap_setCell _ _ _ _ (by dsimp only; have := HBG.out.2; omega)).trans HN.out)
   have HOY := Lib.hid (show Y.ownsRow base 77 2 (.slice A ls.length cap) ls.length (dls ls) by rw [hY]; exact own_same HO2.out (fun q hq => Below.heap_setCell _ _ _ _ (by dsimp only; intro e; exact HAG.out (by rw [← e]; exact hq))))
   have HY := Lib.hid hY
   obtain ⟨t0, t1, t2, t3, -, -, -, -⟩ := blk4 HNY.out
   have HLY := Lib.hid (HLT.out Y HL.out.1)
   clear hY
   go_upto_region 4 with (fail)
   rw [← HY.out]
   go_wp2_with fail
   refine HLY.out.mono ?_
   rintro e Z ⟨rfl, hb⟩
   have HEZ := Lib.hid (HEY.out.new hb)
   have HBZ := Lib.hid (HBY.out.trans (OneBox.of HEY.out.lt hb))
   have HNZ := Lib.hid ((hb.block _ (Array.getElem?_eq_some_iff.1 HNY.out).1).trans HNY.out)
   have HOZ := Lib.hid (own_same HOY.out (fun q hq => hb.block q (HOY.out.lt q hq).2))
   clear hb t0 t1 t2 t3 x0 x1 x2 x3 x4 x5 x6 x7 x8 f6
   cases hlk : AY.litK kd tx with
   | none =>
    have HLK := Lib.hid hlk
    clear hlk
    dsimp only [litStr, Option.isSome]
    go_wp2_with fail
    go_meet
    obtain rfl : ls = M := (AY.lines_none HLK.out).symm.trans HMM.out
    exact Lib.hid ⟨A, cap, HEZ.out, HOZ.out, FP.of_box HBZ.out HBG.out.1, fun q _ e => e, HNZ.out, HAG.out⟩
   | some x =>
    obtain rfl : ls ++ [(x, str)] = M := (AY.lines_some hlk).symm.trans HMM.out
    clear hlk
    dsimp only [litStr, Option.isSome]
    obtain ⟨A', c', w3, hrun, hown3, hgrow3, hwhere⟩ := app_dl Z base cap A ls x str HOZ.out (by have := HL.out; omega) (by have := HEZ.out.lt; have := HBG.out; omega)
    have hkp : ∀ q, q < Z.heap.size → (Value.slice A ls.length cap).ownBlock ≠ some q → w3.heap[q]? = Z.heap[q]? := fun q h1 h2 => (hgrow3.block q (by simp; omega) (fun e => h2 e.symm)).trans (Below.heap_alloc _ _ _ h1)
    have r3 := HEZ.out.kept (hkp g HEZ.out.lt HAG.out)
    have HNW := Lib.hid ((hkp w.heap.size (Array.getElem?_eq_some_iff.1 HNZ.out).1 (fun e => by have := HOW.out _ e; omega)).trans HNZ.out)
    have HEW := Lib.hid r3
    have HFW := Lib.hid (show FP base g (.slice A ls.length cap) w w3 from
     (FP.of_box (v := .slice A ls.length cap) HBZ.out HBG.out.1).trans (u := .slice A ls.length cap) ⟨Nat.le_trans (by simp) hgrow3.size, fun q h1 _ h3 => hkp q h1 h3, (((Below.refl _ Z).alloc (by have := HBG.out; have := HBZ.out.1; omega) _).drew).grown hgrow3 (by have := HBG.out; have := HBZ.out.1; simp; omega) (fun k hk => (HOZ.out.lt k hk).1)⟩ (fun q _ e => e))
    have HGW := Lib.hid (show (Value.slice A' (ls ++ [(x, str)]).length c').ownBlock ≠ some g from fun e => by
     rcases hwhere with h | h
     ·exact HAG.out (h ▸ e)
     ·rw [h] at e
      injection e with e
      have := HEZ.out.lt
      omega)
    have HQW := Lib.hid (show ∀ q, q < w.heap.size → (Value.slice A' (ls ++ [(x, str)]).length c').ownBlock = some q → (Value.slice A ls.length cap).ownBlock = some q from fun q h1 e => by
     rcases hwhere with h | h
     ·exact h ▸ e
     ·rw [h] at e
      injection e with e
      have := HBZ.out.1
      omega)
    have y8 := r3.cells.2.2.2.2.2.2.2.2
    have y7 := r3.cells.2.2.2.2.2.2.2.1
    have yf := r3.thaw 8
    have z8 := HEZ.out.cells.2.2.2.2.2.2.2.2
    have z7 := HEZ.out.cells.2.2.2.2.2.2.2.1
    have hyg : g < Z.heap.size := HEZ.out.lt
    have HRUN := Lib.hid hrun
    have HO3 := Lib.hid hown3
    have HMID := Lib.hid (show Mid9S base g s st (ls ++ [(x, str)]) va vm vb (.slice A ls.length cap) c str #[.int .i64 kd, .int .i64 ps, .int .i64 st, .string ⟨tx.toArray⟩] w (w3.setCell ⟨g, 8, none⟩ (.slice A' (ls ++ [(x, str)]).length c')) from
     ⟨A', c', HEW.out.set8 _, own_same HO3.out (fun q hq => Below.heap_setCell _ _ _ _ (by dsimp only; intro e; exact HGW.out (by rw [← e]; exact hq))), HFW.out.trans (FP.of_box (v := .slice A ls.length cap) ((OneBox.refl g w3).set 8 _) HBG.out.1) (fun q _ e => e), HQW.out, (Below.heap_setCell _ _ _ _ (by dsimp only; have := HBG.out.2; omega)).trans HNW.out, HGW.out⟩)
    rw [show (ls ++ [(x, str)]).length = ls.length + 1 by simp] at HMID
    clear hkp r3 hrun hown3 hgrow3 hwhere
    go_wp2_with fail
    go_region_law (refine step_append_eq rfl _ _ 42 rfl 42 rfl _ _ rfl rfl HRUN.out ?_)
    all_goals (repeat go_step)
    all_goals go_meet
    all_goals exact HMID
 case rest =>
  obtain ⟨A', cap', m1, m2, m4, m5, m6, m7⟩ := hcut.out
  clear x0 x1 x2 x3 x4 x5 x6 x7 x8 f6 HX HE2 HO2 HX1 HN HLT
  have HM1 := Lib.hid m1
  have HM2 := Lib.hid m2
  have HM3 := HML
  have HM4 := Lib.hid m4
  have HM5 := Lib.hid m5
  have HM7 := Lib.hid m7
  have hgc : g < wc.heap.size := m1.lt
  obtain ⟨-, -, -, -, -, y5, y6, y7, -⟩ := m1.cells
  have f5 := m1.thaw 5
  have f6 := m1.thaw 6
  have f7 := m1.thaw 7
  obtain ⟨t0, -, -, t3, -⟩ := blk4 m6
  have hgw : ¬ g = w.heap.size := by omega
  have hwc : w.heap.size < wc.heap.size := (Array.getElem?_eq_some_iff.1 m6).1
  have HM6 := Lib.hid m6
  clear m1 m2 m4 m5 m6 m7 hcut
  by_cases h3 : kd = 3
  ·subst h3
   have HSK := Lib.hid (skipS_any M base g s st va vm vb A' cap' c false str wc HM1.out HM2.out HM7.out (by obtain ⟨m, hm⟩ := HENV.out; exact ⟨m, (World.cell?_of_block (HM4.out.below.block _ (Nat.lt_of_lt_of_le HBS.out (Nat.le_refl _)))).trans hm⟩) HG0.out HL.out.2.1 HL.out.2.2.1 (by have := HL.out; have := HM3.out; omega))
   go_wp2_with fail
   refine HSK.out.mono ?_
   rintro e Z ⟨rfl, hez, hoz⟩
   have z5 := hez.cells.2.2.2.2.2.1
   have zf := hez.thaw 5
   have HF := Lib.hid (show PassS base g s (AY.passY' M 3 st s tx c str) va vm vb (.slice A ls.length cap) w (Z.setCell ⟨g, 5, none⟩ (.bool true)) from
    ⟨none, 0, hez.set5 true, World.ownsRow_nil _ _ _ _, HM4.out.trans (FP.of_box (v := .slice A ls.length cap) (hoz.set 5 _) HBG.out.1) (fun q _ e => e), fun q _ e => by cases e⟩)
   clear hez hoz
   go_wp2
   first | go_end0 | refine bodyPost_ret (results_none rfl _ _ _) rfl ?_
   exact ⟨rfl, HF.out⟩
  by_cases h2 : kd = 2
  ·subst h2
   obtain ⟨b1, hb1⟩ : ∃ b1, (tx == [60, 60]) = b1 := ⟨_, rfl⟩
   obtain ⟨b2, hb2⟩ : ∃ b2, (tx == [60, 60, 45]) = b2 := ⟨_, rfl⟩
   obtain ⟨Y, hY⟩ : ∃ Y, Y = (wc.setCell ⟨g, 6, none⟩ (.bool (b1 || b2))).setCell ⟨g, 7, none⟩ (.bool b2) := ⟨_, rfl⟩
   have e3 : EB Y g s st va vm vb c (b1 || b2) b2 (.slice A' M.length cap') := by rw [hY]; exact (HM1.out.set6 _).set7 _
   have hY1 : OneBox g wc Y := by rw [hY]; exact ((OneBox.refl g wc).set 6 _).set 7 _
   have hYs : Y.heap.size = wc.heap.size := by rw [hY]; simp
   obtain ⟨Z, hZ⟩ : ∃ Z, Z = Y.alloc (.cells #[.string ⟨#[59]⟩, .string ⟨#[38]⟩, .string ⟨#[38, 38]⟩, .string ⟨#[124, 124]⟩, .string ⟨#[124]⟩, .string ⟨#[40]⟩] 9) := ⟨_, rfl⟩
   have e4 : EB Z g s st va vm vb c (b1 || b2) b2 (.slice A' M.length cap') := by rw [hZ]; exact e3.new (balloc Y _)
   have hZ1 : OneBox g wc Z := by rw [hZ]; exact hY1.alloc hgc _
   have hnZ : Z.heap[wc.heap.size]? = some (.cells #[.string ⟨#[59]⟩, .string ⟨#[38]⟩, .string ⟨#[38, 38]⟩, .string ⟨#[124, 124]⟩, .string ⟨#[124]⟩, .string ⟨#[40]⟩] 9 (0, 0)) := by rw [hZ, ← hYs]; exact al_new Y _
   have HC := Lib.hid (Contains_str opsL tx wc.heap.size 6 Z (fun j x hx => by
    match j, hx with
    | 0, h => simp [opsL] at h; subst h; exact Lib.cell_of_heap hnZ 0
    | 1, h => simp [opsL] at h; subst h; exact Lib.cell_of_heap hnZ 1
    | 2, h => simp [opsL] at h; subst h; exact Lib.cell_of_heap hnZ 2
    | 3, h => simp [opsL] at h; subst h; exact Lib.cell_of_heap hnZ 3
    | 4, h => simp [opsL] at h; subst h; exact Lib.cell_of_heap hnZ 4
    | 5, h => simp [opsL] at h; subst h; exact Lib.cell_of_heap hnZ 5
    | n + 6, h => simp [opsL] at h) (by decide))
   have HF := Lib.hid (fun b => show PassB base g s M b (b1 || b2) b2 st va vm vb (.slice A ls.length cap) w (Z.setCell ⟨g, 5, none⟩ (.bool b)) from
    passS_end HBG.out.1 HM2.out HM4.out HM5.out HM7.out (e4.set5 b) (hZ1.set _ _))
   obtain ⟨-, -, -, -, -, z5, -⟩ := e4.cells
   have zf := e4.thaw 5
   have HZ := Lib.hid (show Z = ((wc.setCell ⟨g, 6, none⟩ (.bool (b1 || b2))).setCell ⟨g, 7, none⟩ (.bool b2)).alloc (.cells #[.string ⟨#[59]⟩, .string ⟨#[38]⟩, .string ⟨#[38, 38]⟩, .string ⟨#[124, 124]⟩, .string ⟨#[124]⟩, .string ⟨#[40]⟩] 9) by rw [hZ, hY])
   obtain ⟨bo, hbo⟩ : ∃ bo, opsL.contains tx = bo := ⟨_, rfl⟩
   rw [hbo] at HC
   have HPY := Lib.hid (AY.passY'_op (M := M) (st := st) (s := s) (c := c) (str := str) hb1 hb2 hbo)
   clear hbo e3 hY1 hYs hY hZ hnZ e4 hZ1
   cases b1
   case false =>
    have HZ2 := HZ.out
    simp only [Bool.false_or] at HZ2
    have HZ3 := Lib.hid HZ2
    clear HZ2 HZ
    go_upto_region 15 with (fail)
    go_wp2_with fail
    rw [← HZ3.out]
    refine HC.out.mono ?_
    rintro e Z1 ⟨rfl, rfl⟩
    go_wp2
    first | go_end0 | refine bodyPost_ret (results_none rfl _ _ _) rfl ?_
    exact ⟨rfl, by rw [HPY.out]; exact HF.out _⟩
   case true =>
    have HZ2 := HZ.out
    simp only [Bool.true_or] at HZ2
    have HZ3 := Lib.hid HZ2
    clear HZ2 HZ
    go_upto_region 15 with (fail)
    go_wp2_with fail
    rw [← HZ3.out]
    refine HC.out.mono ?_
    rintro e Z1 ⟨rfl, rfl⟩
    go_wp2
    first | go_end0 | refine bodyPost_ret (results_none rfl _ _ _) rfl ?_
    exact ⟨rfl, by rw [HPY.out]; exact HF.out _⟩
  ·have HI := Lib.hid (introduces_any tx wc)
   have HF := Lib.hid (fun b => show PassB base g s M b false str st va vm vb (.slice A ls.length cap) w (wc.setCell ⟨g, 5, none⟩ (.bool b)) from
    passS_end HBG.out.1 HM2.out HM4.out HM5.out HM7.out (HM1.out.set5 b) ((OneBox.refl g wc).set _ _))
   have k2 : ((kd : Int) == 2) = false := by rw [beq_eq_false_iff_ne]; omega
   have k3 : ((kd : Int) == 3) = false := by rw [beq_eq_false_iff_ne]; omega
   obtain ⟨k1, hk1⟩ : ∃ k1, (kd == 1) = k1 := ⟨_, rfl⟩
   have k4 : ((kd : Int) == 1) = k1 := by rw [← hk1]; cases h : (kd == 1) <;> simp_all <;> omega
   have HPY := Lib.hid (AY.passY'_word (M := M) (st := st) (s := s) (tx := tx) (c := c) (str := str) h2 h3 hk1)
   clear h2 h3 hk1 y6 y7 f6 f7
   cases c
   case false =>
    go_wp2
    first | go_end0 | refine bodyPost_ret (results_none rfl _ _ _) rfl ?_
    exact ⟨rfl, by rw [HPY.out]; exact HF.out _⟩
   case true =>
    cases k1
    case false =>
     go_wp2
     first | go_end0 | refine bodyPost_ret (results_none rfl _ _ _) rfl ?_
     exact ⟨rfl, by rw [HPY.out]; exact HF.out _⟩
    case true =>
     go_wp2_with fail
     refine HI.out.mono ?_
     rintro e X1 ⟨rfl, rfl⟩
     go_wp2
     first | go_end0 | refine bodyPost_ret (results_none rfl _ _ _) rfl ?_
     exact ⟨rfl, by rw [HPY.out]; exact HF.out _⟩
end W
end Go.Proofs.YtcbdhheelddgeaaGreatDoor
namespace Go.Proofs.YtcbdhheelddgeaaGreatDoor
open Go.RowKit K
namespace W
theorem tok_len9 {s : List UInt8} {a : Nat} {t : LX.Tok} {x : Int} (h : LX.next s a = (t, x)) (hs : s.length ≤ 16384) : t.text.length ≤ 20000 := by
 have h1 : (LX.next s a).1.text.length ≤ s.length := by
  have hc : ∀ (p q : Nat), (cut s p q).length ≤ s.length := fun p q => by unfold cut; simp; omega
  unfold LX.next
  split
  ·exact Nat.zero_le _
  unfold LX.nextAt
  split
  ·exact Nat.zero_le _
  split
  ·exact hc _ _
  split
  ·exact hc _ _
  unfold LX.nextW
  split
  ·exact hc _ _
  ·exact Nat.zero_le _
 rw [h] at h1
 dsimp only at h1
 omega
/-- The examiner in memory, its delimiters too. -/
structure XJ (w0 : World) (g mb : Nat) (va : Value) (B : Int) (N : Nat) (vb vl : Value) (y : AY.Y) (W : World) : Prop where
 box : EB W g y.x.s y.x.at_ va (.map (some mb)) vb y.x.cmd y.x.here y.x.strip vl
 row : W.ownsRow w0.heap.size 3 1 vb y.x.blanks.length (ivs y.x.blanks)
 lrow : W.ownsRow w0.heap.size 77 2 vl y.lines.length (dls y.lines)
 m : SM W mb y.x.ends
 below : Below w0.heap.size w0 W
 hg : w0.heap.size ≤ g
 hm : w0.heap.size ≤ mb
 gm : mb ≠ g
 at_ : y.x.at_ ≤ y.x.s.length
 keys : (y.x.ends.map Prod.fst).Nodup
 eb : ∀ e ∈ y.x.ends, -B ≤ e.2 ∧ e.2 ≤ B
 bb : ∀ u ∈ y.x.blanks, -B ≤ u ∧ u ≤ B
 nb : y.x.blanks.length ≤ N
 nl : y.lines.length ≤ y.x.at_
section
variable {w0 : World} {g mb : Nat} {va vb vl : Value} {B : Int} {N : Nat} {y : AY.Y} {W : World}
theorem XJ.mb_vb (h : XJ w0 g mb va B N vb vl y W) : vb.ownBlock ≠ some mb := fun e => by
 obtain ⟨cs, fz, hk⟩ := Lib.ownsRow_kind h.row mb e
 have hm := h.m
 unfold SM at hm
 rw [hk] at hm
 simp at hm
theorem XJ.mb_vl (h : XJ w0 g mb va B N vb vl y W) : vl.ownBlock ≠ some mb := fun e => by
 obtain ⟨cs, fz, hk⟩ := Lib.ownsRow_kind h.lrow mb e
 have hm := h.m
 unfold SM at hm
 rw [hk] at hm
 simp at hm
theorem XJ.g_vb (h : XJ w0 g mb va B N vb vl y W) : vb.ownBlock ≠ some g := fun e => by
 obtain ⟨cs, fz, hk⟩ := Lib.ownsRow_kind h.row g e
 rw [h.box] at hk
 simp at hk
theorem XJ.apart (h : XJ w0 g mb va B N vb vl y W) {q : Nat} (e : vl.ownBlock = some q) : vb.ownBlock ≠ some q := fun e2 => by
 obtain ⟨cs, fz, hk⟩ := Lib.ownsRow_kind h.row q e2
 obtain ⟨cs', fz', hk'⟩ := Lib.ownsRow_kind h.lrow q e
 rw [hk] at hk'
 injection hk' with hk'
 injection hk' with _ hk'
 exact absurd hk' (by decide)
theorem XJ.reach (h : XJ w0 g mb va B N vb vl y W) (hN : N ≤ 2000000) (pos : Nat) :
  Calls Tryz.prog 13 #[.pointer (some ⟨g, 0, none⟩), .int .i64 pos] W fun e W' => e = .returned (.tuple #[]) ∧ ∃ vb', XJ w0 g mb va B N vb' vl ⟨AX.reach y.x pos, y.lines⟩ W' ∧ FR w0.heap.size g mb vb W W' ∧ vb'.ownBlock = vb.ownBlock := by
 refine (reach_any y.x.blanks pos w0.heap.size g y.x.s y.x.at_ va (.map (some mb)) vb vl y.x.cmd y.x.here y.x.strip W h.row h.box h.hg (Nat.le_trans h.nb hN)).mono ?_
 rintro e W' ⟨vb', rfl, h1, h2, h3, h4, h5, h6⟩
 have hlg := row_g h.box h.lrow
 refine ⟨rfl, vb', ⟨h3, h1, own_same h.lrow (fun q hq => h5 q (h.lrow.lt q hq).2 (fun e => hlg (by rw [← e]; exact hq)) (h.apart hq)), h.m.kept (h5 mb h.m.lt h.gm h.mb_vb), h.below.trans h6, h.hg, h.hm, h.gm, h.at_, h.keys, h.eb, fun u hu => h.bb u (List.mem_filter.1 hu).1, Nat.le_trans (List.length_filter_le _ _) h.nb, h.nl⟩, ⟨h4, fun q q1 q2 _ q4 => h5 q q1 q2 q4, h6⟩, h2⟩
theorem XJ.later (h : XJ w0 g mb va B N vb vl y W) {W' : World} (hb : Below W.heap.size W W') : XJ w0 g mb va B N vb vl y W' :=
 ⟨h.box.new hb, own_same h.row (fun q hq => hb.block q (h.row.lt q hq).2), own_same h.lrow (fun q hq => hb.block q (h.lrow.lt q hq).2), sm_new h.m hb, h.below.trans (hb.mono h.below.size), h.hg, h.hm, h.gm, h.at_, h.keys, h.eb, h.bb, h.nb, h.nl⟩
theorem XJ.value (h : XJ w0 g mb va B N vb vl y W) {l : List AL.Al} (hA : AS w0 va l) (hl : l.length ≤ 1000000) (t : LX.Tok) :
  Calls Tryz.prog 14 #[.pointer (some ⟨g, 0, none⟩), .agg #[.int .i64 t.kind, .int .i64 t.pos, .int .i64 t.stop, .string ⟨t.text.toArray⟩]] W fun e W' => e = .returned (.tuple #[.string ⟨((AX.value l y.x.ends y.x.cmd t.kind t.pos t.text).getD []).toArray⟩, .bool (AX.value l y.x.ends y.x.cmd t.kind t.pos t.text).isSome]) ∧ Below W.heap.size W W' :=
 value_any l y.x.ends t.kind t.pos t.stop t.text g mb y.x.s y.x.at_ va vb vl y.x.cmd y.x.here y.x.strip W h.box (hA.go h.below) h.m hl
theorem XJ.replace (h : XJ w0 g mb va B N vb vl y W) (t : LX.Tok) (v : List UInt8) (hp : y.x.at_ ≤ t.pos) (h1 : t.pos ≤ t.stop) (h2 : t.stop ≤ y.x.s.length) (h3 : y.x.s.length ≤ 16384) (h4 : v.length ≤ 10000) (hB : 30000 ≤ B) (hB2 : B ≤ 1000000000000) (hN : N ≤ 2000000) :
  Calls Tryz.prog 15 #[.pointer (some ⟨g, 0, none⟩), .agg #[.int .i64 t.kind, .int .i64 t.pos, .int .i64 t.stop, .string ⟨t.text.toArray⟩], .string ⟨v.toArray⟩] W fun e W' => e = .returned (.tuple #[]) ∧ ∃ vb', XJ w0 g mb va (B + 30000) (N + 1) vb' vl ⟨AX.replace y.x t.pos t.stop t.text v, y.lines⟩ W' := by
 have hlg := row_g h.box h.lrow
 refine (replace_any y.x.ends y.x.blanks w0.heap.size t.kind t.pos t.stop t.text v g mb y.x.s y.x.at_ va vl vb y.x.cmd y.x.here y.x.strip W h.box h.m h.row h.hg h.gm h.hm (Nat.le_trans h.nb hN) (fun u hu => by have := h.bb u hu; omega) (fun e he => by have := h.eb e he; omega) h.keys h1 h2 (by omega) (by omega)).mono ?_
 rintro e W' ⟨vb', rfl, q1, q2, q3, q4⟩
 refine ⟨rfl, vb', ?_⟩
 rw [AX.replace_eq]
 refine ⟨q1, q3, own_same h.lrow (fun q hq => q4.far q (h.lrow.lt q hq).2 (fun e => hlg (by rw [← e]; exact hq)) (fun e => h.mb_vl (by rw [← e]; exact hq)) (h.apart hq)), q2, h.below.trans q4.below, h.hg, h.hm, h.gm, ?_, ?_, fun e he => ?_, fun u hu => ?_, ?_, Nat.le_trans h.nl hp⟩
 ·dsimp only
  simp only [List.length_append, cut_length]
  omega
 ·refine sput_keys _ _ _ ?_
  rw [List.map_map]
  exact h.keys
 ·rcases sput_mem _ _ _ e he with rfl | he
  ·dsimp only; omega
  ·obtain ⟨e0, he0, rfl⟩ := List.mem_map.1 he
   have := h.eb e0 he0
   dsimp only
   split <;> omega
 ·dsimp only at hu
  rcases List.mem_append.1 hu with hu | hu
  ·obtain ⟨y0, hy0, rfl⟩ := List.mem_map.1 hu
   have := h.bb y0 hy0
   omega
  ·split at hu
   ·rw [List.mem_singleton] at hu; omega
   ·simp at hu
 ·have := h.nb
  dsimp only
  rw [List.length_append, List.length_map]
  split <;> simp <;> omega
theorem XJ.pass (h : XJ w0 g mb va B N vb vl y W) (hB : BrAll) (hE : Env9 w0) (t : LX.Tok) (hf : y.x.at_ < t.stop) (hst : t.stop ≤ y.x.s.length) (hs : y.x.s.length ≤ 16384) (htx : t.text.length ≤ 20000) :
  Calls Tryz.prog 16 #[.pointer (some ⟨g, 0, none⟩), .agg #[.int .i64 t.kind, .int .i64 t.pos, .int .i64 t.stop, .string ⟨t.text.toArray⟩]] W fun e W' => e = .returned (.tuple #[]) ∧ ∃ vl', XJ w0 g mb va B N vb vl' (AY.passY AY.litP y t.kind t.stop t.text) W' := by
 obtain ⟨A, cap, hvl⟩ : ∃ A cap, vl = .slice A y.lines.length cap := by
  rcases h.lrow.2 with ⟨h1, h2⟩ | ⟨q, c, cur, h1, -⟩
  ·exact ⟨none, 0, by rw [h1, h2]⟩
  ·exact ⟨_, _, h1⟩
 obtain ⟨m0, hm0⟩ := hE
 have hmx := World.block_lt_of_cell? _ _ hm0
 have hbox := h.box
 have hlrow := h.lrow
 rw [hvl] at hbox hlrow
 refine (passS_any hB t.kind t.pos t.stop t.text w0.heap.size g y.x.s y.x.at_ va (.map (some mb)) vb A cap y.lines y.x.cmd y.x.here y.x.strip W hbox hlrow h.hg (Env9.go ⟨m0, hm0⟩ h.below) hmx htx (by omega) hst (by have := h.nl; have := h.at_; omega)).mono ?_
 rintro e W' ⟨rfl, A', cap', p1, p2, p3, p4⟩
 rw [← hvl] at p3 p4
 obtain ⟨f1, f2, f3, f4, f5⟩ := AY.passY'_eq y t.kind t.stop t.text
 obtain ⟨g1, g2, g3⟩ := AY.pass_ends (L := AY.litP) y t.kind t.stop t.text
 rw [← f1, ← f2, ← f3, ← f4, ← f5] at p1
 rw [← f5] at p2
 have hat : t.stop ≤ (AY.passY AY.litP y t.kind t.stop t.text).x.at_ ∧ (AY.passY AY.litP y t.kind t.stop t.text).x.at_ ≤ y.x.s.length := by
  unfold AY.passY
  split
  ·exact AY.skipL_good y.x.s _ t.stop hst
  split
  ·exact ⟨Nat.le_refl _, hst⟩
  ·exact ⟨Nat.le_refl _, hst⟩
 have hnl : (AY.passY AY.litP y t.kind t.stop t.text).lines.length ≤ t.stop := by
  have h9 := AY.lines_len (L := AY.litP) (h := y.x.here) (st := y.x.strip) (ls := y.lines) (kd := t.kind) (tx := t.text)
  have := h.nl
  unfold AY.passY
  split
  ·exact Nat.zero_le _
  split
  ·dsimp only; omega
  ·dsimp only; omega
 refine ⟨rfl, .slice A' (AY.passY AY.litP y t.kind t.stop t.text).lines.length cap', ?_, ?_, p2, ?_, h.below.trans p3.below, h.hg, h.hm, h.gm, by rw [g3]; exact hat.2, by rw [g1]; exact h.keys, by rw [g1]; exact h.eb, by rw [g2]; exact h.bb, by rw [g2]; exact h.nb, Nat.le_trans hnl hat.1⟩
 ·rw [g3]; exact p1
 ·rw [g2]
  exact own_same h.row (fun q hq => p3.far q (h.row.lt q hq).2 (fun e => h.g_vb (by rw [← e]; exact hq)) (fun e => h.apart e hq))
 ·rw [g1]
  exact h.m.kept (p3.far mb h.m.lt h.gm h.mb_vl)
end
/-- The world at the loop's head. -/
def EJ (w : World) (g mb : Nat) (va : Value) (n k : Nat) (y : AY.Y) (wr : World) : Prop :=
 ∃ (N : Nat) (vb vl : Value), N + k ≤ n ∧ XJ w g mb va (30000 * ((N : Int) + 1)) N vb vl y wr
set_option maxRecDepth 100000 in
set_option maxHeartbeats 4000000 in
theorem ExpandS_any (hBR : BrAll) (l : List AL.Al) (s : List UInt8) (R : List UInt8 × Int) (n : Nat) (A : Option Addr) (cap : Nat) (w : World) (hA : AS w (.slice A l.length cap) l) (hz : ∀ a ∈ l, a.1.length ≤ 10000 ∧ a.2.length ≤ 10000) (hs : s.length ≤ 100000) (hn : n ≤ 1500000) (hE : Env9 w) (hR : AY.expandY AY.litP l n s = some R) :
  Calls Tryz.prog 6 #[.string ⟨s.toArray⟩, .slice A l.length cap] w fun e w' => e = .returned (.tuple #[.string ⟨R.1.toArray⟩, .int .i64 R.2]) ∧ Below w.heap.size w w' := by
 have HVA := Lib.hid (Valid_any l _ w hA hz)
 have HENV := Lib.hid hE
 have HBR := Lib.hid hBR
 clear hE hBR
 have HA := Lib.hid hA
 unfold AY.expandY at hR
 obtain ⟨vz, hvz⟩ : ∃ vz, AL.valid l = vz := ⟨_, rfl⟩
 have hll : AL.valid l = 0 → l.length ≤ 64 := fun h => ((AL.valid_zero l).1 h).1
 rw [hvz] at HVA hR hll
 by_cases h0 : vz = 0
 case neg =>
  rw [if_pos h0] at hR
  injection hR with hR
  subst hR
  have e1 : (vz == 0) = false := by rw [beq_eq_false_iff_ne]; exact h0
  have e2 : (vz != 0) = true := by simp [bne, e1]
  clear hvz h0 hA hz hll
  have hkerr := 0
  go_enter Tryz.func6, Tryz.ntmps6
  go_wp2_with fail
  refine HVA.out.mono ?_
  rintro e w1 ⟨rfl, hb⟩
  have HB := Lib.hid hb
  clear hb
  go_wp2
  exact bodyPost_ret (v := .tuple #[.string ⟨#[]⟩, .int .i64 vz]) (by simp [results, Tryz.results6, go_sem]) rfl ⟨rfl, HB.out⟩
 by_cases h1 : 16384 < s.length
 case pos =>
  rw [if_neg (by simpa using h0), if_pos h1] at hR
  injection hR with hR
  subst hR
  have e1 : (vz == 0) = true := by rw [h0]; rfl
  have e2 : (vz != 0) = false := by simp [bne, e1]
  have e3 : ((16384 : Int) < (s.length : Int)) = True := eq_true (by omega)
  clear hvz h0 hA hz hll h1
  have hklong := 0
  go_enter Tryz.func6, Tryz.ntmps6
  go_wp2_with fail
  refine HVA.out.mono ?_
  rintro e w1 ⟨rfl, hb⟩
  have HB := Lib.hid hb
  clear hb
  go_wp2
  exact bodyPost_ret (v := .tuple #[.string ⟨#[]⟩, .int .i64 3]) (by simp [results, Tryz.results6, go_sem]) rfl ⟨rfl, HB.out⟩
 rw [if_neg (by simpa using h0), if_neg h1] at hR
 have e1 : (vz == 0) = true := by rw [h0]; rfl
 have e2 : (vz != 0) = false := by simp [bne, e1]
 have e3 : ((16384 : Int) < (s.length : Int)) = False := eq_false (by omega)
 have e4 : decide ((16384 : Int) < (s.length : Int)) = false := decide_eq_false (by omega)
 have HR := Lib.hid hR
 have HZ := Lib.hid hz
 have HSL := Lib.hid (show s.length ≤ 16384 by omega)
 have HLL := Lib.hid (hll h0)
 clear hR hvz h0 h1 hA hz hll
 have hmm := @run_makeMap Tryz.prog
 go_enter Tryz.func6, Tryz.ntmps6
 go_wp2_with fail
 refine HVA.out.mono ?_
 rintro e w1 ⟨rfl, hb⟩
 obtain ⟨V0, hV0⟩ : ∃ V0, V0 = (w1.alloc (.map #[] 0)).alloc (.cells #[.string ⟨s.toArray⟩, .int .i64 0, .slice A l.length cap, .map (some w1.heap.size), .slice none 0 0, .bool true, .bool false, .bool false, .slice none 0 0] 44) := ⟨_, rfl⟩
 have hsz : (w1.alloc (.map #[] 0)).heap.size = w1.heap.size + 1 := by simp
 have HI0 := Lib.hid (show XJ w (w1.heap.size + 1) w1.heap.size (.slice A l.length cap) 30000 0 (.slice none 0 0) (.slice none 0 0) (AY.start s) V0 from by
  refine ⟨?_, ⟨rfl, .inl ⟨rfl, rfl⟩⟩, World.ownsRow_nil _ _ _ _, ?_, ?_, by have := hb.size; omega, hb.size, by omega, Nat.zero_le _, by simp [AY.start], by simp [AY.start], by simp [AY.start], by simp [AY.start], by simp [AY.start]⟩
  ·show EB _ _ _ _ _ _ _ _ _ _ _
   rw [hV0, ← hsz]
   exact al_new _ _
  ·rw [hV0]
   exact (SM.made w1).kept ((balloc _ _).block _ (by simp))
  ·rw [hV0]
   exact btr hb (btr (balloc _ _) (balloc _ _)))
 have HV0 := Lib.hid hV0
 have HB1 := Lib.hid hb.size
 clear hb hV0 hsz
 obtain ⟨g, hg⟩ : ∃ g, g = w1.heap.size + 1 := ⟨_, rfl⟩
 obtain ⟨mb, hmb⟩ : ∃ mb, mb = w1.heap.size := ⟨_, rfl⟩
 have HG := Lib.hid hg
 have HMB := Lib.hid hmb
 rw [← hg, ← hmb] at HI0
 clear hg hmb
 go_wp2
 rw [← HV0.out, ← HG.out]
 go_loopg [] n (fun k wr => ∃ y : AY.Y, Hid (AY.runY AY.litP l k y = some R) ∧ Hid (y.x.s.length ≤ 16384) ∧ Hid (EJ w g mb (.slice A l.length cap) n k y wr))
 case atStart => exact ⟨_, HR, HSL, Lib.hid ⟨0, _, _, by omega, HI0.out⟩⟩
 case round =>
  obtain ⟨y, HRU, HXL, HEI⟩ := hrel
  clear HR HI0 HV0 HG HMB
  obtain ⟨N, vb, vl, hN, hX⟩ := HEI.out
  have HX := Lib.hid hX
  have HNN := Lib.hid hN
  obtain ⟨k', rfl⟩ : ∃ k', gk = k' + 1 := by
   cases gk with
   | zero => have := HRU.out; rw [AY.runY] at this; cases this
   | succ k' => exact ⟨k', rfl⟩
  obtain ⟨t, x0, ht⟩ : ∃ t x0, LX.next y.x.s y.x.at_ = (t, x0) := ⟨_, _, rfl⟩
  have hxl : y.x.s.length ≤ 100000 := Nat.le_trans HXL.out (by omega)
  have HT := Lib.hid (fun V => Next_any y.x.s y.x.at_ V t.kind t.pos t.stop t.text x0 hxl (by rw [LX.clamp_nat hX.at_]; exact ht))
  have HTQ := Lib.hid ht
  obtain ⟨c0, c1, c2, c3, c4, c5, c6, c7, c8⟩ := hX.box.cells
  have hgs := hX.box.lt
  clear hX hN HEI ht
  have HSU := Lib.hid (fun (U2 : World) (hb : Below wr.heap.size wr U2) => show U2.cell? ⟨g, 0, none⟩ = some (.string ⟨y.x.s.toArray⟩) ∧ U2.cell? ⟨g, 1, none⟩ = some (.int .i64 y.x.at_) ∧ Below wr.heap.size wr U2 from ⟨cell_go (W := wr) c0 hb, cell_go (W := wr) c1 hb, hb⟩)
  clear c0 c1 c2 c3 c4 c5 c6 c7 c8
  have HAL := Lib.hid (fun (Y : World) (hb : Below (wr.alloc (.cells #[.int .i64 0, .int .i64 0, .int .i64 0, .string ⟨#[]⟩] 46)).drew.heap.size (wr.alloc (.cells #[.int .i64 0, .int .i64 0, .int .i64 0, .string ⟨#[]⟩] 46)).drew Y) => (hb.block wr.heap.size (by simp)).trans (al_new wr _))
  go_upto_region 7 with (fail)
  go_cut [8, 9] (fun u8 u9 wx => ∃ q : Nat, u8 = .pointer (some ⟨q, 0, none⟩) ∧ u9 = .int .i64 x0 ∧ wr.heap.size ≤ q ∧ Hid (Below wr.heap.size wr wx) ∧ Hid (wx.heap[q]? = some (.cells #[.int .i64 t.kind, .int .i64 t.pos, .int .i64 t.stop, .string ⟨t.text.toArray⟩] 46 (0, 0))))
  case first =>
   go_region_held3 (fun w' => w'.cell? ⟨g, 0, none⟩ = some (.string ⟨y.x.s.toArray⟩) ∧ w'.cell? ⟨g, 1, none⟩ = some (.int .i64 y.x.at_) ∧ Below wr.heap.size wr w')
    (first | exact HSU.out _ (Below.refl _ _) | exact HSU.out _ (balloc _ _).drew | exact HSU.out _ (Below.refl _ _).drew | exact HSU.out _ (by assumption) | exact HSU.out _ (btr (by assumption) (balloc _ _)) | exact HSU.out _ (below4 (by assumption) _ (Nat.le_refl _) _ _ _ _))
    ((go_at_call 12; refine (HT.out _).mono ?_; rintro e' Y ⟨rfl, hb⟩; first | (obtain ⟨b0, b1, b2, b3, k0, k1, k2, k3⟩ := blk4 (HAL.out Y hb); have HZ0 := Lib.hid (HAL.out Y hb); replace hb : Below wr.heap.size wr Y := btr (balloc wr _).drew hb) | (replace hb : Below wr.heap.size wr Y := btr (Below.refl wr.heap.size wr).drew hb)))
   ·have hY : Below wr.heap.size wr Y := by assumption
    repeat go_step
    go_meet
    exact ⟨Y.heap.size, rfl, rfl, hY.size, Lib.hid (btr hY (balloc _ _)), Lib.hid (al_new Y _)⟩
   ·have hY : Below wr.heap.size wr Y := by assumption
    have hZ := set4_heap (show Hid (Y.heap[wr.heap.size]? = some (.cells #[.int .i64 0, .int .i64 0, .int .i64 0, .string ⟨#[]⟩] 46 (0, 0))) by assumption).out (.int .i64 t.kind) (.int .i64 t.pos) (.int .i64 t.stop) (.string ⟨t.text.toArray⟩)
    repeat go_step
    go_meet
    exact ⟨wr.heap.size, rfl, rfl, Nat.le_refl _, Lib.hid (below4 hY _ (Nat.le_refl _) _ _ _ _), Lib.hid hZ⟩
  case rest =>
   obtain ⟨q1, rfl, rfl, HQW, HBC, HB2⟩ := hcut
   have HX2 := Lib.hid (HX.out.later HBC.out)
   clear HT HSU HAL HBC
   obtain ⟨c0, c1, c2, c3, c4, c5, c6, c7, c8⟩ := HX2.out.box.cells
   obtain ⟨d0, d1, d2, d3, -, -, -, -⟩ := blk4 HB2.out
   have hRun := HRU.out
   rw [AY.runY, show LX.next y.x.s y.x.at_ = (t, x0) from HTQ.out] at hRun
   dsimp only at hRun
   by_cases hx : x0 = 0
   case neg =>
    have hxn : (x0 == 0) = false := by rw [beq_eq_false_iff_ne]; exact hx
    have hxm : (x0 != 0) = true := by simp [bne, hxn]
    rw [if_pos hx] at hRun
    injection hRun with hRun
    subst hRun
    clear hx
    have hkxerr := 0
    go_wp2
    refine bodyPost_ret (v := .tuple #[.string ⟨y.x.s.toArray⟩, .int .i64 0]) (by simp [results, Tryz.results6, go_sem]) rfl ⟨rfl, HX2.out.below⟩
   subst hx
   rw [if_neg (by simp)] at hRun
   by_cases h5 : t.kind = 5
   case pos =>
    have h5b : ((t.kind : Int) == 5) = true := by rw [beq_iff_eq]; omega
    rw [if_pos h5] at hRun
    injection hRun with hRun
    subst hRun
    clear h5
    have hkend := 0
    go_wp2
    refine bodyPost_ret (v := .tuple #[.string ⟨y.x.s.toArray⟩, .int .i64 0]) (by simp [results, Tryz.results6, go_sem]) rfl ⟨rfl, HX2.out.below⟩
   have h5b : ((t.kind : Int) == 5) = false := by rw [beq_eq_false_iff_ne]; omega
   rw [if_neg h5] at hRun
   obtain ⟨hps, hst⟩ := LX.next_span HX2.out.at_ HTQ.out h5
   have HSP := Lib.hid (And.intro hps hst)
   have HPOS := Lib.hid ((LX.next_cases HX2.out.at_ HTQ.out).resolve_left h5).1
   have HFAR := Lib.hid ((LX.next_far HX2.out.at_ HTQ.out).resolve_left h5).1
   have HRN := Lib.hid hRun
   have HRE := Lib.hid (HX2.out.reach (by have := HNN.out; omega) t.pos)
   clear hRun h5 hps hst c0 c1 c2 c3 c4 c5 c6 c7 c8
   go_wp2_with fail
   refine HRE.out.mono ?_
   rintro e V3 ⟨rfl, vb3, hX3, hF3, ho3⟩
   have hq3 : V3.heap[q1]? = some (.cells #[.int .i64 t.kind, .int .i64 t.pos, .int .i64 t.stop, .string ⟨t.text.toArray⟩] 46 (0, 0)) := by
    have l1 := HX.out.box.lt
    have l2 := HX.out.m.lt
    have l3 := HQW
    refine (hF3.far q1 (Array.getElem?_eq_some_iff.1 HB2.out).1 (by omega) (by omega) (fun e => ?_)).trans HB2.out
    have := (HX.out.row.lt q1 e).2
    omega
   have hs3 : (AX.reach y.x t.pos).s = y.x.s := rfl
   have hat3 : (AX.reach y.x t.pos).at_ = y.x.at_ := rfl
   obtain ⟨x3, hx3⟩ : ∃ x3, AX.reach y.x t.pos = x3 := ⟨_, rfl⟩
   have HRN2 := HRN.out
   rw [hx3] at hX3 hs3 hat3 HRN2
   have HAT3 := Lib.hid hat3
   clear hat3
   have HX3 := Lib.hid hX3
   have HB3 := Lib.hid hq3
   have HS3 := Lib.hid hs3
   have HVL := Lib.hid (hX3.value HA.out (by have := HLL.out; omega) t)
   obtain ⟨u, hu⟩ : ∃ u, AX.value l x3.ends x3.cmd t.kind t.pos t.text = u := ⟨_, rfl⟩
   rw [hu] at HVL HRN2
   have HU := Lib.hid hu
   have HRQ := Lib.hid HRN2
   clear HRE HRN HRN2 hX3 hF3 ho3 hq3 hs3 hx3 d0 d1 d2 d3 hu
   obtain ⟨d0, d1, d2, d3, -, -, -, -⟩ := blk4 HB3.out
   cases u with
   | none =>
    have HRY := Lib.hid (show AY.runY AY.litP l k' (AY.passY AY.litP ⟨x3, y.lines⟩ t.kind t.stop t.text) = some R from HRQ.out)
    clear HRQ
    go_wp2_with fail
    refine HVL.out.mono ?_
    rintro e V4 ⟨rfl, hb4⟩
    have HX4 := HX3.out.later hb4
    have HB4 := (hb4.block q1 (Array.getElem?_eq_some_iff.1 HB3.out).1).trans HB3.out
    have HPS := Lib.hid (HX4.pass HBR.out HENV.out t (by show x3.at_ < t.stop; rw [HAT3.out]; exact HFAR.out) (by show t.stop ≤ x3.s.length; rw [HS3.out]; exact HSP.out.2) (by show x3.s.length ≤ 16384; rw [HS3.out]; exact HXL.out) (tok_len9 HTQ.out HXL.out))
    clear d0 d1 d2 d3 hb4 HX4
    obtain ⟨d0, d1, d2, d3, -, -, -, -⟩ := blk4 HB4
    go_wp2_with fail
    refine HPS.out.mono ?_
    rintro e V5 ⟨rfl, vl5, hX5⟩
    have HX5 := Lib.hid hX5
    clear hX5 d0 d1 d2 d3 HB4
    go_wp2_with fail
    go_roundg k'
    case measure => omega
    case rel => exact ⟨_, HRY, Lib.hid (by rw [(AY.pass_ends _ _ _ _).2.2]; show x3.s.length ≤ 16384; rw [HS3.out]; exact HXL.out), Lib.hid ⟨N, vb3, vl5, by have := HNN.out; omega, HX5.out⟩⟩
   | some v =>
    have hksome := 0
    have hvl := value_len HZ.out HU.out
    have HRY := Lib.hid HRQ.out
    dsimp only at HRY
    obtain ⟨z, hy⟩ : ∃ z, AX.replace x3 t.pos t.stop t.text v = z := ⟨_, rfl⟩
    rw [hy] at HRY
    clear HRQ
    go_wp2_with fail
    refine HVL.out.mono ?_
    rintro e V4 ⟨rfl, hb4⟩
    have HX4 := HX3.out.later hb4
    have HB4 := (hb4.block q1 (Array.getElem?_eq_some_iff.1 HB3.out).1).trans HB3.out
    have HPS := Lib.hid (HX4.replace t v (by show x3.at_ ≤ t.pos; rw [HAT3.out]; exact HPOS.out) HSP.out.1 (by show t.stop ≤ x3.s.length; rw [HS3.out]; exact HSP.out.2) (by show x3.s.length ≤ 16384; rw [HS3.out]; exact HXL.out) hvl (by omega) (by have := HNN.out; omega) (by have := HNN.out; omega))
    rw [hy] at HPS
    clear d0 d1 d2 d3 hb4 HX4 hy
    obtain ⟨d0, d1, d2, d3, -, -, -, -⟩ := blk4 HB4
    go_wp2_with fail
    refine HPS.out.mono ?_
    rintro e V5 ⟨rfl, vb5, hX5⟩
    have HX5 := Lib.hid hX5
    obtain ⟨c0, -⟩ := hX5.box.cells
    clear hX5 d0 d1 d2 d3 HB4 hvl
    by_cases hlen : 16384 < z.s.length
    case pos =>
     have h6 : ((16384 : Int) < (z.s.length : Int)) = True := eq_true (by omega)
     have h7 : decide ((16384 : Int) < (z.s.length : Int)) = true := decide_eq_true (by omega)
     have hR2 := HRY.out
     rw [if_pos hlen] at hR2
     injection hR2 with hR2
     subst hR2
     clear hlen
     go_wp2
     refine bodyPost_ret (v := .tuple #[.string ⟨#[]⟩, .int .i64 3]) (by simp [results, Tryz.results6, go_sem]) rfl ⟨rfl, HX5.out.below⟩
    case neg =>
     have h6 : ((16384 : Int) < (z.s.length : Int)) = False := eq_false (by omega)
     have h7 : decide ((16384 : Int) < (z.s.length : Int)) = false := decide_eq_false (by omega)
     have HR2 := Lib.hid (HRY.out)
     rw [if_neg hlen] at HR2
     have HLN := Lib.hid (Nat.le_of_not_lt hlen)
     clear hlen
     go_wp2_with fail
     go_roundg k'
     case measure => omega
     case rel => exact ⟨⟨z, y.lines⟩, HR2, HLN, Lib.hid ⟨N + 1, vb5, vl, by have := HNN.out; omega, by have h := HX5.out; rw [show (30000 * (((N + 1 : Nat) : Int) + 1)) = 30000 * ((N : Int) + 1) + 30000 by omega]; exact h⟩⟩
end W
end Go.Proofs.YtcbdhheelddgeaaGreatDoor
