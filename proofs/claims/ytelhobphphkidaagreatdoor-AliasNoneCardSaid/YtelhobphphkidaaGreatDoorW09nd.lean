/- Chapter 9: Expand without aliases, walked. -/
import Derived.Test.YtelhobphphkidaaGreatDoorW09nc
namespace Go.Proofs.YtelhobphphkidaaGreatDoor
open Go.RowKit K
namespace W
theorem cut_lens9 (s : List UInt8) (a b : Nat) : (cut s a b).length ≤ s.length := by unfold cut; simp; omega
theorem tok_text9 {s : List UInt8} {a : Nat} {t : LX.Tok} {x : Int} (h : LX.next s a = (t, x)) : t.text.length ≤ s.length := by
  have h1 : (LX.next s a).1.text.length ≤ s.length := by
    unfold LX.next
    split
    · exact Nat.zero_le _
    unfold LX.nextAt
    split
    · exact Nat.zero_le _
    split
    · exact cut_lens9 _ _ _
    split
    · exact cut_lens9 _ _ _
    unfold LX.nextW
    split
    · exact cut_lens9 _ _ _
    · exact Nat.zero_le _
  rw [h] at h1
  exact h1
theorem value_nil (c : Bool) (kd ps : Nat) (tx : List UInt8) : AX.value [] [] c kd ps tx = none := by
  unfold AX.value
  split
  · rfl
  split
  · rfl
  rfl
/-- The examiner without aliases: it looks at the offset a. -/
structure XN (w0 : World) (g mb : Nat) (s : List UInt8) (a : Nat) (W : World) : Prop where
  ex : ∃ (c h st : Bool) (A : Option Addr) (cap : Nat) (ls : List (List UInt8 × Bool)), EB W g s a (.slice none 0 0) (.map (some mb)) (.slice none 0 0) c h st (.slice A ls.length cap) ∧ W.ownsRow w0.heap.size 89 2 (.slice A ls.length cap) ls.length (dls ls) ∧ ls.length ≤ a
  m : SM W mb []
  below : Below w0.heap.size w0 W
  hg : w0.heap.size ≤ g
  hm : w0.heap.size ≤ mb
  gm : mb ≠ g
  at_ : a ≤ s.length
theorem as_nil9 (w : World) : AS w (.slice none 0 0) [] := ⟨none, 0, rfl, Nat.le_refl _, Nat.zero_le _, fun k a h => by simp at h⟩
/-- What Expand gives without aliases. -/
def bareR (s : List UInt8) : List UInt8 × Int := if 16384 < s.length then ([], 3) else (s, 0)
set_option maxRecDepth 100000 in
set_option maxHeartbeats 8000000 in
theorem Expand_none (hB : BrAll) (s : List UInt8) (w : World) (hE : Env9 w) (hs : s.length ≤ 100000) :
    Calls Tryz.prog 21 #[.string ⟨s.toArray⟩, .slice none 0 0] w fun e w' => e = .returned (.tuple #[.string ⟨(bareR s).1.toArray⟩, .int .i64 (bareR s).2]) ∧ Below w.heap.size w w' := by
  have HVA := Lib.hid (show Calls Tryz.prog 12 #[.slice none 0 0] w (fun e w' => e = .returned (.int .i64 0) ∧ Below w.heap.size w w') from Valid_any [] _ w (as_nil9 w) (by simp))
  have hw0 : 0 < w.heap.size := by
    obtain ⟨m, hm⟩ := hE
    exact World.block_lt_of_cell? _ _ hm
  by_cases h1 : 16384 < s.length
  case pos =>
    have e3 : ((16384 : Int) < (s.length : Int)) = True := eq_true (by omega)
    have hr : bareR s = ([], 3) := by unfold bareR; rw [if_pos h1]
    rw [hr]
    clear h1 hr hB
    go_enter Tryz.func21, Tryz.ntmps21
    go_wp2_with fail
    refine HVA.out.mono ?_
    rintro e w1 ⟨rfl, hb⟩
    have HB := Lib.hid hb
    clear hb
    go_wp2
    exact bodyPost_ret (v := .tuple #[.string ⟨#[]⟩, .int .i64 3]) (by simp [results, Tryz.results21, go_sem]) rfl ⟨rfl, HB.out⟩
  have e3 : ((16384 : Int) < (s.length : Int)) = False := eq_false (by omega)
  have e4 : decide ((16384 : Int) < (s.length : Int)) = false := decide_eq_false (by omega)
  have hr : bareR s = (s, 0) := by unfold bareR; rw [if_neg h1]
  rw [hr]
  have HSL := Lib.hid (show s.length ≤ 16384 by omega)
  have HEN := Lib.hid hE
  have HW0 := Lib.hid hw0
  have HNX := Lib.hid (fun (a : Nat) (ha : a ≤ s.length) (t : LX.Tok) (x : Int) V (h : LX.next s a = (t, x)) => Next_any s a V t.kind t.pos t.stop t.text x hs (by rw [LX.clamp_nat ha]; exact h))
  have HPA := Lib.hid hB
  clear hr h1 hE hw0 hs hB
  have hmm := @run_makeMap Tryz.prog
  go_enter Tryz.func21, Tryz.ntmps21
  go_wp2_with fail
  refine HVA.out.mono ?_
  rintro e w1 ⟨rfl, hb⟩
  obtain ⟨V0, hV0⟩ : ∃ V0, V0 = (w1.alloc (.map #[] 0)).alloc (.cells #[.string ⟨s.toArray⟩, .int .i64 0, .slice none 0 0, .map (some w1.heap.size), .slice none 0 0, .bool true, .bool false, .bool false, .slice none 0 0] 60) := ⟨_, rfl⟩
  have hsz : (w1.alloc (.map #[] 0)).heap.size = w1.heap.size + 1 := by simp
  have HI0 := Lib.hid (show XN w (w1.heap.size + 1) w1.heap.size s 0 V0 from by
    refine ⟨⟨true, false, false, none, 0, [], ?_, ⟨rfl, .inl ⟨rfl, rfl⟩⟩, Nat.zero_le _⟩, ?_, ?_, by have := hb.size; omega, hb.size, by omega, Nat.zero_le _⟩
    · show EB _ _ _ _ _ _ _ _ _ _ _
      rw [hV0, ← hsz]
      exact al_new _ _
    · rw [hV0]
      exact (SM.made w1).kept ((balloc _ _).block _ (by simp))
    · rw [hV0]
      exact btr hb (btr (balloc _ _) (balloc _ _)))
  have HV0 := Lib.hid hV0
  clear hb hV0 hsz
  obtain ⟨g, hg⟩ : ∃ g, g = w1.heap.size + 1 := ⟨_, rfl⟩
  obtain ⟨mb, hmb⟩ : ∃ mb, mb = w1.heap.size := ⟨_, rfl⟩
  have HG := Lib.hid hg
  have HMB := Lib.hid hmb
  rw [← hg, ← hmb] at HI0
  clear hg hmb
  go_wp2
  rw [← HV0.out, ← HG.out]
  go_loopg [] s.length (fun k wr => ∃ a : Nat, Hid (k = s.length - a) ∧ Hid (XN w g mb s a wr))
  case atStart => exact ⟨0, Lib.hid rfl, HI0⟩
  case round =>
    obtain ⟨a, HK, HX⟩ := hrel
    clear HI0 HV0 HG HMB
    obtain ⟨cc, hh, ss, A, cap, ls, hbox, hrow, hls⟩ := HX.out.ex
    have HBX := Lib.hid hbox
    have HRW := Lib.hid hrow
    have HLS := Lib.hid hls
    obtain ⟨t, x0, ht⟩ : ∃ t x0, LX.next s a = (t, x0) := ⟨_, _, rfl⟩
    have HT := Lib.hid (fun V => HNX.out a HX.out.at_ t x0 V ht)
    have HTQ := Lib.hid ht
    obtain ⟨c0, c1, c2, c3, c4, c5, c6, c7, c8⟩ := hbox.cells
    have hgs := hbox.lt
    clear hbox hrow hls ht
    have HSU := Lib.hid (fun (U2 : World) (hb : Below wr.heap.size wr U2) => show U2.cell? ⟨g, 0, none⟩ = some (.string ⟨s.toArray⟩) ∧ U2.cell? ⟨g, 1, none⟩ = some (.int .i64 (a : Int)) ∧ Below wr.heap.size wr U2 from ⟨cell_go (W := wr) c0 hb, cell_go (W := wr) c1 hb, hb⟩)
    clear c0 c1 c2 c3 c4 c5 c6 c7 c8
    have HAL := Lib.hid (fun (Y : World) (hb : Below (wr.alloc (.cells #[.int .i64 0, .int .i64 0, .int .i64 0, .string ⟨#[]⟩] 62)).drew.heap.size (wr.alloc (.cells #[.int .i64 0, .int .i64 0, .int .i64 0, .string ⟨#[]⟩] 62)).drew Y) => (hb.block wr.heap.size (by simp)).trans (al_new wr _))
    go_upto_region 7 with (fail)
    go_cut [8, 9] (fun u8 u9 wx => ∃ q : Nat, u8 = .pointer (some ⟨q, 0, none⟩) ∧ u9 = .int .i64 x0 ∧ wr.heap.size ≤ q ∧ Hid (Below wr.heap.size wr wx) ∧ Hid (wx.heap[q]? = some (.cells #[.int .i64 t.kind, .int .i64 t.pos, .int .i64 t.stop, .string ⟨t.text.toArray⟩] 62 (0, 0))))
    case first =>
      go_region_held3 (fun w' => w'.cell? ⟨g, 0, none⟩ = some (.string ⟨s.toArray⟩) ∧ w'.cell? ⟨g, 1, none⟩ = some (.int .i64 (a : Int)) ∧ Below wr.heap.size wr w')
        (first | exact HSU.out _ (Below.refl _ _) | exact HSU.out _ (balloc _ _).drew | exact HSU.out _ (Below.refl _ _).drew | exact HSU.out _ (by assumption) | exact HSU.out _ (btr (by assumption) (balloc _ _)) | exact HSU.out _ (below4 (by assumption) _ (Nat.le_refl _) _ _ _ _))
        ((go_at_call 32; refine (HT.out _).mono ?_; rintro e' Y ⟨rfl, hb⟩; first | (obtain ⟨b0, b1, b2, b3, k0, k1, k2, k3⟩ := blk4 (HAL.out Y hb); have HZ0 := Lib.hid (HAL.out Y hb); replace hb : Below wr.heap.size wr Y := btr (balloc wr _).drew hb) | (replace hb : Below wr.heap.size wr Y := btr (Below.refl wr.heap.size wr).drew hb)))
      · have hY : Below wr.heap.size wr Y := by assumption
        repeat go_step
        go_meet
        exact ⟨Y.heap.size, rfl, rfl, hY.size, Lib.hid (btr hY (balloc _ _)), Lib.hid (al_new Y _)⟩
      · have hY : Below wr.heap.size wr Y := by assumption
        have hZ := set4_heap (show Hid (Y.heap[wr.heap.size]? = some (.cells #[.int .i64 0, .int .i64 0, .int .i64 0, .string ⟨#[]⟩] 62 (0, 0))) by assumption).out (.int .i64 t.kind) (.int .i64 t.pos) (.int .i64 t.stop) (.string ⟨t.text.toArray⟩)
        repeat go_step
        go_meet
        exact ⟨wr.heap.size, rfl, rfl, Nat.le_refl _, Lib.hid (below4 hY _ (Nat.le_refl _) _ _ _ _), Lib.hid hZ⟩
    case rest =>
      obtain ⟨q1, rfl, rfl, HQW, HBC, HB2⟩ := hcut
      have HE2 := Lib.hid (HBX.out.new HBC.out)
      have HR2 := Lib.hid (own_same HRW.out (fun q hq => HBC.out.block q (HRW.out.lt q hq).2))
      have HM2 := Lib.hid (sm_new HX.out.m HBC.out)
      have HL2 := Lib.hid (HX.out.below.trans (HBC.out.mono HX.out.below.size))
      clear HT HSU HAL
      obtain ⟨c0, c1, c2, c3, c4, c5, c6, c7, c8⟩ := HE2.out.cells
      obtain ⟨d0, d1, d2, d3, -, -, -, -⟩ := blk4 HB2.out
      by_cases hx : x0 = 0
      case neg =>
        have hxn : (x0 == 0) = false := by rw [beq_eq_false_iff_ne]; exact hx
        have hxm : (x0 != 0) = true := by simp [bne, hxn]
        clear hx
        go_wp2
        refine bodyPost_ret (v := .tuple #[.string ⟨s.toArray⟩, .int .i64 0]) (by simp [results, Tryz.results21, go_sem]) rfl ⟨rfl, HL2.out⟩
      subst hx
      by_cases h5 : t.kind = 5
      case pos =>
        have h5b : ((t.kind : Int) == 5) = true := by rw [beq_iff_eq]; omega
        clear h5
        go_wp2
        refine bodyPost_ret (v := .tuple #[.string ⟨s.toArray⟩, .int .i64 0]) (by simp [results, Tryz.results21, go_sem]) rfl ⟨rfl, HL2.out⟩
      have h5b : ((t.kind : Int) == 5) = false := by rw [beq_eq_false_iff_ne]; omega
      obtain ⟨hfa, hfb⟩ := (LX.next_far HX.out.at_ HTQ.out).resolve_left h5
      have HFA := Lib.hid (And.intro hfa hfb)
      have HTX := Lib.hid (tok_text9 HTQ.out)
      have HRE := Lib.hid (reach_any [] t.pos w.heap.size g s a (.slice none 0 0) (.map (some mb)) (.slice none 0 0) (.slice A ls.length cap) cc hh ss wc ⟨rfl, .inl ⟨rfl, rfl⟩⟩ HE2.out HX.out.hg (by simp))
      clear h5 hfa hfb c0 c1 c2 c3 c4 c5 c6 c7 c8
      go_wp2_with fail
      refine HRE.out.mono ?_
      rintro e V3 ⟨vb3, rfl, r1, r2, r3, r4, r5, r6⟩
      have hvb : vb3 = .slice none 0 0 := by
        rcases r1.2 with ⟨h, -⟩ | ⟨q, c, cur, h, -⟩
        · exact h
        · rw [h] at r2
          simp [Value.ownBlock] at r2
      subst hvb
      have hkp : ∀ q, q < wc.heap.size → q ≠ g → V3.heap[q]? = wc.heap[q]? := fun q h1 h2 => r5 q h1 h2 (by simp [Value.ownBlock])
      have hq3 : V3.heap[q1]? = some (.cells #[.int .i64 t.kind, .int .i64 t.pos, .int .i64 t.stop, .string ⟨t.text.toArray⟩] 62 (0, 0)) := by
        have l1 := HBX.out.lt
        refine (hkp q1 (Array.getElem?_eq_some_iff.1 HB2.out).1 (by omega)).trans HB2.out
      have HE3 := Lib.hid r3
      have HB3 := Lib.hid hq3
      have hrg := row_g HE2.out HR2.out
      have HR3 := Lib.hid (own_same HR2.out (fun q hq => hkp q (HR2.out.lt q hq).2 (fun e => hrg (by rw [← e]; exact hq))))
      have HM3 := Lib.hid (HM2.out.kept (hkp mb HM2.out.lt HX.out.gm))
      have HL3 := Lib.hid (HL2.out.trans r6)
      have HVL := Lib.hid (value_any [] [] t.kind t.pos t.stop t.text g mb s a (.slice none 0 0) (.slice none 0 0) (.slice A ls.length cap) (cc || hit t.pos []) hh ss V3 HE3.out (as_nil9 V3) HM3.out (by simp))
      rw [value_nil] at HVL
      dsimp only [Option.getD_none, Option.isSome_none] at HVL
      clear HRE r1 r2 r3 r4 r5 r6 hkp hq3 hrg d0 d1 d2 d3
      obtain ⟨d0, d1, d2, d3, -, -, -, -⟩ := blk4 HB3.out
      go_wp2_with fail
      refine HVL.out.mono ?_
      rintro e V4 ⟨rfl, hb4⟩
      have HE4 := Lib.hid (HE3.out.new hb4)
      have HR4 := Lib.hid (own_same HR3.out (fun q hq => hb4.block q (HR3.out.lt q hq).2))
      have HM4 := Lib.hid (sm_new HM3.out hb4)
      have HL4 := Lib.hid (HL3.out.trans (hb4.mono HL3.out.size))
      have HB4 := (hb4.block q1 (Array.getElem?_eq_some_iff.1 HB3.out).1).trans HB3.out
      have HPS := Lib.hid (pass_any HPA.out t.kind t.pos t.stop t.text w.heap.size g s a (.slice none 0 0) (.map (some mb)) (.slice none 0 0) A cap ls (cc || hit t.pos []) hh ss V4 HE4.out HR4.out HX.out.hg (HEN.out.go HL4.out) HW0.out (by have := HTX.out; have := HSL.out; omega) (by have := HSL.out; omega) HFA.out.2 (by have := HLS.out; have := HX.out.at_; have := HSL.out; omega))
      clear d0 d1 d2 d3 hb4 HVL
      obtain ⟨d0, d1, d2, d3, -, -, -, -⟩ := blk4 HB4
      go_wp2_with fail
      refine HPS.out.mono ?_
      rintro e V5 ⟨rfl, a2, c', h', s', A', cap', ls', p1, p2, p3, p4, p5, p6, p7⟩
      have HXX := Lib.hid (show XN w g mb s a2 V5 from ⟨⟨c', h', s', A', cap', ls', p3, p4, by have := HLS.out; have := HFA.out.1; omega⟩, HM4.out.kept (p6.far mb HM4.out.lt HX.out.gm (fun e => by
        obtain ⟨cs, fz, hk⟩ := Lib.ownsRow_kind HR4.out mb e
        have hm := HM4.out
        unfold SM at hm
        rw [hk] at hm
        simp at hm)), HL4.out.trans p6.below, HX.out.hg, HX.out.hm, HX.out.gm, p2⟩)
      have HA2 := Lib.hid (And.intro p1 p2)
      clear p1 p2 p3 p4 p5 p6 p7 d0 d1 d2 d3 HB4 HPS
      go_wp2_with fail
      go_roundg (s.length - a2)
      case measure => have := HK.out; have := HA2.out; have := HFA.out; omega
      case rel => exact ⟨a2, Lib.hid rfl, HXX⟩
end W
end Go.Proofs.YtelhobphphkidaaGreatDoor
