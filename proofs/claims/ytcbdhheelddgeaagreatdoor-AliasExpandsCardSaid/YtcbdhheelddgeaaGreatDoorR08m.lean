/- The reference's word parser in memory: sequences of parts. -/
import Derived.Test.YtcbdhheelddgeaaGreatDoorR08i
import Derived.Test.YtcbdhheelddgeaaGreatDoorYE
import Derived.Test.YtcbdhheelddgeaaGreatDoorYB
namespace Go.Proofs.YtcbdhheelddgeaaGreatDoor
open Go.RowKit K
namespace W
set_option maxRecDepth 100000
/-- The contract of parts at a fuel. -/
def PartsR (f : Nat) : Prop := ∀ (c : WP.Ctx) (k : Nat) (p l o : Int) (v : World), c.s.length ≤ 40000 → RP.PlC p c.pl c.op → k ≤ c.s.length → c.lv ≤ 33 → l = (c.lv : Int) → o = c.opn → c.s.length - k + 1 ≤ f →
  Calls Tryz.prog 110 #[.string ⟨c.s.toArray⟩, .int .i64 k, .int .i64 p, .int .i64 l, .int .i64 o] v (ROut v.heap.size v (RP.run f c [] k 0))
theorem LO.empty {B : Nat} {w : World} {A : Option Addr} {n c : Nat} {l : List WP.Part} (h : LO B w (.slice A n c) l) : n = l.length := h.rval.1
theorem rval_one {w : World} {B : Nat} {p : WP.Part} {A : Option Addr} (h : RVal w B [p] A) : ∃ b cells, A = some ⟨b, 0, none⟩ ∧ B ≤ b ∧ b < w.heap.size ∧ PRep w (fun k => B ≤ k) p cells ∧ ∀ j u, cells[j]? = some u → w.cell? ⟨b, j, none⟩ = some u := by
  rcases h with h | ⟨b, cells, hA, hb, hl, hc⟩
  · cases h
  · rw [LRep] at hl
    obtain ⟨x, y, rfl, h1, h2⟩ := hl
    rw [LRep] at h2
    subst h2
    rw [List.append_nil] at hc
    have hlen := h1.len
    obtain ⟨u, hu⟩ : ∃ u, x[0]? = some u := ⟨x[0], by simp [hlen]⟩
    exact ⟨b, x, hA, hb, lt_of_cell (hc 0 u hu), h1, hc⟩
/-- What the rounds over a step's parts keep. -/
structure Rd (B : Nat) (wb wr w2 wi : World) (v : Value) : Prop where
  bel : Below B wb wi
  keep : ∀ q, wr.heap.size ≤ q → q < w2.heap.size → wi.heap[q]? = w2.heap[q]?
  le : w2.heap.size ≤ wi.heap.size
  own : ∀ r, v.ownBlock = some r → r < wr.heap.size ∨ w2.heap.size ≤ r
theorem Rd.grow {B : Nat} {wb wr w2 wi w' : World} {v v' : Value} (h : Rd B wb wr w2 wi v) (g : Gw B wi w' v v') : Rd B wb wr w2 w' v' :=
  ⟨h.bel.trans g.bel, fun q h1 h2 => (g.keep q (Nat.lt_of_lt_of_le h2 h.le) (fun e => (h.own q e).elim (fun e => by omega) (fun e => by omega))).trans (h.keep q h1 h2), Nat.le_trans h.le g.le,
    fun r hr => (g.own r hr).elim (h.own r) (fun e => .inr (Nat.le_trans h.le e))⟩
set_option maxHeartbeats 16000000 in
theorem partsR_step {f : Nat} (ih : ∀ g, g < f → PartsR g) : PartsR f := by
  intro c k p l o v hl hp hk hlv hl2 ho hf
  subst hl2 ho
  obtain ⟨wb, FM⟩ := fm_of v
  obtain ⟨R, hR⟩ : ∃ R, RP.run f c [] k 0 = R := ⟨_, rfl⟩
  rw [hR]
  have HPART := Lib.hid (fun (g a : Nat) (hg : g < f) (hga : c.s.length - a ≤ g) (ha : a < c.s.length) (w : World) => show Calls Tryz.prog 131 #[.string ⟨c.s.toArray⟩, .int .i64 a, .int .i64 p, .int .i64 c.lv] w (ROut w.heap.size w (RP.part (RP.nest g) c a)) from by
    have hN : NC c.s a (RP.nest g) := fun c' k' p' l' o' v' hs hp' h1 h2 h3 _ h5 h6 => by
      have := ih g hg c' k' p' l' o' v' (by rw [hs]; exact hl) hp' (by rw [hs]; exact h2) h3 h5 h6 (by rw [hs]; omega)
      rw [hs] at this
      exact this
    have hG := RP.nest_good g c.s
    refine rw_part (RP.nest g) c a p hp w hl ha hlv hN hG (fun v' h36 => rw_dollar (RP.nest g) c a p hp v' hl ha h36 (fun v2 hd => rw_expansion (RP.nest g) c a p hp v2 hl h36 hd hlv hN hG (fun v3 _ => rw_braced (RP.nest g) c a p hp v3 hl ?_ hlv hN hG)))
    have hd2 := hd
    unfold LX.dollar at hd2
    rw [Bool.and_eq_true, decide_eq_true_eq] at hd2
    omega)
  have HE := Lib.hid (fun (a dep : Nat) (ha : a < c.s.length) (w : World) => rw_ends c a dep p hp w (by omega) ha)
  have HT := Lib.hid (fun (a : Nat) (ha : a < c.s.length) (w : World) => rw_tilde c a p hp w (by omega) ha)
  have HPS := Lib.hid (fun (g a : Nat) xs k2 => RP.part_ps (RP.nest g) c a xs k2)
  have HPG := Lib.hid (fun (g a : Nat) xs k2 (ha : a < c.s.length) (h : RP.part (RP.nest g) c a = some (xs, k2)) => RP.part_good (RP.nest_good g c.s) ha h)
  have HRUN := Lib.hid (fun g l a dep => RP.run_succ g c l a dep)
  have HFL := Lib.hid (fun (x y : Int) (hy : y ≠ 0) w => rw_fail x y hy w wb.heap.size)
  obtain ⟨s, pl, op, lv, opn⟩ := c
  dsimp only at *
  have HP4 := Lib.hid (show (p == 4) = decide (pl = 2 ∧ op = false) by rcases hp with ⟨rfl, rfl, rfl⟩ | ⟨rfl, rfl, rfl⟩ | ⟨rfl, rfl, rfl⟩ | ⟨rfl, rfl, rfl⟩ | ⟨rfl, rfl, rfl⟩ | ⟨rfl, rfl, rfl⟩ <;> rfl)
  have HP0 := Lib.hid (show (p == 0) = decide (pl = 0 ∧ op = false) by rcases hp with ⟨rfl, rfl, rfl⟩ | ⟨rfl, rfl, rfl⟩ | ⟨rfl, rfl, rfl⟩ | ⟨rfl, rfl, rfl⟩ | ⟨rfl, rfl, rfl⟩ | ⟨rfl, rfl, rfl⟩ <;> rfl)
  have hp5 : (p == 5) = false := by rcases hp with ⟨rfl, _, _⟩ | ⟨rfl, _, _⟩ | ⟨rfl, _, _⟩ | ⟨rfl, _, _⟩ | ⟨rfl, _, _⟩ | ⟨rfl, _, _⟩ <;> rfl
  have HRR := Lib.hid hR
  have HF := Lib.hid hf
  have w0 := FM.lt
  clear hR hp hlv ih hf
  go_enter Tryz.func110, Tryz.ntmps110
  go_upto_region 1 with (fail)
  rw [← FM.eq]
  go_wp2
  go_loopg [1, 11, 12] (s.length - k) (fun g x y z wr => ∃ (a dep n cp : Nat) (A : Option Addr) (ls : List WP.Part) (fu : Nat), a ≤ s.length ∧ g = s.length - a ∧ x = .int .i64 a ∧ y = .slice A n cp ∧ z = .int .i64 dep ∧ n ≤ a ∧ dep ≤ a ∧
    Hid (LO wb.heap.size wr (.slice A n cp) ls) ∧ Hid (Below wb.heap.size wb wr) ∧ Hid (s.length - a + 1 ≤ fu ∧ fu ≤ f ∧ RP.run fu ⟨s, pl, op, lv, opn⟩ ls a dep = R) ∧ Hid (RP.T1 ls a))
  case atStart => exact ⟨k, 0, 0, 0, none, [], f, hk, rfl, rfl, rfl, rfl, Nat.zero_le _, Nat.zero_le _, Lib.hid (LO.nil _ _), Lib.hid (Below.refl _ _), Lib.hid ⟨HF.out, Nat.le_refl _, HRR.out⟩, Lib.hid (RP.T1.nil _)⟩
  case round =>
    obtain ⟨a, dep, n, cp, A, ls, fu, ha, rfl, rfl, rfl, rfl, hna, hda, HLO, HB, HFU, HT1⟩ := hrel
    clear HRR HF
    obtain ⟨g, hg⟩ : ∃ g, fu = g + 1 := ⟨fu - 1, by have := HFU.out.1; omega⟩
    subst hg
    have HRE := Lib.hid (HFU.out.2.2.symm.trans (HRUN.out g ls a dep))
    have hbs := HB.out.size
    by_cases hlt : a < s.length
    case neg =>
      have q1 : ((a : Int) < (s.length : Int)) = False := eq_false (by omega)
      have hRR := HRE.out.trans (if_neg hlt)
      have hp0 := HP0.out
      by_cases h0 : pl = 0 ∧ op = false
      case pos =>
        rw [decide_eq_true h0] at hp0
        rw [if_pos h0] at hRR
        subst hRR
        obtain ⟨c0, c1, c2, f0, f1, f2⟩ := FM.blk wr HB.out
        clear h0 hlt
        go_wp2
        exact bodyPost_ret (v := .agg #[.slice A n cp, .int .i64 a, .int .i64 0]) (by simp [results, Tryz.results110, go_sem, c0, c1, c2]) rfl (FM.fin HB.out ⟨rfl, rfl, HLO.out.rval.1, HLO.out.rval.2⟩)
      case neg =>
        rw [decide_eq_false h0] at hp0
        rw [if_neg h0] at hRR
        subst hRR
        have HFF := Lib.hid (HFL.out opn 7 (by decide))
        clear h0 hlt
        go_wp2_with fail
        (try rw [← FM.eq])
        refine (HFF.out _).mono ?_
        rintro e w2 ⟨A, n, cap, x, y, rfl, hb, hg⟩
        have HB2 := Lib.hid (btr HB.out hb)
        have HG2 := Lib.hid hg
        obtain ⟨c0, c1, c2, f0, f1, f2⟩ := FM.blk w2 HB2.out
        have hz := HB2.out.size
        have hz2 := FM.lt
        clear hb hg
        go_wp2
        exact bodyPost_ret (v := .agg #[.slice A n cap, .int .i64 x, .int .i64 y]) (by simp [results, Tryz.results110, go_sem, c0, c1, c2]) rfl (FM.fin HB2.out HG2.out)
    case pos =>
    have q1 : ((a : Int) < (s.length : Int)) = True := eq_true (by omega)
    replace HRE := Lib.hid (HRE.out.trans (if_pos hlt))
    have HEN := Lib.hid (HE.out a dep hlt)
    cases he : RP.ends ⟨s, pl, op, lv, opn⟩ a dep with
    | true =>
      rw [he] at HEN
      have hRR := HRE.out.trans (if_pos he)
      have hp4 := HP4.out
      by_cases h4 : pl = 2 ∧ op = false
      case pos =>
        rw [decide_eq_true h4] at hp4
        by_cases h1 : a + 1 = s.length
        case pos =>
          rw [if_pos ⟨h4.1, h4.2, .inl h1⟩] at hRR
          subst hRR
          have q2 : ((a : Int) + 1 == (s.length : Int)) = true := by rw [beq_iff_eq]; omega
          have HFF := Lib.hid (HFL.out opn 7 (by decide))
          clear h4 h1 he
          go_wp2_with (go_at_call 128; refine (HEN.out _).mono ?_; rintro e w' ⟨rfl, rfl⟩)
          (try rw [← FM.eq])
          refine (HFF.out _).mono ?_
          rintro e w2 ⟨A, n, cap, x, y, rfl, hb, hg⟩
          have HB2 := Lib.hid (btr HB.out hb)
          have HG2 := Lib.hid hg
          obtain ⟨c0, c1, c2, f0, f1, f2⟩ := FM.blk w2 HB2.out
          have hz := HB2.out.size
          have hz2 := FM.lt
          clear hb hg
          go_wp2
          exact bodyPost_ret (v := .agg #[.slice A n cap, .int .i64 x, .int .i64 y]) (by simp [results, Tryz.results110, go_sem, c0, c1, c2]) rfl (FM.fin HB2.out HG2.out)
        case neg =>
        have q2 : ((a : Int) + 1 == (s.length : Int)) = false := by rw [beq_eq_false_iff_ne]; omega
        have q3 : ((a : Int) + 1 < (s.length : Int)) = True := eq_true (by omega)
        by_cases h2 : bt s (a + 1) = 41
        case pos =>
          rw [if_neg (fun e => e.2.2.elim h1 (fun e => e h2))] at hRR
          subst hRR
          have q4 : (bt s (a + 1) != 41) = false := by rw [h2]; rfl
          have q5 : (bt s (a + 1) == 41) = true := by rw [beq_iff_eq]; exact h2
          obtain ⟨c0, c1, c2, f0, f1, f2⟩ := FM.blk wr HB.out
          clear h4 h1 he h2
          go_wp2_with (go_at_call 128; refine (HEN.out _).mono ?_; rintro e w' ⟨rfl, rfl⟩)
          exact bodyPost_ret (v := .agg #[.slice A n cp, .int .i64 a, .int .i64 0]) (by simp [results, Tryz.results110, go_sem, c0, c1, c2]) rfl (FM.fin HB.out ⟨rfl, rfl, HLO.out.rval.1, HLO.out.rval.2⟩)
        case neg =>
          rw [if_pos ⟨h4.1, h4.2, .inr h2⟩] at hRR
          subst hRR
          have q5 := beq_f h2
          have q4 : (bt s (a + 1) != 41) = true := by rw [bne, q5]; rfl
          have HFF := Lib.hid (HFL.out a 6 (by decide))
          clear h4 h1 he h2
          go_wp2_with (go_at_call 128; refine (HEN.out _).mono ?_; rintro e w' ⟨rfl, rfl⟩)
          (try rw [← FM.eq])
          refine (HFF.out _).mono ?_
          rintro e w2 ⟨A, n, cap, x, y, rfl, hb, hg⟩
          have HB2 := Lib.hid (btr HB.out hb)
          have HG2 := Lib.hid hg
          obtain ⟨c0, c1, c2, f0, f1, f2⟩ := FM.blk w2 HB2.out
          have hz := HB2.out.size
          have hz2 := FM.lt
          clear hb hg
          go_wp2
          exact bodyPost_ret (v := .agg #[.slice A n cap, .int .i64 x, .int .i64 y]) (by simp [results, Tryz.results110, go_sem, c0, c1, c2]) rfl (FM.fin HB2.out HG2.out)
      case neg =>
        rw [decide_eq_false h4] at hp4
        rw [if_neg (fun e => h4 ⟨e.1, e.2.1⟩)] at hRR
        subst hRR
        obtain ⟨c0, c1, c2, f0, f1, f2⟩ := FM.blk wr HB.out
        clear h4 he
        go_wp2_with (go_at_call 128; refine (HEN.out _).mono ?_; rintro e w' ⟨rfl, rfl⟩)
        exact bodyPost_ret (v := .agg #[.slice A n cp, .int .i64 a, .int .i64 0]) (by simp [results, Tryz.results110, go_sem, c0, c1, c2]) rfl (FM.fin HB.out ⟨rfl, rfl, HLO.out.rval.1, HLO.out.rval.2⟩)
    | false =>
      rw [he] at HEN
      replace HRE := Lib.hid (HRE.out.trans (if_neg (by rw [he]; simp)))
      obtain ⟨q, hq⟩ : ∃ q, (decide (ls = []) && RP.tilde ⟨s, pl, op, lv, opn⟩ a) = q := ⟨_, rfl⟩
      have HQ := Lib.hid hq
      have HTI := Lib.hid (HT.out a hlt)
      have HN := Lib.hid HLO.out.rval.1
      have HND := Lib.hid (show bt s a = 41 → pl = 2 ∧ op = false → 0 < dep from fun e1 e2 => by
        rcases Nat.eq_zero_or_pos dep with h | h
        · rw [RP.ends, if_neg (by dsimp only; rw [e2.2]; simp), if_neg (by dsimp only; omega), if_pos (by dsimp only; exact e2.1), decide_eq_true ⟨e1, h⟩] at he
          cases he
        · exact h)
      clear hq he
      go_upto_region 10 with (go_at_call 128; refine (HEN.out _).mono ?_; rintro e w' ⟨rfl, rfl⟩)
      go_cut [11, 57] (fun y x wx => y = .slice A n cp ∧ x = .bool q ∧ wx = wr)
      case first =>
        by_cases hls : ls = []
        case pos =>
          have hn0 : ((n : Int) == 0) = true := by rw [beq_iff_eq, HN.out, hls]; rfl
          have hQ := HQ.out
          rw [decide_eq_true hls, Bool.true_and] at hQ
          rw [hQ] at HTI
          clear hls hQ
          go_wp2_with (go_at_call 130; refine (HTI.out _).mono ?_; rintro e w' ⟨rfl, rfl⟩)
          go_meet
          exact ⟨by rw [show n = 0 by simpa using hn0], rfl, rfl⟩
        case neg =>
          have hn1 : ¬ n = 0 := fun e => hls (List.eq_nil_of_length_eq_zero (by have := HN.out; omega))
          have hn5 : ((n : Int) = 0) = False := eq_false (by omega)
          have hn6 : (n = 0) = False := eq_false hn1
          clear hn1
          have hQ := HQ.out
          rw [decide_eq_false hls, Bool.false_and] at hQ
          clear hls
          go_wp2_with fail
          go_meet
          exact ⟨rfl, rfl, rfl⟩
      case rest =>
      obtain ⟨rfl, rfl, hwc⟩ := hcut
      obtain rfl : wr = wc := hwc.symm
      clear HTI HEN
      rcases (show q = true ∨ q = false by cases q <;> simp) with rfl | rfl
      · have hQ := HQ.out
        rw [Bool.and_eq_true, decide_eq_true_eq] at hQ
        have hRR := HRE.out.trans (if_pos hQ)
        obtain ⟨x, hx⟩ : ∃ x, x = wr.alloc (.cells #[.int .i64 7, .string ⟨#[]⟩, .int .i64 0, .bool false, .slice none 0 0] 126) := ⟨_, rfl⟩
        obtain ⟨A', c', w', hrun, hlo2, hgw⟩ := app_part (p := .mk 7 [] 0 false []) HLO.out hbs (by have := HN.out; omega) hx (by rw [PRep]; exact ⟨none, 0, rfl, .inl rfl⟩)
        have HX := Lib.hid hx
        have HR2 := Lib.hid hrun
        have HL2 := Lib.hid hlo2
        have HB2 := Lib.hid (HB.out.trans hgw.bel)
        have HT2 := Lib.hid (show RP.T1 (ls ++ [.mk 7 [] 0 false []]) (a + 1) from fun u o b ps e => by
          rw [List.getLast?_concat] at e
          injection e with e
          injection e with e
          cases e)
        have HF2 := Lib.hid (show s.length - (a + 1) + 1 ≤ g ∧ g ≤ f ∧ RP.run g ⟨s, pl, op, lv, opn⟩ (ls ++ [.mk 7 [] 0 false []]) (a + 1) dep = R from ⟨by have := HFU.out.1; omega, by have := HFU.out.2.1; omega, hRR.symm⟩)
        have hn := HN.out
        rw [← hn] at HR2 HL2
        clear hx hrun hlo2 hgw hQ hRR hn
        go_wp2_with (at_builtin; rw [← HX.out]; refine app_eqR rfl _ _ 102 rfl _ _ _ rfl rfl HR2.out ?_)
        go_roundg (s.length - (a + 1))
        case measure => omega
        case rel => exact ⟨a + 1, dep, n + 1, c', A', _, g, hlt, rfl, by go_num, rfl, rfl, by omega, by omega, HL2, HB2, HF2, HT2⟩
      have HRF := Lib.hid (HRE.out.trans (if_neg (fun e => by have h := HQ.out; rw [decide_eq_true e.1, e.2] at h; cases h)))
      clear HRE HQ
      obtain ⟨b0, hb0⟩ : ∃ b0, decide ((pl = 2 ∧ op = false) ∧ bt s a = 40) = b0 := ⟨_, rfl⟩
      obtain ⟨b1, hb1⟩ : ∃ b1, decide ((pl = 2 ∧ op = false) ∧ bt s a = 41) = b1 := ⟨_, rfl⟩
      have HD := Lib.hid (show RP.depth ⟨s, pl, op, lv, opn⟩ a dep = if b0 = true then dep + 1 else if b1 = true then dep - 1 else dep from by
        rw [← hb0, ← hb1]
        unfold RP.depth
        by_cases h4 : pl = 2 ∧ op = false
        · simp [h4]
        · simp [h4])
      have HB1P := Lib.hid (show b1 = true → 0 < dep ∧ b0 = false from fun e => by
        rw [← hb1, decide_eq_true_eq] at e
        refine ⟨HND.out e.2 e.1, ?_⟩
        rw [← hb0, e.2]
        simp)
      go_upto_region 13 with (fail)
      go_cut [71] (fun x wx => x = .bool b0 ∧ wx = wr)
      case first =>
        have hp4 := HP4.out
        by_cases h4 : pl = 2 ∧ op = false
        case pos =>
          rw [decide_eq_true h4] at hp4
          have HBB := Lib.hid (show (bt s a == 40) = b0 by rw [← hb0, Bool.eq_iff_iff]; simp [h4])
          clear hb0 hb1 h4
          go_wp2_with fail
          go_meet
          exact ⟨by rw [← HBB.out], rfl⟩
        case neg =>
          rw [decide_eq_false h4] at hp4
          have HBB := Lib.hid (show false = b0 by rw [← hb0]; exact (decide_eq_false fun e => h4 e.1).symm)
          clear hb0 hb1 h4
          go_wp2_with fail
          go_meet
          exact ⟨by rw [← HBB.out], rfl⟩
      case rest =>
      obtain ⟨rfl, hwc⟩ := hcut
      obtain rfl : wr = wc := hwc.symm
      obtain ⟨d1, hd1⟩ : ∃ d1, (if b0 = true then dep + 1 else dep) = d1 := ⟨_, rfl⟩
      go_upto_if 71 with (fail)
      go_cut [12] (fun x wx => x = .int .i64 d1 ∧ wx = wr)
      case first =>
        rcases (show b0 = true ∨ b0 = false by cases b0 <;> simp) with rfl | rfl
        · rw [if_pos rfl] at hd1
          subst hd1
          clear hb0 hb1
          go_wp2_with fail
          go_meet
          exact ⟨by go_num, rfl⟩
        · rw [if_neg (by simp)] at hd1
          subst hd1
          clear hb0 hb1
          go_wp2_with fail
          go_meet
          exact ⟨rfl, rfl⟩
      case rest =>
      obtain ⟨rfl, hwc⟩ := hcut
      obtain rfl : wr = wc := hwc.symm
      go_upto_region 15 with (fail)
      go_cut [81] (fun x wx => x = .bool b1 ∧ wx = wr)
      case first =>
        have hp4 := HP4.out
        by_cases h4 : pl = 2 ∧ op = false
        case pos =>
          rw [decide_eq_true h4] at hp4
          have HBB := Lib.hid (show (bt s a == 41) = b1 by rw [← hb1, Bool.eq_iff_iff]; simp [h4])
          clear hb0 hb1 h4
          go_wp2_with fail
          go_meet
          exact ⟨by rw [← HBB.out], rfl⟩
        case neg =>
          rw [decide_eq_false h4] at hp4
          have HBB := Lib.hid (show false = b1 by rw [← hb1]; exact (decide_eq_false fun e => h4 e.1).symm)
          clear hb0 hb1 h4
          go_wp2_with fail
          go_meet
          exact ⟨by rw [← HBB.out], rfl⟩
      case rest =>
      obtain ⟨rfl, hwc⟩ := hcut
      obtain rfl : wr = wc := hwc.symm
      obtain ⟨d2, hd2⟩ : ∃ d2, RP.depth ⟨s, pl, op, lv, opn⟩ a dep = d2 := ⟨_, rfl⟩
      have hd2a : d2 ≤ a + 1 := by
        have := HD.out
        rw [hd2] at this
        rw [this]
        split
        · omega
        · split <;> omega
      go_upto_if 81 with (fail)
      go_cut [12] (fun x wx => x = .int .i64 d2 ∧ wx = wr)
      case first =>
        have hdd := HD.out
        rw [hd2] at hdd
        rcases (show b1 = true ∨ b1 = false by cases b1 <;> simp) with rfl | rfl
        · obtain ⟨hdp, rfl⟩ := HB1P.out rfl
          rw [if_neg (by simp)] at hd1 hdd
          rw [if_pos rfl] at hdd
          subst hd1
          subst hdd
          clear hb0 hb1 hd2
          have q9 : ((dep : Int) - 1) = ((dep - 1 : Nat) : Int) := by omega
          go_wp2_with fail
          go_meet
          exact ⟨by rw [← q9], rfl⟩
        · rw [if_neg (show ¬ (false = true) by simp), hd1] at hdd
          subst hdd
          clear hb0 hb1 hd1
          go_wp2_with fail
          go_meet
          exact ⟨rfl, rfl⟩
      case rest =>
      obtain ⟨rfl, hwc⟩ := hcut
      obtain rfl : wr = wc := hwc.symm
      clear hb0 hb1 hd1 HD HB1P HND
      generalize wr = wl at *
      have hga := HFU.out.1
      have hgf := HFU.out.2.1
      have HPT := Lib.hid (HPART.out g a (by omega) (by omega) hlt wl)
      cases hpt : RP.part (RP.nest g) ⟨s, pl, op, lv, opn⟩ a with
      | none =>
        have hRR := HRF.out
        rw [hpt] at HPT hRR
        replace hRR : none = R := hRR.symm
        subst hRR
        clear hpt hd2 hga hgf
        go_wp2_with fail
        (try rw [← FM.eq])
        refine (HPT.out).mono ?_
        rintro e w1 ⟨A, n, cap, x, y, rfl, hb, hg⟩
        have HB1 := Lib.hid (btr HB.out hb)
        have HG1 := Lib.hid (show y ≠ 0 from hg)
        have hy : (y != 0) = true := by simp [bne, HG1.out]
        obtain ⟨c0, c1, c2, f0, f1, f2⟩ := FM.blk w1 HB1.out
        obtain ⟨d0, d1, d2, g0, g1, g2⟩ := FM.blk (w1.alloc (.cells #[.slice A n cap, .int .i64 x, .int .i64 y] 143)) (btr HB1.out (balloc _ _))
        have hz := HB1.out.size
        have hz2 := FM.lt
        clear hb hg
        go_wp2
        exact bodyPost_ret (v := .agg #[.slice A n cap, .int .i64 x, .int .i64 y]) (by simp [results, Tryz.results110, go_sem, d0, d1, d2]) rfl (FM.fin (btr HB1.out (balloc _ _)) HG1.out)
      | some r =>
        obtain ⟨xs, k2⟩ := r
        have hRR := HRF.out
        rw [hpt] at HPT hRR
        obtain ⟨hps1, hps2⟩ := HPS.out g a xs k2 hpt
        obtain ⟨hak, hks⟩ := HPG.out g a xs k2 hlt hpt
        have hn := HN.out
        obtain ⟨ht1, ht2⟩ := RP.apps_T1 HT1.out (Nat.le_of_lt hak) hps1 hps2
        have HF2 := Lib.hid (show s.length - k2 + 1 ≤ g ∧ g ≤ f ∧ RP.run g ⟨s, pl, op, lv, opn⟩ (RP.apps ls xs) k2 d2 = R from ⟨by omega, by omega, by rw [hRR, ← hd2]⟩)
        have HT2 := Lib.hid ht1
        have hn2 : (RP.apps ls xs).length ≤ k2 := by omega
        clear hn hRR hpt hd2 hga hgf ht1 ht2
        go_wp2_with fail
        refine HPT.out.mono ?_
        rintro e w1 ⟨XA, xn, xc, x, y, rfl, hb, rfl, rfl, hxn, hv⟩
        obtain ⟨w2, hw2⟩ : ∃ w2, w2 = w1.alloc (.cells #[.slice XA xn xc, .int .i64 k2, .int .i64 0] 143) := ⟨_, rfl⟩
        have HW2 := Lib.hid hw2
        have hwb : Below wl.heap.size wl w2 := by rw [hw2]; exact btr hb (balloc _ _)
        have hz1 : w2.heap.size = w1.heap.size + 1 := by rw [hw2]; simp
        have hz2 := hb.size
        have hxb : w2.heap[w1.heap.size]? = some (.cells #[.slice XA xn xc, .int .i64 k2, .int .i64 0] 143 (0, 0)) := by rw [hw2]; exact al_new w1 _
        have HXB := Lib.hid hxb
        have HLW := Lib.hid (HLO.out.below hwb)
        have HRV := Lib.hid (show RVal w2 wl.heap.size xs XA from hv.mono (Nat.le_refl _) (fun b _ hb2 => by rw [hw2]; exact (balloc w1 _).block b hb2))
        have HRD := Lib.hid (show Rd wb.heap.size wb wl w2 w2 (.slice A n cp) from ⟨HB.out.trans (hwb.mono hbs), fun _ _ _ => rfl, Nat.le_refl _, fun r hr => .inl (HLO.out.lt r hr).2⟩)
        have HXN := Lib.hid hxn
        have hxn1 : xn ≤ 1 := by omega
        have hl1 : w1.heap.size < w2.heap.size := by omega
        obtain ⟨d0, d1, d2', -, -, -⟩ := blk3 hxb
        clear hw2 hwb hxb hb hv hxn
        go_upto_region 20 with (fail)
        rw [← HW2.out]
        go_wp2
        clear d0 d1 d2'
        go_loopg [11, 14] (xn - 0) (fun g' y z wr => ∃ (j n2 c2 : Nat) (A2 : Option Addr) (l2 : List WP.Part), j ≤ xn ∧ g' = xn - j ∧ y = .slice A2 n2 c2 ∧ z = .int .i64 j ∧ Hid (l2 = RP.apps ls (xs.take j)) ∧ Hid (LO wb.heap.size wr (.slice A2 n2 c2) l2) ∧ Hid (Rd wb.heap.size wb wl w2 wr (.slice A2 n2 c2)))
        case atStart => exact ⟨0, n, cp, A, ls, Nat.zero_le _, rfl, rfl, rfl, Lib.hid rfl, HLW, HRD⟩
        case round =>
          obtain ⟨j, n2, c2, A2, l2, hj, rfl, rfl, rfl, HL2, HLO2, HRD2⟩ := hrel
          have HXB2 := Lib.hid ((HRD2.out.keep w1.heap.size (by omega) hl1).trans HXB.out)
          obtain ⟨d0, d1, d2', -, -, -⟩ := blk3 HXB2.out
          have hwr := HRD2.out.le
          have hlr : w1.heap.size < wr.heap.size := by omega
          by_cases hjx : j < xn
          case neg =>
            have q2 : ((j : Int) < (xn : Int)) = False := eq_false (by omega)
            have HL3 := Lib.hid (show LO wb.heap.size wr (.slice A2 n2 c2) (RP.apps ls xs) from by
              have := HLO2.out
              rw [HL2.out, List.take_of_length_le (by have := HXN.out; omega)] at this
              exact this)
            have hn3 : n2 ≤ k2 := by have := HL3.out.rval.1; omega
            go_wp2
            go_roundg (s.length - k2)
            case measure => omega
            case rel => exact ⟨k2, d2, n2, c2, A2, _, g, hks, rfl, rfl, rfl, rfl, hn3, by omega, HL3, Lib.hid HRD2.out.bel, HF2, HT2⟩
          case pos =>
          have q2 : ((j : Int) < (xn : Int)) = True := eq_true (by omega)
          obtain rfl : j = 0 := by omega
          obtain rfl : xn = 1 := by omega
          obtain ⟨p1, hp1⟩ : ∃ p1, xs = [p1] := by
            have := HXN.out
            match xs, this with
            | [p1], _ => exact ⟨p1, rfl⟩
            | [], h => simp at h
            | _ :: _ :: _, h => simp at h
          subst hp1
          have hl2 : l2 = ls := HL2.out
          obtain ⟨b, pcs, rfl, hb1, hb2, hpr, hpc⟩ := rval_one HRV.out
          obtain ⟨kd, t, o, bo, ps⟩ := p1
          rw [PRep] at hpr
          obtain ⟨A3, cap3, rfl, hnest⟩ := hpr
          have hkb : ∀ i u, (pc kd t o bo (.slice A3 ps.length cap3))[i]? = some u → wr.cell? ⟨b, i, none⟩ = some u := fun i u hi => by
            rw [← hpc i u hi]
            unfold World.cell?
            rw [HRD2.out.keep b hb1 hb2]
          have y0 : wr.cell? ⟨b, 0, none⟩ = some (.int .i64 kd) := hkb 0 _ rfl
          have y1 : wr.cell? ⟨b, 1, none⟩ = some (.string ⟨t.toArray⟩) := hkb 1 _ rfl
          have y2 : wr.cell? ⟨b, 2, none⟩ = some (.int .i64 o) := hkb 2 _ rfl
          have y3 : wr.cell? ⟨b, 3, none⟩ = some (.bool bo) := hkb 3 _ rfl
          have y4 : wr.cell? ⟨b, 4, none⟩ = some (.slice A3 ps.length cap3) := hkb 4 _ rfl
          have hbr : b < wr.heap.size := by omega
          have HP1 := Lib.hid (show PRep wr (fun q => wb.heap.size ≤ q ∧ (Value.slice A2 n2 c2).ownBlock ≠ some q) (.mk kd t o bo ps) (pc kd t o bo (.slice A3 ps.length cap3)) from by
            refine PRep.mono (w := w2) (F := fun q => wl.heap.size ≤ q) (fun q hq1 hq2 => ⟨⟨by omega, fun e => (HRD2.out.own q e).elim (fun e => by omega) (fun e => by omega)⟩, HRD2.out.keep q hq1 hq2⟩) _ _ ?_
            rw [PRep]
            exact ⟨A3, cap3, rfl, hnest⟩)
          have hn2 : n2 ≤ a := by have := HLO2.out.rval.1; rw [hl2] at this; have := HN.out; omega
          have hn3 := HLO2.out.rval.1
          have hbw := HRD2.out.bel.size
          clear hnest hpc hkb hb1 hb2
          by_cases hk1 : kd = 1
          case pos =>
            have e1 : ((kd : Int) == 1) = true := by rw [beq_iff_eq]; omega
            have ht3 := hps2 t o bo ps (by rw [hk1]; exact List.mem_singleton.2 rfl)
            have HWI := Lib.hid (rw_with wb.heap.size l2 t (.slice A2 n2 c2) wr HLO2.out hbw (by omega) (by omega) (fun u o' b' ps' e => by have := HT1.out u o' b' ps' (by rw [← hl2]; exact e); omega))
            have HAP := Lib.hid (show RP.apps ls ([WP.Part.mk kd t o bo ps].take 1) = RP.withT l2 t from by rw [hl2, hk1]; rfl)
            clear hk1 ht3 hl2 hn3
            go_wp2_with fail
            refine HWI.out.mono ?_
            rintro e w3 ⟨A4, n4, c4, rfl, hlo4, hg4⟩
            have HL4 := Lib.hid hlo4
            have HRD4 := Lib.hid (HRD2.out.grow hg4)
            clear hlo4 hg4
            go_wp2
            go_roundg 0
            case measure => omega
            case rel => exact ⟨1, n4, c4, A4, _, Nat.le_refl _, rfl, rfl, by go_num, Lib.hid HAP.out.symm, HL4, HRD4⟩
          case neg =>
            have e1 : ((kd : Int) == 1) = false := by rw [beq_eq_false_iff_ne]; omega
            obtain ⟨x, hx⟩ : ∃ x, x = wr.alloc (.cells #[.int .i64 kd, .string ⟨t.toArray⟩, .int .i64 o, .bool bo, .slice A3 ps.length cap3] 126) := ⟨_, rfl⟩
            obtain ⟨A', c', w', hrun, hlo4, hg4⟩ := app_part HLO2.out hbw (by omega) hx HP1.out
            have HX := Lib.hid hx
            have HR2 := Lib.hid hrun
            have HL4 := Lib.hid hlo4
            have HRD4 := Lib.hid (HRD2.out.grow hg4)
            have HAP := Lib.hid (show RP.apps ls ([WP.Part.mk kd t o bo ps].take 1) = l2 ++ [WP.Part.mk kd t o bo ps] from by
              rw [hl2]
              show (if kd = 1 then _ else _) = _
              rw [if_neg hk1])
            rw [← hn3] at HR2 HL4 HRD4
            have hps0 : (0 : Int) ≤ (ps.length : Int) := by omega
            clear hx hrun hlo4 hg4 hk1 hl2 hn3 HP1
            generalize ps.length = pn at *
            go_wp2_with (at_builtin; rw [← HX.out]; refine app_eqR rfl _ _ 102 rfl _ _ _ rfl rfl HR2.out ?_)
            go_roundg 0
            case measure => omega
            case rel => exact ⟨1, n2 + 1, c', A', _, Nat.le_refl _, rfl, by go_num, by go_num, Lib.hid HAP.out.symm, HL4, HRD4⟩
theorem partsR_all : ∀ n f, f ≤ n → PartsR f
  | 0, f, h => by
    obtain rfl : f = 0 := by omega
    exact fun _ _ _ _ _ _ _ _ _ _ _ _ h => absurd h (by omega)
  | n + 1, f, h => by
    rcases Nat.lt_or_ge f (n + 1) with h' | h'
    · exact partsR_all n f (by omega)
    · obtain rfl : f = n + 1 := by omega
      exact partsR_step fun g hg => partsR_all n g (by omega)
end W
end Go.Proofs.YtcbdhheelddgeaaGreatDoor
