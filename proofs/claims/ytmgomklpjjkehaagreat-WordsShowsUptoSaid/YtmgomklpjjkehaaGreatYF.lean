/- Several texts in one: R08u R08w R08x H08 R08y R08z. -/
import Derived.Test.YtmgomklpjjkehaaGreatW08s
import Derived.Test.YtmgomklpjjkehaaGreatYB
import Derived.Test.YtmgomklpjjkehaaGreatYD
import Derived.Deep.RegionHeldLaw
import Derived.Test.YtmgomklpjjkehaaGreatYG
namespace Go.Proofs.YtmgomklpjjkehaaGreat
open Go.RowKit K
open WP (GP gp gpL)
namespace W
/-- What the reference's Same gives for lists of fewer than n parts. -/
def SameRC (n : Nat) : Prop := ∀ (l m : List GP) (v u : Value) (w : World), WP.cntL l < n → WP.cntL l ≤ 2000000 → GS w (fun b => b < w.heap.size) v l → GS w (fun b => b < w.heap.size) u m →
  Calls Tryz.prog 28 #[v, u] w fun e w' => e = .returned (.bool (WP.sameL l m)) ∧ Below w.heap.size w w'
set_option maxRecDepth 100000 in
set_option maxHeartbeats 8000000 in
theorem sameR_step {n : Nat} (HC : SameRC n) : SameRC (n + 1) := by
  intro l m v u w hl hn h h'
  obtain ⟨A, cap, rfl⟩ := h.slice
  obtain ⟨B, cap', rfl⟩ := h'.slice
  have hll := len_cnt l
  have hlm : (l.length : Int) ≤ 2000000 := by omega
  by_cases hlen : m.length = l.length
  case neg =>
    have e1 : ((l.length : Int) != (m.length : Int)) = true := by rw [bne_iff_ne]; omega
    have e2 : ((l.length : Int) == (m.length : Int)) = false := by rw [beq_eq_false_iff_ne]; omega
    have HS := Lib.hid (WP.sameL_len (fun e => hlen e.symm))
    clear h h' HC hl hn hlen
    generalize l.length = a at *
    generalize m.length = b at *
    go_enter Tryz.func28, Tryz.ntmps28
    go_wp2
    go_ret
    exact ⟨ret_bool HS.out.symm, Below.refl _ _⟩
  case pos =>
  rw [hlen] at h'
  rw [hlen]
  have HG := Lib.hid h
  have HG' := Lib.hid h'
  have HCC := Lib.hid HC
  have HL := Lib.hid hl
  have HN := Lib.hid hn
  have HLEN := Lib.hid hlen
  have e1 : ((l.length : Int) != (l.length : Int)) = false := by simp
  obtain ⟨R, hR⟩ : ∃ R, WP.sameL l m = R := ⟨_, rfl⟩
  have HRR := Lib.hid hR
  rw [hR]
  clear h h' HC hl hn hlen hR
  go_enter Tryz.func28, Tryz.ntmps28
  go_wp2
  go_loopg [5] l.length (fun g i wr => ∃ k : Nat, k ≤ l.length ∧ g = l.length - k ∧ i = .int .i64 k ∧ Hid (Below w.heap.size w wr) ∧ Hid (WP.sameL (l.drop k) (m.drop k) = R))
  case atStart => exact ⟨0, Nat.zero_le _, rfl, rfl, Lib.hid (Below.refl _ _), Lib.hid HRR.out⟩
  case round =>
    obtain ⟨k, hk, rfl, rfl, HB, HS⟩ := hrel
    by_cases hlt : k < l.length
    · obtain ⟨p, hp, hd⟩ := get_of_lt hlt
      obtain ⟨p', hp', hd'⟩ := get_of_lt (show k < m.length by have := HLEN.out; omega)
      have HSD := Lib.hid ((same_drop hd hd').symm.trans HS.out)
      obtain ⟨b, off, A2, cap2, rfl, hb, g0, g1, g2, g3, g4, hg⟩ := (HG.out.kept HB.out).get hp
      obtain ⟨b', off', B2, cap3, rfl, hb', g0', g1', g2', g3', g4', hg'⟩ := (HG'.out.kept HB.out).get hp'
      have hbr : b < wr.heap.size := Nat.lt_of_lt_of_le hb HB.out.size
      have hbr' : b' < wr.heap.size := Nat.lt_of_lt_of_le hb' HB.out.size
      have HCL := Lib.hid (fun (V : World) (hV : Below wr.heap.size wr V) => HCC.out p.parts p'.parts _ _ V (by have := cnt_get hp; have := HL.out; omega) (by have := cnt_get hp; have := HN.out; omega) (hg.up hV) (hg'.up hV))
      have hlt2 : (k : Int) < (l.length : Int) := by omega
      clear hp hd hp' hd' hb hb' hg hg'
      have hps : (0 : Int) ≤ (p.parts.length : Int) := by omega
      have hps' : (0 : Int) ≤ (p'.parts.length : Int) := by omega
      obtain ⟨kd, t, o, c, ps⟩ := p
      obtain ⟨kd', t', o', c', ps'⟩ := p'
      dsimp only [WP.GP.kind, WP.GP.text, WP.GP.op, WP.GP.colon, WP.GP.parts] at g0 g1 g2 g3 g4 g0' g1' g2' g3' g4' HCL hps hps'
      have HSF := Lib.hid (fun (h : ¬ (kd = kd' ∧ t = t' ∧ o = o' ∧ c = c')) => show R = false from by rw [← HSD.out, WP.sameP, decide_eq_false h]; rfl)
      have HST := Lib.hid (fun (h : kd = kd' ∧ t = t' ∧ o = o' ∧ c = c') => show R = (WP.sameL ps ps' && WP.sameL (l.drop (k + 1)) (m.drop (k + 1))) from by rw [← HSD.out, WP.sameP, decide_eq_true h, Bool.true_and])
      generalize ps.length = pn at *
      generalize ps'.length = pn' at *
      clear HSD HS
      go_upto_region 6 with (fail)
      go_cut [6, 7] (fun x y wx => ∃ q r : Nat, x = .pointer (some ⟨q, 0, none⟩) ∧ y = .pointer (some ⟨r, 0, none⟩) ∧ Hid (Below wr.heap.size wr wx) ∧
        Hid (wx.heap[q]? = some (.cells #[.int .i64 kd, .string ⟨t.toArray⟩, .int .i64 o, .bool c, .slice A2 pn cap2] 38 (0, 0))) ∧ Hid (wx.heap[r]? = some (.cells #[.int .i64 kd', .string ⟨t'.toArray⟩, .int .i64 o', .bool c', .slice B2 pn' cap3] 38 (0, 0))))
      case first =>
        go_region
        all_goals (repeat go_step)
        all_goals go_meet
        all_goals first
          | exact ⟨_, _, rfl, rfl, Lib.hid (btr (balloc _ _) (balloc _ _)).drew, Lib.hid (((balloc _ _).block _ (by simp)).trans (al_new wr _)), Lib.hid (al_new' _ _ _ (by simp))⟩
          | exact ⟨_, _, rfl, rfl, Lib.hid (btr (balloc _ _) (balloc _ _)).drew, Lib.hid (al_new' _ _ _ (by simp)), Lib.hid (((balloc _ _).block _ (by simp)).trans (al_new wr _))⟩
      case rest =>
        obtain ⟨q, r, rfl, rfl, HBX, HQ, HR⟩ := hcut
        obtain ⟨y0, y1, y2, y3, y4, -, -, -, -, -⟩ := blkR HQ.out
        obtain ⟨z0, z1, z2, z3, z4, -, -, -, -, -⟩ := blkR HR.out
        have HCX := Lib.hid (HCL.out wc HBX.out)
        have HBN := Lib.hid (HB.out.trans (HBX.out.mono HB.out.size))
        clear g0 g1 g2 g3 g4 g0' g1' g2' g3' g4'
        by_cases h1 : kd = kd'
        case neg =>
          have f1 : (kd != kd') = true := by rw [bne_iff_ne]; exact h1
          have f2 : (kd == kd') = false := by rw [beq_eq_false_iff_ne]; exact h1
          have HF := Lib.hid (HSF.out (fun e => h1 e.1))
          clear h1
          go_wp2
          go_ret
          exact ⟨ret_bool HF.out.symm, HBN.out⟩
        case pos =>
        have f1 : (kd != kd') = false := by rw [h1]; simp
        have f1' : (kd == kd') = true := by rw [h1]; simp
        by_cases h2 : t = t'
        case neg =>
          have f2 : (t != t') = true := by rw [bne_iff_ne]; exact h2
          have f3 : (t == t') = false := by rw [beq_eq_false_iff_ne]; exact h2
          have HF := Lib.hid (HSF.out (fun e => h2 e.2.1))
          clear h1 h2
          go_wp2
          go_ret
          exact ⟨ret_bool HF.out.symm, HBN.out⟩
        case pos =>
        have f2 : (t != t') = false := by rw [h2]; simp
        have f2' : (t == t') = true := by rw [h2]; simp
        by_cases h3 : o = o'
        case neg =>
          have f3 : (o != o') = true := by rw [bne_iff_ne]; exact h3
          have f4 : (o == o') = false := by rw [beq_eq_false_iff_ne]; exact h3
          have HF := Lib.hid (HSF.out (fun e => h3 e.2.2.1))
          clear h1 h2 h3
          go_wp2
          go_ret
          exact ⟨ret_bool HF.out.symm, HBN.out⟩
        case pos =>
        have f3 : (o != o') = false := by rw [h3]; simp
        have f3' : (o == o') = true := by rw [h3]; simp
        by_cases h4 : c = c'
        case neg =>
          have f4 : (c != c') = true := by rw [bne_iff_ne]; exact h4
          have f5 : (c == c') = false := by rw [beq_eq_false_iff_ne]; exact h4
          have HF := Lib.hid (HSF.out (fun e => h4 e.2.2.2))
          clear h1 h2 h3 h4
          go_wp2
          go_ret
          exact ⟨ret_bool HF.out.symm, HBN.out⟩
        case pos =>
        have f4 : (c != c') = false := by rw [h4]; simp
        have f4' : (c == c') = true := by rw [h4]; simp
        replace HST := Lib.hid (HST.out ⟨h1, h2, h3, h4⟩)
        clear h1 h2 h3 h4
        generalize WP.sameL ps ps' = sr at *
        go_wp2_with fail
        refine HCX.out.mono ?_
        rintro e Y ⟨rfl, hby⟩
        have HBY := Lib.hid (HBN.out.trans (hby.mono HBN.out.size))
        clear hby
        cases hs : sr with
        | false =>
          have HF := Lib.hid (show R = false by rw [HST.out, hs]; rfl)
          clear hs
          go_wp2
          go_ret
          exact ⟨ret_bool HF.out.symm, HBY.out⟩
        | true =>
          have HT := Lib.hid (show WP.sameL (l.drop (k + 1)) (m.drop (k + 1)) = R by rw [HST.out, hs]; rfl)
          clear hs
          go_wp2
          go_roundg (l.length - (k + 1))
          case measure => omega
          case rel => exact ⟨k + 1, hlt, rfl, by go_num, HBY, HT⟩
    · have hlt2 : ¬ (k : Int) < (l.length : Int) := by omega
      have HT := Lib.hid (show R = true by
        rw [← HS.out, List.drop_eq_nil_of_le (by omega), List.drop_eq_nil_of_le (by have := HLEN.out; omega), WP.sameL])
      go_wp2
      go_ret
      exact ⟨ret_bool HT.out.symm, HB.out⟩
theorem sameRC_all : ∀ n, SameRC n
  | 0 => fun _ _ _ _ _ h => absurd h (Nat.not_lt_zero _)
  | n + 1 => sameR_step (sameRC_all n)
theorem SameRef_any (l m : List GP) (v u : Value) (w : World) (hn : WP.cntL l ≤ 2000000) (h : GS w (fun b => b < w.heap.size) v l) (h' : GS w (fun b => b < w.heap.size) u m) :
    Calls Tryz.prog 28 #[v, u] w fun e w' => e = .returned (.bool (WP.sameL l m)) ∧ Below w.heap.size w w' := sameRC_all _ l m v u w (Nat.lt_succ_self _) hn h h'
end W
end Go.Proofs.YtmgomklpjjkehaaGreat
namespace Go.Proofs.YtmgomklpjjkehaaGreat
open Go.RowKit K
open WP (GP gp gpL)
namespace W
set_option maxRecDepth 100000
theorem str_addS (a b c : List UInt8) (h : a ++ b = c) (ha : a.length ≤ 8000000) (hb : b.length ≤ 8000000) : ∀ U, (Op.stringOp .add ⟨a.toArray⟩ ⟨b.toArray⟩).run Tryz.prog U = .ok (.string ⟨c.toArray⟩) U := fun U => by
  rw [← h]
  exact run_string_add_lists U a b (by omega) (by omega)
theorem rs_sign (o : Int) (w : World) : Calls Tryz.prog 42 #[.int .i64 o] w fun e w' => e = .returned (.string ⟨(RS.sgn o).toArray⟩) ∧ w = w' := by
  by_cases h1 : o = 1
  · subst h1; go_enter Tryz.func42, Tryz.ntmps42; go_wp2; go_ret; exact ⟨rfl, rfl⟩
  by_cases h2 : o = 2
  · subst h2; go_enter Tryz.func42, Tryz.ntmps42; go_wp2; go_ret; exact ⟨rfl, rfl⟩
  by_cases h3 : o = 3
  · subst h3; go_enter Tryz.func42, Tryz.ntmps42; go_wp2; go_ret; exact ⟨rfl, rfl⟩
  by_cases h4 : o = 4
  · subst h4; go_enter Tryz.func42, Tryz.ntmps42; go_wp2; go_ret; exact ⟨rfl, rfl⟩
  by_cases h6 : o = 6
  · subst h6; go_enter Tryz.func42, Tryz.ntmps42; go_wp2; go_ret; exact ⟨rfl, rfl⟩
  by_cases h7 : o = 7
  · subst h7; go_enter Tryz.func42, Tryz.ntmps42; go_wp2; go_ret; exact ⟨rfl, rfl⟩
  by_cases h8 : o = 8
  · subst h8; go_enter Tryz.func42, Tryz.ntmps42; go_wp2; go_ret; exact ⟨rfl, rfl⟩
  by_cases h9 : o = 9
  · subst h9; go_enter Tryz.func42, Tryz.ntmps42; go_wp2; go_ret; exact ⟨rfl, rfl⟩
  have HS := Lib.hid (show RS.sgn o = [] by
    unfold RS.sgn WP.symbol
    rw [if_neg h1, if_neg h2, if_neg h3, if_neg h4, if_neg h6, if_neg h7, if_neg h8, if_neg h9])
  have e1 := beq_f h1
  have e2 := beq_f h2
  have e3 := beq_f h3
  have e4 := beq_f h4
  have e6 := beq_f h6
  have e7 := beq_f h7
  have e8 := beq_f h8
  have e9 := beq_f h9
  clear h1 h2 h3 h4 h6 h7 h8 h9
  go_enter Tryz.func42, Tryz.ntmps42
  go_wp2
  go_ret
  exact ⟨ret_str HS.out.symm, rfl⟩
set_option maxHeartbeats 1000000 in
theorem rs_escaped (t : List UInt8) (p : Int) (pl : Nat) (op : Bool) (hp : RP.PlC p pl op) (h0 : ¬ pl = 0) (w : World) (hl : t.length ≤ 100000) :
    Calls Tryz.prog 30 #[.string ⟨t.toArray⟩, .int .i64 p] w fun e w' => e = .returned (.string ⟨(WP.escT pl op t).toArray⟩) ∧ w = w' := by
  have HE := Lib.hid (fun c v => rw_escapes c p pl op hp h0 v)
  have HLN := Lib.hid (WP.escT_len pl op t)
  clear hp h0
  obtain ⟨R, hR⟩ : ∃ R, WP.escT pl op t = R := ⟨_, rfl⟩
  have HR := Lib.hid hR
  rw [hR] at HLN ⊢
  clear hR
  go_enter Tryz.func30, Tryz.ntmps30
  go_wp2
  go_loopg [5, 6] t.length (fun g x i wr => ∃ (k : Nat) (acc : List UInt8), k ≤ t.length ∧ g = t.length - k ∧ x = .string ⟨acc.toArray⟩ ∧ i = .int .i64 k ∧ wr = w ∧ Hid (acc ++ WP.escT pl op (t.drop k) = R) ∧ acc.length ≤ 2 * k)
  case atStart => exact ⟨0, [], Nat.zero_le _, rfl, rfl, rfl, rfl, Lib.hid HR.out, Nat.le_refl _⟩
  case round =>
    obtain ⟨k, acc, hk, rfl, rfl, rfl, rfl, HA, hal⟩ := hrel
    by_cases hlt : k < t.length
    · have q1 : ((k : Int) < (t.length : Int)) = True := eq_true (by omega)
      have q2 : ((k : Int) + 1 ≤ (t.length : Int)) = True := eq_true (by omega)
      have q3 : ((k : Int) ≤ (k : Int) + 1) = True := eq_true (by omega)
      obtain ⟨x, hx, hb, _⟩ := drop_cons t k hlt
      have hA := HA.out
      rw [hx, WP.escT] at hA
      have hc := cut_one t k hlt
      rw [hb, by8_of] at hc
      have HEE := Lib.hid (fun v => HE.out (bt t k) v)
      rw [hb] at HEE
      have hb2 : bt t k = (x.toNat : Int) := hb
      cases he : WP.escapes pl (x.toNat : Int) op with
      | true =>
        rw [he] at HEE
        rw [he, if_pos rfl] at hA
        obtain ⟨s1, h1⟩ : ∃ s1, acc ++ [92] = s1 := ⟨_, rfl⟩
        obtain ⟨s2, h2⟩ : ∃ s2, s1 ++ cut t k (k + 1) = s2 := ⟨_, rfl⟩
        have a1 := str_addS acc [92] s1 h1 (by omega) (by simp)
        have l1 : s1.length = acc.length + 1 := by rw [← h1]; simp
        have a2 := str_addS s1 (cut t k (k + 1)) s2 h2 (by omega) (by rw [hc]; simp)
        have l2 : s2.length = acc.length + 2 := by rw [← h2, hc]; simp; omega
        have HA2 := Lib.hid (show s2 ++ WP.escT pl op (t.drop (k + 1)) = R by rw [← hA, ← h2, ← h1, hc]; simp)
        clear hA hx hb h1 h2 he hc
        go_wp2_with (go_at_call 41; refine (HEE.out _).mono ?_; rintro e w' ⟨rfl, rfl⟩)
        go_roundg (t.length - (k + 1))
        case measure => omega
        case rel => exact ⟨k + 1, s2, hlt, rfl, rfl, by go_num, rfl, HA2, by omega⟩
      | false =>
        rw [he] at HEE
        rw [he, if_neg (by simp)] at hA
        obtain ⟨s2, h2⟩ : ∃ s2, acc ++ cut t k (k + 1) = s2 := ⟨_, rfl⟩
        have a2 := str_addS acc (cut t k (k + 1)) s2 h2 (by omega) (by rw [hc]; simp)
        have l2 : s2.length = acc.length + 1 := by rw [← h2, hc]; simp
        have HA2 := Lib.hid (show s2 ++ WP.escT pl op (t.drop (k + 1)) = R by rw [← hA, ← h2, hc]; simp)
        clear hA hx hb h2 he hc
        go_wp2_with (go_at_call 41; refine (HEE.out _).mono ?_; rintro e w' ⟨rfl, rfl⟩)
        go_roundg (t.length - (k + 1))
        case measure => omega
        case rel => exact ⟨k + 1, s2, hlt, rfl, rfl, by go_num, rfl, HA2, by omega⟩
    · have q1 : ((k : Int) < (t.length : Int)) = False := eq_false (by omega)
      have HF := Lib.hid (show R = acc by rw [← HA.out, List.drop_eq_nil_of_le (by omega), WP.escT, List.append_nil])
      go_wp2
      go_ret
      exact ⟨ret_str HF.out.symm, rfl⟩
end W
end Go.Proofs.YtmgomklpjjkehaaGreat
namespace Go.Proofs.YtmgomklpjjkehaaGreat
open Go.RowKit K
open WP (GP gp gpL)
namespace W
set_option maxRecDepth 100000
set_option maxHeartbeats 8000000 in
theorem rs_param (p : Int) (pl : Nat) (op : Bool) (hp : RP.PlC p pl op) (kd : Int) (t : List UInt8) (o : Int) (c : Bool) (ps : List GP) (A2 : Option Addr) (pn cap2 : Nat) (nx : List GP) (NA : Option Addr) (nn nc : Nat) (w : World)
    (hz : 2 * (t.length + WP.sizL ps) + 8 * (1 + WP.cntL ps) ≤ 100000) (hnx : GS w (fun b => b < w.heap.size) (.slice NA nn nc) nx)
    (hS : ∀ V, Below w.heap.size w V → Calls Tryz.prog 19 #[.slice A2 pn cap2, .int .i64 (RP.inner pl)] V fun e w' => e = .returned (.string ⟨(RS.shL pl true ps).toArray⟩) ∧ Below V.heap.size V w') :
    Calls Tryz.prog 31 #[.agg #[.int .i64 kd, .string ⟨t.toArray⟩, .int .i64 o, .bool c, .slice A2 pn cap2], .int .i64 p, .slice NA nn nc] w fun e w' => e = .returned (.string ⟨(RS.shP pl op (WP.nextB nx) (.mk 4 t o c ps)).toArray⟩) ∧ Below w.heap.size w w' := by
  have hpl := RS.shP_len pl op (WP.nextB nx) (.mk 4 t o c ps)
  rw [WP.sizP, WP.cntP] at hpl
  have hsl := RS.shL_len pl true ps
  have hgl := RS.sgn_len o
  have HWI := Lib.hid (fun v => rw_within p pl op hp v)
  have HSG := Lib.hid (fun v => rs_sign o v)
  have HSH := Lib.hid hS
  have hpn : (0 : Int) ≤ (pn : Int) := by omega
  obtain ⟨R, hR⟩ : ∃ R, RS.shP pl op (WP.nextB nx) (.mk 4 t o c ps) = R := ⟨_, rfl⟩
  have HU := Lib.hid (show R = (if o = 5 then 36 :: 123 :: 35 :: (t ++ [125])
      else if o = 0 then (if RS.brR t (WP.nextB nx) = true then 36 :: 123 :: (t ++ [125]) else 36 :: t)
      else if c = true then 36 :: 123 :: (t ++ (58 :: (RS.sgn o ++ (RS.shL pl true ps ++ [125]))))
      else 36 :: 123 :: (t ++ (RS.sgn o ++ (RS.shL pl true ps ++ [125])))) from by rw [← hR, RS.shP]; rfl)
  rw [hR] at hpl
  rw [hR]
  obtain ⟨w0, hw0⟩ : ∃ w0, w0 = w.alloc (.cells #[.int .i64 kd, .string ⟨t.toArray⟩, .int .i64 o, .bool c, .slice A2 pn cap2] 38) := ⟨_, rfl⟩
  have HW0 := Lib.hid hw0
  have HB0 := Lib.hid (show Below w.heap.size w w0 by rw [hw0]; exact balloc _ _)
  have HX0 := Lib.hid (show w0.heap[w.heap.size]? = some (.cells #[.int .i64 kd, .string ⟨t.toArray⟩, .int .i64 o, .bool c, .slice A2 pn cap2] 38 (0, 0)) by rw [hw0]; exact al_new w _)
  have hlt : w.heap.size < w0.heap.size := (Array.getElem?_eq_some_iff.1 HX0.out).1
  have HNX := Lib.hid (hnx.below HB0.out)
  clear hR hS hw0 hnx hp
  generalize RS.shL pl true ps = sh at *
  generalize RS.sgn o = sg at *
  by_cases h5 : o = 5
  case pos =>
    have hU := HU.out.trans (if_pos h5)
    have e5 : (o == 5) = true := by rw [beq_iff_eq]; exact h5
    obtain ⟨s1, h1⟩ : ∃ s1, [36, 123, 35] ++ t = s1 := ⟨_, rfl⟩
    have a1 := str_addS [36, 123, 35] t s1 h1 (by simp) (by omega)
    have l1 : s1.length = t.length + 3 := by rw [← h1]; simp
    have a2 := str_addS s1 [125] R (by rw [hU, ← h1]; rfl) (by omega) (by simp)
    obtain ⟨c0, c1, c2, c3, c4, -, -, -, -, -⟩ := blkR HX0.out
    clear hU h1 h5 hz HU hpl hsl hgl
    go_enter Tryz.func31, Tryz.ntmps31
    go_upto_region 1 with (fail)
    rw [← HW0.out]
    go_wp2
    go_ret
    exact ⟨rfl, HB0.out⟩
  case neg =>
  replace HU := Lib.hid (HU.out.trans (if_neg h5))
  have e5 := beq_f h5
  by_cases h0 : o = 0
  case neg =>
    replace HU := Lib.hid (HU.out.trans (if_neg h0))
    have e0 := beq_f h0
    have e0' : (o != 0) = true := by rw [bne_iff_ne]; exact h0
    have HS := Lib.hid (fun V (hV : Below w0.heap.size w0 V) => show (V.cell? ⟨w.heap.size, 1, none⟩ = some (.string ⟨t.toArray⟩) ∧ V.cell? ⟨w.heap.size, 2, none⟩ = some (.int .i64 o) ∧ V.cell? ⟨w.heap.size, 4, none⟩ = some (.slice A2 pn cap2)) ∧ Below w0.heap.size w0 V from by
      obtain ⟨c0, c1, c2, c3, c4, -, -, -, -, -⟩ := blkR ((hV.block _ hlt).trans HX0.out)
      exact ⟨⟨c1, c2, c4⟩, hV⟩)
    obtain ⟨c0, c1, c2, c3, c4, -, -, -, -, -⟩ := blkR HX0.out
    obtain ⟨s1, h1⟩ : ∃ s1, [36, 123] ++ t = s1 := ⟨_, rfl⟩
    have a1 := str_addS [36, 123] t s1 h1 (by simp) (by omega)
    have l1 : s1.length = t.length + 2 := by rw [← h1]; simp
    cases c with
    | true =>
      have hU := HU.out.trans (if_pos rfl)
      obtain ⟨s2, h2⟩ : ∃ s2, s1 ++ [58] = s2 := ⟨_, rfl⟩
      have a2 := str_addS s1 [58] s2 h2 (by omega) (by simp)
      have l2 : s2.length = t.length + 3 := by rw [← h2, List.length_append, l1]; rfl
      obtain ⟨s3, h3⟩ : ∃ s3, s2 ++ sg = s3 := ⟨_, rfl⟩
      have a3 := str_addS s2 sg s3 h3 (by omega) (by omega)
      have l3 : s3.length = t.length + 3 + sg.length := by rw [← h3, List.length_append, l2]
      obtain ⟨s4, h4⟩ : ∃ s4, s3 ++ sh = s4 := ⟨_, rfl⟩
      have a4 := str_addS s3 sh s4 h4 (by omega) (by omega)
      have l4 : s4.length = t.length + 3 + sg.length + sh.length := by rw [← h4, List.length_append, l3]
      have a5 := str_addS s4 [125] R (by rw [hU, ← h4, ← h3, ← h2, ← h1]; simp) (by omega) (by simp)
      clear hU h1 h2 h3 h4 h5 h0 hz HU hpl hsl hgl
      go_enter Tryz.func31, Tryz.ntmps31
      go_upto_region 1 with (fail)
      rw [← HW0.out]
      go_wp2_with fail
      go_region_held_law (fun V => (V.cell? ⟨w.heap.size, 1, none⟩ = some (.string ⟨t.toArray⟩) ∧ V.cell? ⟨w.heap.size, 2, none⟩ = some (.int .i64 o) ∧ V.cell? ⟨w.heap.size, 4, none⟩ = some (.slice A2 pn cap2)) ∧ Below w0.heap.size w0 V)
        (first | with_reducible exact HS.out _ (Below.refl _ _).drew | with_reducible exact HS.out _ hb2 | (exact ‹_›))
        (first
          | (go_at_call 42; refine (HSG.out _).mono ?_; rintro e V1 ⟨rfl, rfl⟩)
          | (go_at_call 43; refine (HWI.out _).mono ?_; rintro e V1 ⟨rfl, rfl⟩)
          | (go_at_call 19; refine (HSH.out _ (btr HB0.out (Below.refl _ _).drew)).mono ?_; rintro e V1 ⟨rfl, hb⟩; have hb2 : Below w0.heap.size w0 V1 := (Below.refl _ _).drew.trans hb))
      have HB2 := Lib.hid (btr HB0.out hb2)
      clear hb hb2
      go_wp2
      go_ret
      exact ⟨rfl, HB2.out⟩
    | false =>
      have hU := HU.out.trans (if_neg (by simp))
      obtain ⟨s3, h3⟩ : ∃ s3, s1 ++ sg = s3 := ⟨_, rfl⟩
      have a3 := str_addS s1 sg s3 h3 (by omega) (by omega)
      have l3 : s3.length = t.length + 2 + sg.length := by rw [← h3, List.length_append, l1]
      obtain ⟨s4, h4⟩ : ∃ s4, s3 ++ sh = s4 := ⟨_, rfl⟩
      have a4 := str_addS s3 sh s4 h4 (by omega) (by omega)
      have l4 : s4.length = t.length + 2 + sg.length + sh.length := by rw [← h4, List.length_append, l3]
      have a5 := str_addS s4 [125] R (by rw [hU, ← h4, ← h3, ← h1]; simp) (by omega) (by simp)
      clear hU h1 h3 h4 h5 h0 hz HU hpl hsl hgl
      go_enter Tryz.func31, Tryz.ntmps31
      go_upto_region 1 with (fail)
      rw [← HW0.out]
      go_wp2_with fail
      go_region_held_law (fun V => (V.cell? ⟨w.heap.size, 1, none⟩ = some (.string ⟨t.toArray⟩) ∧ V.cell? ⟨w.heap.size, 2, none⟩ = some (.int .i64 o) ∧ V.cell? ⟨w.heap.size, 4, none⟩ = some (.slice A2 pn cap2)) ∧ Below w0.heap.size w0 V)
        (first | with_reducible exact HS.out _ (Below.refl _ _).drew | with_reducible exact HS.out _ hb2 | (exact ‹_›))
        (first
          | (go_at_call 42; refine (HSG.out _).mono ?_; rintro e V1 ⟨rfl, rfl⟩)
          | (go_at_call 43; refine (HWI.out _).mono ?_; rintro e V1 ⟨rfl, rfl⟩)
          | (go_at_call 19; refine (HSH.out _ (btr HB0.out (Below.refl _ _).drew)).mono ?_; rintro e V1 ⟨rfl, hb⟩; have hb2 : Below w0.heap.size w0 V1 := (Below.refl _ _).drew.trans hb))
      have HB2 := Lib.hid (btr HB0.out hb2)
      clear hb hb2
      go_wp2
      go_ret
      exact ⟨rfl, HB2.out⟩
  case pos =>
    replace HU := Lib.hid (HU.out.trans (if_pos h0))
    have e0 : (o != 0) = false := by rw [h0]; rfl
    have e0' : (o == 0) = true := by rw [h0]; rfl
    have HDG := Lib.hid (fun v => Digit_any (bt t 0) v)
    have HWD := Lib.hid (fun c v => Word_any c v)
    obtain ⟨c0, c1, c2, c3, c4, -, -, -, -, -⟩ := blkR HX0.out
    obtain ⟨s1, h1⟩ : ∃ s1, [36, 123] ++ t = s1 := ⟨_, rfl⟩
    have a1 := str_addS [36, 123] t s1 h1 (by simp) (by omega)
    have l1 : s1.length = t.length + 2 := by rw [← h1]; simp
    obtain ⟨s2, h2⟩ : ∃ s2, s1 ++ [125] = s2 := ⟨_, rfl⟩
    have a2 := str_addS s1 [125] s2 h2 (by omega) (by simp)
    obtain ⟨s3, h3⟩ : ∃ s3, [36] ++ t = s3 := ⟨_, rfl⟩
    have a3 := str_addS [36] t s3 h3 (by simp) (by omega)
    have HYES := Lib.hid (show RS.brR t (WP.nextB nx) = true → R = s2 from fun h => by rw [HU.out, if_pos h, ← h2, ← h1]; rfl)
    have HNO := Lib.hid (show RS.brR t (WP.nextB nx) = false → R = s3 from fun h => by rw [HU.out, if_neg (by rw [h]; simp), ← h3]; rfl)
    obtain ⟨fl, hfl⟩ : ∃ fl, P.wd (WP.nextB nx) = fl := ⟨_, rfl⟩
    obtain ⟨d0, hd0⟩ : ∃ d0, P.dg (bt t 0) = d0 := ⟨_, rfl⟩
    obtain ⟨wd0, hwd0⟩ : ∃ wd0, P.wd (bt t 0) = wd0 := ⟨_, rfl⟩
    have HBR := Lib.hid (show RS.brR t (WP.nextB nx) = ((decide (1 < t.length) && d0) || (fl && decide (t ≠ []) && wd0 && !d0)) from by rw [← hfl, ← hd0, ← hwd0]; rfl)
    have HFL := Lib.hid hfl
    rw [hd0] at HDG
    have HW0D := Lib.hid (fun v => HWD.out (bt t 0) v)
    rw [hwd0] at HW0D
    clear h1 h2 h3 h5 h0 hz HU hpl hsl hgl hfl hd0 hwd0
    go_enter Tryz.func31, Tryz.ntmps31
    go_upto_region 1 with (fail)
    rw [← HW0.out]
    go_upto_region 7 with (fail)
    go_cut [57] (fun x wx => x = .bool (decide (1 < t.length) && d0) ∧ wx = w0)
    case first =>
      by_cases h1 : 1 < t.length
      · have q1 : ((1 : Int) < (t.length : Int)) = True := eq_true (by omega)
        have q2 : (1 < t.length) = True := eq_true h1
        have q3 : ((0 : Int) < (t.length : Int)) = True := eq_true (by omega)
        have q4 : (0 < t.length) = True := eq_true (by omega)
        have HD := Lib.hid (show (decide (1 < t.length) && d0) = d0 by rw [decide_eq_true h1, Bool.true_and])
        clear h1
        go_wp2_with (go_at_call 44; refine (HDG.out _).mono ?_; rintro e w' ⟨rfl, rfl⟩)
        go_meet
        exact ⟨by rw [HD.out], rfl⟩
      · have q1 : ((1 : Int) < (t.length : Int)) = False := eq_false (by omega)
        have q2 : (1 < t.length) = False := eq_false h1
        have HD := Lib.hid (show (decide (1 < t.length) && d0) = false by rw [decide_eq_false h1, Bool.false_and])
        clear h1
        go_wp2_with fail
        go_meet
        exact ⟨by rw [HD.out], rfl⟩
    case rest =>
    obtain ⟨rfl, hwc⟩ := hcut
    obtain rfl : w0 = wc := hwc.symm
    cases hd1 : (decide (1 < t.length) && d0) with
    | true =>
      have HR := Lib.hid (HYES.out (by rw [HBR.out, hd1, Bool.true_or]))
      clear hd1
      go_wp2
      go_ret
      exact ⟨ret_str HR.out.symm, HB0.out⟩
    | false =>
    replace HBR := Lib.hid (show RS.brR t (WP.nextB nx) = (fl && decide (t ≠ []) && wd0 && !d0) from by rw [HBR.out, hd1, Bool.false_or])
    clear hd1
    go_upto_region 9 with (fail)
    go_cut [7] (fun x wx => x = .bool fl ∧ wx = w0)
    case first =>
      by_cases hn : nx = []
      · have hnn : nn = 0 := by
          obtain ⟨A', cap', h1, -⟩ := HNX.out
          injection h1 with _ h1 _
          rw [h1, hn]; rfl
        have q1 : (0 < nn) = False := eq_false (by omega)
        have HF := Lib.hid (show false = fl by rw [← HFL.out, hn]; rfl)
        clear hn hnn
        go_wp2_with fail
        go_meet
        exact ⟨by rw [← HF.out], rfl⟩
      · obtain ⟨q, r, hqr⟩ : ∃ q r, nx = q :: r := by
          match nx, hn with
          | q :: r, _ => exact ⟨q, r, rfl⟩
        obtain ⟨b, off, A3, cap3, hNA, hb, g0, g1, -, -, -, -⟩ := HNX.out.get (i := 0) (p := q) (by rw [hqr]; rfl)
        subst hNA
        rw [Nat.zero_mul, Nat.add_zero] at g0 g1
        have hnn : 0 < nn := by
          obtain ⟨A', cap', h1, -⟩ := HNX.out
          injection h1 with _ h1 _
          rw [h1, hqr]; simp
        have q1 : (0 < nn) = True := eq_true hnn
        have q2 : ((0 : Int) < (nn : Int)) = True := eq_true (by omega)
        have hbl : b < w0.heap.size := by have := HB0.out.size; omega
        obtain ⟨qk, qt, qo, qc, qs⟩ := q
        dsimp only [WP.GP.kind, WP.GP.text] at g0 g1
        clear hn hnn hb
        by_cases hk1 : qk = 1
        · have e1 : (qk == 1) = true := by rw [beq_iff_eq]; exact hk1
          by_cases hqt : qt = []
          · have HF := Lib.hid (show false = fl by rw [← HFL.out, hqr, hqt]; rfl)
            subst hqt
            clear hqr hk1
            go_wp2_with fail
            go_meet
            exact ⟨by rw [← HF.out], rfl⟩
          · obtain ⟨x, tl, hxt⟩ : ∃ x tl, qt = x :: tl := by
              match qt, hqt with
              | x :: tl, _ => exact ⟨x, tl, rfl⟩
            have e2 : (qt != []) = true := by rw [bne_iff_ne]; exact hqt
            have e3 : (qt == []) = false := by rw [beq_eq_false_iff_ne]; exact hqt
            have q5 : ((0 : Int) < (qt.length : Int)) = True := eq_true (by rw [hxt]; simp)
            have q6 : (0 < qt.length) = True := eq_true (by rw [hxt]; simp)
            have HF := Lib.hid (show P.wd (bt qt 0) = fl by
              rw [← HFL.out, hqr, hxt, hk1]; rfl)
            have HWQ := Lib.hid (fun v => HWD.out (bt qt 0) v)
            rw [HF.out] at HWQ
            clear hqr hk1 hqt hxt HF
            go_wp2_with (go_at_call 45; refine (HWQ.out _).mono ?_; rintro e w' ⟨rfl, rfl⟩)
            go_meet
            exact ⟨rfl, rfl⟩
        · have e1 := beq_f hk1
          have HF := Lib.hid (show false = fl by
            rw [← HFL.out, hqr]
            cases qt with
            | nil => rfl
            | cons x tl =>
              show false = P.wd (if qk = 1 then (x.toNat : Int) else 0)
              rw [if_neg hk1]; rfl)
          clear hqr hk1
          go_wp2_with fail
          go_meet
          exact ⟨by rw [← HF.out], rfl⟩
    case rest =>
    obtain ⟨rfl, hwc⟩ := hcut
    obtain rfl : w0 = wc := hwc.symm
    cases fl with
    | false =>
      have HR := Lib.hid (HNO.out (by rw [HBR.out]; rfl))
      go_wp2
      go_ret
      exact ⟨ret_str HR.out.symm, HB0.out⟩
    | true =>
      by_cases ht : t = []
      · have HR := Lib.hid (HNO.out (by rw [HBR.out, decide_eq_false (fun e => e ht)]; rfl))
        have e2 : (t != []) = false := by rw [ht]; rfl
        have e3 : (t == []) = true := by rw [ht]; rfl
        clear ht
        go_wp2
        go_ret
        exact ⟨ret_str HR.out.symm, HB0.out⟩
      · have e2 : (t != []) = true := by rw [bne_iff_ne]; exact ht
        have e3 : (t == []) = false := by rw [beq_eq_false_iff_ne]; exact ht
        have htl : 0 < t.length := List.length_pos_iff.2 ht
        have q5 : ((0 : Int) < (t.length : Int)) = True := eq_true (by omega)
        have q6 : (0 < t.length) = True := eq_true htl
        replace HBR := Lib.hid (show RS.brR t (WP.nextB nx) = (wd0 && !d0) from by rw [HBR.out, decide_eq_true ht]; rfl)
        clear ht htl
        cases wd0 with
        | false =>
          have HR := Lib.hid (HNO.out (by rw [HBR.out]; rfl))
          go_wp2_with (go_at_call 45; refine (HW0D.out _).mono ?_; rintro e w' ⟨rfl, rfl⟩)
          go_ret
          exact ⟨ret_str HR.out.symm, HB0.out⟩
        | true =>
          cases d0 with
          | true =>
            have HR := Lib.hid (HNO.out (by rw [HBR.out]; rfl))
            go_wp2_with (first | (go_at_call 45; refine (HW0D.out _).mono ?_; rintro e w' ⟨rfl, rfl⟩) | (go_at_call 44; refine (HDG.out _).mono ?_; rintro e w' ⟨rfl, rfl⟩))
            go_ret
            exact ⟨ret_str HR.out.symm, HB0.out⟩
          | false =>
            have HR := Lib.hid (HYES.out (by rw [HBR.out]; rfl))
            go_wp2_with (first | (go_at_call 45; refine (HW0D.out _).mono ?_; rintro e w' ⟨rfl, rfl⟩) | (go_at_call 44; refine (HDG.out _).mono ?_; rintro e w' ⟨rfl, rfl⟩))
            go_ret
            exact ⟨ret_str HR.out.symm, HB0.out⟩
end W
end Go.Proofs.YtmgomklpjjkehaaGreat
namespace Go.Proofs.YtmgomklpjjkehaaGreat
open Go.RowKit K
open WP (GP gp gpL)
namespace W
mutual
def HR (w : World) (F : Nat → Prop) : GP → List Value → Prop
  | .mk k t o c ps, vs => ∃ (A : Option Addr) (cap : Nat), vs = pc k t o c (.slice A ps.length cap) ∧ ps.length ≤ cap ∧ (ps = [] ∨ ∃ b off cells, A = some ⟨b, off, none⟩ ∧ F b ∧ HL w F ps cells ∧ ∀ j u, cells[j]? = some u → w.cell? ⟨b, off + j, none⟩ = some u)
def HL (w : World) (F : Nat → Prop) : List GP → List Value → Prop
  | [], vs => vs = []
  | p :: ps, vs => ∃ a b, vs = a ++ b ∧ HR w F p a ∧ HL w F ps b
end
/-- A slice of parts, with its room. -/
def HS (w : World) (F : Nat → Prop) (v : Value) (l : List GP) : Prop :=
  ∃ (A : Option Addr) (cap : Nat), v = .slice A l.length cap ∧ l.length ≤ cap ∧ (l = [] ∨ ∃ b off cells, A = some ⟨b, off, none⟩ ∧ F b ∧ HL w F l cells ∧ ∀ j u, cells[j]? = some u → w.cell? ⟨b, off + j, none⟩ = some u)
theorem HR.len {w : World} {F : Nat → Prop} {p : GP} {vs : List Value} (h : HR w F p vs) : vs.length = 5 := by
  obtain ⟨k, t, o, c, ps⟩ := p
  rw [HR] at h
  obtain ⟨A, cap, rfl, -⟩ := h
  rfl
theorem HL.len {w : World} {F : Nat → Prop} : ∀ {ps : List GP} {vs : List Value}, HL w F ps vs → vs.length = ps.length * 5
  | [], vs, h => by rw [HL] at h; subst h; rfl
  | p :: ps, vs, h => by
    rw [HL] at h
    obtain ⟨a, b, rfl, h1, h2⟩ := h
    rw [List.length_append, h1.len, HL.len h2, List.length_cons]
    omega
mutual
theorem HR.mono {w w' : World} {F F' : Nat → Prop} (hF : ∀ b, F b → b < w.heap.size → F' b ∧ w'.heap[b]? = w.heap[b]?) : ∀ (p : GP) (vs : List Value), HR w F p vs → HR w' F' p vs
  | .mk k t o c ps, vs, h => by
    rw [HR] at h ⊢
    obtain ⟨A, cap, h1, h0, h2⟩ := h
    refine ⟨A, cap, h1, h0, ?_⟩
    rcases h2 with h2 | ⟨b, off, cells, hA, hFb, hl, hc⟩
    · exact .inl h2
    · by_cases hps : ps = []
      · exact .inl hps
      have hlen := hl.len
      have hpos : 0 < cells.length := by rw [hlen]; have := List.length_pos_iff.2 hps; omega
      obtain ⟨u, hu⟩ : ∃ u, cells[0]? = some u := ⟨cells[0], by simp [hpos]⟩
      obtain ⟨h3, h4⟩ := hF b hFb (lt_cell (hc 0 u hu))
      refine .inr ⟨b, off, cells, hA, h3, HL.mono hF ps cells hl, fun j u hj => ?_⟩
      have := hc j u hj
      unfold World.cell? at this ⊢
      rw [h4]
      exact this
theorem HL.mono {w w' : World} {F F' : Nat → Prop} (hF : ∀ b, F b → b < w.heap.size → F' b ∧ w'.heap[b]? = w.heap[b]?) : ∀ (ps : List GP) (vs : List Value), HL w F ps vs → HL w' F' ps vs
  | [], vs, h => by rw [HL] at h ⊢; exact h
  | p :: ps, vs, h => by
    rw [HL] at h ⊢
    obtain ⟨a, b, h1, h2, h3⟩ := h
    exact ⟨a, b, h1, HR.mono hF p a h2, HL.mono hF ps b h3⟩
end
mutual
theorem HR.gr {w : World} {F : Nat → Prop} : ∀ (p : GP) (vs : List Value), HR w F p vs → GR w F p vs
  | .mk k t o c ps, vs, h => by
    rw [HR] at h
    rw [GR]
    obtain ⟨A, cap, h1, -, h2⟩ := h
    refine ⟨A, cap, h1, ?_⟩
    rcases h2 with h2 | ⟨b, off, cells, hA, hFb, hl, hc⟩
    · exact .inl h2
    · exact .inr ⟨b, off, cells, hA, hFb, HL.gl ps cells hl, hc⟩
theorem HL.gl {w : World} {F : Nat → Prop} : ∀ (ps : List GP) (vs : List Value), HL w F ps vs → GL w F ps vs
  | [], vs, h => by rw [HL] at h; rw [GL]; exact h
  | p :: ps, vs, h => by
    rw [HL] at h
    rw [GL]
    obtain ⟨a, b, h1, h2, h3⟩ := h
    exact ⟨a, b, h1, HR.gr p a h2, HL.gl ps b h3⟩
end
theorem HS.gs {w : World} {F : Nat → Prop} {v : Value} {l : List GP} (h : HS w F v l) : GS w F v l := by
  obtain ⟨A, cap, h1, -, h2⟩ := h
  refine ⟨A, cap, h1, ?_⟩
  rcases h2 with h2 | ⟨b, off, cells, hA, hFb, hl, hc⟩
  · exact .inl h2
  · exact .inr ⟨b, off, cells, hA, hFb, HL.gl l cells hl, hc⟩
theorem HS.mono {w w' : World} {F F' : Nat → Prop} (hF : ∀ b, F b → b < w.heap.size → F' b ∧ w'.heap[b]? = w.heap[b]?) {v : Value} {l : List GP} (h : HS w F v l) : HS w' F' v l := by
  obtain ⟨A, cap, h1, h0, h2⟩ := h
  refine ⟨A, cap, h1, h0, ?_⟩
  rcases h2 with h2 | ⟨b, off, cells, hA, hFb, hl, hc⟩
  · exact .inl h2
  · by_cases hps : l = []
    · exact .inl hps
    have hlen := hl.len
    have hpos : 0 < cells.length := by rw [hlen]; have := List.length_pos_iff.2 hps; omega
    obtain ⟨u, hu⟩ : ∃ u, cells[0]? = some u := ⟨cells[0], by simp [hpos]⟩
    obtain ⟨h3, h4⟩ := hF b hFb (lt_cell (hc 0 u hu))
    refine .inr ⟨b, off, cells, hA, h3, HL.mono hF l cells hl, fun j u hj => ?_⟩
    have := hc j u hj
    unfold World.cell? at this ⊢
    rw [h4]
    exact this
theorem HS.kept {w w' : World} {B : Nat} {v : Value} {l : List GP} (h : HS w (fun b => b < B) v l) (hb : Below B w w') : HS w' (fun b => b < B) v l := h.mono fun b h1 _ => ⟨h1, hb.block b h1⟩
theorem HS.up {w w' : World} {B : Nat} {v : Value} {l : List GP} (h : HS w (fun b => b < B) v l) (hb : Below w.heap.size w w') : HS w' (fun b => b < w'.heap.size) v l :=
  h.mono fun b _ h2 => ⟨Nat.lt_of_lt_of_le h2 hb.size, hb.block b h2⟩
theorem HS.slice {w : World} {F : Nat → Prop} {v : Value} {l : List GP} (h : HS w F v l) : ∃ A cap, v = .slice A l.length cap ∧ l.length ≤ cap := by
  obtain ⟨A, cap, h1, h2, _⟩ := h
  exact ⟨A, cap, h1, h2⟩
theorem HL.split {w : World} {F : Nat → Prop} : ∀ {l : List GP} {cells : List Value} {i : Nat}, HL w F l cells → i ≤ l.length → ∃ a b, cells = a ++ b ∧ a.length = i * 5 ∧ HL w F (l.drop i) b
  | l, cells, 0, h, _ => ⟨[], cells, rfl, rfl, h⟩
  | [], cells, i + 1, _, hi => by simp at hi
  | q :: r, cells, i + 1, h, hi => by
    rw [HL] at h
    obtain ⟨a, b, rfl, h1, h2⟩ := h
    obtain ⟨c, d, rfl, h3, h4⟩ := HL.split (i := i) h2 (by simpa using hi)
    refine ⟨a ++ c, d, by rw [List.append_assoc], ?_, h4⟩
    rw [List.length_append, h1.len, h3]
    omega
/-- What stands at an index of a slice of parts, and the slice behind it. -/
theorem HS.get {w : World} {F : Nat → Prop} {A : Option Addr} {n cap : Nat} {l : List GP} (h : HS w F (.slice A n cap) l) {i : Nat} {p : GP} (hp : l[i]? = some p) (hd : l.drop i = p :: l.drop (i + 1)) :
    ∃ b off A2 cap2, A = some ⟨b, off, none⟩ ∧ F b ∧ w.cell? ⟨b, off + i * 5, none⟩ = some (.int .i64 p.kind) ∧ w.cell? ⟨b, off + i * 5 + 1, none⟩ = some (.string ⟨p.text.toArray⟩) ∧ w.cell? ⟨b, off + i * 5 + 2, none⟩ = some (.int .i64 p.op) ∧ w.cell? ⟨b, off + i * 5 + 3, none⟩ = some (.bool p.colon) ∧
      w.cell? ⟨b, off + i * 5 + 4, none⟩ = some (.slice A2 p.parts.length cap2) ∧ HS w F (.slice A2 p.parts.length cap2) p.parts ∧ p.parts.length ≤ cap2 ∧
      HS w F (.slice (if cap = i + 1 then some ⟨b, off, none⟩ else some ⟨b, off + (i + 1) * 5, none⟩) (n - (i + 1)) (cap - (i + 1))) (l.drop (i + 1)) := by
  obtain ⟨A', cap', h1, h0, h2⟩ := h
  injection h1 with h1 h3 h4
  subst h1 h4
  have hil : i < l.length := (List.getElem?_eq_some_iff.1 hp).1
  rcases h2 with h2 | ⟨b, off, cells, hA, hFb, hl, hc⟩
  · rw [h2] at hp; simp at hp
  · obtain ⟨x, y, rfl, hx, hy⟩ := hl.split (i := i) (Nat.le_of_lt hil)
    rw [hd, HL] at hy
    obtain ⟨z, r, rfl, hz, hr⟩ := hy
    obtain ⟨k, t, o, c, ps⟩ := p
    have hzl := hz.len
    rw [HR] at hz
    obtain ⟨A2, cap2, rfl, h6, h7⟩ := hz
    have g : ∀ j u, (pc k t o c (.slice A2 ps.length cap2))[j]? = some u → w.cell? ⟨b, off + i * 5 + j, none⟩ = some u := fun j u hj => by
      have := hc (i * 5 + j) u (by rw [List.getElem?_append_right (by omega), hx, Nat.add_sub_cancel_left, List.getElem?_append_left (List.getElem?_eq_some_iff.1 hj).1]; exact hj)
      rwa [← Nat.add_assoc] at this
    refine ⟨b, off, A2, cap2, hA, hFb, g 0 _ rfl, g 1 _ rfl, g 2 _ rfl, g 3 _ rfl, g 4 _ rfl, ⟨A2, cap2, rfl, h6, h7⟩, h6, ⟨_, cap - (i + 1), by rw [List.length_drop, h3], by rw [List.length_drop]; omega, ?_⟩⟩
    by_cases hlast : l.drop (i + 1) = []
    · exact .inl hlast
    · have hne : ¬ cap = i + 1 := fun e => hlast (List.drop_eq_nil_of_le (by omega))
      rw [if_neg hne]
      refine .inr ⟨b, off + (i + 1) * 5, r, rfl, hFb, hr, fun j u hj => ?_⟩
      have := hc ((i + 1) * 5 + j) u (by
        rw [List.getElem?_append_right (by omega), hx, show (i + 1) * 5 + j - i * 5 = 5 + j by omega, List.getElem?_append_right (by omega), hzl, Nat.add_sub_cancel_left]
        exact hj)
      rwa [← Nat.add_assoc] at this
end W
end Go.Proofs.YtmgomklpjjkehaaGreat
namespace Go.Proofs.YtmgomklpjjkehaaGreat
open Go.RowKit K
open WP (GP gp gpL)
namespace W
set_option maxRecDepth 100000
/-- What show gives for lists of fewer than n parts. -/
def ShowC (n : Nat) : Prop := ∀ (l : List GP) (p : Int) (pl : Nat) (op : Bool) (v : Value) (w : World), WP.cntL l < n → 2 * WP.sizL l + 8 * WP.cntL l ≤ 100000 → RP.PlC p pl op → HS w (fun b => b < w.heap.size) v l →
  Calls Tryz.prog 19 #[v, .int .i64 p] w fun e w' => e = .returned (.string ⟨(RS.shL pl op l).toArray⟩) ∧ Below w.heap.size w w'
theorem siz_get2 : ∀ {l : List GP} {k : Nat} {p : GP}, l[k]? = some p → WP.sizP p ≤ WP.sizL l ∧ WP.cntP p ≤ WP.cntL l
  | [], k, p, h => by simp at h
  | q :: r, 0, p, h => by
    simp at h
    subst h
    rw [WP.sizL, WP.cntL]
    omega
  | q :: r, k + 1, p, h => by
    have := siz_get2 (l := r) (k := k) (by simpa using h)
    rw [WP.sizL, WP.cntL]
    omega
set_option maxHeartbeats 16000000 in
theorem show_step {n : Nat} (HC : ShowC n) : ShowC (n + 1) := by
  intro l p pl op v w hl hz hp h
  obtain ⟨A, cap, rfl, hcap⟩ := h.slice
  have HG := Lib.hid h
  have HCC := Lib.hid HC
  have HL := Lib.hid hl
  have HZ := Lib.hid hz
  have HPC := Lib.hid hp
  have HO := Lib.hid (fun v => rw_outside p pl op hp v)
  have HLEN := Lib.hid (RS.shL_len pl op l)
  have hlc := len_cnt l
  obtain ⟨R, hR⟩ : ∃ R, RS.shL pl op l = R := ⟨_, rfl⟩
  have HR := Lib.hid hR
  have hRl : R.length ≤ 100000 := by rw [← hR]; have := HLEN.out; omega
  obtain ⟨m, hm⟩ : ∃ m, m = l.length := ⟨_, rfl⟩
  have HM := Lib.hid hm
  have hm2 : m ≤ 100000 := by omega
  rw [hR]
  rw [← hm] at hcap ⊢
  clear h HC hl hz hp hR hlc hm
  go_enter Tryz.func19, Tryz.ntmps19
  go_wp2
  go_loopg [5, 6] m (fun g x i wr => ∃ (k : Nat) (acc : List UInt8), k ≤ m ∧ g = m - k ∧ x = .string ⟨acc.toArray⟩ ∧ i = .int .i64 k ∧ Hid (Below w.heap.size w wr) ∧ Hid (acc ++ RS.shL pl op (l.drop k) = R))
  case atStart => exact ⟨0, [], Nat.zero_le _, rfl, rfl, rfl, Lib.hid (Below.refl _ _), Lib.hid HR.out⟩
  case round =>
    obtain ⟨k, acc, hk, rfl, rfl, rfl, HB, HA⟩ := hrel
    have hal : acc.length ≤ 100000 := by have := congrArg List.length HA.out; rw [List.length_append] at this; omega
    by_cases hlt : k < m
    case neg =>
      have q1 : ((k : Int) < (m : Int)) = False := eq_false (by omega)
      have HF := Lib.hid (show R = acc by rw [← HA.out, List.drop_eq_nil_of_le (by have := HM.out; omega), RS.shL, List.append_nil])
      go_wp2
      go_ret
      exact ⟨ret_str HF.out.symm, HB.out⟩
    case pos =>
    have q1 : ((k : Int) < (m : Int)) = True := eq_true (by omega)
    obtain ⟨q, hq, hd⟩ := get_of_lt (show k < l.length by have := HM.out; omega)
    obtain ⟨b, off, A2, cap2, hA, hb, g0, g1, g2, g3, g4, hg, hg2, hgn⟩ := (HG.out.kept HB.out).get hq hd
    subst hA
    rw [← HM.out] at hgn
    have hbr : b < wr.heap.size := Nat.lt_of_lt_of_le hb HB.out.size
    have hA1 := HA.out
    rw [hd, RS.shL] at hA1
    obtain ⟨s2, c2⟩ := siz_get2 hq
    have hcg := cnt_get hq
    obtain ⟨kd, t, o, c, ps⟩ := q
    dsimp only [WP.GP.kind, WP.GP.text, WP.GP.op, WP.GP.colon, WP.GP.parts] at g0 g1 g2 g3 g4 hg hg2 hcg
    rw [WP.sizP] at s2
    rw [WP.cntP] at c2
    have htl : t.length ≤ 100000 := by have := HZ.out; omega
    obtain ⟨P, hP⟩ : ∃ P, RS.shP pl op (WP.nextB (l.drop (k + 1))) (.mk kd t o c ps) = P := ⟨_, rfl⟩
    have hPl : acc.length + P.length ≤ 100000 := by
      have := congrArg List.length hA1
      rw [hP, List.length_append, List.length_append] at this
      omega
    rw [hP] at hA1
    have HP := Lib.hid hP
    obtain ⟨w1, hw1⟩ : ∃ w1, w1 = wr.alloc (.cells #[.int .i64 kd, .string ⟨t.toArray⟩, .int .i64 o, .bool c, .slice A2 ps.length cap2] 38) := ⟨_, rfl⟩
    have HW1 := Lib.hid hw1
    have hb1 : Below wr.heap.size wr w1 := by rw [hw1]; exact balloc _ _
    have HB1 := Lib.hid (show Below w.heap.size w w1 from HB.out.trans (hb1.mono HB.out.size))
    have HX1 := Lib.hid (show w1.heap[wr.heap.size]? = some (.cells #[.int .i64 kd, .string ⟨t.toArray⟩, .int .i64 o, .bool c, .slice A2 ps.length cap2] 38 (0, 0)) by rw [hw1]; exact al_new wr _)
    have hlt1 : wr.heap.size < w1.heap.size := (Array.getElem?_eq_some_iff.1 HX1.out).1
    have HSUB := Lib.hid (fun (p' : Int) (pl' : Nat) (op' : Bool) (hp' : RP.PlC p' pl' op') (V : World) (hV : Below w1.heap.size w1 V) => HCC.out ps p' pl' op' (.slice A2 ps.length cap2) V (by have := HL.out; omega) (by have := HZ.out; omega) hp' ((hg.up hb1).up hV))
    have HNX := Lib.hid ((hgn.up hb1).gs)
    have HZ2 := Lib.hid (show 2 * (t.length + WP.sizL ps) + 8 * (1 + WP.cntL ps) ≤ 100000 by have := HZ.out; omega)
    have HA2 := Lib.hid (show ∀ s', s' = acc ++ P → s' ++ RS.shL pl op (l.drop (k + 1)) = R from fun s' e => by rw [e, List.append_assoc]; exact hA1)
    have hps : (0 : Int) ≤ (ps.length : Int) := by omega
    have HS1 := Lib.hid (RS.shL_len 1 false ps)
    have HS2 := Lib.hid (RS.shL_len 2 false ps)
    clear hq hd hb hg hgn hA1 s2 c2 hcg hw1 hb1 hP
    generalize ps.length = pn at *
    go_upto_region 6 with (fail)
    rw [← HW1.out]
    obtain ⟨c0, c1, c2, c3, c4, -, -, -, -, -⟩ := blkR HX1.out
    clear g0 g1 g2 g3 g4
    by_cases k7 : kd = 7
    case pos =>
      have y7 : (kd == 7) = true := by rw [beq_iff_eq]; exact k7
      obtain ⟨s1, h1⟩ : ∃ z, acc ++ [126] = z := ⟨_, rfl⟩
      have a1 := str_addS acc [126] s1 h1 (by omega) (by simp)
      have l1 : s1.length = acc.length + ([126] : List UInt8).length := by rw [← h1, List.length_append]
      simp only [List.length_cons, List.length_nil] at l1
      have HA3 := Lib.hid (HA2.out s1 (by rw [← h1, ← HP.out, RS.shP]; rw [if_pos k7]))
      clear h1 k7
      go_wp2
      go_roundg (m - (k + 1))
      case measure => omega
      case rel => exact ⟨k + 1, s1, hlt, rfl, rfl, by go_num, HB1, HA3⟩
    case neg =>
    have y7 := beq_f k7
    by_cases k1 : kd = 1
    case pos =>
      have y1 : (kd == 1) = true := by rw [beq_iff_eq]; exact k1
      by_cases h0 : pl = 0
      · rw [decide_eq_true h0] at HO
        obtain ⟨s1, h1⟩ : ∃ z, acc ++ t = z := ⟨_, rfl⟩
        have a1 := str_addS acc t s1 h1 (by omega) (by omega)
        have l1 : s1.length = acc.length + (t : List UInt8).length := by rw [← h1, List.length_append]
        have HA3 := Lib.hid (HA2.out s1 (by rw [← h1, ← HP.out, RS.shP]; rw [if_neg k7, if_pos k1, if_pos h0]))
        clear h1 k1 h0
        go_wp2_with (go_at_call 29; refine (HO.out _).mono ?_; rintro e w' ⟨rfl, rfl⟩)
        go_roundg (m - (k + 1))
        case measure => omega
        case rel => exact ⟨k + 1, s1, hlt, rfl, rfl, by go_num, HB1, HA3⟩
      · rw [decide_eq_false h0] at HO
        have HES := Lib.hid (fun v => rs_escaped t p pl op HPC.out h0 v htl)
        have hel := WP.escT_len pl op t
        obtain ⟨es, hes⟩ : ∃ es, WP.escT pl op t = es := ⟨_, rfl⟩
        rw [hes] at HES hel
        obtain ⟨s1, h1⟩ : ∃ z, acc ++ es = z := ⟨_, rfl⟩
        have a1 := str_addS acc es s1 h1 (by omega) (by omega)
        have l1 : s1.length = acc.length + (es : List UInt8).length := by rw [← h1, List.length_append]
        have HA3 := Lib.hid (HA2.out s1 (by rw [← h1, ← HP.out, RS.shP]; rw [if_neg k7, if_pos k1, if_neg h0, hes]))
        clear h1 k1 h0 hes
        go_wp2_with (first | (go_at_call 29; refine (HO.out _).mono ?_; rintro e w' ⟨rfl, rfl⟩) | (go_at_call 30; refine (HES.out _).mono ?_; rintro e w' ⟨rfl, rfl⟩))
        go_roundg (m - (k + 1))
        case measure => omega
        case rel => exact ⟨k + 1, s1, hlt, rfl, rfl, by go_num, HB1, HA3⟩
    case neg =>
    have y1 := beq_f k1
    by_cases k2 : kd = 2
    case pos =>
      have y2 : (kd == 2) = true := by rw [beq_iff_eq]; exact k2
      by_cases ht : t = [39]
      · have yt : (t == [39]) = true := by rw [beq_iff_eq]; exact ht
        obtain ⟨s1, h1⟩ : ∃ z, acc ++ [92, 39] = z := ⟨_, rfl⟩
        have a1 := str_addS acc [92, 39] s1 h1 (by omega) (by simp)
        have l1 : s1.length = acc.length + ([92, 39] : List UInt8).length := by rw [← h1, List.length_append]
        simp only [List.length_cons, List.length_nil] at l1
        have HA3 := Lib.hid (HA2.out s1 (by rw [← h1, ← HP.out, RS.shP]; rw [if_neg k7, if_neg k1, if_pos k2, if_pos ht]))
        clear h1 k2 ht
        go_wp2
        go_roundg (m - (k + 1))
        case measure => omega
        case rel => exact ⟨k + 1, s1, hlt, rfl, rfl, by go_num, HB1, HA3⟩
      · have yt : (t == [39]) = false := by rw [beq_eq_false_iff_ne]; exact ht
        obtain ⟨s1, h1⟩ : ∃ z, acc ++ [39] = z := ⟨_, rfl⟩
        have a1 := str_addS acc [39] s1 h1 (by omega) (by simp)
        have l1 : s1.length = acc.length + ([39] : List UInt8).length := by rw [← h1, List.length_append]
        simp only [List.length_cons, List.length_nil] at l1
        obtain ⟨s2, h2⟩ : ∃ z, s1 ++ t = z := ⟨_, rfl⟩
        have a2 := str_addS s1 t s2 h2 (by omega) (by omega)
        have l2 : s2.length = s1.length + (t : List UInt8).length := by rw [← h2, List.length_append]
        obtain ⟨s3, h3⟩ : ∃ z, s2 ++ [39] = z := ⟨_, rfl⟩
        have a3 := str_addS s2 [39] s3 h3 (by omega) (by simp)
        have l3 : s3.length = s2.length + ([39] : List UInt8).length := by rw [← h3, List.length_append]
        simp only [List.length_cons, List.length_nil] at l3
        have HA3 := Lib.hid (HA2.out s3 (by rw [← h3, ← h2, ← h1, ← HP.out, RS.shP]; rw [if_neg k7, if_neg k1, if_pos k2, if_neg ht]; simp))
        clear h1 h2 h3 k2 ht
        go_wp2
        go_roundg (m - (k + 1))
        case measure => omega
        case rel => exact ⟨k + 1, s3, hlt, rfl, rfl, by go_num, HB1, HA3⟩
    case neg =>
    have y2 := beq_f k2
    by_cases k3 : kd = 3
    case pos =>
      have y3 : (kd == 3) = true := by rw [beq_iff_eq]; exact k3
      have HSH := Lib.hid (HSUB.out 2 1 false (.inr (.inr (.inl ⟨rfl, rfl, rfl⟩))) w1 (Below.refl _ _))
      have hsl := HS1.out
      have hz2 := HZ2.out
      obtain ⟨sh, hsh⟩ : ∃ sh, RS.shL 1 false ps = sh := ⟨_, rfl⟩
      rw [hsh] at HSH hsl
      have hshl : sh.length ≤ 100000 := by omega
      clear hsl hz2
      obtain ⟨s1, h1⟩ : ∃ z, acc ++ [34] = z := ⟨_, rfl⟩
      have a1 := str_addS acc [34] s1 h1 (by omega) (by simp)
      have l1 : s1.length = acc.length + ([34] : List UInt8).length := by rw [← h1, List.length_append]
      simp only [List.length_cons, List.length_nil] at l1
      obtain ⟨s2, h2⟩ : ∃ z, s1 ++ sh = z := ⟨_, rfl⟩
      have a2 := str_addS s1 sh s2 h2 (by omega) (by omega)
      have l2 : s2.length = s1.length + (sh : List UInt8).length := by rw [← h2, List.length_append]
      obtain ⟨s3, h3⟩ : ∃ z, s2 ++ [34] = z := ⟨_, rfl⟩
      have a3 := str_addS s2 [34] s3 h3 (by omega) (by simp)
      have l3 : s3.length = s2.length + ([34] : List UInt8).length := by rw [← h3, List.length_append]
      simp only [List.length_cons, List.length_nil] at l3
      have HA3 := Lib.hid (HA2.out s3 (by rw [← h3, ← h2, ← h1, ← HP.out, RS.shP]; rw [if_neg k7, if_neg k1, if_neg k2, if_pos k3, hsh]; simp))
      clear h1 h2 h3 k3 hsh
      go_wp2_with fail
      refine HSH.out.mono ?_
      rintro e Y ⟨rfl, hby⟩
      have HBY := Lib.hid (HB1.out.trans (hby.mono HB1.out.size))
      clear hby
      go_wp2
      go_roundg (m - (k + 1))
      case measure => omega
      case rel => exact ⟨k + 1, s3, hlt, rfl, rfl, by go_num, HBY, HA3⟩
    case neg =>
    have y3 := beq_f k3
    by_cases k5 : kd = 5
    case pos =>
      have y5 : (kd == 5) = true := by rw [beq_iff_eq]; exact k5
      obtain ⟨s1, h1⟩ : ∃ z, acc ++ [36, 40] = z := ⟨_, rfl⟩
      have a1 := str_addS acc [36, 40] s1 h1 (by omega) (by simp)
      have l1 : s1.length = acc.length + ([36, 40] : List UInt8).length := by rw [← h1, List.length_append]
      simp only [List.length_cons, List.length_nil] at l1
      obtain ⟨s2, h2⟩ : ∃ z, s1 ++ t = z := ⟨_, rfl⟩
      have a2 := str_addS s1 t s2 h2 (by omega) (by omega)
      have l2 : s2.length = s1.length + (t : List UInt8).length := by rw [← h2, List.length_append]
      obtain ⟨s3, h3⟩ : ∃ z, s2 ++ [41] = z := ⟨_, rfl⟩
      have a3 := str_addS s2 [41] s3 h3 (by omega) (by simp)
      have l3 : s3.length = s2.length + ([41] : List UInt8).length := by rw [← h3, List.length_append]
      simp only [List.length_cons, List.length_nil] at l3
      have HA3 := Lib.hid (HA2.out s3 (by rw [← h3, ← h2, ← h1, ← HP.out, RS.shP]; rw [if_neg k7, if_neg k1, if_neg k2, if_neg k3, if_pos k5]; simp))
      clear h1 h2 h3 k5
      go_wp2
      go_roundg (m - (k + 1))
      case measure => omega
      case rel => exact ⟨k + 1, s3, hlt, rfl, rfl, by go_num, HB1, HA3⟩
    case neg =>
    have y5 := beq_f k5
    by_cases k6 : kd = 6
    case pos =>
      have y6 : (kd == 6) = true := by rw [beq_iff_eq]; exact k6
      have HSH := Lib.hid (HSUB.out 4 2 false (.inr (.inr (.inr (.inr (.inl ⟨rfl, rfl, rfl⟩))))) w1 (Below.refl _ _))
      have hsl := HS2.out
      have hz2 := HZ2.out
      obtain ⟨sh, hsh⟩ : ∃ sh, RS.shL 2 false ps = sh := ⟨_, rfl⟩
      rw [hsh] at HSH hsl
      have hshl : sh.length ≤ 100000 := by omega
      clear hsl hz2
      obtain ⟨s1, h1⟩ : ∃ z, acc ++ [36, 40, 40] = z := ⟨_, rfl⟩
      have a1 := str_addS acc [36, 40, 40] s1 h1 (by omega) (by simp)
      have l1 : s1.length = acc.length + ([36, 40, 40] : List UInt8).length := by rw [← h1, List.length_append]
      simp only [List.length_cons, List.length_nil] at l1
      obtain ⟨s2, h2⟩ : ∃ z, s1 ++ sh = z := ⟨_, rfl⟩
      have a2 := str_addS s1 sh s2 h2 (by omega) (by omega)
      have l2 : s2.length = s1.length + (sh : List UInt8).length := by rw [← h2, List.length_append]
      obtain ⟨s3, h3⟩ : ∃ z, s2 ++ [41, 41] = z := ⟨_, rfl⟩
      have a3 := str_addS s2 [41, 41] s3 h3 (by omega) (by simp)
      have l3 : s3.length = s2.length + ([41, 41] : List UInt8).length := by rw [← h3, List.length_append]
      simp only [List.length_cons, List.length_nil] at l3
      have HA3 := Lib.hid (HA2.out s3 (by rw [← h3, ← h2, ← h1, ← HP.out, RS.shP]; rw [if_neg k7, if_neg k1, if_neg k2, if_neg k3, if_neg k5, if_pos k6, hsh]; simp))
      clear h1 h2 h3 k6 hsh
      go_wp2_with fail
      refine HSH.out.mono ?_
      rintro e Y ⟨rfl, hby⟩
      have HBY := Lib.hid (HB1.out.trans (hby.mono HB1.out.size))
      clear hby
      go_wp2
      go_roundg (m - (k + 1))
      case measure => omega
      case rel => exact ⟨k + 1, s3, hlt, rfl, rfl, by go_num, HBY, HA3⟩
    case neg =>
    have y6 := beq_f k6
    by_cases k4 : kd = 4
    case pos =>
      have y4 : (kd == 4) = true := by rw [beq_iff_eq]; exact k4
      have q2 : ((k : Int) + 1 ≤ (m : Int)) = True := eq_true (by omega)
      have q3 : ((0 : Int) ≤ (k : Int) + 1) = True := eq_true (by omega)
      have q4 : ((k : Int) + 1).toNat = k + 1 := by omega
      have q5 : ((k : Int) + 1 ≤ (cap : Int)) = True := eq_true (by omega)
      have q6 : (k + 1 ≤ m) = True := eq_true (by omega)
      have q7 : (k < m) = True := eq_true hlt
      have q8 : IntKind.i64.wrap ((k : Int) + 1) = (k : Int) + 1 := IntWalk.i64_in _ (by omega)
      have HPM := Lib.hid (rs_param p pl op HPC.out kd t o c ps A2 pn cap2 (l.drop (k + 1)) _ _ _ w1.drew HZ2.out (HNX.out.below (Below.refl _ _).drew) (fun V hV => HSUB.out (RP.inner pl) pl true (RP.inner_pl HPC.out) V ((Below.refl _ _).drew.trans hV)))
      have HPE := Lib.hid (show RS.shP pl op (WP.nextB (l.drop (k + 1))) (.mk 4 t o c ps) = P by rw [← HP.out, k4])
      rw [HPE.out] at HPM
      obtain ⟨s1, h1⟩ : ∃ z, acc ++ P = z := ⟨_, rfl⟩
      have a1 := str_addS acc P s1 h1 (by omega) (by omega)
      have HA3 := Lib.hid (HA2.out s1 h1.symm)
      have HSS := Lib.hid (fun V (hV : Below w1.heap.size w1 V) => show (V.cell? ⟨wr.heap.size, 0, none⟩ = some (.int .i64 kd) ∧ V.cell? ⟨wr.heap.size, 1, none⟩ = some (.string ⟨t.toArray⟩) ∧ V.cell? ⟨wr.heap.size, 2, none⟩ = some (.int .i64 o) ∧ V.cell? ⟨wr.heap.size, 3, none⟩ = some (.bool c) ∧ V.cell? ⟨wr.heap.size, 4, none⟩ = some (.slice A2 pn cap2)) from by
        obtain ⟨c0, c1, c2, c3, c4, -, -, -, -, -⟩ := blkR ((hV.block _ hlt1).trans HX1.out)
        exact ⟨c0, c1, c2, c3, c4⟩)
      clear h1 k4
      by_cases hce : cap = k + 1
      · rw [if_pos hce] at HPM
        subst hce
        rw [show m - (k + 1) = 0 by omega, Nat.sub_self] at HPM
        go_wp2_with fail
        go_region_held_law (fun V => V.cell? ⟨wr.heap.size, 0, none⟩ = some (.int .i64 kd) ∧ V.cell? ⟨wr.heap.size, 1, none⟩ = some (.string ⟨t.toArray⟩) ∧ V.cell? ⟨wr.heap.size, 2, none⟩ = some (.int .i64 o) ∧ V.cell? ⟨wr.heap.size, 3, none⟩ = some (.bool c) ∧ V.cell? ⟨wr.heap.size, 4, none⟩ = some (.slice A2 pn cap2))
          (first | with_reducible exact HSS.out _ (Below.refl _ _).drew | with_reducible exact HSS.out _ hb2)
          (first
            | (go_at_call 31; refine (HPM.out).mono ?_; rintro e V1 ⟨rfl, hb⟩; have hb2 : Below w1.heap.size w1 V1 := (Below.refl _ _).drew.trans hb))
        have HBY := Lib.hid (HB1.out.trans (hb2.mono HB1.out.size))
        clear hb hb2
        go_wp2
        go_roundg (m - (k + 1))
        case measure => omega
        case rel => exact ⟨k + 1, s1, hlt, rfl, rfl, by go_num, HBY, HA3⟩
      · rw [if_neg hce] at HPM
        go_wp2_with fail
        go_region_held_law (fun V => V.cell? ⟨wr.heap.size, 0, none⟩ = some (.int .i64 kd) ∧ V.cell? ⟨wr.heap.size, 1, none⟩ = some (.string ⟨t.toArray⟩) ∧ V.cell? ⟨wr.heap.size, 2, none⟩ = some (.int .i64 o) ∧ V.cell? ⟨wr.heap.size, 3, none⟩ = some (.bool c) ∧ V.cell? ⟨wr.heap.size, 4, none⟩ = some (.slice A2 pn cap2))
          (first | with_reducible exact HSS.out _ (Below.refl _ _).drew | with_reducible exact HSS.out _ hb2)
          (first
            | (go_at_call 31; refine (HPM.out).mono ?_; rintro e V1 ⟨rfl, hb⟩; have hb2 : Below w1.heap.size w1 V1 := (Below.refl _ _).drew.trans hb))
        have HBY := Lib.hid (HB1.out.trans (hb2.mono HB1.out.size))
        clear hb hb2
        go_wp2
        go_roundg (m - (k + 1))
        case measure => omega
        case rel => exact ⟨k + 1, s1, hlt, rfl, rfl, by go_num, HBY, HA3⟩
    case neg =>
    have y4 := beq_f k4
    have HA3 := Lib.hid (HA2.out acc (by rw [← HP.out, RS.shP, if_neg k7, if_neg k1, if_neg k2, if_neg k3, if_neg k5, if_neg k6, if_neg k4, List.append_nil]))
    clear k7 k1 k2 k3 k5 k6 k4
    go_wp2
    go_roundg (m - (k + 1))
    case measure => omega
    case rel => exact ⟨k + 1, acc, hlt, rfl, rfl, by go_num, HB1, HA3⟩
theorem show_all : ∀ n, ShowC n
  | 0 => fun _ _ _ _ _ _ h => absurd h (Nat.not_lt_zero _)
  | n + 1 => show_step (show_all n)
end W
end Go.Proofs.YtmgomklpjjkehaaGreat
namespace Go.Proofs.YtmgomklpjjkehaaGreat
open Go.RowKit K
open WP (GP gp gpL)
namespace W
set_option maxRecDepth 100000
/-- What Count gives for lists of fewer than n parts. -/
def CountC (n : Nat) : Prop := ∀ (l : List GP) (v : Value) (w : World), WP.cntL l < n → WP.cntL l ≤ 2000000 → WP.sizL l ≤ 2000000 → GS w (fun b => b < w.heap.size) v l →
  Calls Tryz.prog 9 #[v] w fun e w' => e = .returned (.tuple #[.int .i64 (WP.cntL l : Nat), .int .i64 (WP.sizL l : Nat)]) ∧ Below w.heap.size w w'
set_option maxHeartbeats 8000000 in
theorem count_step {n : Nat} (HC : CountC n) : CountC (n + 1) := by
  intro l v w hl hn hz h
  obtain ⟨A, cap, rfl⟩ := h.slice
  have hll := len_cnt l
  have hlm : (l.length : Int) ≤ 2000000 := by omega
  have HG := Lib.hid h
  have HCC := Lib.hid HC
  have HL := Lib.hid hl
  have HN := Lib.hid hn
  have HZ := Lib.hid hz
  obtain ⟨T, hT⟩ : ∃ T, WP.cntL l = T := ⟨_, rfl⟩
  obtain ⟨Z, hZ⟩ : ∃ Z, WP.sizL l = Z := ⟨_, rfl⟩
  have HT := Lib.hid hT
  have HS0 := Lib.hid hZ
  rw [hT, hZ]
  clear h HC hl hn hz hT hZ hll
  go_enter Tryz.func9, Tryz.ntmps9
  go_wp2
  go_loopg [4, 5, 6] l.length (fun g x y i wr => ∃ k a b : Nat, k ≤ l.length ∧ g = l.length - k ∧ x = .int .i64 a ∧ y = .int .i64 b ∧ i = .int .i64 k ∧ Hid (Below w.heap.size w wr) ∧ Hid (a + WP.cntL (l.drop k) = T + (l.length - k) ∧ b + WP.sizL (l.drop k) = Z))
  case atStart => exact ⟨0, l.length, 0, Nat.zero_le _, rfl, rfl, rfl, rfl, Lib.hid (Below.refl _ _), Lib.hid (by rw [List.drop_zero, HT.out, HS0.out]; omega)⟩
  case round =>
    obtain ⟨k, a, b, hk, rfl, rfl, rfl, rfl, HB, HS⟩ := hrel
    by_cases hlt : k < l.length
    · obtain ⟨p, hp, hd⟩ := get_of_lt hlt
      obtain ⟨bb, off, A2, cap2, rfl, hb, g0, g1, g2, g3, g4, hg⟩ := (HG.out.kept HB.out).get hp
      have hbr : bb < wr.heap.size := Nat.lt_of_lt_of_le hb HB.out.size
      have HCL := Lib.hid (HCC.out p.parts _ wr (by have := cnt_get hp; have := HL.out; omega) (by have := cnt_get hp; have := HN.out; omega) (by have h1 := (siz_get2 hp).1; have h2 := HZ.out; obtain ⟨kd, t, o, c, ps⟩ := p; rw [WP.sizP] at h1; show WP.sizL ps ≤ _; omega) (hg.mono fun x hx hx2 => ⟨hx2, rfl⟩))
      have hlt2 : (k : Int) < (l.length : Int) := by omega
      obtain ⟨kd, t, o, c, ps⟩ := p
      dsimp only [WP.GP.kind, WP.GP.text, WP.GP.op, WP.GP.colon, WP.GP.parts] at g0 g1 g2 g3 g4 HCL
      have HX := HS.out
      rw [hd, WP.cntL, WP.sizL, WP.cntP, WP.sizP] at HX
      obtain ⟨X1, X2⟩ := HX
      have hT2 := HT.out
      have hN2 := HN.out
      have hZ2 := HZ.out
      have hS2 : Z ≤ 2000000 := by have := HZ.out; have := HS0.out; omega
      have hT3 : T ≤ 2000000 := by have := HT.out; have := HN.out; omega
      generalize WP.cntL ps = cn at *
      generalize WP.sizL ps = sn at *
      have ha1 : a + cn ≤ 8000000 := by omega
      have hb1 : b + sn + t.length ≤ 8000000 := by omega
      have HNX := Lib.hid (show a + cn + WP.cntL (l.drop (k + 1)) = T + (l.length - (k + 1)) ∧ b + sn + t.length + WP.sizL (l.drop (k + 1)) = Z by omega)
      have w1 : IntKind.i64.wrap ((a : Int) + (cn : Int)) = ((a + cn : Nat) : Int) := by rw [IntWalk.i64_in _ (by omega)]; omega
      have w2 : IntKind.i64.wrap ((b : Int) + (sn : Int)) = ((b + sn : Nat) : Int) := by rw [IntWalk.i64_in _ (by omega)]; omega
      have w3 : IntKind.i64.wrap (((b + sn : Nat) : Int) + (t.length : Int)) = ((b + sn + t.length : Nat) : Int) := by rw [IntWalk.i64_in _ (by omega)]; omega
      clear hp hd hb hg X1 X2 hT2 hN2 hZ2 hS2 hT3 HS
      go_wp2_with fail
      refine HCL.out.mono ?_
      rintro e Y ⟨rfl, hby⟩
      have HBY := Lib.hid (HB.out.trans (hby.mono HB.out.size))
      have f1 := (hby.cell (p := ⟨bb, off + k * 5 + 1, none⟩) hbr).trans g1
      clear hby
      go_wp2
      go_roundg (l.length - (k + 1))
      case measure => omega
      case rel => exact ⟨k + 1, a + cn, b + sn + t.length, hlt, rfl, by go_num, by go_num, by go_num, HBY, HNX⟩
    · have hlt2 : ¬ (k : Int) < (l.length : Int) := by omega
      have HE := HS.out
      rw [List.drop_eq_nil_of_le (by omega), WP.cntL, WP.sizL] at HE
      obtain ⟨E1, E2⟩ := HE
      obtain rfl : a = T := by omega
      obtain rfl : b = Z := by omega
      clear E1 E2
      go_wp2
      go_ret2
      exact ⟨rfl, HB.out⟩
theorem count_all : ∀ n, CountC n
  | 0 => fun _ _ _ h => absurd h (Nat.not_lt_zero _)
  | n + 1 => count_step (count_all n)
end W
end Go.Proofs.YtmgomklpjjkehaaGreat
