/- Chapter 8: the reference's Parse, Valid and Show. -/
import Derived.Test.YtmgomklpjjkehaaGreatYF
import Derived.Test.YtmgomklpjjkehaaGreatYD
import Derived.Test.YtmgomklpjjkehaaGreatR08m
namespace Go.Proofs.YtmgomklpjjkehaaGreat
open Go.RowKit K
open WP (GP gp gpL)
namespace W
set_option maxRecDepth 100000
/-- What the reference's Parse gives. -/
def ParseR (W : World) (R : Option (List WP.Part)) (e : Ending) (W' : World) : Prop :=
  ∃ (A : Option Addr) (n cap : Nat) (x y : Int), e = .returned (.tuple #[.slice A n cap, .int .i64 x, .int .i64 y]) ∧ Below W.heap.size W W' ∧ (match R with | none => y ≠ 0 | some ps => y = 0 ∧ n = ps.length ∧ RVal W' W.heap.size ps A)
theorem rv_lt {w : World} {B : Nat} {p : WP.Part} {ps : List WP.Part} {A : Option Addr} (h : RVal w B (p :: ps) A) : ∀ b, A = some ⟨b, 0, none⟩ → b < w.heap.size := by
  rcases h with h | ⟨b', cells, hA, -, hl, hc⟩
  · cases h
  · intro b hb
    rw [hb] at hA
    injection hA with hA
    injection hA with hA
    subst hA
    have hlen := hl.len
    have hc0 : 0 < cells.length := by rw [hlen, List.length_cons]; omega
    have h0 := hc 0 _ (List.getElem?_eq_getElem hc0)
    rcases Nat.lt_or_ge b w.heap.size with h' | h'
    · exact h'
    · simp [World.cell?, Array.getElem?_eq_none h'] at h0
set_option maxHeartbeats 8000000 in
theorem Parse_ref (s : List UInt8) (w : World) (hl : s.length ≤ 40000) : Calls Tryz.prog 27 #[.string ⟨s.toArray⟩] w (ParseR w (RP.parse s)) := by
  have HP := Lib.hid (fun v => show Calls Tryz.prog 40 #[.string ⟨s.toArray⟩, .int .i64 0, .int .i64 0, .int .i64 1, .int .i64 0] v (ROut v.heap.size v (RP.run (s.length + 1) ⟨s, 0, false, 1, 0⟩ [] 0 0)) from
    partsR_all (s.length + 1) _ (Nat.le_refl _) ⟨s, 0, false, 1, 0⟩ 0 0 1 0 v hl (.inl ⟨rfl, rfl, rfl⟩) (Nat.zero_le _) (by show (1 : Nat) ≤ 33; omega) rfl rfl (by show s.length - 0 + 1 ≤ s.length + 1; omega))
  by_cases h : 16384 < s.length
  · have h' : ((16384 : Int) < (s.length : Int)) = True := eq_true (by omega)
    rw [show RP.parse s = none from if_pos h]
    clear HP hl h
    go_enter Tryz.func27, Tryz.ntmps27
    go_wp2_with fail
    go_ret3
    exact ⟨none, 0, 0, 0, 3, rfl, Below.refl _ _, (show (3 : Int) ≠ 0 by decide)⟩
  have h' : ((16384 : Int) < (s.length : Int)) = False := eq_false (by omega)
  have hR : RP.parse s = (RP.run (s.length + 1) ⟨s, 0, false, 1, 0⟩ [] 0 0).map Prod.fst := if_neg h
  generalize RP.run (s.length + 1) ⟨s, 0, false, 1, 0⟩ [] 0 0 = R at *
  rw [hR]
  clear hR hl h
  cases R with
  | none =>
    rw [Option.map_none]
    go_enter Tryz.func27, Tryz.ntmps27
    go_wp2_with fail
    refine (HP.out _).mono ?_
    rintro e w1 ⟨XA, xn, xc, x, y, rfl, hb, hy⟩
    have hy1 : (y == 0) = false := by rw [beq_eq_false_iff_ne]; exact hy
    have hy2 : (y != 0) = true := by rw [bne_iff_ne]; exact hy
    have HY := Lib.hid hy
    obtain ⟨w2, hw2⟩ : ∃ w2, w2 = w1.alloc (.cells #[.slice XA xn xc, .int .i64 x, .int .i64 y] 81) := ⟨_, rfl⟩
    have HW2 := Lib.hid hw2
    have HB2 := Lib.hid (show Below w.heap.size w w2 by rw [hw2]; exact btr hb (balloc _ _))
    have hxb : w2.heap[w1.heap.size]? = some (.cells #[.slice XA xn xc, .int .i64 x, .int .i64 y] 81 (0, 0)) := by rw [hw2]; exact al_new w1 _
    obtain ⟨d0, d1, d2, -, -, -⟩ := blk3 hxb
    clear hw2 hxb hb hy
    go_upto_region 4 with (fail)
    rw [← HW2.out]
    go_wp2
    go_quiet (fail)
    go_wp2
    go_ret3
    exact ⟨none, 0, 0, x, y, rfl, bdN HB2.out _, HY.out⟩
  | some r =>
    obtain ⟨ps, j⟩ := r
    rw [Option.map_some]
    go_enter Tryz.func27, Tryz.ntmps27
    go_wp2_with fail
    refine (HP.out _).mono ?_
    rintro e w1 ⟨XA, xn, xc, x, y, rfl, hb, rfl, rfl, hn, hv⟩
    obtain ⟨w2, hw2⟩ : ∃ w2, w2 = w1.alloc (.cells #[.slice XA xn xc, .int .i64 j, .int .i64 0] 81) := ⟨_, rfl⟩
    have HW2 := Lib.hid hw2
    have HB2 := Lib.hid (show Below w.heap.size w w2 by rw [hw2]; exact btr hb (balloc _ _))
    have hxb : w2.heap[w1.heap.size]? = some (.cells #[.slice XA xn xc, .int .i64 j, .int .i64 0] 81 (0, 0)) := by rw [hw2]; exact al_new w1 _
    have HRV := Lib.hid (show RVal w2 w.heap.size ps XA from hv.mono (Nat.le_refl _) (fun b _ hb2 => by rw [hw2]; exact (balloc w1 _).block b hb2))
    have HN := Lib.hid hn
    obtain ⟨d0, d1, d2, -, -, -⟩ := blk3 hxb
    clear hw2 hxb hb hn hv
    go_upto_region 4 with (fail)
    rw [← HW2.out]
    go_wp2
    go_ret3
    exact ⟨XA, xn, xc, 0, 0, rfl, HB2.out, rfl, HN.out, HRV.out⟩
theorem GS.of_rv {w : World} {B : Nat} {ps : List WP.Part} {A : Option Addr} {cap : Nat} (h : RVal w B ps A) : GS w (fun b => b < w.heap.size) (.slice A ps.length cap) (gpL ps) :=
  (GS.of_rep (F := fun k => B ≤ k) (cap := cap) h).mono fun _ _ h2 => ⟨h2, rfl⟩
theorem toO_some {α : Type} {x : Except WP.Flt α} {y : α} (h : RP.toO x = some y) : x = .ok y := by
  cases x with
  | error e => cases h
  | ok z => injection h with h; rw [h]
set_option maxHeartbeats 8000000 in
theorem Valid_ref (l : List GP) (v : Value) (w : World) (h : HS w (fun b => b < w.heap.size) v l) (hz : 2 * WP.sizL l + 8 * WP.cntL l + 3 ≤ 16384) :
    Calls Tryz.prog 18 #[v] w fun e w' => e = .returned (.int .i64 (if RS.validR l = true then 0 else 1)) ∧ Below w.heap.size w w' := by
  obtain ⟨A, cap, rfl, hcap⟩ := h.slice
  obtain ⟨s, hs⟩ : ∃ s, RS.shL 0 false l = s := ⟨_, rfl⟩
  have hsl : s.length + 3 ≤ 16384 := by rw [← hs]; have := RS.shL_len 0 false l; omega
  have HSH := Lib.hid (show Calls Tryz.prog 19 #[.slice A l.length cap, .int .i64 0] w (fun e w' => e = .returned (.string ⟨s.toArray⟩) ∧ Below w.heap.size w w') from by
    have := show_all (WP.cntL l + 1) l 0 0 false _ w (Nat.lt_succ_self _) (by omega) (.inl ⟨rfl, rfl, rfl⟩) h
    rw [hs] at this
    exact this)
  have HPA := Lib.hid (fun V => Parse_ref s V (by omega))
  have HV := Lib.hid (show RS.validR l = (match RP.parse s with | none => false | some m => WP.sameL (gpL m) l) from by unfold RS.validR; rw [hs]; cases RP.parse s <;> rfl)
  have HCN := Lib.hid (fun m (hm : RP.parse s = some m) => show WP.cntL (gpL m) ≤ 2000000 from by
    rw [← RP.parse_eq hsl] at hm
    have := (WP.parse_wt (toO_some hm)).1
    omega)
  have HG := Lib.hid h.gs
  clear h hz hs hsl hcap
  generalize RS.validR l = R at *
  generalize hn : l.length = n at *
  clear hn
  cases hp : RP.parse s with
  | none =>
    rw [hp] at HPA HV
    obtain rfl : R = false := HV.out
    clear hp
    go_enter Tryz.func18, Tryz.ntmps18
    go_wp2_with fail
    refine HSH.out.mono ?_
    rintro e w1 ⟨rfl, hb⟩
    have HB1 := Lib.hid hb
    clear hb
    go_wp2_with fail
    refine (HPA.out _).mono ?_
    rintro e w2 ⟨XA, xn, xc, x, y, rfl, hb, hy⟩
    have hy1 : (y == 0) = false := by rw [beq_eq_false_iff_ne]; exact hy
    have hy2 : (y != 0) = true := by rw [bne_iff_ne]; exact hy
    have HB2 := Lib.hid (btr HB1.out hb)
    clear hb hy
    go_wp2
    go_ret
    exact ⟨rfl, HB2.out⟩
  | some m =>
    have HC := Lib.hid (HCN.out m hp)
    rw [hp] at HPA HV
    replace HV : Hid (R = WP.sameL (gpL m) l) := Lib.hid HV.out
    clear hp
    go_enter Tryz.func18, Tryz.ntmps18
    go_wp2_with fail
    refine HSH.out.mono ?_
    rintro e w1 ⟨rfl, hb⟩
    have HB1 := Lib.hid hb
    clear hb
    go_wp2_with fail
    refine (HPA.out _).mono ?_
    rintro e w2 ⟨XA, xn, xc, x, y, rfl, hb, rfl, rfl, hv⟩
    have HB2 := Lib.hid (btr HB1.out hb)
    have HSM := Lib.hid (SameRef_any (gpL m) l (.slice XA m.length xc) (.slice A n cap) w2 HC.out (GS.of_rv hv) (GS.up HG.out HB2.out))
    rw [← HV.out] at HSM
    clear hb hv
    go_wp2_with fail
    refine HSM.out.mono ?_
    rintro e w3 ⟨rfl, hb⟩
    have HB3 := Lib.hid (btr HB2.out hb)
    clear hb
    cases R with
    | false =>
      go_wp2
      go_ret
      exact ⟨rfl, HB3.out⟩
    | true =>
      go_wp2
      go_ret
      exact ⟨rfl, HB3.out⟩
set_option maxHeartbeats 8000000 in
theorem Show_ref (l : List GP) (v : Value) (w : World) (h : HS w (fun b => b < w.heap.size) v l) (hz : 2 * WP.sizL l + 8 * WP.cntL l + 3 ≤ 16384) :
    Calls Tryz.prog 7 #[v] w fun e w' => e = .returned (.tuple #[.string ⟨(RS.showR l).1.toArray⟩, .int .i64 (RS.showR l).2]) ∧ Below w.heap.size w w' := by
  obtain ⟨A, cap, rfl, hcap⟩ := h.slice
  have HV := Lib.hid (Valid_ref l _ w h hz)
  have HSH := Lib.hid (fun V (hV : Below w.heap.size w V) => show_all (WP.cntL l + 1) l 0 0 false _ V (Nat.lt_succ_self _) (by omega) (.inl ⟨rfl, rfl, rfl⟩) (h.up hV))
  have HR := Lib.hid (show RS.showR l = if RS.validR l = true then (RS.shL 0 false l, 0) else ([], 1) from rfl)
  generalize RS.shL 0 false l = s at *
  generalize RS.validR l = R at *
  generalize RS.showR l = Q at *
  generalize hn : l.length = n at *
  clear h hz hcap hn
  cases R with
  | false =>
    obtain rfl : Q = ([], 1) := HR.out
    go_enter Tryz.func7, Tryz.ntmps7
    go_wp2_with fail
    refine HV.out.mono ?_
    rintro e w1 ⟨rfl, hb⟩
    have HB1 := Lib.hid hb
    clear hb
    rw [if_neg (show ¬ (false = true) by simp)]
    go_wp2
    go_ret2
    exact ⟨rfl, HB1.out⟩
  | true =>
    obtain rfl : Q = (s, 0) := HR.out
    go_enter Tryz.func7, Tryz.ntmps7
    go_wp2_with fail
    refine HV.out.mono ?_
    rintro e w1 ⟨rfl, hb⟩
    have HB1 := Lib.hid hb
    have HS1 := Lib.hid (HSH.out w1 hb)
    clear hb
    rw [if_pos trivial]
    go_wp2_with fail
    refine HS1.out.mono ?_
    rintro e w2 ⟨rfl, hb⟩
    have HB2 := Lib.hid (btr HB1.out hb)
    clear hb
    go_wp2
    go_ret2
    exact ⟨rfl, HB2.out⟩
end W
end Go.Proofs.YtmgomklpjjkehaaGreat
