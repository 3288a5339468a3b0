/- Chapter 12: SimpleWords walked. -/
import Derived.Test.YtlhijlmbfjlglaaV12
import Derived.Test.YtlhijlmbfjlglaaP12e
import Derived.Test.YtlhijlmbfjlglaaW12u
import Derived.Test.YtlhijlmbfjlglaaYC
import Derived.Test.YtlhijlmbfjlglaaG08l
import Derived.Test.YtlhijlmbfjlglaaO12
import Derived.Test.YtlhijlmbfjlglaaW08p
namespace Go.Proofs.Ytlhijlmbfjlglaa
open Go.RowKit K
open WP (GP gp gpL)
def SC.sum : List (List UInt8) → Nat
  | [] => 0
  | q :: r => q.length + SC.sum r
theorem SC.sum_append : ∀ a b : List (List UInt8), SC.sum (a ++ b) = SC.sum a + SC.sum b
  | [], b => by simp [SC.sum]
  | q :: r, b => by rw [List.cons_append, SC.sum, SC.sum, SC.sum_append r b]; omega
theorem SC.sum_mem : ∀ {l : List (List UInt8)} {q : List UInt8}, q ∈ l → q.length ≤ SC.sum l
  | [], q, h => by simp at h
  | x :: r, q, h => by
    rw [SC.sum]
    rcases List.mem_cons.1 h with rfl | h
    · omega
    · have := SC.sum_mem h; omega
theorem SC.src_append : ∀ a b : List (List UInt8), SC.src (a ++ b) = SC.src a ++ SC.src b
  | [], b => rfl
  | q :: r, b => by rw [List.cons_append, SC.src, SC.src, SC.src_append r b]; simp
theorem SC.src_len : ∀ l : List (List UInt8), (SC.src l).length ≤ 3 * l.length + 4 * SC.sum l
  | [] => Nat.le_refl _
  | q :: r => by
    have := SC.src_len r
    have := P.quote_le q
    rw [SC.src, SC.sum, List.length_cons, List.length_append, List.length_cons]
    omega
theorem take_one {α : Type} {l : List α} {k : Nat} {x : α} (h : l[k]? = some x) : l.take (k + 1) = l.take k ++ [x] := by
  rw [List.take_add_one, h]
  rfl
namespace W
theorem row_some3 {w : World} {B : Nat} {e : TypeId} {k : Nat} {A : Option Addr} {n m c : Nat} {xs : List Value} (h : w.ownsRow B e k (.slice A n c) m xs) (hn : 0 < m) : ∃ q, A = some ⟨q, 0, none⟩ ∧ q < w.heap.size ∧ ∀ j u, xs[j]? = some u → w.cell? ⟨q, j, none⟩ = some u := by
  rcases h.2 with ⟨-, e⟩ | ⟨q, cap, cur, hv, h2, h3, -⟩
  · omega
  · injection hv with e1 e2 e3
    subst e1 e2 e3
    refine ⟨q, rfl, (Array.getElem?_eq_some_iff.1 h3).1, fun j u hj => ?_⟩
    have := h.cells (g := q) rfl j u hj
    rw [show (⟨q, j, none⟩ : Addr) = (⟨q, 0, none⟩ : Addr).add j by cases j <;> simp [Addr.add]]
    exact this
set_option maxRecDepth 100000 in
set_option maxHeartbeats 16000000 in
theorem SimpleWords_any (hB : BrAll) (v : Value) (ls : List (List UInt8)) (w : World) (hA : StV w v ls) (hw : Env w) : Calls Try.prog 5 #[v] w fun e w' => e = .returned (.bool true) ∧ Below w.heap.size w w' := by
  have HAW := Lib.hid (fun V (hV : Env V) => awake12_any hB V hV)
  have HE := Lib.hid hw
  have HBR := Lib.hid hB
  obtain ⟨A, c, rfl, hlc, hc, hS, hz⟩ := hA
  obtain ⟨m, hm⟩ : ∃ m, m = ls.length := ⟨_, rfl⟩
  have HM := Lib.hid hm
  have HS := Lib.hid hS
  have HZ := Lib.hid hz
  rw [← hm]
  have m0 : (0 : Int) ≤ (m : Int) := by omega
  have HWA := Lib.hid (HAW.out w HE.out)
  clear hB hw hlc hc hS hz hm
  by_cases h0 : m = 0
  · have hkzero := 0
    have t1 : ((m : Int) < 1) = True := eq_true (by omega)
    clear h0
    go_enter Try.func5, Try.ntmps5
    go_wp2_with fail
    refine HWA.out.mono ?_
    rintro e w' ⟨rfl, hb⟩
    have HB := Lib.hid hb
    clear hb
    go_wp2
    go_ret
    exact ⟨rfl, HB.out⟩
  have t1 : ((m : Int) < 1) = False := eq_false (by omega)
  by_cases h20 : 20 < m
  · have hkmany := 0
    have t2 : ((20 : Int) < (m : Int)) = True := eq_true (by omega)
    clear h0 h20
    go_enter Try.func5, Try.ntmps5
    go_wp2_with fail
    refine HWA.out.mono ?_
    rintro e w' ⟨rfl, hb⟩
    have HB := Lib.hid hb
    clear hb
    go_wp2
    go_ret
    exact ⟨rfl, HB.out⟩
  have t2 : ((20 : Int) < (m : Int)) = False := eq_false (by omega)
  obtain ⟨b, off, rfl, hbl, c0⟩ := HS.out.get (k := 0) (by have := HM.out; omega)
  obtain ⟨q0, hq0⟩ : ∃ q0, ls.getD 0 [] = q0 := ⟨_, rfl⟩
  rw [hq0, Nat.add_zero] at c0
  have HQ0 := Lib.hid hq0
  obtain ⟨R, hR⟩ : ∃ R, SC.resB q0 = R := ⟨_, rfl⟩
  have HRF := Lib.hid (fun V => show Calls Try.prog 13 #[.string ⟨q0.toArray⟩] V (fun e w' => e = .returned (.bool R) ∧ V = w') from hR ▸ Reserved_ref q0 V)
  have HRV := Lib.hid hR
  have HM2 := Lib.hid (show 0 < m ∧ m ≤ 20 by omega)
  have t3 : 0 < m := by omega
  have m20 : (m : Int) ≤ 20 := by omega
  clear h0 h20 hq0 hR
  cases R with
  | true =>
    have hkres := 0
    go_enter Try.func5, Try.ntmps5
    go_wp2_with fail
    refine (HRF.out _).mono ?_
    rintro e w0 ⟨rfl, rfl⟩
    go_wp2_with fail
    refine HWA.out.mono ?_
    rintro e w' ⟨rfl, hb⟩
    have HB := Lib.hid hb
    clear hb
    go_wp2
    go_ret
    exact ⟨rfl, HB.out⟩
  | false =>
    go_enter Try.func5, Try.ntmps5
    go_wp2_with fail
    refine (HRF.out _).mono ?_
    rintro e w0 ⟨rfl, rfl⟩
    clear HRF c0
    go_wp2
    go_loopg [3, 4] m (fun g x i wr => ∃ k sm : Nat, k ≤ m ∧ g = m - k ∧ i = .int .i64 k ∧ x = .int .i64 sm ∧ wr = w ∧ Hid (sm = SC.sum (ls.take k)) ∧ Hid (sm ≤ 500))
    case atStart => exact ⟨0, 0, Nat.zero_le _, rfl, rfl, rfl, rfl, Lib.hid rfl, Lib.hid (by omega)⟩
    case round =>
      obtain ⟨k, sm, hk, rfl, rfl, rfl, rfl, HSM, HLE⟩ := hrel
      by_cases hlt : k < m
      · have hksum := 0
        have hlt2 : (k : Int) < (m : Int) := by omega
        obtain ⟨b', off', hbb, -, ck⟩ := HS.out.get (k := k) (by have := HM.out; omega)
        injection hbb with hbb
        injection hbb with e1 e2
        subst e1 e2
        obtain ⟨q, hq⟩ : ∃ q, ls[k]? = some q := ⟨_, List.getElem?_eq_getElem (by have := HM.out; omega)⟩
        rw [show ls.getD k [] = q by rw [List.getD_eq_getElem?_getD, hq]; rfl] at ck
        have hql := HZ.out q (List.mem_of_getElem? hq)
        obtain ⟨sn, hsn⟩ : ∃ sn : Nat, sn = sm + q.length := ⟨_, rfl⟩
        have hw64 : wrap64 ((sm : Int) + (q.length : Int)) = (sn : Int) := by have := HLE.out; unfold RowKit.wrap64; omega
        have HSN := Lib.hid (show sn = SC.sum (ls.take (k + 1)) by rw [hsn, HSM.out, take_one hq, SC.sum_append]; simp [SC.sum])
        have HLT := Lib.hid hlt
        have sm0 : (0 : Int) ≤ (sm : Int) := by omega
        have sn0 : (0 : Int) ≤ (sn : Int) := by omega
        clear hq hql hsn
        by_cases h5 : sn ≤ 500
        · have t5 : ((500 : Int) < (sn : Int)) = False := eq_false (by omega)
          have H5 := Lib.hid h5
          clear h5
          go_wp2_with fail
          go_roundg (m - (k + 1))
          case measure => have := HLT.out; omega
          case rel => exact ⟨k + 1, sn, HLT.out, rfl, by go_num, rfl, rfl, HSN, H5⟩
        · have t5 : ((500 : Int) < (sn : Int)) = True := eq_true (by omega)
          clear h5
          go_wp2_with fail
          refine HWA.out.mono ?_
          rintro e w' ⟨rfl, hb⟩
          have HB := Lib.hid hb
          clear hb
          go_wp2
          go_ret
          exact ⟨rfl, HB.out⟩
      · have hkrest := 0
        have hlt2 : ¬ (k : Int) < (m : Int) := by omega
        have hkm : k = m := by omega
        have HSUM := Lib.hid (show SC.sum ls ≤ 500 by have h1 := HSM.out; have h2 := HLE.out; rw [hkm, HM.out, List.take_length] at h1; omega)
        clear hkm HSM HLE
        obtain ⟨w0, rfl⟩ : ∃ w0 : World, w0 = wr := ⟨_, rfl⟩
        go_wp2
        go_loopg [5, 6] m (fun g x i wr => ∃ k : Nat, k ≤ m ∧ g = m - k ∧ i = .int .i64 k ∧ x = .string ⟨(SC.src (ls.take k)).toArray⟩ ∧ wr = w0)
        case atStart => exact ⟨0, Nat.zero_le _, rfl, rfl, rfl, rfl⟩
        case round =>
          obtain ⟨k2, hk2, rfl, rfl, rfl, hwr⟩ := hrel
          subst hwr
          by_cases hlt : k2 < m
          · have hkcat := 0
            have hlt3 : (k2 : Int) < (m : Int) := by omega
            obtain ⟨b', off', hbb, -, ck⟩ := HS.out.get (k := k2) (by have := HM.out; omega)
            injection hbb with hbb
            injection hbb with e1 e2
            subst e1 e2
            obtain ⟨q, hq⟩ : ∃ q, ls[k2]? = some q := ⟨_, List.getElem?_eq_getElem (by have := HM.out; omega)⟩
            rw [show ls.getD k2 [] = q by rw [List.getD_eq_getElem?_getD, hq]; rfl] at ck
            have hq5 : q.length ≤ 500 := Nat.le_trans (SC.sum_mem (List.mem_of_getElem? hq)) HSUM.out
            obtain ⟨acc, hacc⟩ : ∃ acc, acc = SC.src (ls.take k2) := ⟨_, rfl⟩
            have hal : acc.length ≤ 3000 := by
              have h1 := SC.src_len (ls.take k2)
              have h2 := List.take_append_drop k2 ls
              have h3 : SC.sum (ls.take k2) ≤ SC.sum ls := by rw [← h2, SC.sum_append]; simp
              have h4 := HSUM.out
              have h5 := HM2.out
              have h6 := HM.out
              rw [List.length_take] at h1
              rw [hacc]
              omega
            have HN := Lib.hid (show SC.src (ls.take (k2 + 1)) = (acc ++ [32]) ++ P.quote q by rw [take_one hq, SC.src_append, hacc]; simp [SC.src])
            have HQR := Lib.hid (fun V => Quote_ref q V (by omega))
            have HLT := Lib.hid hlt
            obtain ⟨y, hy⟩ : ∃ y, y = P.quote q := ⟨_, rfl⟩
            have hyl : y.length ≤ 3000 := by have := P.quote_le q; rw [hy]; omega
            rw [← hy] at HQR HN
            have ha1 : (acc ++ [32]).length ≤ 3001 := by simp; omega
            rw [← hacc]
            clear hq hq5 hacc hy
            go_wp2_with fail
            refine (HQR.out _).mono ?_
            rintro e w1 ⟨rfl, rfl⟩
            go_wp2
            go_roundg (m - (k2 + 1))
            case measure => have := HLT.out; omega
            case rel => exact ⟨k2 + 1, HLT.out, rfl, by go_num, by rw [HN.out]; simp, rfl⟩
          · have hkcmd := 0
            have hlt3 : ¬ (k2 : Int) < (m : Int) := by omega
            have hkm : k2 = m := by omega
            have hsl : SC.src (ls.take k2) = SC.src ls := by rw [hkm, HM.out, List.take_length]
            obtain ⟨S, hS⟩ : ∃ S, S = SC.src ls := ⟨_, rfl⟩
            rw [hsl, ← hS]
            have hSl : S.length ≤ 3000 := by
              have h1 := SC.src_len ls
              have h4 := HSUM.out
              have h5 := HM2.out
              have h6 := HM.out
              rw [hS]
              omega
            obtain ⟨p, wd, hcmd, hwl, hwq⟩ := SC.command_words (l := ls) (by rw [← hS]; omega) (by rintro rfl; have h5 := HM2.out; have h6 := HM.out; simp at h6; omega) (fun q hq => by have := SC.sum_mem hq; have := HSUM.out; omega) (fun q r e => by have h1 := HQ0.out; rw [e] at h1; simp at h1; rw [h1]; exact HRV.out)
            rw [← hS] at hcmd
            have hC := Command_any HBR.out S 0 wr HE.out (by omega) (fun y V => Redirect_any HBR.out S y V (by omega))
            rw [hcmd] at hC
            have HC := Lib.hid hC
            have HWQ := Lib.hid hwq
            have HWL := Lib.hid (hwl.trans HM.out.symm)
            have s0 : (0 : Int) ≤ (S.length : Int) := by omega
            clear hcmd hC hwq hwl hsl hS hkm
            go_wp2_with fail
            refine HC.out.mono ?_
            rintro e V1 ⟨va, vw, vr, vd, rfl, hb, ac, wc, rc, h1, h2, h3, h4, i1, i2, i3⟩
            obtain ⟨Aa, ca, rfl⟩ := row_val h1
            obtain ⟨Aw, cw, rfl⟩ := row_val h2
            obtain ⟨Ar, cr, rfl⟩ := row_val h3
            obtain ⟨Ad, cd, rfl⟩ := row_val h4
            dsimp only [List.length_nil] at h1 h2 h3 h4 i1 i2 i3 ⊢
            rw [HWL.out]
            rw [HWL.out] at h2
            obtain ⟨V2, hV2⟩ : ∃ V2, V2 = V1.alloc (.cells #[.int .i64 1, .int .i64 p, .string ⟨#[]⟩, .bool false, .slice Aa 0 ca, .slice Aw m cw, .slice Ar 0 cr, .slice none 0 0, .slice none 0 0] 32) := ⟨_, rfl⟩
            obtain ⟨n1, hn1⟩ : ∃ n1, n1 = V1.heap.size := ⟨_, rfl⟩
            have hb2 : Below V1.heap.size V1 V2 := by rw [hV2]; exact balloc _ _
            have HB2 := Lib.hid (btr hb hb2)
            have hx2 : V2.heap[n1]? = some (.cells #[.int .i64 1, .int .i64 p, .string ⟨#[]⟩, .bool false, .slice Aa 0 ca, .slice Aw m cw, .slice Ar 0 cr, .slice none 0 0, .slice none 0 0] 32 (0, 0)) := by rw [hV2, hn1]; exact al_new V1 _
            have K5 := Lib.hid (Lib.cell_of_heap hx2 5)
            have k4 := Lib.cell_of_heap hx2 4
            have k5 := Lib.cell_of_heap hx2 5
            have k6 := Lib.cell_of_heap hx2 6
            have HRW := Lib.hid (row_below h2 hb2)
            have HIR := Lib.hid (i2.mono (F' := fun _ => True) (fun b _ hl => ⟨trivial, hb2.block b hl⟩))
            have HV2 := Lib.hid hV2
            have HN1 := Lib.hid hn1
            clear hb hb2 h1 h2 h3 h4 i1 i2 i3 hV2 hn1 hx2 HC
            go_upto_region 16 with (fail)
            rw [← HV2.out, ← HN1.out]
            go_wp2
            obtain ⟨w1, rfl⟩ : ∃ w1 : World, w1 = wr := ⟨_, rfl⟩
            go_loopg [11] m (fun g i wr => ∃ k : Nat, k ≤ m ∧ g = m - k ∧ i = .int .i64 k ∧ Hid (Below V2.heap.size V2 wr))
            case atStart => exact ⟨0, Nat.zero_le _, rfl, rfl, Lib.hid (Below.refl _ _)⟩
            case round =>
              clear k4 k5 k6
              obtain ⟨k3, hk3, rfl, rfl, HB3⟩ := hrel
              by_cases hlt : k3 < m
              · have hkvalid := 0
                have hlt4 : (k3 : Int) < (m : Int) := by omega
                obtain ⟨q, hq⟩ : ∃ q, ls[k3]? = some q := ⟨_, List.getElem?_eq_getElem (by have := HM.out; omega)⟩
                obtain ⟨x, hx, hwx⟩ := HWQ.out k3 q hq
                obtain ⟨A2, cap2, -, e2, e3⟩ := HIR.out.at_ (k := 1) (i := k3) (p := wdIt x) (by intro y hy; simp at hy; obtain ⟨z, -, rfl⟩ := hy; rfl) (by rw [List.getElem?_map, hx]; rfl)
                obtain ⟨qw, rfl, hqw, hcell⟩ := row_some3 (row_below HRW.out HB3.out) (by omega)
                have c1 : wr.cell? ⟨qw, k3 * 2 + 1, none⟩ = some (.slice A2 x.parts.length cap2) := hcell (k3 * 2 + 1) _ e2
                have hgs := (show PS V2 (fun _ => True) A2 x.parts from e3).gs cap2 |>.up HB3.out
                obtain ⟨b', off', hbb, -, ck⟩ := (HS.out.below (btr HB2.out HB3.out)).get (k := k3) (by have := HM.out; omega)
                injection hbb with hbb
                injection hbb with e1 e4
                subst e1 e4
                rw [show ls.getD k3 [] = q by rw [List.getD_eq_getElem?_getD, hq]; rfl] at ck
                have hq5 : q.length ≤ 500 := Nat.le_trans (SC.sum_mem (List.mem_of_getElem? hq)) HSUM.out
                have k5 := cell_go K5.out HB3.out
                obtain ⟨wt1, wt2⟩ := WP.parse_wt hwx.parse
                have hql := P.quote_le q
                have hcn : WP.cntL (gpL x.parts) ≤ 3000 ∧ WP.sizL (gpL x.parts) ≤ 3000 := ⟨by omega, by omega⟩
                have HLI := Lib.hid (LitR_any (gpL x.parts) _ wr q hwx.kinds ((WP.lit_gp _).trans hwx.lit) (by have := len_cnt (gpL x.parts); omega) (by omega) hgs)
                have HVA := Lib.hid (fun Y (hY : Below wr.heap.size wr Y) => show Calls Try.prog 16 #[.slice A2 x.parts.length cap2] Y (fun e w' => e = .returned (.int .i64 0) ∧ Below Y.heap.size Y w') from by
                  have := Valid_any HBR.out _ (gpL x.parts) Y (hgs.up hY) (by omega)
                  rw [hwx.show_] at this
                  exact this)
                obtain ⟨np, hnp⟩ : ∃ np, np = x.parts.length := ⟨_, rfl⟩
                rw [← hnp] at c1 HLI HVA
                have np0 : (0 : Int) ≤ (np : Int) := by omega
                have HLT := Lib.hid hlt
                have C1 := Lib.hid c1
                have CK := Lib.hid ck
                have K5' := Lib.hid k5
                clear hq hx hwx e2 e3 hqw hcell hgs hq5 wt1 wt2 hql hcn hnp
                go_wp2_with fail
                refine HLI.out.mono ?_
                rintro e Y ⟨rfl, hb⟩
                have HBY := Lib.hid hb
                clear c1 ck k5
                have c1 := cell_go C1.out hb
                have ck := cell_go CK.out hb
                have k5 := cell_go K5'.out hb
                have HVY := Lib.hid (HVA.out Y hb)
                clear hb
                go_wp2_with fail
                refine HVY.out.mono ?_
                rintro e Z ⟨rfl, hb⟩
                have HBZ := Lib.hid (btr HB3.out (btr HBY.out hb))
                clear hb
                go_wp2
                go_roundg (m - (k3 + 1))
                case measure => have := HLT.out; omega
                case rel => exact ⟨k3 + 1, HLT.out, rfl, by go_num, HBZ⟩
              · have hkend := 0
                have hlt4 : ¬ (k3 : Int) < (m : Int) := by omega
                have HA := Lib.hid (HAW.out wr (HE.out.below (btr HB2.out HB3.out)))
                go_wp2_with fail
                refine HA.out.mono ?_
                rintro e' V4 ⟨rfl, hb⟩
                have HB4 := Lib.hid (btr (btr HB2.out HB3.out) hb)
                clear hb
                go_wp2
                go_ret
                exact ⟨rfl, HB4.out⟩
theorem SimpleWords_all (v : Value) (ls : List (List UInt8)) (w : World) (hA : StV w v ls) (hw : Env w) : Calls Try.prog 5 #[v] w fun e w' => e = .returned (.bool true) ∧ Below w.heap.size w w' := SimpleWords_any brAll v ls w hA hw
end W
end Go.Proofs.Ytlhijlmbfjlglaa
