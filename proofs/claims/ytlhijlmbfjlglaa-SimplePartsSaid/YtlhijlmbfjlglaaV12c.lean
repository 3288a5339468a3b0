/- Chapter 12: SimpleParts walked. -/
import Derived.Test.YtlhijlmbfjlglaaV12
import Derived.Test.YtlhijlmbfjlglaaW12p
import Derived.Test.YtlhijlmbfjlglaaW12q
import Derived.Test.YtlhijlmbfjlglaaW12t
import Derived.Test.YtlhijlmbfjlglaaP12c
import Derived.Test.YtlhijlmbfjlglaaW08p
import Derived.Deep.RegionHeld3
import Derived.IntWalk
namespace Go.Proofs.Ytlhijlmbfjlglaa
open Go.RowKit K
open WP (GP gp gpL)
namespace W
theorem flat_take_le {α β : Type} (f : α → List β) (l : List α) (k : Nat) : ((l.take k).flatMap f).length ≤ (l.flatMap f).length := by
  conv => rhs; rw [← List.take_append_drop k l]
  rw [List.flatMap_append, List.length_append]
  omega
theorem flat_take_succ {α β : Type} (f : α → List β) {l : List α} {k : Nat} {x : α} (h : l[k]? = some x) : (l.take (k + 1)).flatMap f = (l.take k).flatMap f ++ f x := by
  rw [List.take_add_one, h, List.flatMap_append]
  simp
/-- What Redirect gave for the delimiters. -/
def DOne (w : World) (v : Value) (ds : List SC.Dl) : Prop :=
  (v = .slice none 0 0 ∧ ds = []) ∨ ∃ q d, v = .slice (some ⟨q, 0, none⟩) 1 1 ∧ ds = [d] ∧ w.heap[q]? = some (.cells #[.string ⟨d.text.toArray⟩, .bool d.strip, .bool d.quoted] 56 (0, 0))
theorem DOne.go {w w' : World} {v : Value} {ds : List SC.Dl} (h : DOne w v ds) (hb : Below w.heap.size w w') : DOne w' v ds := by
  rcases h with h | ⟨q, d, h1, h2, h3⟩
  · exact .inl h
  · exact .inr ⟨q, d, h1, h2, (hb.block q (Array.getElem?_eq_some_iff.1 h3).1).trans h3⟩
/-- append of what Redirect gave for the delimiters. -/
theorem DOne.app {w : World} {B n : Nat} {Ad : Option Addr} {cd : Nat} {v : Value} {xs ds : List SC.Dl} (h : DOne w v ds) (hr : w.ownsRow B 56 3 (.slice Ad n cd) xs.length (xs.flatMap dlC)) (hn : n = xs.length) (hl : xs.length ≤ 90000) (hB : B ≤ w.heap.size) :
    ∃ A3 n3 c3 w3, (Builtin.append_ #[33, 33] 33 #[.slice Ad n cd, v]).run Try.prog w = .ok (.slice A3 n3 c3) w3 ∧ w3.ownsRow B 56 3 (.slice A3 n3 c3) (xs ++ ds).length ((xs ++ ds).flatMap dlC) ∧ Below B w w3 ∧ n3 = (xs ++ ds).length := by
  obtain ⟨i0, hi, hz0, hz1, hz2⟩ := info_parts infoDelim
  subst hn
  rcases h with ⟨rfl, rfl⟩ | ⟨q, d, rfl, rfl, hq⟩
  · rw [List.append_nil]
    exact ⟨Ad, _, cd, w, run_append_owned_none (P := Try.prog) (w := w) B 33 33 56 i0 3 Try.underlying33 hi (.slice Ad xs.length cd) xs.length _ hr, hr, Below.refl _ _, rfl⟩
  · obtain ⟨v3, w3, hrun, hown3, hgrow3, -, -⟩ := run_append_own_at (P := Try.prog) w B 33 33 56 i0 _ 3 24 Try.underlying33 hi hz0 hz1 hz2 rfl (by decide) (.slice Ad xs.length cd) xs.length _ hr ⟨q, 0, none⟩ 1 1 [.string ⟨d.text.toArray⟩, .bool d.strip, .bool d.quoted] rfl (cells_of3 hq) (by intro u hu; simp at hu; rcases hu with rfl | rfl | rfl <;> rfl) (by unfold maxLen; omega) (by omega) hB
    obtain ⟨A3, c3, rfl⟩ := row_val hown3
    refine ⟨A3, _, c3, w3, hrun, ?_, (Below.refl _ _).grown hgrow3 hB (fun r hr' => (hr.lt r hr').1), by simp⟩
    rw [List.length_append, List.length_singleton, List.flatMap_append, show [d].flatMap dlC = [.string ⟨d.text.toArray⟩, .bool d.strip, .bool d.quoted] by simp [dlC]]
    exact hown3
theorem DS.go {w w' : World} {v : Value} {ds : List SC.Dl} (h : DS w v ds) (hb : Below w.heap.size w w') : DS w' v ds := by
  obtain ⟨A, c, h1, h2⟩ := h
  refine ⟨A, c, h1, fun k d hd => ?_⟩
  obtain ⟨q, e1, e2, e3, e4⟩ := h2 k d hd
  exact ⟨q, e1, cell_go e2 hb, cell_go e3 hb, cell_go e4 hb⟩
/-- Redirect at a redirection's own offset. -/
theorem red_one {s : List UInt8} {r : SC.Rd} {w w' : World} {e : Ending} (hg : SC.GoodR s r) (h : RedOut w (SC.redir s r.pos) e w') :
    ∃ A cap v k, e = .returned (.tuple #[.agg #[.int .i64 r.pos, .int .i64 r.fd, .int .i64 r.op, .int .i64 r.wpos, .slice A r.parts.length cap], v, .int .i64 k, .bool true, .int .i64 0]) ∧ Below w.heap.size w w' ∧ PS w' (fun b => w.heap.size ≤ b) A r.parts ∧ DOne w' v (SC.dAt s r.pos) := by
  unfold SC.dAt
  rcases hg with ⟨k, hr⟩ | ⟨t, st, q, k, hr, h8, h0, hp⟩
  · rw [hr] at h ⊢
    obtain ⟨A, cap, h1, h2, h3⟩ := h
    exact ⟨A, cap, _, _, h1, h2, h3, .inl ⟨rfl, rfl⟩⟩
  · rw [hr] at h ⊢
    obtain ⟨b, h1, h2, h3, h4⟩ := h
    rw [h8, h0, hp]
    exact ⟨none, 0, _, _, h1, h2, .inl rfl, .inr ⟨b, _, rfl, rfl, h4⟩⟩
theorem good_cnt {s : List UInt8} {r : SC.Rd} (hg : SC.GoodR s r) : WP.cntL (gpL r.parts) ≤ s.length := by
  rcases hg with ⟨k, hr⟩ | ⟨t, st, q, k, hr, h8, h0, hp⟩
  · have := SC.redir_cnt s r.pos
    rw [hr] at this
    exact this
  · rw [hp]; exact Nat.zero_le _
theorem row_some2 {w : World} {B : Nat} {e : TypeId} {k : Nat} {A : Option Addr} {n m c : Nat} {xs : List Value} (h : w.ownsRow B e k (.slice A n c) m xs) (hn : 0 < m) : ∃ q, A = some ⟨q, 0, none⟩ ∧ q < w.heap.size ∧ m ≤ c ∧ c ≤ maxLen ∧ ∀ j u, xs[j]? = some u → w.cell? ⟨q, j, none⟩ = some u := by
  rcases h.2 with ⟨-, e⟩ | ⟨q, cap, cur, hv, h2, h3, h4, h5, -⟩
  · omega
  · injection hv with e1 e2 e3
    subst e1 e2 e3
    refine ⟨q, rfl, (Array.getElem?_eq_some_iff.1 h3).1, h4, h5, fun j u hj => ?_⟩
    have := h.cells (g := q) rfl j u hj
    rw [show (⟨q, j, none⟩ : Addr) = (⟨q, 0, none⟩ : Addr).add j by cases j <;> simp [Addr.add]]
    exact this
set_option maxRecDepth 100000 in
set_option maxHeartbeats 16000000 in
theorem SimpleParts_any (hB : BrAll) (s : List UInt8) (z : Int) (w : World) (hw : Env w) : Calls Try.prog 4 #[.string ⟨s.toArray⟩, .int .i64 z] w fun e w' => e = .returned (.bool true) ∧ Below w.heap.size w w' := by
  have HAW := Lib.hid (fun V (hV : Env V) => awake12_any hB V hV)
  have HE := Lib.hid hw
  by_cases hl : s.length ≤ 500
  case neg =>
    have hl1 : ((500 : Int) < (s.length : Int)) = True := eq_true (by omega)
    have HA := Lib.hid (HAW.out w HE.out)
    clear hw hB hl
    go_enter Try.func4, Try.ntmps4
    go_wp2_with fail
    refine HA.out.mono ?_
    rintro e w' ⟨rfl, hb⟩
    have HB := Lib.hid hb
    clear hb
    go_wp2
    go_ret
    exact ⟨rfl, HB.out⟩
  have hl1 : ((500 : Int) < (s.length : Int)) = False := eq_false (by omega)
  have HL := Lib.hid hl
  have HRX := Lib.hid (fun (y : Int) (V : World) => Redirect_any hB s y V (by omega))
  obtain ⟨R, hR⟩ : ∃ R, SC.command s z = R := ⟨_, rfl⟩
  have hC := Command_any hB s z w hw (by omega) (fun y V => HRX.out y V)
  have hG := SC.command_good s z
  rw [hR] at hC hG
  have HC := Lib.hid hC
  clear hw hB hl hR hC
  cases R with
  | err p e =>
    have hkerr := 0
    have he1 : (e == 0) = false := by rw [beq_eq_false_iff_ne]; exact hG
    have he2 : (e != 0) = true := by simp [bne, he1]
    have HC2 := Lib.hid (show Calls Try.prog 9 #[.string ⟨s.toArray⟩, .int .i64 z] w (fun e' w' => e' = .returned (.tuple #[.agg #[.int .i64 0, .int .i64 0, .string ⟨#[]⟩, .bool false, .slice none 0 0, .slice none 0 0, .slice none 0 0, .slice none 0 0, .slice none 0 0], .slice none 0 0, .int .i64 p, .int .i64 e]) ∧ Below w.heap.size w w') from HC.out)
    clear hG HC
    go_enter Try.func4, Try.ntmps4
    go_wp2_with fail
    refine HC2.out.mono ?_
    rintro e' V1 ⟨rfl, hb⟩
    obtain ⟨V2, hV2⟩ : ∃ V2, V2 = V1.alloc (.cells #[.int .i64 0, .int .i64 0, .string ⟨#[]⟩, .bool false, .slice none 0 0, .slice none 0 0, .slice none 0 0, .slice none 0 0, .slice none 0 0] 32) := ⟨_, rfl⟩
    have hb2 : Below w.heap.size w V2 := by rw [hV2]; exact btr hb (balloc _ _)
    have k5 := (show V2.cell? ⟨V1.heap.size, 5, none⟩ = some (.slice none 0 0) by rw [hV2]; exact Lib.cell_of_heap (al_new V1 _) 5)
    have HB2 := Lib.hid hb2
    have HA := Lib.hid (HAW.out V2 (HE.out.below hb2))
    have HV2 := Lib.hid hV2
    clear hb hb2 hV2 HC2
    go_upto_if 29 with (fail)
    rw [← HV2.out]
    go_wp2_with fail
    refine HA.out.mono ?_
    rintro e' V3 ⟨rfl, hb⟩
    have HB3 := Lib.hid (btr HB2.out hb)
    clear hb
    go_wp2
    go_ret
    exact ⟨rfl, HB3.out⟩
  | ok st =>
    obtain ⟨pos, qs, ws, rs, ds, a⟩ := st
    obtain ⟨g1, g2, g3, g4⟩ := hG
    dsimp only at g1 g2 g3 g4
    have HG1 := Lib.hid g1
    have HG2 := Lib.hid g2
    have HG3 := Lib.hid g3
    have HG4 := Lib.hid g4
    have HC2 := Lib.hid (show Calls Try.prog 9 #[.string ⟨s.toArray⟩, .int .i64 z] w (CmdOut w (.ok ⟨pos, qs, ws, rs, ds, a⟩)) from HC.out)
    clear g1 g2 g3 g4 HC
    go_enter Try.func4, Try.ntmps4
    go_wp2_with fail
    refine HC2.out.mono ?_
    rintro e' V1 ⟨va, vw, vr, vd, rfl, hb, ac, wc, rc, h1, h2, h3, h4, i1, i2, i3⟩
    obtain ⟨Aa, ca, rfl⟩ := row_val h1
    obtain ⟨Aw, cw, rfl⟩ := row_val h2
    obtain ⟨Ar, cr, rfl⟩ := row_val h3
    obtain ⟨Ad, cd, rfl⟩ := row_val h4
    dsimp only at h1 h2 h3 h4 i1 i2 i3 ⊢
    obtain ⟨la, hla⟩ : ∃ la, qs.length = la := ⟨_, rfl⟩
    obtain ⟨lw, hlw⟩ : ∃ lw, ws.length = lw := ⟨_, rfl⟩
    obtain ⟨m, hm⟩ : ∃ m, rs.length = m := ⟨_, rfl⟩
    obtain ⟨ld, hld⟩ : ∃ ld, ds.length = ld := ⟨_, rfl⟩
    have HM := Lib.hid hm
    have HLD := Lib.hid hld
    rw [hla, hlw, hm, hld]
    have m0 : (0 : Int) ≤ (m : Int) := by omega
    have m1 : (m : Int) ≤ 500 := by have := HG3.out; have := HL.out; omega
    obtain ⟨V2, hV2⟩ : ∃ V2, V2 = V1.alloc (.cells #[.int .i64 1, .int .i64 pos, .string ⟨#[]⟩, .bool false, .slice Aa la ca, .slice Aw lw cw, .slice Ar m cr, .slice none 0 0, .slice none 0 0] 32) := ⟨_, rfl⟩
    obtain ⟨n1, hn1⟩ : ∃ n1, n1 = V1.heap.size := ⟨_, rfl⟩
    have hb2 : Below V1.heap.size V1 V2 := by rw [hV2]; exact balloc _ _
    have HB2 := Lib.hid (btr hb hb2)
    have HK6 := Lib.hid (show V2.cell? ⟨n1, 6, none⟩ = some (.slice Ar m cr) by rw [hV2, hn1]; exact Lib.cell_of_heap (al_new V1 _) 6)
    have HRW := Lib.hid (row_below h3 hb2)
    have HIR := Lib.hid (i3.mono (F' := fun _ => True) (fun b _ hl => ⟨trivial, hb2.block b hl⟩))
    have HDS := Lib.hid (DS.of_row (row_below h4 hb2))
    have HV2 := Lib.hid hV2
    have HN1 := Lib.hid hn1
    clear hb hb2 h1 h2 h3 h4 i1 i2 i3 hla hlw hm hld hV2 hn1 HC2
    go_upto_if 29 with (fail)
    rw [← HV2.out, ← HN1.out]
    go_wp2
    go_loopg [9, 10] m (fun g v i wr => ∃ k : Nat, k ≤ m ∧ g = m - k ∧ i = .int .i64 k ∧ Hid (wr.ownsRow V2.heap.size 56 3 v ((rs.take k).flatMap fun r => SC.dAt s r.pos).length (((rs.take k).flatMap fun r => SC.dAt s r.pos).flatMap dlC)) ∧ Hid (Below V2.heap.size V2 wr))
    case atStart => exact ⟨0, Nat.zero_le _, rfl, rfl, Lib.hid ⟨rfl, .inl ⟨rfl, rfl⟩⟩, Lib.hid (Below.refl _ _)⟩
    case round =>
      obtain ⟨k, hk, rfl, rfl, HO, HB⟩ := hrel
      obtain ⟨xs, hxs⟩ : ∃ xs, ((rs.take k).flatMap fun r => SC.dAt s r.pos) = xs := ⟨_, rfl⟩
      have HXS := Lib.hid hxs
      rw [hxs] at HO
      obtain ⟨Ax, cx, rfl⟩ := row_val HO.out
      obtain ⟨lx, hlx⟩ : ∃ lx, lx = xs.length := ⟨_, rfl⟩
      have HLX := Lib.hid hlx
      rw [← hlx] at HO ⊢
      have x0 : (0 : Int) ≤ (lx : Int) := by omega
      have k6 := cell_go HK6.out HB.out
      clear hxs hlx
      by_cases hlt : k < m
      · have hkround := 0
        have hlt2 : (k : Int) < (m : Int) := by omega
        obtain ⟨r, hr⟩ : ∃ r, rs[k]? = some r := ⟨_, List.getElem?_eq_getElem (by have := HM.out; omega)⟩
        have HGD := Lib.hid (HG1.out r (List.mem_of_getElem? hr))
        obtain ⟨A2, cap2, e1, e2, e3⟩ := HIR.out.at_ (k := 4) (i := k) (p := rdIt r) (by intro q hq; simp at hq; obtain ⟨y, -, rfl⟩ := hq; rfl) (by rw [List.getElem?_map, hr]; rfl)
        obtain ⟨qr, rfl, hqr, hmc, hcm, hcell⟩ := row_some2 (row_below HRW.out HB.out) (by have := HM.out; omega)
        rw [HM.out] at hmc
        have c0 : wr.cell? ⟨qr, k * 5, none⟩ = some (.int .i64 r.pos) := hcell (k * 5) _ (e1 0 _ rfl)
        have c1 : wr.cell? ⟨qr, k * 5 + 1, none⟩ = some (.int .i64 r.fd) := hcell (k * 5 + 1) _ (e1 1 _ rfl)
        have c2 : wr.cell? ⟨qr, k * 5 + 2, none⟩ = some (.int .i64 r.op) := hcell (k * 5 + 2) _ (e1 2 _ rfl)
        have c4 : wr.cell? ⟨qr, k * 5 + 4, none⟩ = some (.slice A2 r.parts.length cap2) := hcell (k * 5 + 4) _ e2
        have HGS := Lib.hid ((show PS V2 (fun _ => True) A2 r.parts from e3).gs cap2 |>.up HB.out)
        have HFL := Lib.hid (flat_take_succ (fun r => SC.dAt s r.pos) hr)
        have HR1 := Lib.hid (HRX.out r.pos wr)
        have hxl : xs.length ≤ 90000 := by
          have := flat_take_le (fun r : SC.Rd => SC.dAt s r.pos) rs k
          rw [← HG2.out, HXS.out] at this
          have := HG4.out
          have := HL.out
          omega
        have HXL := Lib.hid hxl
        have HCM := Lib.hid (And.intro hmc hcm)
        clear hr e1 e2 e3 hqr hmc hcm hcell hxl
        obtain ⟨rp, rfd, rop, rwp, rps⟩ := r
        dsimp only at c0 c1 c2 c4 HGS HFL HR1
        have C1 := Lib.hid c1
        have C2 := Lib.hid c2
        have C4 := Lib.hid c4
        have C0 := Lib.hid c0
        have K6 := Lib.hid k6
        clear c1 c2 c4
        go_wp2_with fail
        refine HR1.out.mono ?_
        intro e' V5 ho
        obtain ⟨A3, cap3, v, kk, rfl, hb, hps, hd⟩ := red_one (r := ⟨rp, rfd, rop, rwp, rps⟩) HGD.out ho
        dsimp only at hps hd ⊢
        obtain ⟨np, hnp⟩ : ∃ np, np = rps.length := ⟨_, rfl⟩
        have HNP := Lib.hid hnp
        rw [← hnp]
        have p0 : (0 : Int) ≤ (np : Int) := by omega
        obtain ⟨V6, hV6⟩ : ∃ V6, V6 = V5.alloc (.cells #[.int .i64 rp, .int .i64 rfd, .int .i64 rop, .int .i64 rwp, .slice A3 np cap3] 41) := ⟨_, rfl⟩
        obtain ⟨q5, hq5⟩ : ∃ q5, q5 = V5.heap.size := ⟨_, rfl⟩
        have hb6 : Below wr.heap.size wr V6 := by rw [hV6]; exact btr hb (balloc _ _)
        have hx6 : V6.heap[q5]? = some (.cells #[.int .i64 rp, .int .i64 rfd, .int .i64 rop, .int .i64 rwp, .slice A3 np cap3] 41 (0, 0)) := by rw [hV6, hq5]; exact al_new V5 _
        have HB6 := Lib.hid hb6
        have HX6 := Lib.hid hx6
        have HP6 := Lib.hid (show PS V6 (fun b => wr.heap.size ≤ b) A3 rps from by rw [hV6]; exact hps.go (balloc _ _) |>.mono fun b h1 _ => ⟨h1, rfl⟩)
        have HD6 := Lib.hid (show DOne V6 v (SC.dAt s rp) from by rw [hV6]; exact hd.go (balloc _ _))
        have HV6 := Lib.hid hV6
        have HQ5 := Lib.hid hq5
        clear ho hb hps hd hnp hV6 hq5 hb6 hx6 HR1 c0 k6
        go_wp2_with fail
        rw [← HV6.out, ← HQ5.out]
        have HSR := Lib.hid (show Calls Try.prog 11 #[.slice (some ⟨V6.heap.size, 0, none⟩) 1 1, .slice (some ⟨qr, k * 5, none⟩) 1 (cr - k)] (V6.alloc (.cells #[.int .i64 rp, .int .i64 rfd, .int .i64 rop, .int .i64 rwp, .slice A3 np cap3] 41)).drew (fun e w' => e = .returned (.bool true) ∧ Below (V6.alloc (.cells #[.int .i64 rp, .int .i64 rfd, .int .i64 rop, .int .i64 rwp, .slice A3 np cap3] 41)).drew.heap.size (V6.alloc (.cells #[.int .i64 rp, .int .i64 rfd, .int .i64 rop, .int .i64 rwp, .slice A3 np cap3] 41)).drew w') from by
          have hn := show (V6.alloc (.cells #[.int .i64 rp, .int .i64 rfd, .int .i64 rop, .int .i64 rwp, .slice A3 np cap3] 41)).drew.heap[V6.heap.size]? = some (.cells #[.int .i64 rp, .int .i64 rfd, .int .i64 rop, .int .i64 rwp, .slice A3 np cap3] 41 (0, 0)) from al_new V6 _
          have hb2 : Below V6.heap.size V6 (V6.alloc (.cells #[.int .i64 rp, .int .i64 rfd, .int .i64 rop, .int .i64 rwp, .slice A3 np cap3] 41)).drew := (balloc V6 _).drew
          have hb1 := btr HB6.out hb2
          have hc4 := C4.out
          have hgs := HGS.out
          have hps := PS.gs cap3 HP6.out
          rw [← HNP.out] at hc4 hgs hps
          exact SameRedirs_one (gpL rps) _ (by have := good_cnt HGD.out; have := HL.out; dsimp only at *; omega) V6.heap.size qr (k * 5) np cap3 cap2 1 (cr - k) A3 A2 rfd rop (Lib.cell_of_heap hn 1) (Lib.cell_of_heap hn 2) (Lib.cell_of_heap hn 4) (cell_go C1.out hb1) (cell_go C2.out hb1) (cell_go hc4 hb1) (hps.up hb2) (hgs.up hb1))
        obtain ⟨r0, r1, r2, r3, r4, -, -, -, -, -⟩ := blkR HX6.out
        have k6 := cell_go K6.out HB6.out
        have c0 := cell_go C0.out HB6.out
        have hcr : (k : Int) + 1 ≤ (cr : Int) := by have := HCM.out.1; omega
        have hcr0 : (0 : Int) ≤ (cr : Int) := by omega
        have hck : ¬ cr = k := by omega
        have HS0 := Lib.hid (fun (w' : World) (hb : Below V6.heap.size V6 w') => show (w'.cell? ⟨q5, 0, none⟩ = some (.int .i64 rp) ∧ w'.cell? ⟨q5, 1, none⟩ = some (.int .i64 rfd) ∧ w'.cell? ⟨q5, 2, none⟩ = some (.int .i64 rop) ∧ w'.cell? ⟨q5, 3, none⟩ = some (.int .i64 rwp) ∧ w'.cell? ⟨q5, 4, none⟩ = some (.slice A3 np cap3) ∧ w'.cell? ⟨n1, 6, none⟩ = some (.slice (some ⟨qr, 0, none⟩) m cr) ∧ w'.cell? ⟨qr, k * 5, none⟩ = some (.int .i64 rp) ∧ Below V6.heap.size V6 w') from ⟨cell_go r0 hb, cell_go r1 hb, cell_go r2 hb, cell_go r3 hb, cell_go r4 hb, cell_go k6 hb, cell_go c0 hb, hb⟩)
        have f1 : (rp != rp) = false := by simp
        have k1 : IntKind.i64.wrap ((k : Int) + 1) = (k : Int) + 1 := IntWalk.i64_in _ (by omega)
        have k2 : (0 : Int) ≤ (k : Int) + 1 := by omega
        have k3 : ((k : Int) + 1).toNat = k + 1 := by omega
        have HMK := Lib.hid (And.intro hlt m1)
        go_region_held3 (fun w' => w'.cell? ⟨q5, 0, none⟩ = some (.int .i64 rp) ∧ w'.cell? ⟨q5, 1, none⟩ = some (.int .i64 rfd) ∧ w'.cell? ⟨q5, 2, none⟩ = some (.int .i64 rop) ∧ w'.cell? ⟨q5, 3, none⟩ = some (.int .i64 rwp) ∧ w'.cell? ⟨q5, 4, none⟩ = some (.slice A3 np cap3) ∧ w'.cell? ⟨n1, 6, none⟩ = some (.slice (some ⟨qr, 0, none⟩) m cr) ∧ w'.cell? ⟨qr, k * 5, none⟩ = some (.int .i64 rp) ∧ Below V6.heap.size V6 w')
          (first | exact HS0.out _ ((Below.refl _ _).drew) | exact HS0.out _ ((balloc _ _).drew) | exact HS0.out _ (by assumption))
          ((go_at_call 11; refine HSR.out.mono ?_; rintro e' Y ⟨rfl, hb⟩; replace hb : Below V6.heap.size V6 Y := btr (balloc V6 _).drew hb))
        have HBY := Lib.hid (show Below V6.heap.size V6 Y by assumption)
        have hle : V2.heap.size ≤ Y.heap.size := Nat.le_trans HB.out.size (Nat.le_trans HB6.out.size HBY.out.size)
        obtain ⟨A4, n4, c4, w4, hrun, hown4, hb4, hn4⟩ := (HD6.out.go HBY.out).app (B := V2.heap.size) (show Y.ownsRow V2.heap.size 56 3 (.slice Ax lx cx) xs.length (xs.flatMap dlC) by rw [← HLX.out]; exact row_below HO.out (btr HB6.out HBY.out)) HLX.out HXL.out hle
        have HRUN := Lib.hid hrun
        have HOWN := Lib.hid hown4
        have HBW := Lib.hid ((btr HB.out (btr HB6.out HBY.out)).trans hb4)
        clear hrun hown4 hb4 hn4 hle r0 r1 r2 r3 r4 k6 c0 k1 k2 k3 f1 hck
        go_wp2_with (at_builtin; refine wpList_append_eq rfl _ _ 33 rfl _ _ _ rfl rfl HRUN.out ?_)
        go_roundg (m - (k + 1))
        case measure => have := HMK.out; omega
        case rel => exact ⟨k + 1, HMK.out.1, rfl, by go_num, Lib.hid (by rw [HFL.out, HXS.out]; exact HOWN.out), HBW⟩
      · have hkend := 0
        have hlt2 : ¬ (k : Int) < (m : Int) := by omega
        have hkm : k = m := by omega
        have hds : xs = ds := by rw [HG2.out, ← HXS.out, hkm, ← HM.out, List.take_length]
        have HS := Lib.hid (SameDelims_any ds (.slice Ax lx cx) (.slice Ad ld cd) wr (by have := HG4.out; have := HL.out; omega) (by rw [← hds, HLX.out]; exact DS.of_row (HLX.out ▸ HO.out)) (by rw [← HLD.out]; exact HDS.out.go HB.out))
        clear hds hkm
        go_wp2_with fail
        refine HS.out.mono ?_
        rintro e' V3 ⟨rfl, hb⟩
        have HB3 := Lib.hid (btr (btr HB2.out HB.out) hb)
        have HA := Lib.hid (HAW.out V3 (HE.out.below HB3.out))
        clear hb
        go_wp2_with fail
        refine HA.out.mono ?_
        rintro e' V4 ⟨rfl, hb⟩
        have HB4 := Lib.hid (btr HB3.out hb)
        clear hb
        go_wp2
        go_ret
        exact ⟨rfl, HB4.out⟩
theorem SimpleParts_all (s : List UInt8) (z : Int) (_hz : (Lit.int .i64 z).wf = true) (w : World) (hw : Env w) : Calls Try.prog 4 #[.string ⟨s.toArray⟩, .int .i64 z] w fun e w' => e = .returned (.bool true) ∧ Below w.heap.size w w' := SimpleParts_any brAll s z w hw
end W
end Go.Proofs.Ytlhijlmbfjlglaa
