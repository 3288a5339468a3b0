/- Chapter 12: the examples of its statements, walked. -/
import Derived.Test.YtlhijlmbfjlglaaYD
import Derived.Test.YtlhijlmbfjlglaaW12f
import Derived.Test.YtlhijlmbfjlglaaW12m
import Derived.Laws.StructEq
namespace Go.Proofs.Ytlhijlmbfjlglaa
open Go.RowKit K
open WP (GP gp gpL)
namespace W
theorem cell_go {W V : World} {a : Addr} {v : Value} (h : W.cell? a = some v) (hb : Below W.heap.size W V) : V.cell? a = some v :=
  (World.cell?_of_block (hb.block _ (World.block_lt_of_cell? _ _ h))).trans h
/-- The first example's command, and what of its lists is asked. -/
structure AwN (V : World) (n1 qa ca : Nat) (Aw : Option Addr) (cw qr cr : Nat) : Prop where
  k0 : V.cell? ⟨n1, 0, none⟩ = some (.int .i64 1)
  k4 : V.cell? ⟨n1, 4, none⟩ = some (.slice (some ⟨qa, 0, none⟩) 1 ca)
  k5 : V.cell? ⟨n1, 5, none⟩ = some (.slice Aw 2 cw)
  k6 : V.cell? ⟨n1, 6, none⟩ = some (.slice (some ⟨qr, 0, none⟩) 2 cr)
  a1 : V.cell? ⟨qa, 1, none⟩ = some (.string ⟨#[120]⟩)
  r5 : V.cell? ⟨qr, 5, none⟩ = some (.int .i64 11)
  r6 : V.cell? ⟨qr, 6, none⟩ = some (.int .i64 2)
  r7 : V.cell? ⟨qr, 7, none⟩ = some (.int .i64 5)
theorem AwN.go {V V' : World} {n1 qa ca : Nat} {Aw : Option Addr} {cw qr cr : Nat} (h : AwN V n1 qa ca Aw cw qr cr) (hb : Below V.heap.size V V') : AwN V' n1 qa ca Aw cw qr cr :=
  ⟨cell_go h.k0 hb, cell_go h.k4 hb, cell_go h.k5 hb, cell_go h.k6 hb, cell_go h.a1 hb, cell_go h.r5 hb, cell_go h.r6 hb, cell_go h.r7 hb⟩
structure AwD (V : World) (q : Nat) : Prop where
  d0 : V.cell? ⟨q, 0, none⟩ = some (.string ⟨#[69]⟩)
  d1 : V.cell? ⟨q, 1, none⟩ = some (.bool true)
  d2 : V.cell? ⟨q, 2, none⟩ = some (.bool true)
theorem AwD.go {V V' : World} {q : Nat} (h : AwD V q) (hb : Below V.heap.size V V') : AwD V' q := ⟨cell_go h.d0 hb, cell_go h.d1 hb, cell_go h.d2 hb⟩
/-- What the first example's command leaves. -/
def AwC (w : World) (e : Ending) (w' : World) : Prop :=
  ∃ p qa ca Aw cw qr cr Ad cd, e = .returned (.tuple #[.agg #[.int .i64 1, .int .i64 p, .string ⟨#[]⟩, .bool false, .slice (some ⟨qa, 0, none⟩) 1 ca, .slice Aw 2 cw, .slice (some ⟨qr, 0, none⟩) 2 cr, .slice none 0 0, .slice none 0 0], .slice Ad 0 cd, .int .i64 15, .int .i64 0]) ∧ Below w.heap.size w w' ∧
    AwN (w'.alloc (.cells #[.int .i64 1, .int .i64 p, .string ⟨#[]⟩, .bool false, .slice (some ⟨qa, 0, none⟩) 1 ca, .slice Aw 2 cw, .slice (some ⟨qr, 0, none⟩) 2 cr, .slice none 0 0, .slice none 0 0] 32)) w'.heap.size qa ca Aw cw qr cr
theorem row_some {w : World} {B : Nat} {e : TypeId} {k : Nat} {v : Value} {n : Nat} {xs : List Value} (h : w.ownsRow B e k v n xs) (hn : 0 < n) : ∃ q c, v = .slice (some ⟨q, 0, none⟩) n c ∧ ∀ j u, xs[j]? = some u → w.cell? ⟨q, j, none⟩ = some u := by
  rcases h.2 with e | ⟨q, cap, cur, hv, h2⟩
  · omega
  · refine ⟨q, cap, hv, fun j u hj => ?_⟩
    have := h.cells (g := q) (by rw [hv]; rfl) j u hj
    rw [show (⟨q, j, none⟩ : Addr) = (⟨q, 0, none⟩ : Addr).add j by cases j <;> simp [Addr.add]]
    exact this
theorem aw_cmd (hB : BrAll) (w : World) (hw : Env w) (hRed : ∀ (s : List UInt8) (y : Int) (V : World), s.length ≤ 16384 → Calls Try.prog 10 #[.string ⟨s.toArray⟩, .int .i64 y] V (RedOut V (SC.redir s y))) :
    Calls Try.prog 9 #[.string ⟨#[120, 61, 49, 32, 97, 32, 60, 102, 32, 98, 32, 50, 62, 38, 49, 59, 32, 99]⟩, .int .i64 0] w (AwC w) := by
  have h := Command_any hB [120, 61, 49, 32, 97, 32, 60, 102, 32, 98, 32, 50, 62, 38, 49, 59, 32, 99] 0 w hw (by decide) (fun y V => hRed _ y V (by decide))
  obtain ⟨p, a, w1, w2, r1, r2, he, h1, h2, h3, h4⟩ := SC.ckA_eq SC.aw1
  rw [he] at h
  refine h.mono ?_
  rintro e w' ⟨va, vw, vr, vd, rfl, hb, ac, wc, rc, c1, c2, c3, c4, i1, i2, i3⟩
  obtain ⟨qa, ca, rfl, g1⟩ := row_some c1 (Nat.succ_pos _)
  obtain ⟨Aw, cw, rfl⟩ := row_val c2
  obtain ⟨qr, cr, rfl, g3⟩ := row_some c3 (Nat.succ_pos _)
  obtain ⟨Ad, cd, rfl⟩ := row_val c4
  obtain ⟨-, -, e1, -, -⟩ := i1.at_ (k := 3) (i := 0) (p := asIt a) (by intro q hq; simp at hq; subst hq; rfl) rfl
  obtain ⟨-, -, e3, -, -⟩ := i3.at_ (k := 4) (i := 1) (p := rdIt r2) (by intro q hq; simp at hq; rcases hq with rfl | rfl <;> rfl) rfl
  have hz := al_new w' (.cells #[.int .i64 1, .int .i64 p, .string ⟨#[]⟩, .bool false, .slice (some ⟨qa, 0, none⟩) 1 ca, .slice Aw 2 cw, .slice (some ⟨qr, 0, none⟩) 2 cr, .slice none 0 0, .slice none 0 0] 32)
  refine ⟨p, qa, ca, Aw, cw, qr, cr, Ad, cd, rfl, hb, Lib.cell_of_heap hz 0, Lib.cell_of_heap hz 4, Lib.cell_of_heap hz 5, Lib.cell_of_heap hz 6, cell_go (g1 1 _ (e1 1 _ ?_)) (balloc _ _), cell_go (g3 5 _ (e3 0 _ ?_)) (balloc _ _), cell_go (g3 6 _ (e3 1 _ ?_)) (balloc _ _), cell_go (g3 7 _ (e3 2 _ ?_)) (balloc _ _)⟩
  · rw [← h1]; rfl
  · rw [← h2]; rfl
  · rw [← h3]; rfl
  · rw [← h4]; rfl
set_option maxRecDepth 100000 in
set_option maxHeartbeats 8000000 in
theorem awake12_any (hB : BrAll) (w : World) (hw : Env w) : Calls Try.prog 6 #[] w fun e w' => e = .returned (.bool true) ∧ Below w.heap.size w w' := by
  have hRed : ∀ (s : List UInt8) (y : Int) (V : World), s.length ≤ 16384 → Calls Try.prog 10 #[.string ⟨s.toArray⟩, .int .i64 y] V (RedOut V (SC.redir s y)) := fun s y V hs => Redirect_any hB s y V hs
  have HC1 := Lib.hid (aw_cmd hB w hw hRed)
  obtain ⟨rp, rfd, rk, hre⟩ := SC.ckR_eq SC.aw2
  have HR2 := Lib.hid (fun V => show Calls Try.prog 10 #[.string ⟨#[32, 60, 60, 45, 39, 69, 39, 32, 120]⟩, .int .i64 0] V (RedOut V (.here rp rfd [69] true true rk)) from by rw [← hre]; exact hRed _ 0 V (by decide))
  have HA3 := Lib.hid (fun V (hV : Env V) => show Calls Try.prog 7 #[.string ⟨#[120, 61, 49, 61, 50]⟩] V (fun e w' => e = .returned (.tuple #[.string ⟨#[120]⟩, .string ⟨#[49, 61, 50]⟩, .bool true]) ∧ Below V.heap.size V w') from Assignment_any [120, 61, 49, 61, 50] V hV (by decide) _ _ _ SC.aw3)
  have HC4 := Lib.hid (fun V (hV : Env V) => show Calls Try.prog 9 #[.string ⟨#[62, 102, 32, 105, 102]⟩, .int .i64 0] V (CmdOut V (.err 3 6)) from by rw [← SC.aw4]; exact Command_any hB _ 0 V hV (by decide) (fun y V => hRed _ y V (by decide)))
  have HE := Lib.hid hw
  clear hB hRed hre hw
  go_enter Try.func6, Try.ntmps6
  go_wp2_with fail
  refine HC1.out.mono ?_
  rintro e V1 ⟨p, qa, ca, Aw, cw, qr, cr, Ad, cd, rfl, hb, hN⟩
  obtain ⟨V2, hV2⟩ : ∃ V2, V2 = V1.alloc (.cells #[.int .i64 1, .int .i64 p, .string ⟨#[]⟩, .bool false, .slice (some ⟨qa, 0, none⟩) 1 ca, .slice Aw 2 cw, .slice (some ⟨qr, 0, none⟩) 2 cr, .slice none 0 0, .slice none 0 0] 32) := ⟨_, rfl⟩
  obtain ⟨n1, hn1⟩ : ∃ n1, n1 = V1.heap.size := ⟨_, rfl⟩
  have HB2 := Lib.hid (show Below w.heap.size w V2 by rw [hV2]; exact btr hb (balloc _ _))
  have HN2 := Lib.hid (show AwN V2 n1 qa ca Aw cw qr cr by rw [hV2, hn1]; exact hN)
  have HV2 := Lib.hid hV2
  have HN1 := Lib.hid hn1
  clear hb hN hV2 hn1 HC1
  go_upto_region 2 with (fail)
  rw [← HV2.out, ← HN1.out]
  go_wp2_with fail
  refine (HR2.out _).mono ?_
  rintro e V3 ⟨q, rfl, hb, -, hd⟩
  obtain ⟨V4, hV4⟩ : ∃ V4, V4 = V3.alloc (.cells #[.int .i64 rp, .int .i64 rfd, .int .i64 8, .int .i64 0, .slice none 0 0] 41) := ⟨_, rfl⟩
  have hb4 : Below V2.heap.size V2 V4 := by rw [hV4]; exact btr hb (balloc _ _)
  have HB4 := Lib.hid (btr HB2.out hb4)
  have HN4 := Lib.hid (HN2.out.go hb4)
  have HD4 := Lib.hid (show AwD V4 q from by
    rw [hV4]
    exact (show AwD V3 q from ⟨Lib.cell_of_heap hd 0, Lib.cell_of_heap hd 1, Lib.cell_of_heap hd 2⟩).go (balloc _ _))
  have HV4 := Lib.hid hV4
  clear hb hb4 hd hV4 HR2
  go_upto_region 3 with (fail)
  rw [← HV4.out]
  have HA4 := Lib.hid (HA3.out V4 (HE.out.below HB4.out))
  go_wp2_with fail
  refine HA4.out.mono ?_
  rintro e V5 ⟨rfl, hb⟩
  have HB5 := Lib.hid (btr HB4.out hb)
  have HN5 := Lib.hid (HN4.out.go hb)
  have HD5 := Lib.hid (HD4.out.go hb)
  have HC5 := Lib.hid (HC4.out V5 (HE.out.below HB5.out))
  clear hb HA4 HA3 HC4
  go_wp2_with fail
  refine HC5.out.mono ?_
  rintro e V6 ⟨rfl, hb⟩
  obtain ⟨V7, hV7⟩ : ∃ V7, V7 = V6.alloc (.cells #[.int .i64 0, .int .i64 0, .string ⟨#[]⟩, .bool false, .slice none 0 0, .slice none 0 0, .slice none 0 0, .slice none 0 0, .slice none 0 0] 32) := ⟨_, rfl⟩
  have hb7 : Below V5.heap.size V5 V7 := by rw [hV7]; exact btr hb (balloc _ _)
  have HB7 := Lib.hid (btr HB5.out hb7)
  obtain ⟨k0, k4, k5, k6, a1, r5, r6, r7⟩ := HN5.out.go hb7
  obtain ⟨d0, d1, d2⟩ := HD5.out.go hb7
  have HV7 := Lib.hid hV7
  clear hb hb7 hV7 HC5
  go_upto_region 5 with (fail)
  rw [← HV7.out]
  go_wp2
  go_ret
  exact ⟨rfl, HB7.out⟩
end W
end Go.Proofs.Ytlhijlmbfjlglaa
