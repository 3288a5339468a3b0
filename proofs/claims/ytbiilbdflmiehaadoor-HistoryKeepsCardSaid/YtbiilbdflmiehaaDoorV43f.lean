/- Chapter 43: the walk of the law HistoryKeeps. -/
import Derived.Test.YtbiilbdflmiehaaDoorW43l
import Derived.Test.YtbiilbdflmiehaaDoorW43d
import Derived.Deep.RegionHeld3
import Derived.OpenShut
import Derived.Test.YtbiilbdflmiehaaDoorV43
import Derived.Test.YtbiilbdflmiehaaDoorS3
namespace Go.Proofs.YtbiilbdflmiehaaDoor
open Go.RowKit K
namespace W

/-- A value that reads as bytes. -/
def BV (w : World) (v : Value) (zs : List Int) : Prop := ∃ A c, v = .slice A zs.length c ∧ zs.length ≤ c ∧ c ≤ 9223372036854775807 ∧ IL .u8 w A zs
theorem bounds_u8 {n : Int} (h : (Lit.int .u8 n).wf = true) : 0 ≤ n ∧ n ≤ 255 := by
  simp [Lit.wf, IntKind.min, IntKind.max, IntKind.signed, IntKind.bits] at h
  omega
theorem str_two' (W : World) (g : Nat) (hg : W.heap.size = g) (a b : Int) (ha : 0 ≤ a ∧ a ≤ 255) (hb : 0 ≤ b ∧ b ≤ 255) :
    (convert 47 9 (.slice (some ⟨g, 0, none⟩) 2 2)).run Tryd.prog (W.alloc (.cells #[.int .u8 a, .int .u8 b] 5)).drew = .ok (.string ⟨#[by8 a, by8 b]⟩) (W.alloc (.cells #[.int .u8 a, .int .u8 b] 5)).drew := by
  subst hg
  refine run_convert_bytes_back (l := [by8 a, by8 b]) _ _ _ _ _ _ Tryd.underlying47 Tryd.underlying5 Tryd.underlying9 ?_
  intro j hj
  match j, hj with
  | 0, _ => simp [Addr.add, by8_toNat a ha.1 ha.2]
  | 1, _ => simp [Addr.add, by8_toNat b hb.1 hb.2]
theorem str_two (W : World) (a b : Int) (ha : 0 ≤ a ∧ a ≤ 255) (hb : 0 ≤ b ∧ b ≤ 255) :
    (convert 47 9 (.slice (some ⟨W.heap.size, 0, none⟩) 2 2)).run Tryd.prog (W.alloc (.cells #[.int .u8 a, .int .u8 b] 5)).drew = .ok (.string ⟨#[by8 a, by8 b]⟩) (W.alloc (.cells #[.int .u8 a, .int .u8 b] 5)).drew := str_two' W _ rfl a b ha hb
theorem str_two3 (W : World) (o : Obj) (a b : Int) (ha : 0 ≤ a ∧ a ≤ 255) (hb : 0 ≤ b ∧ b ≤ 255) :
    (convert 47 9 (.slice (some ⟨W.heap.size, 0, none⟩) 2 2)).run Tryd.prog ((W.alloc (.cells #[.int .u8 a, .int .u8 b] 5)).alloc o).drew = .ok (.string ⟨#[by8 a, by8 b]⟩) ((W.alloc (.cells #[.int .u8 a, .int .u8 b] 5)).alloc o).drew := by
  refine run_convert_bytes_back (l := [by8 a, by8 b]) _ _ _ _ _ _ Tryd.underlying47 Tryd.underlying5 Tryd.underlying9 ?_
  intro j hj
  match j, hj with
  | 0, _ => simp [Addr.add, by8_toNat a ha.1 ha.2]
  | 1, _ => simp [Addr.add, by8_toNat b hb.1 hb.2]
theorem bcell {W w1 : World} (hb : Below W.heap.size W w1) : (∀ b o, b < W.heap.size → w1.cell? ⟨b, o, none⟩ = W.cell? ⟨b, o, none⟩) ∧ (∀ b o, b < W.heap.size → w1.frozen? ⟨b, o, none⟩ = W.frozen? ⟨b, o, none⟩) :=
  ⟨fun b o h => hb.cell (p := ⟨b, o, none⟩) h, fun b o h => hb.frozen (p := ⟨b, o, none⟩) h⟩
section
open Go.ChangeShapes Go.WideShapes
theorem bytes_of {H : Type} {enc : TypeId × Value → H} {w : World} {r : Reach} {b0 : Nat} {v : Value} {d : DataW H} {p : List MemPlace} (hv0 : Value.okWide Tryd.prog w r b0 47 v) (h : DataW.Trod enc Tryd.prog w 0 (fun _ => true) true 47 v d p) (_hw : ∀ n ∈ d.weights Tryd.prog 47, n ≤ reachBytes) :
    ∃ zs, BV w v zs ∧ (∀ z ∈ zs, (Lit.int .u8 z).wf = true) ∧ True := by
  obtain ⟨m, hm⟩ := h
  obtain ⟨a0, len, cap, rfl⟩ := okWide_slice Tryd.underlying47 hv0
  obtain ⟨A, c, zs, hc, h1, h2, -, h4, h5⟩ := ints_of Tryd.underlying47 Tryd.underlying5 (by kernel_rfl) hm
  exact ⟨zs, ⟨A, c, hc, h1, h2, h4⟩, h5, trivial⟩
end
theorem two_new (W : World) (o1 o2 : Obj) : ((W.alloc o1).alloc o2).drew.heap[W.heap.size]? = some o1 ∧ ((W.alloc o1).alloc o2).drew.heap[W.heap.size + 1]? = some o2 := by
  have h1 := Below.heap_alloc (W.alloc o1) o2 W.heap.size (by simp)
  have h2 := heap_alloc_new (W.alloc o1) o2
  rw [show (W.alloc o1).heap.size = W.heap.size + 1 by simp] at h2
  exact ⟨h1.trans (heap_alloc_new W o1), h2⟩
theorem HV.moved {w w' : World} {f : Int} {A : Option Addr} {n c : Nat} {l : List (List UInt8)} (h : HV w (hv f A n c) f l) (hs : ∀ A ls, SL w A ls → SL w' A ls) : HV w' (hv f A n c) f l := by
  obtain ⟨A', c', e, h1, h2, h3, h4⟩ := h
  exact ⟨A', c', e, h1, h2, h3, hs _ _ h4⟩
set_option maxHeartbeats 4000000 in
set_option maxRecDepth 100000 in
theorem HistoryKeeps_walk (v : Value) (first : Int) (ls : List (List UInt8)) (vm : Value) (ms : List Int) (w : World) (hV : HV w v first ls) (hn : ls.length ≤ 8796093022208) (hs : ∀ s ∈ ls, s.length ≤ 140737488351232) (hvm : BV w vm ms) (hmw : ∀ z ∈ ms, (Lit.int .u8 z).wf = true) (_hm0 : True) (hw : Env w) :
    Calls Tryd.prog 9 #[v, vm] w fun e w' => e = .returned (.bool true) ∧ Below w.heap.size w w' := by
  have HA := Lib.hid awake_any
  have HOK := Lib.hid (fun w' (hb : Below w.heap.size w w') => ok_any v first ls w' (hV.below hb) hn hs)
  have HV0 := Lib.hid hV
  obtain ⟨A, c, rfl, -, hd, -, hS⟩ := hV
  obtain ⟨Am, cm, rfl, hm1, hm2, hmI⟩ := hvm
  have HMI := Lib.hid hmI
  have HMW := Lib.hid hmw
  clear hmI hmw
  obtain ⟨x0, q0, hX0, hy0, hz0⟩ := Box2.fresh w first A ls.length c 24
  have HX0 := Lib.hid hX0
  have Q0 := Lib.hid q0
  have HB0 := Lib.hid hy0
  have HE := Lib.hid hw
  clear hX0 q0 hy0 hw hs
  simp only [hv] at *
  cases hok : P.okB first ls with
  | false =>
    rw [hok] at HOK
    clear hok
    go_enter Tryd.func9, Tryd.ntmps9
    go_wp2_with fail
    rw [← Q0.out]
    refine (HOK.out _ HB0.out).mono ?_
    rintro e w1 ⟨rfl, hb1⟩
    have B1 := Lib.hid (btr HB0.out hb1)
    have HX1 := Lib.hid (HX0.out.later hb1)
    clear hb1
    go_wp2_with fail
    refine (HA.out _ (HE.out.below B1.out)).mono ?_
    rintro e w2 ⟨rfl, hb2⟩
    have B2 := Lib.hid (btr B1.out hb2)
    clear hb2
    go_wp2
    go_ret
    exact ⟨rfl, B2.out⟩
  | true =>
    rw [hok] at HOK
    obtain ⟨hval, htot⟩ := P.okB_parts hok
    obtain ⟨p1, p2, p3, -⟩ := P.valid_parts hval
    have HVAL := Lib.hid hval
    clear hok hval
    by_cases hl0 : ls = []
    · subst hl0
      simp only [List.length_nil] at *
      go_enter Tryd.func9, Tryd.ntmps9
      go_wp2_with fail
      rw [← Q0.out]
      refine (HOK.out _ HB0.out).mono ?_
      rintro e w1 ⟨rfl, hb1⟩
      have B1 := Lib.hid (btr HB0.out hb1)
      have HX1 := Lib.hid (HX0.out.later hb1)
      obtain ⟨f0, f1', f2, f3⟩ := HX1.out.cells
      clear hb1
      go_wp2_with fail
      refine (HA.out _ (HE.out.below B1.out)).mono ?_
      rintro e w2 ⟨rfl, hb2⟩
      have B2 := Lib.hid (btr B1.out hb2)
      clear hb2
      go_wp2
      go_ret
      exact ⟨rfl, B2.out⟩
    have hpos : 0 < ls.length := List.length_pos_iff.2 hl0
    have hz1 : ((ls.length : Int) == 0) = false := by simp; omega
    by_cases hl : 300 < ms.length
    · have fl : ((300 : Int) < (ms.length : Int)) = True := eq_true (by omega)
      clear hl
      go_enter Tryd.func9, Tryd.ntmps9
      go_wp2_with fail
      rw [← Q0.out]
      refine (HOK.out _ HB0.out).mono ?_
      rintro e w1 ⟨rfl, hb1⟩
      have B1 := Lib.hid (btr HB0.out hb1)
      have HX1 := Lib.hid (HX0.out.later hb1)
      obtain ⟨f0, f1', f2, f3⟩ := HX1.out.cells
      clear hb1
      go_wp2_with fail
      refine (HA.out _ (HE.out.below B1.out)).mono ?_
      rintro e w2 ⟨rfl, hb2⟩
      have B2 := Lib.hid (btr B1.out hb2)
      clear hb2
      go_wp2
      go_ret
      exact ⟨rfl, B2.out⟩
    have fl : ((300 : Int) < (ms.length : Int)) = False := eq_false (by omega)
    have hms : ms.length ≤ 300 := by omega
    have HKS := Lib.hid (P.kept_start HVAL.out hl0)
    obtain ⟨b0, off0, hA0, hb0, hcl⟩ := hS.get (k := ls.length - 1) (by omega)
    obtain ⟨s, hs0⟩ : ∃ s, ls.getD (ls.length - 1) [] = s := ⟨_, rfl⟩
    rw [hs0] at HKS hcl
    subst hA0
    have HCL := Lib.hid (fun w' (hb : Below w.heap.size w w') => (hb.cell (p := ⟨b0, off0 + (ls.length - 1), none⟩) hb0).trans hcl)
    have HLL := Lib.hid hl
    clear hl0 hl hs0 hcl hS
    have i1 : (0 : Int) ≤ (ls.length : Int) - 1 := by omega
    have i2 : (ls.length : Int) - 1 < (ls.length : Int) := by omega
    go_enter Tryd.func9, Tryd.ntmps9
    go_wp2_with fail
    rw [← Q0.out]
    refine (HOK.out _ HB0.out).mono ?_
    rintro e w1 ⟨rfl, hb1⟩
    have B1 := Lib.hid (btr HB0.out hb1)
    have HX1 := Lib.hid (HX0.out.later hb1)
    obtain ⟨f0, f1', f2, f3⟩ := HX1.out.cells
    clear hb1
    have hcell := HCL.out _ B1.out
    go_wp2
    have hN1 : first + (ls.length : Int) - 1 ≤ 2147483700 := by omega
    have hN2 : 1 ≤ first + (ls.length : Int) - 1 := by omega
    generalize first + (ls.length : Int) - 1 = N at *
    clear f0 f1' f2 f3 hcell
    go_loopw [7] (fun i wr => ∃ (k : Nat) (f : Int) (l : List (List UInt8)) (A : Option Addr) (c : Nat), k ≤ ms.length ∧ i = .int .i64 k ∧ Box2 wr w.heap.size (.int .i64 f) (.slice A l.length c) 24 ∧ HV wr (hv f A l.length c) f l ∧ Below w.heap.size w wr ∧ Hid (P.Kept N s f l)) (fun i _ => ms.length - (intOf i).toNat)
    case atStart => exact ⟨0, first, ls, _, c, by omega, rfl, HX1.out, HV0.out.below B1.out, B1.out, HKS.out⟩
    case round =>
      obtain ⟨k, f, l, A, c, hk, rfl, hXr, hVr, hbr, HK⟩ := hrel
      have HXr := Lib.hid hXr
      have HVr := Lib.hid hVr
      have HBr := Lib.hid hbr
      clear hXr hVr hbr
      by_cases hlt : k < ms.length
      · obtain ⟨bm, om, rfl, hbm, hcx⟩ := (HMI.out.below HBr.out).get hlt
        have hx0 := HMW.out (ms.getD k 0) (by rw [List.getD_eq_getElem?_getD, List.getElem?_eq_getElem hlt]; exact List.getElem_mem hlt)
        obtain ⟨x, hx⟩ : ∃ x, ms.getD k 0 = x := ⟨_, rfl⟩
        rw [hx] at hcx hx0
        obtain ⟨x1, x2⟩ := bounds_u8 hx0
        clear hx hx0
        obtain ⟨f0, f1', f2, f3⟩ := HXr.out.cells
        have hcu : HV wr (hv f A l.length c) f l := HVr.out
        obtain ⟨vv, v1, v2, v3⟩ := P.valid_parts HK.out.1
        have k0 : (0 : Int) ≤ (k : Int) := by omega
        have k1 : (k : Int) < (ms.length : Int) := by omega
        have HKP : Hid (∀ w', Below wr.heap.size wr w' → w'.cell? ⟨w.heap.size, 0, none⟩ = some (.int .i64 f) ∧ w'.cell? ⟨w.heap.size, 1, none⟩ = some (.slice A l.length c) ∧ w'.cell? ⟨bm, om + k, none⟩ = some (.int .u8 x) ∧ Below wr.heap.size wr w') := fun w' hb =>
          ⟨(HXr.out.later hb).cells.1, (HXr.out.later hb).cells.2.1, (hb.cell (p := ⟨bm, om + k, none⟩) hbm).trans hcx, hb⟩
        obtain ⟨ya, hya⟩ : ∃ y, IntKind.u8.wrap (97 + x.tmod 16) = y := ⟨_, rfl⟩
        obtain ⟨yb, hyb⟩ : ∃ y, IntKind.u8.wrap (97 + IntKind.u8.wrap (x.tdiv 16)) = y := ⟨_, rfl⟩
        have ya0 : 0 ≤ ya ∧ ya ≤ 255 := by rw [← hya, IntKind.wrap_u8]; omega
        have yb0 : 0 ≤ yb ∧ yb ≤ 255 := by rw [← hyb, IntKind.wrap_u8]; omega
        have hcv1 := str_two wr ya yb ya0 yb0
        have hcv2 := str_two' (wr.alloc (.cells #[.int .i64 0, .slice none 0 0] 24)) (wr.heap.size + 1) (by simp) ya yb ya0 yb0
        have hcv3 := str_two3 wr (.cells #[.int .i64 0, .slice none 0 0] 24) ya yb ya0 yb0
        obtain ⟨ln, hln⟩ : ∃ ln, [by8 ya, by8 yb] = ln := ⟨_, rfl⟩
        have hl2 : ln.length ≤ 10 := by subst hln; simp
        have HL2 := Lib.hid (show ln ≠ [] by subst hln; simp)
        have h5 : Hid (∀ w, HV w (hv f A l.length c) f l → Calls Tryd.prog 15 #[hv f A l.length c, .string ⟨ln.toArray⟩] w (HPost w (P.addH f l ln))) := fun w h => Add_any (hv f A l.length c) f l ln w h vv v1 v2 (by omega)
        obtain ⟨⟨f', l', z⟩, hR⟩ : ∃ R, P.addH f l ln = R := ⟨_, rfl⟩
        rw [hR] at h5
        have HR := Lib.hid hR
        have h5' : Hid (∀ w, HV w (hv f A l.length c) f l → Calls Tryd.prog 15 #[.agg #[.int .i64 f, .slice A l.length c], .string ⟨#[by8 ya, by8 yb]⟩] w (fun e w' => ∃ A6 c6, e = .returned (.tuple #[.agg #[.int .i64 f', .slice A6 l'.length c6], .int .i64 z]) ∧ HV w' (hv f' A6 l'.length c6) f' l' ∧ Below w.heap.size w w')) := fun w h => by
          subst hln
          exact (h5.out w h).mono fun e w' ⟨v, h1, ⟨A6, c6, h2, h3⟩, h4⟩ => ⟨A6, c6, by rw [h1, h2]; rfl, ⟨A6, c6, rfl, h3⟩, h4⟩
        clear hR hcu v3 hln
        go_wp2_with fail
        go_region_held (fun w' => w'.cell? ⟨w.heap.size, 0, none⟩ = some (.int .i64 f) ∧ w'.cell? ⟨w.heap.size, 1, none⟩ = some (.slice A l.length c) ∧ w'.cell? ⟨bm, om + k, none⟩ = some (.int .u8 x) ∧ Below wr.heap.size wr w')
          (first | exact HKP.out _ (Below.refl _ _).drew | exact HKP.out _ hB6 | exact HKP.out _ (hB6.alloc hB6.size _) | exact HKP.out _ ((hB6.setCell (by simp) _).setCell (by simp) _) | (refine HKP.out _ ?_; go_grown; done))
          (first
            | (go_at_call 15; go_split_ands; (with_reducible refine (h5'.out _ (HVr.out.below ‹_›)).mono ?_); rintro e w6 ⟨A6, c6, rfl, hV6, hb6⟩; obtain ⟨hq1, hq2⟩ := bcell hb6; have hB6 := btr ‹Below wr.heap.size wr _› hb6))
        all_goals
          have HV6 := Lib.hid hV6
          have HB6 := Lib.hid hB6
          have hlt6 : w.heap.size < w6.heap.size := (HXr.out.later hB6).lt
          have hltr : w.heap.size < wr.heap.size := HXr.out.lt
          first
            | (obtain ⟨x6, q6, hX6, hy6, hz6⟩ := Box2.fresh w6 f' A6 l'.length c6 24
               rw [← q6]
               have HX6 := Lib.hid hX6
               have HVx := Lib.hid (HV6.out.below hy6)
               have HBx := Lib.hid (btr HB6.out hy6)
               have hgne : ¬ w.heap.size = w6.heap.size := by omega
               clear hX6 hy6 q6)
            | (obtain ⟨x6, q6, hX6, hy6, hz6, hs6, -⟩ := (show Box2 w6 (wr.heap.size + 1) (.int .i64 0) (.slice none 0 0) 24 from ⟨(hb6.block _ (by simp)).trans (two_new wr _ _).2, by simp, by simp⟩).store f' A6 l'.length c6
               rw [← q6]
               have HX6 := Lib.hid hX6
               have HVx := Lib.hid (show HV x6 (hv f' A6 l'.length c6) f' l' from HV6.out.moved hs6)
               have HBx := Lib.hid (HB6.out.trans (hy6 wr.heap.size (by omega)))
               have hgne : ¬ w.heap.size = wr.heap.size + 1 := by omega
               clear hX6 hy6 q6 hs6)
            | (obtain ⟨x6, q6, hX6, hy6, hz6, hs6, -⟩ := (show Box2 w6 wr.heap.size (.int .i64 0) (.slice none 0 0) 24 from ⟨(hb6.block _ (by simp <;> omega)).trans (two_new wr _ _).1, by simp, by simp⟩).store f' A6 l'.length c6
               rw [← q6]
               have HX6 := Lib.hid hX6
               have HVx := Lib.hid (show HV x6 (hv f' A6 l'.length c6) f' l' from HV6.out.moved hs6)
               have HBx := Lib.hid (HB6.out.trans (hy6 wr.heap.size (by omega)))
               have hgne : ¬ w.heap.size = wr.heap.size := by omega
               clear hX6 hy6 q6 hs6)
          clear hq1 hq2 hb6 hV6 hB6 f0 f1' f2 f3
          try clear hHeld
          have HXo := Lib.hid (HXr.out.later HBx.out)
          have Bx := Lib.hid (btr HBr.out HBx.out)
          by_cases hz : z = 0
          · subst hz
            have HKN := Lib.hid (P.kept_add HK.out HR.out HL2.out)
            obtain ⟨u1, u2, u3, -⟩ := P.valid_parts HKN.out.1
            obtain ⟨e0, e1, -, -⟩ := HX6.out.cells
            obtain ⟨o0, o1, o2, o3⟩ := HXo.out.cells
            obtain ⟨x7, q7, hX7, hy7, hz7, hs7, -⟩ := HXo.out.store f' A6 l'.length c6
            have Q7 := Lib.hid q7
            have HX7 := Lib.hid hX7
            have HV7 := Lib.hid (HVx.out.moved hs7)
            have B7 := Lib.hid (Bx.out.trans (hy7 w.heap.size (Nat.le_refl _)))
            clear q7 hX7 hy7 hs7
            have h9 := Lib.hid (fun w h => Get_any (hv f' A6 l'.length c6) f' l' N w h u1 u2 u3 (by omega) (by omega))
            rcases P.kept_get HKN.out with ⟨t1, t2⟩ | ⟨t1, t2, t3⟩
            · rw [t2] at h9
              have tg : (f' > N) = False := eq_false (by omega)
              have t1' := Lib.hid t1
              clear t2 t1
              go_wp2_with fail
              rw [← Q7.out]
              refine (h9.out _ HV7.out).mono ?_
              rintro e w8 ⟨rfl, hb8⟩
              simp only [strNum]
              have HX8 := Lib.hid (HX7.out.later hb8)
              obtain ⟨m0, m1, -, -⟩ := HX8.out.cells
              have HV8 := Lib.hid (HV7.out.below hb8)
              have B8 := Lib.hid (btr B7.out hb8)
              clear hb8 e0 e1 o0 o1 o2 o3
              go_wp2
              go_roundw
              case rel => exact ⟨k + 1, f', l', A6, c6, by omega, by go_num, HX8.out, HV8.out, B8.out, HKN.out⟩
              case measure => simp [intOf]; omega
            · rw [t2] at h9
              have tg : (f' > N) = True := eq_true (by omega)
              have tc : ¬ f' + (l'.length : Int) - 1 - N < 128 := by omega
              have t1' := Lib.hid t1
              have t3' := Lib.hid t3
              clear t2 t1 t3
              go_wp2_with fail
              rw [← Q7.out]
              refine (h9.out _ HV7.out).mono ?_
              rintro e w8 ⟨rfl, hb8⟩
              simp only [strNum]
              have HX8 := Lib.hid (HX7.out.later hb8)
              obtain ⟨m0, m1, -, -⟩ := HX8.out.cells
              have HV8 := Lib.hid (HV7.out.below hb8)
              have B8 := Lib.hid (btr B7.out hb8)
              clear hb8 e0 e1 o0 o1 o2 o3
              go_wp2
              go_roundw
              case rel => exact ⟨k + 1, f', l', A6, c6, by omega, by go_num, HX8.out, HV8.out, B8.out, HKN.out⟩
              case measure => simp [intOf]; omega
          · have fz : (z != 0) = true := by simp [hz]
            clear hz
            go_wp2_with fail
            refine (HA.out _ (HE.out.below Bx.out)).mono ?_
            rintro e w8 ⟨rfl, hb8⟩
            have B8 := Lib.hid (btr Bx.out hb8)
            clear hb8
            go_wp2
            go_ret
            exact ⟨rfl, B8.out⟩
      · have hlt2 : ¬ (k : Int) < (ms.length : Int) := by omega
        go_wp2_with fail
        refine (HA.out _ (HE.out.below HBr.out)).mono ?_
        rintro e w8 ⟨rfl, hb8⟩
        have B8 := Lib.hid (btr HBr.out hb8)
        clear hb8
        go_wp2
        go_ret
        exact ⟨rfl, B8.out⟩
end W
end Go.Proofs.YtbiilbdflmiehaaDoor
