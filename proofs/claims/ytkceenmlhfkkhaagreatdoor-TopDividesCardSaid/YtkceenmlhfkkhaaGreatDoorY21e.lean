/- Several texts in one: W21e W21f W21g. -/
import Derived.Test.YtkceenmlhfkkhaaGreatDoorY21
import Derived.Test.YtkceenmlhfkkhaaGreatDoorG08a
import Derived.Laws.CopyRow
namespace Go.Proofs.YtkceenmlhfkkhaaGreatDoor
open Go.RowKit K
open WP (GP gp gpL)
namespace W
set_option maxRecDepth 100000
theorem one_r (s : List UInt8) (c : Int) (V : World) : Calls Tryz.prog 86 #[.string ⟨s.toArray⟩, .int .i64 c] V fun e w' => ∃ b, e = .returned (.slice (some ⟨b, 0, none⟩) 1 1) ∧ R2 w' (.slice (some ⟨b, 0, none⟩) 1 1) [(s, c)] ∧ Below V.heap.size V w' :=
  (one_any s c V).mono fun e w' ⟨h1, h2⟩ => ⟨_, h1, by rw [h2]; exact run_one _ _ _ _, by rw [h2]; exact balloc _ _⟩
section
variable {w : World} {g : Nat} {VA : Option Addr} {vn vc : Nat} {PA : Option Addr} {pn pc : Nat} {opt : Int} {fv : Value} {vars : List VR.Var} {ps : List (List UInt8)} {y : VR.Var}
/-- What part makes of a part in a mode, in any later world. -/
def PCON (w : World) (g : Nat) (p : GP) (q f : Bool) (c : Int) (rs : List SP.Run) : Prop :=
  ∀ (Y : World) (A : Option Addr) (cap : Nat), Below w.heap.size w Y → GS Y (fun _ => True) (.slice A p.parts.length cap) p.parts → Calls Tryz.prog 52 #[.pointer (some ⟨g, 0, none⟩), .agg #[.int .i64 p.kind, .string ⟨p.text.toArray⟩, .int .i64 p.op, .bool p.colon, .slice A p.parts.length cap], .agg #[.bool q, .bool f, .int .i64 c]] Y (RunOut Y rs)
set_option maxHeartbeats 4000000 in
theorem part_text (t : List UInt8) (o : Int) (b : Bool) (l : List GP) (q f : Bool) (c : Int) : PCON w g (.mk 1 t o b l) q f c [(t, if q = true then 1 else c)] := by
  intro Y A cap _ _
  dsimp only [GP.kind, GP.text, GP.op, GP.colon, GP.parts]
  obtain ⟨k, hk⟩ : ∃ k, (if q = true then (1 : Int) else c) = k := ⟨_, rfl⟩
  have HM := Lib.hid (fun V => mliteral_any q f c V)
  rw [hk] at HM ⊢
  have HO := Lib.hid (fun V => one_r t k V)
  obtain ⟨X, hX⟩ : ∃ X, X = (Y.alloc (.cells #[.int .i64 1, .string ⟨t.toArray⟩, .int .i64 o, .bool b, .slice A l.length cap] 114)).alloc (.cells #[.bool q, .bool f, .int .i64 c] 90) := ⟨_, rfl⟩
  have HX := Lib.hid hX
  have HBX := Lib.hid (show Below Y.heap.size Y X by rw [hX]; exact btr (balloc _ _) (balloc _ _))
  have hp : X.heap[Y.heap.size]? = some (.cells #[.int .i64 1, .string ⟨t.toArray⟩, .int .i64 o, .bool b, .slice A l.length cap] 114 (0, 0)) := by rw [hX]; exact (Below.heap_alloc _ _ _ (by simp)).trans (al_new Y _)
  have hm : X.heap[Y.heap.size + 1]? = some (.cells #[.bool q, .bool f, .int .i64 c] 90 (0, 0)) := by rw [hX]; exact al_new' _ _ _ (by simp)
  have HP := Lib.hid (fun V (hV : Below X.heap.size X V) => (show (V.cell? ⟨Y.heap.size, 0, none⟩ = some (.int .i64 1) ∧ V.cell? ⟨Y.heap.size, 1, none⟩ = some (.string ⟨t.toArray⟩)) ∧ (V.cell? ⟨Y.heap.size + 1, 0, none⟩ = some (.bool q) ∧ V.cell? ⟨Y.heap.size + 1, 1, none⟩ = some (.bool f) ∧ V.cell? ⟨Y.heap.size + 1, 2, none⟩ = some (.int .i64 c)) ∧ Below X.heap.size X V from ⟨⟨(p5 ((hV.block _ (Array.getElem?_eq_some_iff.1 hp).1).trans hp)).1, (p5 ((hV.block _ (Array.getElem?_eq_some_iff.1 hp).1).trans hp)).2.1⟩, m3 ((hV.block _ (Array.getElem?_eq_some_iff.1 hm).1).trans hm), hV⟩))
  obtain ⟨⟨p0, p1⟩, ⟨m0, m1, m2⟩, -⟩ := HP.out X (Below.refl _ _)
  have z1 := (Array.getElem?_eq_some_iff.1 hm).1
  have z2 : Y.heap.size < X.heap.size := by omega
  clear hX hp hm hk
  go_enter Tryz.func52, Tryz.ntmps52
  go_upto_region 3 with (fail)
  rw [← HX.out]
  go_region_held_law (fun V => (V.cell? ⟨Y.heap.size, 0, none⟩ = some (.int .i64 1) ∧ V.cell? ⟨Y.heap.size, 1, none⟩ = some (.string ⟨t.toArray⟩)) ∧ (V.cell? ⟨Y.heap.size + 1, 0, none⟩ = some (.bool q) ∧ V.cell? ⟨Y.heap.size + 1, 1, none⟩ = some (.bool f) ∧ V.cell? ⟨Y.heap.size + 1, 2, none⟩ = some (.int .i64 c)) ∧ Below X.heap.size X V)
    (first | exact HP.out _ (Below.refl _ _).drew | exact HP.out _ hv2 | exact HP.out _ hv1)
    (first
      | (go_at_call 87; refine (HM.out _).mono ?_; rintro e V1 ⟨rfl, hv0⟩; have hv1 : Below X.heap.size X V1 := (Below.refl _ _).drew.trans hv0)
      | (go_at_call 86; refine (HO.out _).mono ?_; rintro e V2 ⟨b2, rfl, hr2, hv3⟩; have hv2 : Below X.heap.size X V2 := btr hv1 hv3))
  all_goals
    have HR := Lib.hid hr2
    have HB := Lib.hid (btr HBX.out hv2)
    clear hr2 hv0 hv1 hv2 hv3
    go_wp2
    go_ret2
    exact ⟨_, rfl, HR.out, HB.out⟩
set_option maxHeartbeats 4000000 in
theorem part_quoted (t : List UInt8) (o : Int) (b : Bool) (l : List GP) (q f : Bool) (c : Int) : PCON w g (.mk 2 t o b l) q f c [(t, 1)] := by
  intro Y A cap _ _
  dsimp only [GP.kind, GP.text, GP.op, GP.colon, GP.parts]
  have HO := Lib.hid (fun V => one_r t 1 V)
  obtain ⟨X, hX⟩ : ∃ X, X = (Y.alloc (.cells #[.int .i64 2, .string ⟨t.toArray⟩, .int .i64 o, .bool b, .slice A l.length cap] 114)).alloc (.cells #[.bool q, .bool f, .int .i64 c] 90) := ⟨_, rfl⟩
  have HX := Lib.hid hX
  have HBX := Lib.hid (show Below Y.heap.size Y X by rw [hX]; exact btr (balloc _ _) (balloc _ _))
  have hp : X.heap[Y.heap.size]? = some (.cells #[.int .i64 2, .string ⟨t.toArray⟩, .int .i64 o, .bool b, .slice A l.length cap] 114 (0, 0)) := by rw [hX]; exact (Below.heap_alloc _ _ _ (by simp)).trans (al_new Y _)
  obtain ⟨p0, p1, p2, p3, p4⟩ := p5 hp
  have z2 := (Array.getElem?_eq_some_iff.1 hp).1
  clear hX hp
  go_enter Tryz.func52, Tryz.ntmps52
  go_upto_region 1 with (fail)
  rw [← HX.out]
  go_wp2_with fail
  refine (HO.out _).mono ?_
  rintro e V ⟨b2, rfl, hr, hv⟩
  have HR := Lib.hid hr
  have HB := Lib.hid (btr HBX.out hv)
  clear hr hv
  go_wp2
  go_ret2
  exact ⟨_, rfl, HR.out, HB.out⟩
set_option maxHeartbeats 4000000 in
theorem part_x (hx : EXC w g VA vn vc PA pn pc opt fv vars ps y) (q f : Bool) (c : Int) : PCON w g (.mk 4 [120] 0 false []) q f c [(y.value, cls q)] := by
  intro Y A cap hwY _
  dsimp only [GP.kind, GP.text, GP.op, GP.colon, GP.parts]
  obtain ⟨X, hX⟩ := bx2 Y 4 [120] A 0 cap q f c
  have HXE := Lib.hid hX.eq
  have HBX := Lib.hid hX.bel
  have HPR := Lib.hid (parameter_x (hx.below (hwY.trans (hX.bel.mono hwY.size))) A cap q f c)
  obtain ⟨⟨p0, p1, p2, p3, p4⟩, ⟨m0, m1, m2⟩, z1, z2⟩ := hX.at_ (Below.refl _ _)
  generalize y.value = s at *
  clear hX hx
  go_enter Tryz.func52, Tryz.ntmps52
  go_upto_region 1 with (fail)
  rw [← HXE.out]
  go_wp2_with fail
  refine HPR.out.mono ?_
  rintro e V ⟨v', rfl, hr, hv⟩
  have HR := Lib.hid hr
  have HB := Lib.hid (btr HBX.out hv)
  obtain ⟨Av, cv, rfl, -⟩ := HR.out.slice
  clear hr hv
  go_wp2
  go_ret2
  exact ⟨_, rfl, HR.out, HB.out⟩
end
end W
end Go.Proofs.YtkceenmlhfkkhaaGreatDoor
namespace Go.Proofs.YtkceenmlhfkkhaaGreatDoor
open Go.RowKit K
open WP (GP gp gpL)
namespace W
set_option maxRecDepth 100000
abbrev GT (w : World) (v : Value) (l : List GP) : Prop := GS w (fun _ => True) v l
theorem GS.any {w : World} {F : Nat → Prop} {v : Value} {l : List GP} (h : GS w F v l) : GT w v l := h.mono fun _ _ _ => ⟨trivial, rfl⟩
theorem R2.flat {w : World} {b off : Nat} {l : List SP.Run} (h : RAt 2 e2 w b off l) : ∀ j u, (l.flatMap e2)[j]? = some u → w.cell? ((⟨b, off, none⟩ : Addr).add j) = some u := h.flat e2_len
theorem e2s_one (l : List SP.Run) : ∀ u ∈ l.flatMap e2, u.oneCell' = true := by
  intro u hu
  obtain ⟨x, _, hx⟩ := List.mem_flatMap.1 hu
  exact e2_one x u hx
theorem flat_take {rss : List (List SP.Run)} {k : Nat} {rs : List SP.Run} (h : rss[k]? = some rs) : (rss.take (k + 1)).flatten = (rss.take k).flatten ++ rs := by
  rw [List.take_add_one, h]
  simp
theorem flat_take_len (rss : List (List SP.Run)) (k : Nat) : (rss.take k).flatten.length ≤ rss.flatten.length := by
  have h : rss.flatten = (rss.take k).flatten ++ (rss.drop k).flatten := by rw [← List.flatten_append, List.take_append_drop]
  rw [h, List.length_append]
  omega
section
variable {w : World} {g : Nat} {VA : Option Addr} {vn vc : Nat} {PA : Option Addr} {pn pc : Nat} {opt : Int} {fv : Value} {vars : List VR.Var} {ps : List (List UInt8)} {y : VR.Var}
set_option maxHeartbeats 8000000 in
theorem parts_any (l : List GP) (rss : List (List SP.Run)) (q f : Bool) (c : Int) (v : Value) (hv : GT w v l) (hlen : rss.length = l.length) (hl : l.length ≤ 100000) (hb : rss.flatten.length ≤ 100000)
    (hne : ∀ rs ∈ rss, rs ≠ []) (hc : ∀ (i : Nat) (p : GP) (rs : List SP.Run), l[i]? = some p → rss[i]? = some rs → PCON w g p q f c rs) :
    Calls Tryz.prog 36 #[.pointer (some ⟨g, 0, none⟩), v, .agg #[.bool q, .bool f, .int .i64 c]] w (RunOut w rss.flatten) := by
  obtain ⟨i0, hi, hz0, hz1, hz2⟩ := info_parts infoRun
  obtain ⟨A, cap, rfl⟩ := hv.slice
  have HV := Lib.hid hv
  have HC := Lib.hid hc
  have HNE := Lib.hid hne
  have HB := Lib.hid hb
  obtain ⟨X0, hX0⟩ : ∃ X0, X0 = w.alloc (.cells #[.bool q, .bool f, .int .i64 c] 90) := ⟨_, rfl⟩
  have HX0 := Lib.hid hX0
  have HBX := Lib.hid (show Below w.heap.size w X0 by rw [hX0]; exact balloc _ _)
  have hm0 : X0.heap[w.heap.size]? = some (.cells #[.bool q, .bool f, .int .i64 c] 90 (0, 0)) := by rw [hX0]; exact al_new w _
  have HM0 := Lib.hid hm0
  have hmf : ∀ (fn : Fn) (first cap : Array Value) (w : World), (Instr.makeFunc fn first cap).run Tryz.prog w = .ok (.func fn first cap) w := fun _ _ _ _ => rfl
  have hzx : w.heap.size < X0.heap.size := (Array.getElem?_eq_some_iff.1 hm0).1
  clear hv hc hne hb hX0 hm0
  go_enter Tryz.func36, Tryz.ntmps36
  go_upto_region 1 with (fail)
  rw [← HX0.out]
  go_wp2
  go_loopw [9, 18] (fun o i wr => ∃ k : Nat, k ≤ l.length ∧ i = .int .i64 k ∧ (∃ acc : List SP.Run, Hid (acc = (rss.take k).flatten) ∧ Hid (OR 2 e2 121 w.heap.size wr o acc)) ∧ Hid (Below X0.heap.size X0 wr ∨ Below w.heap.size w wr ∧ wr.heap[w.heap.size]? = some (.cells #[.bool q, .bool f, .int .i64 c] 90 (0, 0)))) (fun _ i _ => l.length - (intOf i).toNat)
  case atStart => exact ⟨0, Nat.zero_le _, rfl, ⟨[], Lib.hid rfl, Lib.hid (OR.nil _ _ _)⟩, Lib.hid (.inl (Below.refl _ _))⟩
  case round =>
    obtain ⟨k, hk, rfl, ⟨acc, HACC, HO⟩, HW⟩ := hrel
    obtain ⟨A1, c1, rfl⟩ := HO.out.val
    have HWB := Lib.hid (show Below w.heap.size w wr ∧ wr.heap[w.heap.size]? = some (.cells #[.bool q, .bool f, .int .i64 c] 90 (0, 0)) from by
      rcases HW.out with h | h
      · exact ⟨HBX.out.trans (h.mono HBX.out.size), (h.block _ hzx).trans HM0.out⟩
      · exact h)
    have hfl := flat_take_len rss k
    rw [← HACC.out] at hfl
    by_cases hlt : k < l.length
    · obtain ⟨p, hp, -⟩ := get_of_lt hlt
      obtain ⟨rs, hrs⟩ : ∃ rs, rss[k]? = some rs := ⟨_, List.getElem?_eq_getElem (by omega)⟩
      obtain ⟨b, off, A2, cap2, rfl, -, g0, g1, g2, g3, g4, hg⟩ := (HV.out.below HWB.out.1).get hp
      have HPC := Lib.hid (HC.out k p rs hp hrs)
      have HRN := Lib.hid (HNE.out rs (List.mem_of_getElem? hrs))
      have HFT := Lib.hid (show (rss.take (k + 1)).flatten = acc ++ rs by rw [HACC.out]; exact flat_take hrs)
      have HFB := Lib.hid (show acc.length + rs.length ≤ 100000 from by
        have h1 := flat_take_len rss (k + 1)
        rw [flat_take hrs, ← HACC.out, List.length_append] at h1
        have h2 := HB.out
        omega)
      obtain ⟨kd, t, o, cl, qs⟩ := p
      dsimp only [GP.kind, GP.text, GP.op, GP.colon, GP.parts] at g0 g1 g2 g3 g4 hg
      obtain ⟨X, hX⟩ : ∃ X, X = wr.alloc (.cells #[.int .i64 kd, .string ⟨t.toArray⟩, .int .i64 o, .bool cl, .slice A2 qs.length cap2] 114) := ⟨_, rfl⟩
      have HX := Lib.hid hX
      have HBW := Lib.hid (show Below wr.heap.size wr X by rw [hX]; exact balloc _ _)
      have hxp : X.heap[wr.heap.size]? = some (.cells #[.int .i64 kd, .string ⟨t.toArray⟩, .int .i64 o, .bool cl, .slice A2 qs.length cap2] 114 (0, 0)) := by rw [hX]; exact al_new wr _
      obtain ⟨x0, x1, x2, x3, x4⟩ := p5 hxp
      have hxl := (Array.getElem?_eq_some_iff.1 hxp).1
      have HMX := Lib.hid ((HBW.out.block _ (Array.getElem?_eq_some_iff.1 HWB.out.2).1).trans HWB.out.2)
      obtain ⟨m0, m1, m2⟩ := m3 HMX.out
      have hml := (Array.getElem?_eq_some_iff.1 HMX.out).1
      have HCALL := Lib.hid (HPC.out X A2 cap2 (HWB.out.1.trans (HBW.out.mono HWB.out.1.size)) (hg.below HBW.out))
      dsimp only [GP.kind, GP.text, GP.op, GP.colon, GP.parts] at HCALL
      have HOX := Lib.hid (HO.out.below HBW.out)
      clear hX hxp hg hp hrs HPC
      go_upto_region 6 with (fail)
      rw [← HX.out]
      go_wp2_with fail
      refine HCALL.out.mono ?_
      rintro e Y ⟨v', rfl, hr, hY⟩
      obtain ⟨rb, ro, rc, rfl, hrc, hrb, hra⟩ := R2.at_ hr HRN.out
      have HRA := Lib.hid hra
      have HY := Lib.hid hY
      have hbase := HWB.out.1.size
      have hxs := HBW.out.size
      have hys := hY.size
      have hfb := HFB.out
      clear hr hra hY
      go_wp2_with (at_builtin; refine wpList_append_own_at _ rfl _ _ 86 rfl w.heap.size 121 i0 _ 2 24 Tryz.underlying86 hi hz0 hz1 hz2 rfl (by decide) _ acc.length _ rfl (row_below HOX.out HY.out) ⟨rb, ro, none⟩ rs.length rc (rs.flatMap e2) rfl (flat_len e2_len rs) (R2.flat HRA.out) (e2s_one rs) (by unfold maxLen; omega) (by omega) (by omega) ?_)
      intro v3 W3 ho3 hg3 _ _
      have HB3 := Lib.hid (show Below w.heap.size w W3 from ((HWB.out.1.trans (HBW.out.mono HWB.out.1.size)).trans (HY.out.mono (Nat.le_trans hbase hxs))).grown hg3 (by omega) (fun r hr => own_ge HO.out r hr))
      have HM3 := Lib.hid (show W3.heap[w.heap.size]? = some (.cells #[.bool q, .bool f, .int .i64 c] 90 (0, 0)) from (hg3.block _ (by omega) (fun e => own_apart HO.out HWB.out.2 (by decide) _ e.symm rfl)).trans ((HY.out.block _ hml).trans HMX.out))
      have HO3 := Lib.hid (show OR 2 e2 121 w.heap.size W3 v3 (acc ++ rs) from by
        unfold OR
        rw [List.length_append, List.flatMap_append]
        exact ho3)
      clear ho3 hg3
      go_wp2
      go_roundw
      case rel => exact ⟨k + 1, hlt, by go_num, ⟨acc ++ rs, Lib.hid HFT.out.symm, HO3⟩, Lib.hid (.inr ⟨HB3.out, HM3.out⟩)⟩
      case measure => simp [intOf]; omega
    · have hke : k = l.length := by omega
      have HF := Lib.hid (show acc = rss.flatten by rw [HACC.out, hke, ← hlen, List.take_length])
      go_wp2
      go_ret2
      exact ⟨_, rfl, by rw [← HF.out]; exact HO.out.rv e2_len, HWB.out.1⟩
end
end W
end Go.Proofs.YtkceenmlhfkkhaaGreatDoor
namespace Go.Proofs.YtkceenmlhfkkhaaGreatDoor
open Go.RowKit K
open WP (GP gp gpL)
namespace W
set_option maxRecDepth 100000
theorem PCON.below {w w' : World} {g : Nat} {p : GP} {q f : Bool} {c : Int} {rs : List SP.Run} (h : PCON w g p q f c rs) (hb : Below w.heap.size w w') : PCON w' g p q f c rs :=
  fun Y A cap hY hg => h Y A cap (hb.trans (hY.mono hb.size)) hg
section
variable {w : World} {g : Nat}
set_option maxHeartbeats 8000000 in
theorem double_any (l : List GP) (A : Option Addr) (cap : Nat) (q f : Bool) (c : Int) (rs : List SP.Run) (hne : rs ≠ [])
    (hp : ∀ Y, Below w.heap.size w Y → Calls Tryz.prog 36 #[.pointer (some ⟨g, 0, none⟩), .slice A l.length cap, .agg #[.bool true, .bool f, .int .i64 0]] Y (RunOut Y rs)) :
    Calls Tryz.prog 88 #[.pointer (some ⟨g, 0, none⟩), .agg #[.int .i64 3, .string ⟨#[]⟩, .int .i64 0, .bool false, .slice A l.length cap], .agg #[.bool q, .bool f, .int .i64 c]] w (RunOut w rs) := by
  obtain ⟨X, hX⟩ := bx2 w 3 [] A l.length cap q f c
  have HXE := Lib.hid hX.eq
  have HBX := Lib.hid hX.bel
  have HPR := Lib.hid (hp X hX.bel)
  have HNE := Lib.hid hne
  obtain ⟨⟨p0, p1, p2, p3, p4⟩, ⟨m0, m1, m2⟩, z1, z2⟩ := hX.at_ (Below.refl _ _)
  clear hX hp hne
  go_enter Tryz.func88, Tryz.ntmps88
  go_upto_region 1 with (fail)
  rw [← HXE.out]
  go_wp2_with fail
  refine HPR.out.mono ?_
  rintro e V ⟨v', rfl, hr, hv⟩
  obtain ⟨rb, ro, rc, rfl, hrc, hrb, hra⟩ := R2.at_ hr HNE.out
  have HR := Lib.hid hr
  have HB := Lib.hid (btr HBX.out hv)
  have hpos : 0 < rs.length := List.length_pos_iff.2 HNE.out
  clear hr hv hra
  go_wp2
  go_ret2
  exact ⟨_, rfl, HR.out, HB.out⟩
set_option maxHeartbeats 4000000 in
theorem part_double (l : List GP) (q f : Bool) (c : Int) (rs : List SP.Run) (hne : rs ≠ [])
    (hp : ∀ Y A cap, Below w.heap.size w Y → GT Y (.slice A l.length cap) l → Calls Tryz.prog 36 #[.pointer (some ⟨g, 0, none⟩), .slice A l.length cap, .agg #[.bool true, .bool f, .int .i64 0]] Y (RunOut Y rs)) : PCON w g (.mk 3 [] 0 false l) q f c rs := by
  intro Y A cap hwY hg
  dsimp only [GP.kind, GP.text, GP.op, GP.colon, GP.parts] at hg ⊢
  obtain ⟨X, hX⟩ := bx2 Y 3 [] A l.length cap q f c
  have HXE := Lib.hid hX.eq
  have HBX := Lib.hid hX.bel
  have HPR := Lib.hid (double_any (w := X) (g := g) l A cap q f c rs hne fun Z hZ => hp Z A cap ((hwY.trans (hX.bel.mono hwY.size)).trans (hZ.mono (by have := hX.bel.size; have := hwY.size; omega))) ((hg.below hX.bel).below hZ))
  obtain ⟨⟨p0, p1, p2, p3, p4⟩, ⟨m0, m1, m2⟩, z1, z2⟩ := hX.at_ (Below.refl _ _)
  clear hX hp hg hne
  go_enter Tryz.func52, Tryz.ntmps52
  go_upto_region 1 with (fail)
  rw [← HXE.out]
  go_wp2_with fail
  refine HPR.out.mono ?_
  rintro e V ⟨v', rfl, hr, hv⟩
  have HR := Lib.hid hr
  have HB := Lib.hid (btr HBX.out hv)
  obtain ⟨Av, cv, rfl, -⟩ := HR.out.slice
  clear hr hv
  go_wp2
  go_ret2
  exact ⟨_, rfl, HR.out, HB.out⟩
end
end W
end Go.Proofs.YtkceenmlhfkkhaaGreatDoor
