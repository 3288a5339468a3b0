/- Several texts in one: W21h W21i. -/
import Derived.Test.YtkceenmlhfkkhaaGreatDoorY21e
import Derived.Deep.Upon
namespace Go.Proofs.YtkceenmlhfkkhaaGreatDoor
open Go.RowKit K
open WP (GP gp gpL)
namespace W
set_option maxRecDepth 100000
theorem Env_below {w w' : World} (h : Env w) (hb : Below w.heap.size w w') : Env w' := by
  obtain ⟨m, hm⟩ := h
  exact ⟨m, (hb.cell (lt_of_cell hm)).trans hm⟩
theorem Env_lt {w : World} (h : Env w) : 0 < w.heap.size := by
  obtain ⟨m, hm⟩ := h
  exact lt_of_cell (b := 0) hm
theorem es_one (l : List (List UInt8)) : ∀ u ∈ l.flatMap es, u.oneCell' = true := by
  intro u hu
  obtain ⟨x, _, hx⟩ := List.mem_flatMap.1 hu
  simp [es] at hx
  subst hx
  rfl
section
variable {w : World} {g : Nat} {VA : Option Addr} {vn vc : Nat} {PA : Option Addr} {pn pc : Nat} {opt : Int} {FA : Option Addr} {fn fc : Nat} {vars : List VR.Var} {ps : List (List UInt8)} {y : VR.Var}
set_option maxHeartbeats 16000000 in
theorem word_any (hx : EXC w g VA vn vc PA pn pc opt (.slice FA fn fc) vars ps y) (hen : Env w) (zn : List UInt8) (ze zr b : Bool) (hz : VR.get vars [73, 70, 83] = some ⟨zn, SP.ifs b, true, ze, zr⟩)
    (A : Option Addr) (n cap : Nat) (rs : List SP.Run) (hrl : rs.length ≤ 100000) (hre : (SP.els rs).length ≤ 100000) (hrc : ∀ r ∈ rs, 0 ≤ r.2 ∧ r.2 ≤ 3) (hrt : ∀ r ∈ rs, r.1.length ≤ 100000)
    (F : List (List SP.Run)) (hF : SP.fields b rs = F) (hFl : F.length ≤ 512) (hFp : ∀ f ∈ F, f ≠ [] ∧ (opt = 0 → SP.okr f) ∧ f.length ≤ 100000 ∧ (SP.text f).length ≤ 4096)
    (hp : ∀ Y, Below w.heap.size w Y → Calls Tryz.prog 36 #[.pointer (some ⟨g, 0, none⟩), .slice A n cap, .agg #[.bool false, .bool true, .int .i64 0]] Y (RunOut Y rs)) :
    Calls Tryz.prog 23 #[.pointer (some ⟨g, 0, none⟩), .agg #[.int .i64 0, .slice A n cap]] w fun e w' => ∃ v', e = .returned (.tuple #[v', .bool true]) ∧ SV w' v' (F.map SP.text) ∧ Below w.heap.size w w' := by
  obtain ⟨i0, hi, hz0, hz1, hz2⟩ := info_parts infoStr
  have HEX := Lib.hid hx
  have HEN := Lib.hid hen
  have HFP := Lib.hid hFp
  obtain ⟨X, hX⟩ : ∃ X, X = w.alloc (.cells #[.int .i64 0, .slice A n cap] 55) := ⟨_, rfl⟩
  have HXE := Lib.hid hX
  have HBX := Lib.hid (show Below w.heap.size w X by rw [hX]; exact balloc _ _)
  have hxw : X.heap[w.heap.size]? = some (.cells #[.int .i64 0, .slice A n cap] 55 (0, 0)) := by rw [hX]; exact al_new w _
  have w1 : X.cell? ⟨w.heap.size, 1, none⟩ = some (.slice A n cap) := Lib.cell_of_heap hxw 1
  have zw := (Array.getElem?_eq_some_iff.1 hxw).1
  have HPR := Lib.hid (hp X HBX.out)
  have HGT := Lib.hid (fun Y (hY : Below w.heap.size w Y) => Get_any vars [73, 70, 83] (.slice VA vn vc) Y (hx.vv.below hY) (by have := hx.vl; omega))
  rw [hz] at HGT
  unfold GetOut aggV at HGT
  simp only [Option.getD_some, Option.isSome_some] at HGT
  have HFD := Lib.hid (fun Y v (hv : R2 Y v rs) => Fields_any b rs v Y hv (by omega) (by omega) hrc (fun r hr => Nat.le_trans (hrt r hr) (by omega)))
  rw [hF] at HFD
  clear hX hxw hp hz hFp hF hrc hrt hx hen
  go_enter Tryz.func23, Tryz.ntmps23
  go_upto_region 1 with (fail)
  rw [← HXE.out]
  go_wp2_with fail
  refine HPR.out.mono ?_
  rintro e Y0 ⟨v0, rfl, hr0, hY0⟩
  obtain ⟨A0, c0, rfl, -⟩ := hr0.slice
  have HR0 := Lib.hid hr0
  have HB0 := Lib.hid (btr HBX.out hY0)
  obtain ⟨-, e1, -⟩ := (HEX.out.xb.below HB0.out).env
  have hg0 : g < Y0.heap.size := Nat.lt_of_lt_of_le HEX.out.xb.lt HB0.out.size
  have HGC := Lib.hid (HGT.out Y0 HB0.out)
  clear hr0 hY0
  go_wp2_with fail
  refine HGC.out.mono ?_
  rintro e Y1 ⟨rfl, hY1⟩
  have HB1 := Lib.hid (btr HB0.out hY1)
  obtain ⟨X1, hX1⟩ : ∃ X1, X1 = Y1.alloc (.cells #[.string ⟨zn.toArray⟩, .string ⟨(SP.ifs b).toArray⟩, .bool true, .bool ze, .bool zr] 44) := ⟨_, rfl⟩
  have HX1 := Lib.hid hX1
  have HBX1 := Lib.hid (show Below w.heap.size w X1 by rw [hX1]; exact btr HB1.out (balloc _ _))
  have HR1 := Lib.hid (show R2 X1 (.slice A0 rs.length c0) rs by rw [hX1]; exact (HR0.out.below hY1).below (balloc _ _))
  have hxv : X1.heap[Y1.heap.size]? = some (.cells #[.string ⟨zn.toArray⟩, .string ⟨(SP.ifs b).toArray⟩, .bool true, .bool ze, .bool zr] 44 (0, 0)) := by rw [hX1]; exact al_new Y1 _
  obtain ⟨x0, x1, x2, x3, x4⟩ := p5 hxv
  have zv := (Array.getElem?_eq_some_iff.1 hxv).1
  have HFC := Lib.hid (HFD.out X1 _ HR1.out)
  clear hY1 hX1 hxv e1 w1 zw
  go_upto_region 6 with (fail)
  rw [← HX1.out]
  go_wp2_with fail
  refine HFC.out.mono ?_
  rintro e Y2 ⟨v2, rfl, hl2, hY2⟩
  obtain ⟨A2, c2, rfl⟩ := hl2.slice
  have HL2 := Lib.hid hl2
  have HB2 := Lib.hid (btr HBX1.out hY2)
  clear hl2 hY2 x0 x1 x2 x3 x4 zv
  go_wp2
  go_loopw [50] (fun i wr => ∃ k : Nat, k ≤ F.length ∧ i = .int .i64 k ∧ Hid (Below Y2.heap.size Y2 wr)) (fun i _ => F.length - (intOf i).toNat)
  case atStart => exact ⟨0, Nat.zero_le _, rfl, Lib.hid (Below.refl _ _)⟩
  case round =>
    obtain ⟨k, hk, rfl, HB⟩ := hrel
    by_cases hlt : k < F.length
    · obtain ⟨f, hf⟩ : ∃ f, F[k]? = some f := ⟨_, List.getElem?_eq_getElem hlt⟩
      obtain ⟨bb, off, A3, c3, rfl, hbl, q0, hr⟩ := (HL2.out.below HB.out).get hf
      have hsz := HFP.out f (List.mem_of_getElem? hf)
      have hts : (fsts f).length ≤ 4096 := hsz.2.2.2
      have HTX := Lib.hid (Text_any f _ wr hr (by omega) (by omega))
      clear hr hsz hf
      go_wp2_with fail
      refine HTX.out.mono ?_
      rintro e Y3 ⟨rfl, hY3⟩
      have HB3 := Lib.hid (HB.out.trans (hY3.mono HB.out.size))
      clear hY3
      go_wp2
      go_roundw
      case rel => exact ⟨k + 1, hlt, by go_num, HB3⟩
      case measure => simp [intOf]; omega
    · generalize wr = wp at *
      have HBK := Lib.hid (show Below w.heap.size w wp from HB2.out.trans (HB.out.mono HB2.out.size))
      have HLK := Lib.hid (HL2.out.below HB.out)
      go_wp2
      go_loopw [14, 63] (fun o i wr => ∃ k : Nat, k ≤ F.length ∧ i = .int .i64 k ∧ (∃ acc : List (List UInt8), Hid (acc = (F.take k).map SP.text) ∧ Hid (acc.length = k) ∧ Hid (OR 1 es 9 wp.heap.size wr o acc)) ∧ Hid (Below wp.heap.size wp wr)) (fun _ i _ => F.length - (intOf i).toNat)
      case atStart => exact ⟨0, Nat.zero_le _, rfl, ⟨[], Lib.hid rfl, Lib.hid rfl, Lib.hid (OR.nil _ _ _)⟩, Lib.hid (Below.refl _ _)⟩
      case round =>
        obtain ⟨j, hj, rfl, ⟨acc, HACC, HAL, HO⟩, HBQ⟩ := hrel
        obtain ⟨A1, c1, rfl⟩ := HO.out.val
        by_cases hlt2 : j < F.length
        · obtain ⟨f, hf⟩ : ∃ f, F[j]? = some f := ⟨_, List.getElem?_eq_getElem hlt2⟩
          obtain ⟨bb, off, A3, c3, rfl, hbl, q0, hr⟩ := (HLK.out.below HBQ.out).get hf
          have hsz := HFP.out f (List.mem_of_getElem? hf)
          have HWQ := Lib.hid (show Below w.heap.size w wr from HBK.out.trans (HBQ.out.mono HBK.out.size))
          have HNX := Lib.hid (show acc ++ [SP.text f] = (F.take (j + 1)).map SP.text by rw [HACC.out, List.take_add_one, hf, List.map_append]; rfl)
          have HNL := Lib.hid (show (acc ++ [SP.text f]).length = j + 1 by rw [List.length_append, HAL.out]; rfl)
          have hop := HEX.out.op
          have hgq : g < wr.heap.size := Nat.lt_of_lt_of_le HEX.out.xb.lt HWQ.out.size
          obtain ⟨e0, e1, e2, e3, e4, e5, e6, e7, e8, e9, e10, e11, e12, e13, e14⟩ := (HEX.out.xb.below HWQ.out).env
          obtain ⟨e15, -, -, -⟩ := (HEX.out.xb.below HWQ.out).rest
          have hal : acc.length + 1 ≤ 512 := by have := HAL.out; omega
          have hqs := HBQ.out.size
          rcases hop with h0 | h8
          · subst h0
            have HXP := Lib.hid (fun Y (hY : Below wr.heap.size wr Y) => Expand_lit FA fn fc _ f Y (hr.below hY) (Env_below (Env_below HEN.out HWQ.out) hY) (hsz.2.1 rfl) hsz.2.2.1 (Nat.le_trans hsz.2.2.2 (by omega)) hsz.1 (Env_lt (Env_below (Env_below HEN.out HWQ.out) hY)))
            generalize SP.text f = tf at *
            clear hr hsz hf e0 e1 e2 e3 e4 e5 e7 e8 e9 e11 e12 e13 e14
            go_wp2_with fail
            go_region_with (go_at_call 40; refine (HXP.out _ (Below.refl _ _).drew).mono ?_; rintro e Y ⟨q, rfl, hq, hY⟩)
            all_goals
              have HY := Lib.hid (show Below wp.heap.size wp Y from HBQ.out.trans (((Below.refl _ _).drew.trans hY).mono HBQ.out.size))
              have HOY := Lib.hid (show OR 1 es 9 wp.heap.size Y (.slice A1 acc.length c1) acc from HO.out.below ((Below.refl _ _).drew.trans hY))
              have HQ := Lib.hid (show ∀ (j : Nat) (u : Value), [Value.string ⟨tf.toArray⟩][j]? = some u → Y.cell? ((⟨q, 0, none⟩ : Addr).add j) = some u from by
                intro j u hu
                rcases j with _ | j
                · simp at hu; subst hu; exact hq
                · simp at hu)
              have hys := HY.out.size
              clear hq hY
              go_wp2_with (at_builtin; refine wpList_append_own_at _ rfl _ _ 24 rfl wp.heap.size 9 i0 _ 1 16 Tryz.underlying24 hi hz0 hz1 hz2 rfl (by decide) _ acc.length _ rfl HOY.out ⟨q, 0, none⟩ 1 1 [.string ⟨tf.toArray⟩] rfl rfl HQ.out (by intro u hu; simp at hu; subst hu; rfl) (by unfold maxLen; omega) (by omega) (by omega) ?_)
              intro v4 W4 ho4 hg4 _ _
              have HB4 := Lib.hid (show Below wp.heap.size wp W4 from HY.out.grown hg4 (by omega) (fun q hq => own_ge HO.out q hq))
              have HO4 := Lib.hid (show OR 1 es 9 wp.heap.size W4 v4 (acc ++ [tf]) from OR.snocG (enc := es) ho4)
              have HV4 := Lib.hid (show ∃ A c, v4 = .slice A (acc.length + 1) c from by obtain ⟨A, c, h⟩ := row_val ho4; exact ⟨A, c, h⟩)
              obtain ⟨A4, c4, rfl⟩ := HV4.out
              have hnn : ¬ (((acc.length + 1 : Nat) : Int) > 512) := by omega
              clear ho4 hg4
              go_wp2
              go_roundw
              case rel => exact ⟨j + 1, hlt2, by go_num, ⟨_, HNX, HNL, HO4⟩, HB4⟩
              case measure => simp [intOf]; omega
          · subst h8
            have hts : (fsts f).length ≤ 4096 := hsz.2.2.2
            have HTX := Lib.hid (Text_any f _ wr hr (by omega) (by omega))
            have HTF := Lib.hid (show fsts f = SP.text f from rfl)
            generalize fsts f = tf at *
            clear hr hsz hf e0 e1 e2 e3 e4 e5 e7 e8 e9 e10 e11 e12 e13 e14 e15
            go_wp2_with fail
            refine HTX.out.mono ?_
            rintro e Y ⟨rfl, hY⟩
            have HY := Lib.hid hY
            have hys := hY.size
            clear hY
            go_wp2_with (at_builtin; refine wpList_append_own_at _ rfl _ _ 24 rfl wp.heap.size 9 i0 _ 1 16 Tryz.underlying24 hi hz0 hz1 hz2 rfl (by decide) _ acc.length _ rfl (row_below (row_below HO.out HY.out) (balloc _ _)) ⟨Y.heap.size, 0, none⟩ 1 1 [.string ⟨tf.toArray⟩] rfl rfl (one_cells _ _ _) (by intro u hu; simp at hu; subst hu; rfl) (by unfold maxLen; omega) (by omega) (by simp <;> omega) ?_)
            intro v4 W4 ho4 hg4 _ _
            have HB4 := Lib.hid (show Below wp.heap.size wp W4 from (((HBQ.out.trans (HY.out.mono HBQ.out.size)).trans ((balloc Y _).mono (Nat.le_trans HBQ.out.size HY.out.size))).grown hg4 (by have h1 := HBQ.out.size; have h2 := HY.out.size; simp; omega) (fun q hq => own_ge HO.out q hq)))
            have HO4 := Lib.hid (show OR 1 es 9 wp.heap.size W4 v4 (acc ++ [SP.text f]) from by rw [← HTF.out]; exact OR.snocG (enc := es) ho4)
            clear ho4 hg4
            go_wp2
            go_roundw
            case rel => exact ⟨j + 1, hlt2, by go_num, ⟨_, HNX, HNL, HO4⟩, HB4⟩
            case measure => simp [intOf]; omega
        · have hje : j = F.length := by omega
          have HFE := Lib.hid (show acc = F.map SP.text by rw [HACC.out, hje, List.take_length])
          go_wp2
          go_ret2
          exact ⟨_, rfl, by rw [← HFE.out]; exact HO.out.rv es_len, HBK.out.trans (HBQ.out.mono HBK.out.size)⟩
end
end W
end Go.Proofs.YtkceenmlhfkkhaaGreatDoor
namespace Go.Proofs.YtkceenmlhfkkhaaGreatDoor
open Go.RowKit K
namespace W
set_option maxRecDepth 100000
theorem append_eqT {P : Program} {w w' : World} {ops : Array Oper} {rest : List Oper} {o : Oper} {a : Act} {Q : Exit → Act → World → Prop} (hgd : o.guard = none) (s x : Operand) (t : TypeId)
    (ho : o.op = .call { callee := .builtin .append, args := #[s, x], argTypes := #[t, t] }) (v u v' : Value) (hs : a.eval s = v) (hx : a.eval x = u)
    (hr : (Builtin.append_ #[t, t] o.type #[v, u]).run P w = .ok v' w') (h : wpList P ops Q rest (a.put o.dst v') w') : wpList P ops Q (o :: rest) a w := by
  refine wpList_plain hgd fun K hK => ?_
  unfold Oper.wp execOp
  simp only [ho, resolve, invoke, builtin, Sem.run_bind, Sem.run_pure, Result.andThen_ok, List.map_toArray, List.map_cons, List.map_nil, hs, hx, hr]
  exact hK _ _ h
theorem clone_row {α : Type} {m : Nat} {enc : α → List Value} (hm : ∀ x, (enc x).length = m) (h1 : ∀ (x : α), ∀ u ∈ enc x, u.oneCell' = true) {P : Program} {ST T : TypeId} {i : TypeInfo} {z : Value} {bytes : Nat}
    (ht : P.underlying ST = some (.slice T)) (hi : P.info? T = some i) (hz : i.zero = some z) (hs : i.size = m) (hb : i.bytes = bytes) (hzs : z.cells.size = m) (hpos : 0 < m) (hby : bytes ≤ 1000)
    {w : World} {A : Option Addr} {n c : Nat} {l : List α} (h : RV m enc w (.slice A n c) l) (hl : l.length ≤ 100000) :
    ∃ A' c' w', (Builtin.append_ #[ST, ST] ST #[.slice none 0 0, .slice A n c]).run P w = .ok (.slice A' n c') w' ∧ RV m enc w' (.slice A' n c') l ∧ Below w.heap.size w w' := by
  obtain ⟨A0, c0, h0, hc, hr⟩ := h
  injection h0 with e1 e2 e3
  subst e1 e2 e3
  cases A with
  | none =>
    have hl0 : l = [] := by
      rcases hr with hr | ⟨b, off, h, _⟩
      · exact hr
      · cases h
    subst hl0
    exact ⟨none, 0, w, run_append_nothing _ _ _ _ T i ht hi _ 0 0 (Nat.le_refl _) _ (Src.ofNil _ ht c), RV.nil _, Below.refl _ _⟩
  | some ad =>
    have hnews : ∀ j u, (l.flatMap enc)[j]? = some u → w.cell? (ad.add j) = some u := by
      rcases hr with hr | ⟨b, off, h, hlt, hat⟩
      · subst hr; intro j u h; simp at h
      · injection h with h
        subst h
        exact hat.flat hm
    have hones : ∀ u ∈ l.flatMap enc, u.oneCell' = true := by
      intro u hu
      obtain ⟨x, _, hx⟩ := List.mem_flatMap.1 hu
      exact h1 x u hx
    obtain ⟨v', w', r1, r2, r3, -, -⟩ := run_append_own_at (P := P) (w := w) w.heap.size ST ST T i z m bytes ht hi hz hs hb hzs hpos _ 0 [] (World.ownsRow_nil _ _ _ _) ad l.length c (l.flatMap enc) (flat_len hm l) hnews hones (by unfold maxLen; omega) (by have := Nat.mul_le_mul (show 0 + l.length ≤ 100000 by omega) hby; omega) (Nat.le_refl _)
    have hO : OR m enc T w.heap.size w' v' l := by unfold OR; simpa using r2
    obtain ⟨A', c', rfl⟩ := hO.val
    exact ⟨A', c', w', r1, hO.rv hm, (Below.refl _ w).grown r3 (Nat.le_refl _) (fun r hr => own_ge (World.ownsRow_nil w w.heap.size T m) r hr)⟩
theorem es_ones : ∀ (x : List UInt8), ∀ u ∈ es x, u.oneCell' = true := by
  intro x u hu
  simp [es] at hu
  subst hu
  rfl
theorem vc_ones : ∀ (x : VR.Var), ∀ u ∈ VR.cells x, u.oneCell' = true := by
  intro x u hu
  simp [VR.cells] at hu
  rcases hu with rfl | rfl | rfl | rfl | rfl <;> rfl
theorem vc_len : ∀ (x : VR.Var), (VR.cells x).length = 5 := fun _ => rfl
theorem clone_strs (A : Option Addr) (n c : Nat) (l : List (List UInt8)) (w : World) (h : SV w (.slice A n c) l) (hl : l.length ≤ 1000) :
    Calls Tryz.prog 66 #[.slice A n c] w fun e w' => ∃ A' c', e = .returned (.slice A' n c') ∧ SV w' (.slice A' n c') l ∧ Below w.heap.size w w' := by
  obtain ⟨i0, hi, hz0, hz1, hz2⟩ := info_parts infoStr
  obtain ⟨A', c', w', hrun, h1, h2⟩ := clone_row es_len es_ones Tryz.underlying24 hi hz0 hz1 hz2 rfl (by decide) (by omega) h (by omega)
  have HR := Lib.hid hrun
  have H1 := Lib.hid h1
  have H2 := Lib.hid h2
  clear hrun h1 h2 h
  go_enter Tryz.func66, Tryz.ntmps66
  go_wp2_with (at_builtin; refine append_eqT rfl _ _ 24 rfl _ _ _ rfl rfl HR.out ?_)
  go_ret
  exact ⟨_, _, rfl, H1.out, H2.out⟩
theorem infoVarW : (Tryz.prog.info? 44).map (fun i => (i.zero, i.size, i.bytes)) = some (some (.agg #[.string ⟨#[]⟩, .string ⟨#[]⟩, .bool false, .bool false, .bool false]), 5, 40) := by kernel_rfl
theorem clone_vars (A : Option Addr) (n c : Nat) (l : List VR.Var) (w : World) (h : VV w (.slice A n c) l) (hl : l.length ≤ 1000) :
    Calls Tryz.prog 65 #[.slice A n c] w fun e w' => ∃ A' c', e = .returned (.slice A' n c') ∧ VV w' (.slice A' n c') l ∧ Below w.heap.size w w' := by
  obtain ⟨i0, hi, hz0, hz1, hz2⟩ := info_parts infoVarW
  obtain ⟨A', c', w', hrun, h1, h2⟩ := clone_row vc_len vc_ones Tryz.underlying23 hi hz0 hz1 hz2 rfl (by decide) (by omega) h (by omega)
  have HR := Lib.hid hrun
  have H1 := Lib.hid h1
  have H2 := Lib.hid h2
  clear hrun h1 h2 h
  go_enter Tryz.func65, Tryz.ntmps65
  go_wp2_with (at_builtin; refine append_eqT rfl _ _ 23 rfl _ _ _ rfl rfl HR.out ?_)
  go_ret
  exact ⟨_, _, rfl, H1.out, H2.out⟩
theorem clone_aliases (w : World) : Calls Tryz.prog 67 #[.slice none 0 0] w fun e w' => e = .returned (.slice none 0 0) ∧ w' = w := by
  obtain ⟨i0, hi⟩ : ∃ i, Tryz.prog.info? 145 = some i := Option.isSome_iff_exists.1 (by kernel_rfl)
  have HR := Lib.hid (run_append_nothing (P := Tryz.prog) w _ _ 26 145 i0 Tryz.underlying26 hi none 0 0 (Nat.le_refl _) (.slice none 0 0) (Src.ofNil _ Tryz.underlying26 0))
  go_enter Tryz.func67, Tryz.ntmps67
  go_wp2_with (at_builtin; refine append_eqT rfl _ _ 26 rfl _ _ _ rfl rfl HR.out ?_)
  go_ret
  exact ⟨rfl, rfl⟩
theorem clone_traps (w : World) : Calls Tryz.prog 68 #[.slice none 0 0] w fun e w' => e = .returned (.slice none 0 0) ∧ w' = w := by
  obtain ⟨i0, hi⟩ : ∃ i, Tryz.prog.info? 148 = some i := Option.isSome_iff_exists.1 (by kernel_rfl)
  have HR := Lib.hid (run_append_nothing (P := Tryz.prog) w _ _ 27 148 i0 Tryz.underlying27 hi none 0 0 (Nat.le_refl _) (.slice none 0 0) (Src.ofNil _ Tryz.underlying27 0))
  go_enter Tryz.func68, Tryz.ntmps68
  go_wp2_with (at_builtin; refine append_eqT rfl _ _ 27 rfl _ _ _ rfl rfl HR.out ?_)
  go_ret
  exact ⟨rfl, rfl⟩
theorem clone_funcs (w : World) : Calls Tryz.prog 69 #[.slice none 0 0] w fun e w' => e = .returned (.slice none 0 0) ∧ w' = w := by
  obtain ⟨i0, hi⟩ : ∃ i, Tryz.prog.info? 157 = some i := Option.isSome_iff_exists.1 (by kernel_rfl)
  have HR := Lib.hid (run_append_nothing (P := Tryz.prog) w _ _ 25 157 i0 Tryz.underlying25 hi none 0 0 (Nat.le_refl _) (.slice none 0 0) (Src.ofNil _ Tryz.underlying25 0))
  go_enter Tryz.func69, Tryz.ntmps69
  go_wp2_with (at_builtin; refine append_eqT rfl _ _ 25 rfl _ _ _ rfl rfl HR.out ?_)
  go_ret
  exact ⟨rfl, rfl⟩
theorem start_any (vv vp : Value) (opt : Int) (FA : Option Addr) (fn fc : Nat) (w : World) : Calls Tryz.prog 22 #[.agg (envC vv vp opt), .slice FA fn fc, .slice none 0 0] w fun e w' => ∃ g, e = .returned (.pointer (some ⟨g, 0, none⟩)) ∧ XB w' g vv vp opt (.slice FA fn fc) ∧ Below w.heap.size w w' := by
  unfold envC
  go_enter Tryz.func22, Tryz.ntmps22
  go_wp2
  go_ret
  refine ⟨_, rfl, ?_, btr (balloc _ _) (balloc _ _)⟩
  exact al_new' _ _ _ (by simp)
end W
end Go.Proofs.YtkceenmlhfkkhaaGreatDoor
