/- Top: the law TopQuotes; printed by gen23f.py. -/
import Derived.Test.YtkceenmlhfkkhaaGreatDoorY23d
import Derived.Test.YtkceenmlhfkkhaaGreatDoorQ23
import Derived.Test.YtkceenmlhfkkhaaGreatDoorP23q
import Derived.Deep.RegionHeldLaw
namespace Go.Proofs.YtkceenmlhfkkhaaGreatDoor
open Go.RowKit K
open WP (GP gp gpL)
namespace W
set_option maxRecDepth 100000
attribute [-go_sem] storeVar
theorem cnt_ge : ∀ l : List GP, l.length ≤ WP.cntL l
  | [] => Nat.le_refl _
  | .mk k t o c ps :: r => by
    have := cnt_ge r
    rw [WP.cntL, WP.cntP, List.length_cons]
    omega
theorem flat_single {α β : Type} (f : α → β) : ∀ l : List α, (l.map fun p => [f p]).flatten = l.map f
  | [] => rfl
  | p :: r => by rw [List.map_cons, List.flatten_cons, flat_single f r]; rfl
theorem gpL_at2 : ∀ (ps : List WP.Part) (i : Nat) (p : GP), (gpL ps)[i]? = some p → ∃ q, ps[i]? = some q ∧ p = gp q
  | [], i, p, h => by rw [gpL] at h; simp at h
  | q :: ps, 0, p, h => by rw [gpL] at h; simp at h; exact ⟨q, rfl, h.symm⟩
  | q :: ps, i + 1, p, h => by rw [gpL] at h; simp at h; simpa using gpL_at2 ps i p h
section
variable {w : World} {VA : Option Addr} {vn vc : Nat} {PA : Option Addr} {pn pc : Nat} {opt : Int} {vars : List VR.Var} {ps : List (List UInt8)} {y : VR.Var} {zn : List UInt8} {ze zr b : Bool}
/-- The field of a quoted form. -/
theorem fields_q (h : EA w VA vn vc PA pn pc opt vars ps y zn ze zr b) (s : List UInt8) (hs : s.length ≤ 200) : Calls Tryz.prog 9 #[.agg #[.string ⟨shellName.toArray⟩, .slice VA vn vc, .slice PA pn pc, .slice none 0 0, .slice none 0 0, .slice none 0 0, .int .i64 opt, .int .i64 0, .int .i64 0, .int .i64 0, .string ⟨#[47]⟩, .int .i64 1, .int .i64 0, .int .i64 0, .bool false], .string ⟨(P.quote s).toArray⟩] w (FOut w [s]) := by
  obtain ⟨prts, hpr, hlit, -, -, hk⟩ := WP.parse_quote2 s (by omega)
  have hql := P.quote_le s
  rcases hk with ⟨hpl, rfl⟩ | ⟨p, r, hps, hk⟩
  · have hne : s ≠ [] := by intro e; subst e; cases hpl
    have := fields_rs h (P.quote s) _ (by omega) hpr [(s, 0)] (by simp; omega) (by simp) (fun _ r hr => by rw [List.mem_singleton.1 hr]; exact SP.lit_plain hpl 0) (by rw [SP.texts_bare b s hne]; simp) fun Y g FA v hx hg => by
      rw [show gpL [WP.Part.mk 1 s 0 false []] = [.mk 1 s 0 false []] by simp [gpL, gp]] at hg
      exact parts_one (.mk 1 s 0 false []) [(s, 0)] false true 0 v hg (by simp) (part_text s 0 false [] false true 0)
    rw [SP.texts_bare b s hne] at this
    exact this
  · have hsum := SP.qruns_sum prts s hk hlit
    have hcnt := (WP.parse_wt hpr).1
    have hge := cnt_ge (gpL prts)
    rw [WP.gpL_length] at hge
    have hone : ∀ r ∈ SP.qruns prts, r.2 = 1 := by
      intro r hr
      obtain ⟨p, _, rfl⟩ := List.mem_map.1 hr
      rfl
    have hne : SP.qruns prts ≠ [] := by rw [hps]; simp [SP.qruns]
    have htx : SP.texts b (SP.qruns prts) = [s] := by rw [SP.texts_quotes b _ hne hone, SP.qruns_text prts s hk hlit]
    have := fields_rs h (P.quote s) _ (by omega) hpr (SP.qruns prts) (by omega) (fun r hr => by rw [hone r hr]; simp) (fun _ r hr => .inl (hone r hr)) (by rw [htx]; simp) fun Y g FA v hx hg => by
      have := parts_any (g := g) (gpL prts) (prts.map fun p => [(p.text, 1)]) false true 0 v hg (by rw [WP.gpL_length, List.length_map]) (by rw [WP.gpL_length]; omega) (by rw [flat_single, List.length_map]; omega) (fun rs hrs => by obtain ⟨p, _, rfl⟩ := List.mem_map.1 hrs; simp) fun i p rs hi hr => by
        obtain ⟨q, hq, rfl⟩ := gpL_at2 prts i p hi
        rw [List.getElem?_map, hq] at hr
        simp at hr
        subst hr
        have hkq := hk q (List.mem_of_getElem? hq)
        obtain ⟨k, t, o, c, qs⟩ := q
        have hkq : k = 2 := hkq
        subst hkq
        rw [gp]
        exact part_quoted t o c (gpL qs) false true 0
      rw [flat_single] at this
      exact this
    rw [htx] at this
    exact this
end
set_option maxHeartbeats 16000000 in
theorem TopQuotes_any (s : List UInt8) (w : World) (hen : Env w) : Calls Tryz.prog 6 #[.string ⟨s.toArray⟩] w fun e w' => e = .returned (.bool true) ∧ Below w.heap.size w w' := by
  have HEN := Lib.hid hen
  have HWL := Lib.hid (fun V (hV : Below w.heap.size w V) => wordsLive_any V (Env_below hen hV))
  by_cases h1 : 200 < s.length
  · have h1' : ((200 : Int) < (s.length : Int)) = True := eq_true (by omega)
    clear hen
    go_enter Tryz.func6, Tryz.ntmps6
    go_wp2_with fail
    refine (HWL.out _ (Below.refl _ _)).mono ?_
    rintro e w1 ⟨rfl, hb⟩
    go_wp2
    go_ret
    exact ⟨rfl, hb⟩
  have h1' : ((200 : Int) < (s.length : Int)) = False := eq_false (by omega)
  have hs200 : s.length ≤ 200 := by omega
  have hev := environ_any [] (by simp) 0 w
  unfold EnvOut at hev
  have HEV := Lib.hid hev
  clear hev hen
  go_enter Tryz.func6, Tryz.ntmps6
  go_wp2_with fail
  refine HEV.out.mono ?_
  rintro e Y ⟨VA, vc, PA, pc, rfl, hv, hs, hb⟩
  have HEX := Lib.hid (EX.of hv hs (.inl rfl) (Env_below HEN.out hb))
  have HB := Lib.hid hb
  obtain ⟨X, hX, hst, hx, hbx⟩ := box15 Y VA vc PA pc 0
  have hX' := hX
  rw [hX] at hst
  have HX := Lib.hid hX
  have HXB := Lib.hid hbx
  have HXC := Lib.hid hx
  obtain ⟨x0, x1, x2, x3, x4, x5, x6, x7, x8, x9, x10, x11, x12, x13, x14⟩ := blk15 hx
  have hxl := (Array.getElem?_eq_some_iff.1 hx).1
  have HQT := Lib.hid (fun V (hV : Below X.heap.size X V) => Quote_any s V (by omega) (Env_below (HEX.out.below hbx).en hV))
  have HFQ := Lib.hid (fun V (hV : Below X.heap.size X V) => show Calls Tryz.prog 9 _ V (FOut V [s]) from fields_q ((HEX.out.below hbx).below hV) s hs200)
  unfold FOut at HFQ
  have HSS := Lib.hid (fun V (hV : Below X.heap.size X V) => (show (V.cell? ⟨Y.heap.size, 0, none⟩ = some (.string ⟨shellName.toArray⟩) ∧ V.cell? ⟨Y.heap.size, 1, none⟩ = some (.slice VA 2 vc) ∧ V.cell? ⟨Y.heap.size, 2, none⟩ = some (.slice PA 2 pc) ∧ V.cell? ⟨Y.heap.size, 3, none⟩ = some (.slice none 0 0) ∧ V.cell? ⟨Y.heap.size, 4, none⟩ = some (.slice none 0 0) ∧ V.cell? ⟨Y.heap.size, 5, none⟩ = some (.slice none 0 0) ∧ V.cell? ⟨Y.heap.size, 6, none⟩ = some (.int .i64 0) ∧ V.cell? ⟨Y.heap.size, 7, none⟩ = some (.int .i64 0) ∧ V.cell? ⟨Y.heap.size, 8, none⟩ = some (.int .i64 0) ∧ V.cell? ⟨Y.heap.size, 9, none⟩ = some (.int .i64 0) ∧ V.cell? ⟨Y.heap.size, 10, none⟩ = some (.string ⟨#[47]⟩) ∧ V.cell? ⟨Y.heap.size, 11, none⟩ = some (.int .i64 1) ∧ V.cell? ⟨Y.heap.size, 12, none⟩ = some (.int .i64 0) ∧ V.cell? ⟨Y.heap.size, 13, none⟩ = some (.int .i64 0) ∧ V.cell? ⟨Y.heap.size, 14, none⟩ = some (.bool false)) ∧ Below X.heap.size X V from by
    obtain ⟨x0, x1, x2, x3, x4, x5, x6, x7, x8, x9, x10, x11, x12, x13, x14⟩ := blk15 ((hV.block _ hxl).trans hx)
    exact ⟨⟨x0, x1, x2, x3, x4, x5, x6, x7, x8, x9, x10, x11, x12, x13, x14⟩, hV⟩))
  clear hX hX' hx hbx hv hs hb
  go_upto_region 4 with (fail)
  rw [← HX.out]
  go_region_held_law (fun V => (V.cell? ⟨Y.heap.size, 0, none⟩ = some (.string ⟨shellName.toArray⟩) ∧ V.cell? ⟨Y.heap.size, 1, none⟩ = some (.slice VA 2 vc) ∧ V.cell? ⟨Y.heap.size, 2, none⟩ = some (.slice PA 2 pc) ∧ V.cell? ⟨Y.heap.size, 3, none⟩ = some (.slice none 0 0) ∧ V.cell? ⟨Y.heap.size, 4, none⟩ = some (.slice none 0 0) ∧ V.cell? ⟨Y.heap.size, 5, none⟩ = some (.slice none 0 0) ∧ V.cell? ⟨Y.heap.size, 6, none⟩ = some (.int .i64 0) ∧ V.cell? ⟨Y.heap.size, 7, none⟩ = some (.int .i64 0) ∧ V.cell? ⟨Y.heap.size, 8, none⟩ = some (.int .i64 0) ∧ V.cell? ⟨Y.heap.size, 9, none⟩ = some (.int .i64 0) ∧ V.cell? ⟨Y.heap.size, 10, none⟩ = some (.string ⟨#[47]⟩) ∧ V.cell? ⟨Y.heap.size, 11, none⟩ = some (.int .i64 1) ∧ V.cell? ⟨Y.heap.size, 12, none⟩ = some (.int .i64 0) ∧ V.cell? ⟨Y.heap.size, 13, none⟩ = some (.int .i64 0) ∧ V.cell? ⟨Y.heap.size, 14, none⟩ = some (.bool false)) ∧ Below X.heap.size X V)
    (first | with_reducible exact HSS.out _ hy2 | with_reducible exact HSS.out _ hy1 | with_reducible exact HSS.out _ (Below.refl _ _).drew)
    (first
      | (go_at_call 12; refine (HQT.out _ (Below.refl _ _).drew).mono ?_; rintro e V1 ⟨rfl, hv1⟩; have hy1 : Below X.heap.size X V1 := btr (Below.refl _ _).drew hv1)
      | (have hyy := hy1; clear hyy; go_at_call 9; refine (HFQ.out _ hy1).mono ?_; rintro e V2 ⟨v1, rfl, hf1, hlt1, hb2⟩; have hy2 : Below X.heap.size X V2 := btr hy1 hb2))
  all_goals
    obtain ⟨A1, c1, rfl, -⟩ := hf1.slice
    have HS1 := Lib.hid hf1
    have HWV := Lib.hid (show Below w.heap.size w V2 from HB.out.trans ((HXB.out.trans (hy2.mono HXB.out.size)).mono HB.out.size))
    clear hf1 hlt1 hb2 hy1 hy2 hv1 x0 x1 x2 x3 x4 x5 x6 x7 x8 x9 x10 x11 x12 x13 x14
    go_wp2_with fail
    refine (sameT_any [s] _ _ _ (HS1.out.below (balloc _ _)) (str_one _ 9 _ s (al_new _ _)) (by simp)).mono ?_
    rintro e V3 ⟨rfl, hv⟩
    have HV3 := Lib.hid (show Below w.heap.size w V3 from btr (btr HWV.out (balloc _ _)) hv)
    clear hv
    go_wp2_with fail
    refine (HWL.out _ HV3.out).mono ?_
    rintro e V4 ⟨rfl, hv⟩
    have HV4 := Lib.hid (btr HV3.out hv)
    clear hv
    go_wp2
    go_ret
    exact ⟨rfl, HV4.out⟩
end W
end Go.Proofs.YtkceenmlhfkkhaaGreatDoor
