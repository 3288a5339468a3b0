/- Several texts in one: W23d W23e. -/
import Derived.Test.YtkceenmlhfkkhaaGreatDoorW23c
import Derived.Test.YtkceenmlhfkkhaaGreatDoorY22
import Derived.Test.YtkceenmlhfkkhaaGreatDoorP23
namespace Go.Proofs.YtkceenmlhfkkhaaGreatDoor
open Go.RowKit K
open WP (GP gp gpL)
namespace W
set_option maxRecDepth 100000
/-- An environment as an argument. -/
structure EA (w : World) (VA : Option Addr) (vn vc : Nat) (PA : Option Addr) (pn pc : Nat) (opt : Int) (vars : List VR.Var) (ps : List (List UInt8)) (y : VR.Var) (zn : List UInt8) (ze zr b : Bool) : Prop where
  vv : VV w (.slice VA vn vc) vars
  sv : SV w (.slice PA pn pc) ps
  vl : vars.length ≤ 1000
  pl : ps.length ≤ 500
  pj : (Lib.join ps [32]).length ≤ 100000
  hy : VR.get vars [120] = some y
  ys : y.set = true
  op : opt = 0 ∨ opt = 8
  hz : VR.get vars [73, 70, 83] = some ⟨zn, SP.ifs b, true, ze, zr⟩
  en : Env w
theorem EA.below {w w' : World} {VA : Option Addr} {vn vc : Nat} {PA : Option Addr} {pn pc : Nat} {opt : Int} {vars : List VR.Var} {ps : List (List UInt8)} {y : VR.Var} {zn : List UInt8} {ze zr b : Bool} (h : EA w VA vn vc PA pn pc opt vars ps y zn ze zr b) (hb : Below w.heap.size w w') : EA w' VA vn vc PA pn pc opt vars ps y zn ze zr b :=
  ⟨h.vv.below hb, h.sv.below hb, h.vl, h.pl, h.pj, h.hy, h.ys, h.op, h.hz, Env_below h.en hb⟩
section
variable {w : World} {VA : Option Addr} {vn vc : Nat} {PA : Option Addr} {pn pc : Nat} {opt : Int} {vars : List VR.Var} {ps : List (List UInt8)} {y : VR.Var} {zn : List UInt8} {ze zr b : Bool}
/-- What fields gives. -/
def FOut (w : World) (F : List (List UInt8)) (e : Ending) (w' : World) : Prop := ∃ v', e = .returned (.tuple #[v', .bool true]) ∧ SV w' v' F ∧ (∀ r, v'.ownBlock = some r → w.heap.size ≤ r) ∧ Below w.heap.size w w'
theorem fields_rs (h : EA w VA vn vc PA pn pc opt vars ps y zn ze zr b) (t : List UInt8) (prts : List WP.Part) (ht : t.length ≤ 10000) (hpr : WP.parse t 0 = .ok prts) (rs : List SP.Run)
    (hsum : (rs.map fun r => r.1.length + 1).sum ≤ 4096) (hc : ∀ r ∈ rs, 0 ≤ r.2 ∧ r.2 ≤ 3) (hl : opt = 0 → ∀ r ∈ rs, SP.lit r) (hn : (SP.texts b rs).length ≤ 512)
    (hp : ∀ Y g FA v, EXC Y g VA vn vc PA pn pc opt (.slice FA 1 1) vars ps y → GT Y v (gpL prts) → Calls Tryz.prog 36 #[.pointer (some ⟨g, 0, none⟩), v, .agg #[.bool false, .bool true, .int .i64 0]] Y (RunOut Y rs)) :
    Calls Tryz.prog 9 #[.agg #[.string ⟨shellName.toArray⟩, .slice VA vn vc, .slice PA pn pc, .slice none 0 0, .slice none 0 0, .slice none 0 0, .int .i64 opt, .int .i64 0, .int .i64 0, .int .i64 0, .string ⟨#[47]⟩, .int .i64 1, .int .i64 0, .int .i64 0, .bool false], .string ⟨t.toArray⟩] w (FOut w (SP.texts b rs)) := by
  have hle := SP.els_len rs
  have hrl : ∀ l : List SP.Run, l.length ≤ (l.map fun r => r.1.length + 1).sum := by
    intro l
    induction l with
    | nil => exact Nat.le_refl _
    | cons r l ih => rw [List.map_cons, List.sum_cons, List.length_cons]; omega
  have hrr : ∀ l : List SP.Run, ∀ r ∈ l, r.1.length ≤ (l.map fun r => r.1.length + 1).sum := by
    intro l
    induction l with
    | nil => intro r hr; cases hr
    | cons q l ih =>
      intro r hr
      rw [List.map_cons, List.sum_cons]
      rcases List.mem_cons.1 hr with rfl | hr
      · omega
      · have := ih r hr; omega
  have h1 := hrl rs
  refine fields_any h.vv h.sv h.vl h.pl t prts ht hpr (SP.texts b rs) hn fun Y g FA A cap hY hx hg => ?_
  have EX : EXC Y g VA vn vc PA pn pc opt (.slice FA 1 1) vars ps y := ⟨hx, h.vv.below hY, h.sv.below hY, h.vl, h.pl, h.pj, h.hy, h.ys, h.op⟩
  exact word_any EX (Env_below h.en hY) zn ze zr b h.hz A prts.length cap rs (by omega) (by omega) hc (fun r hr => by have := hrr rs r hr; omega) (SP.fields b rs) rfl (by unfold SP.texts at hn; rw [List.length_map] at hn; exact hn)
    (fun f hf => ⟨(SP.fields_ok b rs 4096 (by omega) f hf).1, fun h0 => SP.fields_okr b rs (hl h0) hc f hf, Nat.le_trans (SP.fields_ok b rs 4096 (by omega) f hf).2.1 (by omega), (SP.fields_ok b rs 4096 (by omega) f hf).2.2⟩)
    (fun Z hZ => hp Z g FA _ (EX.below hZ) (hg.below hZ))
theorem parse_x : WP.parse [36, 120] 0 = .ok [.mk 4 [120] 0 false []] := by kernel_rfl
theorem parse_dx : WP.parse [34, 36, 120, 34] 0 = .ok [.mk 3 [] 0 false [.mk 4 [120] 0 false []]] := by kernel_rfl
theorem parse_at : WP.parse [34, 36, 64, 34] 0 = .ok [.mk 3 [] 0 false [.mk 4 [64] 0 false []]] := by kernel_rfl
theorem parse_pq : WP.parse [112, 34, 36, 120, 34, 113] 0 = .ok [.mk 1 [112] 0 false [], .mk 3 [] 0 false [.mk 4 [120] 0 false []], .mk 1 [113] 0 false []] := by kernel_rfl
theorem gpL_x : gpL [WP.Part.mk 4 [120] 0 false []] = [.mk 4 [120] 0 false []] := by simp [gpL, gp]
theorem gpL_dx : gpL [WP.Part.mk 3 [] 0 false [.mk 4 [120] 0 false []]] = [.mk 3 [] 0 false [.mk 4 [120] 0 false []]] := by simp [gpL, gp]
theorem gpL_at : gpL [WP.Part.mk 3 [] 0 false [.mk 4 [64] 0 false []]] = [.mk 3 [] 0 false [.mk 4 [64] 0 false []]] := by simp [gpL, gp]
theorem gpL_pq : gpL [WP.Part.mk 1 [112] 0 false [], .mk 3 [] 0 false [.mk 4 [120] 0 false []], .mk 1 [113] 0 false []] = [.mk 1 [112] 0 false [], .mk 3 [] 0 false [.mk 4 [120] 0 false []], .mk 1 [113] 0 false []] := by simp [gpL, gp]
/-- The parameter x in double quotes as a part. -/
theorem part_dx {Y : World} {g : Nat} {fv : Value} (hx : EXC Y g VA vn vc PA pn pc opt fv vars ps y) (f : Bool) (c : Int) : PCON Y g (.mk 3 [] 0 false [.mk 4 [120] 0 false []]) false f c [(y.value, 1)] :=
  part_double [.mk 4 [120] 0 false []] false f c [(y.value, cls true)] (by simp) fun Z A cap hZ hg => parts_one (.mk 4 [120] 0 false []) [(y.value, cls true)] true f 0 _ hg (by simp) (part_x (hx.below hZ) true f 0)
/-- The field of a parameter without quotes. -/
theorem fields_x (h : EA w VA vn vc PA pn pc opt vars ps y zn ze zr b) (hs : y.value.length ≤ 200) (hl : opt = 0 → SP.lit (y.value, 2)) : Calls Tryz.prog 9 #[.agg #[.string ⟨shellName.toArray⟩, .slice VA vn vc, .slice PA pn pc, .slice none 0 0, .slice none 0 0, .slice none 0 0, .int .i64 opt, .int .i64 0, .int .i64 0, .int .i64 0, .string ⟨#[47]⟩, .int .i64 1, .int .i64 0, .int .i64 0, .bool false], .string ⟨#[36, 120]⟩] w (FOut w (SP.texts b [(y.value, 2)])) := by
  refine fields_rs h [36, 120] _ (by decide) parse_x [(y.value, 2)] (by simp; omega) (by simp) (fun h0 r hr => by rw [List.mem_singleton.1 hr]; exact hl h0) ?_ fun Y g FA v hx hg => ?_
  · have h1 := SP.fields_cnt b [(y.value, 2)]
    have h2 := SP.els_len [(y.value, 2)]
    unfold SP.texts
    rw [List.length_map]
    simp at h2
    omega
  · rw [gpL_x] at hg
    exact parts_one (.mk 4 [120] 0 false []) [(y.value, cls false)] false true 0 v hg (by simp) (part_x hx false true 0)
theorem fields_dx (h : EA w VA vn vc PA pn pc opt vars ps y zn ze zr b) (hs : y.value.length ≤ 200) : Calls Tryz.prog 9 #[.agg #[.string ⟨shellName.toArray⟩, .slice VA vn vc, .slice PA pn pc, .slice none 0 0, .slice none 0 0, .slice none 0 0, .int .i64 opt, .int .i64 0, .int .i64 0, .int .i64 0, .string ⟨#[47]⟩, .int .i64 1, .int .i64 0, .int .i64 0, .bool false], .string ⟨#[34, 36, 120, 34]⟩] w (FOut w [y.value]) := by
  have := fields_rs h [34, 36, 120, 34] _ (by decide) parse_dx [(y.value, 1)] (by simp; omega) (by simp) (fun h0 r hr => by rw [List.mem_singleton.1 hr]; exact .inl rfl) (by rw [SP.texts_double]; simp) fun Y g FA v hx hg => by
    rw [gpL_dx] at hg
    exact parts_one _ [(y.value, 1)] false true 0 v hg (by simp) (part_dx hx true 0)
  rw [SP.texts_double] at this
  exact this
theorem texts_pq (b : Bool) (s : List UInt8) : SP.texts b [([112], 0), (s, 1), ([113], 0)] = [112 :: (s ++ [113])] := by
  rw [SP.texts_one b _ (by simp), if_neg]
  · simp [SP.text]
  · simp [SP.els, SP.elsOf]
theorem fields_pq (h : EA w VA vn vc PA pn pc opt vars ps y zn ze zr b) (hs : y.value.length ≤ 200) : Calls Tryz.prog 9 #[.agg #[.string ⟨shellName.toArray⟩, .slice VA vn vc, .slice PA pn pc, .slice none 0 0, .slice none 0 0, .slice none 0 0, .int .i64 opt, .int .i64 0, .int .i64 0, .int .i64 0, .string ⟨#[47]⟩, .int .i64 1, .int .i64 0, .int .i64 0, .bool false], .string ⟨#[112, 34, 36, 120, 34, 113]⟩] w (FOut w [112 :: (y.value ++ [113])]) := by
  have := fields_rs h [112, 34, 36, 120, 34, 113] _ (by decide) parse_pq [([112], 0), (y.value, 1), ([113], 0)] (by simp; omega) (by simp) (fun h0 r hr => by
    simp at hr
    rcases hr with rfl | rfl | rfl
    · exact .inr (by simp)
    · exact .inl rfl
    · exact .inr (by simp)) (by rw [texts_pq]; simp) fun Y g FA v hx hg => by
    rw [gpL_pq] at hg
    exact parts_any _ [[([112], 0)], [(y.value, 1)], [([113], 0)]] false true 0 v hg rfl (by simp) (by simp) (by simp) fun i p rs hi hr => by
      match i, hi, hr with
      | 0, hi, hr => simp at hi hr; subst hi hr; exact part_text [112] 0 false [] false true 0
      | 1, hi, hr => simp at hi hr; subst hi hr; exact part_dx hx true 0
      | 2, hi, hr => simp at hi hr; subst hi hr; exact part_text [113] 0 false [] false true 0
  rw [texts_pq] at this
  exact this
theorem fields_at (h : EA w VA vn vc PA pn pc opt vars ps y zn ze zr b) (hp20 : ps.length ≤ 20) (hp100 : ∀ p ∈ ps, p.length ≤ 100) : Calls Tryz.prog 9 #[.agg #[.string ⟨shellName.toArray⟩, .slice VA vn vc, .slice PA pn pc, .slice none 0 0, .slice none 0 0, .slice none 0 0, .int .i64 opt, .int .i64 0, .int .i64 0, .int .i64 0, .string ⟨#[47]⟩, .int .i64 1, .int .i64 0, .int .i64 0, .bool false], .string ⟨#[34, 36, 64, 34]⟩] w (FOut w ps) := by
  have hsum := SP.listed_sum 100 ps hp100
  have hll := SP.listed_len ps
  have := fields_rs h [34, 36, 64, 34] _ (by decide) parse_at (SP.listed ps) (by omega) (fun r hr => by rcases SP.listed_mem ps r hr with ⟨h1, -⟩ | ⟨h1, -⟩ <;> rw [h1] <;> simp) (fun h0 r hr => by
    rcases SP.listed_mem ps r hr with ⟨h1, -⟩ | ⟨-, h1⟩
    · exact .inl h1
    · exact .inr (by rw [h1]; simp)) (by rw [SP.texts_listed]; omega) fun Y g FA v hx hg => by
    rw [gpL_at] at hg
    refine parts_one _ (SP.listed ps) false true 0 v hg (by omega) ?_
    by_cases hne : ps = []
    · subst hne
      exact part_double_none false true 0 fun Z A cap hZ hg2 => parts_one (.mk 4 [64] 0 false []) [] true true 0 _ hg2 (by simp) (part_at (hx.below hZ))
    · exact part_double [.mk 4 [64] 0 false []] false true 0 (SP.listed ps) (by cases ps with | nil => exact absurd rfl hne | cons p r => cases r <;> simp [SP.listed]) fun Z A cap hZ hg2 => parts_one (.mk 4 [64] 0 false []) (SP.listed ps) true true 0 _ hg2 (by omega) (part_at (hx.below hZ))
  rw [SP.texts_listed] at this
  exact this
end
end W
end Go.Proofs.YtkceenmlhfkkhaaGreatDoor
namespace Go.Proofs.YtkceenmlhfkkhaaGreatDoor
open Go.RowKit K
open WP (GP gp gpL)
namespace W
set_option maxRecDepth 100000
attribute [-go_sem] storeVar
def xV (s : List UInt8) : VR.Var := ⟨[120], s, true, false, false⟩
/-- What environ gives, as an argument. -/
abbrev EX (w : World) (VA : Option Addr) (vc : Nat) (PA : Option Addr) (pc : Nat) (opt : Int) (s : List UInt8) : Prop := EA w VA 2 vc PA 2 pc opt (envVars s) [[112, 32, 113], [42]] (xV s) [73, 70, 83] false false true
theorem EX.of {w : World} {VA : Option Addr} {vc : Nat} {PA : Option Addr} {pc : Nat} {opt : Int} {s : List UInt8} (hv : VV w (.slice VA 2 vc) (envVars s)) (hs : SV w (.slice PA 2 pc) [[112, 32, 113], [42]]) (ho : opt = 0 ∨ opt = 8) (he : Env w) : EX w VA vc PA pc opt s :=
  ⟨hv, hs, by simp [envVars], by simp, by decide, rfl, rfl, ho, rfl, he⟩
theorem str_one (w : World) (T : TypeId) (q : Nat) (a : List UInt8) (h : w.heap[q]? = some (.cells #[.string ⟨a.toArray⟩] T (0, 0))) : SV w (.slice (some ⟨q, 0, none⟩) 1 1) [a] := by
  refine ⟨_, _, rfl, Nat.le_refl _, .inr ⟨q, 0, rfl, (Array.getElem?_eq_some_iff.1 h).1, ?_⟩⟩
  have c0 := Lib.cell_of_heap h 0
  intro i x hx j u hj
  match j, hj with
  | 0, hj =>
    match i, hx with
    | 0, hx => simp [es] at hx hj; subst hx hj; simpa using c0
  | j + 1, hj => simp [es] at hj
/-- The box of an environment: what a store of 15 cells into a new block leaves. -/
theorem box15 (Y : World) (VA : Option Addr) (vc : Nat) (PA : Option Addr) (pc : Nat) (opt : Int) : ∃ X, X = (Y.alloc (.cells #[.string ⟨#[]⟩, .slice none 0 0, .slice none 0 0, .slice none 0 0, .slice none 0 0, .slice none 0 0, .int .i64 0, .int .i64 0, .int .i64 0, .int .i64 0, .string ⟨#[]⟩, .int .i64 0, .int .i64 0, .int .i64 0, .bool false] 31)).setRow Y.heap.size #[.string ⟨shellName.toArray⟩, .slice VA 2 vc, .slice PA 2 pc, .slice none 0 0, .slice none 0 0, .slice none 0 0, .int .i64 opt, .int .i64 0, .int .i64 0, .int .i64 0, .string ⟨#[47]⟩, .int .i64 1, .int .i64 0, .int .i64 0, .bool false] ∧ (storeVar 31 ⟨Y.heap.size, 0, none⟩ (.agg #[.string ⟨shellName.toArray⟩, .slice VA 2 vc, .slice PA 2 pc, .slice none 0 0, .slice none 0 0, .slice none 0 0, .int .i64 opt, .int .i64 0, .int .i64 0, .int .i64 0, .string ⟨#[47]⟩, .int .i64 1, .int .i64 0, .int .i64 0, .bool false])).run Tryz.prog (Y.alloc (.cells #[.string ⟨#[]⟩, .slice none 0 0, .slice none 0 0, .slice none 0 0, .slice none 0 0, .slice none 0 0, .int .i64 0, .int .i64 0, .int .i64 0, .int .i64 0, .string ⟨#[]⟩, .int .i64 0, .int .i64 0, .int .i64 0, .bool false] 31)) = .ok () X ∧ X.heap[Y.heap.size]? = some (.cells #[.string ⟨shellName.toArray⟩, .slice VA 2 vc, .slice PA 2 pc, .slice none 0 0, .slice none 0 0, .slice none 0 0, .int .i64 opt, .int .i64 0, .int .i64 0, .int .i64 0, .string ⟨#[47]⟩, .int .i64 1, .int .i64 0, .int .i64 0, .bool false] 31 (0, 0)) ∧ Below Y.heap.size Y X :=
  ⟨_, rfl, run_storeVar_row (P := Tryz.prog) (Y.alloc (.cells #[.string ⟨#[]⟩, .slice none 0 0, .slice none 0 0, .slice none 0 0, .slice none 0 0, .slice none 0 0, .int .i64 0, .int .i64 0, .int .i64 0, .int .i64 0, .string ⟨#[]⟩, .int .i64 0, .int .i64 0, .int .i64 0, .bool false] 31)) Y.heap.size 31 31 _ #[.string ⟨shellName.toArray⟩, .slice VA 2 vc, .slice PA 2 pc, .slice none 0 0, .slice none 0 0, .slice none 0 0, .int .i64 opt, .int .i64 0, .int .i64 0, .int .i64 0, .string ⟨#[47]⟩, .int .i64 1, .int .i64 0, .int .i64 0, .bool false] (al_new _ _) (by kernel_rfl) rfl (by simp [Value.oneCell']), setRow_heap _ _ _ _ _ (0, 0) (al_new _ _), rowB (balloc _ _) (Nat.le_refl _) _⟩
set_option maxHeartbeats 16000000 in
theorem wordsLive_any (w : World) (hen : Env w) : Calls Tryz.prog 7 #[] w fun e w' => e = .returned (.bool true) ∧ Below w.heap.size w w' := by
  have HEN := Lib.hid hen
  have hev := environ_any [97, 32, 98] (by decide) 0 w
  unfold EnvOut at hev
  have HEV := Lib.hid hev
  clear hev hen
  go_enter Tryz.func7, Tryz.ntmps7
  go_wp2_with fail
  refine HEV.out.mono ?_
  rintro e Y ⟨VA, vc, PA, pc, rfl, hv, hs, hb⟩
  have HEX := Lib.hid (EX.of hv hs (.inl rfl) (Env_below HEN.out hb))
  have HB := Lib.hid hb
  obtain ⟨X, hX, hst, hx, hbx⟩ := box15 Y VA vc PA pc 0
  have hX' := hX
  rw [hX] at hst
  have HX := Lib.hid hX
  have HXB := Lib.hid hbx
  have HXC := Lib.hid hx
  obtain ⟨x0, x1, x2, x3, x4, x5, x6, x7, x8, x9, x10, x11, x12, x13, x14⟩ := blk15 hx
  have hxl := (Array.getElem?_eq_some_iff.1 hx).1
  have HF1 := Lib.hid (show Calls Tryz.prog 9 _ _ (FOut _ [[97], [98]]) from fields_x (HEX.out.below hbx) (by decide) (fun _ => .inr (by decide)))
  clear hX hX' hx hbx hv hs hb
  go_upto_region 2 with (fail)
  rw [← HX.out]
  go_wp2_with fail
  refine HF1.out.mono ?_
  rintro e Z ⟨v1, rfl, hf1, -, hb1⟩
  obtain ⟨A1, c1, rfl, -⟩ := hf1.slice
  have HS1 := Lib.hid hf1
  have HB1 := Lib.hid hb1
  have hz := (hb1.block _ hxl).trans HXC.out
  obtain ⟨z0, z1, z2, z3, z4, z5, z6, z7, z8, z9, z10, z11, z12, z13, z14⟩ := blk15 hz
  have hzl := (Array.getElem?_eq_some_iff.1 hz).1
  have HF2 := Lib.hid (show Calls Tryz.prog 9 _ _ (FOut _ [[112, 97, 32, 98, 113]]) from fields_pq ((HEX.out.below HXB.out).below hb1) (by decide))
  clear hf1 hb1 hz x0 x1 x2 x3 x4 x5 x6 x7 x8 x9 x10 x11 x12 x13 x14
  go_wp2_with fail
  refine HF2.out.mono ?_
  rintro e U ⟨v2, rfl, hf2, -, hb2⟩
  obtain ⟨A2, c2, rfl, -⟩ := hf2.slice
  have HS2 := Lib.hid hf2
  have HB2 := Lib.hid hb2
  have HWU := Lib.hid (show Below w.heap.size w U from HB.out.trans ((HXB.out.trans ((HB1.out.trans (hb2.mono HB1.out.size)).mono HXB.out.size)).mono HB.out.size))
  clear hf2 hb2 z0 z1 z2 z3 z4 z5 z6 z7 z8 z9 z10 z11 z12 z13 z14
  go_wp2_with fail
  refine (sameT_any [[97], [98]] _ _ _ ((HS1.out.below HB2.out).below (balloc _ _)) (str_two _ 9 _ [97] [98] (al_new _ _)) (by decide)).mono ?_
  rintro e V ⟨rfl, hv⟩
  have HV := Lib.hid (show Below U.heap.size U V from btr (balloc _ _) hv)
  clear hv
  go_wp2_with fail
  refine (sameT_any [[112, 97, 32, 98, 113]] _ _ _ ((HS2.out.below HV.out).below (balloc _ _)) (str_one _ 9 _ [112, 97, 32, 98, 113] (al_new _ _)) (by decide)).mono ?_
  rintro e V2 ⟨rfl, hv2⟩
  have HV2 := Lib.hid (show Below w.heap.size w V2 from btr (btr (btr HWU.out HV.out) (balloc _ _)) hv2)
  clear hv2
  go_wp2
  go_ret
  exact ⟨rfl, HV2.out⟩
end W
end Go.Proofs.YtkceenmlhfkkhaaGreatDoor
