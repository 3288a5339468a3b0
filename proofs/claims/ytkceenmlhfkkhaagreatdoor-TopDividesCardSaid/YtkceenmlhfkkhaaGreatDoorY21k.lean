/- Several texts in one: W21k W21l. -/
import Derived.Test.YtkceenmlhfkkhaaGreatDoorW21j
import Derived.Laws.Tables
namespace Go.Proofs.YtkceenmlhfkkhaaGreatDoor
open Go.RowKit K
namespace W
set_option maxRecDepth 100000
/-- A store of a whole block, at a step of a region that draws. -/
theorem step_put {P : Program} {ops : Array Oper} {o : Oper} {a : Act} {w : World} {K : Act → World → Prop} {Q : Exit → Act → World → Prop} {E : Prop}
    (hg : o.guard = none) (ty : TypeId) (x y : Operand) (hop : o.op = .store ty x y) (b : Nat) (cells : Array Value) (hx : a.eval x = .pointer (some ⟨b, 0, none⟩)) (hy : a.eval y = .agg cells)
    (t : TypeId) (old : Array Value) (hh : w.heap[b]? = some (.cells old t (0, 0))) (hi : (P.info? ty).map (·.size) = some cells.size) (hold : old.size = cells.size) (h1 : cells.all (·.oneCell') = true)
    (base : Nat) (w0 : World) (hb0 : Below base w0 w) (hle : base ≤ b) (hK : ∀ w', w'.heap[b]? = some (.cells cells t (0, 0)) → Below base w0 w' → K (a.put o.dst undef) w') :
    if Region.wanted o (yielded ops a.tmps) = true then Oper.wp P o a w K Q else E := by
  have hw : Region.wanted o (yielded ops a.tmps) = true := by simp [Region.wanted, hg]
  rw [if_pos hw]
  refine wp_store_row ty x y hop b cells hx hy t old hh hi hold h1 (hK _ (setRow_heap w b old cells t (0, 0) hh) ⟨hb0.os, hb0.tape, hb0.output, by rw [setRow_size]; exact hb0.size, fun k hk => ?_⟩)
  rw [setRow_other w b k cells (by omega)]
  exact hb0.block k hk
def FinOut (w : World) (LA : Option Addr) (n lc vn pn : Nat) (opt : Int) (e : Ending) (w' : World) : Prop := ∃ A1 d1 A2 d2, e = .returned (.tuple #[.agg #[.slice LA n lc, .string ⟨shellName.toArray⟩, .slice A1 vn d1, .slice A2 pn d2, .slice none 0 0, .slice none 0 0, .slice none 0 0, .int .i64 opt, .int .i64 0, .int .i64 0, .int .i64 0, .string ⟨#[47]⟩, .int .i64 1, .int .i64 0, .int .i64 0, .bool false, .bool false, .string ⟨#[]⟩, .string ⟨#[]⟩, .int .i64 (-1)], .int .i64 0]) ∧ Below w.heap.size w w'
theorem rowB {B b : Nat} {w v : World} (h : Below B w v) (hb : B ≤ b) (cs : Array Value) : Below B w (v.setRow b cs) :=
  ⟨h.os, h.tape, h.output, by rw [setRow_size]; exact h.size, fun k hk => by rw [setRow_other v b k cs (by omega)]; exact h.block k hk⟩
theorem built_exp (LA : Option Addr) (n lc : Nat) (A1 : Option Addr) (vn d1 : Nat) (A2 : Option Addr) (pn d2 : Nat) (opt : Int) : Tryz.prog.built 49 [(0, .slice LA n lc), (1, .agg #[.string ⟨shellName.toArray⟩, .slice A1 vn d1, .slice A2 pn d2, .slice none 0 0, .slice none 0 0, .slice none 0 0, .int .i64 opt, .int .i64 0, .int .i64 0, .int .i64 0, .string ⟨#[47]⟩, .int .i64 1, .int .i64 0, .int .i64 0, .bool false]), (5, .int .i64 (-1))] = some #[.slice LA n lc, .string ⟨shellName.toArray⟩, .slice A1 vn d1, .slice A2 pn d2, .slice none 0 0, .slice none 0 0, .slice none 0 0, .int .i64 opt, .int .i64 0, .int .i64 0, .int .i64 0, .string ⟨#[47]⟩, .int .i64 1, .int .i64 0, .int .i64 0, .bool false, .bool false, .string ⟨#[]⟩, .string ⟨#[]⟩, .int .i64 (-1)] := by kernel_rfl
theorem results_cell2 {fn : Func} {a : Tmp} {t : TypeId} {u : Tmp} (h : fn.results = #[.cell a t, .tmp u]) (tmps : Array Value) (P : Program) (w : World) (ad : Addr) (v : Value) (ha : tmps.getD a undef = .pointer (some ad)) (hl : (loadVar t ad).run P w = .ok v w) :
    (results fn tmps).run P w = .ok (.tuple #[v, tmps.getD u undef]) w := by
  rw [Array.getD_eq_getD_getElem?] at ha
  simp [results, h, ha, hl, asAddr]
attribute [-go_sem] storeVar Instr.build Instr.fill
section
variable {w : World} {g : Nat} {VA : Option Addr} {vn vc : Nat} {PA : Option Addr} {pn pc : Nat} {opt : Int} {fv : Value} {vars : List VR.Var} {ps : List (List UInt8)}
set_option maxHeartbeats 16000000 in
theorem finish_any (hx : XB w g (.slice VA vn vc) (.slice PA pn pc) opt fv) (hv : VV w (.slice VA vn vc) vars) (hs : SV w (.slice PA pn pc) ps) (hvl : vars.length ≤ 1000) (hpl : ps.length ≤ 500) (LA : Option Addr) (n lc : Nat) :
    Calls Tryz.prog 25 #[.pointer (some ⟨g, 0, none⟩), .slice LA n lc, .bool true] w (FinOut w LA n lc vn pn opt) := by
  have hiE : (Tryz.prog.info? 49).map (·.size) = some 20 := by kernel_rfl
  obtain ⟨X, hX⟩ : ∃ X, X = w.alloc (.cells #[.slice none 0 0, .string ⟨#[]⟩, .slice none 0 0, .slice none 0 0, .slice none 0 0, .slice none 0 0, .slice none 0 0, .int .i64 0, .int .i64 0, .int .i64 0, .int .i64 0, .string ⟨#[]⟩, .int .i64 0, .int .i64 0, .int .i64 0, .bool false, .bool false, .string ⟨#[]⟩, .string ⟨#[]⟩, .int .i64 0] 49) := ⟨_, rfl⟩
  have HX := Lib.hid hX
  have HBX := Lib.hid (show Below w.heap.size w X by rw [hX]; exact balloc _ _)
  have hxr : X.heap[w.heap.size]? = some (.cells #[.slice none 0 0, .string ⟨#[]⟩, .slice none 0 0, .slice none 0 0, .slice none 0 0, .slice none 0 0, .slice none 0 0, .int .i64 0, .int .i64 0, .int .i64 0, .int .i64 0, .string ⟨#[]⟩, .int .i64 0, .int .i64 0, .int .i64 0, .bool false, .bool false, .string ⟨#[]⟩, .string ⟨#[]⟩, .int .i64 0] 49 (0, 0)) := by rw [hX]; exact al_new w _
  have HZ := Lib.hid (fun Y (hY : Below X.heap.size X Y) => (hY.block _ (Array.getElem?_eq_some_iff.1 hxr).1).trans hxr)
  have HCE := Lib.hid (fun Y (hY : Below w.heap.size w Y) => (cloneEnv_any (opt := opt) (hv.below hY) (hs.below hY) hvl hpl).mono fun e w' h => (show ∃ A1 d1 A2 d2, e = .returned (.agg #[.string ⟨shellName.toArray⟩, .slice A1 vn d1, .slice A2 pn d2, .slice none 0 0, .slice none 0 0, .slice none 0 0, .int .i64 opt, .int .i64 0, .int .i64 0, .int .i64 0, .string ⟨#[47]⟩, .int .i64 1, .int .i64 0, .int .i64 0, .bool false]) ∧ Below Y.heap.size Y w' from h))
  unfold envC at HCE
  have HS := Lib.hid (fun V (hV : Below w.heap.size w V) => (show (V.cell? ⟨g, 0, none⟩ = some (.string ⟨shellName.toArray⟩) ∧ V.cell? ⟨g, 1, none⟩ = some (.slice VA vn vc) ∧ V.cell? ⟨g, 2, none⟩ = some (.slice PA pn pc) ∧ V.cell? ⟨g, 3, none⟩ = some (.slice none 0 0) ∧ V.cell? ⟨g, 4, none⟩ = some (.slice none 0 0) ∧ V.cell? ⟨g, 5, none⟩ = some (.slice none 0 0) ∧ V.cell? ⟨g, 6, none⟩ = some (.int .i64 opt) ∧ V.cell? ⟨g, 7, none⟩ = some (.int .i64 0) ∧ V.cell? ⟨g, 8, none⟩ = some (.int .i64 0) ∧ V.cell? ⟨g, 9, none⟩ = some (.int .i64 0) ∧ V.cell? ⟨g, 10, none⟩ = some (.string ⟨#[47]⟩) ∧ V.cell? ⟨g, 11, none⟩ = some (.int .i64 1) ∧ V.cell? ⟨g, 12, none⟩ = some (.int .i64 0) ∧ V.cell? ⟨g, 13, none⟩ = some (.int .i64 0) ∧ V.cell? ⟨g, 14, none⟩ = some (.bool false)) ∧ V.cell? ⟨g, 17, none⟩ = some (.int .i64 (-1)) ∧ Below w.heap.size w V from by
    obtain ⟨e0, e1, e2, e3, e4, e5, e6, e7, e8, e9, e10, e11, e12, e13, e14⟩ := (hx.below hV).env
    obtain ⟨e15, e16, e17, e18⟩ := (hx.below hV).rest
    exact ⟨⟨e0, e1, e2, e3, e4, e5, e6, e7, e8, e9, e10, e11, e12, e13, e14⟩, e17, hV⟩))
  obtain ⟨⟨e0, e1, e2, e3, e4, e5, e6, e7, e8, e9, e10, e11, e12, e13, e14⟩, e17, -⟩ := HS.out X HBX.out
  have hgx : g < X.heap.size := Nat.lt_of_lt_of_le hx.lt HBX.out.size
  have hgn : ¬ g = w.heap.size := by have := hx.lt; omega
  have hxx := (Array.getElem?_eq_some_iff.1 hxr).1
  have HON := Lib.hid (show ∀ A1 d1 A2 d2, (#[.slice LA n lc, .string ⟨shellName.toArray⟩, .slice A1 vn d1, .slice A2 pn d2, .slice none 0 0, .slice none 0 0, .slice none 0 0, .int .i64 opt, .int .i64 0, .int .i64 0, .int .i64 0, .string ⟨#[47]⟩, .int .i64 1, .int .i64 0, .int .i64 0, .bool false, .bool false, .string ⟨#[]⟩, .string ⟨#[]⟩, .int .i64 (-1)] : Array Value).all (·.oneCell') = true from fun A1 d1 A2 d2 => by simp [Value.oneCell'])
  clear hX hxr hx hv hs
  go_enter Tryz.func25, Tryz.ntmps25
  go_upto_region 1 with (fail)
  rw [← HX.out]
  go_wp2_with fail
  go_region_held_law (fun V => (V.cell? ⟨g, 0, none⟩ = some (.string ⟨shellName.toArray⟩) ∧ V.cell? ⟨g, 1, none⟩ = some (.slice VA vn vc) ∧ V.cell? ⟨g, 2, none⟩ = some (.slice PA pn pc) ∧ V.cell? ⟨g, 3, none⟩ = some (.slice none 0 0) ∧ V.cell? ⟨g, 4, none⟩ = some (.slice none 0 0) ∧ V.cell? ⟨g, 5, none⟩ = some (.slice none 0 0) ∧ V.cell? ⟨g, 6, none⟩ = some (.int .i64 opt) ∧ V.cell? ⟨g, 7, none⟩ = some (.int .i64 0) ∧ V.cell? ⟨g, 8, none⟩ = some (.int .i64 0) ∧ V.cell? ⟨g, 9, none⟩ = some (.int .i64 0) ∧ V.cell? ⟨g, 10, none⟩ = some (.string ⟨#[47]⟩) ∧ V.cell? ⟨g, 11, none⟩ = some (.int .i64 1) ∧ V.cell? ⟨g, 12, none⟩ = some (.int .i64 0) ∧ V.cell? ⟨g, 13, none⟩ = some (.int .i64 0) ∧ V.cell? ⟨g, 14, none⟩ = some (.bool false)) ∧ V.cell? ⟨g, 17, none⟩ = some (.int .i64 (-1)) ∧ Below w.heap.size w V)
    (first | with_reducible exact HS.out _ hy1 | with_reducible exact HS.out _ HBX.out.drew | with_reducible exact HS.out _ (rowB hy1 (Nat.le_refl _) _))
    (first
      | (go_at_call 41; refine (HCE.out _ HBX.out.drew).mono ?_; rintro e Y ⟨A1, d1, A2, d2, rfl, hY⟩; have hy1 : Below w.heap.size w Y := btr HBX.out.drew hY; have hz1 := HZ.out Y ((Below.refl _ _).drew.trans hY); have hst := run_storeVar_row (P := Tryz.prog) Y w.heap.size 49 49 _ #[.slice LA n lc, .string ⟨shellName.toArray⟩, .slice A1 vn d1, .slice A2 pn d2, .slice none 0 0, .slice none 0 0, .slice none 0 0, .int .i64 opt, .int .i64 0, .int .i64 0, .int .i64 0, .string ⟨#[47]⟩, .int .i64 1, .int .i64 0, .int .i64 0, .bool false, .bool false, .string ⟨#[]⟩, .string ⟨#[]⟩, .int .i64 (-1)] hz1 hiE rfl (HON.out A1 d1 A2 d2); have hbd := fun V : World => run_build (P := Tryz.prog) V 49 #[(0, .slice LA n lc), (1, .agg #[.string ⟨shellName.toArray⟩, .slice A1 vn d1, .slice A2 pn d2, .slice none 0 0, .slice none 0 0, .slice none 0 0, .int .i64 opt, .int .i64 0, .int .i64 0, .int .i64 0, .string ⟨#[47]⟩, .int .i64 1, .int .i64 0, .int .i64 0, .bool false]), (5, .int .i64 (-1))] #[.slice LA n lc, .string ⟨shellName.toArray⟩, .slice A1 vn d1, .slice A2 pn d2, .slice none 0 0, .slice none 0 0, .slice none 0 0, .int .i64 opt, .int .i64 0, .int .i64 0, .int .i64 0, .string ⟨#[47]⟩, .int .i64 1, .int .i64 0, .int .i64 0, .bool false, .bool false, .string ⟨#[]⟩, .string ⟨#[]⟩, .int .i64 (-1)] (built_exp LA n lc A1 vn d1 A2 pn d2 opt)))
  all_goals
    have hput := setRow_heap Y w.heap.size _ #[.slice LA n lc, .string ⟨shellName.toArray⟩, .slice A1 vn d1, .slice A2 pn d2, .slice none 0 0, .slice none 0 0, .slice none 0 0, .int .i64 opt, .int .i64 0, .int .i64 0, .int .i64 0, .string ⟨#[47]⟩, .int .i64 1, .int .i64 0, .int .i64 0, .bool false, .bool false, .string ⟨#[]⟩, .string ⟨#[]⟩, .int .i64 (-1)] _ (0, 0) hz1
    have hbel := rowB hy1 (Nat.le_refl _) #[.slice LA n lc, .string ⟨shellName.toArray⟩, .slice A1 vn d1, .slice A2 pn d2, .slice none 0 0, .slice none 0 0, .slice none 0 0, .int .i64 opt, .int .i64 0, .int .i64 0, .int .i64 0, .string ⟨#[47]⟩, .int .i64 1, .int .i64 0, .int .i64 0, .bool false, .bool false, .string ⟨#[]⟩, .string ⟨#[]⟩, .int .i64 (-1)]
    obtain ⟨W, hW⟩ : ∃ W, W = Y.setRow w.heap.size #[.slice LA n lc, .string ⟨shellName.toArray⟩, .slice A1 vn d1, .slice A2 pn d2, .slice none 0 0, .slice none 0 0, .slice none 0 0, .int .i64 opt, .int .i64 0, .int .i64 0, .int .i64 0, .string ⟨#[47]⟩, .int .i64 1, .int .i64 0, .int .i64 0, .bool false, .bool false, .string ⟨#[]⟩, .string ⟨#[]⟩, .int .i64 (-1)] := ⟨_, rfl⟩
    rw [← hW] at hput hbel
    go_wp2
    rw [← hW]
    have hld : (loadVar 49 ⟨w.heap.size, 0, none⟩).run Tryz.prog W = .ok (.agg #[.slice LA n lc, .string ⟨shellName.toArray⟩, .slice A1 vn d1, .slice A2 pn d2, .slice none 0 0, .slice none 0 0, .slice none 0 0, .int .i64 opt, .int .i64 0, .int .i64 0, .int .i64 0, .string ⟨#[47]⟩, .int .i64 1, .int .i64 0, .int .i64 0, .bool false, .bool false, .string ⟨#[]⟩, .string ⟨#[]⟩, .int .i64 (-1)]) W := run_loadVar_row W w.heap.size _ 49 _ (0, 0) _ hput Tryz.underlying49 rfl hiE
    exact bodyPost_ret (results_cell2 Tryz.results25 _ _ _ _ _ rfl hld) rfl ⟨_, _, _, _, rfl, hbel⟩
end
end W
end Go.Proofs.YtkceenmlhfkkhaaGreatDoor
namespace Go.Proofs.YtkceenmlhfkkhaaGreatDoor
open Go.RowKit K
namespace W
set_option maxRecDepth 100000
attribute [-go_sem] storeVar
def WordsOut (w : World) (F : List (List UInt8)) (e : Ending) (w' : World) : Prop := ∃ LA lc r1 r2 r3 r4 r5 r6 r7 r8 r9 r10 r11 r12 r13 r14 r15 r17 r18 r19, e = .returned (.tuple #[.agg #[.slice LA F.length lc, r1, r2, r3, r4, r5, r6, r7, r8, r9, r10, r11, r12, r13, r14, r15, .bool false, r17, r18, r19], .int .i64 0]) ∧ (#[.slice LA F.length lc, r1, r2, r3, r4, r5, r6, r7, r8, r9, r10, r11, r12, r13, r14, r15, .bool false, r17, r18, r19] : Array Value).all (·.oneCell') = true ∧ SV w' (.slice LA F.length lc) F ∧ (∀ r, (Value.slice LA F.length lc).ownBlock = some r → w.heap.size ≤ r) ∧ Below w.heap.size w w'
theorem clone_own {α : Type} {m : Nat} {enc : α → List Value} (hm : ∀ x, (enc x).length = m) (h1 : ∀ (x : α), ∀ u ∈ enc x, u.oneCell' = true) {P : Program} {ST T : TypeId} {i : TypeInfo} {z : Value} {bytes : Nat}
    (ht : P.underlying ST = some (.slice T)) (hi : P.info? T = some i) (hz : i.zero = some z) (hs : i.size = m) (hb : i.bytes = bytes) (hzs : z.cells.size = m) (hpos : 0 < m) (hby : bytes ≤ 1000)
    {w : World} {A : Option Addr} {n c : Nat} {l : List α} (h : RV m enc w (.slice A n c) l) (hl : l.length ≤ 100000) :
    ∃ v' w', (Builtin.append_ #[ST, ST] ST #[.slice none 0 0, .slice A n c]).run P w = .ok v' w' ∧ OR m enc T w.heap.size w' v' l ∧ Below w.heap.size w w' := by
  obtain ⟨A0, c0, h0, hc, hr⟩ := h
  injection h0 with e1 e2 e3
  subst e1 e2 e3
  cases A with
  | none =>
    have hl0 : l = [] := by
      rcases hr with hr | ⟨b, off, h, _⟩
      · exact hr
      · cases h
    subst hl0
    exact ⟨_, w, run_append_nothing _ _ _ _ T i ht hi _ 0 0 (Nat.le_refl _) _ (Src.ofNil _ ht c), OR.nil _ _ _, Below.refl _ _⟩
  | some ad =>
    have hnews : ∀ j u, (l.flatMap enc)[j]? = some u → w.cell? (ad.add j) = some u := by
      rcases hr with hr | ⟨b, off, h, hlt, hat⟩
      · subst hr; intro j u h; simp at h
      · injection h with h
        subst h
        exact hat.flat hm
    have hones : ∀ u ∈ l.flatMap enc, u.oneCell' = true := by
      intro u hu
      obtain ⟨x, _, hx⟩ := List.mem_flatMap.1 hu
      exact h1 x u hx
    obtain ⟨v', w', r1, r2, r3, -, -⟩ := run_append_own_at (P := P) (w := w) w.heap.size ST ST T i z m bytes ht hi hz hs hb hzs hpos _ 0 [] (World.ownsRow_nil _ _ _ _) ad l.length c (l.flatMap enc) (flat_len hm l) hnews hones (by unfold maxLen; omega) (by have := Nat.mul_le_mul (show 0 + l.length ≤ 100000 by omega) hby; omega) (Nat.le_refl _)
    have hO : OR m enc T w.heap.size w' v' l := by unfold OR; simpa using r2
    exact ⟨v', w', r1, hO, (Below.refl _ w).grown r3 (Nat.le_refl _) (fun r hr => own_ge (World.ownsRow_nil w w.heap.size T m) r hr)⟩
theorem OR.put {α : Type} {m : Nat} {enc : α → List Value} {T : TypeId} {B : Nat} {w : World} {v : Value} {l : List α} (h : OR m enc T B w v l) (hm : ∀ x, (enc x).length = m) (q : Nat) (hq : q < B) (cs : Array Value) : RV m enc (w.setRow q cs) v l := by
  obtain ⟨A, cap, rfl, hc, hr⟩ := h.rv hm
  refine ⟨A, cap, rfl, hc, ?_⟩
  rcases hr with hr | ⟨b, off, rfl, hb, hat⟩
  · exact .inl hr
  · refine .inr ⟨b, off, rfl, by rw [setRow_size]; exact hb, fun i x hx j u hj => ?_⟩
    have hge := own_ge h b rfl
    rw [← hat i x hx j u hj]
    unfold World.cell?
    rw [setRow_other w q b cs (by omega)]
section
variable {w : World} {VA : Option Addr} {vn vc : Nat} {PA : Option Addr} {pn pc : Nat} {opt : Int} {FA : Option Addr} {fn fc : Nat} {vars : List VR.Var} {ps : List (List UInt8)}
set_option maxHeartbeats 16000000 in
theorem Words_any (hv : VV w (.slice VA vn vc) vars) (hs : SV w (.slice PA pn pc) ps) (hvl : vars.length ≤ 1000) (hpl : ps.length ≤ 500) (b off wc : Nat) (A : Option Addr) (n cap : Nat) (hb : b < w.heap.size)
    (hw0 : w.cell? ⟨b, off, none⟩ = some (.int .i64 0)) (hw1 : w.cell? ⟨b, off + 1, none⟩ = some (.slice A n cap)) (F : List (List UInt8)) (hF : F.length ≤ 512)
    (hp : ∀ Y g, Below w.heap.size w Y → XB Y g (.slice VA vn vc) (.slice PA pn pc) opt (.slice FA fn fc) → Calls Tryz.prog 23 #[.pointer (some ⟨g, 0, none⟩), .agg #[.int .i64 0, .slice A n cap]] Y fun e w' => ∃ v', e = .returned (.tuple #[v', .bool true]) ∧ SV w' v' F ∧ Below Y.heap.size Y w') :
    Calls Tryz.prog 14 #[.agg #[.string ⟨shellName.toArray⟩, .slice VA vn vc, .slice PA pn pc, .slice none 0 0, .slice none 0 0, .slice none 0 0, .int .i64 opt, .int .i64 0, .int .i64 0, .int .i64 0, .string ⟨#[47]⟩, .int .i64 1, .int .i64 0, .int .i64 0, .bool false], .slice FA fn fc, .slice (some ⟨b, off, none⟩) 1 wc, .slice none 0 0] w (WordsOut w F) := by
  obtain ⟨i0, hi, hz0, hz1, hz2⟩ := info_parts infoStr
  have HV := Lib.hid hv
  have HS := Lib.hid hs
  have HP := Lib.hid hp
  obtain ⟨X, hX⟩ : ∃ X, X = (w.alloc (.cells #[.string ⟨shellName.toArray⟩, .slice VA vn vc, .slice PA pn pc, .slice none 0 0, .slice none 0 0, .slice none 0 0, .int .i64 opt, .int .i64 0, .int .i64 0, .int .i64 0, .string ⟨#[47]⟩, .int .i64 1, .int .i64 0, .int .i64 0, .bool false] 31)).alloc (.cells #[.slice none 0 0, .string ⟨#[]⟩, .slice none 0 0, .slice none 0 0, .slice none 0 0, .slice none 0 0, .slice none 0 0, .int .i64 0, .int .i64 0, .int .i64 0, .int .i64 0, .string ⟨#[]⟩, .int .i64 0, .int .i64 0, .int .i64 0, .bool false, .bool false, .string ⟨#[]⟩, .string ⟨#[]⟩, .int .i64 0] 49) := ⟨_, rfl⟩
  have HX := Lib.hid hX
  have HBX := Lib.hid (show Below w.heap.size w X by rw [hX]; exact btr (balloc _ _) (balloc _ _))
  have hxe : X.heap[w.heap.size]? = some (.cells #[.string ⟨shellName.toArray⟩, .slice VA vn vc, .slice PA pn pc, .slice none 0 0, .slice none 0 0, .slice none 0 0, .int .i64 opt, .int .i64 0, .int .i64 0, .int .i64 0, .string ⟨#[47]⟩, .int .i64 1, .int .i64 0, .int .i64 0, .bool false] 31 (0, 0)) := by rw [hX]; exact (Below.heap_alloc _ _ _ (by simp)).trans (al_new w _)
  have hxr : X.heap[w.heap.size + 1]? = some (.cells #[.slice none 0 0, .string ⟨#[]⟩, .slice none 0 0, .slice none 0 0, .slice none 0 0, .slice none 0 0, .slice none 0 0, .int .i64 0, .int .i64 0, .int .i64 0, .int .i64 0, .string ⟨#[]⟩, .int .i64 0, .int .i64 0, .int .i64 0, .bool false, .bool false, .string ⟨#[]⟩, .string ⟨#[]⟩, .int .i64 0] 49 (0, 0)) := by rw [hX]; exact al_new' _ _ _ (by simp)
  have HZ := Lib.hid (fun Y (hY : Below X.heap.size X Y) => (hY.block _ (Array.getElem?_eq_some_iff.1 hxr).1).trans hxr)
  obtain ⟨x0, x1, x2, x3, x4, x5, x6, x7, x8, x9, x10, x11, x12, x13, x14⟩ := blk15 hxe
  have hst := start_any (.slice VA vn vc) (.slice PA pn pc) opt FA fn fc X
  unfold envC at hst
  have HST := Lib.hid hst
  clear hX hxe hxr hv hs hp hst
  go_enter Tryz.func14, Tryz.ntmps14
  go_upto_region 1 with (fail)
  rw [← HX.out]
  go_wp2_with fail
  refine HST.out.mono ?_
  rintro e Y ⟨g, rfl, hxb, hY⟩
  have HXB := Lib.hid hxb
  have HBY := Lib.hid hY
  clear hxb hY
  go_wp2
  go_loopw [11, 22] (fun o i wr => (i = .int .i64 0 ∧ o = .slice none 0 0 ∧ wr = Y) ∨ (i = .int .i64 1 ∧ (∃ A' c', o = .slice A' F.length c') ∧ Hid (OR 1 es 9 X.heap.size wr o F) ∧ Hid (Below X.heap.size X wr ∧ XB wr g (.slice VA vn vc) (.slice PA pn pc) opt (.slice FA fn fc)))) (fun _ i _ => 1 - (intOf i).toNat)
  case atStart => exact .inl ⟨rfl, rfl, rfl⟩
  case round =>
    rcases hrel with ⟨rfl, rfl, hwr⟩ | ⟨rfl, ⟨LA, lc, rfl⟩, HO, HBW⟩
    · have HWR := Lib.hid (show Below X.heap.size X wr ∧ XB wr g (.slice VA vn vc) (.slice PA pn pc) opt (.slice FA fn fc) from by rw [hwr]; exact ⟨HBY.out, HXB.out⟩)
      clear hwr
      have HWW := Lib.hid (HBX.out.trans (HWR.out.1.mono HBX.out.size))
      have hw0 := (HWW.out.cell (p := ⟨b, off, none⟩) hb).trans hw0
      have hw1 := (HWW.out.cell (p := ⟨b, off + 1, none⟩) hb).trans hw1
      have hbw : b < wr.heap.size := Nat.lt_of_lt_of_le hb HWW.out.size
      have hi2 : (Tryz.prog.info? 55).map (·.size) = some 2 := by kernel_rfl
      have hst := run_storeVar_row (P := Tryz.prog) (wr.alloc (.cells #[.int .i64 0, .slice none 0 0] 55)) wr.heap.size 55 55 _ #[.int .i64 0, .slice A n cap] (al_new wr _) hi2 rfl (by simp [Value.oneCell'])
      obtain ⟨T, hT⟩ : ∃ T, T = (wr.alloc (.cells #[.int .i64 0, .slice none 0 0] 55)).setRow wr.heap.size #[.int .i64 0, .slice A n cap] := ⟨_, rfl⟩
      have HT := Lib.hid hT
      have hwt : Below wr.heap.size wr T := by rw [hT]; exact rowB (balloc _ _) (Nat.le_refl _) _
      have HBT := Lib.hid (show Below X.heap.size X T from btr HWR.out.1 hwt)
      have HXT := Lib.hid (show XB T g (.slice VA vn vc) (.slice PA pn pc) opt (.slice FA fn fc) from HWR.out.2.below hwt)
      have hbt : T.heap[wr.heap.size]? = some (.cells #[.int .i64 0, .slice A n cap] 55 (0, 0)) := by rw [hT]; exact setRow_heap _ _ _ _ _ (0, 0) (al_new wr _)
      have t0 : T.cell? ⟨wr.heap.size, 0, none⟩ = some (.int .i64 0) := Lib.cell_of_heap hbt 0
      have t1 : T.cell? ⟨wr.heap.size, 1, none⟩ = some (.slice A n cap) := Lib.cell_of_heap hbt 1
      have htz := (Array.getElem?_eq_some_iff.1 hbt).1
      have HWC := Lib.hid (HP.out T g (HBX.out.trans (HBT.out.mono HBX.out.size)) HXT.out)
      clear hT hbt HP hwt
      go_upto_region 6 with (fail)
      rw [← HT.out]
      go_wp2_with fail
      refine HWC.out.mono ?_
      rintro e V ⟨v', rfl, hsv, hbv⟩
      obtain ⟨Av, cv, rfl, -⟩ := hsv.slice
      obtain ⟨v3, W3, hrun, hr3, hb3⟩ := clone_own es_len es_ones Tryz.underlying24 hi hz0 hz1 hz2 rfl (by decide) (by omega) hsv (by omega)
      obtain ⟨A3, c3, rfl⟩ := hr3.val
      have HRUN := Lib.hid hrun
      have HBV := Lib.hid (btr HBT.out hbv)
      have HR3 := Lib.hid (show OR 1 es 9 X.heap.size W3 (.slice A3 F.length c3) F from hr3.base HBV.out.size)
      have HB3 := Lib.hid (btr HBV.out hb3)
      have HX3 := Lib.hid ((HXT.out.below hbv).below hb3)
      have hf1 : ((F.length : Int) > 512) = False := eq_false (by omega)
      have hf2 : ((512 : Int) < (F.length : Int)) = False := eq_false (by omega)
      have hf3 : IntKind.i64.wrap (F.length : Int) = (F.length : Int) := by rw [IntKind.wrap_i64]; omega
      have hf4 : IntKind.i64.wrap (0 + (F.length : Int)) = (F.length : Int) := by rw [IntKind.wrap_i64]; omega
      clear hsv hbv hrun hr3 hb3
      go_wp2_with (at_builtin; refine append_eqT rfl _ _ 24 rfl _ _ _ rfl rfl HRUN.out ?_)
      go_wp2
      go_roundw
      case rel => exact .inr ⟨by go_num, ⟨A3, c3, rfl⟩, HR3, Lib.hid ⟨HB3.out, HX3.out⟩⟩
      case measure => simp [intOf]
    · have HWW := Lib.hid (HBX.out.trans (HBW.out.1.mono HBX.out.size))
      have HFN := Lib.hid (finish_any HBW.out.2 (HV.out.below HWW.out) (HS.out.below HWW.out) hvl hpl LA F.length lc)
      unfold FinOut at HFN
      have hiE : (Tryz.prog.info? 49).map (·.size) = some 20 := by kernel_rfl
      go_wp2_with fail
      refine HFN.out.mono ?_
      rintro e Z ⟨A1, d1, A2, d2, rfl, hz⟩
      have hzz := HZ.out Z (btr HBW.out.1 hz)
      have hst := run_storeVar_row (P := Tryz.prog) Z (w.heap.size + 1) 49 49 _ #[.slice LA F.length lc, .string ⟨shellName.toArray⟩, .slice A1 vn d1, .slice A2 pn d2, .slice none 0 0, .slice none 0 0, .slice none 0 0, .int .i64 opt, .int .i64 0, .int .i64 0, .int .i64 0, .string ⟨#[47]⟩, .int .i64 1, .int .i64 0, .int .i64 0, .bool false, .bool false, .string ⟨#[]⟩, .string ⟨#[]⟩, .int .i64 (-1)] hzz hiE rfl (by simp [Value.oneCell'])
      have hput := setRow_heap Z (w.heap.size + 1) _ #[.slice LA F.length lc, .string ⟨shellName.toArray⟩, .slice A1 vn d1, .slice A2 pn d2, .slice none 0 0, .slice none 0 0, .slice none 0 0, .int .i64 opt, .int .i64 0, .int .i64 0, .int .i64 0, .string ⟨#[47]⟩, .int .i64 1, .int .i64 0, .int .i64 0, .bool false, .bool false, .string ⟨#[]⟩, .string ⟨#[]⟩, .int .i64 (-1)] _ (0, 0) hzz
      have hbel := rowB (btr HWW.out hz) (Nat.le_succ _) #[.slice LA F.length lc, .string ⟨shellName.toArray⟩, .slice A1 vn d1, .slice A2 pn d2, .slice none 0 0, .slice none 0 0, .slice none 0 0, .int .i64 opt, .int .i64 0, .int .i64 0, .int .i64 0, .string ⟨#[47]⟩, .int .i64 1, .int .i64 0, .int .i64 0, .bool false, .bool false, .string ⟨#[]⟩, .string ⟨#[]⟩, .int .i64 (-1)]
      have hsv := OR.put (HO.out.below hz) es_len (w.heap.size + 1) (Array.getElem?_eq_some_iff.1 (HZ.out X (Below.refl _ _))).1 #[.slice LA F.length lc, .string ⟨shellName.toArray⟩, .slice A1 vn d1, .slice A2 pn d2, .slice none 0 0, .slice none 0 0, .slice none 0 0, .int .i64 opt, .int .i64 0, .int .i64 0, .int .i64 0, .string ⟨#[47]⟩, .int .i64 1, .int .i64 0, .int .i64 0, .bool false, .bool false, .string ⟨#[]⟩, .string ⟨#[]⟩, .int .i64 (-1)]
      obtain ⟨W, hW⟩ : ∃ W, W = Z.setRow (w.heap.size + 1) #[.slice LA F.length lc, .string ⟨shellName.toArray⟩, .slice A1 vn d1, .slice A2 pn d2, .slice none 0 0, .slice none 0 0, .slice none 0 0, .int .i64 opt, .int .i64 0, .int .i64 0, .int .i64 0, .string ⟨#[47]⟩, .int .i64 1, .int .i64 0, .int .i64 0, .bool false, .bool false, .string ⟨#[]⟩, .string ⟨#[]⟩, .int .i64 (-1)] := ⟨_, rfl⟩
      rw [← hW] at hput hbel hsv
      clear hz hzz
      go_wp2
      rw [← hW]
      have hld : (loadVar 49 ⟨w.heap.size + 1, 0, none⟩).run Tryz.prog W = .ok (.agg #[.slice LA F.length lc, .string ⟨shellName.toArray⟩, .slice A1 vn d1, .slice A2 pn d2, .slice none 0 0, .slice none 0 0, .slice none 0 0, .int .i64 opt, .int .i64 0, .int .i64 0, .int .i64 0, .string ⟨#[47]⟩, .int .i64 1, .int .i64 0, .int .i64 0, .bool false, .bool false, .string ⟨#[]⟩, .string ⟨#[]⟩, .int .i64 (-1)]) W := run_loadVar_row W (w.heap.size + 1) _ 49 _ (0, 0) _ hput Tryz.underlying49 rfl hiE
      exact bodyPost_ret (results_cell2 Tryz.results14 _ _ _ _ _ rfl hld) rfl ⟨_, _, _, _, _, _, _, _, _, _, _, _, _, _, _, _, _, _, _, _, rfl, by simp [Value.oneCell'], hsv, fun r hr => Nat.le_trans HBX.out.size (own_ge HO.out r hr), hbel⟩
end
end W
end Go.Proofs.YtkceenmlhfkkhaaGreatDoor
