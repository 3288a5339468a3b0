/- Several texts in one: W21a W21b W21c W21d. -/
import Derived.Test.YtkceenmlhfkkhaaGreatDoorY20f
import Derived.Test.YtkceenmlhfkkhaaGreatDoorY15
namespace Go.Proofs.YtkceenmlhfkkhaaGreatDoor
open Go.RowKit K
namespace W
set_option maxRecDepth 100000
def shellName : List UInt8 := [106, 111, 98, 115, 104, 101, 108, 108]
/-- An environment, its cells in order. -/
def envC (vv vp : Value) (opt : Int) : Array Value := #[.string ⟨shellName.toArray⟩, vv, vp, .slice none 0 0, .slice none 0 0, .slice none 0 0, .int .i64 opt, .int .i64 0, .int .i64 0, .int .i64 0, .string ⟨#[47]⟩, .int .i64 1, .int .i64 0, .int .i64 0, .bool false]
/-- The expander's box. -/
def XB (W : World) (g : Nat) (vv vp : Value) (opt : Int) (fv : Value) : Prop :=
  W.heap[g]? = some (.cells #[.string ⟨shellName.toArray⟩, vv, vp, .slice none 0 0, .slice none 0 0, .slice none 0 0, .int .i64 opt, .int .i64 0, .int .i64 0, .int .i64 0, .string ⟨#[47]⟩, .int .i64 1, .int .i64 0, .int .i64 0, .bool false, fv, .slice none 0 0, .int .i64 (-1), .bool false, .string ⟨#[]⟩, .string ⟨#[]⟩, .int .i64 0] 85 (0, 0))
theorem XB.below {W W' : World} {g : Nat} {vv vp : Value} {opt : Int} {fv : Value} (h : XB W g vv vp opt fv) (hb : Below W.heap.size W W') : XB W' g vv vp opt fv := (hb.block g (Array.getElem?_eq_some_iff.1 h).1).trans h
theorem XB.lt {W : World} {g : Nat} {vv vp : Value} {opt : Int} {fv : Value} (h : XB W g vv vp opt fv) : g < W.heap.size := (Array.getElem?_eq_some_iff.1 h).1
theorem one_any (s : List UInt8) (c : Int) (w : World) : Calls Tryz.prog 86 #[.string ⟨s.toArray⟩, .int .i64 c] w fun e w' => e = .returned (.slice (some ⟨w.heap.size, 0, none⟩) 1 1) ∧ w' = w.alloc (.cells #[.string ⟨s.toArray⟩, .int .i64 c] 121) := by
  go_enter Tryz.func86, Tryz.ntmps86
  go_wp2
  go_ret
  exact ⟨rfl, rfl⟩
theorem mliteral_any (q f : Bool) (c : Int) (w : World) : Calls Tryz.prog 87 #[.agg #[.bool q, .bool f, .int .i64 c]] w fun e w' => e = .returned (.int .i64 (if q = true then 1 else c)) ∧ Below w.heap.size w w' := by
  cases q
  all_goals
    go_enter Tryz.func87, Tryz.ntmps87
    go_wp2
    go_ret
    exact ⟨rfl, balloc _ _⟩
theorem mresult_any (q f : Bool) (c : Int) (w : World) : Calls Tryz.prog 132 #[.agg #[.bool q, .bool f, .int .i64 c]] w fun e w' => e = .returned (.int .i64 (if q = true then 1 else 2)) ∧ Below w.heap.size w w' := by
  cases q
  all_goals
    go_enter Tryz.func132, Tryz.ntmps132
    go_wp2
    go_ret
    exact ⟨rfl, balloc _ _⟩
theorem list_x (w : World) : Calls Tryz.prog 140 #[.string ⟨#[120]⟩] w fun e w' => e = .returned (.bool false) ∧ w' = w := by
  go_enter Tryz.func140, Tryz.ntmps140
  go_wp2
  go_ret
  exact ⟨rfl, rfl⟩
theorem list_at (w : World) : Calls Tryz.prog 140 #[.string ⟨#[64]⟩] w fun e w' => e = .returned (.bool true) ∧ w' = w := by
  go_enter Tryz.func140, Tryz.ntmps140
  go_wp2
  go_ret
  exact ⟨rfl, rfl⟩
theorem Choose_none (set : Bool) (s : List UInt8) (w : World) : Calls Tryz.prog 189 #[.int .i64 0, .bool false, .bool set, .string ⟨s.toArray⟩] w fun e w' => e = .returned (.int .i64 0) ∧ w' = w := by
  cases set
  all_goals
    go_enter Tryz.func189, Tryz.ntmps189
    go_wp2
    go_ret
    exact ⟨rfl, rfl⟩
theorem special_x (w : World) : Calls Tryz.prog 183 #[.string ⟨#[120]⟩] w fun e w' => e = .returned (.bool false) ∧ w' = w := by
  have HC := Lib.hid (Tryz.strings_Contains_one ⟨#[64, 42, 35, 63, 45, 36, 33, 48]⟩ 120 w)
  go_enter Tryz.func183, Tryz.ntmps183
  go_wp2_with fail
  refine HC.out.mono ?_
  rintro e Y ⟨rfl, rfl⟩
  go_wp2
  go_ret
  exact ⟨rfl, rfl⟩
theorem special_at (w : World) : Calls Tryz.prog 183 #[.string ⟨#[64]⟩] w fun e w' => e = .returned (.bool true) ∧ w' = w := by
  have HC := Lib.hid (Tryz.strings_Contains_one ⟨#[64, 42, 35, 63, 45, 36, 33, 48]⟩ 64 w)
  go_enter Tryz.func183, Tryz.ntmps183
  go_wp2_with fail
  refine HC.out.mono ?_
  rintro e Y ⟨rfl, rfl⟩
  go_wp2
  go_ret
  exact ⟨rfl, rfl⟩
set_option maxHeartbeats 2000000 in
theorem variable_any (vars : List VR.Var) (nm : List UInt8) (VA : Option Addr) (vn vc : Nat) (vp : Value) (opt : Int) (w : World) (hv : VV w (.slice VA vn vc) vars) (hl : vars.length ≤ 1000) (y : VR.Var) (hy : VR.get vars nm = some y) (hs : y.set = true) :
    Calls Tryz.prog 186 #[.agg (envC (.slice VA vn vc) vp opt), .string ⟨nm.toArray⟩] w fun e w' => e = .returned (.tuple #[.string ⟨y.value.toArray⟩, .bool true]) ∧ Below w.heap.size w w' := by
  have HG := Lib.hid (fun Y (hY : Below w.heap.size w Y) => Get_any vars nm _ Y (hv.below hY) (by omega))
  rw [hy] at HG
  unfold GetOut aggV at HG
  simp only [Option.getD_some, Option.isSome_some, hs] at HG
  obtain ⟨yn, yv, ys, ye, yr⟩ := y
  dsimp only at HG ⊢
  unfold envC
  clear hv hl hy hs
  go_enter Tryz.func186, Tryz.ntmps186
  go_wp2_with fail
  refine (HG.out _ (balloc _ _)).mono ?_
  rintro e Y ⟨rfl, hY⟩
  have HY := Lib.hid (btr (balloc _ _) hY)
  clear hY
  go_wp2
  go_ret2
  exact ⟨rfl, btr HY.out (balloc _ _)⟩
end W
end Go.Proofs.YtkceenmlhfkkhaaGreatDoor
namespace Go.Proofs.YtkceenmlhfkkhaaGreatDoor
open Go.RowKit K
namespace W
set_option maxRecDepth 100000
/-- Strings in a slice. -/
abbrev SV (w : World) (v : Value) (l : List (List UInt8)) : Prop := RV 1 es w v l
theorem SV.get {w : World} {A : Option Addr} {n cap : Nat} {l : List (List UInt8)} (h : SV w (.slice A n cap) l) {i : Nat} {x : List UInt8} (hi : l[i]? = some x) :
    ∃ b off, A = some ⟨b, off, none⟩ ∧ b < w.heap.size ∧ w.cell? ⟨b, off + i, none⟩ = some (.string ⟨x.toArray⟩) := by
  obtain ⟨b, off, h1, h2, h3⟩ := RV.get h hi
  refine ⟨b, off, h1, h2, ?_⟩
  have := h3 0 _ rfl
  rwa [Nat.mul_one, Nat.add_zero] at this
theorem Join_sp (v : Value) (ns : List (List UInt8)) (w : World) (ho : SV w v ns) (hn : ns.length ≤ 1000) (hj : (Lib.join ns [32]).length ≤ 3000000) :
    Calls Tryz.prog 61 #[v, .string ⟨#[32]⟩] w fun e w' => e = .returned (.string ⟨(Lib.join ns [32]).toArray⟩) ∧ Below w.heap.size w w' := by
  obtain ⟨A, cap, rfl, hcap, h⟩ := ho
  rcases h with rfl | ⟨b, off, rfl, hb, hr⟩
  · exact (Tryz.strings_Join_none A cap ⟨#[32]⟩ w).mono fun e w' ⟨h1, h2⟩ => ⟨h1, by rw [h2]; exact Below.refl _ _⟩
  · have hm : (ns.map fun s => (⟨s.toArray⟩ : ByteArray)).map (·.data.toList) = ns := by simp [Function.comp_def]
    have := Tryz.strings_Join b off cap (ns.map fun s => (⟨s.toArray⟩ : ByteArray)) ⟨#[32]⟩ w (fun j x hx => ?_) hb (by simp; omega) (by simpa using hcap) (by rw [hm]; show (Lib.join ns [32]).length ≤ _; omega)
    · rw [hm, List.length_map] at this
      exact this
    · obtain ⟨s, hs, rfl⟩ : ∃ s, ns[j]? = some s ∧ (⟨s.toArray⟩ : ByteArray) = x := by
        rw [List.getElem?_map] at hx
        cases h : ns[j]? with
        | none => rw [h] at hx; cases hx
        | some s => rw [h] at hx; simp at hx; exact ⟨s, rfl, hx⟩
      have := hr j s hs 0 _ rfl
      rwa [Nat.mul_one, Nat.add_zero] at this
set_option maxHeartbeats 2000000 in
theorem Value_x (vars : List VR.Var) (VA : Option Addr) (vn vc : Nat) (PA : Option Addr) (pn pc : Nat) (opt : Int) (w : World) (hv : VV w (.slice VA vn vc) vars) (hl : vars.length ≤ 1000) (y : VR.Var) (hy : VR.get vars [120] = some y) (hs : y.set = true) :
    Calls Tryz.prog 139 #[.agg (envC (.slice VA vn vc) (.slice PA pn pc) opt), .string ⟨#[120]⟩] w fun e w' => e = .returned (.tuple #[.string ⟨y.value.toArray⟩, .bool true]) ∧ Below w.heap.size w w' := by
  have HV := Lib.hid (fun Y (hY : Below w.heap.size w Y) => variable_any vars [120] VA vn vc (.slice PA pn pc) opt Y (hv.below hY) hl y hy hs)
  have HSP := Lib.hid (fun Y => special_x Y)
  have HD := Lib.hid (fun Y => show Calls Tryz.prog 185 #[.string ⟨#[120]⟩] Y (fun e w' => e = .returned (.tuple #[.int .i64 0, .bool false]) ∧ Below Y.heap.size Y w') from Digits_any [120] Y (by decide))
  have HN := Lib.hid (fun Y => show Calls Tryz.prog 16 #[.string ⟨#[120]⟩] Y (fun e w' => e = .returned (.bool true) ∧ Below Y.heap.size Y w') from Name_any [120] Y (by decide))
  unfold envC at HV ⊢
  clear hv hl hy hs
  go_enter Tryz.func139, Tryz.ntmps139
  go_wp2_with fail
  refine (HSP.out _).mono ?_
  rintro e Y1 ⟨rfl, h1⟩
  have HY1 := Lib.hid (show Below w.heap.size w Y1 by rw [h1]; exact balloc _ _)
  have hbx : Y1.heap[w.heap.size]? = some (.cells #[.string ⟨shellName.toArray⟩, .slice VA vn vc, .slice PA pn pc, .slice none 0 0, .slice none 0 0, .slice none 0 0, .int .i64 opt, .int .i64 0, .int .i64 0, .int .i64 0, .string ⟨#[47]⟩, .int .i64 1, .int .i64 0, .int .i64 0, .bool false] 31 (0, 0)) := by rw [h1]; exact al_new w _
  have HBX := Lib.hid hbx
  clear h1 hbx
  go_wp2_with fail
  refine (HD.out _).mono ?_
  rintro e Y2 ⟨rfl, h2⟩
  have HY2 := Lib.hid (HY1.out.trans (h2.mono HY1.out.size))
  have HBX2 := Lib.hid ((h2.block _ (Array.getElem?_eq_some_iff.1 HBX.out).1).trans HBX.out)
  clear h2
  go_wp2_with fail
  refine (HN.out _).mono ?_
  rintro e Y3 ⟨rfl, h3⟩
  have HY3 := Lib.hid (HY2.out.trans (h3.mono HY2.out.size))
  have hb := (h3.block _ (Array.getElem?_eq_some_iff.1 HBX2.out).1).trans HBX2.out
  have e0 := Lib.cell_of_heap hb 0
  have e1 := Lib.cell_of_heap hb 1
  have e2 := Lib.cell_of_heap hb 2
  have e3 := Lib.cell_of_heap hb 3
  have e4 := Lib.cell_of_heap hb 4
  have e5 := Lib.cell_of_heap hb 5
  have e6 := Lib.cell_of_heap hb 6
  have e7 := Lib.cell_of_heap hb 7
  have e8 := Lib.cell_of_heap hb 8
  have e9 := Lib.cell_of_heap hb 9
  have e10 := Lib.cell_of_heap hb 10
  have e11 := Lib.cell_of_heap hb 11
  have e12 := Lib.cell_of_heap hb 12
  have e13 := Lib.cell_of_heap hb 13
  have e14 := Lib.cell_of_heap hb 14
  have hsz := (Array.getElem?_eq_some_iff.1 hb).1
  clear h3 hb
  go_wp2_with fail
  refine (HV.out _ HY3.out).mono ?_
  rintro e Y4 ⟨rfl, h4⟩
  have HY4 := Lib.hid (HY3.out.trans (h4.mono HY3.out.size))
  clear h4
  go_wp2
  go_ret2
  exact ⟨rfl, HY4.out⟩
set_option maxHeartbeats 4000000 in
theorem specialValue_at (VA : Option Addr) (vn vc : Nat) (PA : Option Addr) (pn pc : Nat) (ps : List (List UInt8)) (opt : Int) (w : World) (hp : SV w (.slice PA pn pc) ps) (hn : ps.length ≤ 1000) (hj : (Lib.join ps [32]).length ≤ 3000000) :
    Calls Tryz.prog 184 #[.agg (envC (.slice VA vn vc) (.slice PA pn pc) opt), .int .u8 64] w fun e w' => e = .returned (.tuple #[.string ⟨(Lib.join ps [32]).toArray⟩, .bool (decide (0 < ps.length))]) ∧ Below w.heap.size w w' := by
  have hpn : pn = ps.length := by obtain ⟨A, c, h1, -⟩ := hp; injection h1
  subst hpn
  obtain ⟨J, hJ⟩ : ∃ J, Lib.join ps [32] = J := ⟨_, rfl⟩
  have HJN := Lib.hid (fun Y (hY : Below w.heap.size w Y) => Join_sp _ ps Y (hp.below hY) hn hj)
  rw [hJ] at HJN ⊢
  obtain ⟨X, hX⟩ : ∃ X, X = w.alloc (.cells (envC (.slice VA vn vc) (.slice PA ps.length pc) opt) 31) := ⟨_, rfl⟩
  have HX := Lib.hid hX
  have HBX := Lib.hid (show Below w.heap.size w X by rw [hX]; exact balloc _ _)
  have hbx : X.heap[w.heap.size]? = some (.cells (envC (.slice VA vn vc) (.slice PA ps.length pc) opt) 31 (0, 0)) := by rw [hX]; exact al_new w _
  have HS := Lib.hid (fun Y (hY : Below X.heap.size X Y) => (show Y.cell? ⟨w.heap.size, 2, none⟩ = some (.slice PA ps.length pc) ∧ Below X.heap.size X Y from ⟨Lib.cell_of_heap ((hY.block _ (Array.getElem?_eq_some_iff.1 hbx).1).trans hbx) 2, hY⟩))
  have g2 := (HS.out X (Below.refl _ _)).1
  have hxl := (Array.getElem?_eq_some_iff.1 hbx).1
  unfold envC at HX ⊢
  clear hX hbx hp hj hJ
  go_enter Tryz.func184, Tryz.ntmps184
  go_upto_region 3 with (fail)
  rw [← HX.out]
  go_wp2_with fail
  go_region_held_law (fun w' => w'.cell? ⟨w.heap.size, 2, none⟩ = some (.slice PA ps.length pc) ∧ Below X.heap.size X w')
    (first | exact HS.out _ (Below.refl _ _).drew | exact HS.out _ hy1)
    (first | (go_at_call 61; go_split_ands; refine (HJN.out _ (HBX.out.trans ((‹Below X.heap.size X _›).mono HBX.out.size))).mono ?_; rintro e Y1 ⟨rfl, hy0⟩; have hy1 := (‹Below X.heap.size X _›).trans (hy0.mono (Below.size ‹Below X.heap.size X _›))))
  all_goals
    have HY1 := Lib.hid (HBX.out.trans (hy1.mono HBX.out.size))
    clear hy1 hy0
    go_wp2
    go_ret2
    exact ⟨by simp, HY1.out⟩
set_option maxHeartbeats 4000000 in
theorem Value_at (VA : Option Addr) (vn vc : Nat) (PA : Option Addr) (pn pc : Nat) (ps : List (List UInt8)) (opt : Int) (w : World) (hp : SV w (.slice PA pn pc) ps) (hn : ps.length ≤ 1000) (hj : (Lib.join ps [32]).length ≤ 3000000) :
    Calls Tryz.prog 139 #[.agg (envC (.slice VA vn vc) (.slice PA pn pc) opt), .string ⟨#[64]⟩] w fun e w' => e = .returned (.tuple #[.string ⟨(Lib.join ps [32]).toArray⟩, .bool (decide (0 < ps.length))]) ∧ Below w.heap.size w w' := by
  have HSV := Lib.hid (fun Y (hY : Below w.heap.size w Y) => specialValue_at VA vn vc PA pn pc ps opt Y (hp.below hY) hn hj)
  have HSP := Lib.hid (fun Y => special_at Y)
  obtain ⟨J, hJ⟩ : ∃ J, Lib.join ps [32] = J := ⟨_, rfl⟩
  rw [hJ] at HSV ⊢
  unfold envC at HSV ⊢
  clear hp hn hj hJ
  go_enter Tryz.func139, Tryz.ntmps139
  go_wp2_with fail
  refine (HSP.out _).mono ?_
  rintro e Y1 ⟨rfl, h1⟩
  have HY1 := Lib.hid (show Below w.heap.size w Y1 by rw [h1]; exact balloc _ _)
  have hb : Y1.heap[w.heap.size]? = some (.cells #[.string ⟨shellName.toArray⟩, .slice VA vn vc, .slice PA pn pc, .slice none 0 0, .slice none 0 0, .slice none 0 0, .int .i64 opt, .int .i64 0, .int .i64 0, .int .i64 0, .string ⟨#[47]⟩, .int .i64 1, .int .i64 0, .int .i64 0, .bool false] 31 (0, 0)) := by rw [h1]; exact al_new w _
  have e0 := Lib.cell_of_heap hb 0
  have e1 := Lib.cell_of_heap hb 1
  have e2 := Lib.cell_of_heap hb 2
  have e3 := Lib.cell_of_heap hb 3
  have e4 := Lib.cell_of_heap hb 4
  have e5 := Lib.cell_of_heap hb 5
  have e6 := Lib.cell_of_heap hb 6
  have e7 := Lib.cell_of_heap hb 7
  have e8 := Lib.cell_of_heap hb 8
  have e9 := Lib.cell_of_heap hb 9
  have e10 := Lib.cell_of_heap hb 10
  have e11 := Lib.cell_of_heap hb 11
  have e12 := Lib.cell_of_heap hb 12
  have e13 := Lib.cell_of_heap hb 13
  have e14 := Lib.cell_of_heap hb 14
  have hsz := (Array.getElem?_eq_some_iff.1 hb).1
  clear h1 hb
  go_wp2_with fail
  go_region_with (go_at_call 184; refine (HSV.out _ HY1.out.drew).mono ?_; rintro e Y2 ⟨rfl, hy2⟩)
  all_goals
    have HY2 := Lib.hid (HY1.out.trans ((show Below Y1.heap.size Y1 Y2 from (Below.refl _ _).drew.trans hy2).mono HY1.out.size))
    clear hy2
    go_wp2
    go_ret2
    exact ⟨rfl, HY2.out⟩
end W
end Go.Proofs.YtkceenmlhfkkhaaGreatDoor
namespace Go.Proofs.YtkceenmlhfkkhaaGreatDoor
open Go.RowKit K
namespace W
set_option maxRecDepth 100000
def cls (q : Bool) : Int := if q = true then 1 else 2
theorem run_one (w : World) (s : List UInt8) (c : Int) (T : TypeId) : R2 (w.alloc (.cells #[.string ⟨s.toArray⟩, .int .i64 c] T)) (.slice (some ⟨w.heap.size, 0, none⟩) 1 1) [(s, c)] := by
  refine ⟨_, _, rfl, Nat.le_refl _, .inr ⟨w.heap.size, 0, rfl, by simp, RAt.of_flat e2_len fun j u hj => ?_⟩⟩
  rw [Nat.zero_add]
  have := cells2 w (.string ⟨s.toArray⟩) (.int .i64 c) T j u hj
  rw [show (⟨w.heap.size, 0, none⟩ : Addr).add j = ⟨w.heap.size, j, none⟩ by unfold Addr.add; split <;> simp_all] at this
  exact this
/-- What an expansion that goes on leaves. -/
def RunOut (w : World) (rs : List SP.Run) (e : Ending) (w' : World) : Prop := ∃ v', e = .returned (.tuple #[v', .bool true]) ∧ R2 w' v' rs ∧ Below w.heap.size w w'
set_option maxHeartbeats 2000000 in
theorem itself_x (g : Nat) (s : List UInt8) (q f : Bool) (c : Int) (w : World) : Calls Tryz.prog 191 #[.pointer (some ⟨g, 0, none⟩), .string ⟨#[120]⟩, .string ⟨s.toArray⟩, .agg #[.bool q, .bool f, .int .i64 c]] w fun e w' => ∃ b, e = .returned (.slice (some ⟨b, 0, none⟩) 1 1) ∧ R2 w' (.slice (some ⟨b, 0, none⟩) 1 1) [(s, cls q)] ∧ Below w.heap.size w w' := by
  have HL := Lib.hid (fun Y => list_x Y)
  have HM := Lib.hid (fun Y => show Calls Tryz.prog 132 #[.agg #[.bool q, .bool f, .int .i64 c]] Y (fun e w' => e = .returned (.int .i64 (cls q)) ∧ Below Y.heap.size Y w') from mresult_any q f c Y)
  have HO := Lib.hid (fun Y => one_any s (cls q) Y)
  obtain ⟨X, hX⟩ : ∃ X, X = w.alloc (.cells #[.bool q, .bool f, .int .i64 c] 90) := ⟨_, rfl⟩
  have HX := Lib.hid hX
  have HBX := Lib.hid (show Below w.heap.size w X by rw [hX]; exact balloc _ _)
  have hb : X.heap[w.heap.size]? = some (.cells #[.bool q, .bool f, .int .i64 c] 90 (0, 0)) := by rw [hX]; exact al_new w _
  have e0 := Lib.cell_of_heap hb 0
  have e1 := Lib.cell_of_heap hb 1
  have e2 := Lib.cell_of_heap hb 2
  have hsz := (Array.getElem?_eq_some_iff.1 hb).1
  clear hX hb
  generalize cls q = k at *
  cases f
  case false =>
    go_enter Tryz.func191, Tryz.ntmps191
    go_upto_region 1 with (fail)
    rw [← HX.out]
    go_wp2_with fail
    refine (HM.out _).mono ?_
    rintro e Y1 ⟨rfl, h1⟩
    have H1 := Lib.hid (HBX.out.trans (h1.mono HBX.out.size))
    clear h1
    go_wp2_with fail
    refine (HO.out _).mono ?_
    rintro e Y2 ⟨rfl, h2⟩
    have HY2 := Lib.hid (show R2 Y2 (.slice (some ⟨Y1.heap.size, 0, none⟩) 1 1) [(s, k)] ∧ Below w.heap.size w Y2 by rw [h2]; exact ⟨run_one _ _ _ _, btr H1.out (balloc _ _)⟩)
    clear h2
    go_wp2
    go_ret
    exact ⟨_, rfl, HY2.out⟩
  case true =>
    go_enter Tryz.func191, Tryz.ntmps191
    go_upto_region 1 with (fail)
    rw [← HX.out]
    go_wp2_with fail
    refine (HL.out _).mono ?_
    rintro e Y0 ⟨rfl, h0⟩
    obtain rfl : X = Y0 := h0.symm
    go_wp2_with fail
    refine (HM.out _).mono ?_
    rintro e Y1 ⟨rfl, h1⟩
    have H1 := Lib.hid (HBX.out.trans (h1.mono HBX.out.size))
    clear h1
    go_wp2_with fail
    refine (HO.out _).mono ?_
    rintro e Y2 ⟨rfl, h2⟩
    have HY2 := Lib.hid (show R2 Y2 (.slice (some ⟨Y1.heap.size, 0, none⟩) 1 1) [(s, k)] ∧ Below w.heap.size w Y2 by rw [h2]; exact ⟨run_one _ _ _ _, btr H1.out (balloc _ _)⟩)
    clear h2
    go_wp2
    go_ret
    exact ⟨_, rfl, HY2.out⟩
theorem p5 {v : World} {b : Nat} {a0 a1 a2 a3 a4 : Value} {t : TypeId} (h : v.heap[b]? = some (.cells #[a0, a1, a2, a3, a4] t (0, 0))) :
    v.cell? ⟨b, 0, none⟩ = some a0 ∧ v.cell? ⟨b, 1, none⟩ = some a1 ∧ v.cell? ⟨b, 2, none⟩ = some a2 ∧ v.cell? ⟨b, 3, none⟩ = some a3 ∧ v.cell? ⟨b, 4, none⟩ = some a4 := ⟨Lib.cell_of_heap h 0, Lib.cell_of_heap h 1, Lib.cell_of_heap h 2, Lib.cell_of_heap h 3, Lib.cell_of_heap h 4⟩
theorem m3 {v : World} {b : Nat} {a0 a1 a2 : Value} {t : TypeId} (h : v.heap[b]? = some (.cells #[a0, a1, a2] t (0, 0))) :
    v.cell? ⟨b, 0, none⟩ = some a0 ∧ v.cell? ⟨b, 1, none⟩ = some a1 ∧ v.cell? ⟨b, 2, none⟩ = some a2 := ⟨Lib.cell_of_heap h 0, Lib.cell_of_heap h 1, Lib.cell_of_heap h 2⟩
/-- The boxes of a part and a mode, made at the start of a function. -/
structure BX2 (w X : World) (pk : Int) (nm : List UInt8) (PP : Option Addr) (pn pc : Nat) (q f : Bool) (c : Int) : Prop where
  eq : X = (w.alloc (.cells #[.int .i64 pk, .string ⟨nm.toArray⟩, .int .i64 0, .bool false, .slice PP pn pc] 114)).alloc (.cells #[.bool q, .bool f, .int .i64 c] 90)
  bel : Below w.heap.size w X
  p : X.heap[w.heap.size]? = some (.cells #[.int .i64 pk, .string ⟨nm.toArray⟩, .int .i64 0, .bool false, .slice PP pn pc] 114 (0, 0))
  m : X.heap[w.heap.size + 1]? = some (.cells #[.bool q, .bool f, .int .i64 c] 90 (0, 0))
theorem bx2 (w : World) (pk : Int) (nm : List UInt8) (PP : Option Addr) (pn pc : Nat) (q f : Bool) (c : Int) : ∃ X, BX2 w X pk nm PP pn pc q f c :=
  ⟨_, rfl, btr (balloc _ _) (balloc _ _), (Below.heap_alloc _ _ _ (by simp)).trans (al_new w _), al_new' _ _ _ (by simp)⟩
theorem BX2.at_ {w X : World} {pk : Int} {nm : List UInt8} {PP : Option Addr} {pn pc : Nat} {q f : Bool} {c : Int} (h : BX2 w X pk nm PP pn pc q f c) {Y : World} (hY : Below X.heap.size X Y) :
    (Y.cell? ⟨w.heap.size, 0, none⟩ = some (.int .i64 pk) ∧ Y.cell? ⟨w.heap.size, 1, none⟩ = some (.string ⟨nm.toArray⟩) ∧ Y.cell? ⟨w.heap.size, 2, none⟩ = some (.int .i64 0) ∧ Y.cell? ⟨w.heap.size, 3, none⟩ = some (.bool false) ∧ Y.cell? ⟨w.heap.size, 4, none⟩ = some (.slice PP pn pc)) ∧
    (Y.cell? ⟨w.heap.size + 1, 0, none⟩ = some (.bool q) ∧ Y.cell? ⟨w.heap.size + 1, 1, none⟩ = some (.bool f) ∧ Y.cell? ⟨w.heap.size + 1, 2, none⟩ = some (.int .i64 c)) ∧ w.heap.size + 1 < Y.heap.size ∧ w.heap.size < Y.heap.size := by
  have hm := (hY.block _ (Array.getElem?_eq_some_iff.1 h.m).1).trans h.m
  have := (Array.getElem?_eq_some_iff.1 hm).1
  exact ⟨p5 ((hY.block _ (Array.getElem?_eq_some_iff.1 h.p).1).trans h.p), m3 hm, this, by omega⟩
set_option maxHeartbeats 2000000 in
theorem choose_x (g : Nat) (PP : Option Addr) (pn pc : Nat) (s : List UInt8) (q f : Bool) (c : Int) (w : World) :
    Calls Tryz.prog 144 #[.pointer (some ⟨g, 0, none⟩), .agg #[.int .i64 4, .string ⟨#[120]⟩, .int .i64 0, .bool false, .slice PP pn pc], .agg #[.bool q, .bool f, .int .i64 c], .string ⟨s.toArray⟩, .bool true] w (RunOut w [(s, cls q)]) := by
  have HC := Lib.hid (fun Y => Choose_none true s Y)
  have HI := Lib.hid (fun Y => itself_x g s q f c Y)
  obtain ⟨X, hX⟩ := bx2 w 4 [120] PP pn pc q f c
  have HX := Lib.hid hX.eq
  have HBX := Lib.hid hX
  obtain ⟨⟨p0, p1, p2, p3, p4⟩, ⟨m0, m1, m2⟩, z1, z2⟩ := hX.at_ (Below.refl _ _)
  clear hX
  go_enter Tryz.func144, Tryz.ntmps144
  go_upto_region 1 with (fail)
  rw [← HX.out]
  go_wp2_with fail
  refine (HC.out _).mono ?_
  rintro e Y0 ⟨rfl, h0⟩
  obtain rfl : X = Y0 := h0.symm
  go_wp2_with fail
  refine (HI.out _).mono ?_
  rintro e Y1 ⟨b, rfl, h1, h2⟩
  have H1 := Lib.hid h1
  have H2 := Lib.hid (HBX.out.bel.trans (h2.mono HBX.out.bel.size))
  clear h1 h2
  go_wp2
  go_ret2
  exact ⟨_, rfl, H1.out, H2.out⟩
end W
end Go.Proofs.YtkceenmlhfkkhaaGreatDoor
namespace Go.Proofs.YtkceenmlhfkkhaaGreatDoor
open Go.RowKit K
namespace W
set_option maxRecDepth 100000
theorem XB.env {W : World} {g : Nat} {vv vp : Value} {opt : Int} {fv : Value} (h : XB W g vv vp opt fv) :
    W.cell? ⟨g, 0, none⟩ = some (.string ⟨shellName.toArray⟩) ∧ W.cell? ⟨g, 1, none⟩ = some vv ∧ W.cell? ⟨g, 2, none⟩ = some vp ∧ W.cell? ⟨g, 3, none⟩ = some (.slice none 0 0) ∧ W.cell? ⟨g, 4, none⟩ = some (.slice none 0 0) ∧ W.cell? ⟨g, 5, none⟩ = some (.slice none 0 0) ∧ W.cell? ⟨g, 6, none⟩ = some (.int .i64 opt) ∧ W.cell? ⟨g, 7, none⟩ = some (.int .i64 0) ∧ W.cell? ⟨g, 8, none⟩ = some (.int .i64 0) ∧ W.cell? ⟨g, 9, none⟩ = some (.int .i64 0) ∧ W.cell? ⟨g, 10, none⟩ = some (.string ⟨#[47]⟩) ∧ W.cell? ⟨g, 11, none⟩ = some (.int .i64 1) ∧ W.cell? ⟨g, 12, none⟩ = some (.int .i64 0) ∧ W.cell? ⟨g, 13, none⟩ = some (.int .i64 0) ∧ W.cell? ⟨g, 14, none⟩ = some (.bool false) :=
  ⟨Lib.cell_of_heap h 0, Lib.cell_of_heap h 1, Lib.cell_of_heap h 2, Lib.cell_of_heap h 3, Lib.cell_of_heap h 4, Lib.cell_of_heap h 5, Lib.cell_of_heap h 6, Lib.cell_of_heap h 7, Lib.cell_of_heap h 8, Lib.cell_of_heap h 9, Lib.cell_of_heap h 10, Lib.cell_of_heap h 11, Lib.cell_of_heap h 12, Lib.cell_of_heap h 13, Lib.cell_of_heap h 14⟩
theorem XB.rest {W : World} {g : Nat} {vv vp : Value} {opt : Int} {fv : Value} (h : XB W g vv vp opt fv) :
    W.cell? ⟨g, 15, none⟩ = some fv ∧ W.cell? ⟨g, 16, none⟩ = some (.slice none 0 0) ∧ W.cell? ⟨g, 17, none⟩ = some (.int .i64 (-1)) ∧ W.cell? ⟨g, 18, none⟩ = some (.bool false) :=
  ⟨Lib.cell_of_heap h 15, Lib.cell_of_heap h 16, Lib.cell_of_heap h 17, Lib.cell_of_heap h 18⟩
/-- What every function of the expander is given. -/
structure EXC (w : World) (g : Nat) (VA : Option Addr) (vn vc : Nat) (PA : Option Addr) (pn pc : Nat) (opt : Int) (fv : Value) (vars : List VR.Var) (ps : List (List UInt8)) (y : VR.Var) : Prop where
  xb : XB w g (.slice VA vn vc) (.slice PA pn pc) opt fv
  vv : VV w (.slice VA vn vc) vars
  sv : SV w (.slice PA pn pc) ps
  vl : vars.length ≤ 1000
  pl : ps.length ≤ 500
  pj : (Lib.join ps [32]).length ≤ 100000
  hy : VR.get vars [120] = some y
  ys : y.set = true
  op : opt = 0 ∨ opt = 8
theorem EXC.below {w w' : World} {g : Nat} {VA : Option Addr} {vn vc : Nat} {PA : Option Addr} {pn pc : Nat} {opt : Int} {fv : Value} {vars : List VR.Var} {ps : List (List UInt8)} {y : VR.Var} (h : EXC w g VA vn vc PA pn pc opt fv vars ps y) (hb : Below w.heap.size w w') : EXC w' g VA vn vc PA pn pc opt fv vars ps y :=
  ⟨h.xb.below hb, h.vv.below hb, h.sv.below hb, h.vl, h.pl, h.pj, h.hy, h.ys, h.op⟩
section
variable {w : World} {g : Nat} {VA : Option Addr} {vn vc : Nat} {PA : Option Addr} {pn pc : Nat} {opt : Int} {fv : Value} {vars : List VR.Var} {ps : List (List UInt8)} {y : VR.Var}
set_option maxHeartbeats 8000000 in
theorem parameter_x (hx : EXC w g VA vn vc PA pn pc opt fv vars ps y) (PP : Option Addr) (qc : Nat) (q f : Bool) (c : Int) :
    Calls Tryz.prog 91 #[.pointer (some ⟨g, 0, none⟩), .agg #[.int .i64 4, .string ⟨#[120]⟩, .int .i64 0, .bool false, .slice PP 0 qc], .agg #[.bool q, .bool f, .int .i64 c]] w (RunOut w [(y.value, cls q)]) := by
  have HX0 := Lib.hid hx
  obtain ⟨X, hX⟩ := bx2 w 4 [120] PP 0 qc q f c
  have HXE := Lib.hid hX.eq
  have HBX := Lib.hid hX
  have hop := hx.op
  have HVX := Lib.hid (fun Y (hY : Below w.heap.size w Y) => Value_x vars VA vn vc PA pn pc opt Y (hx.vv.below hY) hx.vl y hx.hy hx.ys)
  have HCX := Lib.hid (fun Y => choose_x g PP 0 qc y.value q f c Y)
  obtain ⟨⟨p0, p1, p2, p3, p4⟩, ⟨m0, m1, m2⟩, z1, z2⟩ := hX.at_ (Below.refl _ _)
  obtain ⟨e0, e1, e2, e3, e4, e5, e6, e7, e8, e9, e10, e11, e12, e13, e14⟩ := (hx.xb.below hX.bel).env
  have hgx : g < X.heap.size := Nat.lt_of_lt_of_le hx.xb.lt hX.bel.size
  have hgn : ¬ g = w.heap.size := by have := hx.xb.lt; omega
  generalize y.value = s at *
  unfold envC at HVX
  clear hX hx
  rcases hop with rfl | rfl
  all_goals
    go_enter Tryz.func91, Tryz.ntmps91
    go_upto_region 1 with (fail)
    rw [← HXE.out]
    go_wp2_with fail
    go_region_with (go_at_call 139; refine (HVX.out _ HBX.out.bel.drew).mono ?_; rintro e Y ⟨rfl, hY⟩)
  all_goals
    have hXY : Below X.heap.size X Y := (Below.refl _ _).drew.trans hY
    have HXY := Lib.hid hXY
    obtain ⟨⟨p0, p1, p2, p3, p4⟩, ⟨m0, m1, m2⟩, z1, z2⟩ := HBX.out.at_ hXY
    have e6 : Y.cell? ⟨g, 6, none⟩ = _ := (hXY.cell (p := ⟨g, 6, none⟩) hgx).trans e6
    have hgy : g < Y.heap.size := Nat.lt_of_lt_of_le hgx hXY.size
    clear e0 e1 e2 e3 e4 e5 e7 e8 e9 e10 e11 e12 e13 e14 hY hXY
    go_wp2_with fail
    refine (HCX.out _).mono ?_
    rintro e Z ⟨v', rfl, h1, h2⟩
    have H1 := Lib.hid h1
    have H2 := Lib.hid (HBX.out.bel.trans ((btr HXY.out h2).mono HBX.out.bel.size))
    clear h1 h2
    obtain ⟨Av, cv, rfl, -⟩ := H1.out.slice
    go_wp2
    go_ret2
    exact ⟨_, rfl, H1.out, H2.out⟩
end
end W
end Go.Proofs.YtkceenmlhfkkhaaGreatDoor
