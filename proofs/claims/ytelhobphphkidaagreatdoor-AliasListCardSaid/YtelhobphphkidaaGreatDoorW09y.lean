/- Chapter 9: pass at a newline where no here-document waits; replace's answer is AX.replace; the examiner as a whole; its steps in terms of AX.X. -/
import Derived.Test.YtelhobphphkidaaGreatDoorW09t
import Derived.Test.YtelhobphphkidaaGreatDoorW09v
namespace Go.Proofs.YtelhobphphkidaaGreatDoor
open Go.RowKit K
namespace W
theorem EB.set8 {W : World} {g : Nat} {s : List UInt8} {at_ : Int} {va vm vb vl : Value} {c h st : Bool} (e : EB W g s at_ va vm vb c h st vl) (v : Value) : EB (W.setCell ⟨g, 8, none⟩ v) g s at_ va vm vb c h st v := by
  have := heap_setCell_same W g 8 _ _ v e
  unfold EB; rw [this]; simp
set_option maxRecDepth 100000 in
set_option maxHeartbeats 1000000 in
theorem skip_none (g : Nat) (s : List UInt8) (at_ : Int) (va vm vb : Value) (c h str : Bool) (w : World) (he : EB w g s at_ va vm vb c h str (.slice none 0 0)) :
    Calls Tryz.prog 57 #[.pointer (some ⟨g, 0, none⟩)] w fun e w' => e = .returned (.tuple #[]) ∧ EB w' g s at_ va vm vb c h str (.slice none 0 0) ∧ OneBox g w w' := by
  obtain ⟨-, -, -, -, -, -, -, -, x8⟩ := he.cells
  have f8 := he.thaw 8
  have hgs := he.lt
  have HF := Lib.hid (show EB (w.setCell ⟨g, 8, none⟩ (.slice none 0 0)) g s at_ va vm vb c h str (.slice none 0 0) ∧ OneBox g w (w.setCell ⟨g, 8, none⟩ (.slice none 0 0)) from ⟨he.set8 _, (OneBox.refl g w).set _ _⟩)
  clear he
  go_enter Tryz.func57, Tryz.ntmps57
  go_wp2
  go_loopw [13] (fun i wr => i = .int .i64 0 ∧ wr = w) (fun _ _ => 0)
  case atStart => exact ⟨rfl, rfl⟩
  case round =>
    obtain ⟨rfl, rfl⟩ := hrel
    go_wp2
    first | go_end0 | refine bodyPost_ret (results_none rfl _ _ _) rfl ?_
    exact ⟨rfl, HF.out⟩
set_option maxRecDepth 100000 in
set_option maxHeartbeats 1000000 in
theorem pass_line (ps st : Nat) (tx : List UInt8) (g : Nat) (s : List UInt8) (at_ : Int) (va vm vb : Value) (c str : Bool) (w : World) (he : EB w g s at_ va vm vb c false str (.slice none 0 0)) :
    Calls Tryz.prog 36 #[.pointer (some ⟨g, 0, none⟩), .agg #[.int .i64 3, .int .i64 ps, .int .i64 st, .string ⟨tx.toArray⟩]] w fun e w' => e = .returned (.tuple #[]) ∧ EB w' g s st va vm vb true false str (.slice none 0 0) ∧ OneBox g w w' := by
  have hgs := he.lt
  obtain ⟨V, hV⟩ : ∃ V, V = w.setCell ⟨g, 1, none⟩ (.int .i64 st) := ⟨_, rfl⟩
  have e1 : EB V g s st va vm vb c false str (.slice none 0 0) := by rw [hV]; exact he.set1 _
  have hVs : V.heap.size = w.heap.size := by rw [hV]; simp
  have hV1 : OneBox g w V := by rw [hV]; exact (OneBox.refl g w).set 1 _
  obtain ⟨X, hX⟩ : ∃ X, X = V.alloc (.cells #[.int .i64 3, .int .i64 ps, .int .i64 st, .string ⟨tx.toArray⟩] 62) := ⟨_, rfl⟩
  have e2 : EB X g s st va vm vb c false str (.slice none 0 0) := by rw [hX]; exact e1.new (balloc V _)
  have hX1 : OneBox g w X := by rw [hX]; exact hV1.alloc hgs _
  have hnX : X.heap[w.heap.size]? = some (.cells #[.int .i64 3, .int .i64 ps, .int .i64 st, .string ⟨tx.toArray⟩] 62 (0, 0)) := by rw [hX, ← hVs]; exact al_new V _
  obtain ⟨-, w1, -⟩ := he.cells
  have wf := he.thaw 1
  obtain ⟨-, -, -, -, -, x5, x6, -⟩ := e2.cells
  have f5 := e2.thaw 5
  have t0 : X.cell? ⟨w.heap.size, 0, none⟩ = some (.int .i64 3) := Lib.cell_of_heap hnX 0
  have HX := Lib.hid (show X = (w.setCell ⟨g, 1, none⟩ (.int .i64 st)).alloc (.cells #[.int .i64 3, .int .i64 ps, .int .i64 st, .string ⟨tx.toArray⟩] 62) by rw [hX, hV])
  have HS := Lib.hid (skip_none g s st va vm vb c false str X e2)
  have hgx : g < X.heap.size := e2.lt
  have HX1 := Lib.hid hX1
  clear he e1 hV1 hX hV e2 hX1 hnX hVs
  go_enter Tryz.func36, Tryz.ntmps36
  go_upto_region 2 with (fail)
  rw [← HX.out]
  go_wp2_with fail
  refine HS.out.mono ?_
  rintro e X2 ⟨rfl, hb, ho⟩
  obtain ⟨-, -, -, -, -, y5, -⟩ := hb.cells
  have k5 := hb.thaw 5
  have HF := Lib.hid (show EB (X2.setCell ⟨g, 5, none⟩ (.bool true)) g s st va vm vb true false str (.slice none 0 0) ∧ OneBox g w (X2.setCell ⟨g, 5, none⟩ (.bool true)) from ⟨hb.set5 true, OneBox.set ⟨Nat.le_trans HX1.out.1 ho.1, fun q h1 h2 => (ho.2.1 q (Nat.lt_of_lt_of_le h1 HX1.out.1) h2).trans (HX1.out.2.1 q h1 h2), HX1.out.2.2.trans ho.2.2⟩ _ _⟩)
  clear hb ho
  go_wp2
  first | go_end0 | refine bodyPost_ret (results_none rfl _ _ _) rfl ?_
  exact ⟨rfl, HF.out⟩
end W
end Go.Proofs.YtelhobphphkidaaGreatDoor
namespace Go.Proofs.YtelhobphphkidaaGreatDoor
open K W
namespace AX
theorem suffix_one (v : List UInt8) (b : UInt8) : Lib.hasSuffix v [b] = (v.getLast? == some b) := by
  unfold Lib.hasSuffix
  rw [Bool.eq_iff_iff, List.isSuffixOf_iff_suffix, beq_iff_eq, List.getLast?_eq_some_iff]
  constructor
  · rintro ⟨t, rfl⟩
    exact ⟨t, rfl⟩
  · rintro ⟨t, rfl⟩
    exact ⟨t, rfl⟩
theorem cuts {s v : List UInt8} {ps st : Nat} : cut s 0 ps ++ (v ++ cut s st s.length) = s.take ps ++ v ++ s.drop st := by
  simp [cut]
theorem replace_eq (x : X) (ps st : Nat) (tx v : List UInt8) : replace x ps st tx v =
    { x with s := cut x.s 0 ps ++ (v ++ cut x.s st x.s.length), at_ := ps, ends := sput (x.ends.map fun e => (e.1, if (ps : Int) < e.2 then e.2 + ((v.length : Int) - ((st : Int) - (ps : Int))) else e.2)) tx ((ps : Int) + v.length), blanks := (x.blanks.map (· + ((v.length : Int) - ((st : Int) - (ps : Int)))) ++ if Lib.hasSuffix v [32] || Lib.hasSuffix v [9] then [(ps : Int) + v.length] else []), cmd := true } := by
  rw [suffix_one, suffix_one, cuts]
  rfl
end AX
end Go.Proofs.YtelhobphphkidaaGreatDoor
namespace Go.Proofs.YtelhobphphkidaaGreatDoor
open Go.RowKit K
namespace W
/-- The examiner x in memory; w0: Expand's first world. -/
structure XI (w0 : World) (g mb : Nat) (va : Value) (B : Int) (N : Nat) (vb : Value) (x : AX.X) (W : World) : Prop where
  box : EB W g x.s x.at_ va (.map (some mb)) vb x.cmd x.here x.strip (.slice none 0 0)
  row : W.ownsRow w0.heap.size 3 1 vb x.blanks.length (ivs x.blanks)
  m : SM W mb x.ends
  below : Below w0.heap.size w0 W
  hg : w0.heap.size ≤ g
  hm : w0.heap.size ≤ mb
  gm : mb ≠ g
  at_ : x.at_ ≤ x.s.length
  keys : (x.ends.map Prod.fst).Nodup
  eb : ∀ e ∈ x.ends, -B ≤ e.2 ∧ e.2 ≤ B
  bb : ∀ y ∈ x.blanks, -B ≤ y ∧ y ≤ B
  nb : x.blanks.length ≤ N
section
variable {w0 : World} {g mb : Nat} {va vb : Value} {B : Int} {N : Nat} {x : AX.X} {W : World}
theorem XI.mb_vb (h : XI w0 g mb va B N vb x W) : vb.ownBlock ≠ some mb := fun e => by
  obtain ⟨cs, fz, hk⟩ := Lib.ownsRow_kind h.row mb e
  have hm := h.m
  unfold SM at hm
  rw [hk] at hm
  simp at hm
theorem XI.reach (h : XI w0 g mb va B N vb x W) (hN : N ≤ 100000) (pos : Nat) :
    Calls Tryz.prog 33 #[.pointer (some ⟨g, 0, none⟩), .int .i64 pos] W fun e W' => e = .returned (.tuple #[]) ∧ ∃ vb', XI w0 g mb va B N vb' (AX.reach x pos) W' ∧ FR w0.heap.size g mb vb W W' ∧ vb'.ownBlock = vb.ownBlock := by
  refine (reach_any x.blanks pos w0.heap.size g x.s x.at_ va (.map (some mb)) vb (.slice none 0 0) x.cmd x.here x.strip W h.row h.box h.hg (Nat.le_trans h.nb hN)).mono ?_
  rintro e W' ⟨vb', rfl, h1, h2, h3, h4, h5, h6⟩
  refine ⟨rfl, vb', ⟨h3, h1, h.m.kept (h5 mb h.m.lt h.gm h.mb_vb), h.below.trans h6, h.hg, h.hm, h.gm, h.at_, h.keys, h.eb, fun y hy => h.bb y (List.mem_filter.1 hy).1, Nat.le_trans (List.length_filter_le _ _) h.nb⟩, ⟨h4, fun q q1 q2 _ q4 => h5 q q1 q2 q4, h6⟩, h2⟩
theorem XI.later (h : XI w0 g mb va B N vb x W) {W' : World} (hb : Below W.heap.size W W') : XI w0 g mb va B N vb x W' :=
  ⟨h.box.new hb, own_same h.row (fun q hq => hb.block q (h.row.lt q hq).2), sm_new h.m hb, h.below.trans (hb.mono h.below.size), h.hg, h.hm, h.gm, h.at_, h.keys, h.eb, h.bb, h.nb⟩
theorem XI.value (h : XI w0 g mb va B N vb x W) {l : List AL.Al} (hA : AS w0 va l) (hl : l.length ≤ 1000000) (t : LX.Tok) :
    Calls Tryz.prog 34 #[.pointer (some ⟨g, 0, none⟩), .agg #[.int .i64 t.kind, .int .i64 t.pos, .int .i64 t.stop, .string ⟨t.text.toArray⟩]] W fun e W' => e = .returned (.tuple #[.string ⟨((AX.value l x.ends x.cmd t.kind t.pos t.text).getD []).toArray⟩, .bool (AX.value l x.ends x.cmd t.kind t.pos t.text).isSome]) ∧ Below W.heap.size W W' :=
  value_any l x.ends t.kind t.pos t.stop t.text g mb x.s x.at_ va vb (.slice none 0 0) x.cmd x.here x.strip W h.box (hA.go h.below) h.m hl
theorem XI.pass (h : XI w0 g mb va B N vb x W) (t : LX.Tok) {y : AX.X} (hy : AX.pass x t.kind t.stop t.text = some y) (hst : t.stop ≤ x.s.length) :
    Calls Tryz.prog 36 #[.pointer (some ⟨g, 0, none⟩), .agg #[.int .i64 t.kind, .int .i64 t.pos, .int .i64 t.stop, .string ⟨t.text.toArray⟩]] W fun e W' => e = .returned (.tuple #[]) ∧ XI w0 g mb va B N vb y W' := by
  have hbox := h.box
  have hh : x.here = false := by
    unfold AX.pass at hy
    cases hx : x.here
    · rfl
    · rw [hx, if_pos rfl] at hy; cases hy
  have fin : ∀ (W' : World) (z : AX.X), z.ends = x.ends → z.blanks = x.blanks → z.s = x.s → z.at_ = t.stop → EB W' g z.s z.at_ va (.map (some mb)) vb z.cmd z.here z.strip (.slice none 0 0) → OneBox g W W' → XI w0 g mb va B N vb z W' := fun W' z z1 z2 z3 z4 hb ho =>
    ⟨hb, by rw [z2]; exact own_same h.row (fun q hq => ho.2.1 q (h.row.lt q hq).2 (fun e => by
        obtain ⟨cs, fz, hk⟩ := Lib.ownsRow_kind h.row q hq
        rw [e, h.box] at hk
        simp at hk)), by rw [z1]; exact h.m.kept (ho.2.1 mb h.m.lt h.gm), h.below.trans (ho.2.2.mono h.hg), h.hg, h.hm, h.gm, by rw [z3, z4]; exact hst, by rw [z1]; exact h.keys, by rw [z1]; exact h.eb, by rw [z2]; exact h.bb, by rw [z2]; exact h.nb⟩
  unfold AX.pass at hy
  rw [hh] at hy hbox
  rw [if_neg (by simp)] at hy
  by_cases h3 : t.kind = 3
  · rw [if_pos h3] at hy
    injection hy with hy
    have := pass_line t.pos t.stop t.text g x.s x.at_ va (.map (some mb)) vb x.cmd x.strip W hbox
    rw [h3]
    refine this.mono ?_
    rintro e W' ⟨rfl, h5, h6⟩
    rw [← hy]
    exact ⟨rfl, fin W' _ rfl rfl rfl rfl h5 h6⟩
  rw [if_neg h3] at hy
  by_cases h2 : t.kind = 2
  · rw [if_pos h2] at hy
    injection hy with hy
    have := pass_op t.pos t.stop t.text g x.s x.at_ va (.map (some mb)) vb (.slice none 0 0) x.cmd x.strip W hbox
    rw [h2]
    refine this.mono ?_
    rintro e W' ⟨rfl, h5, h6⟩
    rw [← hy]
    exact ⟨rfl, fin W' _ rfl rfl rfl rfl h5 h6⟩
  · rw [if_neg h2] at hy
    injection hy with hy
    refine (pass_word t.kind t.pos t.stop t.text g x.s x.at_ va (.map (some mb)) vb (.slice none 0 0) x.cmd x.strip W hbox h2 h3).mono ?_
    rintro e W' ⟨rfl, h5, h6⟩
    rw [← hy]
    exact ⟨rfl, fin W' _ rfl rfl rfl rfl h5 h6⟩
end
end W
end Go.Proofs.YtelhobphphkidaaGreatDoor
