/- Chapter 9: the examiner as a whole; its steps in terms of AX.X. -/
import Derived.Test.YtelhobphphkidaaGreatDoorP09y
import Derived.Test.YtelhobphphkidaaGreatDoorW09tl
namespace Go.Proofs.YtelhobphphkidaaGreatDoor
open Go.RowKit K
namespace W
/-- The examiner x in memory; w0: Expand's first world. -/
structure XI (w0 : World) (g mb : Nat) (va : Value) (B : Int) (N : Nat) (vb : Value) (x : AX.X) (W : World) : Prop where
  box : EB W g x.s x.at_ va (.map (some mb)) vb x.cmd x.here x.strip (.slice none 0 0)
  row : W.ownsRow w0.heap.size 3 1 vb x.blanks.length (ivs x.blanks)
  m : SM W mb x.ends
  below : Below w0.heap.size w0 W
  hg : w0.heap.size ≤ g
  hm : w0.heap.size ≤ mb
  gm : mb ≠ g
  at_ : x.at_ ≤ x.s.length
  keys : (x.ends.map Prod.fst).Nodup
  eb : ∀ e ∈ x.ends, -B ≤ e.2 ∧ e.2 ≤ B
  bb : ∀ y ∈ x.blanks, -B ≤ y ∧ y ≤ B
  nb : x.blanks.length ≤ N
section
variable {w0 : World} {g mb : Nat} {va vb : Value} {B : Int} {N : Nat} {x : AX.X} {W : World}
theorem XI.mb_vb (h : XI w0 g mb va B N vb x W) : vb.ownBlock ≠ some mb := fun e => by
  obtain ⟨cs, fz, hk⟩ := Lib.ownsRow_kind h.row mb e
  have hm := h.m
  unfold SM at hm
  rw [hk] at hm
  simp at hm
theorem XI.reach (h : XI w0 g mb va B N vb x W) (hN : N ≤ 100000) (pos : Nat) :
    Calls Tryz.prog 33 #[.pointer (some ⟨g, 0, none⟩), .int .i64 pos] W fun e W' => e = .returned (.tuple #[]) ∧ ∃ vb', XI w0 g mb va B N vb' (AX.reach x pos) W' ∧ FR w0.heap.size g mb vb W W' ∧ vb'.ownBlock = vb.ownBlock := by
  refine (reach_any x.blanks pos w0.heap.size g x.s x.at_ va (.map (some mb)) vb (.slice none 0 0) x.cmd x.here x.strip W h.row h.box h.hg (Nat.le_trans h.nb hN)).mono ?_
  rintro e W' ⟨vb', rfl, h1, h2, h3, h4, h5, h6⟩
  refine ⟨rfl, vb', ⟨h3, h1, h.m.kept (h5 mb h.m.lt h.gm h.mb_vb), h.below.trans h6, h.hg, h.hm, h.gm, h.at_, h.keys, h.eb, fun y hy => h.bb y (List.mem_filter.1 hy).1, Nat.le_trans (List.length_filter_le _ _) h.nb⟩, ⟨h4, fun q q1 q2 _ q4 => h5 q q1 q2 q4, h6⟩, h2⟩
theorem XI.later (h : XI w0 g mb va B N vb x W) {W' : World} (hb : Below W.heap.size W W') : XI w0 g mb va B N vb x W' :=
  ⟨h.box.new hb, own_same h.row (fun q hq => hb.block q (h.row.lt q hq).2), sm_new h.m hb, h.below.trans (hb.mono h.below.size), h.hg, h.hm, h.gm, h.at_, h.keys, h.eb, h.bb, h.nb⟩
theorem XI.value (h : XI w0 g mb va B N vb x W) {l : List AL.Al} (hA : AS w0 va l) (hl : l.length ≤ 1000000) (t : LX.Tok) :
    Calls Tryz.prog 34 #[.pointer (some ⟨g, 0, none⟩), .agg #[.int .i64 t.kind, .int .i64 t.pos, .int .i64 t.stop, .string ⟨t.text.toArray⟩]] W fun e W' => e = .returned (.tuple #[.string ⟨((AX.value l x.ends x.cmd t.kind t.pos t.text).getD []).toArray⟩, .bool (AX.value l x.ends x.cmd t.kind t.pos t.text).isSome]) ∧ Below W.heap.size W W' :=
  value_any l x.ends t.kind t.pos t.stop t.text g mb x.s x.at_ va vb (.slice none 0 0) x.cmd x.here x.strip W h.box (hA.go h.below) h.m hl
theorem XI.pass (h : XI w0 g mb va B N vb x W) (t : LX.Tok) {y : AX.X} (hy : AX.pass x t.kind t.stop t.text = some y) (hst : t.stop ≤ x.s.length) :
    Calls Tryz.prog 36 #[.pointer (some ⟨g, 0, none⟩), .agg #[.int .i64 t.kind, .int .i64 t.pos, .int .i64 t.stop, .string ⟨t.text.toArray⟩]] W fun e W' => e = .returned (.tuple #[]) ∧ XI w0 g mb va B N vb y W' := by
  have hbox := h.box
  have hh : x.here = false := by
    unfold AX.pass at hy
    cases hx : x.here
    · rfl
    · rw [hx, if_pos rfl] at hy; cases hy
  have fin : ∀ (W' : World) (z : AX.X), z.ends = x.ends → z.blanks = x.blanks → z.s = x.s → z.at_ = t.stop → EB W' g z.s z.at_ va (.map (some mb)) vb z.cmd z.here z.strip (.slice none 0 0) → OneBox g W W' → XI w0 g mb va B N vb z W' := fun W' z z1 z2 z3 z4 hb ho =>
    ⟨hb, by rw [z2]; exact own_same h.row (fun q hq => ho.2.1 q (h.row.lt q hq).2 (fun e => by
        obtain ⟨cs, fz, hk⟩ := Lib.ownsRow_kind h.row q hq
        rw [e, h.box] at hk
        simp at hk)), by rw [z1]; exact h.m.kept (ho.2.1 mb h.m.lt h.gm), h.below.trans (ho.2.2.mono h.hg), h.hg, h.hm, h.gm, by rw [z3, z4]; exact hst, by rw [z1]; exact h.keys, by rw [z1]; exact h.eb, by rw [z2]; exact h.bb, by rw [z2]; exact h.nb⟩
  unfold AX.pass at hy
  rw [hh] at hy hbox
  rw [if_neg (by simp)] at hy
  by_cases h3 : t.kind = 3
  · rw [if_pos h3] at hy
    injection hy with hy
    have := pass_line t.pos t.stop t.text g x.s x.at_ va (.map (some mb)) vb x.cmd x.strip W hbox
    rw [h3]
    refine this.mono ?_
    rintro e W' ⟨rfl, h5, h6⟩
    rw [← hy]
    exact ⟨rfl, fin W' _ rfl rfl rfl rfl h5 h6⟩
  rw [if_neg h3] at hy
  by_cases h2 : t.kind = 2
  · rw [if_pos h2] at hy
    injection hy with hy
    have := pass_op t.pos t.stop t.text g x.s x.at_ va (.map (some mb)) vb (.slice none 0 0) x.cmd x.strip W hbox
    rw [h2]
    refine this.mono ?_
    rintro e W' ⟨rfl, h5, h6⟩
    rw [← hy]
    exact ⟨rfl, fin W' _ rfl rfl rfl rfl h5 h6⟩
  · rw [if_neg h2] at hy
    injection hy with hy
    refine (pass_word t.kind t.pos t.stop t.text g x.s x.at_ va (.map (some mb)) vb (.slice none 0 0) x.cmd x.strip W hbox h2 h3).mono ?_
    rintro e W' ⟨rfl, h5, h6⟩
    rw [← hy]
    exact ⟨rfl, fin W' _ rfl rfl rfl rfl h5 h6⟩
end
end W
end Go.Proofs.YtelhobphphkidaaGreatDoor
