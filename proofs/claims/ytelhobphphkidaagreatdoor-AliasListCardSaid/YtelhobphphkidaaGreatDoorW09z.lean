/- Chapter 9: replace in terms of AX.X. -/
import Derived.Test.YtelhobphphkidaaGreatDoorW09y
namespace Go.Proofs.YtelhobphphkidaaGreatDoor
open Go.RowKit K
namespace W
theorem XI.replace {w0 : World} {g mb : Nat} {va vb : Value} {B : Int} {N : Nat} {x : AX.X} {W : World} (h : XI w0 g mb va B N vb x W) (t : LX.Tok) (v : List UInt8) (h1 : t.pos ≤ t.stop) (h2 : t.stop ≤ x.s.length) (h3 : x.s.length ≤ 16384) (h4 : v.length ≤ 10000) (hB : 30000 ≤ B) (hB2 : B ≤ 1000000000000) (hN : N ≤ 100000) :
    Calls Tryz.prog 35 #[.pointer (some ⟨g, 0, none⟩), .agg #[.int .i64 t.kind, .int .i64 t.pos, .int .i64 t.stop, .string ⟨t.text.toArray⟩], .string ⟨v.toArray⟩] W fun e W' => e = .returned (.tuple #[]) ∧ ∃ vb', XI w0 g mb va (B + 30000) (N + 1) vb' (AX.replace x t.pos t.stop t.text v) W' := by
  refine (replace_any x.ends x.blanks w0.heap.size t.kind t.pos t.stop t.text v g mb x.s x.at_ va (.slice none 0 0) vb x.cmd x.here x.strip W h.box h.m h.row h.hg h.gm h.hm (Nat.le_trans h.nb hN) (fun y hy => by have := h.bb y hy; omega) (fun e he => by have := h.eb e he; omega) h.keys h1 h2 (by omega) (by omega)).mono ?_
  rintro e W' ⟨vb', rfl, q1, q2, q3, q4⟩
  refine ⟨rfl, vb', ?_⟩
  rw [AX.replace_eq]
  refine ⟨q1, q3, q2, h.below.trans q4.below, h.hg, h.hm, h.gm, ?_, ?_, fun e he => ?_, fun y hy => ?_, ?_⟩
  · dsimp only
    simp only [List.length_append, cut_length]
    omega
  · refine sput_keys _ _ _ ?_
    rw [List.map_map]
    exact h.keys
  · rcases sput_mem _ _ _ e he with rfl | he
    · dsimp only; omega
    · obtain ⟨e0, he0, rfl⟩ := List.mem_map.1 he
      have := h.eb e0 he0
      dsimp only
      split <;> omega
  · dsimp only at hy
    rcases List.mem_append.1 hy with hy | hy
    · obtain ⟨y0, hy0, rfl⟩ := List.mem_map.1 hy
      have := h.bb y0 hy0
      omega
    · split at hy
      · rw [List.mem_singleton] at hy; omega
      · simp at hy
  · have := h.nb
    dsimp only
    rw [List.length_append, List.length_map]
    split <;> simp <;> omega
end W
end Go.Proofs.YtelhobphphkidaaGreatDoor
