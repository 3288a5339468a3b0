/- Chapter 9: a token begins before it ends. -/
import Derived.Test.YtelhobphphkidaaGreatDoorP07c
namespace Go.Proofs.YtelhobphphkidaaGreatDoor
open K
namespace LX
theorem next_span {s : Str} {a : Nat} {t : Tok} (ha : a ≤ s.length) (h : next s a = (t, 0)) (h5 : t.kind ≠ 5) : t.pos ≤ t.stop ∧ t.stop ≤ s.length := by
  have hf := next_far ha h
  refine ⟨?_, hf.resolve_left h5 |>.2⟩
  unfold next at h
  split at h
  · simp at h
  unfold nextAt at h
  split at h
  · injection h with h _
    rw [← h] at h5
    simp at h5
  split at h
  · injection h with h _
    rw [← h]
    simp [tok]
  split at h
  · injection h with h _
    rw [← h]
    simp [tok]
  unfold nextW at h
  split at h
  · rename_i hw
    injection h with h _
    rw [← h]
    exact (word_good _ s _ (skipTo_le ha)).2.1 hw
  · rename_i hw
    injection h with _ h
    exact absurd h hw
end LX
end Go.Proofs.YtelhobphphkidaaGreatDoor
