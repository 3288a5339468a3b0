/- A range over a map from strings to ints whose rounds store at keys that are there: what the entries are midway. Nothing of the program is in it. -/
import Derived.Test.YtelhobphphkidaaGreatDoorM9
namespace Go.Proofs.YtelhobphphkidaaGreatDoor
open Go.RowKit Go.MapKept
namespace K
/-- The entries midway: those seen are turned by f. -/
def mixF (f : Int → Int) (seen : Array Nat) : Nat → List SE → List SE
  | _, [] => []
  | i, (k, v) :: r => (k, if seen.contains i then f v else v) :: mixF f seen (i + 1) r
theorem mixF_none (f : Int → Int) : ∀ (T : List SE) (i : Nat), mixF f #[] i T = T
  | [], _ => rfl
  | (k, v) :: r, i => by simp [mixF, mixF_none f r (i + 1)]
theorem mixF_length (f : Int → Int) (seen : Array Nat) : ∀ (T : List SE) (i : Nat), (mixF f seen i T).length = T.length
  | [], _ => rfl
  | (k, v) :: r, i => by simp [mixF, mixF_length f seen r (i + 1)]
theorem mixF_keys (f : Int → Int) (seen : Array Nat) : ∀ (T : List SE) (i : Nat), (mixF f seen i T).map Prod.fst = T.map Prod.fst
  | [], _ => rfl
  | (k, v) :: r, i => by simp [mixF, mixF_keys f seen r (i + 1)]
theorem mixF_push (f : Int → Int) (seen : Array Nat) (j : Nat) : ∀ (T : List SE) (i : Nat), (j < i ∨ i + T.length ≤ j) → mixF f (seen.push j) i T = mixF f seen i T
  | [], _, _ => rfl
  | (k, v) :: r, i, h => by
    simp only [List.length_cons] at h
    simp only [mixF]
    rw [mixF_push f seen j r (i + 1) (by omega)]
    have : ((seen.push j).contains i) = seen.contains i := by
      rw [Bool.eq_iff_iff]
      simp
      intro e
      omega
    rw [this]
theorem ments_mem : ∀ (T : List SE) (i : Nat) (e : MapEntry), e ∈ ments i T → ∃ j k v, T[j]? = some (k, v) ∧ e = { key := .string ⟨k.toArray⟩, val := .int .i64 v, born := i + j }
  | [], _, e, h => by simp [ments] at h
  | (k, v) :: r, i, e, h => by
    unfold ments at h
    rcases List.mem_cons.1 h with h | h
    · exact ⟨0, k, v, rfl, h⟩
    · obtain ⟨j, k', v', h1, h2⟩ := ments_mem r (i + 1) e h
      exact ⟨j + 1, k', v', h1, by rw [h2]; congr 1; omega⟩
theorem ments_born : ∀ (T : List SE) (i : Nat), (ments i T).map (·.born) = List.range' i T.length
  | [], _ => rfl
  | (k, v) :: r, i => by simp [ments, ments_born r (i + 1), List.range'_succ]
theorem ments_get : ∀ (T : List SE) (i j : Nat) (k : List UInt8) (v : Int), T[j]? = some (k, v) → { key := .string ⟨k.toArray⟩, val := .int .i64 v, born := i + j } ∈ ments i T
  | [], _, _, _, _, h => by simp at h
  | (a, u) :: r, i, 0, k, v, h => by simp at h; rw [h.1, h.2]; simp [ments]
  | (a, u) :: r, i, j + 1, k, v, h => by
    have := ments_get r (i + 1) j k v (by simpa using h)
    unfold ments
    rw [show i + (j + 1) = i + 1 + j by omega]
    exact List.mem_cons_of_mem _ this
theorem mixF_get (f : Int → Int) (seen : Array Nat) : ∀ (T : List SE) (i j : Nat) (k : List UInt8) (v : Int), (mixF f seen i T)[j]? = some (k, v) → ∃ u, T[j]? = some (k, u) ∧ v = if seen.contains (i + j) then f u else u
  | [], _, _, _, _, h => by simp [mixF] at h
  | (a, u) :: r, i, 0, k, v, h => by simp [mixF] at h; exact ⟨u, by simp [h.1], by simp [h.2.symm]⟩
  | (a, u) :: r, i, j + 1, k, v, h => by
    obtain ⟨u', h1, h2⟩ := mixF_get f seen r (i + 1) j k v (by simpa [mixF] using h)
    exact ⟨u', by simpa using h1, by rw [h2, show i + 1 + j = i + (j + 1) by omega]⟩
/-- A round: the entry j is turned. -/
theorem mixF_put (f : Int → Int) (seen : Array Nat) : ∀ (T : List SE) (i j : Nat) (k : List UInt8) (v : Int), (T.map Prod.fst).Nodup → T[j]? = some (k, v) → sput (mixF f seen i T) k (f v) = mixF f (seen.push (i + j)) i T
  | [], _, _, _, _, _, h => by simp at h
  | (a, u) :: r, i, 0, k, v, hn, h => by
    simp at h
    obtain ⟨rfl, rfl⟩ := h
    simp only [mixF, sput, if_true]
    rw [mixF_push f seen (i + 0) r (i + 1) (by omega)]
    simp
  | (a, u) :: r, i, j + 1, k, v, hn, h => by
    simp only [List.map_cons, List.nodup_cons] at hn
    have hr : r[j]? = some (k, v) := by simpa using h
    have hne : ¬ a = k := by
      rintro rfl
      exact hn.1 (List.mem_map.2 ⟨(a, v), List.mem_of_getElem? hr, rfl⟩)
    simp only [mixF, sput, if_neg hne]
    rw [mixF_put f seen r (i + 1) j k v hn.2 hr, show i + 1 + j = i + (j + 1) by omega]
    have : ((seen.push (i + (j + 1))).contains i) = seen.contains i := by
      rw [Bool.eq_iff_iff]
      simp
    rw [this]
/-- A round that stores nothing. -/
theorem mixF_same (f : Int → Int) (seen : Array Nat) : ∀ (T : List SE) (i j : Nat) (k : List UInt8) (v : Int), T[j]? = some (k, v) → f v = v → mixF f (seen.push (i + j)) i T = mixF f seen i T
  | [], _, _, _, _, h, _ => by simp at h
  | (a, u) :: r, i, 0, k, v, h, hf => by
    simp at h
    obtain ⟨rfl, rfl⟩ := h
    simp only [mixF]
    rw [mixF_push f seen (i + 0) r (i + 1) (by omega)]
    simp [hf]
  | (a, u) :: r, i, j + 1, k, v, h, hf => by
    have hr : r[j]? = some (k, v) := by simpa using h
    simp only [mixF]
    rw [show i + (j + 1) = i + 1 + j by omega, mixF_same f seen r (i + 1) j k v hr hf]
    have : ((seen.push (i + 1 + j)).contains i) = seen.contains i := by
      rw [Bool.eq_iff_iff]
      simp
      intro e
      omega
    rw [this]
/-- At the end all are turned. -/
theorem mixF_all (f : Int → Int) (seen : Array Nat) : ∀ (T : List SE) (i : Nat), (∀ j, j < T.length → seen.contains (i + j) = true) → mixF f seen i T = T.map fun e => (e.1, f e.2)
  | [], _, _ => rfl
  | (k, v) :: r, i, h => by
    have h0 := h 0 (by simp)
    simp only [Nat.add_zero] at h0
    simp only [mixF, List.map_cons]
    rw [mixF_all f seen r (i + 1) (fun j hj => by have := h (j + 1) (by simp; omega); rwa [show i + (j + 1) = i + 1 + j by omega] at this), h0]
    rfl
theorem left_none {T : List SE} {seen : Array Nat} (h : (leftOf (ments 0 T).toArray seen).size = 0) : ∀ j, j < T.length → seen.contains (0 + j) = true := by
  intro j hj
  have h1 : leftOf (ments 0 T).toArray seen = #[] := Array.eq_empty_of_size_eq_zero h
  unfold leftOf at h1
  rw [Array.filter_eq_empty_iff] at h1
  obtain ⟨k, v, hx⟩ : ∃ k v, T[j]? = some (k, v) := ⟨_, _, List.getElem?_eq_getElem hj⟩
  have := h1 _ (by simpa using ments_get T 0 j k v hx)
  simpa using this
theorem left_mem {T : List SE} {seen : Array Nat} {e : MapEntry} (h : e ∈ (leftOf (ments 0 T).toArray seen).toList) : ∃ j k v, T[j]? = some (k, v) ∧ e = { key := .string ⟨k.toArray⟩, val := .int .i64 v, born := j } ∧ seen.contains j = false := by
  unfold leftOf at h
  simp at h
  obtain ⟨j, k, v, h1, h2⟩ := ments_mem T 0 e h.1
  rw [Nat.zero_add] at h2
  refine ⟨j, k, v, h1, h2, ?_⟩
  rw [h2] at h
  simpa using h.2
theorem sput_keys (k : List UInt8) (v : Int) : ∀ T, ((T.map Prod.fst).Nodup → ((sput T k v).map Prod.fst).Nodup)
  | [], _ => by simp [sput]
  | (a, u) :: r, h => by
    simp only [List.map_cons, List.nodup_cons] at h
    unfold sput
    split
    · rename_i e; subst e; simpa using h
    · rename_i hne
      simp only [List.map_cons, List.nodup_cons]
      refine ⟨fun hm => ?_, sput_keys k v r h.2⟩
      obtain ⟨x, hx, e⟩ := List.mem_map.1 hm
      rcases sput_mem k v r x hx with rfl | hx
      · exact hne e.symm
      · exact h.1 (List.mem_map.2 ⟨x, hx, e⟩)
end K
end Go.Proofs.YtelhobphphkidaaGreatDoor
