/- Chapter 29: plain facts about files: a valid path is clean, paths of a valid list are found. -/
import Derived.Test.YtmccfdmnidbalaaGreatDoorW29y
namespace Go.Proofs.YtmccfdmnidbalaaGreatDoor
open Go.RowKit K
namespace P
theorem evalP_un (F : Str → Option (Bool × Str)) (op x : Str) (h1 : op ≠ [33]) (h : isUn op = true) : evalP F [op, x] = (unV F op x, 0) := by
  show ends (twoP F op x) = _
  unfold twoP
  rw [if_neg h1, if_pos h]
  rfl
theorem cleanN_names : ∀ (l ns : List (List UInt8)), l.all nameB = true → cleanN ns l = some (ns ++ l)
  | [], ns, _ => by simp [cleanN]
  | s :: r, ns, h => by
    rw [List.all_cons, Bool.and_eq_true] at h
    have hs : stepN ns s = some (ns ++ [s]) := by
      have h1 := h.1
      unfold stepN
      rw [if_neg, if_neg, if_pos h1]
      · rintro rfl; revert h1; decide
      · rintro (rfl | rfl) <;> (revert h1; decide)
    rw [cleanN, hs]
    show cleanN (ns ++ [s]) r = _
    rw [cleanN_names r (ns ++ [s]) h.2]
    simp
theorem clean_path {p : List UInt8} (h : pathB p = true) : cleanO [47] p = some p := by
  by_cases h0 : p = [47]
  · subst h0; decide
  obtain ⟨h1, h2⟩ := path_names h h0
  have h3 : p.length ≤ 128 ∧ p.head? = some 47 := by
    unfold pathB at h
    have d0 : (p == [47]) = false := by simpa using h0
    rw [d0, Bool.false_or, Bool.and_eq_true, Bool.and_eq_true] at h
    exact ⟨of_decide_eq_true h.1.1, by simpa using h.1.2⟩
  match p, h3, h0, h1, h2 with
  | c :: r, h3, h0, h1, h2 =>
    have hc : c = 47 := by simpa using h3.2
    subst hc
    have hr : pathB [47] = true := by decide
    unfold cleanO
    rw [if_neg (by rw [hr]; simp), if_neg (by simp)]
    have hs : split47 (47 :: r) = [] :: split47 r := split47_at (a := []) (by decide)
    have hst : start [47] (47 :: r) = [] := by unfold start; rw [if_pos (.inl rfl)]
    rw [hs, hst]
    have hcl : cleanN [] ([] :: split47 r) = some (split47 r) := by
      rw [cleanN, show stepN [] [] = some [] from rfl]
      show cleanN [] (split47 r) = _
      rw [cleanN_names (split47 r) [] h1]; rfl
    rw [hcl]
    show (if 128 < (showN (split47 r)).length then none else some (showN (split47 r))) = _
    rw [show showN (split47 r) = 47 :: r from h2, if_neg (by omega)]
theorem bl_irr : ∀ a : List UInt8, Op.bytesLess a a = false
  | [] => rfl
  | c :: r => by
    rw [Op.bytesLess, bl_irr r]
    simp
theorem bl_trans : ∀ a b c : List UInt8, Op.bytesLess a b = true → Op.bytesLess b c = true → Op.bytesLess a c = true
  | [], [], _, h, _ => by simp [Op.bytesLess] at h
  | _ :: _, [], _, h, _ => by simp [Op.bytesLess] at h
  | _, _ :: _, [], _, h => by simp [Op.bytesLess] at h
  | [], _ :: _, _ :: _, _, _ => by simp [Op.bytesLess]
  | x :: a, y :: b, z :: c, h1, h2 => by
    simp only [Op.bytesLess, Bool.or_eq_true, Bool.and_eq_true, decide_eq_true_eq, beq_iff_eq] at h1 h2 ⊢
    rcases h1 with h1 | ⟨rfl, h1⟩
    · rcases h2 with h2 | ⟨rfl, h2⟩
      · left; rw [UInt8.lt_iff_toNat_lt] at *; omega
      · left; exact h1
    · rcases h2 with h2 | ⟨rfl, h2⟩
      · left; exact h2
      · right; exact ⟨rfl, bl_trans a b c h1 h2⟩
theorem bl_total : ∀ a b : List UInt8, Op.bytesLess a b = false → a ≠ b → Op.bytesLess b a = true
  | [], [], _, h => absurd rfl h
  | _ :: _, [], _, _ => by simp [Op.bytesLess]
  | [], _ :: _, h, _ => by simp [Op.bytesLess] at h
  | x :: a, y :: b, h, hn => by
    simp only [Op.bytesLess, Bool.or_eq_false_iff, decide_eq_false_iff_not, Bool.or_eq_true, Bool.and_eq_true, decide_eq_true_eq, beq_iff_eq] at h ⊢
    by_cases he : x = y
    · subst he
      right
      refine ⟨rfl, bl_total a b ?_ (fun e => hn (by rw [e]))⟩
      have := h.2
      simpa using this
    · left
      have h1 := h.1
      have h2 : x.toNat ≠ y.toNat := fun e => he (UInt8.toNat_inj.1 e)
      rw [UInt8.lt_iff_toNat_lt] at *
      omega
theorem VF.next {fs : List Fi} (h : VF fs) (k : Nat) (hk : k + 1 < fs.length) : Op.bytesLess (fs.getD k fz).1 (fs.getD (k + 1) fz).1 = true := by
  have := (h (k + 1) hk).2.2 (by omega)
  unfold le9 at this
  rw [Bool.or_eq_false_iff] at this
  rw [Nat.add_sub_cancel] at this
  exact bl_total _ _ this.1 (by simpa using this.2)
theorem VF.asc {fs : List Fi} (h : VF fs) (i : Nat) : ∀ d : Nat, i + d + 1 < fs.length → Op.bytesLess (fs.getD i fz).1 (fs.getD (i + d + 1) fz).1 = true
  | 0, hd => h.next i hd
  | d + 1, hd => bl_trans _ _ _ (h.asc i d (by omega)) (h.next (i + d + 1) (by omega))
theorem findF_at : ∀ (fs : List Fi) (k : Nat) (p : List UInt8), k < fs.length → (∀ i, i < k → (fs.getD i fz).1 ≠ p) → (fs.getD k fz).1 = p → findF fs p = some (fs.getD k fz)
  | [], k, p, hk, _, _ => absurd hk (by simp)
  | f :: r, 0, p, hk, hn, he => by
    have : f.1 = p := he
    rw [findF, if_pos this]; rfl
  | f :: r, k + 1, p, hk, hn, he => by
    have h0 : f.1 ≠ p := hn 0 (by omega)
    rw [findF, if_neg h0]
    exact findF_at r k p (by simpa using hk) (fun i hi => hn (i + 1) (by omega)) he
theorem VF.find {fs : List Fi} (h : VF fs) {k : Nat} (hk : k < fs.length) : lookF fs [47] (fs.getD k fz).1 = some ((fs.getD k fz).2.1, (fs.getD k fz).2.2) := by
  unfold lookF
  rw [clean_path (h k hk).1]
  show (findF fs (fs.getD k fz).1).map _ = _
  rw [findF_at fs k _ hk (fun i hi e => ?_) rfl]
  · rfl
  · obtain ⟨d, rfl⟩ : ∃ d, k = i + d + 1 := ⟨k - i - 1, by omega⟩
    have h1 := h.asc i d hk
    rw [e, bl_irr] at h1
    cases h1
/-- What the four tests of a path tell together. -/
theorem four (F : Str → Option (Bool × Str)) (x : Str) : ∃ b1 b2 b3 b4, evalP F [[45, 101], x] = (b1, 0) ∧ evalP F [[45, 102], x] = (b2, 0) ∧ evalP F [[45, 100], x] = (b3, 0) ∧ evalP F [[45, 115], x] = (b4, 0) ∧ ((b1 = false ∧ b2 = false ∧ b3 = false ∧ b4 = false) ∨ (b1 = true ∧ b2 = true ∧ b3 = false) ∨ (b1 = true ∧ b2 = false ∧ b3 = true ∧ b4 = false)) := by
  refine ⟨_, _, _, _, evalP_un F _ x (by decide) (by decide), evalP_un F _ x (by decide) (by decide), evalP_un F _ x (by decide) (by decide), evalP_un F _ x (by decide) (by decide), ?_⟩
  unfold unV
  cases F x with
  | none => exact .inl ⟨rfl, rfl, rfl, rfl⟩
  | some q =>
    obtain ⟨d, c⟩ := q
    cases d with
    | false => exact .inr (.inl ⟨rfl, rfl, rfl⟩)
    | true => exact .inr (.inr ⟨rfl, rfl, rfl, by simp⟩)
theorem VF.tests {fs : List Fi} (h : VF fs) {k : Nat} (hk : k < fs.length) : evalP (lookF fs [47]) [[45, 100], (fs.getD k fz).1] = ((fs.getD k fz).2.1, 0) ∧ evalP (lookF fs [47]) [[45, 115], (fs.getD k fz).1] = ((fs.getD k fz).2.2 != [], 0) := by
  have h1 := h.find hk
  have h2 := (h k hk).2.1
  rw [evalP_un _ _ _ (by decide) (by decide), evalP_un _ _ _ (by decide) (by decide)]
  unfold unV
  rw [h1]
  generalize (fs.getD k fz).2 = g at *
  obtain ⟨d, c⟩ := g
  refine ⟨rfl, ?_⟩
  show (c != [] && !d, (0 : Int)) = _
  cases d with
  | false => simp
  | true => have := h2 rfl; simp only at this; subst this; rfl
end P
end Go.Proofs.YtmccfdmnidbalaaGreatDoor
