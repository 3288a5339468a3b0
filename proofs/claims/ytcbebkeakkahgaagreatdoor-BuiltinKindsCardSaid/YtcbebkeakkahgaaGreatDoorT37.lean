/- A region in two stages: a condition on the world is held until all operations of the first stage have come up. -/
import Derived.Test.YtcbebkeakkahgaaGreatDoorE00
import Derived.Deep.RegionHeldLaw
namespace Go.Proofs.YtcbebkeakkahgaaGreatDoor
open Go.RowKit K
namespace T
section
variable {P : Program} {ops : Array Oper} {Q : Exit → Act → World → Prop} {md : Region.Mode} {S : World → Prop} {A : List Nat}
/-- All operations of the first stage have come up. -/
def allIn (A : List Nat) (l : Array Bool) : Bool := A.all fun i => l.getD i true
/-- Whatever order is picked; S holds behind every operation of the first stage. -/
def wpAnyT (P : Program) (md : Region.Mode) (ops : Array Oper) (Q : Exit → Act → World → Prop) (S : World → Prop) (A : List Nat) : Nat → Array Bool → Act → World → Prop
  | 0, listed, a, w => Region.ready md ops listed = [] ∧ Q .normal a w
  | fuel + 1, listed, a, w =>
    if allIn A listed = true then wpAny P md ops Q (fuel + 1) listed a w
    else (Region.ready md ops listed = [] → Q .normal a w) ∧
      ∀ i ∈ Region.ready md ops listed, wpOp P ops Q i (fun a' w' => S w' ∧ wpAnyT P md ops Q S A fuel (listed.setIfInBounds i true) a' w') a w
theorem wpAny_of_T : ∀ (fuel : Nat) (listed : Array Bool) (a : Act) (w : World), wpAnyT P md ops Q S A fuel listed a w → wpAny P md ops Q fuel listed a w
  | 0, _, _, _, h => h
  | fuel + 1, listed, a, w, h => by
    unfold wpAnyT at h
    split at h
    · exact h
    · exact ⟨h.1, fun i hi => wpOp_mono (fun a' w' h' => wpAny_of_T fuel _ a' w' h'.2) (h.2 i hi)⟩
theorem wpAnyT_last {fuel : Nat} {listed : Array Bool} {a : Act} {w : World} (hc : allIn A listed = true) (h : wpAny P md ops Q (fuel + 1) listed a w) : wpAnyT P md ops Q S A (fuel + 1) listed a w := by
  unfold wpAnyT
  rw [if_pos hc]
  exact h
theorem wpAnyT_all {rs : List Nat} {fuel : Nat} {listed : Array Bool} {a : Act} {w : World} (hc : allIn A listed = false) (hr : Region.ready md ops listed = rs) (hne : rs ≠ [])
    (h : ∀ i ∈ rs, wpOp P ops Q i (fun a' w' => S w' ∧ wpAnyT P md ops Q S A fuel (listed.setIfInBounds i true) a' w') a w) : wpAnyT P md ops Q S A (fuel + 1) listed a w := by
  unfold wpAnyT
  rw [hc, if_neg (by simp)]
  exact ⟨fun h0 => absurd (hr ▸ h0) hne, hr ▸ h⟩
theorem wpAnyT_first {i : Nat} {oi : Oper} {v : Value} (hi : ops[i]? = some oi) (hsel : ∀ (j : Nat) (o : Oper) cs b, ops[j]? = some o → o.op ≠ .select cs b)
    (hA : i ∈ A) (hE : ∀ j oj, ops[j]? = some oj → j ∉ A → ∃ e ∈ oj.after, Region.binds md e = true ∧ e.on = i)
    (hQ : ∀ c a w, Q (.panic c) (a.put oi.dst v) w → Q (.panic c) a w) :
    ∀ (fuel : Nat) (listed : Array Bool) (a : Act) (w : World),
      (∀ j oj, ops[j]? = some oj → j ≠ i → listed.getD j true = false → (∀ e ∈ oj.after, Region.binds md e = true → e.on ≠ i) → oi.apart ops oj = true) →
      i ∈ Region.ready md ops listed → YieldsIf P ops S oi v a → S w →
      wpAnyT P md ops Q S A fuel (listed.setIfInBounds i true) (a.put oi.dst v) w → wpAnyT P md ops Q S A (fuel + 1) listed a w := by
  intro fuel
  induction fuel with
  | zero =>
    intro listed a w _ hr hy hS H
    have hun := (mem_ready.1 hr).1
    have hc : allIn A listed = false := by
      by_cases hc : allIn A listed = true
      · have := List.all_eq_true.1 hc i hA
        rw [hun] at this
        cases this
      · simpa using hc
    unfold wpAnyT
    rw [hc, if_neg (by simp)]
    refine ⟨fun h => (by rw [h] at hr; cases hr), fun j hj => ?_⟩
    by_cases hji : j = i
    · subst hji; exact hy.wpOp hi hS ⟨hS, H⟩
    · have := ready_mono hj hji
      rw [H.1] at this
      cases this
  | succ fuel ih =>
    intro listed a w hfree hr hy hS H
    have hun := (mem_ready.1 hr).1
    have hc : allIn A listed = false := by
      by_cases hc : allIn A listed = true
      · have := List.all_eq_true.1 hc i hA
        rw [hun] at this
        cases this
      · simpa using hc
    unfold wpAnyT
    rw [hc, if_neg (by simp)]
    refine ⟨fun h => (by rw [h] at hr; cases hr), fun j hj => ?_⟩
    by_cases hji : j = i
    · subst hji; exact hy.wpOp hi hS ⟨hS, H⟩
    obtain ⟨hjun, oj, hoj, hall⟩ := mem_ready.1 hj
    have hnot : ∀ e ∈ oj.after, Region.binds md e = true → e.on ≠ i := fun e he hb heq => by
      have h1 := hall e he hb
      rw [heq] at h1
      rcases Nat.lt_or_ge i listed.size with h' | h'
      · simp [h'] at hun h1; rw [hun] at h1; cases h1
      · simp [Array.getElem?_eq_none h'] at h1
    have hjA : j ∈ A := by
      by_cases hjA : j ∈ A
      · exact hjA
      · obtain ⟨e, he, hb, hon⟩ := hE j oj hoj hjA
        exact absurd hon (hnot e he hb)
    have hc2 : allIn A (listed.setIfInBounds i true) = false := by
      by_cases hc : allIn A (listed.setIfInBounds i true) = true
      · have := List.all_eq_true.1 hc j hjA
        rw [getD_set_ne true (Ne.symm hji), hjun] at this
        cases this
      · simpa using hc
    unfold wpAnyT at H
    rw [hc2, if_neg (by simp)] at H
    have h1 := H.2 j (ready_mono hj hji)
    have h2 := wpOp_putIf hoj (hfree j oj hoj hji hjun hnot) (fun cs b => hsel i oi cs b hi) (fun cs b => hsel j oj cs b hoj) hQ hy h1
    have hfree' : ∀ k ok, ops[k]? = some ok → k ≠ i → (listed.setIfInBounds j true).getD k true = false →
        (∀ e ∈ ok.after, Region.binds md e = true → e.on ≠ i) → oi.apart ops ok = true := fun k ok hk hki hun hno => by
      refine hfree k ok hk hki ?_ hno
      by_cases hjk : j = k
      · subst hjk; exact hjun
      · rw [getD_set_ne true hjk] at hun; exact hun
    refine wpOp_mono (fun a' w' h3 => ⟨h3.2.1, ih (listed.setIfInBounds j true) a' w' hfree' (ready_mono hr (Ne.symm hji)) h3.1 h3.2.1 ?_⟩) h2
    rw [Array.setIfInBounds_comm _ _ hji]
    exact h3.2.2
/-- Every operation of the second stage waits for this one. -/
def waits (md : Region.Mode) (ops : Array Oper) (A : List Nat) (i : Nat) : Bool :=
  A.contains i && (List.range ops.size).all fun j => A.contains j || ((ops[j]?).map fun o => o.after.any fun e => Region.binds md e && e.on == i).getD false
theorem waits_spec {i : Nat} (h : waits md ops A i = true) : i ∈ A ∧ ∀ j oj, ops[j]? = some oj → j ∉ A → ∃ e ∈ oj.after, Region.binds md e = true ∧ e.on = i := by
  simp only [waits, Bool.and_eq_true, List.contains_iff_mem, List.all_eq_true, List.mem_range] at h
  refine ⟨h.1, fun j oj hj hjA => ?_⟩
  have h1 := h.2 j (Array.getElem?_eq_some_iff.1 hj).1
  simp only [hj, Bool.or_eq_true, List.contains_iff_mem, hjA, false_or, Option.map_some, Option.getD_some] at h1
  obtain ⟨e, he, hb⟩ := Array.any_eq_true'.1 h1
  simp only [Bool.and_eq_true, beq_iff_eq] at hb
  exact ⟨e, he, hb.1, hb.2⟩
theorem wpAnyT_take {i : Nat} {oi : Oper} {v : Value} {fuel : Nat} {listed : Array Bool} {a : Act} {w : World} (d : Tmp) (hi : ops[i]? = some oi) (hd : oi.dst = some d)
    (hs : Region.noSelect ops = true) (hA : waits md ops A i = true) (hf : Region.free md ops listed i = true) (hr : (Region.ready md ops listed).contains i = true)
    (hQ : ∀ c a w, Q (.panic c) (a.put oi.dst v) w → Q (.panic c) a w) (hy : YieldsIf P ops S oi v a) (hS : S w)
    (h : wpAnyT P md ops Q S A fuel (listed.setIfInBounds i true) (a.put (some d) v) w) : wpAnyT P md ops Q S A (fuel + 1) listed a w := by
  rw [← hd] at h
  exact wpAnyT_first hi (Region.noSelect_spec hs) (waits_spec hA).1 (waits_spec hA).2 hQ fuel listed a w (Region.free_spec hi hf) (by simpa using hr) hy hS h
theorem wp_region_T {id n : Nat} {a : Act} {w : World} (hm : P.follows .mixedOrders = true) (hn : ops.size = n)
    (h : wpAnyT P .any ops Q S A n (Array.replicate n false) a w.drew) : (Code.region id ops true).wp P Q a w := by
  subst hn
  exact wp_region_any hm (wpAny_of_T _ _ _ _ h)
/-- One operation alone may come up. -/
theorem wpAnyT_one {i : Nat} {o : Oper} {fuel : Nat} {listed : Array Bool} {a : Act} {w : World} (hc : allIn A listed = false) (hr : Region.ready md ops listed = [i]) (ho : ops[i]? = some o)
    (h : ∀ K' : Act → World → Prop, Shut (∀ a w, S w → wpAnyT P md ops Q S A fuel (listed.setIfInBounds i true) a w → K' a w) → if Region.wanted o (yielded ops a.tmps) = true then Oper.wp P o a w K' Q else K' (a.put o.dst undef) w) : wpAnyT P md ops Q S A (fuel + 1) listed a w :=
  wpAnyT_all hc hr (by simp) fun j hj => by
    obtain rfl := List.mem_singleton.1 hj
    exact wpOp_step ho fun K' hK => h K' fun a w hS hW => hK a w ⟨hS, hW⟩
theorem wpAny_one {i : Nat} {o : Oper} {fuel : Nat} {listed : Array Bool} {a : Act} {w : World} (hr : Region.ready md ops listed = [i]) (ho : ops[i]? = some o)
    (h : ∀ K' : Act → World → Prop, Shut (∀ a w, wpAny P md ops Q fuel (listed.setIfInBounds i true) a w → K' a w) → if Region.wanted o (yielded ops a.tmps) = true then Oper.wp P o a w K' Q else K' (a.put o.dst undef) w) : wpAny P md ops Q (fuel + 1) listed a w :=
  wpAny_all hr (by simp) fun j hj => by
    obtain rfl := List.mem_singleton.1 hj
    exact wpOp_step ho fun K' hK => h K' fun a w hW => hK a w hW
end
end T
end Go.Proofs.YtcbebkeakkahgaaGreatDoor
