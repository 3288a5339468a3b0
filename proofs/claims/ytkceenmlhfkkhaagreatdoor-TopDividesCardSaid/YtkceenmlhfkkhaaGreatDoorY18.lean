/- Several texts in one: P18 P18b P20. -/
import Derived.Test.YtkceenmlhfkkhaaGreatDoorK
import Derived.Lib.IndexMore
import Derived.Lib.Join
namespace Go.Proofs.YtkceenmlhfkkhaaGreatDoor
open K
namespace SP
abbrev Str := List UInt8
abbrev El := Str × Int
abbrev Run := Str × Int
/-- The separators: blank, tab, newline, or none. -/
def ifs (b : Bool) : Str := if b = true then [32, 9, 10] else []
def elsOf (r : Run) : List El :=
  if r.2 = 3 then [([], 3)] else (if r.1 = [] ∧ r.2 = 1 then [([], 1)] else []) ++ r.1.map (fun b => ([b], r.2))
def els (l : List Run) : List El := l.flatMap elsOf
def sep (b : Bool) (x : El) : Bool := b && decide (x.2 = 2) && decide (x.1 = [32] ∨ x.1 = [9] ∨ x.1 = [10])
def fld (b : Bool) : List El → List El → List (List El)
  | [], now => if now = [] then [] else [now]
  | x :: l, now => if x.2 = 3 ∨ sep b x = true then (if now = [] then [] else [now]) ++ fld b l [] else fld b l (now ++ [x])
def skip (b : Bool) (l : List El) : List El := l.dropWhile (sep b)
def join (l : List El) : Str := l.flatMap Prod.fst
def grp : List El → List Run
  | [] => []
  | x :: l => match grp l with
    | [] => [(x.1, x.2)]
    | (t, c) :: rs => if c = x.2 then (x.1 ++ t, c) :: rs else (x.1, x.2) :: (t, c) :: rs
def text (l : List Run) : Str := l.flatMap Prod.fst
def fields (b : Bool) (l : List Run) : List (List Run) := (fld b (els l) []).map grp
/-- Elements as elements makes them. -/
def ok (x : El) : Prop := x.1.length ≤ 1 ∧ (x.2 = 2 → x.1.length = 1)
theorem els_ok {l : List Run} : ∀ x ∈ els l, ok x := by
  intro x hx
  unfold els at hx
  obtain ⟨r, _, hx⟩ := List.mem_flatMap.1 hx
  unfold elsOf at hx
  split at hx
  · rw [List.mem_singleton] at hx; subst hx; exact ⟨by simp, by intro h; simp at h⟩
  · rw [List.mem_append] at hx
    rcases hx with hx | hx
    · split at hx
      · rw [List.mem_singleton] at hx; subst hx; exact ⟨by simp, by intro h; simp at h⟩
      · cases hx
    · obtain ⟨b, _, rfl⟩ := List.mem_map.1 hx
      exact ⟨by simp, by simp⟩
theorem els_class {l : List Run} {c : Int → Prop} (h : ∀ r ∈ l, c r.2) : ∀ x ∈ els l, c x.2 := by
  intro x hx
  unfold els at hx
  obtain ⟨r, hr, hx⟩ := List.mem_flatMap.1 hx
  have h0 := h r hr
  unfold elsOf at hx
  split at hx
  · rename_i h3; rw [List.mem_singleton] at hx; subst hx; rw [h3] at h0; exact h0
  · rw [List.mem_append] at hx
    rcases hx with hx | hx
    · split at hx
      · rename_i h3; rw [List.mem_singleton] at hx; subst hx; rw [h3.2] at h0; exact h0
      · cases hx
    · obtain ⟨b, _, rfl⟩ := List.mem_map.1 hx
      exact h0
theorem skip_len (b : Bool) (l : List El) : (skip b l).length ≤ l.length := by
  unfold skip
  exact (List.dropWhile_sublist _).length_le
theorem fld_skip (b : Bool) : ∀ l : List El, fld b (skip b l) [] = fld b l []
  | [] => rfl
  | x :: l => by
    unfold skip
    rw [List.dropWhile_cons]
    split
    · rename_i h
      rw [fld, if_pos (.inr h), if_pos rfl, List.nil_append]
      exact fld_skip b l
    · rfl
theorem fld_end (b : Bool) (x : El) (l now : List El) (h : x.2 = 3) : fld b (x :: l) now = (if now = [] then [] else [now]) ++ fld b l [] := by rw [fld, if_pos (.inl h)]
theorem fld_white (b : Bool) (x : El) (l now : List El) (h : sep b x = true) : fld b (x :: l) now = (if now = [] then [] else [now]) ++ fld b (skip b (x :: l)) [] := by
  rw [fld, if_pos (.inr h), fld_skip, fld_skip' h]
where fld_skip' {b : Bool} {x : El} {l : List El} (h : sep b x = true) : fld b (x :: l) [] = fld b l [] := by rw [fld, if_pos (.inr h)]; rfl
theorem fld_more (b : Bool) (x : El) (l now : List El) (h : ¬ x.2 = 3) (h2 : sep b x = false) : fld b (x :: l) now = fld b l (now ++ [x]) := by rw [fld, if_neg (by simp [h, h2])]
theorem fld_nil (b : Bool) (now : List El) : fld b [] now = if now = [] then [] else [now] := by rw [fld]
theorem fld_plain (b : Bool) : ∀ (l now : List El), (∀ x ∈ l, ¬ x.2 = 3 ∧ sep b x = false) → fld b l now = if now ++ l = [] then [] else [now ++ l]
  | [], now, _ => by rw [fld_nil, List.append_nil]
  | x :: l, now, h => by
    obtain ⟨h1, h2⟩ := h x (.head _)
    rw [fld_more b x l now h1 h2, fld_plain b l _ (fun y hy => h y (.tail _ hy)), List.append_assoc]
    rfl
theorem sep_class {b : Bool} {x : El} (h : ¬ x.2 = 2) : sep b x = false := by unfold sep; rw [decide_eq_false h, Bool.and_false, Bool.false_and]
theorem sep_none {x : El} : sep false x = false := rfl
theorem fld_break (b : Bool) : ∀ (l now rest : List El) (x : El), (∀ x ∈ l, ¬ x.2 = 3 ∧ sep b x = false) → x.2 = 3 → fld b (l ++ x :: rest) now = (if now ++ l = [] then [] else [now ++ l]) ++ fld b rest []
  | [], now, rest, x, _, hx => by rw [List.nil_append, fld_end b x rest now hx, List.append_nil]
  | y :: l, now, rest, x, h, hx => by
    obtain ⟨h1, h2⟩ := h y (.head _)
    rw [List.cons_append, fld_more b y _ now h1 h2, fld_break b l _ rest x (fun z hz => h z (.tail _ hz)) hx, List.append_assoc]
    rfl
theorem fld_ne (b : Bool) : ∀ (l now : List El), ∀ f ∈ fld b l now, f ≠ []
  | [], now, f, hf => by
    rw [fld_nil] at hf
    split at hf
    · cases hf
    · rename_i h; rw [List.mem_singleton] at hf; rw [hf]; exact h
  | x :: l, now, f, hf => by
    rw [fld] at hf
    split at hf
    · rw [List.mem_append] at hf
      rcases hf with hf | hf
      · split at hf
        · cases hf
        · rename_i h; rw [List.mem_singleton] at hf; rw [hf]; exact h
      · exact fld_ne b l [] f hf
    · exact fld_ne b l _ f hf
theorem fld_len (b : Bool) : ∀ (l now : List El), ((fld b l now).map List.length).sum ≤ now.length + l.length
  | [], now => by rw [fld_nil]; split <;> simp
  | x :: l, now => by
    rw [fld]
    split
    · have := fld_len b l []
      rw [List.map_append, List.sum_append]
      split <;> simp at * <;> omega
    · have := fld_len b l (now ++ [x])
      simp at *; omega
theorem fld_mem (b : Bool) {C : El → Prop} : ∀ (l now : List El), (∀ x ∈ l, C x) → (∀ x ∈ now, C x) → ∀ f ∈ fld b l now, ∀ x ∈ f, C x
  | [], now, _, h2, f, hf, x, hx => by
    rw [fld_nil] at hf
    split at hf
    · cases hf
    · rw [List.mem_singleton] at hf; subst hf; exact h2 x hx
  | y :: l, now, h1, h2, f, hf, x, hx => by
    rw [fld] at hf
    split at hf
    · rw [List.mem_append] at hf
      rcases hf with hf | hf
      · split at hf
        · cases hf
        · rw [List.mem_singleton] at hf; subst hf; exact h2 x hx
      · exact fld_mem b l [] (fun z hz => h1 z (.tail _ hz)) (fun z hz => by cases hz) f hf x hx
    · refine fld_mem b l _ (fun z hz => h1 z (.tail _ hz)) (fun z hz => ?_) f hf x hx
      rw [List.mem_append, List.mem_singleton] at hz
      rcases hz with hz | rfl
      · exact h2 z hz
      · exact h1 z (.head _)
/-- The first elements of one class make the first run. -/
theorem grp_step : ∀ (n : Nat) (l : List El) (c : Int), 0 < n → n ≤ l.length → (∀ x ∈ l.take n, x.2 = c) → (∀ x, l[n]? = some x → x.2 ≠ c) → grp l = (join (l.take n), c) :: grp (l.drop n)
  | 0, _, _, h, _, _, _ => absurd h (by omega)
  | n + 1, [], _, _, h, _, _ => absurd h (by simp)
  | n + 1, x :: l, c, _, hl, hc, hn => by
    have hx : x.2 = c := hc x (by simp)
    by_cases h0 : n = 0
    · subst h0
      rw [grp]
      cases l with
      | nil => simp [grp, join, hx]
      | cons y l =>
        have hy : y.2 ≠ c := hn y (by simp)
        obtain ⟨t, rs, hg⟩ : ∃ t rs, grp (y :: l) = (t, y.2) :: rs := by
          rw [grp]
          split
          · exact ⟨_, _, rfl⟩
          · rename_i t c' rs _
            split
            · rename_i e; rw [e]; exact ⟨_, _, rfl⟩
            · exact ⟨_, _, rfl⟩
        rw [show (x :: y :: l).drop (0 + 1) = y :: l from rfl, hg]
        simp [join, hx, hy]
    · have ih := grp_step n l c (by omega) (by simp at hl; omega) (fun z hz => hc z (by rw [List.take_succ_cons]; exact .tail _ hz)) (fun z hz => hn z (by rw [List.getElem?_cons_succ]; exact hz))
      rw [grp, ih]
      show (if c = x.2 then _ else _) = _
      rw [if_pos hx.symm]
      simp [join]
theorem grp_text : ∀ l : List El, text (grp l) = join l
  | [] => rfl
  | x :: l => by
    have ih := grp_text l
    rw [grp]
    cases hg : grp l with
    | nil => rw [hg] at ih; simp [text, join] at *; exact ih
    | cons r rs =>
      obtain ⟨t, c⟩ := r
      rw [hg] at ih
      show text (if c = x.2 then _ else _) = _
      split <;> · simp [text, join] at *; rw [← ih]
theorem grp_class {C : Int → Prop} : ∀ (l : List El), (∀ x ∈ l, C x.2) → ∀ r ∈ grp l, C r.2
  | [], _, r, hr => by cases hr
  | x :: l, h, r, hr => by
    have ih := grp_class l (fun y hy => h y (.tail _ hy))
    have hx := h x (.head _)
    rw [grp] at hr
    cases hg : grp l with
    | nil => rw [hg] at hr; simp at hr; subst hr; exact hx
    | cons q rs =>
      obtain ⟨t, c⟩ := q
      rw [hg] at hr ih
      replace hr : r ∈ (if c = x.2 then (x.1 ++ t, c) :: rs else (x.1, x.2) :: (t, c) :: rs) := hr
      split at hr
      · rw [List.mem_cons] at hr
        rcases hr with rfl | hr
        · exact ih (t, c) (.head _)
        · exact ih r (.tail _ hr)
      · rw [List.mem_cons] at hr
        rcases hr with rfl | hr
        · exact hx
        · exact ih r hr
theorem els_app (a b : List Run) : els (a ++ b) = els a ++ els b := List.flatMap_append
theorem els_cons (r : Run) (l : List Run) : els (r :: l) = elsOf r ++ els l := rfl
theorem join_app (a b : List El) : join (a ++ b) = join a ++ join b := List.flatMap_append
theorem join_elsOf (r : Run) (h : ¬ r.2 = 3) : join (elsOf r) = r.1 := by
  unfold elsOf
  rw [if_neg h, join_app]
  have : join (if r.1 = [] ∧ r.2 = 1 then [([], 1)] else ([] : List El)) = [] := by split <;> rfl
  rw [this, List.nil_append]
  induction r.1 with
  | nil => rfl
  | cons b s ih => show b :: join (s.map _) = _; rw [ih]
end SP
end Go.Proofs.YtkceenmlhfkkhaaGreatDoor
namespace Go.Proofs.YtkceenmlhfkkhaaGreatDoor
open K
namespace SP
/-- A run without pattern characters. -/
def lit (r : Run) : Prop := r.2 = 1 ∨ ∀ b ∈ r.1, b ≠ 42 ∧ b ≠ 63 ∧ b ≠ 91
def litE (x : El) : Prop := x.2 = 1 ∨ ∀ b ∈ x.1, b ≠ 42 ∧ b ≠ 63 ∧ b ≠ 91
theorem els_lit {l : List Run} (h : ∀ r ∈ l, lit r) : ∀ x ∈ els l, litE x := by
  intro x hx
  unfold els at hx
  obtain ⟨r, hr, hx⟩ := List.mem_flatMap.1 hx
  have h0 := h r hr
  unfold elsOf at hx
  split at hx
  · rw [List.mem_singleton] at hx; subst hx; exact .inr (by simp)
  · rw [List.mem_append] at hx
    rcases hx with hx | hx
    · split at hx
      · rw [List.mem_singleton] at hx; subst hx; exact .inl rfl
      · cases hx
    · obtain ⟨b, hb, rfl⟩ := List.mem_map.1 hx
      rcases h0 with h0 | h0
      · exact .inl h0
      · exact .inr (fun c hc => by rw [List.mem_singleton] at hc; subst hc; exact h0 c hb)
theorem grp_lit : ∀ (l : List El), (∀ x ∈ l, litE x) → ∀ r ∈ grp l, lit r
  | [], _, r, hr => by cases hr
  | x :: l, h, r, hr => by
    have ih := grp_lit l (fun y hy => h y (.tail _ hy))
    have hx := h x (.head _)
    rw [grp] at hr
    cases hg : grp l with
    | nil => rw [hg] at hr; simp at hr; subst hr; exact hx
    | cons q rs =>
      obtain ⟨t, c⟩ := q
      rw [hg] at hr ih
      replace hr : r ∈ (if c = x.2 then (x.1 ++ t, c) :: rs else (x.1, x.2) :: (t, c) :: rs) := hr
      split at hr
      · rename_i hcx
        rw [List.mem_cons] at hr
        rcases hr with rfl | hr
        · have h2 := ih (t, c) (.head _)
          rcases h2 with h2 | h2
          · exact .inl h2
          · rcases hx with hx | hx
            · exact .inl (by show c = 1; rw [hcx]; exact hx)
            · refine .inr fun b hb => ?_
              replace hb : b ∈ x.1 ++ t := hb
              rw [List.mem_append] at hb
              rcases hb with hb | hb
              · exact hx b hb
              · exact h2 b hb
        · exact ih r (.tail _ hr)
      · rw [List.mem_cons] at hr
        rcases hr with rfl | hr
        · exact hx
        · exact ih r hr
theorem fields_lit (b : Bool) {l : List Run} (h : ∀ r ∈ l, lit r) : ∀ f ∈ fields b l, ∀ r ∈ f, lit r := by
  intro f hf r hr
  unfold fields at hf
  obtain ⟨g, hg, rfl⟩ := List.mem_map.1 hf
  exact grp_lit g (fun x hx => fld_mem b (C := litE) _ _ (els_lit h) (fun z hz => by cases hz) g hg x hx) r hr
/-- The classes of a field's runs: never a break. -/
theorem fld_class (b : Bool) : ∀ (l now : List El), (∀ x ∈ now, ¬ x.2 = 3) → ∀ f ∈ fld b l now, ∀ x ∈ f, ¬ x.2 = 3
  | [], now, h2, f, hf, x, hx => by
    rw [fld_nil] at hf
    split at hf
    · cases hf
    · rw [List.mem_singleton] at hf; subst hf; exact h2 x hx
  | y :: l, now, h2, f, hf, x, hx => by
    rw [fld] at hf
    split at hf
    · rw [List.mem_append] at hf
      rcases hf with hf | hf
      · split at hf
        · cases hf
        · rw [List.mem_singleton] at hf; subst hf; exact h2 x hx
      · exact fld_class b l [] (fun z hz => by cases hz) f hf x hx
    · rename_i hn
      refine fld_class b l _ (fun z hz => ?_) f hf x hx
      rw [List.mem_append, List.mem_singleton] at hz
      rcases hz with hz | rfl
      · exact h2 z hz
      · exact fun e => hn (.inl e)
theorem fields_class (b : Bool) (l : List Run) (hl : ∀ r ∈ l, 0 ≤ r.2 ∧ r.2 ≤ 3) : ∀ f ∈ fields b l, ∀ r ∈ f, 0 ≤ r.2 ∧ r.2 ≤ 2 := by
  intro f hf r hr
  unfold fields at hf
  obtain ⟨g, hg, rfl⟩ := List.mem_map.1 hf
  refine grp_class (C := fun c => 0 ≤ c ∧ c ≤ 2) g (fun x hx => ?_) r hr
  have h1 := fld_class b _ [] (fun z hz => by cases hz) g hg x hx
  have h2 := fld_mem b (C := fun x => 0 ≤ x.2 ∧ x.2 ≤ 3) _ _ (els_class (c := fun c => 0 ≤ c ∧ c ≤ 3) hl) (fun z hz => by cases hz) g hg x hx
  omega
def texts (b : Bool) (l : List Run) : List Str := (fields b l).map text
theorem texts_eq (b : Bool) (l : List Run) : texts b l = (fld b (els l) []).map join := by
  unfold texts fields
  rw [List.map_map]
  congr 1
  funext g
  exact grp_text g
theorem join_els : ∀ (l : List Run), (∀ r ∈ l, ¬ r.2 = 3) → join (els l) = text l
  | [], _ => rfl
  | r :: l, h => by
    rw [els_cons, join_app, join_elsOf r (h r (.head _)), join_els l (fun q hq => h q (.tail _ hq))]
    rfl
/-- Runs that hold no separator are one field. -/
theorem texts_one (b : Bool) (l : List Run) (h : ∀ r ∈ l, ¬ r.2 = 3 ∧ (r.2 = 2 → b = false)) : texts b l = if els l = [] then [] else [text l] := by
  rw [texts_eq, fld_plain b (els l) []]
  · rw [List.nil_append]
    split
    · rfl
    · rw [List.map_singleton, join_els l (fun r hr => (h r hr).1)]
  · intro x hx
    have := els_class (c := fun c => ¬ c = 3 ∧ (c = 2 → b = false)) h x hx
    refine ⟨this.1, ?_⟩
    by_cases h2 : x.2 = 2
    · rw [this.2 h2]; rfl
    · exact sep_class h2
theorem els_quoted (t : Str) : elsOf (t, 1) ≠ [] := by
  unfold elsOf
  rw [if_neg (by simp)]
  cases t with
  | nil => simp
  | cons c r => simp
/-- Quoted runs between breaks are a field each. -/
def listed : List Str → List Run
  | [] => []
  | [p] => [(p, 1)]
  | p :: q :: r => (p, 1) :: ([], 3) :: listed (q :: r)
theorem texts_listed (b : Bool) : ∀ (ps : List Str), texts b (listed ps) = ps
  | [] => by rw [texts_eq]; rfl
  | [p] => by
    show texts b [(p, 1)] = [p]
    rw [texts_one b _ (by simp), if_neg]
    · simp [text]
    · show ¬ elsOf (p, 1) ++ [] = []
      rw [List.append_nil]; exact els_quoted p
  | p :: q :: r => by
    have ih := texts_listed b (q :: r)
    rw [texts_eq] at ih ⊢
    show List.map join (fld b (elsOf (p, 1) ++ ([], 3) :: els (listed (q :: r))) []) = _
    rw [fld_break b (elsOf (p, 1)) [] _ _ (fun x hx => ?_) rfl, List.map_append, ih, List.nil_append, if_neg (els_quoted p), List.map_singleton, join_elsOf _ (by simp)]
    · rfl
    · have := els_class (l := [(p, 1)]) (c := fun c => c = 1) (by simp) x (by show x ∈ elsOf (p, 1) ++ []; rw [List.append_nil]; exact hx)
      exact ⟨by omega, sep_class (by omega)⟩
/-- The words of a value: what stands between blanks, tabs and newlines. -/
def blank (c : UInt8) : Bool := decide (c = 32 ∨ c = 9 ∨ c = 10)
def wds : Str → Str → List Str
  | [], now => if now = [] then [] else [now]
  | c :: s, now => if blank c = true then (if now = [] then [] else [now]) ++ wds s [] else wds s (now ++ [c])
theorem texts_value (s : Str) : texts true [(s, 2)] = wds s [] := by
  rw [texts_eq]
  have he : els [(s, 2)] = s.map (fun c => ([c], 2)) := by
    show elsOf (s, 2) ++ [] = _
    unfold elsOf
    rw [if_neg (by simp), List.append_nil, if_neg (by simp), List.nil_append]
  rw [he]
  suffices h : ∀ (s : Str) (now : Str), List.map join (fld true (s.map (fun c => ([c], 2))) (now.map (fun c => ([c], 2)))) = wds s now from h s []
  intro s
  have hj : ∀ now : Str, join (now.map (fun c => (([c], 2) : El))) = now := by
    intro now
    induction now with
    | nil => rfl
    | cons c r ih => show c :: join (r.map _) = _; rw [ih]
  induction s with
  | nil =>
    intro now
    rw [List.map_nil, fld_nil, wds]
    cases now with
    | nil => rfl
    | cons c r => rw [if_neg (by simp), if_neg (by simp), List.map_singleton, hj]
  | cons c s ih =>
    intro now
    rw [List.map_cons, wds]
    have hs : sep true ([c], 2) = blank c := by
      unfold sep blank
      simp
    by_cases hb : blank c = true
    · rw [if_pos hb, fld, if_pos (.inr (hs.trans hb)), List.map_append]
      have := ih []
      rw [List.map_nil] at this
      rw [this]
      congr 1
      cases now with
      | nil => rfl
      | cons c r => rw [if_neg (by simp), if_neg (by simp), List.map_singleton, hj]
    · rw [if_neg hb, fld, if_neg (by rw [hs]; simp; simpa using hb), ← ih]
      rw [List.map_append]
      rfl
theorem els_nil_iff (s : Str) (c : Int) (h : ¬ c = 3) (h1 : ¬ c = 1) : els [(s, c)] = [] ↔ s = [] := by
  show elsOf (s, c) ++ [] = [] ↔ _
  unfold elsOf
  rw [if_neg h, List.append_nil, if_neg (fun e => h1 e.2), List.nil_append, List.map_eq_nil_iff]
theorem texts_whole (s : Str) : texts false [(s, 2)] = if s = [] then [] else [s] := by
  rw [texts_one false _ (by simp)]
  by_cases h : s = []
  · rw [if_pos ((els_nil_iff s 2 (by decide) (by decide)).2 h), if_pos h]
  · rw [if_neg (fun e => h ((els_nil_iff s 2 (by decide) (by decide)).1 e)), if_neg h]; simp [text]
theorem texts_double (b : Bool) (s : Str) : texts b [(s, 1)] = [s] := texts_listed b [s]
/-- Quoted runs, at least one, are one field. -/
theorem texts_quotes (b : Bool) (l : List Run) (hl : l ≠ []) (h : ∀ r ∈ l, r.2 = 1) : texts b l = [text l] := by
  rw [texts_one b l (fun r hr => by rw [h r hr]; simp), if_neg]
  cases l with
  | nil => exact absurd rfl hl
  | cons r l =>
    rw [els_cons]
    intro e
    have h1 := (List.append_eq_nil_iff.1 e).1
    obtain ⟨t, c⟩ := r
    have := h (t, c) (.head _)
    dsimp only at this
    subst this
    exact els_quoted t h1
theorem texts_bare (b : Bool) (s : Str) (hs : s ≠ []) : texts b [(s, 0)] = [s] := by
  rw [texts_one b _ (by simp), if_neg (fun e => hs ((els_nil_iff s 0 (by decide) (by decide)).1 e))]
  simp [text]
end SP
end Go.Proofs.YtkceenmlhfkkhaaGreatDoor
namespace Go.Proofs.YtkceenmlhfkkhaaGreatDoor
open K
namespace SP
theorem cut47 {s a b : Str} {f : Bool} (h : Lib.cut s [47] = (a, b, f)) : (f = true ∧ s = a ++ 47 :: b) ∨ (f = false ∧ a = s ∧ b = []) := by
  unfold Lib.cut at h
  by_cases h0 : 0 ≤ Lib.index s [47]
  · rw [if_pos h0] at h
    rcases Lib.index_spec s [47] with ⟨h1, _⟩ | ⟨i, h1, h2, h3, _⟩
    · omega
    · left
      rw [h1] at h
      simp only [Prod.mk.injEq, Int.toNat_natCast] at h
      obtain ⟨rfl, rfl, rfl⟩ := h
      refine ⟨rfl, ?_⟩
      have h4 : ∃ r, s.drop i = 47 :: r := by
        unfold Lib.occAt at h3
        cases hd : s.drop i with
        | nil => rw [hd] at h3; cases h3
        | cons c r =>
          rw [hd] at h3
          simp [List.isPrefixOf] at h3
          exact ⟨r, by rw [h3]⟩
      obtain ⟨r, hr⟩ := h4
      have : s.drop (i + 1) = r := by rw [← List.drop_drop, hr]; rfl
      rw [show ([47] : List UInt8).length = 1 from rfl, this, ← hr, List.take_append_drop]
  · rw [if_neg h0] at h
    simp only [Prod.mk.injEq] at h
    exact .inr ⟨h.2.2.symm, h.1.symm, h.2.1.symm⟩
/-- Names joined by slashes, the last of which is being read. -/
def jn (L : List Str) (x : Str) : Str := Lib.join (L ++ [x]) [47]
theorem jn_nil (x : Str) : jn [] x = x := Lib.join_one x [47]
theorem joinTail_app (sep : Str) (r q : List Str) : Lib.joinTail sep (r ++ q) = Lib.joinTail sep r ++ Lib.joinTail sep q := by unfold Lib.joinTail; simp
theorem jn_snoc (L : List Str) (t x : Str) : jn (L ++ [t]) x = jn L (t ++ 47 :: x) := by
  unfold jn
  cases L with
  | nil => rw [List.nil_append, List.nil_append, Lib.join_one]; show Lib.join [t, x] [47] = _; rw [Lib.join_cons]; simp [Lib.joinTail]
  | cons y L =>
    simp only [List.cons_append, Lib.join_cons, joinTail_app]
    simp [Lib.joinTail]
theorem jn_join (L : List Str) (x : Str) : Lib.join (L ++ [x]) [47] = jn L x := rfl
theorem sep_contains (b : Bool) (x : El) (h : ok x) : sep b x = (decide (x.2 = 2) && Lib.contains (ifs b) x.1) := by
  unfold sep
  by_cases h2 : x.2 = 2
  · rw [decide_eq_true h2]
    obtain ⟨t, c⟩ := x
    dsimp only at *
    have h1 := h.2 h2
    obtain ⟨d, rfl⟩ : ∃ d, t = [d] := by
      cases t with
      | nil => simp at h1
      | cons d r => cases r with
        | nil => exact ⟨d, rfl⟩
        | cons => simp at h1
    cases b with
    | false => rfl
    | true =>
      show (true && true && decide ([d] = [32] ∨ [d] = [9] ∨ [d] = [10])) = (true && Lib.contains [32, 9, 10] [d])
      rw [Bool.true_and, Bool.true_and, Bool.true_and]
      unfold Lib.contains
      simp only [Lib.index, List.isPrefixOf]
      by_cases e1 : d = 32
      · subst e1; rfl
      by_cases e2 : d = 9
      · subst e2; rfl
      by_cases e3 : d = 10
      · subst e3; rfl
      simp [e1, e2, e3]
  · rw [decide_eq_false h2, Bool.and_false, Bool.false_and, Bool.false_and]
/-- A separator is one of the three white bytes. -/
theorem sep_white {b : Bool} {x : El} (h : sep b x = true) : x.1 = [32] ∨ x.1 = [9] ∨ x.1 = [10] := by
  unfold sep at h
  simp at h
  exact h.2
end SP
end Go.Proofs.YtkceenmlhfkkhaaGreatDoor
