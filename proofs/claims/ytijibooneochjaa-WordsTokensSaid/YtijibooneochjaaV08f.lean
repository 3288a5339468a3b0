/- Chapter 8: the law WordsTokens (P07c, V08c, W08p, V08d in one). -/
import Derived.Test.YtijibooneochjaaP07b
import Derived.Test.YtijibooneochjaaW07g
import Derived.Test.YtijibooneochjaaV08
import Derived.BigQuiet
import Derived.Test.YtijibooneochjaaW08l
import Derived.Test.YtijibooneochjaaW08n
import Derived.Test.YtijibooneochjaaP08x
namespace Go.Proofs.Ytijibooneochjaa
open K
namespace LX
theorem cut_one {s : Str} {p : Nat} {x : UInt8} (h : s.drop p = x :: s.drop (p + 1)) : cut s p (p + 1) = [x] := by
  unfold cut
  rw [List.drop_take, h, show p + 1 - p = 1 by omega]
  rfl
theorem opFrom_one {s : Str} {a : Nat} (h : isOp (cut s a (a + 1)) = true) : ∀ n, 1 ≤ n → 0 < opFrom s a n
  | 0, h0 => absurd h0 (by omega)
  | 1, _ => by rw [opFrom, if_pos (by exact h)]; omega
  | n + 2, _ => by
    rw [opFrom]
    split
    · omega
    · exact opFrom_one h (n + 1) (by omega)
theorem op_small : ∀ n : Nat, n < 256 → divides (n : Int) = true → blank (n : Int) = false → isOp [n.toUInt8] = true := by decide +kernel
theorem opLen_pos {s : Str} {p : Nat} (hp : p < s.length) (h1 : divides (bt s p) = true) (h2 : blank (bt s p) = false) : 0 < opLen s p := by
  obtain ⟨x, hx, hb, -⟩ := drop_cons s p hp
  rw [hb] at h1 h2
  have h3 := op_small x.toNat (UInt8.toNat_lt x) h1 h2
  rw [show x.toNat.toUInt8 = x from UInt8.ofNat_toNat] at h3
  refine opFrom_one ?_ _ (by omega)
  rw [cut_one hx]
  exact h3
/-- A word that begins at a byte that divides none ends behind it. -/
theorem word_lt {s : Str} {p : Nat} (hp : p < s.length) (hd : divides (bt s p) = false) (h : (wordEnd s p).2 = 0) : p < (wordEnd s p).1 := by
  unfold wordEnd at h ⊢
  rw [word, if_pos ⟨hp, hd⟩] at h ⊢
  by_cases hb : begins s p = true
  · rw [if_pos hb] at h ⊢
    have hg := construct_good (q := false) (d := false) hp hb
    unfold thn at h ⊢
    by_cases he : (construct s p false false).2 = 0
    · rw [if_pos he] at h ⊢
      have h1 := (word_good s.length s _ hg.1).2.1 h
      have h2 := hg.2.1 he
      show p < (word s.length s (construct s p false false).1).1
      omega
    · rw [if_neg he] at h
      exact absurd h he
  · rw [if_neg hb] at h ⊢
    have h1 := (word_good s.length s (p + 1) (by omega)).2.1 h
    omega
/-- A token that is not the end takes more than nothing. -/
theorem next_far {s : Str} {a : Nat} {t : Tok} (ha : a ≤ s.length) (h : next s a = (t, 0)) : t.kind = 5 ∨ (a < t.stop ∧ t.stop ≤ s.length) := by
  unfold next at h
  split at h
  · simp at h
  have hle := skipTo_le ha
  have hge := skipTo_ge s a
  have hat := skipTo_at ha
  generalize skipTo s a = p at h hle hge hat
  unfold nextAt at h
  split at h
  · left
    have := congrArg Prod.fst h
    dsimp only at this
    rw [← this]
  rename_i hne
  have hlt : p < s.length := by omega
  obtain ⟨hbl, -, -⟩ := hat hlt
  right
  split at h
  · have := congrArg Prod.fst h
    dsimp only at this
    rw [← this]
    show a < p + 1 ∧ p + 1 ≤ s.length
    omega
  split at h
  · rename_i ho
    have := congrArg Prod.fst h
    dsimp only at this
    rw [← this]
    show a < p + opLen s p ∧ p + opLen s p ≤ s.length
    have := opFrom_le s p (min 3 (s.length - p))
    unfold opLen at ho ⊢
    omega
  · rename_i ho
    unfold nextW at h
    split at h
    · rename_i he
      have := congrArg Prod.fst h
      dsimp only at this
      rw [← this]
      show a < (wordEnd s p).1 ∧ (wordEnd s p).1 ≤ s.length
      have h1 := word_lt hlt (by
        cases hd : divides (bt s p) with
        | false => rfl
        | true => exact absurd (opLen_pos hlt hd hbl) ho) he
      have h2 := (word_good (s.length + 1) s p hle).1
      exact ⟨by omega, h2⟩
    · rename_i he
      exact absurd (congrArg Prod.snd h) he
end LX
end Go.Proofs.Ytijibooneochjaa
namespace Go.Proofs.Ytijibooneochjaa
open Go.RowKit K
namespace W
theorem infoTok : (Try.prog.info? 36).map (fun i => (i.zero, i.size, i.bytes)) = some (some (.agg #[.int .i64 0, .int .i64 0, .int .i64 0, .string ⟨#[]⟩]), 4, 40) := by kernel_rfl
def tokC (t : LX.Tok) : List Value := [.int .i64 t.kind, .int .i64 t.pos, .int .i64 t.stop, .string ⟨t.text.toArray⟩]
def tokCells (l : List LX.Tok) : List Value := l.flatMap tokC
def TokOf (s : List UInt8) (t : LX.Tok) : Prop := ∃ a, a ≤ s.length ∧ LX.next s a = (t, 0)
def AllOut (s : List UInt8) (w : World) (e : Ending) (w' : World) : Prop :=
  ∃ v x y rows, e = .returned (.tuple #[v, .int .i64 x, .int .i64 y]) ∧ Below w.heap.size w w' ∧ w'.ownsRow w.heap.size 36 4 v rows.length (tokCells rows) ∧ rows.length ≤ s.length + 1 ∧ ∀ t ∈ rows, TokOf s t
theorem tokCells_len (l : List LX.Tok) : (tokCells l).length = l.length * 4 := by
  induction l with
  | nil => rfl
  | cons t r ih => simp only [tokCells, List.flatMap_cons, List.length_append] at ih ⊢; rw [ih]; simp [tokC]; omega
theorem four_cells (w : World) (k : Nat) (hk : k = w.heap.size) (t : LX.Tok) (T : TypeId) : ∀ (j : Nat) (u : Value), (tokC t)[j]? = some u → (w.alloc (.cells #[.int .i64 t.kind, .int .i64 t.pos, .int .i64 t.stop, .string ⟨t.text.toArray⟩] T)).cell? ((⟨k, 0, none⟩ : Addr).add j) = some u := by
  subst hk
  intro j u hj
  match j, hj with
  | 0, hj => simp [tokC] at hj; subst hj; simp [Addr.add]
  | 1, hj => simp [tokC] at hj; subst hj; simp [Addr.add]
  | 2, hj => simp [tokC] at hj; subst hj; simp [Addr.add]
  | 3, hj => simp [tokC] at hj; subst hj; simp [Addr.add]
  | n + 4, hj => simp [tokC] at hj
theorem four_one (t : LX.Tok) : ∀ u ∈ tokC t, u.oneCell' = true := by
  intro u hu
  simp [tokC] at hu
  rcases hu with rfl | rfl | rfl | rfl <;> rfl
set_option maxRecDepth 100000 in
set_option maxHeartbeats 8000000 in
theorem All_any (s : List UInt8) (w : World) (hl : s.length ≤ 100000) : Calls Try.prog 14 #[.string ⟨s.toArray⟩] w (AllOut s w) := by
  obtain ⟨i0, hi, hz0, hz1, hz2⟩ := info_parts infoTok
  have HNX := Lib.hid (fun (a : Nat) (t : LX.Tok) (x : Int) V (ha : a ≤ s.length) (h : LX.next s a = (t, x)) => Next_any s a V t.kind t.pos t.stop t.text x hl (by rw [LX.clamp_nat ha]; exact h))
  have HST := Lib.hid (show ∃ rows, w.ownsRow w.heap.size 36 4 (.slice none 0 0) (rows : List LX.Tok).length (tokCells rows) ∧ rows.length ≤ 0 ∧ ∀ t ∈ rows, TokOf s t from ⟨[], ⟨rfl, .inl ⟨rfl, rfl⟩⟩, Nat.le_refl _, by simp⟩)
  go_enter Try.func14, Try.ntmps14
  go_wp2
  go_loopw [5, 6] (fun v i wr => ∃ k : Nat, k ≤ s.length ∧ i = .int .i64 k ∧ Hid (∃ rows : List LX.Tok, wr.ownsRow w.heap.size 36 4 v rows.length (tokCells rows) ∧ rows.length ≤ k ∧ ∀ t ∈ rows, TokOf s t) ∧ Hid (Below w.heap.size w wr)) (fun _ i _ => s.length - (intOf i).toNat)
  case atStart => exact ⟨0, Nat.zero_le _, rfl, HST, Lib.hid (Below.refl _ _)⟩
  case round =>
    obtain ⟨k, hk, rfl, HR, HB⟩ := hrel
    obtain ⟨rows, hrow, hrl, hrt⟩ := HR.out
    obtain ⟨A, cap, rfl⟩ := row_val hrow
    have HROW := Lib.hid hrow
    have HRT := Lib.hid hrt
    clear hrow hrt HR HST
    obtain ⟨t, x, hn⟩ : ∃ t x, LX.next s k = (t, x) := ⟨_, _, rfl⟩
    have HN := Lib.hid (HNX.out k t x wr hk hn)
    have HNQ := Lib.hid hn
    clear hn HNX
    go_wp2_with fail
    refine HN.out.mono ?_
    rintro e W1 ⟨rfl, hb⟩
    have HB1 := Lib.hid (btr HB.out hb)
    have HRW := Lib.hid (row_below HROW.out hb)
    have hs1 := HB1.out.size
    clear hb HN HROW
    have x0 : (W1.alloc (.cells #[.int .i64 t.kind, .int .i64 t.pos, .int .i64 t.stop, .string ⟨t.text.toArray⟩] 36)).heap[W1.heap.size]? = some (.cells #[.int .i64 t.kind, .int .i64 t.pos, .int .i64 t.stop, .string ⟨t.text.toArray⟩] 36 (0, 0)) := al_new W1 _
    by_cases hx : x = 0
    · subst hx
      have HF := Lib.hid (LX.next_far hk HNQ.out)
      have HX0 := Lib.hid x0
      have HXV := Lib.hid (row_below HRW.out (balloc W1 (.cells #[.int .i64 t.kind, .int .i64 t.pos, .int .i64 t.stop, .string ⟨t.text.toArray⟩] 36)))
      have c0 := Lib.cell_of_heap x0 0
      have c1 := Lib.cell_of_heap x0 1
      have c2 := Lib.cell_of_heap x0 2
      have c3 := Lib.cell_of_heap x0 3
      have hrl2 : rows.length ≤ 100000 := by omega
      clear x0
      go_wp2_with (at_builtin; refine wpList_append_own _ rfl _ _ 32 rfl w.heap.size 36 i0 (.agg #[.int .i64 0, .int .i64 0, .int .i64 0, .string ⟨#[]⟩]) 4 40 Try.underlying32 hi hz0 hz1 hz2 rfl (by decide) _ _ _ rfl (HXV.out.alloc _) ⟨W1.heap.size + 1, 0, none⟩ 1 1 (tokC t) rfl rfl (four_cells _ _ (by simp) t _) (four_one t) (by unfold maxLen; omega) (by omega) (by simp; omega) ?_)
      intro v' w2 hown' hgrow _
      have HOB := Lib.hid (show ∀ r, (Value.slice A rows.length cap).ownBlock = some r → w.heap.size ≤ r ∧ r < W1.heap.size from fun r hr => ⟨(HRW.out.lt r hr).1, own_lt HRW.out r hr⟩)
      have HW2 := Lib.hid (show Below w.heap.size w w2 from (((HB1.out.alloc hs1 _).alloc (by simp; omega) _).grown hgrow (by simp; omega) (fun r hr => by have := (HOB.out r hr).1; omega)))
      have h2 : w2.heap[W1.heap.size]? = some (.cells #[.int .i64 t.kind, .int .i64 t.pos, .int .i64 t.stop, .string ⟨t.text.toArray⟩] 36 (0, 0)) := by
        rw [hgrow.block W1.heap.size (by simp; omega) (fun e => by have := HOB.out _ e.symm; omega)]
        exact ((balloc _ _).block _ (by simp)).trans HX0.out
      have d0 := Lib.cell_of_heap h2 0
      have d2 := Lib.cell_of_heap h2 2
      obtain ⟨Ao, co, rfl⟩ := row_val hown'
      have HO2 := Lib.hid (show w2.ownsRow w.heap.size 36 4 (.slice Ao (rows.length + 1) co) (rows ++ [t]).length (tokCells (rows ++ [t])) from by
        rw [List.length_append, List.length_singleton, show tokCells (rows ++ [t]) = tokCells rows ++ tokC t by simp [tokCells]]
        exact hown')
      have HT2 := Lib.hid (show ∀ u ∈ rows ++ [t], TokOf s u from fun u hu => by
        rcases List.mem_append.1 hu with h | h
        · exact HRT.out u h
        · rw [List.mem_singleton] at h; rw [h]; exact ⟨k, hk, HNQ.out⟩)
      clear hown' hgrow h2 c0 c1 c2 c3
      by_cases h5 : t.kind = 5
      · have h5' : ((t.kind : Int) == 5) = true := by rw [beq_iff_eq]; omega
        go_wp2_with fail
        go_ret3
        exact ⟨.slice Ao (rows.length + 1) co, 0, 0, rows ++ [t], rfl, HW2.out, HO2.out, by rw [List.length_append, List.length_singleton]; omega, HT2.out⟩
      · have h5' : ((t.kind : Int) == 5) = false := by rw [beq_eq_false_iff_ne]; omega
        obtain ⟨hf1, hf2⟩ := HF.out.resolve_left h5
        go_wp2_with fail
        go_roundw
        case rel => exact ⟨t.stop, hf2, rfl, Lib.hid ⟨rows ++ [t], HO2.out, by rw [List.length_append, List.length_singleton]; omega, HT2.out⟩, HW2⟩
        case measure => simp [intOf]; omega
    · have hxn : (x == 0) = false := by rw [beq_eq_false_iff_ne]; exact hx
      have hxm : (x != 0) = true := by simp [bne, hxn]
      have c1 := Lib.cell_of_heap x0 1
      have HBX := Lib.hid (btr HB1.out (balloc W1 (.cells #[.int .i64 t.kind, .int .i64 t.pos, .int .i64 t.stop, .string ⟨t.text.toArray⟩] 36)))
      go_wp2_with fail
      go_quiet (fail)
      go_wp2
      go_ret3
      exact ⟨.slice none 0 0, t.pos, x, [], rfl, bdN HBX.out _, ⟨rfl, .inl ⟨rfl, rfl⟩⟩, Nat.zero_le _, by simp⟩
end W
end Go.Proofs.Ytijibooneochjaa
namespace Go.Proofs.Ytijibooneochjaa
open Go.RowKit K
namespace W
theorem brAll : BrAll := fun _ _ _ _ _ h1 h2 h3 h4 h5 h6 => braced_any h1 h2 h3 h4 h5 h6
end W
end Go.Proofs.Ytijibooneochjaa
namespace Go.Proofs.Ytijibooneochjaa
open Go.RowKit K
namespace W
theorem cut_le (s : List UInt8) (a b : Nat) : (cut s a b).length ≤ s.length := by unfold cut; simp; omega
theorem next_text (s : List UInt8) (a : Nat) : (LX.next s a).1.text.length ≤ s.length := by
  unfold LX.next
  split
  · exact Nat.zero_le _
  unfold LX.nextAt
  split
  · exact Nat.zero_le _
  split
  · exact cut_le _ _ _
  split
  · exact cut_le _ _ _
  unfold LX.nextW
  split
  · exact cut_le _ _ _
  · exact Nat.zero_le _
theorem tokCells_at {l : List LX.Tok} {k : Nat} {t : LX.Tok} (h : l[k]? = some t) {j : Nat} {u : Value} (hj : (tokC t)[j]? = some u) : (tokCells l)[k * 4 + j]? = some u := by
  induction l generalizing k with
  | nil => simp at h
  | cons x r ih =>
    have e : tokCells (x :: r) = tokC x ++ tokCells r := rfl
    rw [e]
    cases k with
    | zero =>
      simp at h
      subst h
      have hl : j < (tokC x).length := (List.getElem?_eq_some_iff.1 hj).1
      rw [Nat.zero_mul, Nat.zero_add, List.getElem?_append_left hl]
      exact hj
    | succ k =>
      have := ih (k := k) (by simpa using h)
      rw [List.getElem?_append_right (by simp [tokC]; omega), show (k + 1) * 4 + j - (tokC x).length = k * 4 + j by simp [tokC]; omega]
      exact this
/-- Tokens that stand in a world. -/
def TS (w : World) (A : Option Addr) (l : List LX.Tok) : Prop := l = [] ∨ ∃ b, A = some ⟨b, 0, none⟩ ∧ b < w.heap.size ∧ ∀ j u, (tokCells l)[j]? = some u → w.cell? ⟨b, j, none⟩ = some u
theorem TS.of_row {w : World} {B : Nat} {A : Option Addr} {n cap : Nat} {l : List LX.Tok} (h : w.ownsRow B 36 4 (.slice A n cap) l.length (tokCells l)) : TS w A l ∧ n = l.length := by
  obtain ⟨A', cap', hv⟩ := row_val h
  injection hv with e1 e2 e3
  refine ⟨?_, e2⟩
  rcases h.2 with ⟨_, hn⟩ | ⟨g, cap', cur, hv', hB, hg, _⟩
  · exact .inl (List.length_eq_zero_iff.1 hn)
  · injection hv' with hA _ _
    refine .inr ⟨g, hA, (Array.getElem?_eq_some_iff.1 hg).1, fun j u hj => ?_⟩
    have := h.cells (g := g) (by rw [hA]; rfl) j u hj
    rcases Nat.eq_zero_or_pos j with rfl | hp
    · exact this
    · simpa [Addr.add, show ¬ j = 0 by omega] using this
theorem TS.up {w w' : World} {A : Option Addr} {l : List LX.Tok} (h : TS w A l) (hb : Below w.heap.size w w') : TS w' A l := by
  rcases h with h | ⟨b, h1, h2, h3⟩
  · exact .inl h
  · exact .inr ⟨b, h1, Nat.lt_of_lt_of_le h2 hb.size, fun j u hj => (hb.cell (show (⟨b, j, none⟩ : Addr).block < w.heap.size from h2)).trans (h3 j u hj)⟩
theorem TS.get {w : World} {A : Option Addr} {l : List LX.Tok} (h : TS w A l) {k : Nat} {t : LX.Tok} (hk : l[k]? = some t) : ∃ b, A = some ⟨b, 0, none⟩ ∧ b < w.heap.size ∧ w.cell? ⟨b, k * 4, none⟩ = some (.int .i64 t.kind) ∧ w.cell? ⟨b, k * 4 + 3, none⟩ = some (.string ⟨t.text.toArray⟩) := by
  rcases h with h | ⟨b, h1, h2, h3⟩
  · rw [h] at hk; simp at hk
  · exact ⟨b, h1, h2, h3 _ _ (tokCells_at (j := 0) hk rfl), h3 _ _ (tokCells_at (j := 3) hk rfl)⟩
set_option maxRecDepth 100000 in
set_option maxHeartbeats 4000000 in
theorem WordsTokens_all (s : List UInt8) (w : World) : Calls Try.prog 4 #[.string ⟨s.toArray⟩] w fun e w' => e = .returned (.bool true) ∧ Below w.heap.size w w' := by
  have HAW := Lib.hid (fun V => awake8_any brAll V)
  by_cases h1 : 500 < s.length
  · have h1' : ((500 : Int) < (s.length : Int)) = True := eq_true (by omega)
    go_enter Try.func4, Try.ntmps4
    go_wp2_with fail
    refine (HAW.out _).mono ?_
    rintro e w1 ⟨rfl, hb⟩
    go_wp2
    go_ret
    exact ⟨rfl, hb⟩
  have h1' : ((500 : Int) < (s.length : Int)) = False := eq_false (by omega)
  have HAL := Lib.hid (fun V => All_any s V (by omega))
  have HPC := Lib.hid (fun (t : LX.Tok) (V : World) (ht : TokOf s t) (hk : t.kind = 1 ∨ t.kind = 4) => show Calls Try.prog 9 #[.string ⟨t.text.toArray⟩] V (fun e w' => ∃ (v : Value) (x y : Int), e = .returned (.tuple #[v, .int .i64 x, .int .i64 y]) ∧ (y == 7) = false ∧ Below V.heap.size V w') from by
    obtain ⟨a, ha, hn⟩ := ht
    have hl := next_text s a
    rw [hn] at hl
    dsimp only at hl
    have hs := WP.token_safe ha hn hk
    refine (Parse_any brAll t.text V (by omega)).mono ?_
    intro e w' ho
    cases hp : WP.parse t.text 0 with
    | error f =>
      rw [hp] at ho hs
      obtain ⟨he, hb⟩ := ho
      exact ⟨_, _, _, he, by rw [beq_eq_false_iff_ne]; exact hs, hb⟩
    | ok ps =>
      rw [hp] at ho
      obtain ⟨A, cap, he, hb, -⟩ := ho
      exact ⟨_, _, _, he, rfl, hb⟩)
  clear h1
  go_enter Try.func4, Try.ntmps4
  go_wp2_with fail
  refine (HAL.out _).mono ?_
  rintro e W0 ⟨v, x, y, rows, rfl, hb, hrow, hrl, hrt⟩
  obtain ⟨A, cap, rfl⟩ := row_val hrow
  have HTS := Lib.hid (TS.of_row hrow).1
  have HB0 := Lib.hid hb
  have HRT := Lib.hid hrt
  have hrl2 : rows.length ≤ 501 := by
    have : s.length ≤ 500 := by
      have := of_eq_false h1'
      omega
    omega
  clear hb hrow hrt hrl
  go_wp2
  go_loopw [6] (fun i wr => ∃ k : Nat, k ≤ rows.length ∧ i = .int .i64 k ∧ Hid (Below W0.heap.size W0 wr)) (fun i _ => rows.length - (intOf i).toNat)
  case atStart => exact ⟨0, Nat.zero_le _, rfl, Lib.hid (Below.refl _ _)⟩
  case round =>
    obtain ⟨k, hk, rfl, HB⟩ := hrel
    by_cases hlt : k < rows.length
    · obtain ⟨t, ht, -⟩ := get_of_lt' hlt
      have HTO := Lib.hid (HRT.out t (List.mem_of_getElem? ht))
      obtain ⟨b, rfl, hbl, c0, c3⟩ := (HTS.out.up HB.out).get ht
      clear ht
      have HP := Lib.hid (fun V hk => HPC.out t V HTO.out hk)
      by_cases hk1 : t.kind = 1
      · have e1 : ((t.kind : Int) == 1) = true := by rw [beq_iff_eq]; omega
        have e2 : ((t.kind : Int) != 1) = false := by simp [bne, e1]
        go_wp2_with fail
        refine (HP.out _ (.inl hk1)).mono ?_
        rintro e W2 ⟨v, x, y, rfl, hy, hb⟩
        have HB2 := Lib.hid (btr HB.out hb)
        clear hb
        go_wp2
        go_roundw
        case rel => exact ⟨k + 1, hlt, by go_num, HB2⟩
        case measure => simp [intOf]; omega
      · have e1 : ((t.kind : Int) == 1) = false := by rw [beq_eq_false_iff_ne]; omega
        have e2 : ((t.kind : Int) != 1) = true := by simp [bne, e1]
        by_cases hk4 : t.kind = 4
        · have e3 : ((t.kind : Int) == 4) = true := by rw [beq_iff_eq]; omega
          have e4 : ((t.kind : Int) != 4) = false := by simp [bne, e3]
          go_wp2_with fail
          refine (HP.out _ (.inr hk4)).mono ?_
          rintro e W2 ⟨v, x, y, rfl, hy, hb⟩
          have HB2 := Lib.hid (btr HB.out hb)
          clear hb
          go_wp2
          go_roundw
          case rel => exact ⟨k + 1, hlt, by go_num, HB2⟩
          case measure => simp [intOf]; omega
        · have e3 : ((t.kind : Int) == 4) = false := by rw [beq_eq_false_iff_ne]; omega
          have e4 : ((t.kind : Int) != 4) = true := by simp [bne, e3]
          go_wp2
          go_roundw
          case rel => exact ⟨k + 1, hlt, by go_num, HB⟩
          case measure => simp [intOf]; omega
    · go_wp2_with fail
      refine (HAW.out _).mono ?_
      rintro e W2 ⟨rfl, hb⟩
      have HB2 := Lib.hid (btr HB0.out (btr HB.out hb))
      go_wp2
      go_ret
      exact ⟨rfl, HB2.out⟩
end W
end Go.Proofs.Ytijibooneochjaa
