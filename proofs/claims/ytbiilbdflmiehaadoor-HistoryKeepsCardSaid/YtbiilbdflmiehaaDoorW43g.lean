/- Chapter 43: Begins and Contains, of the reference and of history. -/
import Derived.Test.YtbiilbdflmiehaaDoorW43f
import Derived.Test.YtbiilbdflmiehaaDoorP43b
import Derived.WalkSmall
import Derived.Lib.LaidTab
import Derived.Lib.ItoaNum
import Derived.Lib.AppendIntMem
namespace Go.Proofs.YtbiilbdflmiehaaDoor
open Go.RowKit K
namespace W

theorem Begins_ref (v : Value) (first : Int) (ls : List (List UInt8)) (t : List UInt8) (M : Nat) (w : World) (hV : HV w v first ls) (hn : ls.length ≤ 128) (hf1 : 1 ≤ first) (hf2 : first ≤ 2147483519) (hs : ∀ s ∈ ls, s.length ≤ M) (hM : M ≤ 1000000000) (ht : t.length ≤ 1000000000) :
    Calls Tryd.prog 21 #[v, .string ⟨t.toArray⟩] w fun e w' => e = optNum (P.findH (fun s => P.begins s t) first ls ls.length) ∧ Below w.heap.size w w' := by
  obtain ⟨A, c, rfl, _, _, _, hS⟩ := hV
  unfold hv
  obtain ⟨w0, h0, c0, c1, hb0, hsz0⟩ := box2 w (.int .i64 first) (.slice A ls.length c) 24
  have hS0 := hS.below hb0
  have H0 := Lib.hid h0
  have HS := Lib.hid hs
  clear h0 hs
  obtain ⟨R, hR⟩ : ∃ R, P.findH (fun s => P.begins s t) first ls ls.length = R := ⟨_, rfl⟩
  rw [hR]
  have HR := Lib.hid hR
  clear hR
  go_enter Tryd.func21, Tryd.ntmps21
  go_wp2
  rw [← H0.out]
  go_loop [6] (fun i => ∃ (k : Nat) (z : Int), k ≤ ls.length ∧ i = .int .i64 z ∧ Hid (z = (k : Int) - 1) ∧ -1 ≤ z ∧ z < 128 ∧ Hid (P.findH (fun s => P.begins s t) first ls k = R)) (fun i => (intOf i + 1).toNat)
  case atStart => exact ⟨ls.length, _, by omega, rfl, rfl, by omega, by omega, HR.out⟩
  case round =>
    obtain ⟨k, z, hk, rfl, hz, hz1, hz2, HN⟩ := hrel
    by_cases hk0 : k = 0
    · subst hk0
      have hz0 : z = -1 := by have := hz.out; omega
      clear hz
      subst hz0
      go_wp2
      go_ret2
      exact ⟨by rw [← HN.out]; rfl, hb0⟩
    · obtain ⟨j, rfl⟩ : ∃ j, k = j + 1 := ⟨k - 1, by omega⟩
      obtain rfl : z = (j : Int) := by have := hz.out; omega
      obtain ⟨b, off, rfl, hb, hcell⟩ := hS0.get (k := j) (by omega)
      have hsz := HS.out (ls.getD j []) (P.getD_mem (by omega))
      have HST := Lib.hid (show P.findH (fun s => P.begins s t) first ls (j + 1) = if P.begins (ls.getD j []) t then some (first + j) else P.findH (fun s => P.begins s t) first ls j from rfl)
      have hj : j < ls.length := by omega
      clear hz hk0
      generalize ls.getD j [] = s at *
      cases hp : P.begins s t
      · have HP := Lib.hid hp
        go_wp2_with (go_at_call 34; refine (begins_ref s t _ (by omega) (by omega)).mono ?_; rintro e w' ⟨rfl, rfl⟩)
        go_round
        case rel => exact ⟨j, _, by omega, rfl, rfl, by omega, by omega, by show _ = _; rw [← HN.out, HST.out, HP.out]; rfl⟩
        case measure => simp [intOf] <;> omega
      · have HP := Lib.hid hp
        go_wp2_with (go_at_call 34; refine (begins_ref s t _ (by omega) (by omega)).mono ?_; rintro e w' ⟨rfl, rfl⟩)
        go_ret2
        exact ⟨by rw [← HN.out, HST.out, HP.out]; rfl, hb0⟩

theorem Contains_ref (v : Value) (first : Int) (ls : List (List UInt8)) (t : List UInt8) (M : Nat) (w : World) (hV : HV w v first ls) (hn : ls.length ≤ 128) (hf1 : 1 ≤ first) (hf2 : first ≤ 2147483519) (hs : ∀ s ∈ ls, s.length ≤ M) (hM : M ≤ 1000000000) (ht : t.length ≤ 1000000000) :
    Calls Tryd.prog 23 #[v, .string ⟨t.toArray⟩] w fun e w' => e = optNum (P.findH (fun s => P.contains s t) first ls ls.length) ∧ Below w.heap.size w w' := by
  obtain ⟨A, c, rfl, _, _, _, hS⟩ := hV
  unfold hv
  obtain ⟨w0, h0, c0, c1, hb0, hsz0⟩ := box2 w (.int .i64 first) (.slice A ls.length c) 24
  have hS0 := hS.below hb0
  have H0 := Lib.hid h0
  have HS := Lib.hid hs
  clear h0 hs
  obtain ⟨R, hR⟩ : ∃ R, P.findH (fun s => P.contains s t) first ls ls.length = R := ⟨_, rfl⟩
  rw [hR]
  have HR := Lib.hid hR
  clear hR
  go_enter Tryd.func23, Tryd.ntmps23
  go_wp2
  rw [← H0.out]
  go_loop [6] (fun i => ∃ (k : Nat) (z : Int), k ≤ ls.length ∧ i = .int .i64 z ∧ Hid (z = (k : Int) - 1) ∧ -1 ≤ z ∧ z < 128 ∧ Hid (P.findH (fun s => P.contains s t) first ls k = R)) (fun i => (intOf i + 1).toNat)
  case atStart => exact ⟨ls.length, _, by omega, rfl, rfl, by omega, by omega, HR.out⟩
  case round =>
    obtain ⟨k, z, hk, rfl, hz, hz1, hz2, HN⟩ := hrel
    by_cases hk0 : k = 0
    · subst hk0
      have hz0 : z = -1 := by have := hz.out; omega
      clear hz
      subst hz0
      go_wp2
      go_ret2
      exact ⟨by rw [← HN.out]; rfl, hb0⟩
    · obtain ⟨j, rfl⟩ : ∃ j, k = j + 1 := ⟨k - 1, by omega⟩
      obtain rfl : z = (j : Int) := by have := hz.out; omega
      obtain ⟨b, off, rfl, hb, hcell⟩ := hS0.get (k := j) (by omega)
      have hsz := HS.out (ls.getD j []) (P.getD_mem (by omega))
      have HST := Lib.hid (show P.findH (fun s => P.contains s t) first ls (j + 1) = if P.contains (ls.getD j []) t then some (first + j) else P.findH (fun s => P.contains s t) first ls j from rfl)
      have hj : j < ls.length := by omega
      clear hz hk0
      generalize ls.getD j [] = s at *
      cases hp : P.contains s t
      · have HP := Lib.hid hp
        go_wp2_with (go_at_call 36; refine (contains_ref s t _ (by omega) (by omega)).mono ?_; rintro e w' ⟨rfl, rfl⟩)
        go_round
        case rel => exact ⟨j, _, by omega, rfl, rfl, by omega, by omega, by show _ = _; rw [← HN.out, HST.out, HP.out]; rfl⟩
        case measure => simp [intOf] <;> omega
      · have HP := Lib.hid hp
        go_wp2_with (go_at_call 36; refine (contains_ref s t _ (by omega) (by omega)).mono ?_; rintro e w' ⟨rfl, rfl⟩)
        go_ret2
        exact ⟨by rw [← HN.out, HST.out, HP.out]; rfl, hb0⟩

/-- What the library's own variables hold: MaxLen some integer, the powers of ten. -/
structure Env (w : World) : Prop where
  maxlen : ∃ m, w.cell? ⟨0, 0, none⟩ = some (.int .i64 m)
  pows : Lib.TabIs Tryd.prog w "internal/strconv.uint64pow10" .u64 Lib.pow10Tab
theorem gPow : Tryd.prog.globalNamed "internal/strconv.uint64pow10" = some 1 := by kernel_rfl
theorem Env.lt {w : World} (h : Env w) : 0 < w.heap.size := by
  obtain ⟨m, h⟩ := h.maxlen
  rcases Nat.lt_or_ge 0 w.heap.size with h' | h'
  · exact h'
  · simp [World.cell?, Array.getElem?_eq_none h'] at h
theorem Env.lt2 {w : World} (h : Env w) : 1 < w.heap.size := by
  have := h.pows.cell gPow 0 (by rw [Lib.pow10Tab_length]; omega)
  rcases Nat.lt_or_ge 1 w.heap.size with h' | h'
  · exact h'
  · simp [World.cell?, Array.getElem?_eq_none h'] at this
theorem Env.below {w w' : World} (h : Env w) (hb : Below w.heap.size w w') : Env w' := by
  have hlt := h.lt
  obtain ⟨m, h1⟩ := h.maxlen
  exact ⟨⟨m, (hb.cell (p := ⟨0, 0, none⟩) hlt).trans h1⟩, var?_below hb gPow h.lt2 h.pows⟩
theorem btr {a b c : World} (h : Below a.heap.size a b) (k : Below b.heap.size b c) : Below a.heap.size a c := h.trans (k.mono h.size)

theorem HasPrefix_any (s t : List UInt8) (w : World) :
    Calls Tryd.prog 33 #[.string ⟨s.toArray⟩, .string ⟨t.toArray⟩] w fun e w' => e = .returned (.bool (P.begins s t)) ∧ w = w' :=
  (Tryd.strings_HasPrefix ⟨s.toArray⟩ ⟨t.toArray⟩ w).mono fun _ _ ⟨h1, h2⟩ => ⟨h1.trans (ret_bool (P.begins_eq s t)), h2.symm⟩
theorem Contains_sub (s t : List UInt8) (w : World) (hs : s.length ≤ 1000000000) (hw : Env w) :
    Calls Tryd.prog 28 #[.string ⟨s.toArray⟩, .string ⟨t.toArray⟩] w fun e w' => e = .returned (.bool (P.contains s t)) ∧ w = w' := by
  obtain ⟨m, hm⟩ := hw.maxlen
  exact (Tryd.strings_Contains ⟨s.toArray⟩ ⟨t.toArray⟩ m w (by simp [ByteArray.size]; omega) hm).mono fun _ _ ⟨h1, h2⟩ => ⟨h1.trans (ret_bool (P.contains_eq s t)), h2.symm⟩

theorem Begins_clo (s t : List UInt8) (g : Nat) (w : World) (hg : w.cell? ⟨g, 0, none⟩ = some (.string ⟨t.toArray⟩)) (_hs : s.length ≤ 1000000000) (_hw : Env w) :
    Calls Tryd.prog 32 #[.string ⟨s.toArray⟩, .pointer (some ⟨g, 0, none⟩)] w fun e w' => e = .returned (.bool (P.begins s t)) ∧ w = w' := by
  go_enter Tryd.func32, Tryd.ntmps32
  go_wp2_with fail
  refine (HasPrefix_any s t _).mono ?_
  rintro e w' ⟨rfl, rfl⟩
  go_wp2
  go_ret
  exact ⟨rfl, rfl⟩

theorem Begins_last (A : Option Addr) (c : Nat) (ls : List (List UInt8)) (t : List UInt8) (M g : Nat) (w : World) (hS : SL w A ls) (hn : ls.length ≤ 128) (hs : ∀ s ∈ ls, s.length ≤ M) (hM : M ≤ 1000000000) (hg : w.cell? ⟨g, 0, none⟩ = some (.string ⟨t.toArray⟩)) (hw : Env w) :
    Calls Tryd.prog 46 #[.slice A ls.length c, .func (Fn.func 32) #[] #[.pointer (some ⟨g, 0, none⟩)]] w fun e w' => e = .returned (.int .i64 (((P.findH (fun s => P.begins s t) 1 ls ls.length).getD 0) - 1)) ∧ w = w' := by
  have HS := Lib.hid hs
  have HW := Lib.hid hw
  clear hs hw
  obtain ⟨R, hR⟩ : ∃ R, P.findH (fun s => P.begins s t) 1 ls ls.length = R := ⟨_, rfl⟩
  rw [hR]
  have HR := Lib.hid hR
  clear hR
  go_enter Tryd.func46, Tryd.ntmps46
  go_wp2
  go_loop [5] (fun i => ∃ (k : Nat) (z : Int), k ≤ ls.length ∧ i = .int .i64 z ∧ Hid (z = (k : Int) - 1) ∧ -1 ≤ z ∧ z < 128 ∧ Hid (P.findH (fun s => P.begins s t) 1 ls k = R)) (fun i => (intOf i + 1).toNat)
  case atStart => exact ⟨ls.length, _, by omega, rfl, rfl, by omega, by omega, HR.out⟩
  case round =>
    obtain ⟨k, z, hk, rfl, hz, hz1, hz2, HN⟩ := hrel
    by_cases hk0 : k = 0
    · subst hk0
      have hz0 : z = -1 := by have := hz.out; omega
      clear hz
      subst hz0
      go_wp2
      go_ret
      exact ⟨ret_int (by rw [← HN.out]; rfl), rfl⟩
    · obtain ⟨j, rfl⟩ : ∃ j, k = j + 1 := ⟨k - 1, by omega⟩
      obtain rfl : z = (j : Int) := by have := hz.out; omega
      obtain ⟨b, off, rfl, hb, hcell⟩ := hS.get (k := j) (by omega)
      have hsz := HS.out (ls.getD j []) (P.getD_mem (by omega))
      have HST := Lib.hid (show P.findH (fun s => P.begins s t) 1 ls (j + 1) = if P.begins (ls.getD j []) t then some (1 + (j : Int)) else P.findH (fun s => P.begins s t) 1 ls j from rfl)
      have hj : j < ls.length := by omega
      clear hz hk0
      generalize ls.getD j [] = s at *
      cases hp : P.begins s t
      · have HP := Lib.hid hp
        go_wp2_with fail
        refine (Begins_clo s t g _ hg (by omega) HW.out).mono ?_
        rintro e w' ⟨rfl, rfl⟩
        rw [HP.out]
        go_wp2
        go_round
        case rel => exact ⟨j, _, by omega, rfl, rfl, by omega, by omega, by show _ = _; rw [← HN.out, HST.out, HP.out]; rfl⟩
        case measure => simp [intOf] <;> omega
      · have HP := Lib.hid hp
        go_wp2_with fail
        refine (Begins_clo s t g _ hg (by omega) HW.out).mono ?_
        rintro e w' ⟨rfl, rfl⟩
        rw [HP.out]
        go_wp2
        go_ret
        exact ⟨ret_int (by rw [← HN.out, HST.out, HP.out]; simp; omega), rfl⟩

theorem Begins_number (v : Value) (first : Int) (ls : List (List UInt8)) (t : List UInt8) (M g : Nat) (w : World) (hV : HV w v first ls) (hn : ls.length ≤ 128) (hf1 : 1 ≤ first) (hf2 : first ≤ 2147483519) (hs : ∀ s ∈ ls, s.length ≤ M) (hM : M ≤ 1000000000) (hg : w.cell? ⟨g, 0, none⟩ = some (.string ⟨t.toArray⟩)) (hgl : g < w.heap.size) (hw : Env w) :
    Calls Tryd.prog 31 #[v, .func (Fn.func 32) #[] #[.pointer (some ⟨g, 0, none⟩)]] w fun e w' => e = optNum (P.findH (fun s => P.begins s t) first ls ls.length) ∧ Below w.heap.size w w' := by
  obtain ⟨A, c, rfl, _, _, _, hS⟩ := hV
  unfold hv
  obtain ⟨w0, h0, c0, c1, hb0, hsz0⟩ := box2 w (.int .i64 first) (.slice A ls.length c) 24
  have hS0 := hS.below hb0
  have hg0 := (hb0.cell (p := ⟨g, 0, none⟩) hgl).trans hg
  have HL := Lib.hid (Begins_last A c ls t M g w0 hS0 hn hs hM hg0 (hw.below hb0))
  have H0 := Lib.hid h0
  clear h0 hs hw hg hg0
  have hsh := Lib.hid (P.findH_shift (fun s => P.begins s t) first ls ls.length)
  have hrg := P.findH_range (fun s => P.begins s t) ls ls.length
  cases hR : P.findH (fun s => P.begins s t) 1 ls ls.length with
  | none =>
    have HR := Lib.hid hR
    clear hR hrg
    go_enter Tryd.func31, Tryd.ntmps31
    go_wp2_with fail
    rw [← H0.out]
    refine HL.out.mono ?_
    rintro e w1 ⟨rfl, rfl⟩
    rw [HR.out]
    go_wp2
    go_ret2
    exact ⟨by rw [hsh.out, HR.out]; rfl, hb0⟩
  | some q =>
    have HR := Lib.hid hR
    have hq := hrg q hR
    clear hR hrg
    have hq1 : ¬ q - 1 < 0 := by omega
    go_enter Tryd.func31, Tryd.ntmps31
    go_wp2_with fail
    rw [← H0.out]
    refine HL.out.mono ?_
    rintro e w1 ⟨rfl, rfl⟩
    rw [HR.out, Option.getD_some]
    go_wp2
    go_ret2
    exact ⟨by rw [hsh.out, HR.out]; simp [optNum], hb0⟩

theorem Begins_any (v : Value) (first : Int) (ls : List (List UInt8)) (t : List UInt8) (M : Nat) (w : World) (hV : HV w v first ls) (hn : ls.length ≤ 128) (hf1 : 1 ≤ first) (hf2 : first ≤ 2147483519) (hs : ∀ s ∈ ls, s.length ≤ M) (hM : M ≤ 1000000000) (hw : Env w) :
    Calls Tryd.prog 20 #[v, .string ⟨t.toArray⟩] w fun e w' => e = optNum (P.findH (fun s => P.begins s t) first ls ls.length) ∧ Below w.heap.size w w' := by
  have hV0 := hV
  obtain ⟨A, c, rfl, _, _, _, hS⟩ := hV
  obtain ⟨w0, h0, hb0, hg, hgl⟩ : ∃ w0 : World, w0 = (w.alloc (.cells #[.int .i64 first, .slice A ls.length c] 24)).alloc (.cells #[.string ⟨t.toArray⟩] 9) ∧ Below w.heap.size w w0 ∧ w0.cell? ⟨w.heap.size + 1, 0, none⟩ = some (.string ⟨t.toArray⟩) ∧ w.heap.size + 1 < w0.heap.size :=
    ⟨_, rfl, ((Below.refl _ w).alloc (Nat.le_refl _) _).alloc (by simp) _, by simp, by simp⟩
  have HN := Lib.hid (Begins_number (hv first A ls.length c) first ls t M (w.heap.size + 1) w0 (hV0.below hb0) hn hf1 hf2 hs hM hg hgl (hw.below hb0))
  have H0 := Lib.hid h0
  clear h0 hs hw hV0 hg
  unfold hv at *
  obtain ⟨o, ho⟩ : ∃ o, P.findH (fun s => P.begins s t) first ls ls.length = o := ⟨_, rfl⟩
  rw [ho] at HN
  rw [ho]
  clear ho
  go_enter Tryd.func20, Tryd.ntmps20
  go_wp2_with fail
  rw [← H0.out]
  refine HN.out.mono ?_
  rintro e w1 ⟨rfl, hb1⟩
  unfold optNum
  go_wp2
  go_ret2
  exact ⟨rfl, btr hb0 hb1⟩

theorem Contains_clo (s t : List UInt8) (g : Nat) (w : World) (hg : w.cell? ⟨g, 0, none⟩ = some (.string ⟨t.toArray⟩)) (_hs : s.length ≤ 1000000000) (_hw : Env w) :
    Calls Tryd.prog 35 #[.string ⟨s.toArray⟩, .pointer (some ⟨g, 0, none⟩)] w fun e w' => e = .returned (.bool (P.contains s t)) ∧ w = w' := by
  go_enter Tryd.func35, Tryd.ntmps35
  go_wp2_with fail
  refine (Contains_sub s t _ _hs _hw).mono ?_
  rintro e w' ⟨rfl, rfl⟩
  go_wp2
  go_ret
  exact ⟨rfl, rfl⟩

theorem Contains_last (A : Option Addr) (c : Nat) (ls : List (List UInt8)) (t : List UInt8) (M g : Nat) (w : World) (hS : SL w A ls) (hn : ls.length ≤ 128) (hs : ∀ s ∈ ls, s.length ≤ M) (hM : M ≤ 1000000000) (hg : w.cell? ⟨g, 0, none⟩ = some (.string ⟨t.toArray⟩)) (hw : Env w) :
    Calls Tryd.prog 46 #[.slice A ls.length c, .func (Fn.func 35) #[] #[.pointer (some ⟨g, 0, none⟩)]] w fun e w' => e = .returned (.int .i64 (((P.findH (fun s => P.contains s t) 1 ls ls.length).getD 0) - 1)) ∧ w = w' := by
  have HS := Lib.hid hs
  have HW := Lib.hid hw
  clear hs hw
  obtain ⟨R, hR⟩ : ∃ R, P.findH (fun s => P.contains s t) 1 ls ls.length = R := ⟨_, rfl⟩
  rw [hR]
  have HR := Lib.hid hR
  clear hR
  go_enter Tryd.func46, Tryd.ntmps46
  go_wp2
  go_loop [5] (fun i => ∃ (k : Nat) (z : Int), k ≤ ls.length ∧ i = .int .i64 z ∧ Hid (z = (k : Int) - 1) ∧ -1 ≤ z ∧ z < 128 ∧ Hid (P.findH (fun s => P.contains s t) 1 ls k = R)) (fun i => (intOf i + 1).toNat)
  case atStart => exact ⟨ls.length, _, by omega, rfl, rfl, by omega, by omega, HR.out⟩
  case round =>
    obtain ⟨k, z, hk, rfl, hz, hz1, hz2, HN⟩ := hrel
    by_cases hk0 : k = 0
    · subst hk0
      have hz0 : z = -1 := by have := hz.out; omega
      clear hz
      subst hz0
      go_wp2
      go_ret
      exact ⟨ret_int (by rw [← HN.out]; rfl), rfl⟩
    · obtain ⟨j, rfl⟩ : ∃ j, k = j + 1 := ⟨k - 1, by omega⟩
      obtain rfl : z = (j : Int) := by have := hz.out; omega
      obtain ⟨b, off, rfl, hb, hcell⟩ := hS.get (k := j) (by omega)
      have hsz := HS.out (ls.getD j []) (P.getD_mem (by omega))
      have HST := Lib.hid (show P.findH (fun s => P.contains s t) 1 ls (j + 1) = if P.contains (ls.getD j []) t then some (1 + (j : Int)) else P.findH (fun s => P.contains s t) 1 ls j from rfl)
      have hj : j < ls.length := by omega
      clear hz hk0
      generalize ls.getD j [] = s at *
      cases hp : P.contains s t
      · have HP := Lib.hid hp
        go_wp2_with fail
        refine (Contains_clo s t g _ hg (by omega) HW.out).mono ?_
        rintro e w' ⟨rfl, rfl⟩
        rw [HP.out]
        go_wp2
        go_round
        case rel => exact ⟨j, _, by omega, rfl, rfl, by omega, by omega, by show _ = _; rw [← HN.out, HST.out, HP.out]; rfl⟩
        case measure => simp [intOf] <;> omega
      · have HP := Lib.hid hp
        go_wp2_with fail
        refine (Contains_clo s t g _ hg (by omega) HW.out).mono ?_
        rintro e w' ⟨rfl, rfl⟩
        rw [HP.out]
        go_wp2
        go_ret
        exact ⟨ret_int (by rw [← HN.out, HST.out, HP.out]; simp; omega), rfl⟩

theorem Contains_number (v : Value) (first : Int) (ls : List (List UInt8)) (t : List UInt8) (M g : Nat) (w : World) (hV : HV w v first ls) (hn : ls.length ≤ 128) (hf1 : 1 ≤ first) (hf2 : first ≤ 2147483519) (hs : ∀ s ∈ ls, s.length ≤ M) (hM : M ≤ 1000000000) (hg : w.cell? ⟨g, 0, none⟩ = some (.string ⟨t.toArray⟩)) (hgl : g < w.heap.size) (hw : Env w) :
    Calls Tryd.prog 31 #[v, .func (Fn.func 35) #[] #[.pointer (some ⟨g, 0, none⟩)]] w fun e w' => e = optNum (P.findH (fun s => P.contains s t) first ls ls.length) ∧ Below w.heap.size w w' := by
  obtain ⟨A, c, rfl, _, _, _, hS⟩ := hV
  unfold hv
  obtain ⟨w0, h0, c0, c1, hb0, hsz0⟩ := box2 w (.int .i64 first) (.slice A ls.length c) 24
  have hS0 := hS.below hb0
  have hg0 := (hb0.cell (p := ⟨g, 0, none⟩) hgl).trans hg
  have HL := Lib.hid (Contains_last A c ls t M g w0 hS0 hn hs hM hg0 (hw.below hb0))
  have H0 := Lib.hid h0
  clear h0 hs hw hg hg0
  have hsh := Lib.hid (P.findH_shift (fun s => P.contains s t) first ls ls.length)
  have hrg := P.findH_range (fun s => P.contains s t) ls ls.length
  cases hR : P.findH (fun s => P.contains s t) 1 ls ls.length with
  | none =>
    have HR := Lib.hid hR
    clear hR hrg
    go_enter Tryd.func31, Tryd.ntmps31
    go_wp2_with fail
    rw [← H0.out]
    refine HL.out.mono ?_
    rintro e w1 ⟨rfl, rfl⟩
    rw [HR.out]
    go_wp2
    go_ret2
    exact ⟨by rw [hsh.out, HR.out]; rfl, hb0⟩
  | some q =>
    have HR := Lib.hid hR
    have hq := hrg q hR
    clear hR hrg
    have hq1 : ¬ q - 1 < 0 := by omega
    go_enter Tryd.func31, Tryd.ntmps31
    go_wp2_with fail
    rw [← H0.out]
    refine HL.out.mono ?_
    rintro e w1 ⟨rfl, rfl⟩
    rw [HR.out, Option.getD_some]
    go_wp2
    go_ret2
    exact ⟨by rw [hsh.out, HR.out]; simp [optNum], hb0⟩

theorem Contains_any (v : Value) (first : Int) (ls : List (List UInt8)) (t : List UInt8) (M : Nat) (w : World) (hV : HV w v first ls) (hn : ls.length ≤ 128) (hf1 : 1 ≤ first) (hf2 : first ≤ 2147483519) (hs : ∀ s ∈ ls, s.length ≤ M) (hM : M ≤ 1000000000) (hw : Env w) :
    Calls Tryd.prog 22 #[v, .string ⟨t.toArray⟩] w fun e w' => e = optNum (P.findH (fun s => P.contains s t) first ls ls.length) ∧ Below w.heap.size w w' := by
  have hV0 := hV
  obtain ⟨A, c, rfl, _, _, _, hS⟩ := hV
  obtain ⟨w0, h0, hb0, hg, hgl⟩ : ∃ w0 : World, w0 = (w.alloc (.cells #[.int .i64 first, .slice A ls.length c] 24)).alloc (.cells #[.string ⟨t.toArray⟩] 9) ∧ Below w.heap.size w w0 ∧ w0.cell? ⟨w.heap.size + 1, 0, none⟩ = some (.string ⟨t.toArray⟩) ∧ w.heap.size + 1 < w0.heap.size :=
    ⟨_, rfl, ((Below.refl _ w).alloc (Nat.le_refl _) _).alloc (by simp) _, by simp, by simp⟩
  have HN := Lib.hid (Contains_number (hv first A ls.length c) first ls t M (w.heap.size + 1) w0 (hV0.below hb0) hn hf1 hf2 hs hM hg hgl (hw.below hb0))
  have H0 := Lib.hid h0
  clear h0 hs hw hV0 hg
  unfold hv at *
  obtain ⟨o, ho⟩ : ∃ o, P.findH (fun s => P.contains s t) first ls ls.length = o := ⟨_, rfl⟩
  rw [ho] at HN
  rw [ho]
  clear ho
  go_enter Tryd.func22, Tryd.ntmps22
  go_wp2_with fail
  rw [← H0.out]
  refine HN.out.mono ?_
  rintro e w1 ⟨rfl, hb1⟩
  unfold optNum
  go_wp2
  go_ret2
  exact ⟨rfl, btr hb0 hb1⟩
end W
end Go.Proofs.YtbiilbdflmiehaaDoor
