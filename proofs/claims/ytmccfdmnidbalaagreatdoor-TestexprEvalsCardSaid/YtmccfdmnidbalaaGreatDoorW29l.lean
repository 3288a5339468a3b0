/- Chapter 29: and, or of the parser. -/
import Derived.Test.YtmccfdmnidbalaaGreatDoorW29k
namespace Go.Proofs.YtmccfdmnidbalaaGreatDoor
open Go.RowKit K
namespace P
theorem notP_sub (F : Str → Option (Bool × Str)) : ∀ f, (∀ neg r, ∀ s ∈ (notP F f neg r).rest, s ∈ r) ∧ (∀ r, ∀ s ∈ (andP F f r).rest, s ∈ r) ∧ (∀ q, ∀ s ∈ (andL F f q).rest, s ∈ q.rest) ∧ (∀ r, ∀ s ∈ (orP F f r).rest, s ∈ r) ∧ (∀ q, ∀ s ∈ (orL F f q).rest, s ∈ q.rest) := by
  intro f
  induction f with
  | zero =>
    refine ⟨fun neg r s => ?_, fun r s => ?_, fun q s => ?_, fun r s => ?_, fun q s => ?_⟩
    · rw [notP]; exact id
    · rw [andP]; exact id
    · rw [andL]; exact id
    · rw [orP]; exact id
    · rw [orL]; exact id
  | succ f ih =>
    obtain ⟨h1, h2, h3, h4, h5⟩ := ih
    refine ⟨fun neg r s hs => ?_, fun r s hs => ?_, fun q s hs => ?_, fun r s hs => ?_, fun q s hs => ?_⟩
    · cases r with
      | nil => rw [notP] at hs; exact hs
      | cons a r =>
        rw [notP] at hs
        split at hs
        · exact List.mem_cons_of_mem _ (List.mem_of_mem_drop hs)
        · split at hs
          · exact List.mem_cons_of_mem _ (h1 _ _ s hs)
          · split at hs
            · simp only at hs
              split at hs
              · exact List.mem_cons_of_mem _ (h4 _ s (List.mem_of_mem_drop hs))
              · exact List.mem_cons_of_mem _ (h4 _ s hs)
            · split at hs
              · exact List.mem_cons_of_mem _ (List.mem_of_mem_drop hs)
              · exact List.mem_cons_of_mem _ hs
    · rw [andP] at hs
      exact h1 _ _ s (h3 _ s hs)
    · rw [andL] at hs
      split at hs
      · simp only at hs
        have hx := h3 _ s hs
        exact List.mem_of_mem_drop (h1 false (q.rest.drop 1) s hx)
      · exact hs
    · rw [orP] at hs
      exact h2 _ s (h5 _ s hs)
    · rw [orL] at hs
      split at hs
      · simp only at hs
        have hx := h5 _ s hs
        exact List.mem_of_mem_drop (h2 (q.rest.drop 1) s hx)
      · exact hs
end P
namespace W
/-- What not, and, or leave. -/
def NPost (w0 : World) (f : Value) (c : List UInt8) (q : P.PR) (u i : Bool) (e : Ending) (w' : World) : Prop :=
  e = .returned (.bool q.v) ∧ Below w0.heap.size w0 w' ∧ ∃ r', PB w' w0.heap.size r' f c (u || q.u) (i || q.i) ∧ RV w0 r' q.rest
def NotC (w0 : World) (f : Value) (c : List UInt8) (fs : List Fi) (fu : Nat) : Prop := ∀ (rest : List (List UInt8)) (w : World) (r : Value) (u i : Bool), (∀ s ∈ rest, SOK s) → 4 * rest.length + 1 ≤ fu → RV w0 r rest → Below w0.heap.size w0 w → PB w w0.heap.size r f c u i →
  Calls Tryz.prog 54 #[.pointer (some ⟨w0.heap.size, 0, none⟩)] w (NPost w0 f c (P.notP (P.lookF fs c) fu false rest) u i)
def AndC (w0 : World) (f : Value) (c : List UInt8) (fs : List Fi) (fu : Nat) : Prop := ∀ (rest : List (List UInt8)) (w : World) (r : Value) (u i : Bool), (∀ s ∈ rest, SOK s) → 4 * rest.length + 2 ≤ fu → RV w0 r rest → Below w0.heap.size w0 w → PB w w0.heap.size r f c u i →
  Calls Tryz.prog 44 #[.pointer (some ⟨w0.heap.size, 0, none⟩)] w (NPost w0 f c (P.andP (P.lookF fs c) fu rest) u i)
def OrC (w0 : World) (f : Value) (c : List UInt8) (fs : List Fi) (fu : Nat) : Prop := ∀ (rest : List (List UInt8)) (w : World) (r : Value) (u i : Bool), (∀ s ∈ rest, SOK s) → 4 * rest.length + 3 ≤ fu → RV w0 r rest → Below w0.heap.size w0 w → PB w w0.heap.size r f c u i →
  Calls Tryz.prog 32 #[.pointer (some ⟨w0.heap.size, 0, none⟩)] w (NPost w0 f c (P.orP (P.lookF fs c) fu rest) u i)
/-- How many arguments are left in the box g. -/
def restLen (w : World) (g : Nat) : Nat := match w.cell? ⟨g, 0, none⟩ with
  | some (.slice _ n _) => n
  | _ => 0
theorem restLen_of {w : World} {g : Nat} {r f : Value} {c : List UInt8} {u i : Bool} {w0 : World} {rest : List (List UInt8)} (hp : PB w g r f c u i) (hr : RV w0 r rest) : restLen w g = rest.length := by
  obtain ⟨A, cap, rfl, _⟩ := hr
  unfold restLen
  rw [hp.cells.1]
set_option maxHeartbeats 1000000 in
theorem or_of (w0 : World) (f : Value) (c : List UInt8) (fs : List Fi) (fu : Nat) (HA : ∀ m, m < fu → AndC w0 f c fs m) : OrC w0 f c fs fu := by
  intro rest w r u i hs hf hr hb0 hp
  obtain ⟨g, rfl⟩ : ∃ g, fu = g + 1 := ⟨fu - 1, by omega⟩
  have H1 := Lib.hid (HA g (by omega) rest w r u i hs (by omega) hr hb0 hp)
  have HAL := Lib.hid HA
  have HQ0 := Lib.hid (show P.orP (P.lookF fs c) (g + 1) rest = P.orL (P.lookF fs c) g (P.andP (P.lookF fs c) g rest) by rw [P.orP])
  generalize P.orP (P.lookF fs c) (g + 1) rest = Q at HQ0 ⊢
  have hq0l := (P.notP_len (P.lookF fs c) g).2.1 rest
  have HSUB0 := Lib.hid (show ∀ s ∈ (P.andP (P.lookF fs c) g rest).rest, SOK s from fun s hs' => hs s ((P.notP_sub (P.lookF fs c) g).2.1 rest s hs'))
  generalize P.andP (P.lookF fs c) g rest = q0 at *
  have HF0 := Lib.hid (show 4 * q0.rest.length + 1 ≤ g by omega)
  clear hs hf hr hb0 hp HA hq0l
  unfold NPost at H1
  go_enter Tryz.func32, Tryz.ntmps32
  go_wp2_with fail
  refine H1.out.mono ?_
  rintro e w1 ⟨rfl, hb1, r1, hp1, hr1⟩
  have HB1 := Lib.hid hb1
  have HP1 := Lib.hid hp1
  have HR1 := Lib.hid hr1
  obtain ⟨y, hy⟩ : ∃ y, y = w1 := ⟨_, rfl⟩
  rw [← hy] at HB1 HP1
  clear hb1 hp1 hr1 H1
  go_wp2
  rw [← hy]
  clear hy
  go_loopw [3] (fun v wr => ∃ (g' : Nat) (q : P.PR) (r' : Value), v = .bool q.v ∧ Below w0.heap.size w0 wr ∧ PB wr w0.heap.size r' f c (u || q.u) (i || q.i) ∧ RV w0 r' q.rest ∧ Hid (∀ s ∈ q.rest, SOK s) ∧ Hid (4 * q.rest.length + 1 ≤ g') ∧ Hid (g' ≤ g) ∧ Hid (Q = P.orL (P.lookF fs c) g' q)) (fun _ wr => restLen wr w0.heap.size)
  case atStart => exact ⟨g, q0, r1, rfl, HB1.out, HP1.out, HR1.out, HSUB0, HF0, Nat.le_refl _, HQ0.out⟩
  case round =>
    obtain ⟨g', q, r', rfl, hbw, hpw, hrw, HS, HF, HG, HQ⟩ := hrel
    have HNX := Lib.hid (next_of wr r' q.rest [45, 111] (u || q.u) (i || q.i) hrw hbw hpw)
    have HBw := Lib.hid hbw
    have HPw := Lib.hid hpw
    have HRw := Lib.hid hrw
    have HRL := Lib.hid (restLen_of hpw hrw)
    clear hbw hpw hrw
    go_wp2_with fail
    refine HNX.out.mono ?_
    rintro e w2 (⟨hh, rfl, hb2, r2, hp2, hr2⟩ | ⟨hh, rfl, hb2, hp2⟩)
    · obtain ⟨g2, rfl⟩ : ∃ g2, g' = g2 + 1 := ⟨g' - 1, by have := HF.out; omega⟩
      have hne : q.rest ≠ [] := by intro e; rw [e] at hh; simp at hh
      have hlp : 0 < q.rest.length := List.length_pos_iff.2 hne
      have HST := Lib.hid (show Q = P.orL (P.lookF fs c) g2 ⟨q.v || (P.andP (P.lookF fs c) g2 (q.rest.drop 1)).v, (P.andP (P.lookF fs c) g2 (q.rest.drop 1)).rest, q.u || (P.andP (P.lookF fs c) g2 (q.rest.drop 1)).u, q.i || (P.andP (P.lookF fs c) g2 (q.rest.drop 1)).i⟩ by rw [HQ.out, P.orL, if_pos hh])
      have HCA := Lib.hid (HAL.out g2 (by have := HG.out; omega) (q.rest.drop 1) w2 r2 (u || q.u) (i || q.i) (fun s hs => HS.out s (List.mem_of_mem_drop hs)) (by have := HF.out; rw [List.length_drop]; omega) hr2 hb2 hp2)
      have hpl := (P.notP_len (P.lookF fs c) g2).2.1 (q.rest.drop 1)
      have HSUB := Lib.hid (show ∀ s ∈ (P.andP (P.lookF fs c) g2 (q.rest.drop 1)).rest, SOK s from fun s hs' => HS.out s (List.mem_of_mem_drop ((P.notP_sub (P.lookF fs c) g2).2.1 _ s hs')))
      generalize P.andP (P.lookF fs c) g2 (q.rest.drop 1) = p at *
      rw [List.length_drop] at hpl
      have HPL := Lib.hid hpl
      have HLP := Lib.hid hlp
      clear hh hb2 hp2 hr2 hne hlp hpl
      unfold NPost at HCA
      go_wp2_with fail
      refine HCA.out.mono ?_
      rintro e w3 ⟨rfl, hb3, r3, hp3, hr3⟩
      have HB3 := Lib.hid hb3
      have HP3 := Lib.hid hp3
      have HR3 := Lib.hid hr3
      have HRL3 := Lib.hid (restLen_of hp3 hr3)
      clear hb3 hp3 hr3
      cases hqv : q.v
      all_goals
        rw [hqv] at HST
        go_wp2
        go_roundw
        case rel => exact ⟨g2, ⟨_, p.rest, q.u || p.u, q.i || p.i⟩, r3, rfl, HB3.out, by have := HP3.out; rw [Bool.or_assoc, Bool.or_assoc] at this; exact this, HR3.out, HSUB, by show _ ≤ _; have h1 := HF.out; have h2 := HPL.out; have h3 := HLP.out; simp only; omega, by show _ ≤ _; have := HG.out; omega, by rw [HST.out]; rfl⟩
        case measure => rw [HRL3.out, HRL.out]; have h2 := HPL.out; have h3 := HLP.out; omega
    · have HF2 := Lib.hid (show Q = q by
        obtain ⟨g2, rfl⟩ : ∃ g2, g' = g2 + 1 := ⟨g' - 1, by have := HF.out; omega⟩
        rw [HQ.out, P.orL, if_neg hh])
      have HB2 := Lib.hid hb2
      have HP2 := Lib.hid hp2
      clear hh hb2 hp2
      go_wp2
      go_ret
      exact ⟨by rw [HF2.out]; rfl, HB2.out, r', by rw [HF2.out]; exact HP2.out, by rw [HF2.out]; exact HRw.out⟩
set_option maxHeartbeats 1000000 in
theorem and_of (w0 : World) (f : Value) (c : List UInt8) (fs : List Fi) (fu : Nat) (HA : ∀ m, m < fu → NotC w0 f c fs m) : AndC w0 f c fs fu := by
  intro rest w r u i hs hf hr hb0 hp
  obtain ⟨g, rfl⟩ : ∃ g, fu = g + 1 := ⟨fu - 1, by omega⟩
  have H1 := Lib.hid (HA g (by omega) rest w r u i hs (by omega) hr hb0 hp)
  have HAL := Lib.hid HA
  have HQ0 := Lib.hid (show P.andP (P.lookF fs c) (g + 1) rest = P.andL (P.lookF fs c) g (P.notP (P.lookF fs c) g false rest) by rw [P.andP])
  generalize P.andP (P.lookF fs c) (g + 1) rest = Q at HQ0 ⊢
  have hq0l := (P.notP_len (P.lookF fs c) g).1 false rest
  have HSUB0 := Lib.hid (show ∀ s ∈ (P.notP (P.lookF fs c) g false rest).rest, SOK s from fun s hs' => hs s ((P.notP_sub (P.lookF fs c) g).1 false rest s hs'))
  generalize P.notP (P.lookF fs c) g false rest = q0 at *
  have HF0 := Lib.hid (show 4 * q0.rest.length + 1 ≤ g by omega)
  clear hs hf hr hb0 hp HA hq0l
  unfold NPost at H1
  go_enter Tryz.func44, Tryz.ntmps44
  go_wp2_with fail
  refine H1.out.mono ?_
  rintro e w1 ⟨rfl, hb1, r1, hp1, hr1⟩
  have HB1 := Lib.hid hb1
  have HP1 := Lib.hid hp1
  have HR1 := Lib.hid hr1
  obtain ⟨y, hy⟩ : ∃ y, y = w1 := ⟨_, rfl⟩
  rw [← hy] at HB1 HP1
  clear hb1 hp1 hr1 H1
  go_wp2
  rw [← hy]
  clear hy
  go_loopw [3] (fun v wr => ∃ (g' : Nat) (q : P.PR) (r' : Value), v = .bool q.v ∧ Below w0.heap.size w0 wr ∧ PB wr w0.heap.size r' f c (u || q.u) (i || q.i) ∧ RV w0 r' q.rest ∧ Hid (∀ s ∈ q.rest, SOK s) ∧ Hid (4 * q.rest.length + 1 ≤ g') ∧ Hid (g' ≤ g) ∧ Hid (Q = P.andL (P.lookF fs c) g' q)) (fun _ wr => restLen wr w0.heap.size)
  case atStart => exact ⟨g, q0, r1, rfl, HB1.out, HP1.out, HR1.out, HSUB0, HF0, Nat.le_refl _, HQ0.out⟩
  case round =>
    obtain ⟨g', q, r', rfl, hbw, hpw, hrw, HS, HF, HG, HQ⟩ := hrel
    have HNX := Lib.hid (next_of wr r' q.rest [45, 97] (u || q.u) (i || q.i) hrw hbw hpw)
    have HBw := Lib.hid hbw
    have HPw := Lib.hid hpw
    have HRw := Lib.hid hrw
    have HRL := Lib.hid (restLen_of hpw hrw)
    clear hbw hpw hrw
    go_wp2_with fail
    refine HNX.out.mono ?_
    rintro e w2 (⟨hh, rfl, hb2, r2, hp2, hr2⟩ | ⟨hh, rfl, hb2, hp2⟩)
    · obtain ⟨g2, rfl⟩ : ∃ g2, g' = g2 + 1 := ⟨g' - 1, by have := HF.out; omega⟩
      have hne : q.rest ≠ [] := by intro e; rw [e] at hh; simp at hh
      have hlp : 0 < q.rest.length := List.length_pos_iff.2 hne
      have HST := Lib.hid (show Q = P.andL (P.lookF fs c) g2 ⟨q.v && (P.notP (P.lookF fs c) g2 false (q.rest.drop 1)).v, (P.notP (P.lookF fs c) g2 false (q.rest.drop 1)).rest, q.u || (P.notP (P.lookF fs c) g2 false (q.rest.drop 1)).u, q.i || (P.notP (P.lookF fs c) g2 false (q.rest.drop 1)).i⟩ by rw [HQ.out, P.andL, if_pos hh])
      have HCA := Lib.hid (HAL.out g2 (by have := HG.out; omega) (q.rest.drop 1) w2 r2 (u || q.u) (i || q.i) (fun s hs => HS.out s (List.mem_of_mem_drop hs)) (by have := HF.out; rw [List.length_drop]; omega) hr2 hb2 hp2)
      have hpl := (P.notP_len (P.lookF fs c) g2).1 false (q.rest.drop 1)
      have HSUB := Lib.hid (show ∀ s ∈ (P.notP (P.lookF fs c) g2 false (q.rest.drop 1)).rest, SOK s from fun s hs' => HS.out s (List.mem_of_mem_drop ((P.notP_sub (P.lookF fs c) g2).1 false _ s hs')))
      generalize P.notP (P.lookF fs c) g2 false (q.rest.drop 1) = p at *
      rw [List.length_drop] at hpl
      have HPL := Lib.hid hpl
      have HLP := Lib.hid hlp
      clear hh hb2 hp2 hr2 hne hlp hpl
      unfold NPost at HCA
      go_wp2_with fail
      refine HCA.out.mono ?_
      rintro e w3 ⟨rfl, hb3, r3, hp3, hr3⟩
      have HB3 := Lib.hid hb3
      have HP3 := Lib.hid hp3
      have HR3 := Lib.hid hr3
      have HRL3 := Lib.hid (restLen_of hp3 hr3)
      clear hb3 hp3 hr3
      cases hqv : q.v
      all_goals
        rw [hqv] at HST
        go_wp2
        go_roundw
        case rel => exact ⟨g2, ⟨_, p.rest, q.u || p.u, q.i || p.i⟩, r3, rfl, HB3.out, by have := HP3.out; rw [Bool.or_assoc, Bool.or_assoc] at this; exact this, HR3.out, HSUB, by show _ ≤ _; have h1 := HF.out; have h2 := HPL.out; have h3 := HLP.out; simp only; omega, by show _ ≤ _; have := HG.out; omega, by rw [HST.out]; rfl⟩
        case measure => rw [HRL3.out, HRL.out]; have h2 := HPL.out; have h3 := HLP.out; omega
    · have HF2 := Lib.hid (show Q = q by
        obtain ⟨g2, rfl⟩ : ∃ g2, g' = g2 + 1 := ⟨g' - 1, by have := HF.out; omega⟩
        rw [HQ.out, P.andL, if_neg hh])
      have HB2 := Lib.hid hb2
      have HP2 := Lib.hid hp2
      clear hh hb2 hp2
      go_wp2
      go_ret
      exact ⟨by rw [HF2.out]; rfl, HB2.out, r', by rw [HF2.out]; exact HP2.out, by rw [HF2.out]; exact HRw.out⟩
end W
end Go.Proofs.YtmccfdmnidbalaaGreatDoor
