/- Built-in commands: set -eu -- q. -/
import Derived.Test.YtcbebkeakkahgaaGreatDoorW38d
namespace Go.Proofs.YtcbebkeakkahgaaGreatDoor
open Go.RowKit K
namespace W
set_option maxRecDepth 100000
section
variable {W : World} {g : Nat} {out er : List UInt8} {st act n : Int} {tx : List UInt8} {ra bp fl : Value} {nm : List UInt8} {PA : Option Addr} {pn pc : Nat} {ps : List (List UInt8)} {b off gc : Nat}
theorem sv_one {V : World} {s : List UInt8} {o c : Nat} (hb : b < V.heap.size) (hc : 1 ≤ c) (h : V.cell? ⟨b, o, none⟩ = some (.string ⟨s.toArray⟩)) : SV V (.slice (some ⟨b, o, none⟩) 1 c) [s] := by
  refine ⟨_, c, rfl, hc, .inr ⟨b, o, rfl, hb, ?_⟩⟩
  intro i x hi j u hu
  match i, hi with
  | 0, hi =>
    injection hi with hi
    subst hi
    match j, hu with
    | 0, hu => injection hu with hu; subst hu; simpa using h
set_option maxHeartbeats 4000000 in
theorem settings_eu (h : CB W g (.slice none 0 0) (.slice PA pn pc) 0 out er st act n tx ra bp fl nm (.slice (some ⟨b, off, none⟩) 3 gc)) (hp : SV W (.slice PA pn pc) ps) (hpl : ps.length ≤ 1000)
    (h0 : W.cell? ⟨b, off, none⟩ = some (.string ⟨#[45, 101, 117]⟩)) (h1 : W.cell? ⟨b, off + 1, none⟩ = some (.string ⟨#[45, 45]⟩)) (h2 : W.cell? ⟨b, off + 1 + 1, none⟩ = some (.string ⟨#[113]⟩)) (hbg : b ≠ g) (hgc : 3 ≤ gc) :
    Calls Tryz.prog 32 #[.pointer (some ⟨g, 0, none⟩)] W fun e w' => e = .returned (.tuple #[]) ∧ (∃ A1 c1, CB w' g (.slice none 0 0) (.slice A1 1 c1) 3 out er st act n tx ra bp fl nm (.slice (some ⟨b, off, none⟩) 3 gc)) ∧ OneBox g W w' := by
  have e39 : W.cell? ⟨g, 39, none⟩ = some (.slice (some ⟨b, off, none⟩) 3 gc) := Lib.cell_of_heap h 39
  have hg := h.lt
  have hbl := lt_cell h0
  have HE := Lib.hid (enable_eu h hp hpl (some ⟨b, off + 1, none⟩) 2 (gc - 1))
  have H1 := Lib.hid h1
  have H2 := Lib.hid h2
  have q1 : ¬ gc = 1 := by omega
  have q2 : ¬ gc - 1 = 1 := by omega
  have q3 : (1 : Nat) ≤ 3 := by omega
  clear h hp h1 h2
  go_enter Tryz.func32, Tryz.ntmps32
  go_wp2
  go_loopw [4, 5, 6] (fun r _ _ wr => (r = .slice (some ⟨b, off, none⟩) 3 gc ∧ wr = W) ∨ (r = .slice (some ⟨b, off + 1, none⟩) 2 (gc - 1) ∧ ∃ A c, Hid (CB wr g (.slice none 0 0) (.slice A pn c) 3 out er st act n tx ra bp fl nm (.slice (some ⟨b, off, none⟩) 3 gc)) ∧ Hid (OneBox g W wr))) (fun r _ _ _ => match r with | .slice _ k _ => k | _ => 0)
  case atStart => exact .inl ⟨rfl, rfl⟩
  case round =>
    rcases hrel with ⟨rfl, rfl⟩ | ⟨rfl, A, c, HC, HO⟩
    · go_wp2_with (fail)
      refine HE.out.mono ?_
      rintro e Y ⟨rfl, ⟨A1, c1, hc, _⟩, ho⟩
      have HCY := Lib.hid hc
      have HOY := Lib.hid ho
      clear hc ho
      go_wp2
      go_roundw
      case rel => exact .inr ⟨rfl, A1, c1, HCY, HOY⟩
      case measure => simp
    · have hgw := HC.out.lt
      have s1 : wr.cell? ⟨b, off + 1, none⟩ = some (.string ⟨#[45, 45]⟩) := by
        rw [← H1.out]; unfold World.cell?; dsimp only; rw [HO.out.2.1 b hbl hbg]
      have s2 : wr.cell? ⟨b, off + 1 + 1, none⟩ = some (.string ⟨#[113]⟩) := by
        rw [← H2.out]; unfold World.cell?; dsimp only; rw [HO.out.2.1 b hbl hbg]
      have hbw : b < wr.heap.size := Nat.lt_of_lt_of_le hbl HO.out.1
      obtain ⟨i0, hi, hz0, hz1, hz2⟩ := info_parts infoStr
      obtain ⟨v', w', hrun, hor, hbl'⟩ := clone_own es_len es_ones (P := Tryz.prog) (ST := 26) Tryz.underlying26 hi hz0 hz1 hz2 (by rfl) (by decide) (by decide) (sv_one (c := gc - 1 - 1) hbw (by omega) s2) (by simp)
      obtain ⟨A', c', rfl⟩ := hor.val
      have HR := Lib.hid hrun
      have hcy := HC.out.below hbl'
      have e2 : w'.cell? ⟨g, 2, none⟩ = some (.slice A pn c) := Lib.cell_of_heap hcy 2
      have f2 : w'.frozen? ⟨g, 2, none⟩ = false := Lib.frozen_of_heap hcy 2
      have hgy := hcy.lt
      have HCS := Lib.hid (hcy.set_pv (.slice A' 1 c'))
      have HOS := Lib.hid ((HO.out.trans (OneBox.of hgw hbl')).trans ((OneBox.refl g w').set 2 (.slice A' 1 c')))
      clear hrun hor hbl' hcy hi hz0 hz1 hz2
      go_wp2_with (at_builtin; refine append_eqT rfl _ _ 26 rfl _ _ _ rfl rfl HR.out ?_)
      first | go_end0 | refine bodyPost_ret (results_none rfl _ _ _) rfl ?_
      exact ⟨rfl, ⟨A', c', HCS.out⟩, HOS.out⟩
end
end W
end Go.Proofs.YtcbebkeakkahgaaGreatDoor
