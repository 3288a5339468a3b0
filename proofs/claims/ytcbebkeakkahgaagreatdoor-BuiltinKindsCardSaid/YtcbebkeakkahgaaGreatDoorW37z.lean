/- Built-in commands: env.Copy at any parameters, the other lists being empty. -/
import Derived.Test.YtcbebkeakkahgaaGreatDoorW37n
import Derived.Test.YtcbebkeakkahgaaGreatDoorW37e
namespace Go.Proofs.YtcbebkeakkahgaaGreatDoor
open Go.RowKit K
namespace W
set_option maxRecDepth 100000
set_option maxHeartbeats 4000000 in
/-- The copy's parameters lie in memory that the call made. -/
theorem copy_fresh (PA : Option Addr) (pn pc : Nat) (ps : List (List UInt8)) (op : Int) (w : World) (hsv : SV w (.slice PA pn pc) ps) (hl : ps.length ≤ 1000) :
    Calls Tryz.prog 12 #[.agg #[.string ⟨#[]⟩, .slice none 0 0, .slice PA pn pc, .slice none 0 0, .slice none 0 0, .slice none 0 0, .int .i64 op, .int .i64 0, .int .i64 0, .int .i64 0, .string ⟨#[47]⟩, .int .i64 1, .int .i64 0, .int .i64 0, .bool false]] w fun e w' => ∃ A1 c1, e = .returned (.agg #[.string ⟨#[]⟩, .slice none 0 0, .slice A1 pn c1, .slice none 0 0, .slice none 0 0, .slice none 0 0, .int .i64 op, .int .i64 0, .int .i64 0, .int .i64 0, .string ⟨#[47]⟩, .int .i64 1, .int .i64 0, .int .i64 0, .bool false]) ∧ SV w' (.slice A1 pn c1) ps ∧ (∀ r, (Value.slice A1 pn c1).ownBlock = some r → w.heap.size + 2 ≤ r) ∧ Below w.heap.size w w' := by
  have hnil : ∀ (B : Nat), Late B (fun _ v => v = .slice none 0 0) := fun B V V' v _ _ h => h
  have hnl : ∀ (x y : World) (e : Ending), e = .returned (.slice none 0 0) ∧ y = x → LOut (fun _ v => v = .slice none 0 0) x e y := fun x y e h => ⟨none, 0, 0, h.1, rfl, by rw [h.2]; exact Below.refl _ _⟩
  refine (Copy_gen [] [47] op 0 0 0 1 0 0 false (fun _ v => v = .slice none 0 0) (fun V v => SV V v ps ∧ (∃ A c, v = .slice A pn c) ∧ ∀ r, v.ownBlock = some r → w.heap.size + 2 ≤ r) (fun _ v => v = .slice none 0 0) (fun _ v => v = .slice none 0 0) (fun _ v => v = .slice none 0 0) w (hnil _) ?_ (hnil _) (hnil _) (hnil _) ?_ ?_ ?_ ?_ ?_).mono ?_
  · rintro V V' v hs hk ⟨h1, h2, h3⟩
    exact ⟨h1.late h3 hs hk, h2, h3⟩
  · intro V _ _
    exact (lnil_vars none 0 V).mono fun e y h => hnl V y e h
  · intro V hV hs
    obtain ⟨A', c', w', h1, h2, h3, h4⟩ := list_det PA pn pc ps V (hsv.below hV) hl
    exact h1.mono fun e y ⟨he, hy⟩ => ⟨A', pn, c', he, by rw [hy]; exact ⟨h2, ⟨A', c', rfl⟩, fun r hr => Nat.le_trans hs (h4 r hr)⟩, by rw [hy]; exact h3⟩
  · intro V _ _
    exact (lnil_als none 0 V).mono fun e y h => hnl V y e h
  · intro V _ _
    exact (lnil_traps none 0 V).mono fun e y h => hnl V y e h
  · intro V _ _
    exact (each_nil _ V).mono fun e y h => hnl V y e h
  · rintro e w' ⟨B1, B2, B3, B4, B5, m1, m2, m3, m4, m5, d1, d2, d3, d4, d5, rfl, ⟨r1, ⟨r2, ⟨A2, c2, r2e⟩, rf⟩, r3, r4, r5⟩, hb⟩
    injection r1 with a1 a2 a3
    injection r2e with b1 b2 b3
    injection r3 with c1 c2 c3
    injection r4 with d1 d2 d3
    injection r5 with e1 e2 e3
    subst a1 a2 a3 b1 b2 b3 c1 c2 c3 d1 d2 d3 e1 e2 e3
    exact ⟨B2, d2, rfl, r2, rf, hb⟩
theorem copyAt_any (PA : Option Addr) (pn pc : Nat) (ps : List (List UInt8)) : CopyAt PA pn pc ps := fun op w hsv hl =>
  (copy_fresh PA pn pc ps op w hsv hl).mono fun _ _ ⟨A1, c1, he, h1, _, h2⟩ => ⟨A1, c1, he, h1, h2⟩
end W
end Go.Proofs.YtcbebkeakkahgaaGreatDoor
