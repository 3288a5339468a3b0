/- Chapter 9: reach. -/
import Derived.Test.YtelhobphphkidaaGreatDoorW09o
import Derived.Deep.RegionHeld3
namespace Go.Proofs.YtelhobphphkidaaGreatDoor
open Go.RowKit K
namespace W
/-- What reach leaves. -/
def ReachOut (L : List Int) (pos : Int) (base g : Nat) (s : List UInt8) (at_ : Int) (va vm vb vl : Value) (c h st : Bool) (w : World) (e : Ending) (w' : World) : Prop :=
  ∃ vb', e = .returned (.tuple #[]) ∧ w'.ownsRow base 3 1 vb' (flt pos L).length (ivs (flt pos L)) ∧ vb'.ownBlock = vb.ownBlock ∧ EB w' g s at_ va vm vb' (c || hit pos L) h st vl ∧ w.heap.size ≤ w'.heap.size ∧ (∀ q, q < w.heap.size → q ≠ g → vb.ownBlock ≠ some q → w'.heap[q]? = w.heap[q]?) ∧ Below base w w'
theorem EB.new {W W' : World} {g : Nat} {s : List UInt8} {at_ : Int} {va vm vb vl : Value} {c h st : Bool} (e : EB W g s at_ va vm vb c h st vl) (hb : Below W.heap.size W W') : EB W' g s at_ va vm vb c h st vl := e.kept (hb.block _ e.lt)
set_option maxRecDepth 100000 in
set_option maxHeartbeats 4000000 in
theorem reach_any (L : List Int) (pos : Int) (base g : Nat) (s : List UInt8) (at_ : Int) (va vm vb vl : Value) (c h st : Bool) (w : World) (hown : w.ownsRow base 3 1 vb L.length (ivs L)) (he : EB w g s at_ va vm vb c h st vl) (hbg : base ≤ g) (hl : L.length ≤ 100000) :
    Calls Tryz.prog 33 #[.pointer (some ⟨g, 0, none⟩), .int .i64 pos] w (ReachOut L pos base g s at_ va vm vb vl c h st w) := by
  have hgs := he.lt
  have hbs : base ≤ w.heap.size := by omega
  have hvs : ∀ k, vb.ownBlock = some k → k < w.heap.size := fun k hk => (hown.lt k hk).2
  have HC := Lib.hid (fun (V : World) (hb : Below w.heap.size w V) (x0 : V.cell? ⟨w.heap.size, 0, none⟩ = some (.pointer (some ⟨g, 0, none⟩))) (c0 : V.cell? ⟨w.heap.size + 1, 0, none⟩ = some (.int .i64 pos)) =>
    DeleteFunc_any L pos (w.heap.size + 1) w.heap.size base g s at_ va vm vb vl c h st vb V (own_same hown fun k hk => hb.block k (hvs k hk)) (he.new hb) hbg c0 x0 (by omega) (by omega) (fun hk => by have := hvs _ hk; omega) (fun hk => by have := hvs _ hk; omega) hl)
  have HF := Lib.hid (fun (V : World) (hb : Below w.heap.size w V) (e : Ending) (V1 : World) (hd : DelOut L pos base g s at_ va vm vb vl c h st vb V e V1) => (show ∃ A n k, e = .returned (.slice A n k) ∧ V1.cell? ⟨w.heap.size, 0, none⟩ = V.cell? ⟨w.heap.size, 0, none⟩ ∧ V1.cell? ⟨g, 4, none⟩ = some vb ∧ V1.frozen? ⟨g, 4, none⟩ = false ∧ ReachOut L pos base g s at_ va vm vb vl c h st w (.returned (.tuple #[])) (V1.setCell ⟨g, 4, none⟩ (.slice A n k)) from by
    obtain ⟨v', a1, a2, a3, a4, a5, a6, a7⟩ := hd
    obtain ⟨A, n, k, rfl⟩ : ∃ A n k, v' = .slice A n k := by
      rcases a2.2 with ⟨rfl, _⟩ | ⟨q, cap, cur, rfl, _⟩
      · exact ⟨_, _, _, rfl⟩
      · exact ⟨_, _, _, rfl⟩
    refine ⟨A, n, k, a1, World.cell?_of_block (a6 w.heap.size (by omega) (fun hk => by have := hvs _ hk; omega)), a4.cells.2.2.2.2.1, a4.thaw 4, _, rfl, ?_, a3, a4.set4 _, ?_, fun q h1 h2 h3 => ?_, ?_⟩
    · refine own_same a2 fun k hk => Below.heap_setCell _ _ _ _ ?_
      dsimp only
      rintro rfl
      rcases a2.2 with ⟨e1, _⟩ | ⟨q, cap, cur, e1, _, hq, _⟩
      · injection e1 with e1
        rw [e1] at hk
        simp [Value.ownBlock] at hk
      · injection e1 with e1
        rw [e1] at hk
        simp [Value.ownBlock] at hk
        rw [hk, a4] at hq
        simp at hq
    · have := hb.size; simp; omega
    · rw [Below.heap_setCell _ _ _ _ (by dsimp only; exact h2), a6 q h2 h3]
      exact hb.block q h1
    · exact ((hb.mono hbs).trans a7).setCell (p := ⟨g, 4, none⟩) hbg _))
  obtain ⟨k0, k1, k2, k3, k4, -⟩ := he.cells
  have f4 := he.thaw 4
  have HG := Lib.hid hgs
  have hgn : g ≠ w.heap.size := by omega
  have hgn2 : g ≠ w.heap.size + 1 := by omega
  clear hown he hbg hl hbs hvs k0 k1 k2 k3
  go_enter Tryz.func33, Tryz.ntmps33
  go_wp2_with fail
  obtain ⟨V, hV⟩ : ∃ V, V = (w.alloc (.cells #[.pointer (some ⟨g, 0, none⟩)] 55)).alloc (.cells #[.int .i64 pos] 3) := ⟨_, rfl⟩
  rw [← hV]
  have hb : Below w.heap.size w V.drew := by rw [hV]; exact (Below.alloc (balloc w _) (by simp) _).drew
  have x0 : V.cell? ⟨w.heap.size, 0, none⟩ = some (.pointer (some ⟨g, 0, none⟩)) := by
    rw [hV]
    exact Lib.cell_of_heap ((Below.heap_alloc _ _ _ (by simp)).trans (al_new w _)) 0
  have c0 : V.cell? ⟨w.heap.size + 1, 0, none⟩ = some (.int .i64 pos) := by
    rw [hV]
    have := al_new (w.alloc (.cells #[.pointer (some ⟨g, 0, none⟩)] 55)) (.cells #[.int .i64 pos] 3)
    rw [World.size_alloc] at this
    exact Lib.cell_of_heap this 0
  have v4 : V.cell? ⟨g, 4, none⟩ = some vb := (hb.cell (p := ⟨g, 4, none⟩) HG.out).trans k4
  have HD := Lib.hid (HC.out V.drew hb x0 c0)
  have HE := Lib.hid (HF.out V.drew hb)
  have HX := Lib.hid x0
  unfold fnR at HD
  clear hV hb c0 k4 f4 HC HF hgn hgn2
  go_region_with ((go_at_call 53; refine HD.out.mono ?_; rintro e V1 hd; obtain ⟨A, n, k, rfl, b1, b2, b3, b4⟩ := HE.out _ _ hd; replace b1 := b1.trans HX.out))
  all_goals (have HO := Lib.hid b4; clear b4)
  all_goals ((first | go_end0 | refine bodyPost_ret (results_none rfl _ _ _) rfl ?_); exact HO.out)
end W
end Go.Proofs.YtelhobphphkidaaGreatDoor
