/- Built-in commands: Run at five lists of words; printed by gen38r.py. -/
import Derived.Test.YtcbebkeakkahgaaGreatDoorW38a
import Derived.Test.YtcbebkeakkahgaaGreatDoorW38b
import Derived.Test.YtcbebkeakkahgaaGreatDoorW38e
import Derived.Test.YtcbebkeakkahgaaGreatDoorW38h
import Derived.Test.YtcbebkeakkahgaaGreatDoorW37v
namespace Go.Proofs.YtcbebkeakkahgaaGreatDoor
open Go.RowKit K
namespace W
set_option maxRecDepth 100000
theorem take22 (cs : Array Value) (i : Nat) (hi : i < 22) : ((cs.toList.take 22).toArray)[i]? = cs[i]? := by
  rw [List.getElem?_toArray, List.getElem?_take_of_lt hi]
  simp
theorem ones22 {cs : Array Value} (h : cs.size = 40) (ha : cs.all (·.oneCell') = true) : ((cs.toList.take 22).toArray).size = 22 ∧ ((cs.toList.take 22).toArray).all (·.oneCell') = true := by
  refine ⟨by simp; omega, ?_⟩
  simp only [List.all_toArray, List.all_eq_true]
  intro x hx
  exact (Array.all_eq_true_iff_forall_mem.1 ha) x (by have := List.mem_of_mem_take hx; simpa using this)
/-- The box's array: its cells by their numbers. -/
theorem CB.arr {W : World} {g : Nat} {vv pv : Value} {op : Int} {out er : List UInt8} {st act n : Int} {tx : List UInt8} {ra bp fl : Value} {nm : List UInt8} {ag : Value} (h : CB W g vv pv op out er st act n tx ra bp fl nm ag) (h1 : vv.oneCell' = true) (h2 : pv.oneCell' = true) (h3 : ra.oneCell' = true) (h4 : bp.oneCell' = true) (h5 : fl.oneCell' = true) (h6 : ag.oneCell' = true) :
    ∃ cs : Array Value, W.heap[g]? = some (.cells cs 45 (0, 0)) ∧ cs.size = 40 ∧ cs.all (·.oneCell') = true ∧ cs[1]? = some vv ∧ cs[2]? = some pv ∧ cs[6]? = some (.int .i64 op) ∧ cs[16]? = some (.string ⟨er.toArray⟩) ∧ cs[17]? = some (.int .i64 st) ∧ cs[18]? = some (.int .i64 act) ∧ cs[19]? = some (.int .i64 n) ∧ cs[21]? = some ra := by
  have c1 : ∀ s, (Value.string s).oneCell' = true := fun _ => rfl
  have c2 : ∀ k i, (Value.int k i).oneCell' = true := fun _ _ => rfl
  have c3 : ∀ b, (Value.bool b).oneCell' = true := fun _ => rfl
  have c4 : ∀ A n c, (Value.slice A n c).oneCell' = true := fun _ _ _ => rfl
  exact ⟨_, h, rfl, by simp [h1, h2, h3, h4, h5, h6, c1, c2, c3, c4], rfl, rfl, rfl, rfl, rfl, rfl, rfl, rfl⟩
/-- What a run leaves. -/
def RunOut (V : World) (F : Array Value → World → Prop) (e : Ending) (w' : World) : Prop := (∃ R : Array Value, e = .returned (.tuple #[.agg R, .bool true]) ∧ R.size = 22 ∧ R.all (·.oneCell') = true ∧ F R w') ∧ Below V.heap.size V w'
section
variable {PA : Option Addr} {pc : Nat} {ps : List (List UInt8)} {FA : Option Addr} {fn fc : Nat} {V : World}
set_option maxHeartbeats 4000000 in
theorem Run_shift2 (hE : Env V) (hp : SV V (.slice PA 3 pc) ps) (hpl : ps.length = 3) :
    Calls Tryz.prog 5 #[.agg #[.string ⟨#[]⟩, .slice none 0 0, .slice PA 3 pc, .slice none 0 0, .slice none 0 0, .slice none 0 0, .int .i64 0, .int .i64 0, .int .i64 0, .int .i64 0, .string ⟨#[47]⟩, .int .i64 1, .int .i64 0, .int .i64 0, .bool false], .slice FA fn fc, .slice (some ⟨V.heap.size, 0, none⟩) 2 2] (V.alloc (.cells #[.string ⟨#[115, 104, 105, 102, 116]⟩, .string ⟨#[50]⟩] 9)) (RunOut V (fun R _ => ∃ A c, R[2]? = some (.slice A 1 c))) := by
  have hne : ps ≠ [] := by intro h; rw [h] at hpl; cases hpl
  have hbw : Below V.heap.size V (V.alloc (.cells #[.string ⟨#[115, 104, 105, 102, 116]⟩, .string ⟨#[50]⟩] 9)) := balloc _ _
  have hpw := hp.below hbw
  have hrow := al_new V (.cells #[.string ⟨#[115, 104, 105, 102, 116]⟩, .string ⟨#[50]⟩] 9)
  have hEu : Env V := hE
  refine (Run_any (PA := PA) (pn := 3) (pc := pc) (ps := ps) (b := V.heap.size) (off := 0) (n := 1) (c := 1) (nm := [115, 104, 105, 102, 116]) (fun _ _ => True)
    (fun U hU => (copyAt_any PA 3 pc ps 0 U (hpw.below hU) (by omega)).mono fun _ _ ⟨A1, c1, he, h1, h2⟩ => ⟨A1, c1, he, ⟨h1, trivial⟩, h2⟩)
    (by decide) (by simp) (Lib.cell_of_heap hrow 0) (by decide) (fun _ cs => cs.size = 40 ∧ cs.all (·.oneCell') = true ∧ ∃ A c, cs[2]? = some (.slice A 1 c)) ?_).mono ?_
  · intro W1 g A1 c1 GA gc hcb hngc hga hg hsv hbl
    obtain rfl : GA = some ⟨V.heap.size, 0 + 1, none⟩ := hga (by decide)
    have hbV : Below V.heap.size V W1 := btr hbw hbl
    have hcell : ∀ (i : Nat) (x : Value), (#[.string ⟨#[115, 104, 105, 102, 116]⟩, .string ⟨#[50]⟩] : Array Value)[i]? = some x → W1.cell? ⟨V.heap.size, i, none⟩ = some x := fun i x hi =>
      (hbl.cell (p := ⟨V.heap.size, i, none⟩) (by simp)).trans ((Lib.cell_of_heap hrow i).trans hi)
    have hgV : V.heap.size ≠ g := by simp at hg; omega
    · skip
      obtain ⟨-, q, o, rfl, -, -⟩ := RV.at_ hsv.1 hne
      have hc3 : 3 ≤ c1 := by obtain ⟨A0, k0, h0, h1, -⟩ := hsv.1; injection h0 with _ _ h2; subst h2; rw [← hpl]; exact h1
      refine (run_to_shift _ (Lib.cell_of_heap hcb 38) ((shift_two hcb (hcell 1 _ rfl) hc3).mono fun _ _ h => h)).mono ?_
      rintro e w' ⟨rfl, hc, ho⟩
      obtain ⟨cs, k1, k2, k3, k4, k5, -⟩ := hc.arr rfl rfl rfl rfl rfl rfl
      exact ⟨rfl, ⟨cs, k1, k2, k3, k2, k3, _, _, k5⟩, ho⟩
  rintro e w' ⟨cs, w1, rfl, hq, hb, hoth⟩
  have hfin : Below V.heap.size V w' := btr hbw hb
  obtain ⟨h1, h2, A, c, h3⟩ := hq
  exact ⟨⟨_, rfl, (ones22 h1 h2).1, (ones22 h1 h2).2, A, c, by rw [take22 _ _ (by decide)]; exact h3⟩, hfin⟩
set_option maxHeartbeats 4000000 in
theorem Run_shiftx (hE : Env V) (hp : SV V (.slice PA 3 pc) ps) (hpl : ps.length = 3) :
    Calls Tryz.prog 5 #[.agg #[.string ⟨#[]⟩, .slice none 0 0, .slice PA 3 pc, .slice none 0 0, .slice none 0 0, .slice none 0 0, .int .i64 0, .int .i64 0, .int .i64 0, .int .i64 0, .string ⟨#[47]⟩, .int .i64 1, .int .i64 0, .int .i64 0, .bool false], .slice FA fn fc, .slice (some ⟨V.heap.size, 0, none⟩) 2 2] (V.alloc (.cells #[.string ⟨#[115, 104, 105, 102, 116]⟩, .string ⟨#[120]⟩] 9)) (RunOut V (fun R _ => R[16]? = some (.string ⟨#[115, 104, 105, 102, 116, 58, 32, 120, 58, 32, 98, 97, 100, 32, 110, 117, 109, 98, 101, 114, 10]⟩) ∧ R[17]? = some (.int .i64 2))) := by
  have hne : ps ≠ [] := by intro h; rw [h] at hpl; cases hpl
  have hbw : Below V.heap.size V (V.alloc (.cells #[.string ⟨#[115, 104, 105, 102, 116]⟩, .string ⟨#[120]⟩] 9)) := balloc _ _
  have hpw := hp.below hbw
  have hrow := al_new V (.cells #[.string ⟨#[115, 104, 105, 102, 116]⟩, .string ⟨#[120]⟩] 9)
  have hEu : Env V := hE
  refine (Run_any (PA := PA) (pn := 3) (pc := pc) (ps := ps) (b := V.heap.size) (off := 0) (n := 1) (c := 1) (nm := [115, 104, 105, 102, 116]) (fun _ _ => True)
    (fun U hU => (copyAt_any PA 3 pc ps 0 U (hpw.below hU) (by omega)).mono fun _ _ ⟨A1, c1, he, h1, h2⟩ => ⟨A1, c1, he, ⟨h1, trivial⟩, h2⟩)
    (by decide) (by simp) (Lib.cell_of_heap hrow 0) (by decide) (fun _ cs => cs.size = 40 ∧ cs.all (·.oneCell') = true ∧ cs[16]? = some (.string ⟨#[115, 104, 105, 102, 116, 58, 32, 120, 58, 32, 98, 97, 100, 32, 110, 117, 109, 98, 101, 114, 10]⟩) ∧ cs[17]? = some (.int .i64 2)) ?_).mono ?_
  · intro W1 g A1 c1 GA gc hcb hngc hga hg hsv hbl
    obtain rfl : GA = some ⟨V.heap.size, 0 + 1, none⟩ := hga (by decide)
    have hbV : Below V.heap.size V W1 := btr hbw hbl
    have hcell : ∀ (i : Nat) (x : Value), (#[.string ⟨#[115, 104, 105, 102, 116]⟩, .string ⟨#[120]⟩] : Array Value)[i]? = some x → W1.cell? ⟨V.heap.size, i, none⟩ = some x := fun i x hi =>
      (hbl.cell (p := ⟨V.heap.size, i, none⟩) (by simp)).trans ((Lib.cell_of_heap hrow i).trans hi)
    have hgV : V.heap.size ≠ g := by simp at hg; omega
    · skip
      refine (run_to_shift _ (Lib.cell_of_heap hcb 38) ((shift_x hcb (hcell 1 _ rfl) (hp.below hbV) (by omega) (by decide)).mono fun _ _ h => h)).mono ?_
      rintro e w' ⟨rfl, ⟨A2, c2, hc⟩, ho⟩
      obtain ⟨cs, k1, k2, k3, -, -, -, k4, k5, -⟩ := hc.arr rfl rfl rfl rfl rfl rfl
      exact ⟨rfl, ⟨cs, k1, k2, k3, k2, k3, k4, k5⟩, ho⟩
  rintro e w' ⟨cs, w1, rfl, hq, hb, hoth⟩
  have hfin : Below V.heap.size V w' := btr hbw hb
  obtain ⟨h1, h2, h3, h4⟩ := hq
  exact ⟨⟨_, rfl, (ones22 h1 h2).1, (ones22 h1 h2).2, by rw [take22 _ _ (by decide)]; exact h3, by rw [take22 _ _ (by decide)]; exact h4⟩, hfin⟩
set_option maxHeartbeats 4000000 in
theorem Run_set (hE : Env V) (hp : SV V (.slice PA 3 pc) ps) (hpl : ps.length = 3) :
    Calls Tryz.prog 5 #[.agg #[.string ⟨#[]⟩, .slice none 0 0, .slice PA 3 pc, .slice none 0 0, .slice none 0 0, .slice none 0 0, .int .i64 0, .int .i64 0, .int .i64 0, .int .i64 0, .string ⟨#[47]⟩, .int .i64 1, .int .i64 0, .int .i64 0, .bool false], .slice FA fn fc, .slice (some ⟨V.heap.size, 0, none⟩) 4 4] (V.alloc (.cells #[.string ⟨#[115, 101, 116]⟩, .string ⟨#[45, 101, 117]⟩, .string ⟨#[45, 45]⟩, .string ⟨#[113]⟩] 9)) (RunOut V (fun R _ => R[6]? = some (.int .i64 3) ∧ ∃ A c, R[2]? = some (.slice A 1 c))) := by
  have hne : ps ≠ [] := by intro h; rw [h] at hpl; cases hpl
  have hbw : Below V.heap.size V (V.alloc (.cells #[.string ⟨#[115, 101, 116]⟩, .string ⟨#[45, 101, 117]⟩, .string ⟨#[45, 45]⟩, .string ⟨#[113]⟩] 9)) := balloc _ _
  have hpw := hp.below hbw
  have hrow := al_new V (.cells #[.string ⟨#[115, 101, 116]⟩, .string ⟨#[45, 101, 117]⟩, .string ⟨#[45, 45]⟩, .string ⟨#[113]⟩] 9)
  have hEu : Env V := hE
  refine (Run_any (PA := PA) (pn := 3) (pc := pc) (ps := ps) (b := V.heap.size) (off := 0) (n := 3) (c := 3) (nm := [115, 101, 116]) (fun _ _ => True)
    (fun U hU => (copyAt_any PA 3 pc ps 0 U (hpw.below hU) (by omega)).mono fun _ _ ⟨A1, c1, he, h1, h2⟩ => ⟨A1, c1, he, ⟨h1, trivial⟩, h2⟩)
    (by decide) (by simp) (Lib.cell_of_heap hrow 0) (by decide) (fun _ cs => cs.size = 40 ∧ cs.all (·.oneCell') = true ∧ cs[6]? = some (.int .i64 3) ∧ ∃ A c, cs[2]? = some (.slice A 1 c)) ?_).mono ?_
  · intro W1 g A1 c1 GA gc hcb hngc hga hg hsv hbl
    obtain rfl : GA = some ⟨V.heap.size, 0 + 1, none⟩ := hga (by decide)
    have hbV : Below V.heap.size V W1 := btr hbw hbl
    have hcell : ∀ (i : Nat) (x : Value), (#[.string ⟨#[115, 101, 116]⟩, .string ⟨#[45, 101, 117]⟩, .string ⟨#[45, 45]⟩, .string ⟨#[113]⟩] : Array Value)[i]? = some x → W1.cell? ⟨V.heap.size, i, none⟩ = some x := fun i x hi =>
      (hbl.cell (p := ⟨V.heap.size, i, none⟩) (by simp)).trans ((Lib.cell_of_heap hrow i).trans hi)
    have hgV : V.heap.size ≠ g := by simp at hg; omega
    · skip
      refine (run_to_set _ (Lib.cell_of_heap hcb 38) ((settings_eu hcb hsv.1 (by omega) (hcell 1 _ rfl) (hcell 2 _ rfl) (hcell 3 _ rfl) (by omega) hngc).mono fun _ _ h => h)).mono ?_
      rintro e w' ⟨rfl, ⟨A2, c2, hc⟩, ho⟩
      obtain ⟨cs, k1, k2, k3, -, k4, k5, -⟩ := hc.arr rfl rfl rfl rfl rfl rfl
      exact ⟨rfl, ⟨cs, k1, k2, k3, k2, k3, k5, _, _, k4⟩, ho⟩
  rintro e w' ⟨cs, w1, rfl, hq, hb, hoth⟩
  have hfin : Below V.heap.size V w' := btr hbw hb
  obtain ⟨h1, h2, h4, A, c, h3⟩ := hq
  exact ⟨⟨_, rfl, (ones22 h1 h2).1, (ones22 h1 h2).2, by rw [take22 _ _ (by decide)]; exact h4, A, c, by rw [take22 _ _ (by decide)]; exact h3⟩, hfin⟩
set_option maxHeartbeats 4000000 in
theorem Run_kill (hE : Env V) (hp : SV V (.slice PA 3 pc) ps) (hpl : ps.length = 3) :
    Calls Tryz.prog 5 #[.agg #[.string ⟨#[]⟩, .slice none 0 0, .slice PA 3 pc, .slice none 0 0, .slice none 0 0, .slice none 0 0, .int .i64 0, .int .i64 0, .int .i64 0, .int .i64 0, .string ⟨#[47]⟩, .int .i64 1, .int .i64 0, .int .i64 0, .bool false], .slice FA fn fc, .slice (some ⟨V.heap.size, 0, none⟩) 4 4] (V.alloc (.cells #[.string ⟨#[107, 105, 108, 108]⟩, .string ⟨#[45, 115]⟩, .string ⟨#[72, 85, 80]⟩, .string ⟨#[55]⟩] 9)) (RunOut V (fun R _ => R[18]? = some (.int .i64 12) ∧ R[19]? = some (.int .i64 1) ∧ ∃ A c, R[21]? = some (.slice A 1 c))) := by
  have hne : ps ≠ [] := by intro h; rw [h] at hpl; cases hpl
  have hbw : Below V.heap.size V (V.alloc (.cells #[.string ⟨#[107, 105, 108, 108]⟩, .string ⟨#[45, 115]⟩, .string ⟨#[72, 85, 80]⟩, .string ⟨#[55]⟩] 9)) := balloc _ _
  have hpw := hp.below hbw
  have hrow := al_new V (.cells #[.string ⟨#[107, 105, 108, 108]⟩, .string ⟨#[45, 115]⟩, .string ⟨#[72, 85, 80]⟩, .string ⟨#[55]⟩] 9)
  have hEu : Env V := hE
  refine (Run_any (PA := PA) (pn := 3) (pc := pc) (ps := ps) (b := V.heap.size) (off := 0) (n := 3) (c := 3) (nm := [107, 105, 108, 108]) (fun _ _ => True)
    (fun U hU => (copyAt_any PA 3 pc ps 0 U (hpw.below hU) (by omega)).mono fun _ _ ⟨A1, c1, he, h1, h2⟩ => ⟨A1, c1, he, ⟨h1, trivial⟩, h2⟩)
    (by decide) (by simp) (Lib.cell_of_heap hrow 0) (by decide) (fun _ cs => cs.size = 40 ∧ cs.all (·.oneCell') = true ∧ cs[18]? = some (.int .i64 12) ∧ cs[19]? = some (.int .i64 1) ∧ ∃ A c, cs[21]? = some (.slice A 1 c)) ?_).mono ?_
  · intro W1 g A1 c1 GA gc hcb hngc hga hg hsv hbl
    obtain rfl : GA = some ⟨V.heap.size, 0 + 1, none⟩ := hga (by decide)
    have hbV : Below V.heap.size V W1 := btr hbw hbl
    have hcell : ∀ (i : Nat) (x : Value), (#[.string ⟨#[107, 105, 108, 108]⟩, .string ⟨#[45, 115]⟩, .string ⟨#[72, 85, 80]⟩, .string ⟨#[55]⟩] : Array Value)[i]? = some x → W1.cell? ⟨V.heap.size, i, none⟩ = some x := fun i x hi =>
      (hbl.cell (p := ⟨V.heap.size, i, none⟩) (by simp)).trans ((Lib.cell_of_heap hrow i).trans hi)
    have hgV : V.heap.size ≠ g := by simp at hg; omega
    · skip
      refine (run_to_kill _ (Lib.cell_of_heap hcb 38) ((kill_hup (hE.below hbV) hcb (hcell 1 _ rfl) (hcell 2 _ rfl) (hcell 3 _ rfl) (by omega) hngc).mono fun _ _ h => h)).mono ?_
      rintro e w' ⟨rfl, ⟨A2, c2, hc⟩, ho⟩
      obtain ⟨cs, k1, k2, k3, -, -, -, -, -, k4, k5, k6⟩ := hc.arr rfl rfl rfl rfl rfl rfl
      exact ⟨rfl, ⟨cs, k1, k2, k3, k2, k3, k4, k5, _, _, k6⟩, ho⟩
  rintro e w' ⟨cs, w1, rfl, hq, hb, hoth⟩
  have hfin : Below V.heap.size V w' := btr hbw hb
  obtain ⟨h1, h2, h4, h5, A, c, h3⟩ := hq
  exact ⟨⟨_, rfl, (ones22 h1 h2).1, (ones22 h1 h2).2, by rw [take22 _ _ (by decide)]; exact h4, by rw [take22 _ _ (by decide)]; exact h5, A, c, by rw [take22 _ _ (by decide)]; exact h3⟩, hfin⟩
set_option maxHeartbeats 4000000 in
theorem Run_export (hE : Env V) (hp : SV V (.slice PA 3 pc) ps) (hpl : ps.length = 3) :
    Calls Tryz.prog 5 #[.agg #[.string ⟨#[]⟩, .slice none 0 0, .slice PA 3 pc, .slice none 0 0, .slice none 0 0, .slice none 0 0, .int .i64 0, .int .i64 0, .int .i64 0, .int .i64 0, .string ⟨#[47]⟩, .int .i64 1, .int .i64 0, .int .i64 0, .bool false], .slice FA fn fc, .slice (some ⟨V.heap.size, 0, none⟩) 2 2] (V.alloc (.cells #[.string ⟨#[101, 120, 112, 111, 114, 116]⟩, .string ⟨#[65, 61, 49]⟩] 9)) (RunOut V (fun R w' => ∃ b o c, R[1]? = some (.slice (some ⟨b, o, none⟩) 1 c) ∧ w'.cell? ⟨b, o + 3, none⟩ = some (.bool true))) := by
  have hne : ps ≠ [] := by intro h; rw [h] at hpl; cases hpl
  have hbw : Below V.heap.size V (V.alloc (.cells #[.string ⟨#[101, 120, 112, 111, 114, 116]⟩, .string ⟨#[65, 61, 49]⟩] 9)) := balloc _ _
  have hpw := hp.below hbw
  have hrow := al_new V (.cells #[.string ⟨#[101, 120, 112, 111, 114, 116]⟩, .string ⟨#[65, 61, 49]⟩] 9)
  have hEu : Env V := hE
  refine (Run_any (PA := PA) (pn := 3) (pc := pc) (ps := ps) (b := V.heap.size) (off := 0) (n := 1) (c := 1) (nm := [101, 120, 112, 111, 114, 116]) (fun _ _ => True)
    (fun U hU => (copyAt_any PA 3 pc ps 0 U (hpw.below hU) (by omega)).mono fun _ _ ⟨A1, c1, he, h1, h2⟩ => ⟨A1, c1, he, ⟨h1, trivial⟩, h2⟩)
    (by decide) (by simp) (Lib.cell_of_heap hrow 0) (by decide) (fun w1 cs => cs.size = 40 ∧ cs.all (·.oneCell') = true ∧ ∃ b o c, cs[1]? = some (.slice (some ⟨b, o, none⟩) 1 c) ∧ w1.cell? ⟨b, o + 3, none⟩ = some (.bool true) ∧ V.heap.size + 1 + 2 ≤ b) ?_).mono ?_
  · intro W1 g A1 c1 GA gc hcb hngc hga hg hsv hbl
    obtain rfl : GA = some ⟨V.heap.size, 0 + 1, none⟩ := hga (by decide)
    have hbV : Below V.heap.size V W1 := btr hbw hbl
    have hcell : ∀ (i : Nat) (x : Value), (#[.string ⟨#[101, 120, 112, 111, 114, 116]⟩, .string ⟨#[65, 61, 49]⟩] : Array Value)[i]? = some x → W1.cell? ⟨V.heap.size, i, none⟩ = some x := fun i x hi =>
      (hbl.cell (p := ⟨V.heap.size, i, none⟩) (by simp)).trans ((Lib.cell_of_heap hrow i).trans hi)
    have hgV : V.heap.size ≠ g := by simp at hg; omega
    · skip
      refine (run_to_export _ (Lib.cell_of_heap hcb 38) ((attributes_A (hE.below hbV) hcb (hcell 1 _ rfl) (by omega) hngc).mono fun _ _ h => h)).mono ?_
      rintro e w' ⟨rfl, ⟨A2, c2, hc, hvv, hfr⟩, ho⟩
      obtain ⟨bb, oo, rfl, hbb, -, -, -, g3, -⟩ := VV.get (i := 0) (x := VR.vX) hvv rfl
      obtain ⟨cs, k1, k2, k3, k4, -⟩ := hc.arr rfl rfl rfl rfl rfl rfl
      have hgl := hcb.lt
      have hbb2 := hfr bb rfl
      exact ⟨rfl, ⟨cs, k1, k2, k3, k2, k3, bb, oo, c2, k4, by simpa [VR.vX] using g3, by simp at hg; omega⟩, ho⟩
  rintro e w' ⟨cs, w1, rfl, hq, hb, hoth⟩
  have hfin : Below V.heap.size V w' := btr hbw hb
  obtain ⟨h1, h2, b, o, c, h3, h4, h5⟩ := hq
  refine ⟨⟨_, rfl, (ones22 h1 h2).1, (ones22 h1 h2).2, b, o, c, by rw [take22 _ _ (by decide)]; exact h3, ?_⟩, hfin⟩
  rw [← h4]
  unfold World.cell?
  dsimp only
  rw [hoth b (by simp; omega)]
end
end W
end Go.Proofs.YtcbebkeakkahgaaGreatDoor
