/- Built-in commands: kill -s HUP 7; what the library's and the program's variables hold; printed by gen38f.py. -/
import Derived.Test.YtcbebkeakkahgaaGreatDoorW37z
import Derived.Test.YtcbebkeakkahgaaGreatDoorW37f
import Derived.Test.YtcbebkeakkahgaaGreatDoorW37m
import Derived.Laws.Rows
namespace Go.Proofs.YtcbebkeakkahgaaGreatDoor
open Go.RowKit K
namespace W
set_option maxRecDepth 100000
def namesV : Array Value := #[.string ⟨#[]⟩, .string ⟨#[72, 85, 80]⟩, .string ⟨#[73, 78, 84]⟩, .string ⟨#[81, 85, 73, 84]⟩, .string ⟨#[84, 84, 73, 78]⟩, .string ⟨#[84, 84, 79, 85]⟩, .string ⟨#[]⟩, .string ⟨#[]⟩, .string ⟨#[]⟩, .string ⟨#[75, 73, 76, 76]⟩, .string ⟨#[85, 83, 82, 49]⟩, .string ⟨#[]⟩, .string ⟨#[85, 83, 82, 50]⟩, .string ⟨#[80, 73, 80, 69]⟩, .string ⟨#[65, 76, 82, 77]⟩, .string ⟨#[84, 69, 82, 77]⟩, .string ⟨#[]⟩, .string ⟨#[67, 72, 76, 68]⟩, .string ⟨#[67, 79, 78, 84]⟩, .string ⟨#[83, 84, 79, 80]⟩, .string ⟨#[84, 83, 84, 80]⟩]
structure Env (w : World) : Prop where
  maxlen : ∃ m, w.cell? ⟨2, 0, none⟩ = some (.int .i64 m)
  nms : ∃ t fr, w.heap[0]? = some (.cells namesV t fr)
theorem Env.below {w w' : World} (h : Env w) (hb : Below w.heap.size w w') : Env w' := by
  obtain ⟨m, h1⟩ := h.maxlen
  obtain ⟨t, fr, h2⟩ := h.nms
  exact ⟨⟨m, (hb.cell (p := ⟨2, 0, none⟩) (lt_cell h1)).trans h1⟩, ⟨t, fr, (hb.block _ (Array.getElem?_eq_some_iff.1 h2).1).trans h2⟩⟩
theorem Itoa_k (k : Nat) (w : World) (h : k < 100) :
    Calls Tryz.prog 75 #[.int .i64 k] w fun e w' => e = .returned (.string ⟨(Lib.itoa k).toArray⟩) ∧ w = w' :=
  (Tryz.strconv_Itoa_small k h w).mono fun _ _ ⟨h1, h2⟩ => ⟨h1.trans (by unfold Lib.itoa; rw [if_neg (by omega)]; rfl), h2.symm⟩
theorem index0 (w : World) : (Instr.index 168 (.agg namesV) (.int .i64 0)).run Tryz.prog w = .ok (.string ⟨#[]⟩) w := by
  show _ = _; kernel_rfl
theorem index1 (w : World) : (Instr.index 168 (.agg namesV) (.int .i64 1)).run Tryz.prog w = .ok (.string ⟨#[72, 85, 80]⟩) w := by
  show _ = _; kernel_rfl
theorem Number_hup (w : World) (hw : Env w) :
    Calls Tryz.prog 85 #[.string ⟨#[72, 85, 80]⟩] w fun e w' => e = .returned (.tuple #[.int .i64 1, .bool true]) ∧ w' = w := by
  obtain ⟨t, fr, hblk⟩ := hw.nms
  have HBK := Lib.hid hblk
  have hi0 := index0
  have hi1 := index1
  have hns : namesV.size = 21 := rfl
  obtain ⟨NV, hNV⟩ : ∃ NV, namesV = NV := ⟨_, rfl⟩
  rw [hNV] at HBK hi0 hi1 hns
  have HNS := Lib.hid hns
  clear hNV hblk hw hns
  go_enter Tryz.func85, Tryz.ntmps85
  go_wp2_with (refine wpList_load_row rfl 168 _ rfl 0 rfl t NV fr _ HBK.out Tryz.underlying168 rfl (by rw [HNS.out]; kernel_rfl) ?_)
  go_loopw [7] (fun i wr => (i = .int .i64 0 ∨ i = .int .i64 1) ∧ wr = w) (fun i _ => 2 - (intOf i).toNat)
  case atStart => exact ⟨.inl rfl, rfl⟩
  case round =>
    obtain ⟨hi, hwr⟩ := hrel
    obtain rfl : w = wr := hwr.symm
    rcases hi with rfl | rfl
    · go_wp2
      go_roundw
      case rel => exact ⟨.inr rfl, trivial⟩
      case measure => simp [intOf]
    · go_wp2
      go_ret2
      exact ⟨rfl, rfl⟩
section
variable {W : World} {g : Nat} {vv pv : Value} {op : Int} {out er : List UInt8} {st act n : Int} {tx : List UInt8} {ra bp fl : Value} {nm : List UInt8} {b off gc : Nat}
theorem sv_one1 {V : World} {s : List UInt8} {o c : Nat} (hb : b < V.heap.size) (hc : 1 ≤ c) (h : V.cell? ⟨b, o, none⟩ = some (.string ⟨s.toArray⟩)) : SV V (.slice (some ⟨b, o, none⟩) 1 c) [s] := by
  refine ⟨_, c, rfl, hc, .inr ⟨b, o, rfl, hb, ?_⟩⟩
  intro i x hi j u hu
  match i, hi with
  | 0, hi =>
    injection hi with hi
    subst hi
    match j, hu with
    | 0, hu => injection hu with hu; subst hu; simpa using h
set_option maxHeartbeats 4000000 in
theorem kill_hup (hE : Env W) (h : CB W g vv pv op out er st act n tx ra bp fl nm (.slice (some ⟨b, off, none⟩) 3 gc)) (h0 : W.cell? ⟨b, off, none⟩ = some (.string ⟨#[45, 115]⟩)) (h1 : W.cell? ⟨b, off + 1, none⟩ = some (.string ⟨#[72, 85, 80]⟩)) (h2 : W.cell? ⟨b, off + 1 + 1, none⟩ = some (.string ⟨#[55]⟩)) (hbg : b ≠ g) (hgc : 3 ≤ gc) :
    Calls Tryz.prog 37 #[.pointer (some ⟨g, 0, none⟩)] W fun e w' => e = .returned (.tuple #[]) ∧ (∃ A c, CB w' g vv pv op out er st 12 1 tx (.slice A 1 c) bp fl nm (.slice (some ⟨b, off + 1 + 1, none⟩) 1 (gc - 1 - 1))) ∧ OneBox g W w' := by
  have e39 : W.cell? ⟨g, 39, none⟩ = some (.slice (some ⟨b, off, none⟩) 3 gc) := Lib.cell_of_heap h 39
  have hg := h.lt
  have hbl := lt_cell h0
  have HE := Lib.hid hE
  have H := Lib.hid h
  have H1 := Lib.hid h1
  have H2 := Lib.hid h2
  have q1 : ¬ gc = 1 := by omega
  have q2 : ¬ gc - 1 = 1 := by omega
  have q3 : (1 : Nat) ≤ 3 := by omega
  clear h h1 h2 hE
  go_enter Tryz.func37, Tryz.ntmps37
  go_wp2_with (fail)
  go_quiet (fail)
  have hbu : Below W.heap.size W (W.drewN nq) := bdN (Below.refl _ _) nq
  generalize W.drewN nq = U at *
  have hU1 : U.cell? ⟨b, off + 1, none⟩ = some (.string ⟨#[72, 85, 80]⟩) := (hbu.cell (p := ⟨b, off + 1, none⟩) hbl).trans H1.out
  have HBU := Lib.hid hbu
  have hbl2 : b < U.heap.size := Nat.lt_of_lt_of_le hbl hbu.size
  clear hbu
  go_wp2_with (fail)
  go_quiet (fail)
  have hbv : Below W.heap.size W (U.drewN nq) := bdN HBU.out nq
  generalize U.drewN nq = V at *
  have hV2 : V.cell? ⟨b, off + 1 + 1, none⟩ = some (.string ⟨#[55]⟩) := (hbv.cell (p := ⟨b, off + 1 + 1, none⟩) hbl).trans H2.out
  have hcv := H.out.below hbv
  have HN := Lib.hid (Number_hup V (HE.out.below hbv))
  have HOV := Lib.hid (OneBox.of hg hbv)
  have hgv := hcv.lt
  have f39 : V.frozen? ⟨g, 39, none⟩ = false := Lib.frozen_of_heap hcv 39
  have e39v : V.cell? ⟨g, 39, none⟩ = some (.slice (some ⟨b, off, none⟩) 3 gc) := Lib.cell_of_heap hcv 39
  obtain ⟨Z, hZ⟩ : ∃ Z, Z = V.setCell ⟨g, 39, none⟩ (.slice (some ⟨b, off + 1 + 1, none⟩) 1 (gc - 1 - 1)) := ⟨_, rfl⟩
  have hcz : CB Z g vv pv op out er st act n tx ra bp fl nm (.slice (some ⟨b, off + 1 + 1, none⟩) 1 (gc - 1 - 1)) := by rw [hZ]; exact hcv.set_ag _
  have hoz : OneBox g W Z := HOV.out.trans (by rw [hZ]; exact (OneBox.refl g V).set 39 _)
  have hz2 : Z.cell? ⟨b, off + 1 + 1, none⟩ = some (.string ⟨#[55]⟩) := by
    rw [← H2.out]; unfold World.cell?; dsimp only; rw [hoz.2.1 b hbl hbg]
  have HA := Lib.hid (act_any hcz (sv_one1 (Nat.lt_of_lt_of_le hbl hoz.1) (by omega) hz2) (by simp) 12)
  have HOZ := Lib.hid hoz
  have HZ := Lib.hid hZ
  have hbv2 : b < V.heap.size := Nat.lt_of_lt_of_le hbl hbv.size
  clear hbv hcv hZ hcz hoz hz2
  go_wp2_with (fail)
  refine HN.out.mono ?_
  rintro e Y ⟨rfl, hY⟩
  obtain rfl : V = Y := hY.symm
  go_upto_region 21 with (fail)
  rw [← HZ.out]
  go_wp2_with (fail)
  refine HA.out.mono ?_
  rintro e Y ⟨A, c, rfl, hy, ho⟩
  have e19 : Y.cell? ⟨g, 19, none⟩ = some (.int .i64 n) := Lib.cell_of_heap hy 19
  have f19 : Y.frozen? ⟨g, 19, none⟩ = false := Lib.frozen_of_heap hy 19
  have hgy := hy.lt
  have HCS := Lib.hid (hy.set_n 1)
  have HOS := Lib.hid ((HOZ.out.trans ho).trans ((OneBox.refl g Y).set 19 (.int .i64 1)))
  clear hy ho
  go_wp2
  first | go_end0 | refine bodyPost_ret (results_none rfl _ _ _) rfl ?_
  exact ⟨rfl, ⟨A, c, HCS.out⟩, HOS.out⟩
end
end W
end Go.Proofs.YtcbebkeakkahgaaGreatDoor
