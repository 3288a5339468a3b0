/- Chapter 9: value. -/
import Derived.Test.YtelhobphphkidaaGreatDoorW09p
import Derived.Test.YtelhobphphkidaaGreatDoorM9
import Derived.BigQuiet
namespace Go.Proofs.YtelhobphphkidaaGreatDoor
open Go.RowKit K
namespace AX
/-- The value by which a token is replaced. -/
def value (l : List AL.Al) (T : List SE) (cmd : Bool) (kd : Nat) (ps : Nat) (tx : List UInt8) : Option (List UInt8) :=
  if cmd = false then none else if kd ≠ 1 then none else
  match sget T tx with
  | some e => if (ps : Int) < e then none else AL.get l tx
  | none => AL.get l tx
end AX
namespace W
theorem sm_new {W V : World} {b : Nat} {T : List SE} (h : SM W b T) (hb : Below W.heap.size W V) : SM V b T := h.kept (hb.block _ h.lt)
set_option maxRecDepth 100000 in
set_option maxHeartbeats 4000000 in
theorem value_any (l : List AL.Al) (T : List SE) (kd ps st : Nat) (tx : List UInt8) (g mb : Nat) (s : List UInt8) (at_ : Int) (va vb vl : Value) (c h str : Bool) (w : World) (he : EB w g s at_ va (.map (some mb)) vb c h str vl) (hA : AS w va l) (hM : SM w mb T) (hl : l.length ≤ 1000000) :
    Calls Tryz.prog 34 #[.pointer (some ⟨g, 0, none⟩), .agg #[.int .i64 kd, .int .i64 ps, .int .i64 st, .string ⟨tx.toArray⟩]] w fun e w' => e = .returned (.tuple #[.string ⟨((AX.value l T c kd ps tx).getD []).toArray⟩, .bool (AX.value l T c kd ps tx).isSome]) ∧ Below w.heap.size w w' := by
  obtain ⟨V, hV⟩ : ∃ V, V = w.alloc (.cells #[.int .i64 kd, .int .i64 ps, .int .i64 st, .string ⟨tx.toArray⟩] 62) := ⟨_, rfl⟩
  have hb : Below w.heap.size w V := by rw [hV]; exact balloc w _
  have e1 := he.new hb
  have m1 := sm_new hM hb
  obtain ⟨-, -, k2, k3, -, -, -⟩ := e1.cells
  obtain ⟨-, -, -, -, -, w5, -⟩ := he.cells
  have hgs := he.lt
  have hn : V.heap[w.heap.size]? = some (.cells #[.int .i64 kd, .int .i64 ps, .int .i64 st, .string ⟨tx.toArray⟩] 62 (0, 0)) := by rw [hV]; exact al_new w _
  obtain ⟨t0, t1, t3⟩ : V.cell? ⟨w.heap.size, 0, none⟩ = some (.int .i64 kd) ∧ V.cell? ⟨w.heap.size, 1, none⟩ = some (.int .i64 ps) ∧ V.cell? ⟨w.heap.size, 3, none⟩ = some (.string ⟨tx.toArray⟩) := ⟨Lib.cell_of_heap hn 0, Lib.cell_of_heap hn 1, Lib.cell_of_heap hn 3⟩
  have HB := Lib.hid hb
  obtain ⟨A, cc, rfl⟩ := hA.slice
  have HG := Lib.hid (fun U (hu : Below w.heap.size w U) => Get_any l tx (.slice A l.length cc) U (hA.go hu) hl)
  obtain ⟨R, hR⟩ : ∃ R, AX.value l T c kd ps tx = R := ⟨_, rfl⟩
  rw [hR]
  unfold AX.value at hR
  have HV := Lib.hid hV
  have HF := Lib.hid (And.intro t0 (And.intro t1 (And.intro t3 (And.intro k2 (And.intro k3 m1)))))
  clear he hA hM e1 hn hb hl hV t0 t1 t3 k2 k3 m1
  cases c
  case false =>
    have HRE := Lib.hid (show none = R from hR)
    clear hR
    go_enter Tryz.func34, Tryz.ntmps34
    go_wp2
    go_ret2
    rw [← HRE.out, ← HV.out]
    exact ⟨rfl, HB.out⟩
  case true =>
    by_cases hk : kd = 1
    case neg =>
      have HRE := Lib.hid (show none = R by rw [← hR, if_neg (by simp), if_pos hk])
      have hk2 : ¬ (kd : Int) = 1 := by omega
      have hk3 : ((kd : Int) == 1) = false := by rw [beq_eq_false_iff_ne]; exact hk2
      have hk4 : ((kd : Int) != 1) = true := by simp [bne, hk3]
      clear hR hk
      go_enter Tryz.func34, Tryz.ntmps34
      go_wp2
      go_ret2
      rw [← HRE.out, ← HV.out]
      exact ⟨rfl, HB.out⟩
    rw [if_neg (by simp), if_neg (by simpa using hk)] at hR
    have q1 : ((kd : Int) == 1) = true := by rw [hk]; rfl
    have q2 : ((kd : Int) != 1) = false := by simp [bne, q1]
    clear hk
    obtain ⟨t0, t1, t3, k2, k3, m1⟩ := HF.out
    have hL2 : ∀ n, (Instr.lookup 56 (.map (some mb)) (.string ⟨tx.toArray⟩) true).run Tryz.prog (V.drewN n) = .ok (.tuple #[.int .i64 ((sget T tx).getD 0), .bool (sget T tx).isSome]) (V.drewN n) := fun n => SM.look (W := V.drewN n) (m1.kept (by simp)) Tryz.underlying56 Tryz.underlying9 (by kernel_rfl) tx
    obtain ⟨G, hG⟩ : ∃ G, AL.get l tx = G := ⟨_, rfl⟩
    rw [hG] at hR HG
    have HBN := Lib.hid (fun n => (show Below w.heap.size w (V.drewN n) from ⟨HB.out.os, HB.out.tape, HB.out.output, HB.out.size, HB.out.block⟩))
    cases hs : sget T tx with
    | none =>
      rw [hs] at hL2 hR
      have HRE := Lib.hid hR
      clear hR m1 hs hG
      go_enter Tryz.func34, Tryz.ntmps34
      go_wp2_with fail
      rw [← HV.out]
      go_quiet (fail)
      go_wp2_with fail
      obtain ⟨U, hU⟩ : ∃ U, U = V.drewN nq := ⟨_, rfl⟩
      have HBU := Lib.hid (show Below w.heap.size w U from by rw [hU]; exact HBN.out nq)
      have u2 : U.cell? ⟨g, 2, none⟩ = some (.slice A l.length cc) := by rw [hU]; exact k2
      have u3 : U.cell? ⟨w.heap.size, 3, none⟩ = some (.string ⟨tx.toArray⟩) := by rw [hU]; exact t3
      rw [← hU]
      clear hU hL2 k2 k3 t0 t1 t3 w5 q1 q2 hgs
      have HSU := Lib.hid (fun (U2 : World) (hb : Below U.drew.heap.size U.drew U2) => show U2.cell? ⟨g, 2, none⟩ = some (.slice A l.length cc) ∧ U2.cell? ⟨w.heap.size, 3, none⟩ = some (.string ⟨tx.toArray⟩) ∧ Below w.heap.size w U2 from ⟨cell_go (W := U.drew) u2 hb, cell_go (W := U.drew) u3 hb, HBU.out.drew.trans (hb.mono HBU.out.drew.size)⟩)
      have HGU := Lib.hid (HG.out U.drew HBU.out.drew)
      go_region_held3 (fun w' => w'.cell? ⟨g, 2, none⟩ = some (.slice A l.length cc) ∧ w'.cell? ⟨w.heap.size, 3, none⟩ = some (.string ⟨tx.toArray⟩) ∧ Below w.heap.size w w')
        (first | exact HSU.out _ (Below.refl _ _) | exact HSU.out _ (by assumption))
        ((go_at_call 19; refine HGU.out.mono ?_; rintro e' U2 ⟨rfl, hb⟩))
      go_wp2
      go_ret2
      rw [← HRE.out]
      exact ⟨rfl, (HSU.out _ (by assumption)).2.2⟩
    | some e =>
      rw [hs] at hL2 hR
      by_cases hlt : (ps : Int) < e
      · have HRE := Lib.hid (show none = R by rw [← hR]; exact (if_pos hlt).symm)
        have q3 : decide ((ps : Int) < e) = true := by simpa using hlt
        clear hR m1 hs hG
        go_enter Tryz.func34, Tryz.ntmps34
        go_wp2_with fail
        rw [← HV.out]
        go_quiet (fail)
        go_wp2
        go_ret2
        rw [← HRE.out]
        exact ⟨rfl, HBN.out nq⟩
      · have HRE := Lib.hid (show G = R by rw [← hR]; exact (if_neg hlt).symm)
        have q3 : decide ((ps : Int) < e) = false := by simpa using hlt
        clear hR m1 hs hG
        go_enter Tryz.func34, Tryz.ntmps34
        go_wp2_with fail
        rw [← HV.out]
        go_quiet (fail)
        go_wp2_with fail
        obtain ⟨U, hU⟩ : ∃ U, U = V.drewN nq := ⟨_, rfl⟩
        have HBU := Lib.hid (show Below w.heap.size w U from by rw [hU]; exact HBN.out nq)
        have u2 : U.cell? ⟨g, 2, none⟩ = some (.slice A l.length cc) := by rw [hU]; exact k2
        have u3 : U.cell? ⟨w.heap.size, 3, none⟩ = some (.string ⟨tx.toArray⟩) := by rw [hU]; exact t3
        rw [← hU]
        clear q3 hlt hU hL2 k2 k3 t0 t1 t3 w5 q1 q2 hgs
        have HSU := Lib.hid (fun (U2 : World) (hb : Below U.drew.heap.size U.drew U2) => show U2.cell? ⟨g, 2, none⟩ = some (.slice A l.length cc) ∧ U2.cell? ⟨w.heap.size, 3, none⟩ = some (.string ⟨tx.toArray⟩) ∧ Below w.heap.size w U2 from ⟨cell_go (W := U.drew) u2 hb, cell_go (W := U.drew) u3 hb, HBU.out.drew.trans (hb.mono HBU.out.drew.size)⟩)
        have HGU := Lib.hid (HG.out U.drew HBU.out.drew)
        go_region_held3 (fun w' => w'.cell? ⟨g, 2, none⟩ = some (.slice A l.length cc) ∧ w'.cell? ⟨w.heap.size, 3, none⟩ = some (.string ⟨tx.toArray⟩) ∧ Below w.heap.size w w')
          (first | exact HSU.out _ (Below.refl _ _) | exact HSU.out _ (by assumption))
          ((go_at_call 19; refine HGU.out.mono ?_; rintro e' U2 ⟨rfl, hb⟩))
        go_wp2
        go_ret2
        rw [← HRE.out]
        exact ⟨rfl, (HSU.out _ (by assumption)).2.2⟩
end W
end Go.Proofs.YtelhobphphkidaaGreatDoor
