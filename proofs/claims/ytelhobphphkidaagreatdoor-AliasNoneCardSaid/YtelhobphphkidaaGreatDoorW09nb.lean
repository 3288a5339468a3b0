/- Chapter 9: literal, whatever it gives. -/
import Derived.Test.YtelhobphphkidaaGreatDoorW09na
import Derived.Test.YtelhobphphkidaaGreatDoorZK
import Derived.Test.YtelhobphphkidaaGreatDoorZJ
import Derived.Test.YtelhobphphkidaaGreatDoorZB
namespace Go.Proofs.YtelhobphphkidaaGreatDoor
open Go.RowKit K
open WP (GP gp gpL)
namespace W
theorem stand9 {w w' : World} {ps : List WP.Part} {A : Option Addr} {cap : Nat} (h : ps = [] ∨ ∃ b cells, A = some ⟨b, 0, none⟩ ∧ w.heap.size ≤ b ∧ LRep w' (fun b => w.heap.size ≤ b) ps cells ∧ ∀ j u, cells[j]? = some u → w'.cell? ⟨b, j, none⟩ = some u) : GS w' (fun b => b < w'.heap.size) (.slice A ps.length cap) (gpL ps) :=
  (GS.of_rep (cap := cap) h).mono fun _ _ h2 => ⟨h2, rfl⟩
set_option maxRecDepth 100000 in
set_option maxHeartbeats 1000000 in
theorem literal9_any (hB : BrAll) (kd ps st : Nat) (tx : List UInt8) (w : World) (hl : tx.length ≤ 20000) :
    Calls Tryz.prog 56 #[.agg #[.int .i64 kd, .int .i64 ps, .int .i64 st, .string ⟨tx.toArray⟩]] w fun e w' => ∃ (x : List UInt8) (b : Bool), e = .returned (.tuple #[.string ⟨x.toArray⟩, .bool b]) ∧ Below w.heap.size w w' := by
  obtain ⟨V, hV⟩ : ∃ V, V = w.alloc (.cells #[.int .i64 kd, .int .i64 ps, .int .i64 st, .string ⟨tx.toArray⟩] 62) := ⟨_, rfl⟩
  have HB := Lib.hid (show Below w.heap.size w V by rw [hV]; exact balloc _ _)
  obtain ⟨t0, -, -, t3, -⟩ := blk4 (show V.heap[w.heap.size]? = some (.cells #[.int .i64 kd, .int .i64 ps, .int .i64 st, .string ⟨tx.toArray⟩] 62 (0, 0)) by rw [hV]; exact al_new w _)
  have HV := Lib.hid hV
  have HP := Lib.hid (Parse_any hB tx V (by omega))
  clear hV hB
  by_cases hk : kd = 1
  case neg =>
    have h1 : ((kd : Int) == 1) = false := by rw [beq_eq_false_iff_ne]; omega
    have h2 : ((kd : Int) != 1) = true := by simp [bne, h1]
    go_enter Tryz.func56, Tryz.ntmps56
    go_upto_region 1 with (fail)
    rw [← HV.out]
    go_wp2
    refine bodyPost_ret (v := .tuple #[.string ⟨#[]⟩, .bool false]) (by simp [results, Tryz.results56, go_sem]) rfl ⟨[], false, rfl, HB.out⟩
  have h1 : ((kd : Int) == 1) = true := by rw [beq_iff_eq]; omega
  have h2 : ((kd : Int) != 1) = false := by simp [bne, h1]
  clear hk
  cases hp : WP.parse tx 0 with
  | error x =>
    rw [hp] at HP
    have hx := WP.parse_code hp
    clear hp
    obtain ⟨x1, x2⟩ := x
    dsimp only at hx HP
    have h3 : (x2 == 0) = false := by rw [beq_eq_false_iff_ne]; exact hx
    have h4 : (x2 != 0) = true := by simp [bne, h3]
    clear hx
    go_enter Tryz.func56, Tryz.ntmps56
    go_upto_region 1 with (fail)
    rw [← HV.out]
    go_wp2_with fail
    refine HP.out.mono ?_
    rintro e V2 ⟨rfl, hb⟩
    have HB2 := Lib.hid (btr HB.out hb)
    clear hb
    go_wp2
    refine bodyPost_ret (v := .tuple #[.string ⟨#[]⟩, .bool false]) (by simp [results, Tryz.results56, go_sem]) rfl ⟨[], false, rfl, HB2.out⟩
  | ok qs =>
    rw [hp] at HP
    obtain ⟨hc, hz⟩ := WP.parse_wt hp
    have HC := Lib.hid (And.intro hc hz)
    clear hp hc hz
    go_enter Tryz.func56, Tryz.ntmps56
    go_upto_region 1 with (fail)
    rw [← HV.out]
    go_wp2_with fail
    refine HP.out.mono ?_
    rintro e V2 ⟨A, cap, rfl, hb, hrep⟩
    have HB2 := Lib.hid (btr HB.out hb)
    have HLI := Lib.hid (Literal_any _ (gpL qs) V2 (stand9 (cap := cap) hrep) (by have := HC.out; omega) (by have := HC.out; omega))
    clear hb hrep
    go_wp2_with fail
    refine HLI.out.mono ?_
    rintro e V3 ⟨rfl, hb⟩
    have HB3 := Lib.hid (btr HB2.out hb)
    obtain ⟨x, hx⟩ : ∃ x, litStr (WP.glit (gpL qs)) = x := ⟨_, rfl⟩
    obtain ⟨b, hb2⟩ : ∃ b, (WP.glit (gpL qs)).isSome = b := ⟨_, rfl⟩
    rw [hx, hb2]
    clear hb hx hb2 HLI
    go_wp2
    refine bodyPost_ret (v := .tuple #[.string ⟨x.toArray⟩, .bool b]) (by simp [results, Tryz.results56, go_sem]) rfl ⟨x, b, rfl, HB3.out⟩
end W
end Go.Proofs.YtelhobphphkidaaGreatDoor
