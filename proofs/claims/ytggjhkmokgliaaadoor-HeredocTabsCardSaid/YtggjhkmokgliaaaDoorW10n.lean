/- Chapter 10: Read at one delimiter. -/
import Derived.Test.YtggjhkmokgliaaaDoorW10m
namespace Go.Proofs.YtggjhkmokgliaaaDoor
open Go.RowKit K
namespace W
theorem infoStr : (Tryd.prog.info? 9).map (fun i => (i.zero, i.size, i.bytes)) = some (some (.string ⟨#[]⟩), 1, 16) := by kernel_rfl
set_option maxRecDepth 100000 in
set_option maxHeartbeats 4000000 in
theorem Read_one (s : List UInt8) (b o cap : Nat) (t a : List UInt8) (n : Nat) (st q : Bool) (w : World) (hl : s.length ≤ 10000)
    (h0 : w.cell? ⟨b, o, none⟩ = some (.string ⟨t.toArray⟩)) (h1 : w.cell? ⟨b, o + 1, none⟩ = some (.bool st)) (h2 : w.cell? ⟨b, o + 2, none⟩ = some (.bool q)) (hd : P.docP st t (P.lns s) = some (a, n)) :
    Calls Tryd.prog 12 #[.string ⟨s.toArray⟩, .int .i64 0, .slice (some ⟨b, o, none⟩) 1 cap] w fun e w' => ∃ q c, e = .returned (.tuple #[.slice (some ⟨q, 0, none⟩) 1 c, .int .i64 n, .int .i64 0]) ∧ w'.cell? ⟨q, 0, none⟩ = some (.string ⟨a.toArray⟩) ∧ Below w.heap.size w w' := by
  obtain ⟨i0, hi, hz0, hz1, hz2⟩ := info_parts infoStr
  have HD := Lib.hid (fun w => document_any s 0 t st q w hl (Nat.zero_le _))
  simp only [List.drop_zero, hd] at HD
  clear hd
  have HD2 := Lib.hid (show ∀ w, Calls Tryd.prog 22 #[.string ⟨s.toArray⟩, .int .i64 0, .agg #[.string ⟨t.toArray⟩, .bool st, .bool q]] w fun e w' => e = .returned (.tuple #[.string ⟨a.toArray⟩, .int .i64 n, .bool true]) ∧ Below w.heap.size w w' from fun w => (HD.out w).mono fun e w' hp => ⟨by have := hp.1; rw [this]; simp, hp.2⟩)
  clear HD
  go_enter Tryd.func12, Tryd.ntmps12
  go_wp2
  go_loopw [1, 9, 25] (fun x l i wr => (x = .int .i64 0 ∧ l = .slice none 0 0 ∧ i = .int .i64 0 ∧ wr = w) ∨ (i = .int .i64 1 ∧ x = .int .i64 n ∧ (∃ q c, l = .slice (some ⟨q, 0, none⟩) 1 c ∧ wr.cell? ⟨q, 0, none⟩ = some (.string ⟨a.toArray⟩)) ∧ Hid (Below w.heap.size w wr))) (fun _ _ i _ => 1 - (intOf i).toNat)
  case atStart => exact .inl ⟨rfl, rfl, rfl, rfl⟩
  case round =>
    rcases hrel with ⟨rfl, rfl, rfl, rfl⟩ | ⟨rfl, rfl, ⟨A, c, rfl, hA⟩, HB⟩
    · go_wp2_with fail
      refine (HD2.out _).mono ?_
      rintro e w2 ⟨rfl, hb2⟩
      have HB2 := Lib.hid (btr (balloc _ _) hb2)
      clear hb2
      have hws := HB2.out.size
      go_wp2_with (at_builtin; refine wpList_append_own _ rfl _ _ 25 rfl wr.heap.size 9 i0 (.string ⟨#[]⟩) 1 16 Tryd.underlying25 hi hz0 hz1 hz2 rfl (by decide) _ 0 [] rfl ⟨rfl, .inl ⟨rfl, rfl⟩⟩ ⟨w2.heap.size, 0, none⟩ 1 1 [.string ⟨a.toArray⟩] rfl rfl (one_cells w2 _ _) (by intro u hu; simp at hu; subst hu; rfl) (by unfold maxLen; omega) (by omega) (by simp; omega) ?_)
      intro v' w3 hown hgrow _
      obtain ⟨q3, cap3, rfl⟩ : ∃ q cap, v' = .slice (some ⟨q, 0, none⟩) 1 cap := by
        rcases hown.2 with ⟨_, h2⟩ | ⟨q, cap, cur, hv, _⟩
        · cases h2
        · exact ⟨q, cap, hv⟩
      have hcell : w3.cell? ⟨q3, 0, none⟩ = some (.string ⟨a.toArray⟩) := hown.cells (g := q3) rfl 0 _ rfl
      have HB3 := Lib.hid (show Below wr.heap.size wr w3 from (HB2.out.alloc (by omega) _).grown hgrow (by simp; omega) (fun k hk => by simp [Value.ownBlock] at hk))
      have HC := Lib.hid hcell
      clear hown hgrow hcell
      go_wp2
      go_roundw
      case rel => exact .inr ⟨by go_num, rfl, ⟨_, _, rfl, HC.out⟩, HB3.out⟩
      case measure => simp [intOf]
    · go_wp2
      go_ret3
      exact ⟨A, c, rfl, hA, HB.out⟩
end W
end Go.Proofs.YtggjhkmokgliaaaDoor
