/- Chapter 34: the library's and the program's tables; the names of signals. -/
import Derived.Test.YtfigidknocpdaaaDoorChecked
import Derived.Test.YtfigidknocpdaaaDoorP34
import Derived.Test.YtfigidknocpdaaaDoorShelf
import Derived.WalkSmall
import Derived.Laws.Rows
import Derived.Lib.LaidTab
namespace Go.Proofs.YtfigidknocpdaaaDoor
open Go.RowKit K
namespace W

theorem btr {a b c : World} (h : Below a.heap.size a b) (k : Below b.heap.size b c) : Below a.heap.size a c := h.trans (k.mono h.size)
def namesV : Array Value := (P.names.map fun s => Value.string ⟨s.toArray⟩).toArray
theorem namesV_size : namesV.size = 21 := by simp [namesV, P.names_len]
theorem namesV_at (k : Nat) (h : k < 21) : namesV[k]? = some (.string ⟨(P.names.getD k []).toArray⟩) := by
  have h' : k < P.names.length := by rw [P.names_len]; exact h
  unfold namesV
  simp only [List.getElem?_toArray, List.getElem?_map, List.getD_eq_getElem?_getD, List.getElem?_eq_getElem h', Option.map_some, Option.getD_some]
/-- What the library's and the program's variables hold. -/
structure Env (w : World) : Prop where
  maxlen : ∃ m, w.cell? ⟨2, 0, none⟩ = some (.int .i64 m)
  pows : Lib.TabIs Tryd.prog w "internal/strconv.uint64pow10" .u64 Lib.pow10Tab
  nms : w.var? Tryd.prog "jobshell/signal.names" = some namesV
theorem gPow : Tryd.prog.globalNamed "internal/strconv.uint64pow10" = some 1 := by kernel_rfl
theorem gNames : Tryd.prog.globalNamed "jobshell/signal.names" = some 0 := by kernel_rfl
theorem lt_cell {w : World} {g o : Nat} {v : Value} (h : w.cell? ⟨g, o, none⟩ = some v) : g < w.heap.size := by
  rcases Nat.lt_or_ge g w.heap.size with h' | h'
  · exact h'
  · simp [World.cell?, Array.getElem?_eq_none h'] at h
theorem Env.ncell {w : World} (h : Env w) (k : Nat) (hk : k < 21) : w.cell? ⟨0, k, none⟩ = some (.string ⟨(P.names.getD k []).toArray⟩) :=
  (World.var?_cell gNames h.nms k).trans (namesV_at k hk)
theorem Env.below {w w' : World} (h : Env w) (hb : Below w.heap.size w w') : Env w' := by
  obtain ⟨m, h1⟩ := h.maxlen
  have l1 := lt_cell h1
  have l2 := lt_cell (h.pows.cell gPow 0 (by rw [Lib.pow10Tab_length]; omega))
  have l3 := lt_cell (h.ncell 0 (by omega))
  exact ⟨⟨m, (hb.cell (p := ⟨2, 0, none⟩) l1).trans h1⟩, var?_below hb gPow l2 h.pows, var?_below hb gNames l3 h.nms⟩
theorem Env.nblock {w : World} (h : Env w) : ∃ t fr, w.heap[0]? = some (.cells namesV t fr) := by
  have h1 := h.nms
  simp only [World.var?, gNames, Option.bind_some] at h1
  split at h1
  · rename_i cs t fr hc
    injection h1 with h1
    subst h1
    exact ⟨t, fr, hc⟩
  · cases h1

theorem Name_any (n : Int) (w : World) (hw : Env w) :
    Calls Tryd.prog 33 #[.int .i64 n] w fun e w' => e = .returned (.string ⟨(P.nameL n).toArray⟩) ∧ w = w' := by
  by_cases h0 : n < 0
  · have HN := Lib.hid (show P.nameL n = [] by unfold P.nameL; rw [if_neg (by omega)])
    rw [HN.out]
    go_enter Tryd.func33, Tryd.ntmps33
    go_wp2
    go_ret
    exact ⟨rfl, rfl⟩
  · by_cases h1 : 21 ≤ n
    · have HN := Lib.hid (show P.nameL n = [] by unfold P.nameL; rw [if_neg (by omega)])
      rw [HN.out]
      go_enter Tryd.func33, Tryd.ntmps33
      go_wp2
      go_ret
      exact ⟨rfl, rfl⟩
    · obtain ⟨k, rfl⟩ := Int.eq_ofNat_of_zero_le (show 0 ≤ n by omega)
      have hk : k < 21 := by omega
      have hc := hw.ncell k hk
      rw [P.nameL_at k hk]
      have g0 : (0 : Int) ≤ (k : Int) := by omega
      have g1 : (k : Int) < 21 := by omega
      clear hw
      generalize P.names.getD k [] = s at *
      go_enter Tryd.func33, Tryd.ntmps33
      go_wp2
      go_ret
      exact ⟨rfl, rfl⟩
theorem Itoa_k (k : Nat) (w : World) (h : k < 100) :
    Calls Tryd.prog 45 #[.int .i64 k] w fun e w' => e = .returned (.string ⟨(Lib.itoa k).toArray⟩) ∧ w = w' :=
  (Tryd.strconv_Itoa_small k h w).mono fun _ _ ⟨h1, h2⟩ => ⟨h1.trans (by unfold Lib.itoa; rw [if_neg (by omega)]; rfl), h2.symm⟩
/-- A number that may lack. -/
def optI (o : Option Int) : Ending := .returned (.tuple #[.int .i64 (o.getD 0), .bool o.isSome])
theorem index_names (k : Nat) (h : k < 21) (w : World) : (Instr.index 63 (.agg namesV) (.int .i64 k)).run Tryd.prog w = .ok (.string ⟨(P.names.getD k []).toArray⟩) w := by
  have hc : k = 0 ∨ k = 1 ∨ k = 2 ∨ k = 3 ∨ k = 4 ∨ k = 5 ∨ k = 6 ∨ k = 7 ∨ k = 8 ∨ k = 9 ∨ k = 10 ∨ k = 11 ∨ k = 12 ∨ k = 13 ∨ k = 14 ∨ k = 15 ∨ k = 16 ∨ k = 17 ∨ k = 18 ∨ k = 19 ∨ k = 20 := by omega
  rcases hc with rfl | rfl | rfl | rfl | rfl | rfl | rfl | rfl | rfl | rfl | rfl | rfl | rfl | rfl | rfl | rfl | rfl | rfl | rfl | rfl | rfl
  all_goals (show _ = _; kernel_rfl)
set_option maxHeartbeats 1000000 in
theorem Number_any (s : List UInt8) (w : World) (hw : Env w) :
    Calls Tryd.prog 31 #[.string ⟨s.toArray⟩] w fun e w' => e = optI (P.number s) ∧ w = w' := by
  obtain ⟨R, hR⟩ : ∃ R, P.number s = R := ⟨_, rfl⟩
  rw [hR]
  have HR := Lib.hid hR
  clear hR
  obtain ⟨t, fr, hblk⟩ := hw.nblock
  have HBK := Lib.hid hblk
  have HIX := Lib.hid (index_names)
  obtain ⟨NV, hNV⟩ : ∃ NV, namesV = NV := ⟨_, rfl⟩
  have hns : NV.size = 21 := by rw [← hNV, namesV_size]
  rw [hNV] at HBK HIX
  have HNS := Lib.hid hns
  clear hNV hblk hw hns
  go_enter Tryd.func31, Tryd.ntmps31
  go_wp2_with (refine wpList_load_row rfl 63 _ rfl 0 rfl t NV fr _ HBK.out Tryd.underlying63 rfl (by rw [HNS.out]; kernel_rfl) ?_)
  go_loop [7] (fun i => ∃ k : Nat, k ≤ 21 ∧ i = .int .i64 k ∧ Hid (P.numAt s (21 - k) k = R)) (fun i => 21 - (intOf i).toNat)
  case atStart => exact ⟨0, by omega, rfl, HR.out⟩
  case round =>
    obtain ⟨k, hk, rfl, HN⟩ := hrel
    by_cases hlt : k < 21
    · have g0 : ((k : Int) < 21) = True := eq_true (by omega)
      have HST := Lib.hid (show P.numAt s (21 - k) k = if P.names.getD k [] ≠ [] ∧ (s = P.names.getD k [] ∨ s = Lib.itoa k) then some (k : Int) else P.numAt s (21 - (k + 1)) (k + 1) by rw [show 21 - k = (21 - (k + 1)) + 1 by omega, P.numAt])
      have hix := fun w => HIX.out k hlt w
      have HIT := Lib.hid (fun w => Itoa_k k w (by omega))
      generalize P.names.getD k [] = nm at *
      generalize Lib.itoa k = it at *
      by_cases h1 : nm = []
      · subst h1
        have HF := Lib.hid (show P.numAt s (21 - (k + 1)) (k + 1) = R by rw [← HN.out, HST.out, if_neg (by simp)])
        go_wp2
        go_round
        case rel => exact ⟨k + 1, by omega, by go_num, HF.out⟩
        case measure => simp [intOf]; omega
      · have hne : nm.isEmpty = false := by cases nm; simp at h1; rfl
        by_cases h2 : s = nm
        · subst h2
          have HF := Lib.hid (show R = some (k : Int) by rw [← HN.out, HST.out, if_pos ⟨h1, .inl rfl⟩])
          clear h1
          go_wp2
          go_ret2
          exact ⟨by rw [HF.out]; rfl, rfl⟩
        · have e2 : (s == nm) = false := by simp [h2]
          by_cases h3 : s = it
          · have e3 : (s == it) = true := by simp [h3]
            have HF := Lib.hid (show R = some (k : Int) by rw [← HN.out, HST.out, if_pos ⟨h1, .inr h3⟩])
            clear h1 h2 h3
            go_wp2_with (go_at_call 45; refine (HIT.out _).mono ?_; rintro e w' ⟨rfl, rfl⟩)
            go_ret2
            exact ⟨by rw [HF.out]; rfl, rfl⟩
          · have e3 : (s == it) = false := by simp [h3]
            have HF := Lib.hid (show P.numAt s (21 - (k + 1)) (k + 1) = R by rw [← HN.out, HST.out, if_neg (by rintro ⟨_, h | h⟩; exact h2 h; exact h3 h)])
            clear h1 h2 h3
            go_wp2_with (go_at_call 45; refine (HIT.out _).mono ?_; rintro e w' ⟨rfl, rfl⟩)
            go_round
            case rel => exact ⟨k + 1, by omega, by go_num, HF.out⟩
            case measure => simp [intOf]; omega
    · obtain rfl : k = 21 := by omega
      have HF := Lib.hid (show R = none by rw [← HN.out]; rfl)
      go_wp2
      go_ret2
      exact ⟨by rw [HF.out]; rfl, rfl⟩
theorem NameR_any (n : Int) (w : World) :
    Calls Tryd.prog 34 #[.int .i64 n] w fun e w' => e = .returned (.string ⟨(P.nameL n).toArray⟩) ∧ w = w' := by
  by_cases h : 0 ≤ n ∧ n < 21
  · obtain ⟨k, rfl⟩ := Int.eq_ofNat_of_zero_le h.1
    have hk : k < 21 := by omega
    clear h
    have hc : k = 0 ∨ k = 1 ∨ k = 2 ∨ k = 3 ∨ k = 4 ∨ k = 5 ∨ k = 6 ∨ k = 7 ∨ k = 8 ∨ k = 9 ∨ k = 10 ∨ k = 11 ∨ k = 12 ∨ k = 13 ∨ k = 14 ∨ k = 15 ∨ k = 16 ∨ k = 17 ∨ k = 18 ∨ k = 19 ∨ k = 20 := by omega
    clear hk
    rcases hc with rfl | rfl | rfl | rfl | rfl | rfl | rfl | rfl | rfl | rfl | rfl | rfl | rfl | rfl | rfl | rfl | rfl | rfl | rfl | rfl | rfl
    all_goals
      go_enter Tryd.func34, Tryd.ntmps34
      go_wp2
      go_ret
      exact ⟨rfl, rfl⟩
  · have HN := Lib.hid (show P.nameL n = [] by unfold P.nameL; rw [if_neg h])
    rw [HN.out]
    have e1 : (n == 1) = false := by simp; omega
    have e2 : (n == 2) = false := by simp; omega
    have e3 : (n == 3) = false := by simp; omega
    have e4 : (n == 4) = false := by simp; omega
    have e5 : (n == 5) = false := by simp; omega
    have e9 : (n == 9) = false := by simp; omega
    have e10 : (n == 10) = false := by simp; omega
    have e12 : (n == 12) = false := by simp; omega
    have e13 : (n == 13) = false := by simp; omega
    have e14 : (n == 14) = false := by simp; omega
    have e15 : (n == 15) = false := by simp; omega
    have e17 : (n == 17) = false := by simp; omega
    have e18 : (n == 18) = false := by simp; omega
    have e19 : (n == 19) = false := by simp; omega
    have e20 : (n == 20) = false := by simp; omega
    clear h
    go_enter Tryd.func34, Tryd.ntmps34
    go_wp2
    go_ret
    exact ⟨rfl, rfl⟩
end W
end Go.Proofs.YtfigidknocpdaaaDoor
