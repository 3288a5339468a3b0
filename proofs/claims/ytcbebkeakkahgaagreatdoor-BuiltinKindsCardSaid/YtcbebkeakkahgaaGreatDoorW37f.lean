/- Built-in commands without operands; printed by gen37f.py. -/
import Derived.Test.YtcbebkeakkahgaaGreatDoorW37e
import Derived.Lib.LazyBuf
namespace Go.Proofs.YtcbebkeakkahgaaGreatDoor
open Go.RowKit K
namespace W
set_option maxRecDepth 100000
/-- The box is there, of 40 cells; of the rest nothing has turned. -/
def KC (W : World) (g : Nat) (e : Ending) (w' : World) : Prop := e = .returned (.tuple #[]) ∧ (∃ cs : Array Value, w'.heap[g]? = some (.cells cs 45 (0, 0)) ∧ cs.size = 40 ∧ cs.all (·.oneCell') = true) ∧ OneBox g W w'
theorem KC.of {W w' : World} {g : Nat} {vv pv : Value} {op : Int} {out er : List UInt8} {st act n : Int} {tx : List UInt8} {ra bp fl : Value} {nm : List UInt8} {ag : Value} (h : CB w' g vv pv op out er st act n tx ra bp fl nm ag) (ho : OneBox g W w') (h1 : vv.oneCell' = true) (h2 : pv.oneCell' = true) (h3 : ra.oneCell' = true) (h4 : bp.oneCell' = true) (h5 : fl.oneCell' = true) (h6 : ag.oneCell' = true) : KC W g (.returned (.tuple #[])) w' :=
  by
  have c1 : ∀ s, (Value.string s).oneCell' = true := fun _ => rfl
  have c2 : ∀ k i, (Value.int k i).oneCell' = true := fun _ _ => rfl
  have c3 : ∀ b, (Value.bool b).oneCell' = true := fun _ => rfl
  have c4 : ∀ A n c, (Value.slice A n c).oneCell' = true := fun _ _ _ => rfl
  exact ⟨rfl, ⟨_, h, rfl, by simp [h1, h2, h3, h4, h5, h6, c1, c2, c3, c4]⟩, ho⟩
theorem Clone_any (A : Option Addr) (n c : Nat) (l : List (List UInt8)) (w : World) (h : SV w (.slice A n c) l) (hl : l.length ≤ 1000) : Calls Tryz.prog 143 #[.slice A n c] w fun e w' => ∃ A' c', e = .returned (.slice A' n c') ∧ SV w' (.slice A' n c') l ∧ Below w.heap.size w w' := by
  have hn : n = l.length := by obtain ⟨A0, c0, h1, -⟩ := h; injection h1
  subst hn
  obtain ⟨i0, hi, hz0, hz1, hz2⟩ := info_parts infoStr
  have qn : ∀ (w : World) (a : Option Addr) (n c n' c' : Nat), (binOp .eql 26 (.slice a n c) (.slice none n' c')).run Tryz.prog w = .ok (.bool a.isNone) w := fun w a n c n' c' => Lib.run_eql_slice_nil w _ _ a n c n' c' Tryz.underlying26
  cases A with
  | none =>
    have hl0 : l = [] := by
      obtain ⟨A0, c0, h0, hc, hr⟩ := h
      injection h0 with e1
      subst e1
      rcases hr with hr | ⟨b, off, h, _⟩
      · exact hr
      · cases h
    subst hl0
    clear h
    go_enter Tryz.func143, Tryz.ntmps143
    go_wp2
    go_ret
    exact ⟨none, 0, rfl, RV.nil _, Below.refl _ _⟩
  | some a =>
    obtain ⟨X, hX⟩ : ∃ X, X = w.alloc (.cells #[] 9) := ⟨_, rfl⟩
    have HX := Lib.hid hX
    obtain ⟨v', W', hrun, hor, hbw⟩ := app_zero hi hz0 hz1 hz2 X w.heap.size (by rw [hX]; exact al_new _ _) (some a) l.length c l (h.below (by rw [hX]; exact balloc _ _)) hl
    obtain ⟨A', c', rfl⟩ := hor.val
    have HO := Lib.hid (hor.rv es_len)
    have HB := Lib.hid (show Below w.heap.size w W' from (show Below w.heap.size w X by rw [hX]; exact balloc _ _).trans hbw)
    have hr2 := hrun
    rw [hX] at hr2
    have HR2 := Lib.hid hr2
    clear hX h hor hbw hrun hr2
    go_enter Tryz.func143, Tryz.ntmps143
    go_wp2_with (at_builtin; refine append_eqT rfl _ _ 26 rfl _ _ _ rfl rfl HR2.out ?_)
    go_ret
    exact ⟨A', c', rfl, HO.out, HB.out⟩
section
variable {W : World} {g : Nat} {vv pv : Value} {op : Int} {out er : List UInt8} {st act n : Int} {tx : List UInt8} {ra bp fl : Value} {nm : List UInt8} {GA : Option Addr} {gn gc : Nat} {l : List (List UInt8)}
theorem list_any (h : CB W g vv pv op out er st act n tx ra bp fl nm (.slice GA gn gc)) (hv : SV W (.slice GA gn gc) l) (hl : l.length ≤ 1000) : Calls Tryz.prog 99 #[.pointer (some ⟨g, 0, none⟩)] W fun e w' => ∃ A' c', e = .returned (.slice A' gn c') ∧ SV w' (.slice A' gn c') l ∧ Below W.heap.size W w' := by
  have HC := Lib.hid (Clone_any GA gn gc l W hv hl)
  have e39 : W.cell? ⟨g, 39, none⟩ = some (.slice GA gn gc) := Lib.cell_of_heap h 39
  have hg := h.lt
  clear h hv
  go_enter Tryz.func99, Tryz.ntmps99
  go_wp2_with fail
  refine HC.out.mono ?_
  rintro e Y ⟨A', c', rfl, h1, h2⟩
  have H1 := Lib.hid h1
  have H2 := Lib.hid h2
  clear h1 h2
  go_wp2
  go_ret
  exact ⟨A', c', rfl, H1.out, H2.out⟩
set_option maxHeartbeats 4000000 in
theorem act_any (h : CB W g vv pv op out er st act n tx ra bp fl nm (.slice GA gn gc)) (hv : SV W (.slice GA gn gc) l) (hl : l.length ≤ 1000) (k : Int) : Calls Tryz.prog 55 #[.pointer (some ⟨g, 0, none⟩), .int .i64 k] W fun e w' => ∃ A' c', e = .returned (.tuple #[]) ∧ CB w' g vv pv op out er st k n tx (.slice A' gn c') bp fl nm (.slice GA gn gc) ∧ OneBox g W w' := by
  have HL := Lib.hid (list_any h hv hl)
  have H := Lib.hid h
  have hg := h.lt
  clear h hv
  go_enter Tryz.func55, Tryz.ntmps55
  go_wp2_with fail
  refine HL.out.mono ?_
  rintro e Y ⟨A', c', rfl, h1, h2⟩
  have hy := H.out.below h2
  have e18 : Y.cell? ⟨g, 18, none⟩ = some (.int .i64 act) := Lib.cell_of_heap hy 18
  have e21 : Y.cell? ⟨g, 21, none⟩ = some ra := Lib.cell_of_heap hy 21
  have f18 : Y.frozen? ⟨g, 18, none⟩ = false := Lib.frozen_of_heap hy 18
  have f21 : Y.frozen? ⟨g, 21, none⟩ = false := Lib.frozen_of_heap hy 21
  have hyl := hy.lt
  have HC := Lib.hid ((hy.set_act k).set_ra (.slice A' gn c'))
  have HB := Lib.hid ((OneBox.of hg h2).trans (((OneBox.refl g Y).set 18 (.int .i64 k)).set 21 (.slice A' gn c')))
  clear hy h1 h2
  go_wp2
  first | go_end0 | refine bodyPost_ret (results_none rfl _ _ _) rfl ?_
  exact ⟨A', c', rfl, HC.out, HB.out⟩
end
section
variable {W : World} {g : Nat} {fl : Value} {nm : List UInt8} {GA : Option Addr} {gc : Nat}
/-- The box when a command without operands begins. -/
abbrev CI (W : World) (g : Nat) (fl : Value) (nm : List UInt8) (GA : Option Addr) (gc : Nat) : Prop := CB W g (.slice none 0 0) (.slice none 0 0) (0) ([]) ([]) (0) (0) (0) ([]) (.slice none 0 0) (.slice none 0 0) (fl) (nm) (.slice GA 0 gc)
theorem find_nil (fv : Value) (w : World) : Calls Tryz.prog 102 #[.slice none 0 0, fv] w fun e w' => e = .returned (.int .i64 (-1)) ∧ w' = w := by
  go_enter Tryz.func102, Tryz.ntmps102
  go_wp2
  go_loopw [9] (fun i wr => i = .int .i64 0 ∧ wr = w) (fun _ _ => 0)
  case atStart => exact ⟨rfl, rfl⟩
  case round =>
    obtain ⟨rfl, rfl⟩ := hrel
    go_wp2
    go_ret
    exact ⟨rfl, rfl⟩
theorem Show_nil (w : World) : Calls Tryz.prog 79 #[.slice none 0 0] w fun e w' => e = .returned (.slice none 0 0) ∧ w' = w := by
  go_enter Tryz.func79, Tryz.ntmps79
  go_wp2
  go_loopw [3, 9] (fun r i wr => r = .slice none 0 0 ∧ i = .int .i64 0 ∧ wr = w) (fun _ _ _ => 0)
  case atStart => exact ⟨rfl, rfl, rfl⟩
  case round =>
    obtain ⟨rfl, rfl, rfl⟩ := hrel
    go_wp2
    go_ret
    exact ⟨rfl, rfl⟩
theorem CI.c39 (h : CI W g fl nm GA gc) : W.cell? ⟨g, 39, none⟩ = some (.slice GA 0 gc) := Lib.cell_of_heap h 39
theorem types_no (h : CI W g fl nm GA gc) (hfl : fl.oneCell' = true) : Calls Tryz.prog 28 #[.pointer (some ⟨g, 0, none⟩)] W (KC W g) := by
  have e39 := h.c39
  have hg := h.lt
  have HK := Lib.hid (KC.of h (OneBox.refl g W) rfl rfl rfl rfl hfl rfl)
  clear h
  go_enter Tryz.func28, Tryz.ntmps28
  go_wp2
  go_loopw [11] (fun i wr => i = .int .i64 0 ∧ wr = W) (fun _ _ => 0)
  case atStart => exact ⟨rfl, rfl⟩
  case round =>
    obtain ⟨rfl, rfl⟩ := hrel
    go_wp2
    first | go_end0 | refine bodyPost_ret (results_none rfl _ _ _) rfl ?_
    exact HK.out
theorem shift_no (h : CI W g fl nm GA gc) (hfl : fl.oneCell' = true) (hn : nm.length ≤ 100000) : Calls Tryz.prog 33 #[.pointer (some ⟨g, 0, none⟩)] W (KC W g) := by
  have e39 := h.c39
  have e2 : W.cell? ⟨g, 2, none⟩ = some (.slice none 0 0) := Lib.cell_of_heap h 2
  have hg := h.lt
  have HF := Lib.hid (fail_any h [110, 111, 116, 32, 101, 110, 111, 117, 103, 104, 32, 112, 97, 114, 97, 109, 101, 116, 101, 114, 115] (by simp) hn (by decide))
  have HM := Lib.hid (most_ok GA 0 gc h 1 (by omega))
  have HC := Lib.hid (show Calls Tryz.prog 72 #[.pointer (some ⟨g, 0, none⟩), .int .i64 1] W fun e w' => e = .returned (.tuple #[.int .i64 1, .bool true]) ∧ w' = W from by
    clear HF
    go_enter Tryz.func72, Tryz.ntmps72
    go_wp2_with fail
    refine HM.out.mono ?_
    rintro e Y ⟨rfl, hY⟩
    obtain rfl : W = Y := hY.symm
    go_wp2
    go_ret2
    exact ⟨rfl, rfl⟩)
  clear h
  go_enter Tryz.func33, Tryz.ntmps33
  go_wp2_with fail
  refine HC.out.mono ?_
  rintro e Y ⟨rfl, hY⟩
  obtain rfl : W = Y := hY.symm
  go_wp2_with fail
  refine HF.out.mono ?_
  rintro e Y ⟨rfl, hc, ho⟩
  go_wp2
  first | go_end0 | refine bodyPost_ret (results_none rfl _ _ _) rfl ?_
  exact KC.of hc ho rfl rfl rfl rfl hfl rfl
theorem kill_no (hC : CopyAt none 0 0 []) (h : CI W g fl nm GA gc) (hfl : fl.oneCell' = true) (hn : nm.length ≤ 100000) : Calls Tryz.prog 37 #[.pointer (some ⟨g, 0, none⟩)] W (KC W g) := by
  have e39 := h.c39
  have hg := h.lt
  have HU := Lib.hid (usage_any hC h (RV.nil _) (by simp) [109, 105, 115, 115, 105, 110, 103, 32, 112, 114, 111, 99, 101, 115, 115] hn (by decide))
  clear h
  go_enter Tryz.func37, Tryz.ntmps37
  go_wp2_with fail
  refine HU.out.mono ?_
  rintro e Y ⟨A1, c1, rfl, hc, ho⟩
  go_wp2
  first | go_end0 | refine bodyPost_ret (results_none rfl _ _ _) rfl ?_
  exact KC.of hc ho rfl rfl rfl rfl hfl rfl
theorem getopts_no (hC : CopyAt none 0 0 []) (h : CI W g fl nm GA gc) (hfl : fl.oneCell' = true) (hn : nm.length ≤ 100000) : Calls Tryz.prog 35 #[.pointer (some ⟨g, 0, none⟩)] W (KC W g) := by
  have e39 := h.c39
  have hg := h.lt
  have HU := Lib.hid (usage_any hC h (RV.nil _) (by simp) [109, 105, 115, 115, 105, 110, 103, 32, 97, 114, 103, 117, 109, 101, 110, 116, 115] hn (by decide))
  clear h
  go_enter Tryz.func35, Tryz.ntmps35
  go_wp2_with fail
  refine HU.out.mono ?_
  rintro e Y ⟨A1, c1, rfl, hc, ho⟩
  go_wp2
  first | go_end0 | refine bodyPost_ret (results_none rfl _ _ _) rfl ?_
  exact KC.of hc ho rfl rfl rfl rfl hfl rfl
end
end W
end Go.Proofs.YtcbebkeakkahgaaGreatDoor
