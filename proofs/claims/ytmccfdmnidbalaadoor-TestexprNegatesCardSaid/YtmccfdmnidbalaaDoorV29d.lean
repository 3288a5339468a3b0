/- Chapter 29: the law TestexprNegates walked. -/
import Derived.Test.YtmccfdmnidbalaaDoorP29h
import Derived.Test.YtmccfdmnidbalaaDoorV29c
namespace Go.Proofs.YtmccfdmnidbalaaDoor
open Go.RowKit K
namespace W
/-- A value that reads as a list of strings. -/
def StV (w : World) (v : Value) (ls : List (List UInt8)) : Prop := ∃ A c, v = .slice A ls.length c ∧ ls.length ≤ c ∧ c ≤ 8796093022208 ∧ (A = none → c = 0) ∧ SL w A ls
theorem StV.below {w w' : World} {v : Value} {ls : List (List UInt8)} (h : StV w v ls) (hb : Below w.heap.size w w') : StV w' v ls := by
  obtain ⟨A, c, h1, h2, h3, h4, h5⟩ := h
  exact ⟨A, c, h1, h2, h3, h4, h5.below hb⟩
theorem StV.rv {w : World} {v : Value} {ls : List (List UInt8)} (h : StV w v ls) : RV w v ls := by
  obtain ⟨A, c, h1, h2, h3, h4, h5⟩ := h
  exact ⟨A, c, h1, h2, by omega, h5⟩
theorem lit_own (w : World) (s : List UInt8) (t : TypeId) : (w.alloc (.cells #[.string ⟨s.toArray⟩] t)).ownsRow w.heap.size t 1 (.slice (some ⟨w.heap.size, 0, none⟩) 1 1) 1 ([s].map fun s => Value.string ⟨s.toArray⟩) := by
  refine ⟨rfl, .inr ⟨w.heap.size, 1, #[.string ⟨s.toArray⟩], rfl, Nat.le_refl _, heap_alloc_new w _, Nat.le_refl _, by unfold maxLen; omega, ?_⟩⟩
  simp
theorem info_str : (Tryd.prog.info? 9).map (fun i => (i.zero, i.size, i.bytes)) = some (some (.string ⟨#[]⟩), 1, 16) := by kernel_rfl
set_option maxHeartbeats 4000000 in
set_option maxRecDepth 100000 in
theorem TestexprNegates_any (v : Value) (ls : List (List UInt8)) (f : Value) (fs : List Fi) (w : World) (hA : StV w v ls) (hV : FV w f fs) (hw : Env w) :
    Calls Tryd.prog 3 #[v, f] w fun e w' => e = .returned (.bool true) ∧ Below w.heap.size w w' := by
  have HA := Lib.hid (fun w' (hb : Below w.heap.size w w') => awake_any w' (hw.below hb))
  obtain ⟨i0, hi, hz0, hz1, hz2⟩ := info_parts info_str
  have HI := Lib.hid (And.intro hi (And.intro hz0 (And.intro hz1 hz2)))
  clear hi hz0 hz1 hz2
  have HRV := Lib.hid (fun w' (hb : Below w.heap.size w w') => (hA.below hb).rv)
  have HEV := Lib.hid (fun (ok : SmallOK ls fs [47]) w1 (hb : Below w.heap.size w w1) (v1 : Value) ls1 (h1 : RV w1 v1 ls1) (hs : ∀ s ∈ ls1, SOK s) => Eval_of w1 f [47] fs ⟨hw.below hb, hV.below hb, by have := ok.nf; omega, by decide, path_all _⟩ v1 ls1 h1 hs)
  have HST := Lib.hid (fun w' (hb : Below w.heap.size w w') => hA.below hb)
  obtain ⟨A, cap, rfl, hc1, hc2, hc3, hSL⟩ := hA
  have HS := Lib.hid (small_any (.slice A ls.length cap) f ls fs [47] w ⟨_, _, rfl, hSL⟩ (by omega) hV)
  obtain ⟨Af, capf, rfl, hf1, hf2, hF⟩ := hV
  have HSL := Lib.hid hSL
  have H3 := Lib.hid hc3
  clear hF hw hSL hc3
  obtain ⟨n, hn⟩ : ∃ n, n = ls.length := ⟨_, rfl⟩
  have HN := Lib.hid hn
  rw [← hn] at hc1 HS HRV HST ⊢
  clear hn
  go_enter Tryd.func3, Tryd.ntmps3
  go_wp2_with fail
  refine HS.out.mono ?_
  rintro e w1 ⟨⟨b, rfl, hok⟩, hb1⟩
  have HB1 := Lib.hid hb1
  clear hb1
  cases b with
  | false =>
    go_wp2_with fail
    refine (HA.out _ HB1.out).mono ?_
    rintro e w2 ⟨rfl, hb2⟩
    have HB2 := Lib.hid (btr HB1.out hb2)
    clear hb2
    go_wp2
    go_ret
    exact ⟨rfl, HB2.out⟩
  | true =>
  have HOK := Lib.hid (hok rfl)
  clear hok
  rcases Nat.lt_or_ge n 1 with h1 | h1
  · have t1 : ((n : Int) < 1) = True := eq_true (by omega)
    clear h1
    go_wp2_with fail
    refine (HA.out _ HB1.out).mono ?_
    rintro e w2 ⟨rfl, hb2⟩
    have HB2 := Lib.hid (btr HB1.out hb2)
    clear hb2
    go_wp2
    go_ret
    exact ⟨rfl, HB2.out⟩
  have t1 : ((n : Int) < 1) = False := eq_false (by omega)
  rcases Nat.lt_or_ge 3 n with h3 | h3
  · have t2 : (3 < (n : Int)) = True := eq_true (by omega)
    clear h1 h3
    go_wp2_with fail
    refine (HA.out _ HB1.out).mono ?_
    rintro e w2 ⟨rfl, hb2⟩
    have HB2 := Lib.hid (btr HB1.out hb2)
    clear hb2
    go_wp2
    go_ret
    exact ⟨rfl, HB2.out⟩
  have t2 : (3 < (n : Int)) = False := eq_false (by omega)
  have HNN := Lib.hid (And.intro h1 h3)
  obtain ⟨k, off, rfl, hk, c0⟩ := (HSL.out.below HB1.out).get (k := 0) (by rw [← HN.out]; omega)
  rw [Nat.add_zero] at c0
  obtain ⟨s, hs⟩ : ∃ s, s = ls.getD 0 [] := ⟨_, rfl⟩
  have HSD := Lib.hid hs
  rw [← hs] at c0
  clear hs
  have p0 : (0 : Int) < (n : Int) := by omega
  have p1 : (0 < n) = True := eq_true (by omega)
  by_cases hbar : n = 2 ∧ P.barred s
  · obtain ⟨rfl, hbar⟩ := hbar
    unfold P.barred at hbar
    rcases hbar with rfl | rfl | rfl | rfl | rfl | rfl | rfl | rfl | rfl | rfl
    all_goals
      clear t1 t2 h1 h3 p0 p1
      go_wp2_with fail
      refine (HA.out _ HB1.out).mono ?_
      rintro e w2 ⟨rfl, hb2⟩
      have HB2 := Lib.hid (btr HB1.out hb2)
      clear hb2
      go_wp2
      go_ret
      exact ⟨rfl, HB2.out⟩
  have HOPP := Lib.hid (P.negates (P.lookF fs [47]) ls (by rw [← HN.out]; exact h1) (by rw [← HN.out]; exact h3) (fun h => by
    rw [← HSD.out]
    exact P.open_barred fun hb => hbar ⟨by rw [HN.out]; exact h, hb⟩))
  have hcase : (((n : Int) == 2) = false) ∨ (((n : Int) == 2) = true ∧ (s == [61]) = false ∧ (s == [33, 61]) = false ∧ (s == [45, 101, 113]) = false ∧ (s == [45, 110, 101]) = false ∧ (s == [45, 108, 116]) = false ∧ (s == [45, 108, 101]) = false ∧ (s == [45, 103, 116]) = false ∧ (s == [45, 103, 101]) = false ∧ (s == [45, 97]) = false ∧ (s == [45, 111]) = false) := by
    by_cases h : n = 2
    · exact .inr ⟨by simp [h], P.not_barred fun hb => hbar ⟨h, hb⟩⟩
    · exact .inl (by simp; omega)
  clear hbar h1 h3
  have HSO := Lib.hid (fun s hs => sok_all s (Nat.le_trans (HOK.out.la s hs) (by omega)))
  have HE1 := Lib.hid (HEV.out HOK.out w1 HB1.out _ ls (HRV.out _ HB1.out) HSO.out)
  have HE2 := Lib.hid (fun w2 (hb : Below w.heap.size w w2) v2 (h2 : RV w2 v2 ([33] :: ls)) => HEV.out HOK.out w2 hb v2 ([33] :: ls) h2 (fun s hs => by
    rcases List.mem_cons.1 hs with rfl | hs
    · exact sok_all _ (by decide)
    · exact HSO.out s hs))
  unfold EPost at HE1 HE2
  generalize P.evalP (P.lookF fs [47]) ls = q1 at HOPP HE1
  generalize P.evalP (P.lookF fs [47]) ([33] :: ls) = q2 at HOPP HE2
  obtain ⟨x1, y1⟩ := q1
  obtain ⟨x2, y2⟩ := q2
  simp only at HE1 HE2
  rcases hcase with hcase | ⟨hcase, e1, e2, e3, e4, e5, e6, e7, e8, e9, e10⟩
  all_goals
    go_wp2_with fail
    refine HE1.out.mono ?_
    rintro e w2 ⟨rfl, hb2⟩
    have HB2 := Lib.hid (btr HB1.out hb2)
    have HL2 := Lib.hid (lit_own w2 [33] 9)
    obtain ⟨x, hx⟩ : ∃ x, x = w2.alloc (.cells #[.string ⟨#[33]⟩] 9) := ⟨_, rfl⟩
    have HX := Lib.hid hx
    have HBX := Lib.hid (show Below w2.heap.size w2 x by rw [hx]; exact balloc _ _)
    have HSX := Lib.hid (HSL.out.below (btr HB2.out HBX.out))
    have HL3 := Lib.hid (show x.ownsRow w2.heap.size 9 1 (.slice (some ⟨w2.heap.size, 0, none⟩) 1 1) 1 ([[33]].map fun s => Value.string ⟨s.toArray⟩) by rw [hx]; exact HL2.out)
    clear hb2 hx HL2
    go_wp2_with (at_builtin; rw [← HX.out]; refine wpList_append_strs (w := x) rfl _ _ 22 rfl w2.heap.size 9 i0 Tryd.underlying22 HI.out.1 HI.out.2.1 HI.out.2.2.1 HI.out.2.2.2 _ 1 _ rfl HL3.out _ n cap ls rfl HN.out.symm (fun h => by cases h) HSX.out (by have := HNN.out.2; omega) HBX.out.size ?_)
    intro v1 w3 hown hgrow
    have HB3 := Lib.hid (show Below w2.heap.size w2 w3 from HBX.out.trans ((Below.refl _ x).grown hgrow HBX.out.size (fun k hk => by simp [Value.ownBlock] at hk; omega)))
    obtain ⟨A3, c3, rfl, h31, h32, h33, h34⟩ := own_form (ls := [33] :: ls) (by simpa using hown)
    have HE3 := Lib.hid (HE2.out w3 (btr HB2.out HB3.out) _ ⟨A3, c3, by rw [List.length_cons, ← HN.out, Nat.add_comm], by rw [List.length_cons, ← HN.out]; omega, h32, h34⟩)
    clear hown hgrow h33 h34
    go_wp2_with fail
    refine HE3.out.mono ?_
    rintro e w4 ⟨rfl, hb4⟩
    have HB4 := Lib.hid (btr (btr HB2.out HB3.out) hb4)
    clear hb4
    have hopp : (x1 = false ∧ x2 = false ∧ (y1 == y2) = true ∧ (y1 == 0) = false ∧ (y1 != 0) = true) ∨ (x2 = !x1 ∧ y1 = 0 ∧ y2 = 0) := by
      rcases HOPP.out with ⟨z, hz, h5, h6⟩ | ⟨y, h5, h6⟩
      · injection h5 with h5 h5'
        injection h6 with h6 h6'
        exact .inl ⟨h5, h6, by simp [h5', h6'], by simpa [h5'] using hz, by simpa [h5'] using hz⟩
      · injection h5 with h5 h5'
        injection h6 with h6 h6'
        exact .inr ⟨by rw [h6, h5], h5', h6'⟩
    rcases hopp with ⟨hx1, hx2, z1, z2, z3⟩ | ⟨hx, hy1, hy2⟩
    · subst hx1
      subst hx2
      go_wp2_with fail
      refine (HA.out _ HB4.out).mono ?_
      rintro e w5 ⟨rfl, hb5⟩
      have HB5 := Lib.hid (btr HB4.out hb5)
      clear hb5
      go_wp2
      go_ret
      exact ⟨rfl, HB5.out⟩
    · subst hx
      subst hy1
      subst hy2
      cases x1
      all_goals
        go_wp2_with fail
        refine (HA.out _ HB4.out).mono ?_
        rintro e w5 ⟨rfl, hb5⟩
        have HB5 := Lib.hid (btr HB4.out hb5)
        clear hb5
        go_wp2
        go_ret
        exact ⟨rfl, HB5.out⟩
end W
end Go.Proofs.YtmccfdmnidbalaaDoor
