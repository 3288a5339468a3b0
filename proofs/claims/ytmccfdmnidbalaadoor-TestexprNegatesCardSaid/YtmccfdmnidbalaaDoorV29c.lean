/- Chapter 29: the law TestexprFiles walked. -/
import Derived.Test.YtmccfdmnidbalaaDoorP29g
import Derived.Test.YtmccfdmnidbalaaDoorW29q
namespace Go.Proofs.YtmccfdmnidbalaaDoor
open Go.RowKit K
namespace W
theorem sok_all (s : List UInt8) (hl : s.length ≤ 1000000) : SOK s := ⟨hl, path_all s⟩
/-- A call of Eval at a literal slice of two strings. -/
theorem ev_two (w1 : World) (f : Value) (fs : List Fi) (cwd op x : List UInt8) (hV : FV w1 f fs) (hw : Env w1) (hn : fs.length ≤ 40) (hc : cwd.length ≤ 200) (ho : op.length ≤ 1000) (hx : x.length ≤ 1000) (q : Bool) (hq : P.evalP (P.lookF fs cwd) [op, x] = (q, 0)) :
    Calls Tryd.prog 9 #[.slice (some ⟨w1.heap.size, 0, none⟩) 2 2, f, .string ⟨cwd.toArray⟩] (w1.alloc (.cells #[.string ⟨op.toArray⟩, .string ⟨x.toArray⟩] 9)) fun e w' => e = .returned (.tuple #[.bool q, .int .i64 0]) ∧ Below w1.heap.size w1 w' := by
  have hb := balloc w1 (.cells #[.string ⟨op.toArray⟩, .string ⟨x.toArray⟩] 9)
  have := Eval_of (w1.alloc (.cells #[.string ⟨op.toArray⟩, .string ⟨x.toArray⟩] 9)) f cwd fs ⟨hw.below hb, hV.below hb, by omega, by omega, path_all _⟩ _ [op, x] (RV.lit w1 [op, x] (by simp) _) (fun s hs => by
    simp only [List.mem_cons, List.not_mem_nil, or_false] at hs
    rcases hs with rfl | rfl
    · exact sok_all _ (by omega)
    · exact sok_all _ (by omega))
  rw [hq] at this
  exact this.mono fun e w' ⟨h1, h2⟩ => ⟨h1, btr hb h2⟩
set_option maxHeartbeats 4000000 in
set_option maxRecDepth 100000 in
theorem TestexprFiles_any (v : Value) (fs : List Fi) (cwd path : List UInt8) (w : World) (hV : FV w v fs) (hw : Env w) :
    Calls Tryd.prog 6 #[v, .string ⟨cwd.toArray⟩, .string ⟨path.toArray⟩] w fun e w' => e = .returned (.bool true) ∧ Below w.heap.size w w' := by
  have HA := Lib.hid (fun w' (hb : Below w.heap.size w w') => awake_any w' (hw.below hb))
  obtain ⟨x, hx⟩ : ∃ x, x = w.alloc (.cells #[.string ⟨path.toArray⟩] 9) := ⟨_, rfl⟩
  have HX := Lib.hid hx
  have HBx := Lib.hid (show Below w.heap.size w x by rw [hx]; exact balloc _ _)
  have HSL := Lib.hid (show SL x (some ⟨w.heap.size, 0, none⟩) [path] by rw [hx]; exact SL.of_heap (heap_alloc_new w _))
  have HS := Lib.hid (show Calls Tryd.prog 7 #[.slice (some ⟨w.heap.size, 0, none⟩) 1 1, v, .string ⟨cwd.toArray⟩] x fun e w' => BWhen (SmallOK [path] fs cwd) e ∧ Below x.heap.size x w' from small_any (.slice (some ⟨w.heap.size, 0, none⟩) 1 1) v [path] fs cwd x ⟨_, _, rfl, HSL.out⟩ (by simp) (hV.below HBx.out))
  have HEV := Lib.hid (fun (ok : SmallOK [path] fs cwd) w1 (hb : Below w.heap.size w w1) c (hc : c.length ≤ 200) op (ho : op.length ≤ 1000) y (hy : y.length ≤ 1000) q (hq : P.evalP (P.lookF fs c) [op, y] = (q, 0)) => ev_two w1 v fs c op y (hV.below hb) (hw.below hb) ok.nf hc ho hy q hq)
  obtain ⟨A, cap, rfl, hc1, hc2, hF⟩ := hV
  have HF := Lib.hid hF
  clear hx hF hw
  go_enter Tryd.func6, Tryd.ntmps6
  go_wp2_with fail
  rw [← HX.out]
  refine HS.out.mono ?_
  rintro e w1 ⟨⟨b, rfl, hok⟩, hb1⟩
  have HB1 := Lib.hid (btr HBx.out hb1)
  clear hb1
  cases b with
  | false =>
    go_wp2_with fail
    refine (HA.out _ HB1.out).mono ?_
    rintro e w2 ⟨rfl, hb2⟩
    have HB2 := Lib.hid (btr HB1.out hb2)
    clear hb2
    go_wp2
    go_ret
    exact ⟨rfl, HB2.out⟩
  | true =>
  have HOK := Lib.hid (hok rfl)
  clear hok
  obtain ⟨b1, b2, b3, b4, q1, q2, q3, q4, hb⟩ := P.four (P.lookF fs cwd) path
  have hpl : path.length ≤ 1000 := Nat.le_trans (HOK.out.la path (by simp)) (by omega)
  have H1 := Lib.hid (fun w1 (h : Below w.heap.size w w1) => HEV.out HOK.out w1 h cwd HOK.out.lc [45, 101] (by decide) path hpl b1 q1)
  have H2 := Lib.hid (fun w1 (h : Below w.heap.size w w1) => HEV.out HOK.out w1 h cwd HOK.out.lc [45, 102] (by decide) path hpl b2 q2)
  have H3 := Lib.hid (fun w1 (h : Below w.heap.size w w1) => HEV.out HOK.out w1 h cwd HOK.out.lc [45, 100] (by decide) path hpl b3 q3)
  have H4 := Lib.hid (fun w1 (h : Below w.heap.size w w1) => HEV.out HOK.out w1 h cwd HOK.out.lc [45, 115] (by decide) path hpl b4 q4)
  clear q1 q2 q3 q4 hpl
  have HBB := Lib.hid hb
  clear hb
  go_wp2_with fail
  refine (H1.out w1 HB1.out).mono ?_
  rintro e w2 ⟨rfl, hb2⟩
  have HB2 := Lib.hid (btr HB1.out hb2)
  clear hb2
  go_wp2_with fail
  refine (H2.out w2 HB2.out).mono ?_
  rintro e w3 ⟨rfl, hb3⟩
  have HB3 := Lib.hid (btr HB2.out hb3)
  clear hb3
  go_wp2_with fail
  refine (H3.out w3 HB3.out).mono ?_
  rintro e w4 ⟨rfl, hb4⟩
  have HB4 := Lib.hid (btr HB3.out hb4)
  clear hb4
  go_wp2_with fail
  refine (H4.out w4 HB4.out).mono ?_
  rintro e w5 ⟨rfl, hb5⟩
  have HB5 := Lib.hid (btr HB4.out hb5)
  clear hb5 H1 H2 H3 H4
  have hb := HBB.out
  have hb' : (b1 = false ∧ b2 = false ∧ b3 = false ∧ b4 = false) ∨ (b1 = true ∧ b2 = true ∧ b3 = false ∧ b4 = false) ∨ (b1 = true ∧ b2 = true ∧ b3 = false ∧ b4 = true) ∨ (b1 = true ∧ b2 = false ∧ b3 = true ∧ b4 = false) := by
    rcases hb with h | ⟨h1, h2, h3⟩ | h
    · exact .inl h
    · cases b4
      · exact .inr (.inl ⟨h1, h2, h3, rfl⟩)
      · exact .inr (.inr (.inl ⟨h1, h2, h3, rfl⟩))
    · exact .inr (.inr (.inr h))
  clear hb HBB
  rcases hb' with ⟨rfl, rfl, rfl, rfl⟩ | ⟨rfl, rfl, rfl, rfl⟩ | ⟨rfl, rfl, rfl, rfl⟩ | ⟨rfl, rfl, rfl, rfl⟩
  all_goals
    go_wp2
    go_loopw [15] (fun i wr => ∃ k : Nat, k ≤ fs.length ∧ i = .int .i64 k ∧ Below w.heap.size w wr) (fun i _ => fs.length - (intOf i).toNat)
    case atStart => exact ⟨0, by omega, rfl, HB5.out⟩
    case round =>
      obtain ⟨k, hk, rfl, hbw⟩ := hrel
      have HB := Lib.hid hbw
      by_cases hlt : k < fs.length
      · obtain ⟨b, off, rfl, hb, c0, c1, c2⟩ := (HF.out.below hbw) k hlt
        obtain ⟨t1, t2⟩ := HOK.out.vf.tests hlt
        have hmem : fs.getD k fz ∈ fs := by rw [List.getD_eq_getElem?_getD, List.getElem?_eq_getElem hlt]; exact List.getElem_mem hlt
        have hsm := (HOK.out.lf _ hmem).1
        have HCC := Lib.hid (fun w' (h : Below w.heap.size w w') => (HF.out.below h) k hlt)
        obtain ⟨⟨q, d, cc⟩, hf⟩ : ∃ f, fs.getD k fz = f := ⟨_, rfl⟩
        rw [hf] at c0 c1 c2 t1 t2 hsm HCC
        simp only at c0 c1 c2 t1 t2 hsm HCC
        have E1 := Lib.hid (fun w1 (h : Below w.heap.size w w1) => HEV.out HOK.out w1 h [47] (by decide) [45, 100] (by decide) q (by omega) d t1)
        have E2 := Lib.hid (fun w1 (h : Below w.heap.size w w1) => HEV.out HOK.out w1 h [47] (by decide) [45, 115] (by decide) q (by omega) (cc != []) t2)
        have k0 : (0 : Int) ≤ (k : Int) := by omega
        have k1 : (k : Int) < (fs.length : Int) := by omega
        clear t1 t2 hmem hsm hf hbw
        go_wp2_with fail
        refine (E1.out _ HB.out).mono ?_
        rintro e w6 ⟨rfl, hb6⟩
        have HB6 := Lib.hid (btr HB.out hb6)
        clear hb6 c0 c1 c2
        obtain ⟨b', off', hbo', hb', c0, c1, c2⟩ := HCC.out _ HB6.out
        simp at hbo'
        obtain ⟨rfl, rfl⟩ := hbo'
        go_wp2_with fail
        refine (E2.out _ HB6.out).mono ?_
        rintro e w7 ⟨rfl, hb7⟩
        have HB7 := Lib.hid (btr HB6.out hb7)
        clear hb7 c0 c1 c2
        obtain ⟨b', off', hbo', hb', c0, c1, c2⟩ := HCC.out _ HB7.out
        simp at hbo'
        obtain ⟨rfl, rfl⟩ := hbo'
        have hd : (d != d) = false := by cases d <;> rfl
        have hcc : (!(cc != []) == !cc.isEmpty) = false := by cases cc <;> rfl
        go_wp2
        go_roundw
        case rel => exact ⟨k + 1, by omega, by go_num, HB7.out⟩
        case measure => simp [intOf]; omega
      · clear hbw
        go_wp2_with fail
        refine (HA.out _ HB.out).mono ?_
        rintro e w6 ⟨rfl, hb6⟩
        have HB6 := Lib.hid (btr HB.out hb6)
        clear hb6
        go_wp2
        go_ret
        exact ⟨rfl, HB6.out⟩
end W
end Go.Proofs.YtmccfdmnidbalaaDoor
