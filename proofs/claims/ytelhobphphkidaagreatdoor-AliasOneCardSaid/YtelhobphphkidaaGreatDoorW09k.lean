/- Chapter 9: slices.Insert at aliases, into a new row. -/
import Derived.Test.YtelhobphphkidaaGreatDoorW09j
import Derived.Lib.AppendZerosOnto
import Derived.Lib.AppendZeros
import Derived.Deep.DeepAppendWide
namespace Go.Proofs.YtelhobphphkidaaGreatDoor
open Go.RowKit K
namespace W

set_option maxHeartbeats 4000000 in
set_option maxRecDepth 100000 in
theorem Insert_grow (g n i vb : Nat) (cur : Array Value) (ts : List Tr) (z : List UInt8) (s : List UInt8) (w : World) (hi : i < n) (hnn : n ≤ 1000000)
    (hg : w.heap[g]? = some (.cells cur 47 (0, 0))) (htk : cur.toList.take (n * 2) = tcells ts) (hn : ts.length = n)
    (hv : w.heap[vb]? = some (.cells #[.string ⟨z.toArray⟩, .string ⟨s.toArray⟩] 47 (0, 0))) :
    Calls Tryz.prog 29 #[.slice (some ⟨g, 0, none⟩) n n, .int .i64 i, .slice (some ⟨vb, 0, none⟩) 1 1] w fun e w' =>
      ∃ cap, e = .returned (.slice (some ⟨w.heap.size, 0, none⟩) (n + 1) cap) ∧ Below w.heap.size w w' ∧ n + 1 ≤ cap ∧ cap ≤ maxLen ∧ ∃ row : Array Value, row.size = cap * 2 ∧ row.toList.take ((n + 1) * 2) = tcells (putAt ts i (z, s)) ∧ w'.heap[w.heap.size]? = some (.cells row 47 (0, 0)) := by
  obtain ⟨i0, hi0, hz0, hzs, hzb⟩ := info_parts infoAl
  have hinfo : (Tryz.prog.info? 47).map (·.size) = some 2 := by kernel_rfl
  have hxl : (tcells ts).length = n * 2 := by rw [tcells_length, hn]
  have hgl : g < w.heap.size := (Array.getElem?_eq_some_iff.1 hg).1
  have hvl : vb < w.heap.size := (Array.getElem?_eq_some_iff.1 hv).1
  have hcell : ∀ (W : World), W.heap[g]? = some (.cells cur 47 (0, 0)) → ∀ j v, (tcells ts)[j]? = some v → W.cell? ⟨g, j, none⟩ = some v := fun W hW j v hj => by
    rw [Lib.cell_of_heap hW]
    have hlt : j < n * 2 := by have := (List.getElem?_eq_some_iff.1 hj).1; omega
    rw [← htk, List.getElem?_take, if_pos hlt] at hj
    simpa using hj
  have hold : (Builtin.firstCells i0.size i (.slice (some ⟨g, 0, none⟩) i n)).run Tryz.prog w.drew = .ok ((tcells ts).take (i * 2)).toArray w.drew := by
    rw [hzs]
    refine run_firstCells_some w.drew 2 i ⟨g, 0, none⟩ i n ((tcells ts).take (i * 2)) (by simp; omega) (fun j v hj => ?_)
    rw [List.getElem?_take] at hj
    split at hj
    · rw [show (⟨g, 0, none⟩ : Addr).add j = ⟨g, j, none⟩ by unfold Addr.add; split <;> simp_all]
      exact hcell w.drew hg j v hj
    · cases hj
  obtain ⟨G, hG⟩ : ∃ G, G = grownCap w (n + 1) n 47 := ⟨_, rfl⟩
  have hGn : n + 1 ≤ G := by rw [hG]; exact grownCap_ge w _ _ _
  have hG63 : G ≤ maxLen := by rw [hG]; exact grownCap_le_maxLen w (n + 1) n 47 (by unfold maxLen; omega)
  obtain ⟨ROW, hROW⟩ : ∃ ROW : Array Value, ROW = ((tcells ts).take (i * 2)).toArray ++ Builtin.zeroCells (Value.agg #[.string ⟨#[]⟩, .string ⟨#[]⟩]).cells (n + 1 - i) ++ Builtin.zeroCells (Value.agg #[.string ⟨#[]⟩, .string ⟨#[]⟩]).cells (G - (n + 1)) := ⟨_, rfl⟩
  have hrz : ∀ ty, (Builtin.append_ #[22, 3] ty #[.slice (some ⟨g, 0, none⟩) i n, .int .i64 ((n : Int) + 1 - (i : Int))]).run Tryz.prog w = .ok (.slice (some ⟨w.heap.size, 0, none⟩) (n + 1) G) (w.drew.alloc (.cells ROW 47)) := fun ty => by
    have h := Lib.run_append_grow_zeros w 22 3 ty 47 i0 _ .i64 .i64 Tryz.underlying22 Tryz.underlying3 hi0 hz0 (some ⟨g, 0, none⟩) i n ((tcells ts).take (i * 2)) hold (n + 1 - i) (by omega) (by omega) (by omega) (by omega) (by rw [hzb]; omega) (by rw [hzb, show i + (n + 1 - i) = n + 1 by omega]; exact growslice_fits_wide (by omega) (by omega))
    rw [show i + (n + 1 - i) = n + 1 by omega, ← hG, ← hROW] at h
    rw [show (n : Int) + 1 - (i : Int) = ((n + 1 - i : Nat) : Int) by omega]
    exact h
  have hRl : ROW.size = G * 2 := by
    rw [hROW]
    simp [Builtin.zeroCells, Value.cells]
    omega
  have hRt : ROW.toList.take (i * 2) = (tcells ts).take (i * 2) := by
    rw [hROW]
    have hl : ((tcells ts).take (i * 2)).length = i * 2 := by simp; omega
    simp only [Array.toList_append, List.append_assoc]
    rw [List.take_append_of_le_length (by simp; omega), List.take_of_length_le (by simp; omega)]
  have hsp := splice3 ROW.toList (tcells ts) [.string ⟨z.toArray⟩, .string ⟨s.toArray⟩] (i * 2) (n * 2) hRt hxl (by omega) rfl (by simp; omega)
  simp only at hsp
  obtain ⟨r1, hr1⟩ : ∃ r, r = ROW.toList.take (i * 2) ++ [Value.string ⟨z.toArray⟩, Value.string ⟨s.toArray⟩] ++ ROW.toList.drop (i * 2 + [Value.string ⟨z.toArray⟩, Value.string ⟨s.toArray⟩].length) := ⟨_, rfl⟩
  rw [← hr1] at hsp
  obtain ⟨W1, hW1⟩ : ∃ W1, W1 = w.drew.alloc (.cells ROW 47) := ⟨_, rfl⟩
  rw [← hW1] at hrz
  have hN1 : W1.heap[w.heap.size]? = some (.cells ROW 47 (0, 0)) := by rw [hW1]; exact heap_alloc_new w.drew _
  have hb1 : Below w.heap.size w W1 := by rw [hW1]; exact (Below.refl _ w).drew.alloc (Nat.le_refl _) _
  have hcpA : ∀ ty dc, (Builtin.copy_ #[22, 22] ty #[.slice (some ⟨w.heap.size, i * 2, none⟩) (n + 1 - i) dc, .slice (some ⟨vb, 0, none⟩) 1 1]).run Tryz.prog W1 = .ok (goInt 1) (W1.setRow w.heap.size r1.toArray) := fun ty dc => by
    have := run_copy_pairs (P := Tryz.prog) W1 22 22 ty 47 w.heap.size (i * 2) (n + 1 - i) dc ⟨vb, 0, none⟩ 1 1 ROW 47 [.string ⟨z.toArray⟩, .string ⟨s.toArray⟩] 1 (by simp only [Nat.min_def]; split <;> omega) Tryz.underlying22 hinfo hN1 rfl
      (World.news_of_block (cs := #[.string ⟨z.toArray⟩, .string ⟨s.toArray⟩]) ((hb1.block vb hvl).trans hv)) (by simp; omega) (pair_one _ _)
    rw [this, hr1]
    rfl
  obtain ⟨W2, hW2⟩ : ∃ W2, W2 = W1.setRow w.heap.size r1.toArray := ⟨_, rfl⟩
  rw [← hW2] at hcpA
  have hN2 : W2.heap[w.heap.size]? = some (.cells r1.toArray 47 (0, 0)) := by rw [hW2]; exact setRow_heap W1 _ ROW _ _ _ hN1
  have hset : ∀ (W : World) row, Below w.heap.size W (W.setRow w.heap.size row) := fun W row => ⟨rfl, rfl, rfl, by simp, fun k hk => setRow_other W _ k row (by omega)⟩
  have hb2 : Below w.heap.size w W2 := by rw [hW2]; exact hb1.trans (hset W1 _)
  have hcpB : ∀ ty dc sc, (Builtin.copy_ #[22, 22] ty #[.slice (some ⟨w.heap.size, (i + 1) * 2, none⟩) (n - i) dc, .slice (some ⟨g, i * 2, none⟩) (n - i) sc]).run Tryz.prog W2.drew = .ok (goInt ((n - i : Nat) : Int)) (W2.drew.setRow w.heap.size (r1.take (i * 2 + 2) ++ (tcells ts).drop (i * 2) ++ r1.drop (i * 2 + 2 + ((tcells ts).drop (i * 2)).length)).toArray) := fun ty dc sc => by
    have := run_copy_pairs (P := Tryz.prog) W2.drew 22 22 ty 47 w.heap.size ((i + 1) * 2) (n - i) dc ⟨g, i * 2, none⟩ (n - i) sc r1.toArray 47 ((tcells ts).drop (i * 2)) (n - i) (by simp) Tryz.underlying22 hinfo hN2 (by simp [hxl]; omega)
      (fun j v hj => by
        rw [List.getElem?_drop] at hj
        rw [show (⟨g, i * 2, none⟩ : Addr).add j = ⟨g, i * 2 + j, none⟩ by unfold Addr.add; split <;> simp_all]
        exact hcell W2.drew ((hb2.block g hgl).trans hg) _ v hj) (by have := hsp.1; simp [hxl] at this ⊢; omega) (fun v hv => tcells_one ts v (List.mem_of_mem_drop hv))
    rw [this, show (i + 1) * 2 = i * 2 + 2 by omega]
  obtain ⟨r2, hr2⟩ : ∃ r, r = r1.take (i * 2 + 2) ++ (tcells ts).drop (i * 2) ++ r1.drop (i * 2 + 2 + ((tcells ts).drop (i * 2)).length) := ⟨_, rfl⟩
  rw [← hr2] at hcpB hsp
  have HSP := Lib.hid hsp
  have HB2 := Lib.hid hb2
  have HN2 := Lib.hid hN2
  have HSET := Lib.hid hset
  have HRL := Lib.hid hRl
  have HG := Lib.hid (And.intro hGn hG63)
  have hG1 : G ≤ 9223372036854775807 := by unfold maxLen at hG63; exact hG63
  have j1 : ¬ n = i := by omega
  have j2 : ¬ G = i := by omega
  have j3 : ¬ G = i + 1 := by omega
  have k3 : ((i : Int) == (n : Int)) = false := by simp; omega
  have k4 : (0 : Int) ≤ (i : Int) + 1 := by omega
  have k5 : (i : Int) + 1 ≤ (n : Int) + 1 := by omega
  have k6 : (i : Int) ≤ (n : Int) := by omega
  have k7 : IntKind.i64.wrap ((i : Int) + 1) = (i : Int) + 1 := by rw [IntKind.wrap_i64]; omega
  have k8 : ((i : Int) + 1).toNat = i + 1 := by omega
  have k9 : (n : Int) < (n : Int) + 1 := by omega
  clear hr2 hsp hb1 hb2 hN1 hN2 hset hcell hold hRl hRt hROW hG hG63 hr1 hW1 hW2 hxl htk hv hg hinfo hz0 hzs hzb hi0
  go_enter Tryz.func29, Tryz.ntmps29
  go_wp2_with (first
    | (at_builtin; refine Lib.wpList_append_run _ rfl _ _ _ _ rfl _ _ rfl rfl _ _ (hrz _) ?_)
    | (at_builtin; refine wpList_copy_eq _ rfl _ _ 22 22 rfl _ _ rfl rfl (hcpA _ _) ?_))
  go_region_law (refine step_copy_eq rfl _ _ 22 22 rfl _ _ (by simp [Act.eval, Act.put]) (by simp [Act.eval, Act.put]) (hcpB _ _ _) ?_)
  go_wp2
  go_ret
  refine ⟨G, rfl, HB2.out.drew.trans (HSET.out _ _), HG.out.1, HG.out.2, r2.toArray, ?_, ?_, setRow_heap W2.drew _ r1.toArray _ _ _ HN2.out⟩
  · have h := HSP.out.2.1
    have h2 := HRL.out
    simp at h ⊢
    omega
  · rw [show (n + 1) * 2 = n * 2 + 2 by omega]
    refine HSP.out.2.2.trans ?_
    unfold putAt
    rw [tcells_append, tcells, tcells_take, tcells_drop]
    simp
/-- slices.Insert of one trap into a list of the call's own. -/
theorem Insert_any (base : Nat) (v : Value) (ts : List Tr) (i vb : Nat) (z : List UInt8) (s : List UInt8) (w : World) (hown : w.ownsRow base 47 2 v ts.length (tcells ts)) (hi : i ≤ ts.length) (hn : ts.length ≤ 1000) (hbase : base ≤ w.heap.size)
    (hv : w.heap[vb]? = some (.cells #[.string ⟨z.toArray⟩, .string ⟨s.toArray⟩] 47 (0, 0))) (hne : v.ownBlock ≠ some vb) :
    Calls Tryz.prog 29 #[v, .int .i64 i, .slice (some ⟨vb, 0, none⟩) 1 1] w fun e w' => ∃ v', e = .returned v' ∧ w'.ownsRow base 47 2 v' (ts.length + 1) (tcells (putAt ts i (z, s))) ∧ Below base w w' := by
  have hpl : (tcells (putAt ts i (z, s))).length = (ts.length + 1) * 2 := by rw [tcells_length]; simp [putAt]; omega
  by_cases hin : i = ts.length
  · subst hin
    obtain ⟨i0, hi0, hz0, hzs, hzb⟩ := info_parts infoAl
    have HPA := Lib.hid (show tcells ts ++ [.string ⟨z.toArray⟩, .string ⟨s.toArray⟩] = tcells (putAt ts ts.length (z, s)) by unfold putAt; rw [tcells_append, List.take_length, List.drop_length]; rfl)
    have hnews := World.news_of_block (cs := #[.string ⟨z.toArray⟩, .string ⟨s.toArray⟩]) hv
    have HO := Lib.hid hown
    obtain ⟨n, hnn⟩ : ∃ n, ts.length = n := ⟨_, rfl⟩
    rw [hnn] at hown hn HPA HO ⊢
    have k3 : ((n : Int) == (n : Int)) = true := by simp
    have hcs : (v = .slice none 0 0 ∧ n = 0) ∨ ∃ g cap, v = .slice (some ⟨g, 0, none⟩) n cap ∧ n ≤ cap ∧ cap ≤ 9223372036854775807 := by
      rcases hown.2 with h | ⟨g, cap, cur, h, _, _, h1, h2, _⟩
      · exact .inl h
      · exact .inr ⟨g, cap, h, h1, by unfold maxLen at h2; exact h2⟩
    clear hnn hpl
    rcases hcs with ⟨rfl, rfl⟩ | ⟨g, cap, rfl, hc1, hc2⟩
    case' inr =>
      by_cases hcn : cap = n
      case' pos => subst hcn
    all_goals
      go_enter Tryz.func29, Tryz.ntmps29
      go_wp2_with (at_builtin; refine wpList_append_own _ rfl _ _ 22 rfl base 47 i0 (.agg #[.string ⟨#[]⟩, .string ⟨#[]⟩]) 2 32 Tryz.underlying22 hi0 hz0 hzs hzb rfl (by decide) _ _ _ rfl hown ⟨vb, 0, none⟩ 1 1 [.string ⟨z.toArray⟩, .string ⟨s.toArray⟩] rfl rfl hnews (pair_one _ _) (by unfold maxLen; omega) (by omega) hbase ?_)
      intro v2 w2 hown2 hgrow2 _
      rw [HPA.out] at hown2
      have hb2 : Below base w w2 := (Below.refl _ _).grown hgrow2 hbase (fun k hk => (HO.out.lt k hk).1)
      have HO2 := Lib.hid hown2
      have HB2 := Lib.hid hb2
      clear hown2 hgrow2 hb2 hown
      go_wp2
      go_ret
      exact ⟨_, rfl, HO2.out, HB2.out⟩
  · rcases hown.2 with ⟨_, h0⟩ | ⟨g, cap, cur, rfl, hb, hg, h1, h2, h3, h4⟩
    · omega
    · by_cases hr : ts.length + 1 ≤ cap
      · refine (Insert_room g ts.length cap i vb cur ts z s w (by omega) hr (by unfold maxLen at h2; exact h2) hg h3 h4 rfl hv (by intro e; subst e; exact hne rfl)).mono fun e w' ⟨h5, h6, row, r1, r2, r3⟩ => ?_
        exact ⟨_, h5, ⟨hpl, .inr ⟨g, cap, row, rfl, hb, r3, by omega, h2, r1, r2⟩⟩, h6.mono hb⟩
      · obtain rfl : cap = ts.length := by omega
        refine (Insert_grow g ts.length i vb cur ts z s w (by omega) (by omega) hg h4 rfl hv).mono fun e w' ⟨cap, h5, h6, h7, h8, row, r1, r2, r3⟩ => ?_
        exact ⟨_, h5, ⟨hpl, .inr ⟨w.heap.size, cap, row, rfl, hbase, r3, h7, h8, r1, r2⟩⟩, h6.mono hbase⟩
end W
end Go.Proofs.YtelhobphphkidaaGreatDoor
