/- Chapter 43: Add of the reference. -/
import Derived.Test.YtbiilbdflmiehaaDoorW43c
namespace Go.Proofs.YtbiilbdflmiehaaDoor
open Go.RowKit K
namespace W

set_option maxHeartbeats 1000000 in
theorem Add_keptR (first : Int) (A : Option Addr) (c : Nat) (ls : List (List UInt8)) (line : List UInt8) (z : Int) (w : World) (hn : ls.length ≤ 1000000) (hc : ls.length ≤ c) (hc2 : c ≤ 9223372036854775807) (hA : A = none → c = 0) (hS : SL w A ls) (hl : line.length ≤ 1000000000)
    (hcase : (P.feeds line = true ∧ z = 1) ∨ (P.feeds line = false ∧ 4096 < line.length ∧ z = 3) ∨ (P.feeds line = false ∧ ¬ 4096 < line.length ∧ line = [] ∧ z = 0) ∨ (P.feeds line = false ∧ ¬ 4096 < line.length ∧ line ≠ [] ∧ ls ≠ [] ∧ ls.getD (ls.length - 1) [] = line ∧ z = 0)) :
    Calls Tryd.prog 16 #[hv first A ls.length c, .string ⟨line.toArray⟩] w (HPost w (first, ls, z)) := by
  unfold hv
  have HA := Lib.hid hA
  clear hA
  rcases hcase with ⟨hf, rfl⟩ | ⟨hf, h4, rfl⟩ | ⟨hf, h4, rfl, rfl⟩ | ⟨hf, h4, hne, hls, hlast, rfl⟩
  · go_enter Tryd.func16, Tryd.ntmps16
    go_wp2_with (go_at_call 29; refine (feeds_ref line _ (by omega)).mono ?_; rintro e w' ⟨rfl, rfl⟩)
    refine bodyPost_ret (v := .tuple #[.agg #[.int .i64 first, .slice A ls.length c], .int .i64 1]) (by simp [results, Tryd.results16, go_sem]) rfl ⟨_, rfl, ⟨A, c, rfl, hc, hc2, HA.out, hS.below ?_⟩, ?_⟩
    all_goals go_grown
  · have f4 : ((4096 : Int) < (line.length : Int)) = True := eq_true (by omega)
    clear h4
    go_enter Tryd.func16, Tryd.ntmps16
    go_wp2_with (go_at_call 29; refine (feeds_ref line _ (by omega)).mono ?_; rintro e w' ⟨rfl, rfl⟩)
    refine bodyPost_ret (v := .tuple #[.agg #[.int .i64 first, .slice A ls.length c], .int .i64 3]) (by simp [results, Tryd.results16, go_sem]) rfl ⟨_, rfl, ⟨A, c, rfl, hc, hc2, HA.out, hS.below ?_⟩, ?_⟩
    all_goals go_grown
  · clear h4
    go_enter Tryd.func16, Tryd.ntmps16
    go_wp2_with (go_at_call 29; refine (feeds_ref [] _ (by simp)).mono ?_; rintro e w' ⟨rfl, rfl⟩)
    refine bodyPost_ret (v := .tuple #[.agg #[.int .i64 first, .slice A ls.length c], .int .i64 0]) (by simp [results, Tryd.results16, go_sem]) rfl ⟨_, rfl, ⟨A, c, rfl, hc, hc2, HA.out, hS.below ?_⟩, ?_⟩
    all_goals go_grown
  · have f4 : ((4096 : Int) < (line.length : Int)) = False := eq_false (by omega)
    obtain ⟨n, hn1⟩ : ∃ n, ls.length = n + 1 := ⟨ls.length - 1, by have h9 : ls.length ≠ 0 := (by simpa using hls); omega⟩
    obtain ⟨b, off, rfl, hb, hcell⟩ := hS.get (k := n) (by omega)
    rw [show ls.length - 1 = n by omega] at hlast
    rw [hlast] at hcell
    have hS' := Lib.hid hS
    have HNE := Lib.hid hne
    have hemp : line.isEmpty = false := by cases line; simp at hne; rfl
    have HN1 := Lib.hid hn1
    rw [hn1]
    rw [hn1] at hc hn
    clear h4 hlast hne hls hn1 hS
    go_enter Tryd.func16, Tryd.ntmps16
    go_wp2_with (go_at_call 29; refine (feeds_ref line _ (by omega)).mono ?_; rintro e w' ⟨rfl, rfl⟩)
    refine bodyPost_ret (v := .tuple #[.agg #[.int .i64 first, .slice (some ⟨b, off, none⟩) (n + 1) c], .int .i64 0]) (by simp [results, Tryd.results16, go_sem]) rfl ⟨_, rfl, ⟨some ⟨b, off, none⟩, c, by rw [HN1.out]; rfl, by rw [HN1.out]; exact hc, hc2, (fun h => by cases h), hS'.out.below ?_⟩, ?_⟩
    all_goals go_grown

set_option maxHeartbeats 1000000 in
theorem Add_newR (first : Int) (A : Option Addr) (c : Nat) (ls : List (List UInt8)) (line : List UInt8) (w : World) (hn : ls.length ≤ 128) (hf1 : 1 ≤ first) (hf2 : first ≤ 2147483519) (hc : ls.length ≤ c) (hc2 : c ≤ 9223372036854775807) (hA : A = none → c = 0) (hS : SL w A ls) (hl : ¬ 4096 < line.length) (hf : P.feeds line = false) (hne : line ≠ []) (hlast : ls ≠ [] → ls.getD (ls.length - 1) [] ≠ line) :
    Calls Tryd.prog 16 #[hv first A ls.length c, .string ⟨line.toArray⟩] w (HPost w (if ls.length < 128 then (first, ls ++ [line], 0) else if 2147483519 ≤ first then (first, ls, 4) else (first + 1, (ls ++ [line]).drop 1, 0))) := by
  obtain ⟨i0, hi, hz0, hz1, hz2⟩ := info_parts infoStr
  unfold hv
  have f4 : ((4096 : Int) < (line.length : Int)) = False := eq_false (by omega)
  have hemp : line.isEmpty = false := by cases line; simp at hne; rfl
  have HNE := Lib.hid hne
  have hll : line.length ≤ 4096 := by omega
  obtain ⟨n, hnn⟩ : ∃ n, ls.length = n := ⟨_, rfl⟩
  rw [hnn] at hn hc
  rw [hnn]
  obtain ⟨w0, h0, k0, k1, hb0, hsz0⟩ := box22 w (.int .i64 first) (.slice A n c) (.int .i64 0) (.slice none 0 0) 24
  have hS0 := hS.below hb0
  have H0 := Lib.hid h0
  have HK0 := Lib.hid k0
  have HK1 := Lib.hid k1
  have HS := Lib.hid hS
  have HA := Lib.hid hA
  have HS0 := Lib.hid hS0
  have HSZ := Lib.hid hsz0
  obtain ⟨c0, c1, _, _⟩ := box_cells k0
  obtain ⟨R, hR⟩ : ∃ R, (if n < 128 then (first, ls ++ [line], (0 : Int)) else if 2147483519 ≤ first then (first, ls, 4) else (first + 1, (ls ++ [line]).drop 1, 0)) = R := ⟨_, rfl⟩
  rw [hR]
  have HR := Lib.hid hR
  have HNN := Lib.hid hnn
  have HOWN := Lib.hid (show (ls.map fun s => Value.string ⟨s.toArray⟩) ++ [Value.string ⟨line.toArray⟩] = (ls ++ [line]).map fun s => Value.string ⟨s.toArray⟩ by simp)
  have HLEN := Lib.hid (show (ls ++ [line]).length = n + 1 by rw [List.length_append, hnn]; rfl)
  have hsz1 : w.heap.size + 2 ≤ w0.heap.size := by omega
  have hcase : (n = 0) ∨ (1 ≤ n ∧ ∃ b off t, A = some ⟨b, off, none⟩ ∧ b < w.heap.size ∧ w0.cell? ⟨b, off + (n - 1), none⟩ = some (.string ⟨t.toArray⟩) ∧ (t == line) = false) := by
    rcases Nat.eq_zero_or_pos n with h | h
    · exact .inl h
    · right
      obtain ⟨b, off, e, hb, hcell⟩ := hS.get (k := n - 1) (by omega)
      obtain ⟨b', off', e', hb', hcell'⟩ := hS0.get (k := n - 1) (by omega)
      rw [e] at e'
      simp at e'
      obtain ⟨rfl, rfl⟩ := e'
      refine ⟨h, b, off, _, e, hb, hcell', ?_⟩
      have := hlast (by intro e2; subst e2; simp at hnn; omega)
      rw [hnn] at this
      simpa using this
  clear h0 hne hl hS k0 k1 hsz0 hR hnn hS0 hlast hA
  have main : ∀ (hgo : (n = 0) ∨ (1 ≤ n ∧ ∃ b off t, A = some ⟨b, off, none⟩ ∧ b < w.heap.size ∧ w0.cell? ⟨b, off + (n - 1), none⟩ = some (.string ⟨t.toArray⟩) ∧ (t == line) = false)), Calls Tryd.prog 16 #[.agg #[.int .i64 first, .slice A n c], .string ⟨line.toArray⟩] w (HPost w R) := by
    intro hgo
    rcases hgo with hn0 | ⟨hn0, b, off, t, rfl, hb, hcell, hneq⟩
    case' inl =>
      have f0 : (0 < n) = False := eq_false (by omega)
      have hn0' := Lib.hid hn0
      clear hn0
    case' inr =>
      have f0 : (0 < n) = True := eq_true (by omega)
    all_goals
      go_enter Tryd.func16, Tryd.ntmps16
      go_wp2_with fail
      rw [← H0.out]
      refine (feeds_ref line _ (by omega)).mono ?_
      rintro e w' ⟨rfl, rfl⟩
      have hAA := HA.out
      go_wp2_with (at_builtin; refine wpList_append_strs (w := w0) rfl _ _ 22 rfl w0.heap.size 9 i0 Tryd.underlying22 hi hz0 hz1 hz2 _ 0 [] rfl (World.ownsRow_nil _ _ _ _) _ n c ls rfl HNN.out hAA HS0.out (by omega) (Nat.le_refl _) ?_)
      intro v1 w1 hown hgrow1
      try simp only [Nat.zero_add, List.nil_append] at hown
      have hb1 : Below w0.heap.size w0 w1 := (Below.refl _ w0).grown hgrow1 (Nat.le_refl _) (fun k hk => by simp [Value.ownBlock] at hk)
      clear hgrow1
      have HHJ0 := Lib.hid ((hb1.block w.heap.size (by omega)).trans HK0.out)
      obtain ⟨j0, j1, _, _⟩ := box_cells HHJ0.out
      go_wp2_with (at_builtin; refine wpList_append_own _ rfl _ _ 22 rfl w0.heap.size 9 i0 (.string ⟨#[]⟩) 1 16 Tryd.underlying22 hi hz0 hz1 hz2 rfl (by decide) _ _ _ rfl (hown.alloc _) ⟨w1.heap.size, 0, none⟩ 1 1 [.string ⟨line.toArray⟩] rfl rfl (one_cells w1 _ _) (one_str _) (by unfold maxLen; omega) (by omega) (by have := hb1.size; simp; omega) ?_)
      intro v2 w2 hown2 hgrow2 _
      rw [HOWN.out] at hown2
      have hb2 : Below w0.heap.size w0 w2 := (hb1.alloc hb1.size _).grown hgrow2 (by have := hb1.size; simp; omega) (fun k hk => (hown.lt k hk).1)
      have HHK0 := Lib.hid ((hb2.block w.heap.size (by omega)).trans HK0.out)
      have HHK1 := Lib.hid ((hb2.block (w.heap.size + 1) (by omega)).trans HK1.out)
      obtain ⟨d0, d1, _, _⟩ := box_cells HHK0.out
      obtain ⟨e0, e1, fz0, fz1⟩ := box_cells HHK1.out
      obtain ⟨g, cap, hv2, hcap1, hcap2⟩ : ∃ g cap, (v2 = .slice (some ⟨g, 0, none⟩) (n + 1) cap ∧ w0.heap.size ≤ g) ∧ n + 1 ≤ cap ∧ cap ≤ 9223372036854775807 := by
        rcases hown2.2 with ⟨_, h⟩ | ⟨g, cap, cur, hv, hg, _, h1, h2, _⟩
        · omega
        · exact ⟨g, cap, ⟨hv, hg⟩, h1, by unfold maxLen at h2; exact h2⟩
      obtain ⟨hv2, hg⟩ := hv2
      subst hv2
      have hSL := Lib.hid (SL.own hown2)
      have hB2 := Lib.hid (show Below w.heap.size w w2 from hb0.trans (hb2.mono (by omega)))
      clear hown2 hgrow2 hb2 hown hb1
      by_cases h128 : n < 128
      · have HRR := Lib.hid (show R = (first, ls ++ [line], 0) by rw [← HR.out, if_pos h128])
        have f128 : ((128 : Int) < (n : Int) + 1) = False := eq_false (by omega)
        go_wp2
        rw [HRR.out]
        refine bodyPost_ret (v := .tuple #[.agg #[.int .i64 first, .slice (some ⟨g, 0, none⟩) (n + 1) cap], .int .i64 0]) (by simp [results, Tryd.results16, go_sem, e0, e1]) rfl ⟨_, rfl, ⟨some ⟨g, 0, none⟩, cap, by rw [HLEN.out]; rfl, by rw [HLEN.out]; exact hcap1, hcap2, (fun h => by cases h), ?_⟩, ?_⟩
        · exact (hSL.out.setCell (by simp; omega) _).setCell (by simp; omega) _
        · exact (hB2.out.setCell (by simp) _).setCell (by simp) _
      · have hn128 : n = 128 := by omega
        by_cases hlim : 2147483519 ≤ first
        · have HRR := Lib.hid (show R = (first, ls, 4) by rw [← HR.out, if_neg h128, if_pos hlim])
          have f128 : ((128 : Int) < (n : Int) + 1) = True := eq_true (by omega)
          have h128' := Lib.hid h128
          have hn' := Lib.hid hn128
          clear h128 hn128
          go_wp2
          rw [HRR.out]
          first
            | refine bodyPost_ret (v := .tuple #[.agg #[.int .i64 first, .slice A n c], .int .i64 4]) (by simp [results, Tryd.results16, go_sem, e0, e1]) rfl ⟨_, rfl, ⟨A, c, by rw [HNN.out]; rfl, by rw [HNN.out]; exact hc, hc2, HA.out, HS.out.below ?_⟩, ?_⟩
            | refine bodyPost_ret (v := .tuple #[.agg #[.int .i64 first, .slice (some ⟨b, off, none⟩) n c], .int .i64 4]) (by simp [results, Tryd.results16, go_sem, e0, e1]) rfl ⟨_, rfl, ⟨some ⟨b, off, none⟩, c, by rw [HNN.out]; rfl, by rw [HNN.out]; exact hc, hc2, (fun h => by cases h), HS.out.below ?_⟩, ?_⟩
          all_goals exact (hB2.out.setCell (by simp) _).setCell (by simp) _
        · have HRR := Lib.hid (show R = (first + 1, (ls ++ [line]).drop 1, 0) by rw [← HR.out, if_neg h128, if_neg hlim])
          have f128 : ((128 : Int) < (n : Int) + 1) = True := eq_true (by omega)
          have flim : ((2147483519 : Int) ≤ first) = False := eq_false (by omega)
          obtain ⟨x, r, hxr⟩ : ∃ x r, ls ++ [line] = x :: r := by
            cases hls : ls ++ [line] with
            | nil => simp at hls
            | cons x r => exact ⟨x, r, rfl⟩
          have hrl : r.length = n := by have := HLEN.out; rw [hxr] at this; simpa using this
          have HRL := Lib.hid hrl
          have HXR := Lib.hid hxr
          have hSL2 := hSL.out
          rw [hxr] at hSL2
          have HT := Lib.hid hSL2.tail
          have h128' := Lib.hid h128
          have hn' := Lib.hid hn128
          have hcap3 : ¬ cap = 1 := by omega
          have hwf : IntKind.i64.wrap (first + 1) = first + 1 := IntWalk.i64_in _ (by omega)
          clear h128 hn128 hlim hrl hxr hSL2
          go_wp2
          all_goals rw [HRR.out, HXR.out]
          all_goals refine bodyPost_ret (v := .tuple #[.agg #[.int .i64 (first + 1), .slice (some ⟨g, 0 + 1, none⟩) n (cap - 1)], .int .i64 0]) (by simp [results, Tryd.results16, go_sem, e0, e1]) rfl ⟨_, rfl, ⟨some ⟨g, 0 + 1, none⟩, cap - 1, by rw [show List.drop 1 (x :: r) = r from rfl, HRL.out]; rfl, by rw [show List.drop 1 (x :: r) = r from rfl, HRL.out]; omega, by omega, (fun h => by cases h), ?_⟩, ?_⟩
          all_goals first
            | exact (HT.out.setCell (by simp; omega) _).setCell (by simp; omega) _
            | exact (hB2.out.setCell (by simp) _).setCell (by simp) _
  exact main hcase

theorem Add_ref (v : Value) (first : Int) (ls : List (List UInt8)) (line : List UInt8) (w : World) (hV : HV w v first ls) (hn : ls.length ≤ 128) (hf1 : 1 ≤ first) (hf2 : first ≤ 2147483519) (hl : line.length ≤ 1000000000) :
    Calls Tryd.prog 16 #[v, .string ⟨line.toArray⟩] w (HPost w (P.addH first ls line)) := by
  obtain ⟨A, c, rfl, hc, hc2, hA, hS⟩ := hV
  unfold P.addH
  cases hf : P.feeds line
  · rw [if_neg (by simp)]
    by_cases h4 : 4096 < line.length
    · rw [if_pos h4]
      exact Add_keptR first A c ls line 3 w (by omega) hc hc2 hA hS hl (.inr (.inl ⟨hf, h4, rfl⟩))
    · rw [if_neg h4]
      by_cases h5 : line = []
      · rw [if_pos (.inl h5)]
        exact Add_keptR first A c ls line 0 w (by omega) hc hc2 hA hS hl (.inr (.inr (.inl ⟨hf, h4, h5, rfl⟩)))
      · by_cases h6 : ls ≠ [] ∧ ls.getD (ls.length - 1) [] = line
        · rw [if_pos (.inr h6)]
          exact Add_keptR first A c ls line 0 w (by omega) hc hc2 hA hS hl (.inr (.inr (.inr ⟨hf, h4, h5, h6.1, h6.2, rfl⟩)))
        · rw [if_neg (by rintro (h | h); exact h5 h; exact h6 h)]
          exact Add_newR first A c ls line w hn hf1 hf2 hc hc2 hA hS h4 hf h5 (fun h7 h8 => h6 ⟨h7, h8⟩)
  · rw [if_pos rfl]
    exact Add_keptR first A c ls line 1 w (by omega) hc hc2 hA hS hl (.inl ⟨hf, rfl⟩)
end W
end Go.Proofs.YtbiilbdflmiehaaDoor
