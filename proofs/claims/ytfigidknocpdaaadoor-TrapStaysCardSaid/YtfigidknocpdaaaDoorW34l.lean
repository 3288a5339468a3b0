/- Chapter 34: Set of trap. -/
import Derived.Test.YtfigidknocpdaaaDoorW34k
import Derived.Test.YtfigidknocpdaaaDoorW34f
import Derived.Test.YtfigidknocpdaaaDoorP34b
namespace Go.Proofs.YtfigidknocpdaaaDoor
open Go.RowKit K
namespace P
/-- How many traps lie ahead of a signal. -/
def ahead (sig : Int) : List Tr → Nat
  | [] => 0
  | t :: r => if t.1 < sig then ahead sig r + 1 else 0
theorem ahead_le (sig : Int) (ts : List Tr) : ahead sig ts ≤ ts.length := by
  induction ts with
  | nil => simp [ahead]
  | cons t r ih => rw [ahead]; split <;> simp <;> omega
def setT (ts : List Tr) (sig : Int) (a : List UInt8) : List Tr := putAt (reset ts sig) (ahead sig (reset ts sig)) (sig, a)
theorem putAt_length (ts : List Tr) (i : Nat) (t : Tr) (h : i ≤ ts.length) : (putAt ts i t).length = ts.length + 1 := by simp [putAt]; omega
end P
namespace W

set_option maxHeartbeats 2000000 in
theorem Set_in (v : Value) (ts : List Tr) (sig : Int) (a : List UInt8) (w : World) (hV : TV w v ts) (hn : ts.length ≤ 1000) (h0 : 0 ≤ sig) (h1 : sig ≤ 20) :
    Calls Tryd.prog 21 #[v, .int .i64 sig, .string ⟨a.toArray⟩] w (TPost w (P.setT ts sig a)) := by
  have HRS := Lib.hid (Reset_any v ts sig w hV (by omega))
  obtain ⟨rs, hrs⟩ : ∃ r, P.reset ts sig = r := ⟨_, rfl⟩
  have hrl : rs.length ≤ 1000 := by rw [← hrs]; have := List.length_filter_le (P.resetB sig) ts; unfold P.reset; omega
  obtain ⟨R, hR⟩ : ∃ R, P.setT ts sig a = R := ⟨_, rfl⟩
  rw [hR]
  unfold P.setT at hR
  rw [hrs] at HRS hR
  have HR := Lib.hid hR
  have hal := P.ahead_le sig rs
  obtain ⟨A, c, rfl, hc1, hc2, -, -⟩ := hV
  clear hrs hR
  go_enter Tryd.func21, Tryd.ntmps21
  go_wp2_with fail
  refine HRS.out.mono ?_
  rintro e w1 ⟨v1, rfl, hown, hb1⟩
  have HO := Lib.hid hown
  have HB := Lib.hid hb1
  obtain ⟨A1, cap1, rfl, g1, g2, -, hT1⟩ := TV.own hown
  have HT := Lib.hid hT1
  have hsz1 := hb1.size
  clear hown hb1 hT1
  go_wp2
  go_loop [8] (fun i => ∃ k : Nat, k ≤ rs.length ∧ i = .int .i64 k ∧ Hid (k + P.ahead sig (rs.drop k) = P.ahead sig rs)) (fun i => rs.length - (intOf i).toNat)
  case atStart => exact ⟨0, by omega, rfl, by show _ = _; simp⟩
  case round =>
    obtain ⟨k, hk, rfl, HN⟩ := hrel
    have hcase : (∃ z s, k < rs.length ∧ rs.getD k (0, []) = (z, s) ∧ z < sig) ∨ (P.ahead sig rs = k ∧ (¬ k < rs.length ∨ ∃ z s, k < rs.length ∧ rs.getD k (0, []) = (z, s) ∧ ¬ z < sig)) := by
      have hN := HN.out
      by_cases hlt : k < rs.length
      · obtain ⟨⟨z, s⟩, ht⟩ : ∃ t, rs.getD k (0, []) = t := ⟨_, rfl⟩
        rw [drop_getT hlt, ht, P.ahead] at hN
        by_cases hz : z < sig
        · exact .inl ⟨z, s, hlt, ht, hz⟩
        · rw [if_neg hz] at hN
          exact .inr ⟨by omega, .inr ⟨z, s, hlt, ht, hz⟩⟩
      · rw [List.drop_eq_nil_of_le (by omega)] at hN
        simp [P.ahead] at hN
        exact .inr ⟨by omega, .inl hlt⟩
    rcases hcase with ⟨z, s, hlt, ht, hz⟩ | ⟨hak, hst⟩
    · obtain ⟨b, off, rfl, hb, hc0, -⟩ := HT.out.get hlt
      have HF := Lib.hid (show k + 1 + P.ahead sig (rs.drop (k + 1)) = P.ahead sig rs by
        have hN := HN.out
        rw [drop_getT hlt, ht, P.ahead, if_pos hz] at hN
        omega)
      rw [ht] at hc0
      simp only at hc0
      clear ht
      go_wp2
      go_round
      case rel => exact ⟨k + 1, by omega, by go_num, HF.out⟩
      case measure => simp [intOf]; omega
    · have HAK := Lib.hid hak
      clear hak
      have HIN : Hid (∀ vb W, Below w1.heap.size w1 W → W.heap[vb]? = some (.cells #[.int .i64 sig, .string ⟨a.toArray⟩] 30 (0, 0)) → w1.heap.size ≤ vb → Calls Tryd.prog 44 #[.slice A1 rs.length cap1, .int .i64 k, .slice (some ⟨vb, 0, none⟩) 1 1] W fun e w' => ∃ v', e = .returned v' ∧ w'.ownsRow w.heap.size 30 2 v' (rs.length + 1) (tcells (putAt rs k (sig, a))) ∧ Below w.heap.size W w') := fun vb W hbW hvb hle =>
        Insert_any w.heap.size _ rs k vb sig a W (own_below HO.out hbW) hk hrl (Nat.le_trans HB.out.size hbW.size) hvb (fun e => by have := (HO.out.lt vb e).2; omega)
      have HLEN := Lib.hid (show R.length = rs.length + 1 by rw [← HR.out]; exact P.putAt_length _ _ _ hal)
      have HRK := Lib.hid (show putAt rs k (sig, a) = R by rw [← HR.out, HAK.out])
      obtain ⟨x, hx⟩ : ∃ x, x = w1.alloc (.cells #[.int .i64 sig, .string ⟨a.toArray⟩] 30) := ⟨_, rfl⟩
      have HX := Lib.hid hx
      have HXB := Lib.hid (show Below w1.heap.size w1 x by rw [hx]; exact (Below.refl _ _).alloc (Nat.le_refl _) _)
      have HXH := Lib.hid (show x.heap[w1.heap.size]? = some (.cells #[.int .i64 sig, .string ⟨a.toArray⟩] 30 (0, 0)) by rw [hx]; exact heap_alloc_new w1 _)
      clear hx
      rcases hst with hst | ⟨z, s, hlt, ht, hz⟩
      case' inr =>
        obtain ⟨b, off, rfl, hb, hc0, -⟩ := HT.out.get hlt
        rw [ht] at hc0
        simp only at hc0
        clear ht
      all_goals
        go_wp2_with fail
        rw [← HX.out]
        refine (HIN.out _ x HXB.out HXH.out (Nat.le_refl _)).mono ?_
        rintro e w2 ⟨v2, rfl, hown2, hb2⟩
        rw [HRK.out] at hown2
        have HO2 := Lib.hid hown2
        have HB2 := Lib.hid ((btr HB.out HXB.out).trans hb2)
        clear hown2 hb2
        go_wp2
        go_ret
        exact ⟨_, rfl, by rw [HLEN.out]; exact HO2.out, HB2.out⟩

theorem TL_news {w : World} {ad : Addr} {ts : List Tr} (h : TL w (some ad) ts) : ∀ (j : Nat) (u : Value), (tcells ts)[j]? = some u → w.cell? (ad.add j) = some u := by
  intro j u hj
  have hlt : j < ts.length * 2 := by have := (List.getElem?_eq_some_iff.1 hj).1; rw [tcells_length] at this; exact this
  obtain ⟨b, off, e, _, hc⟩ := h (by intro e; subst e; simp at hlt)
  injection e with e
  subst e
  have e0 : (⟨b, off, none⟩ : Addr).add j = ⟨b, off + j, none⟩ := by unfold Addr.add; split <;> simp_all
  rw [e0]
  have hi : j / 2 < ts.length := by omega
  obtain ⟨c0, c1⟩ := hc (j / 2) hi
  obtain ⟨t0, t1⟩ := tcells_at hi
  rcases Nat.mod_two_eq_zero_or_one j with hm | hm
  · have ej : j = j / 2 * 2 := by omega
    rw [ej] at hj ⊢
    rw [t0] at hj
    injection hj with hj
    rw [← hj]
    have : j / 2 * 2 / 2 * 2 = j / 2 * 2 := by omega
    exact c0
  · have ej : j = j / 2 * 2 + 1 := by omega
    rw [ej] at hj ⊢
    rw [t1] at hj
    injection hj with hj
    rw [← hj, ← Nat.add_assoc]
    exact c1
theorem Clone_any (v : Value) (ts : List Tr) (w : World) (hV : TV w v ts) (hn : ts.length ≤ 1000) :
    Calls Tryd.prog 43 #[v] w (TPost w ts) := by
  obtain ⟨i0, hi0, hz0, hzs, hzb⟩ := info_parts infoTrap
  obtain ⟨A, c, rfl, hc1, hc2, hA, hT⟩ := hV
  have qn : ∀ (w : World) (a : Option Addr) (n c n' c' : Nat), (binOp .eql 26 (.slice a n c) (.slice none n' c')).run Tryd.prog w = .ok (.bool a.isNone) w := fun w a n c n' c' => Lib.run_eql_slice_nil w _ _ a n c n' c' Tryd.underlying26
  cases A with
  | none =>
    have hl : ts = [] := by
      have := hA rfl
      exact List.eq_nil_of_length_eq_zero (by omega)
    subst hl
    obtain rfl : c = 0 := hA rfl
    clear hn hc1 hc2 hA hT hi0 hz0 hzs hzb
    go_enter Tryd.func43, Tryd.ntmps43
    go_wp2
    go_ret
    exact ⟨_, rfl, World.ownsRow_nil _ _ _ _, Below.refl _ _⟩
  | some ad =>
    have hnews := TL_news (hT.below (w' := w.alloc (.cells #[] 30)) ((Below.refl _ _).alloc (Nat.le_refl _) _))
    have hm : (w.alloc (.cells #[] 30)).ownsRow w.heap.size 30 2 (.slice (some ⟨w.heap.size, 0, none⟩) 0 0) 0 [] := World.ownsRow_made w #[] 0 (Nat.le_refl _) (by unfold maxLen; omega) (by simp)
    have HM := Lib.hid hm
    obtain ⟨n, hnn⟩ : ∃ n, ts.length = n := ⟨_, rfl⟩
    have HNN := Lib.hid hnn
    have hcl : (tcells ts).length = n * 2 := by rw [tcells_length, hnn]
    have HCL := Lib.hid hcl
    have HT1 := Lib.hid (tcells_one ts)
    rw [hnn] at hn hc1 ⊢
    clear hnn hcl hA hT
    go_enter Tryd.func43, Tryd.ntmps43
    go_wp2_with (at_builtin; refine wpList_append_own _ rfl _ _ 26 rfl w.heap.size 30 i0 (.agg #[.int .i64 0, .string ⟨#[]⟩]) 2 24 Tryd.underlying26 hi0 hz0 hzs hzb rfl (by decide) _ _ _ rfl HM.out ad n c (tcells ts) rfl HCL.out hnews HT1.out (by unfold maxLen; omega) (by omega) (by simp) ?_)
    intro v2 w2 hown2 hgrow2 _
    have HB2 := Lib.hid (show Below w.heap.size w w2 from ((Below.refl _ w).alloc (Nat.le_refl _) _).grown hgrow2 (by simp) (fun k hk => (HM.out.lt k hk).1))
    try simp only [Nat.zero_add, List.nil_append] at hown2
    have HO2 := Lib.hid hown2
    clear hown2 hgrow2
    go_wp2
    go_ret
    exact ⟨_, rfl, by rw [HNN.out]; exact HO2.out, HB2.out⟩
theorem Set_out (v : Value) (ts : List Tr) (sig : Int) (a : List UInt8) (w : World) (hV : TV w v ts) (hn : ts.length ≤ 1000) (h : sig < 0 ∨ 20 < sig) :
    Calls Tryd.prog 21 #[v, .int .i64 sig, .string ⟨a.toArray⟩] w (TPost w ts) := by
  have HC := Lib.hid (Clone_any v ts w hV hn)
  obtain ⟨A, c, rfl, hc1, hc2, -, -⟩ := hV
  rcases h with h | h
  case' inr => have h0 : ¬ sig < 0 := by omega
  all_goals
    go_enter Tryd.func21, Tryd.ntmps21
    go_wp2_with fail
    refine HC.out.mono ?_
    rintro e w1 ⟨v1, rfl, hown, hb1⟩
    have HO := Lib.hid hown
    have HB := Lib.hid hb1
    clear hown hb1
    go_wp2
    go_ret
    exact ⟨_, rfl, HO.out, HB.out⟩
end W
end Go.Proofs.YtfigidknocpdaaaDoor
