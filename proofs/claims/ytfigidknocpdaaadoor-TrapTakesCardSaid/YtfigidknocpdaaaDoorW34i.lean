/- Chapter 34: Next of trap. -/
import Derived.Test.YtfigidknocpdaaaDoorW34h
namespace Go.Proofs.YtfigidknocpdaaaDoor
open Go.RowKit K
namespace P
def actB (t : Tr) : Bool := t.1 != 0 && t.2 != []
def trapsF (ts : List Tr) : Int → Option Tr := ts.foldl (fun G t => if actB t then upd G t.1 t else G) fun _ => none
theorem trapsF_step (ts : List Tr) (k : Nat) (h : k < ts.length) : trapsF (ts.take (k + 1)) = if actB (ts.getD k (0, [])) then upd (trapsF (ts.take k)) (ts.getD k (0, [])).1 (ts.getD k (0, [])) else trapsF (ts.take k) := by
  have e : ts.take (k + 1) = ts.take k ++ [ts.getD k (0, [])] := by rw [List.take_succ_eq_append_getElem h, List.getD_eq_getElem?_getD, List.getElem?_eq_getElem h]; rfl
  unfold trapsF
  rw [e, List.foldl_append]
  rfl
def dueB (ts : List Tr) (n : Int) : Bool := (trapsF ts n).isSome
def due (ts : List Tr) (ps : List Int) : List Int := ps.filter (dueB ts)
end P
namespace K
def valTr (t : Tr) : Value := .agg #[.int .i64 t.1, .string ⟨t.2.toArray⟩]
def valT (G : Int → Option Tr) : Int → Option Value := fun z => (G z).map valTr
theorem valT_upd (G : Int → Option Tr) (z : Int) (t : Tr) : valT (upd G z t) = upd (valT G) z (valTr t) := by
  funext x
  unfold valT upd
  split <;> rfl
theorem int_news (w : World) (o : Obj) (x : Int) (t : TypeId) : ∀ (j : Nat) (u : Value), [Value.int .i64 x][j]? = some u → ((w.alloc o).alloc (.cells #[.int .i64 x] t)).cell? ((⟨w.heap.size + 1, 0, none⟩ : Addr).add j) = some u := by
  intro j u hj
  have e : (w.alloc o).heap.size = w.heap.size + 1 := by simp
  rw [← e]
  match j, hj with
  | 0, hj => simp at hj; subst hj; simp [Addr.add]
theorem own_set {w : World} {base : Nat} {e : TypeId} {size : Nat} {v : Value} {n : Nat} {xs : List Value} (h : w.ownsRow base e size v n xs) {p : Addr} (hp : p.block < base) (u : Value) : (w.setCell p u).ownsRow base e size v n xs := by
  refine ⟨h.1, ?_⟩
  rcases h.2 with hn | ⟨g, cap, cur, h1, h2, hg, rest⟩
  · exact .inl hn
  · exact .inr ⟨g, cap, cur, h1, h2, (Below.heap_setCell w p u g (by omega)).trans hg, rest⟩
theorem int_cells {w : World} {base : Nat} {e : TypeId} {g n c : Nat} {zs : List Int} (h : w.ownsRow base e 1 (.slice (some ⟨g, 0, none⟩) n c) n (zs.map (.int .i64))) : ∀ j, j < zs.length → w.cell? ⟨g, 0 + j, none⟩ = some (.int .i64 (zs.getD j 0)) := by
  intro j hj
  have := h.cells (g := g) rfl j (.int .i64 (zs.getD j 0)) (by simp [hj])
  rwa [show (⟨g, 0, none⟩ : Addr).add j = ⟨g, 0 + j, none⟩ by unfold Addr.add; split <;> simp_all] at this
theorem foldl_min_mem (l : List Int) : ∀ a, l.foldl min a = a ∨ l.foldl min a ∈ l := by
  induction l with
  | nil => intro a; exact .inl rfl
  | cons x r ih =>
    intro a
    rcases ih (min a x) with h | h
    · rw [List.foldl_cons, h]
      by_cases hx : a ≤ x
      · left; omega
      · right; rw [show min a x = x by omega]; simp
    · right; rw [List.foldl_cons]; exact List.mem_cons_of_mem _ h
theorem minOf_mem {l : List Int} (h : l ≠ []) : Lib.minOf l ∈ l := by
  unfold Lib.minOf
  cases l with
  | nil => exact absurd rfl h
  | cons x r =>
    rcases foldl_min_mem (x :: r) x with e | e
    · rw [show (x :: r).headD 0 = x from rfl, e]; simp
    · exact e
theorem int_one (x : Int) : ∀ u ∈ [Value.int .i64 x], u.oneCell' = true := by intro u hu; simp at hu; subst hu; rfl
theorem int_snoc (a : List Int) (x : Int) : (a.map (Value.int .i64)) ++ [.int .i64 x] = (a ++ [x]).map (.int .i64) := by simp
theorem drop_getI {zs : List Int} {k : Nat} (h : k < zs.length) : zs.drop k = zs.getD k 0 :: zs.drop (k + 1) := by
  rw [List.getD_eq_getElem?_getD, List.getElem?_eq_getElem h, List.drop_eq_getElem_cons h]; rfl
end K
namespace W
theorem infoInt : (Tryd.prog.info? 3).map (fun i => (i.zero, i.size, i.bytes)) = some (some (.int .i64 0), 1, 8) := by kernel_rfl
theorem zeroTrap (w : World) : (zeroValue 30).run Tryd.prog w = .ok (.agg #[.int .i64 0, .string ⟨#[]⟩]) w := by kernel_rfl
/-- What Next returns. -/
def NPost (w : World) (ts : List Tr) (ps : List Int) (e : Ending) (w' : World) : Prop :=
  Below w.heap.size w w' ∧ ((P.due ts ps = [] ∧ e = .returned (.tuple #[.agg #[.int .i64 0, .string ⟨#[]⟩], .slice none 0 0, .bool false])) ∨
    ∃ v, P.due ts ps ≠ [] ∧ e = .returned (.tuple #[(valT (P.trapsF ts) (Lib.minOf (P.due ts ps))).getD (.agg #[.int .i64 0, .string ⟨#[]⟩]), v, .bool true]) ∧ w'.ownsRow w.heap.size 3 1 v ((P.due ts ps).filter (· != Lib.minOf (P.due ts ps))).length (((P.due ts ps).filter (· != Lib.minOf (P.due ts ps))).map (.int .i64)))

set_option maxHeartbeats 4000000 in
set_option maxRecDepth 100000 in
theorem Next_any (v : Value) (ts : List Tr) (Ap : Option Addr) (cp : Nat) (ps : List Int) (w : World) (hV : TV w v ts) (hn : ts.length ≤ 1000) (hz : ∀ t ∈ ts, 0 ≤ t.1 ∧ t.1 ≤ 20) (hP : IL .i64 w Ap ps) (hp : ps.length ≤ 1000) (hpw : ∀ z ∈ ps, (Lit.int .i64 z).wf = true) :
    Calls Tryd.prog 14 #[v, .slice Ap ps.length cp] w (NPost w ts ps) := by
  obtain ⟨i0, hi, hy0, hy1, hy2⟩ := info_parts infoInt
  obtain ⟨A, c, rfl, hc1, hc2, -, hT⟩ := hV
  have HT := Lib.hid hT
  have HZ := Lib.hid hz
  have HP := Lib.hid hP
  have HPW := Lib.hid hpw
  clear hT hz hP hpw
  obtain ⟨x0, q0⟩ : ∃ x : World, x = (w.alloc (.cells #[.int .i64 0, .string ⟨#[]⟩] 30)).alloc (.map #[] 0) := ⟨_, rfl⟩
  have hsz : (w.alloc (.cells #[.int .i64 0, .string ⟨#[]⟩] 30)).heap.size = w.heap.size + 1 := by simp
  have HI0 : Hid (IMap Tryd.prog 3 encT x0 (w.heap.size + 1) 0 (valT (fun _ => none))) := by rw [q0, ← hsz]; exact IMap.made _ _ _ _
  have HX0 : Hid (x0.heap[w.heap.size]? = some (.cells #[.int .i64 0, .string ⟨#[]⟩] 30 (0, 0))) := by
    show _ = _
    rw [q0]
    exact (Below.heap_alloc _ _ w.heap.size (by simp)).trans (heap_alloc_new w _)
  have HB0 : Hid (Below w.heap.size w x0) := by show Below _ _ _; rw [q0]; exact ((Below.refl _ _).alloc (Nat.le_refl _) _).alloc (by simp) _
  have Q0 := Lib.hid q0
  have hmm := @run_makeMap Tryd.prog
  clear q0 hsz
  go_enter Tryd.func14, Tryd.ntmps14
  go_wp2
  rw [← Q0.out]
  go_loopw [22] (fun i wr => ∃ k n : Nat, k ≤ ts.length ∧ i = .int .i64 k ∧ n ≤ k ∧ IMap Tryd.prog 3 encT wr (w.heap.size + 1) n (valT (P.trapsF (ts.take k))) ∧ wr.heap[w.heap.size]? = some (.cells #[.int .i64 0, .string ⟨#[]⟩] 30 (0, 0)) ∧ Below w.heap.size w wr) (fun i _ => ts.length - (intOf i).toNat)
  case atStart => exact ⟨0, 0, by omega, rfl, by omega, HI0.out, HX0.out, HB0.out⟩
  case round =>
    obtain ⟨k, n, hk, rfl, hnn, hI, hbox, hbw⟩ := hrel
    have hwlt : w.heap.size + 1 < wr.heap.size := hI.lt
    by_cases hlt : k < ts.length
    · obtain ⟨b, off, rfl, hb, hc0, hc1'⟩ := (HT.out.below hbw).get hlt
      have HST := Lib.hid (P.trapsF_step ts k hlt)
      have hmem : ts.getD k (0, []) ∈ ts := by rw [List.getD_eq_getElem?_getD, List.getElem?_eq_getElem hlt]; exact List.getElem_mem hlt
      obtain ⟨b1, b2⟩ := HZ.out _ hmem
      obtain ⟨⟨z, s⟩, ht⟩ : ∃ t, ts.getD k (0, []) = t := ⟨_, rfl⟩
      rw [ht] at HST hc0 hc1' b1 b2
      simp only at hc0 hc1' b1 b2
      obtain ⟨x, hx⟩ : ∃ x, x = wr.alloc (.cells #[.int .i64 z, .string ⟨s.toArray⟩] 30) := ⟨_, rfl⟩
      have HX := Lib.hid hx
      have hyb : Below wr.heap.size wr x := by rw [hx]; exact (Below.refl _ _).alloc (Nat.le_refl _) _
      have hIx := hI.below hyb
      have HIx := Lib.hid hIx
      have HBOX := Lib.hid ((hyb.block w.heap.size (by omega)).trans hbox)
      have HBx := Lib.hid (btr hbw hyb)
      have hszx : x.heap.size = wr.heap.size + 1 := by rw [hx]; simp
      have hwf : (Lit.int .i64 z).wf = true := wf64 (by omega) (by omega)
      clear ht hmem hx hyb hI hbw hbox
      by_cases hq : z = 0
      · have e1 : (z != 0) = false := by simp [hq]
        have HF := Lib.hid (show P.trapsF (ts.take (k + 1)) = P.trapsF (ts.take k) by rw [HST.out, if_neg (by simp [P.actB, hq])])
        clear hq hIx hszx
        go_wp2
        rw [← HX.out]
        go_roundw
        case rel => exact ⟨k + 1, n, by omega, by go_num, by omega, by rw [HF.out]; exact HIx.out, HBOX.out, HBx.out⟩
        case measure => simp [intOf]; omega
      · have e1 : (z != 0) = true := by simp [hq]
        rcases List.eq_nil_or_concat s with hs | hs
        · subst hs
          have HF := Lib.hid (show P.trapsF (ts.take (k + 1)) = P.trapsF (ts.take k) by rw [HST.out, if_neg (by simp [P.actB])])
          clear hq hIx hszx
          go_wp2
          rw [← HX.out]
          go_roundw
          case rel => exact ⟨k + 1, n, by omega, by go_num, by omega, by rw [HF.out]; exact HIx.out, HBOX.out, HBx.out⟩
          case measure => simp [intOf]; omega
        · have hs1 : s ≠ [] := by rintro rfl; simp at hs
          have hs2 : s.isEmpty = false := by cases s; simp at hs1; rfl
          have HF := Lib.hid (show upd (valT (P.trapsF (ts.take k))) z (.agg #[.int .i64 z, .string ⟨s.toArray⟩]) = valT (P.trapsF (ts.take (k + 1))) by rw [HST.out, if_pos (by simp [P.actB, hq, hs1]), valT_upd]; rfl)
          clear hs hs1 hq
          go_wp2_with (at_mapUpdate; rw [← HX.out]; refine wpList_imap_store _ rfl _ _ _ 53 rfl 3 30 keyInt Tryd.underlying3 Tryd.underlying53 encT (w.heap.size + 1) n _ rfl hIx (by unfold maxLen; omega) z hwf (.agg #[.int .i64 z, .string ⟨s.toArray⟩]) _ rfl rfl rfl ?_)
          intro w1 hI1 hgrow1
          rw [HF.out] at hI1
          have HI1 := Lib.hid hI1
          have HBX1 := Lib.hid ((hgrow1.block _ (by omega) (by intro e; injection e with e; omega)).trans HBOX.out)
          have HB1 := Lib.hid (HBx.out.grown hgrow1 HBx.out.size (fun k hk => by injection hk with hk; omega))
          clear hIx hszx hI1 hgrow1
          go_wp2
          go_roundw
          case rel => exact ⟨k + 1, n + 1, by omega, by go_num, by omega, HI1.out, HBX1.out, HB1.out⟩
          case measure => simp [intOf]; omega
    · have HIm := Lib.hid (show IMap Tryd.prog 3 encT wr (w.heap.size + 1) n (valT (P.trapsF ts)) by rw [List.take_of_length_le (by omega)] at hI; exact hI)
      obtain ⟨wm, hwm⟩ : ∃ wm, wm = wr := ⟨_, rfl⟩
      have HBOXm := Lib.hid hbox
      have HBm := Lib.hid hbw
      rw [← hwm] at HIm HBOXm HBm hwlt
      clear hI hbox hbw
      go_wp2
      rw [← hwm]
      clear hwm
      obtain ⟨D, hD⟩ : ∃ D, P.due ts ps = D := ⟨_, rfl⟩
      have HDu := Lib.hid hD
      have HD0 := Lib.hid (show ps.filter (P.dueB ts) = D from hD)
      clear hD
      go_loopw [10, 41] (fun o i wr => ∃ (k : Nat) (acc : List Int), k ≤ ps.length ∧ i = .int .i64 k ∧ acc.length ≤ k ∧ wr.ownsRow wm.heap.size 3 1 o acc.length (acc.map (.int .i64)) ∧ Below wm.heap.size wm wr ∧ Hid (acc ++ (ps.drop k).filter (P.dueB ts) = D)) (fun _ i _ => ps.length - (intOf i).toNat)
      case atStart => exact ⟨0, [], by omega, rfl, by simp, World.ownsRow_nil _ _ _ _, Below.refl _ _, by show _ = _; simpa using HD0.out⟩
      case round =>
        obtain ⟨k, acc, hk, rfl, hac, hown, hbw, HN⟩ := hrel
        have hszm := hbw.size
        by_cases hlt : k < ps.length
        · obtain ⟨b, off, rfl, hb, hc0⟩ := (HP.out.below (btr HBm.out hbw)).get hlt
          have HDR := Lib.hid (drop_getI hlt)
          have hwf := HPW.out (ps.getD k 0) (by rw [List.getD_eq_getElem?_getD, List.getElem?_eq_getElem hlt]; exact List.getElem_mem hlt)
          generalize ps.getD k 0 = q at *
          have hJ := HIm.out.below hbw
          have HB := Lib.hid hbw
          have HO := Lib.hid hown
          clear hbw
          cases hg : P.trapsF ts q with
          | none =>
            have HG := Lib.hid (show valT (P.trapsF ts) q = none by unfold valT; rw [hg]; rfl)
            have HF := Lib.hid (show acc ++ (ps.drop (k + 1)).filter (P.dueB ts) = D by rw [← HN.out, HDR.out, List.filter_cons_of_neg (by simp [P.dueB, hg])])
            clear hg hown
            go_wp2_with (at_lookup; refine wpList_imap_look _ rfl _ _ 53 true rfl 3 30 keyInt Tryd.underlying3 Tryd.underlying53 encT encT_inj (w.heap.size + 1) n _ rfl hJ (zeroTrap _) q hwf rfl ?_; simp only [if_true, HG.out, Option.getD_none, Option.isSome_none])
            go_roundw
            case rel => first | exact ⟨k + 1, acc, by omega, by go_num, by omega, HO.out.alloc _, HB.out.alloc HB.out.size _, HF.out⟩ | ((repeat apply Exists.intro); exact ⟨⟨k + 1, acc, by omega, by go_num, by omega, HO.out.alloc _, HB.out.alloc HB.out.size _, HF.out⟩, rfl⟩)
            case measure => simp [intOf]; omega
          | some t =>
            obtain ⟨tz, tt⟩ := t
            have HG := Lib.hid (show valT (P.trapsF ts) q = some (.agg #[.int .i64 tz, .string ⟨tt.toArray⟩]) by unfold valT; rw [hg]; rfl)
            have HF := Lib.hid (show (acc ++ [q]) ++ (ps.drop (k + 1)).filter (P.dueB ts) = D by rw [← HN.out, HDR.out, List.filter_cons_of_pos (by simp [P.dueB, hg])]; simp)
            have HSN := Lib.hid (int_snoc acc q)
            clear hg
            go_wp2_with (first
              | (at_lookup; refine wpList_imap_look _ rfl _ _ 53 true rfl 3 30 keyInt Tryd.underlying3 Tryd.underlying53 encT encT_inj (w.heap.size + 1) n _ rfl hJ (zeroTrap _) q hwf rfl ?_; simp only [if_true, HG.out, Option.getD_some, Option.isSome_some])
              | (at_builtin; refine wpList_append_own _ rfl _ _ 27 rfl wm.heap.size 3 i0 (.int .i64 0) 1 8 Tryd.underlying27 hi hy0 hy1 hy2 rfl (by decide) _ _ _ rfl ((hown.alloc _).alloc _) ⟨wr.heap.size + 1, 0, none⟩ 1 1 [.int .i64 q] rfl rfl (int_news wr _ _ _) (int_one _) (by unfold maxLen; omega) (by omega) (by simp; omega) ?_))
            intro v2 w2 hown2 hgrow2 _
            have hb2 : Below wm.heap.size wm w2 := ((HB.out.alloc HB.out.size _).alloc (by have := HB.out.size; simp; omega) _).grown hgrow2 (by have := HB.out.size; simp; omega) (fun k hk => (HO.out.lt k hk).1)
            rw [HSN.out] at hown2
            have HO2 := Lib.hid hown2
            have HB2 := Lib.hid hb2
            clear hown hgrow2 hown2 hb2 hJ
            go_wp2
            go_roundw
            case rel => first | exact ⟨k + 1, acc ++ [q], by omega, by go_num, by simp; omega, by simpa using HO2.out, HB2.out, HF.out⟩ | ((repeat apply Exists.intro); exact ⟨⟨k + 1, acc ++ [q], by omega, by go_num, by simp; omega, by simpa using HO2.out, HB2.out, HF.out⟩, rfl⟩)
            case measure => simp [intOf]; omega
        · have hacc : acc = D := by have := HN.out; rw [List.drop_eq_nil_of_le (by omega)] at this; simpa using this
          subst hacc
          have HB := Lib.hid hbw
          have HBOX := Lib.hid ((hbw.block w.heap.size (by omega)).trans HBOXm.out)
          obtain ⟨f0, f1, z0, z1⟩ := box_cells HBOX.out
          have HBw := Lib.hid (btr HBm.out hbw)
          have hJ := HIm.out.below hbw
          have hltw : w.heap.size < wr.heap.size := by omega
          clear hbw HN HD0
          by_cases hem : acc = []
          · subst hem
            have hcs : u10 = .slice none 0 0 ∨ ∃ g cap, u10 = .slice (some ⟨g, 0, none⟩) 0 cap := by
              rcases hown.2 with ⟨h, _⟩ | ⟨g, cap, cur, h, _⟩
              · exact .inl h
              · exact .inr ⟨g, cap, by simpa using h⟩
            clear hown
            rcases hcs with rfl | ⟨g, cap, rfl⟩
            all_goals
              go_wp2
              refine bodyPost_ret (v := .tuple #[.agg #[.int .i64 0, .string ⟨#[]⟩], .slice none 0 0, .bool false]) (by simp [results, Tryd.results14, go_sem, f0, f1]) rfl ⟨(HBw.out.setCell (by simp) _).setCell (by simp) _, .inl ⟨HDu.out, rfl⟩⟩
          · have hpos : 0 < acc.length := List.length_pos_iff.2 hem
            have hcs : ∃ g cap, u10 = .slice (some ⟨g, 0, none⟩) acc.length cap ∧ wm.heap.size ≤ g ∧ g < wr.heap.size := by
              rcases hown.2 with ⟨_, h⟩ | ⟨g, cap, cur, h, h2, hg, _⟩
              · omega
              · exact ⟨g, cap, h, h2, (Array.getElem?_eq_some_iff.1 hg).1⟩
            obtain ⟨g, cap, rfl, hg1, hg2⟩ := hcs
            have hcl := int_cells hown
            have HMIN := Lib.hid (Tryd.slices_Min_int g 0 acc.length cap acc wr hpos (Nat.le_refl _) (by omega) hcl)
            rw [List.take_of_length_le (Nat.le_refl acc.length)] at HMIN
            obtain ⟨m, hm⟩ : ∃ m, Lib.minOf acc = m := ⟨_, rfl⟩
            rw [hm] at HMIN
            have HMN := Lib.hid hm
            have HCL := Lib.hid hcl
            have hl0 : ((acc.length : Int) == 0) = false := by simp; omega
            have HEM := Lib.hid hem
            obtain ⟨wl, hwl⟩ : ∃ wl, wl = wr := ⟨_, rfl⟩
            have HCL' := HCL
            have HBOX' := HBOX
            have HBw' := HBw
            have HJ := Lib.hid hJ
            rw [← hwl] at HCL' HBOX' HBw' HJ hg2 hltw
            clear hm hcl hown hem hJ f0 f1 z0 z1 HCL HBOX HBw
            go_wp2_with fail
            refine HMIN.out.mono ?_
            rintro e w' ⟨rfl, rfl⟩
            go_wp2
            rw [← hwl]
            clear hwl
            obtain ⟨R, hR⟩ : ∃ R, acc.filter (· != m) = R := ⟨_, rfl⟩
            have HR := Lib.hid hR
            clear hR
            go_loopw [16, 65] (fun o i wr => ∃ (k : Nat) (r : List Int), k ≤ acc.length ∧ i = .int .i64 k ∧ r.length ≤ k ∧ wr.ownsRow wl.heap.size 3 1 o r.length (r.map (.int .i64)) ∧ Below wl.heap.size wl wr ∧ Hid (r ++ (acc.drop k).filter (· != m) = R)) (fun _ i _ => acc.length - (intOf i).toNat)
            case atStart => exact ⟨0, [], by omega, rfl, by simp, World.ownsRow_nil _ _ _ _, Below.refl _ _, by show _ = _; simpa using HR.out⟩
            case round =>
              obtain ⟨k, r, hk, rfl, hrc, hown, hbw, HN⟩ := hrel
              have hszl := hbw.size
              by_cases hlt : k < acc.length
              · have hc0 : wr.cell? ⟨g, 0 + k, none⟩ = some (.int .i64 (acc.getD k 0)) := (hbw.cell (p := ⟨g, 0 + k, none⟩) hg2).trans (HCL'.out k hlt)
                simp only [Nat.zero_add] at hc0
                have HDR := Lib.hid (drop_getI hlt)
                generalize acc.getD k 0 = q at *
                have HB := Lib.hid hbw
                have HO := Lib.hid hown
                clear hbw
                by_cases hq : q = m
                · have e1 : (q != m) = false := by simp [hq]
                  have HF := Lib.hid (show r ++ (acc.drop (k + 1)).filter (· != m) = R by rw [← HN.out, HDR.out, List.filter_cons_of_neg (by simp [hq])])
                  clear hq hown
                  go_wp2
                  go_roundw
                  case rel => first | exact ⟨k + 1, r, by omega, by go_num, by omega, HO.out, HB.out, HF.out⟩ | ((repeat apply Exists.intro); exact ⟨⟨k + 1, r, by omega, by go_num, by omega, HO.out, HB.out, HF.out⟩, rfl⟩)
                  case measure => simp [intOf]; omega
                · have e1 : (q != m) = true := by simp [hq]
                  have HF := Lib.hid (show (r ++ [q]) ++ (acc.drop (k + 1)).filter (· != m) = R by rw [← HN.out, HDR.out, List.filter_cons_of_pos (by simp [hq])]; simp)
                  have HSN := Lib.hid (int_snoc r q)
                  clear hq
                  go_wp2_with (at_builtin; refine wpList_append_own _ rfl _ _ 27 rfl wl.heap.size 3 i0 (.int .i64 0) 1 8 Tryd.underlying27 hi hy0 hy1 hy2 rfl (by decide) _ _ _ rfl (hown.alloc _) ⟨wr.heap.size, 0, none⟩ 1 1 [.int .i64 q] rfl rfl (one_cells wr _ _) (int_one _) (by unfold maxLen; omega) (by omega) (by simp; omega) ?_)
                  intro v2 w2 hown2 hgrow2 _
                  have hb2 : Below wl.heap.size wl w2 := (HB.out.alloc HB.out.size _).grown hgrow2 (by simp; omega) (fun k hk => (HO.out.lt k hk).1)
                  rw [HSN.out] at hown2
                  have HO2 := Lib.hid hown2
                  have HB2 := Lib.hid hb2
                  clear hown hgrow2 hown2 hb2
                  go_wp2
                  go_roundw
                  case rel => first | exact ⟨k + 1, r ++ [q], by omega, by go_num, by simp; omega, by simpa using HO2.out, HB2.out, HF.out⟩ | ((repeat apply Exists.intro); exact ⟨⟨k + 1, r ++ [q], by omega, by go_num, by simp; omega, by simpa using HO2.out, HB2.out, HF.out⟩, rfl⟩)
                  case measure => simp [intOf]; omega
              · have hr : r = R := by have := HN.out; rw [List.drop_eq_nil_of_le (by omega)] at this; simpa using this
                subst hr
                have hJ := HJ.out.below hbw
                obtain ⟨f0, f1, z0, z1⟩ := box_cells ((hbw.block w.heap.size (by omega)).trans HBOX'.out)
                have HBf := Lib.hid (btr HBw'.out hbw)
                have HO := Lib.hid hown
                have hmm1 : m ∈ acc := by rw [← HMN.out]; exact minOf_mem HEM.out
                have hmm2 : m ∈ P.due ts ps := by rw [HDu.out]; exact hmm1
                have hwfm : (Lit.int .i64 m).wf = true := HPW.out m ((List.mem_filter.1 hmm2).1)
                have hsm : (P.trapsF ts m).isSome = true := (List.mem_filter.1 hmm2).2
                have hblt : w.heap.size < wl.heap.size := by omega
                have HEQ := Lib.hid (show acc.filter (· != m) = r from HR.out)
                cases hg : P.trapsF ts m with
                | none => rw [hg] at hsm; cases hsm
                | some t =>
                  obtain ⟨tz, tt⟩ := t
                  have HG := Lib.hid (show valT (P.trapsF ts) m = some (.agg #[.int .i64 tz, .string ⟨tt.toArray⟩]) by unfold valT; rw [hg]; rfl)
                  clear hg hsm hmm1 hmm2 hbw hown HN
                  go_wp2_with (at_lookup; refine wpList_imap_look _ rfl _ _ 53 false rfl 3 30 keyInt Tryd.underlying3 Tryd.underlying53 encT encT_inj (w.heap.size + 1) n _ rfl hJ (zeroTrap _) m hwfm rfl ?_; simp only [Bool.false_eq_true, if_false, HG.out, Option.getD_some])
                  refine bodyPost_ret (v := .tuple #[.agg #[.int .i64 tz, .string ⟨tt.toArray⟩], u16, .bool true]) (by simp [results, Tryd.results14, go_sem, f0, f1]) rfl ⟨(HBf.out.setCell (by simp) _).setCell (by simp) _, .inr ⟨u16, by rw [HDu.out]; exact HEM.out, ?_, ?_⟩⟩
                  · rw [HDu.out, HMN.out, HG.out]; rfl
                  · rw [HDu.out, HMN.out, HEQ.out]
                    exact own_base (own_set (own_set HO.out hblt _) hblt _) (by omega)
end W
end Go.Proofs.YtfigidknocpdaaaDoor
