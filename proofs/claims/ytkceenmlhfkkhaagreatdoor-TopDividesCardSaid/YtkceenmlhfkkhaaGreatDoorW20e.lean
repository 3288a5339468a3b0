/- Pathnames: the pieces of a field, the iterator walked. -/
import Derived.Test.YtkceenmlhfkkhaaGreatDoorY20
namespace Go.Proofs.YtkceenmlhfkkhaaGreatDoor
open Go.RowKit K
attribute [local go_sem] Oper.semAt_some
namespace W
set_option maxRecDepth 100000
theorem Cut_slash (s : List UInt8) (w : World) (hw : Env w) (hl : s.length ≤ 1000000) (a b : List UInt8) (f : Bool) (hc : Lib.cut s [47] = (a, b, f)) :
    Calls Tryz.prog 102 #[.string ⟨s.toArray⟩, .string ⟨#[47]⟩] w fun e w' => e = .returned (.tuple #[.string ⟨a.toArray⟩, .string ⟨b.toArray⟩, .bool f]) ∧ Below w.heap.size w w' := by
  obtain ⟨m, hm⟩ := hw
  refine (Tryz.strings_Cut ⟨s.toArray⟩ ⟨#[47]⟩ m w (by show s.length < _; omega) hm).mono ?_
  rintro e w1 ⟨rfl, k, rfl⟩
  have hce : Lib.cut (⟨s.toArray⟩ : ByteArray).data.toList (⟨#[47]⟩ : ByteArray).data.toList = (a, b, f) := hc
  rw [hce]
  exact ⟨rfl, bdN (Below.refl _ _) _⟩
/-- What is left of a run behind a slash, with the slash. -/
def slashed (f : Bool) (b : List UInt8) : List UInt8 := if f = true then 47 :: b else []
theorem cut_slashed {s a b : List UInt8} {f : Bool} (h : Lib.cut s [47] = (a, b, f)) : s = a ++ slashed f b ∧ a.length ≤ s.length ∧ b.length ≤ s.length ∧ (f = true → b.length < s.length) := by
  rcases SP.cut47 h with ⟨rfl, rfl⟩ | ⟨rfl, rfl, rfl⟩
  · exact ⟨rfl, by simp, by simp; omega, fun _ => by simp; omega⟩
  · exact ⟨by simp [slashed], Nat.le_refl _, by simp, fun h => by cases h⟩
def blen : Value → Nat
  | .bool true => 1
  | _ => 0
def strLen20 : Value → Nat
  | .string s => s.size
  | _ => 0
theorem strLen_of (l : List UInt8) : strLen20 (.string ⟨l.toArray⟩) = l.length := by simp [strLen20, ByteArray.size]
theorem cut_lit {y u v : List UInt8} {g : Bool} {c : Int} (h : Lib.cut y [47] = (u, v, g)) (hl : SP.lit (y, c)) : SP.lit (u, c) ∧ SP.lit (v, c) := by
  have hs : (∀ z ∈ u, z ∈ y) ∧ (∀ z ∈ v, z ∈ y) := by
    rcases SP.cut47 h with ⟨_, rfl⟩ | ⟨_, rfl, rfl⟩
    · exact ⟨fun z hz => List.mem_append_left _ hz, fun z hz => List.mem_append_right _ (.tail _ hz)⟩
    · exact ⟨fun z hz => hz, fun z hz => by cases hz⟩
  rcases hl with hl | hl
  · exact ⟨.inl hl, .inl hl⟩
  · exact ⟨.inr fun z hz => hl z (hs.1 z hz), .inr fun z hz => hl z (hs.2 z hz)⟩
set_option maxHeartbeats 8000000 in
theorem pieces1_in (n : Nat) (hn : 1 ≤ n) (l Bs n0 sb lb gm : Nat) (rs : List SP.Run) (bb off cap : Nat) (T : List UInt8) (hT : SP.text rs = T) (hTl : T.length ≤ 100000) (hrl : rs.length ≤ 100000) (hok : SP.okr rs) (J : List (Value × List SP.Run) → World → Prop)
    (hgm : gm = 0) (hne : rs ≠ [] → bb < n0 ∧ bb ≠ sb ∧ bb ≠ lb) (hBs : Bs < n0 ∧ Bs ≠ sb ∧ Bs ≠ lb) (hgm2 : gm < n0 ∧ gm ≠ sb ∧ gm ≠ lb)
    (hJ : ∀ pre A B, J pre A → PIt n0 A B → J pre B)
    (hY : ∀ pre x W, J pre W → PRel x W → pre.length < 100001 → YieldAt Fence.wide (n - 1) Tryz.prog l #[x.1] W fun e W' => e = .returned (.bool true) ∧ J (pre ++ [x]) W' ∧ PKp n0 sb lb W W')
    (W0 : World) (hn0 : n0 ≤ W0.heap.size) (hs : W0.cell? ⟨Bs, 0, none⟩ = some (.slice (some ⟨bb, off, none⟩) rs.length cap)) (hr : RAt 2 e2 W0 bb off rs) (hw : Env W0) (h0 : J [] W0) :
    CallsIn Fence.wide n Tryz.prog 101 #[.func (.yield l) #[] #[], .pointer (some ⟨Bs, 0, none⟩)] W0 fun e W' => (∃ v, e = .returned v) ∧ ∃ xs, (Lib.join (names xs) [47] = T ∧ xs ≠ []) ∧ J xs W' := by
  obtain ⟨i0, hi, hz0, hz1, hz2⟩ := info_parts infoRun
  have HJ := Lib.hid hJ
  have HY := Lib.hid hY
  have HR := Lib.hid hr
  have HNE := Lib.hid hne
  have HOK := Lib.hid hok
  have HT0 := Lib.hid (show SP.jn (names []) (SP.text [] ++ SP.text (rs.drop 0)) = T by rw [← hT]; exact SP.jn_nil _)
  have HTL := Lib.hid hTl
  have HRL := Lib.hid hrl
  have HENV := Lib.hid (fun (W : World) (h : PG n0 sb lb W0 W) => (show Env W from by obtain ⟨m, hm⟩ := hw; subst hgm; exact ⟨m, h.cell hgm2.1 hgm2.2.1 hgm2.2.2 hm⟩))
  have HN0 := Lib.hid hn0
  have HBS := Lib.hid hBs
  have hbl : Bs < W0.heap.size := by omega
  clear hJ hY hr hne hok hT hTl hrl hgm hgm2 hw hn0 hBs
  refine callsIn_of_wp Tryz.func101 rfl trivial ?_ rfl
  simp only [Tryz.ntmps101, List.size_toArray, List.length_cons, List.length_nil, Nat.reduceAdd, Nat.reduceSub, Array.replicate_succ, Array.replicate_zero, List.push_toArray, List.append_toArray, List.nil_append, List.cons_append]
  gi_wp2
  gi_loopw [3, 11] (fun o i wr => ∃ (k : Nat) (xs : List (Value × List SP.Run)) (now : List SP.Run), k ≤ rs.length ∧ i = .int .i64 k ∧ Hid (SP.jn (names xs) (SP.text now ++ SP.text (rs.drop k)) = T) ∧ Hid (now.length ≤ k) ∧ Hid (SP.okr now) ∧ Hid (OR 2 e2 121 n0 wr o now) ∧ Hid (J xs wr) ∧ Hid (PG n0 sb lb W0 wr)) (fun _ i _ => rs.length - (intOf i).toNat)
  case atStart => exact ⟨0, [], [], Nat.zero_le _, rfl, HT0, Lib.hid (Nat.le_refl _), Lib.hid (fun r h => by cases h), Lib.hid (OR.nil _ _ _), h0, Lib.hid ⟨Nat.le_refl _, fun _ _ _ _ => rfl⟩⟩
  case round =>
    obtain ⟨k, xs, now, hk, rfl, HN, HNL, HON, HO, HJX, HG⟩ := hrel
    obtain ⟨A1, c1, rfl⟩ := HO.out.val
    have hg1 := HG.out.1
    have hnw : n0 ≤ wr.heap.size := Nat.le_trans HN0.out hg1
    have hbs1 : Bs < wr.heap.size := by omega
    have hsw : wr.cell? ⟨Bs, 0, none⟩ = some (.slice (some ⟨bb, off, none⟩) rs.length cap) := HG.out.cell HBS.out.1 HBS.out.2.1 HBS.out.2.2 hs
    by_cases hlt : k < rs.length
    · obtain ⟨⟨t, c⟩, hx⟩ : ∃ x, rs[k]? = some x := ⟨_, List.getElem?_eq_getElem hlt⟩
      have hnn := HNE.out (by intro e; rw [e] at hlt; simp at hlt)
      have g0 : wr.cell? ⟨bb, off + k * 2, none⟩ = some (.string ⟨t.toArray⟩) := HG.out.cell hnn.1 hnn.2.1 hnn.2.2 (HR.out k _ hx 0 _ rfl)
      have g1 : wr.cell? ⟨bb, off + k * 2 + 1, none⟩ = some (.int .i64 c) := HG.out.cell hnn.1 hnn.2.1 hnn.2.2 (HR.out k _ hx 1 _ rfl)
      have hbw : bb < wr.heap.size := by omega
      have hok := HOK.out _ (List.mem_of_getElem? hx)
      have HLIT := Lib.hid hok.2.2
      have htd := SP.text_drop hx
      have HTL2 := Lib.hid (show t.length ≤ 100000 from by
        have h1 := SP.jn_len (names xs) (SP.text now ++ SP.text (rs.drop k))
        rw [HN.out, htd, List.length_append, List.length_append] at h1
        have h2 := HTL.out
        dsimp only at h1
        omega)
      have HD := Lib.hid htd
      have hc3 : c = 0 ∨ c = 1 ∨ c = 2 := by have := hok.1; have := hok.2.1; dsimp only at *; omega
      clear hx hok htd hnn
      obtain ⟨⟨a, b, f⟩, hcut⟩ : ∃ r, Lib.cut t [47] = r := ⟨_, rfl⟩
      obtain ⟨q1, q2, q3, q4⟩ := cut_slashed hcut
      have HQ1 := Lib.hid q1
      have HCUT := Lib.hid (fun (Y : World) (h : PG n0 sb lb W0 Y) => Cut_slash t Y (HENV.out Y h) (by have := HTL2.out; omega) a b f hcut)
      have HPG := Lib.hid (show PG n0 sb lb W0 (wr.alloc (.cells #[.string ⟨t.toArray⟩, .int .i64 c] 121)) from HG.out.trans (PIt.of_below (balloc wr _) hnw).pg)
      have HBL := Lib.hid (show b.length ≤ 100000 ∧ a.length ≤ 100000 from by have := HTL2.out; omega)
      have HXP := Lib.hid (show (wr.alloc (.cells #[.string ⟨t.toArray⟩, .int .i64 c] 121)).heap[wr.heap.size]? = some (.cells #[.string ⟨t.toArray⟩, .int .i64 c] 121 (0, 0)) from al_new wr _)
      have HLA := Lib.hid (cut_lit hcut HLIT.out)
      clear q1 q2 q3 q4 hcut
      rcases hc3 with rfl | rfl | rfl
      case inl =>
        have HLTN := Lib.hid (fun r hr => (World.ownsRow.lt HO.out r hr).2)
        have hnl := HNL.out
        have hrl := HRL.out
        gi_wp2_with (first
          | (gi_at_call 102; refine (callsIn_wide.2 (HCUT.out _ HPG.out)).mono ?_; rintro e Y ⟨rfl, hY⟩; have hbx := btr (balloc wr (.cells #[.string ⟨t.toArray⟩, .int .i64 0] 121)) hY; have HOY := Lib.hid (HO.out.below hbx); have HPY := Lib.hid (PIt.of_below hbx hnw); have hxy : Y.heap[wr.heap.size]? = some (.cells #[.string ⟨t.toArray⟩, .int .i64 0] 121 (0, 0)) := (hY.block _ (by simp)).trans HXP.out; have HXY := Lib.hid hxy; have hny : n0 ≤ Y.heap.size := Nat.le_trans hnw hbx.size; have x1 : Y.cell? ⟨wr.heap.size, 1, none⟩ = some (.int .i64 0) := Lib.cell_of_heap hxy 1; have hqy := (Array.getElem?_eq_some_iff.1 hxy).1; clear hY hbx hxy)
          | (refine ⟨trivial, ?_⟩; gi_at_call 102; refine (callsIn_wide.2 (HCUT.out _ HPG.out)).mono ?_; rintro e Y ⟨rfl, hY⟩; have hbx := btr (balloc wr (.cells #[.string ⟨t.toArray⟩, .int .i64 0] 121)) hY; have HOY := Lib.hid (HO.out.below hbx); have HPY := Lib.hid (PIt.of_below hbx hnw); have hxy : Y.heap[wr.heap.size]? = some (.cells #[.string ⟨t.toArray⟩, .int .i64 0] 121 (0, 0)) := (hY.block _ (by simp)).trans HXP.out; have HXY := Lib.hid hxy; have hny : n0 ≤ Y.heap.size := Nat.le_trans hnw hbx.size; have x1 : Y.cell? ⟨wr.heap.size, 1, none⟩ = some (.int .i64 0) := Lib.cell_of_heap hxy 1; have hqy := (Array.getElem?_eq_some_iff.1 hxy).1; clear hY hbx hxy)
          | (gi_at_builtin; refine wpListIn_append_own _ rfl _ _ 86 rfl n0 121 i0 _ 2 24 Tryz.underlying86 hi hz0 hz1 hz2 rfl (by decide) (.slice A1 now.length c1) now.length _ rfl (row_below HOY.out (balloc _ _)) ⟨Y.heap.size, 0, none⟩ 1 1 [.string ⟨a.toArray⟩, .int .i64 0] rfl rfl (cells2 _ _ _ _) (e2_one (a, 0)) (by unfold maxLen; omega) (by omega) (by simp; omega) ?_; intro v3 W3 ho3 hg3 _))
        have HP3 := Lib.hid (HPY.out.trans (PIt.grown (balloc Y (.cells #[.string ⟨a.toArray⟩, .int .i64 0] 121)) hny HOY.out hg3))
        have HXQ := Lib.hid (show W3.heap[wr.heap.size]? = some (.cells #[.string ⟨t.toArray⟩, .int .i64 0] 121 (0, 0)) from (hg3.block wr.heap.size (by simp; omega) (fun e => by have := HLTN.out _ e.symm; omega)).trans ((Below.heap_alloc _ _ _ hqy).trans HXY.out))
        have HO3 := Lib.hid (OR.snocG (enc := e2) (l := now) (x := (a, 0)) ho3)
        have HJ3 := Lib.hid (HJ.out _ _ _ HJX.out HP3.out)
        have HG3 := Lib.hid (HG.out.trans HP3.out.pg)
        have HN3 := Lib.hid (show SP.jn (names xs) (SP.text (now ++ [(a, 0)]) ++ (slashed f b ++ SP.text (rs.drop (k + 1)))) = T by
          rw [← HN.out, HD.out, SP.text_app]
          show SP.jn _ (SP.text now ++ (a ++ []) ++ _) = SP.jn _ (SP.text now ++ (t ++ _))
          rw [HQ1.out]; simp)
        have HOK3 := Lib.hid (show SP.okr (now ++ [(a, 0)]) from fun r hr => by
          rw [List.mem_append, List.mem_singleton] at hr
          rcases hr with hr | rfl
          · exact HON.out r hr
          · exact ⟨by simp, by simp, HLA.out.1⟩)
        clear ho3 hg3
        obtain ⟨q0, hq0⟩ : ∃ q0, wr.heap.size = q0 := ⟨_, rfl⟩
        rw [hq0] at HXQ ⊢
        clear hq0 HPY HP3 HXY HOY HCUT HPG HXP HQ1 HLTN HBL
        gi_wp2
        gi_loopw [3, 6, 7, 8] (fun o tx re sl wr => ∃ (xs : List (Value × List SP.Run)) (now : List SP.Run) (a b : List UInt8) (f : Bool), tx = .string ⟨a.toArray⟩ ∧ re = .string ⟨b.toArray⟩ ∧ sl = .bool f ∧ Hid (SP.jn (names xs) (SP.text now ++ (slashed f b ++ SP.text (rs.drop (k + 1)))) = T) ∧ Hid (now.length ≤ k + 1) ∧ Hid (SP.okr now) ∧ Hid (SP.lit (b, 0)) ∧ Hid (OR 2 e2 121 n0 wr o now) ∧ Hid (J xs wr) ∧ Hid (PG n0 sb lb W0 wr) ∧ Hid (wr.heap[q0]? = some (.cells #[.string ⟨t.toArray⟩, .int .i64 0] 121 (0, 0)))) (fun _ _ re sl _ => blen sl * (1 + strLen20 re))
        case atStart => exact ⟨xs, now ++ [(a, 0)], a, b, f, rfl, rfl, rfl, HN3, Lib.hid (by have := HNL.out; simp; omega), HOK3, Lib.hid HLA.out.2, HO3, HJ3, HG3, HXQ⟩
        case round =>
          have hnw2 : n0 ≤ W0.heap.size := HN0.out
          clear HN3 HOK3 HLA HO3 HJ3 HG3 HXQ HN HON HO HJX HG HNL
          obtain ⟨xs, now, a, b, f, rfl, rfl, rfl, HN, HNL, HON, HLB, HO, HJX, HG, HXQ⟩ := hrel
          obtain ⟨A1, c1, rfl⟩ := HO.out.val
          cases f with
          | false =>
            gi_wp2
            go_roundw
            case rel => exact ⟨k + 1, xs, now, hlt, by go_num, HN, HNL, HON, HO, HJX, HG⟩
            case measure => simp [intOf]; omega
          | true =>
            have HRL2 := Lib.hid (show PRel (.slice A1 now.length c1, now) wr from ⟨HO.out.rv e2_len, HON.out, by
              have h1 := SP.jn_len (names xs) (SP.text now ++ (slashed true b ++ SP.text (rs.drop (k + 1))))
              rw [HN.out, List.length_append] at h1
              have h2 := HTL.out
              dsimp only
              omega, by have := HNL.out; dsimp only; omega⟩)
            have hbl2 : b.length ≤ 100000 := by
              have h1 := SP.jn_len (names xs) (SP.text now ++ (slashed true b ++ SP.text (rs.drop (k + 1))))
              rw [HN.out, List.length_append, List.length_append] at h1
              have h2 := HTL.out
              have h3 : (slashed true b).length = b.length + 1 := rfl
              omega
            have HXL := Lib.hid (show xs.length < 100001 from by
              have h1 := SP.jn_count (names xs) (SP.text now ++ (slashed true b ++ SP.text (rs.drop (k + 1))))
              rw [HN.out] at h1
              have h2 := HTL.out
              have h3 : (names xs).length = xs.length := List.length_map _
              omega)
            obtain ⟨⟨a2, b2, f2⟩, hcut⟩ : ∃ r, Lib.cut b [47] = r := ⟨_, rfl⟩
            obtain ⟨q1, q2, q3, q4⟩ := cut_slashed hcut
            have HQ1 := Lib.hid q1
            have HLA := Lib.hid (cut_lit hcut HLB.out)
            have HCUT := Lib.hid (fun (Y : World) (h : PG n0 sb lb W0 Y) => Cut_slash b Y (HENV.out Y h) (by omega) a2 b2 f2 hcut)
            have HMS := Lib.hid (show blen (.bool f2) * (1 + b2.length) < 1 * (1 + b.length) from by
              cases f2 with
              | true => have := q4 rfl; show 1 * (1 + b2.length) < _; omega
              | false => show 0 * (1 + b2.length) < _; omega)
            clear q1 q2 q3 q4 hcut
            obtain ⟨fn, tmps, assign, body, hy, hR⟩ := HY.out xs (.slice A1 now.length c1, now) wr HJX.out HRL2.out HXL.out
            dsimp only at hy
            gi_wp2
            refine hR.mono ?_
            rintro e W3 ⟨rfl, hJ3, hk3⟩
            have HJ3 := Lib.hid hJ3
            have HK3 := Lib.hid hk3
            have HG3 := Lib.hid (HG.out.trans hk3.pg)
            have HX3 := Lib.hid (hk3.2.2 _ _ _ HXQ.out)
            have hn3 : n0 ≤ W3.heap.size := Nat.le_trans hnw2 (Nat.le_trans HG.out.1 hk3.1)
            clear hy hR hJ3 hk3
            gi_wp2_with (first
              | (gi_at_call 102; refine (callsIn_wide.2 (HCUT.out _ HG3.out)).mono ?_; rintro e Y ⟨rfl, hY⟩; have HY3 := Lib.hid hY; have hxy : Y.heap[q0]? = some (.cells #[.string ⟨t.toArray⟩, .int .i64 0] 121 (0, 0)) := (hY.block _ (Array.getElem?_eq_some_iff.1 HX3.out).1).trans HX3.out; have HXY := Lib.hid hxy; have x1 : Y.cell? ⟨q0, 1, none⟩ = some (.int .i64 0) := Lib.cell_of_heap hxy 1; have hqy := (Array.getElem?_eq_some_iff.1 hxy).1; clear hY hxy)
              | (refine ⟨trivial, ?_⟩; gi_at_call 102; refine (callsIn_wide.2 (HCUT.out _ HG3.out)).mono ?_; rintro e Y ⟨rfl, hY⟩; have HY3 := Lib.hid hY; have hxy : Y.heap[q0]? = some (.cells #[.string ⟨t.toArray⟩, .int .i64 0] 121 (0, 0)) := (hY.block _ (Array.getElem?_eq_some_iff.1 HX3.out).1).trans HX3.out; have HXY := Lib.hid hxy; have x1 : Y.cell? ⟨q0, 1, none⟩ = some (.int .i64 0) := Lib.cell_of_heap hxy 1; have hqy := (Array.getElem?_eq_some_iff.1 hxy).1; clear hY hxy))
            have HOZ := Lib.hid (show OR 2 e2 121 n0 (Y.alloc (.cells #[.string ⟨a2.toArray⟩, .int .i64 0] 121)) (.slice (some ⟨Y.heap.size, 0, none⟩) 1 1) [(a2, 0)] from own_one Y 121 _ _ n0 (Nat.le_trans hn3 HY3.out.size))
            have HPZ := Lib.hid (PIt.of_below (n0 := n0) (btr HY3.out (balloc Y (.cells #[.string ⟨a2.toArray⟩, .int .i64 0] 121))) hn3)
            have HJZ := Lib.hid (HJ.out _ _ _ HJ3.out HPZ.out)
            have HGZ := Lib.hid (HG3.out.trans HPZ.out.pg)
            have HXZ := Lib.hid (show (Y.alloc (.cells #[.string ⟨a2.toArray⟩, .int .i64 0] 121)).heap[q0]? = some (.cells #[.string ⟨t.toArray⟩, .int .i64 0] 121 (0, 0)) from (Below.heap_alloc _ _ _ hqy).trans HXY.out)
            have HNZ := Lib.hid (show SP.jn (names (xs ++ [(.slice A1 now.length c1, now)])) (SP.text [(a2, 0)] ++ (slashed f2 b2 ++ SP.text (rs.drop (k + 1)))) = T by
              rw [← HN.out, names_snoc, SP.jn_snoc]
              show SP.jn _ (SP.text now ++ 47 :: ((a2 ++ []) ++ _)) = SP.jn _ (SP.text now ++ ((47 :: b) ++ _))
              rw [HQ1.out]; simp)
            have HOKZ := Lib.hid (show SP.okr [(a2, 0)] from fun r hr => by
              rw [List.mem_singleton] at hr
              subst hr
              exact ⟨by simp, by simp, HLA.out.1⟩)
            go_roundw
            case rel => exact ⟨_, [(a2, 0)], a2, b2, f2, rfl, rfl, rfl, HNZ, Lib.hid (by simp), HOKZ, Lib.hid HLA.out.2, HOZ, HJZ, HGZ, HXZ⟩
            case measure => rw [strLen_of, strLen_of]; exact HMS.out
      case inr.inl =>
        have HLTN := Lib.hid (fun r hr => (World.ownsRow.lt HO.out r hr).2)
        have hnl := HNL.out
        have hrl := HRL.out
        gi_wp2_with (first
          | (gi_at_call 102; refine (callsIn_wide.2 (HCUT.out _ HPG.out)).mono ?_; rintro e Y ⟨rfl, hY⟩; have hbx := btr (balloc wr (.cells #[.string ⟨t.toArray⟩, .int .i64 1] 121)) hY; have HOY := Lib.hid (HO.out.below hbx); have HPY := Lib.hid (PIt.of_below hbx hnw); have hxy : Y.heap[wr.heap.size]? = some (.cells #[.string ⟨t.toArray⟩, .int .i64 1] 121 (0, 0)) := (hY.block _ (by simp)).trans HXP.out; have HXY := Lib.hid hxy; have hny : n0 ≤ Y.heap.size := Nat.le_trans hnw hbx.size; have x1 : Y.cell? ⟨wr.heap.size, 1, none⟩ = some (.int .i64 1) := Lib.cell_of_heap hxy 1; have hqy := (Array.getElem?_eq_some_iff.1 hxy).1; clear hY hbx hxy)
          | (refine ⟨trivial, ?_⟩; gi_at_call 102; refine (callsIn_wide.2 (HCUT.out _ HPG.out)).mono ?_; rintro e Y ⟨rfl, hY⟩; have hbx := btr (balloc wr (.cells #[.string ⟨t.toArray⟩, .int .i64 1] 121)) hY; have HOY := Lib.hid (HO.out.below hbx); have HPY := Lib.hid (PIt.of_below hbx hnw); have hxy : Y.heap[wr.heap.size]? = some (.cells #[.string ⟨t.toArray⟩, .int .i64 1] 121 (0, 0)) := (hY.block _ (by simp)).trans HXP.out; have HXY := Lib.hid hxy; have hny : n0 ≤ Y.heap.size := Nat.le_trans hnw hbx.size; have x1 : Y.cell? ⟨wr.heap.size, 1, none⟩ = some (.int .i64 1) := Lib.cell_of_heap hxy 1; have hqy := (Array.getElem?_eq_some_iff.1 hxy).1; clear hY hbx hxy)
          | (gi_at_builtin; refine wpListIn_append_own _ rfl _ _ 86 rfl n0 121 i0 _ 2 24 Tryz.underlying86 hi hz0 hz1 hz2 rfl (by decide) (.slice A1 now.length c1) now.length _ rfl (row_below HOY.out (balloc _ _)) ⟨Y.heap.size, 0, none⟩ 1 1 [.string ⟨a.toArray⟩, .int .i64 1] rfl rfl (cells2 _ _ _ _) (e2_one (a, 1)) (by unfold maxLen; omega) (by omega) (by simp; omega) ?_; intro v3 W3 ho3 hg3 _))
        have HP3 := Lib.hid (HPY.out.trans (PIt.grown (balloc Y (.cells #[.string ⟨a.toArray⟩, .int .i64 1] 121)) hny HOY.out hg3))
        have HXQ := Lib.hid (show W3.heap[wr.heap.size]? = some (.cells #[.string ⟨t.toArray⟩, .int .i64 1] 121 (0, 0)) from (hg3.block wr.heap.size (by simp; omega) (fun e => by have := HLTN.out _ e.symm; omega)).trans ((Below.heap_alloc _ _ _ hqy).trans HXY.out))
        have HO3 := Lib.hid (OR.snocG (enc := e2) (l := now) (x := (a, 1)) ho3)
        have HJ3 := Lib.hid (HJ.out _ _ _ HJX.out HP3.out)
        have HG3 := Lib.hid (HG.out.trans HP3.out.pg)
        have HN3 := Lib.hid (show SP.jn (names xs) (SP.text (now ++ [(a, 1)]) ++ (slashed f b ++ SP.text (rs.drop (k + 1)))) = T by
          rw [← HN.out, HD.out, SP.text_app]
          show SP.jn _ (SP.text now ++ (a ++ []) ++ _) = SP.jn _ (SP.text now ++ (t ++ _))
          rw [HQ1.out]; simp)
        have HOK3 := Lib.hid (show SP.okr (now ++ [(a, 1)]) from fun r hr => by
          rw [List.mem_append, List.mem_singleton] at hr
          rcases hr with hr | rfl
          · exact HON.out r hr
          · exact ⟨by simp, by simp, HLA.out.1⟩)
        clear ho3 hg3
        obtain ⟨q0, hq0⟩ : ∃ q0, wr.heap.size = q0 := ⟨_, rfl⟩
        rw [hq0] at HXQ ⊢
        clear hq0 HPY HP3 HXY HOY HCUT HPG HXP HQ1 HLTN HBL
        gi_wp2
        gi_loopw [3, 6, 7, 8] (fun o tx re sl wr => ∃ (xs : List (Value × List SP.Run)) (now : List SP.Run) (a b : List UInt8) (f : Bool), tx = .string ⟨a.toArray⟩ ∧ re = .string ⟨b.toArray⟩ ∧ sl = .bool f ∧ Hid (SP.jn (names xs) (SP.text now ++ (slashed f b ++ SP.text (rs.drop (k + 1)))) = T) ∧ Hid (now.length ≤ k + 1) ∧ Hid (SP.okr now) ∧ Hid (SP.lit (b, 1)) ∧ Hid (OR 2 e2 121 n0 wr o now) ∧ Hid (J xs wr) ∧ Hid (PG n0 sb lb W0 wr) ∧ Hid (wr.heap[q0]? = some (.cells #[.string ⟨t.toArray⟩, .int .i64 1] 121 (0, 0)))) (fun _ _ re sl _ => blen sl * (1 + strLen20 re))
        case atStart => exact ⟨xs, now ++ [(a, 1)], a, b, f, rfl, rfl, rfl, HN3, Lib.hid (by have := HNL.out; simp; omega), HOK3, Lib.hid HLA.out.2, HO3, HJ3, HG3, HXQ⟩
        case round =>
          have hnw2 : n0 ≤ W0.heap.size := HN0.out
          clear HN3 HOK3 HLA HO3 HJ3 HG3 HXQ HN HON HO HJX HG HNL
          obtain ⟨xs, now, a, b, f, rfl, rfl, rfl, HN, HNL, HON, HLB, HO, HJX, HG, HXQ⟩ := hrel
          obtain ⟨A1, c1, rfl⟩ := HO.out.val
          cases f with
          | false =>
            gi_wp2
            go_roundw
            case rel => exact ⟨k + 1, xs, now, hlt, by go_num, HN, HNL, HON, HO, HJX, HG⟩
            case measure => simp [intOf]; omega
          | true =>
            have HRL2 := Lib.hid (show PRel (.slice A1 now.length c1, now) wr from ⟨HO.out.rv e2_len, HON.out, by
              have h1 := SP.jn_len (names xs) (SP.text now ++ (slashed true b ++ SP.text (rs.drop (k + 1))))
              rw [HN.out, List.length_append] at h1
              have h2 := HTL.out
              dsimp only
              omega, by have := HNL.out; dsimp only; omega⟩)
            have hbl2 : b.length ≤ 100000 := by
              have h1 := SP.jn_len (names xs) (SP.text now ++ (slashed true b ++ SP.text (rs.drop (k + 1))))
              rw [HN.out, List.length_append, List.length_append] at h1
              have h2 := HTL.out
              have h3 : (slashed true b).length = b.length + 1 := rfl
              omega
            have HXL := Lib.hid (show xs.length < 100001 from by
              have h1 := SP.jn_count (names xs) (SP.text now ++ (slashed true b ++ SP.text (rs.drop (k + 1))))
              rw [HN.out] at h1
              have h2 := HTL.out
              have h3 : (names xs).length = xs.length := List.length_map _
              omega)
            obtain ⟨⟨a2, b2, f2⟩, hcut⟩ : ∃ r, Lib.cut b [47] = r := ⟨_, rfl⟩
            obtain ⟨q1, q2, q3, q4⟩ := cut_slashed hcut
            have HQ1 := Lib.hid q1
            have HLA := Lib.hid (cut_lit hcut HLB.out)
            have HCUT := Lib.hid (fun (Y : World) (h : PG n0 sb lb W0 Y) => Cut_slash b Y (HENV.out Y h) (by omega) a2 b2 f2 hcut)
            have HMS := Lib.hid (show blen (.bool f2) * (1 + b2.length) < 1 * (1 + b.length) from by
              cases f2 with
              | true => have := q4 rfl; show 1 * (1 + b2.length) < _; omega
              | false => show 0 * (1 + b2.length) < _; omega)
            clear q1 q2 q3 q4 hcut
            obtain ⟨fn, tmps, assign, body, hy, hR⟩ := HY.out xs (.slice A1 now.length c1, now) wr HJX.out HRL2.out HXL.out
            dsimp only at hy
            gi_wp2
            refine hR.mono ?_
            rintro e W3 ⟨rfl, hJ3, hk3⟩
            have HJ3 := Lib.hid hJ3
            have HK3 := Lib.hid hk3
            have HG3 := Lib.hid (HG.out.trans hk3.pg)
            have HX3 := Lib.hid (hk3.2.2 _ _ _ HXQ.out)
            have hn3 : n0 ≤ W3.heap.size := Nat.le_trans hnw2 (Nat.le_trans HG.out.1 hk3.1)
            clear hy hR hJ3 hk3
            gi_wp2_with (first
              | (gi_at_call 102; refine (callsIn_wide.2 (HCUT.out _ HG3.out)).mono ?_; rintro e Y ⟨rfl, hY⟩; have HY3 := Lib.hid hY; have hxy : Y.heap[q0]? = some (.cells #[.string ⟨t.toArray⟩, .int .i64 1] 121 (0, 0)) := (hY.block _ (Array.getElem?_eq_some_iff.1 HX3.out).1).trans HX3.out; have HXY := Lib.hid hxy; have x1 : Y.cell? ⟨q0, 1, none⟩ = some (.int .i64 1) := Lib.cell_of_heap hxy 1; have hqy := (Array.getElem?_eq_some_iff.1 hxy).1; clear hY hxy)
              | (refine ⟨trivial, ?_⟩; gi_at_call 102; refine (callsIn_wide.2 (HCUT.out _ HG3.out)).mono ?_; rintro e Y ⟨rfl, hY⟩; have HY3 := Lib.hid hY; have hxy : Y.heap[q0]? = some (.cells #[.string ⟨t.toArray⟩, .int .i64 1] 121 (0, 0)) := (hY.block _ (Array.getElem?_eq_some_iff.1 HX3.out).1).trans HX3.out; have HXY := Lib.hid hxy; have x1 : Y.cell? ⟨q0, 1, none⟩ = some (.int .i64 1) := Lib.cell_of_heap hxy 1; have hqy := (Array.getElem?_eq_some_iff.1 hxy).1; clear hY hxy))
            have HOZ := Lib.hid (show OR 2 e2 121 n0 (Y.alloc (.cells #[.string ⟨a2.toArray⟩, .int .i64 1] 121)) (.slice (some ⟨Y.heap.size, 0, none⟩) 1 1) [(a2, 1)] from own_one Y 121 _ _ n0 (Nat.le_trans hn3 HY3.out.size))
            have HPZ := Lib.hid (PIt.of_below (n0 := n0) (btr HY3.out (balloc Y (.cells #[.string ⟨a2.toArray⟩, .int .i64 1] 121))) hn3)
            have HJZ := Lib.hid (HJ.out _ _ _ HJ3.out HPZ.out)
            have HGZ := Lib.hid (HG3.out.trans HPZ.out.pg)
            have HXZ := Lib.hid (show (Y.alloc (.cells #[.string ⟨a2.toArray⟩, .int .i64 1] 121)).heap[q0]? = some (.cells #[.string ⟨t.toArray⟩, .int .i64 1] 121 (0, 0)) from (Below.heap_alloc _ _ _ hqy).trans HXY.out)
            have HNZ := Lib.hid (show SP.jn (names (xs ++ [(.slice A1 now.length c1, now)])) (SP.text [(a2, 1)] ++ (slashed f2 b2 ++ SP.text (rs.drop (k + 1)))) = T by
              rw [← HN.out, names_snoc, SP.jn_snoc]
              show SP.jn _ (SP.text now ++ 47 :: ((a2 ++ []) ++ _)) = SP.jn _ (SP.text now ++ ((47 :: b) ++ _))
              rw [HQ1.out]; simp)
            have HOKZ := Lib.hid (show SP.okr [(a2, 1)] from fun r hr => by
              rw [List.mem_singleton] at hr
              subst hr
              exact ⟨by simp, by simp, HLA.out.1⟩)
            go_roundw
            case rel => exact ⟨_, [(a2, 1)], a2, b2, f2, rfl, rfl, rfl, HNZ, Lib.hid (by simp), HOKZ, Lib.hid HLA.out.2, HOZ, HJZ, HGZ, HXZ⟩
            case measure => rw [strLen_of, strLen_of]; exact HMS.out
      case inr.inr =>
        have HLTN := Lib.hid (fun r hr => (World.ownsRow.lt HO.out r hr).2)
        have hnl := HNL.out
        have hrl := HRL.out
        gi_wp2_with (first
          | (gi_at_call 102; refine (callsIn_wide.2 (HCUT.out _ HPG.out)).mono ?_; rintro e Y ⟨rfl, hY⟩; have hbx := btr (balloc wr (.cells #[.string ⟨t.toArray⟩, .int .i64 2] 121)) hY; have HOY := Lib.hid (HO.out.below hbx); have HPY := Lib.hid (PIt.of_below hbx hnw); have hxy : Y.heap[wr.heap.size]? = some (.cells #[.string ⟨t.toArray⟩, .int .i64 2] 121 (0, 0)) := (hY.block _ (by simp)).trans HXP.out; have HXY := Lib.hid hxy; have hny : n0 ≤ Y.heap.size := Nat.le_trans hnw hbx.size; have x1 : Y.cell? ⟨wr.heap.size, 1, none⟩ = some (.int .i64 2) := Lib.cell_of_heap hxy 1; have hqy := (Array.getElem?_eq_some_iff.1 hxy).1; clear hY hbx hxy)
          | (refine ⟨trivial, ?_⟩; gi_at_call 102; refine (callsIn_wide.2 (HCUT.out _ HPG.out)).mono ?_; rintro e Y ⟨rfl, hY⟩; have hbx := btr (balloc wr (.cells #[.string ⟨t.toArray⟩, .int .i64 2] 121)) hY; have HOY := Lib.hid (HO.out.below hbx); have HPY := Lib.hid (PIt.of_below hbx hnw); have hxy : Y.heap[wr.heap.size]? = some (.cells #[.string ⟨t.toArray⟩, .int .i64 2] 121 (0, 0)) := (hY.block _ (by simp)).trans HXP.out; have HXY := Lib.hid hxy; have hny : n0 ≤ Y.heap.size := Nat.le_trans hnw hbx.size; have x1 : Y.cell? ⟨wr.heap.size, 1, none⟩ = some (.int .i64 2) := Lib.cell_of_heap hxy 1; have hqy := (Array.getElem?_eq_some_iff.1 hxy).1; clear hY hbx hxy)
          | (gi_at_builtin; refine wpListIn_append_own _ rfl _ _ 86 rfl n0 121 i0 _ 2 24 Tryz.underlying86 hi hz0 hz1 hz2 rfl (by decide) (.slice A1 now.length c1) now.length _ rfl (row_below HOY.out (balloc _ _)) ⟨Y.heap.size, 0, none⟩ 1 1 [.string ⟨a.toArray⟩, .int .i64 2] rfl rfl (cells2 _ _ _ _) (e2_one (a, 2)) (by unfold maxLen; omega) (by omega) (by simp; omega) ?_; intro v3 W3 ho3 hg3 _))
        have HP3 := Lib.hid (HPY.out.trans (PIt.grown (balloc Y (.cells #[.string ⟨a.toArray⟩, .int .i64 2] 121)) hny HOY.out hg3))
        have HXQ := Lib.hid (show W3.heap[wr.heap.size]? = some (.cells #[.string ⟨t.toArray⟩, .int .i64 2] 121 (0, 0)) from (hg3.block wr.heap.size (by simp; omega) (fun e => by have := HLTN.out _ e.symm; omega)).trans ((Below.heap_alloc _ _ _ hqy).trans HXY.out))
        have HO3 := Lib.hid (OR.snocG (enc := e2) (l := now) (x := (a, 2)) ho3)
        have HJ3 := Lib.hid (HJ.out _ _ _ HJX.out HP3.out)
        have HG3 := Lib.hid (HG.out.trans HP3.out.pg)
        have HN3 := Lib.hid (show SP.jn (names xs) (SP.text (now ++ [(a, 2)]) ++ (slashed f b ++ SP.text (rs.drop (k + 1)))) = T by
          rw [← HN.out, HD.out, SP.text_app]
          show SP.jn _ (SP.text now ++ (a ++ []) ++ _) = SP.jn _ (SP.text now ++ (t ++ _))
          rw [HQ1.out]; simp)
        have HOK3 := Lib.hid (show SP.okr (now ++ [(a, 2)]) from fun r hr => by
          rw [List.mem_append, List.mem_singleton] at hr
          rcases hr with hr | rfl
          · exact HON.out r hr
          · exact ⟨by simp, by simp, HLA.out.1⟩)
        clear ho3 hg3
        obtain ⟨q0, hq0⟩ : ∃ q0, wr.heap.size = q0 := ⟨_, rfl⟩
        rw [hq0] at HXQ ⊢
        clear hq0 HPY HP3 HXY HOY HCUT HPG HXP HQ1 HLTN HBL
        gi_wp2
        gi_loopw [3, 6, 7, 8] (fun o tx re sl wr => ∃ (xs : List (Value × List SP.Run)) (now : List SP.Run) (a b : List UInt8) (f : Bool), tx = .string ⟨a.toArray⟩ ∧ re = .string ⟨b.toArray⟩ ∧ sl = .bool f ∧ Hid (SP.jn (names xs) (SP.text now ++ (slashed f b ++ SP.text (rs.drop (k + 1)))) = T) ∧ Hid (now.length ≤ k + 1) ∧ Hid (SP.okr now) ∧ Hid (SP.lit (b, 2)) ∧ Hid (OR 2 e2 121 n0 wr o now) ∧ Hid (J xs wr) ∧ Hid (PG n0 sb lb W0 wr) ∧ Hid (wr.heap[q0]? = some (.cells #[.string ⟨t.toArray⟩, .int .i64 2] 121 (0, 0)))) (fun _ _ re sl _ => blen sl * (1 + strLen20 re))
        case atStart => exact ⟨xs, now ++ [(a, 2)], a, b, f, rfl, rfl, rfl, HN3, Lib.hid (by have := HNL.out; simp; omega), HOK3, Lib.hid HLA.out.2, HO3, HJ3, HG3, HXQ⟩
        case round =>
          have hnw2 : n0 ≤ W0.heap.size := HN0.out
          clear HN3 HOK3 HLA HO3 HJ3 HG3 HXQ HN HON HO HJX HG HNL
          obtain ⟨xs, now, a, b, f, rfl, rfl, rfl, HN, HNL, HON, HLB, HO, HJX, HG, HXQ⟩ := hrel
          obtain ⟨A1, c1, rfl⟩ := HO.out.val
          cases f with
          | false =>
            gi_wp2
            go_roundw
            case rel => exact ⟨k + 1, xs, now, hlt, by go_num, HN, HNL, HON, HO, HJX, HG⟩
            case measure => simp [intOf]; omega
          | true =>
            have HRL2 := Lib.hid (show PRel (.slice A1 now.length c1, now) wr from ⟨HO.out.rv e2_len, HON.out, by
              have h1 := SP.jn_len (names xs) (SP.text now ++ (slashed true b ++ SP.text (rs.drop (k + 1))))
              rw [HN.out, List.length_append] at h1
              have h2 := HTL.out
              dsimp only
              omega, by have := HNL.out; dsimp only; omega⟩)
            have hbl2 : b.length ≤ 100000 := by
              have h1 := SP.jn_len (names xs) (SP.text now ++ (slashed true b ++ SP.text (rs.drop (k + 1))))
              rw [HN.out, List.length_append, List.length_append] at h1
              have h2 := HTL.out
              have h3 : (slashed true b).length = b.length + 1 := rfl
              omega
            have HXL := Lib.hid (show xs.length < 100001 from by
              have h1 := SP.jn_count (names xs) (SP.text now ++ (slashed true b ++ SP.text (rs.drop (k + 1))))
              rw [HN.out] at h1
              have h2 := HTL.out
              have h3 : (names xs).length = xs.length := List.length_map _
              omega)
            obtain ⟨⟨a2, b2, f2⟩, hcut⟩ : ∃ r, Lib.cut b [47] = r := ⟨_, rfl⟩
            obtain ⟨q1, q2, q3, q4⟩ := cut_slashed hcut
            have HQ1 := Lib.hid q1
            have HLA := Lib.hid (cut_lit hcut HLB.out)
            have HCUT := Lib.hid (fun (Y : World) (h : PG n0 sb lb W0 Y) => Cut_slash b Y (HENV.out Y h) (by omega) a2 b2 f2 hcut)
            have HMS := Lib.hid (show blen (.bool f2) * (1 + b2.length) < 1 * (1 + b.length) from by
              cases f2 with
              | true => have := q4 rfl; show 1 * (1 + b2.length) < _; omega
              | false => show 0 * (1 + b2.length) < _; omega)
            clear q1 q2 q3 q4 hcut
            obtain ⟨fn, tmps, assign, body, hy, hR⟩ := HY.out xs (.slice A1 now.length c1, now) wr HJX.out HRL2.out HXL.out
            dsimp only at hy
            gi_wp2
            refine hR.mono ?_
            rintro e W3 ⟨rfl, hJ3, hk3⟩
            have HJ3 := Lib.hid hJ3
            have HK3 := Lib.hid hk3
            have HG3 := Lib.hid (HG.out.trans hk3.pg)
            have HX3 := Lib.hid (hk3.2.2 _ _ _ HXQ.out)
            have hn3 : n0 ≤ W3.heap.size := Nat.le_trans hnw2 (Nat.le_trans HG.out.1 hk3.1)
            clear hy hR hJ3 hk3
            gi_wp2_with (first
              | (gi_at_call 102; refine (callsIn_wide.2 (HCUT.out _ HG3.out)).mono ?_; rintro e Y ⟨rfl, hY⟩; have HY3 := Lib.hid hY; have hxy : Y.heap[q0]? = some (.cells #[.string ⟨t.toArray⟩, .int .i64 2] 121 (0, 0)) := (hY.block _ (Array.getElem?_eq_some_iff.1 HX3.out).1).trans HX3.out; have HXY := Lib.hid hxy; have x1 : Y.cell? ⟨q0, 1, none⟩ = some (.int .i64 2) := Lib.cell_of_heap hxy 1; have hqy := (Array.getElem?_eq_some_iff.1 hxy).1; clear hY hxy)
              | (refine ⟨trivial, ?_⟩; gi_at_call 102; refine (callsIn_wide.2 (HCUT.out _ HG3.out)).mono ?_; rintro e Y ⟨rfl, hY⟩; have HY3 := Lib.hid hY; have hxy : Y.heap[q0]? = some (.cells #[.string ⟨t.toArray⟩, .int .i64 2] 121 (0, 0)) := (hY.block _ (Array.getElem?_eq_some_iff.1 HX3.out).1).trans HX3.out; have HXY := Lib.hid hxy; have x1 : Y.cell? ⟨q0, 1, none⟩ = some (.int .i64 2) := Lib.cell_of_heap hxy 1; have hqy := (Array.getElem?_eq_some_iff.1 hxy).1; clear hY hxy))
            have HOZ := Lib.hid (show OR 2 e2 121 n0 (Y.alloc (.cells #[.string ⟨a2.toArray⟩, .int .i64 2] 121)) (.slice (some ⟨Y.heap.size, 0, none⟩) 1 1) [(a2, 2)] from own_one Y 121 _ _ n0 (Nat.le_trans hn3 HY3.out.size))
            have HPZ := Lib.hid (PIt.of_below (n0 := n0) (btr HY3.out (balloc Y (.cells #[.string ⟨a2.toArray⟩, .int .i64 2] 121))) hn3)
            have HJZ := Lib.hid (HJ.out _ _ _ HJ3.out HPZ.out)
            have HGZ := Lib.hid (HG3.out.trans HPZ.out.pg)
            have HXZ := Lib.hid (show (Y.alloc (.cells #[.string ⟨a2.toArray⟩, .int .i64 2] 121)).heap[q0]? = some (.cells #[.string ⟨t.toArray⟩, .int .i64 2] 121 (0, 0)) from (Below.heap_alloc _ _ _ hqy).trans HXY.out)
            have HNZ := Lib.hid (show SP.jn (names (xs ++ [(.slice A1 now.length c1, now)])) (SP.text [(a2, 2)] ++ (slashed f2 b2 ++ SP.text (rs.drop (k + 1)))) = T by
              rw [← HN.out, names_snoc, SP.jn_snoc]
              show SP.jn _ (SP.text now ++ 47 :: ((a2 ++ []) ++ _)) = SP.jn _ (SP.text now ++ ((47 :: b) ++ _))
              rw [HQ1.out]; simp)
            have HOKZ := Lib.hid (show SP.okr [(a2, 2)] from fun r hr => by
              rw [List.mem_singleton] at hr
              subst hr
              exact ⟨by simp, by simp, HLA.out.1⟩)
            go_roundw
            case rel => exact ⟨_, [(a2, 2)], a2, b2, f2, rfl, rfl, rfl, HNZ, Lib.hid (by simp), HOKZ, Lib.hid HLA.out.2, HOZ, HJZ, HGZ, HXZ⟩
            case measure => rw [strLen_of, strLen_of]; exact HMS.out
    · have hke : k = rs.length := by omega
      have HF := Lib.hid (show SP.jn (names xs) (SP.text now) = T by rw [← HN.out, List.drop_eq_nil_of_le (by omega)]; simp [SP.text])
      have HRL2 := Lib.hid (show PRel (.slice A1 now.length c1, now) wr from ⟨HO.out.rv e2_len, HON.out, by
        have h1 := SP.jn_len (names xs) (SP.text now)
        rw [HF.out] at h1
        have h2 := HTL.out
        dsimp only
        omega, by have h1 := HNL.out; have h2 := HRL.out; dsimp only; omega⟩)
      have HXL := Lib.hid (show xs.length < 100001 from by
        have h1 := SP.jn_count (names xs) (SP.text now)
        rw [HF.out] at h1
        have h2 := HTL.out
        have h3 : (names xs).length = xs.length := List.length_map _
        omega)
      obtain ⟨fn, tmps, assign, body, hy, hR⟩ := HY.out xs (.slice A1 now.length c1, now) wr HJX.out HRL2.out HXL.out
      dsimp only at hy
      gi_wp2
      refine hR.mono ?_
      rintro e W3 ⟨rfl, hJ3, hk3⟩
      have HJ3 := Lib.hid hJ3
      clear hy hR hJ3 hk3
      gi_wp2
      go_end0
      exact ⟨⟨_, rfl⟩, _, ⟨by rw [names_snoc]; exact HF.out, by simp⟩, HJ3.out⟩
end W
end Go.Proofs.YtkceenmlhfkkhaaGreatDoor
