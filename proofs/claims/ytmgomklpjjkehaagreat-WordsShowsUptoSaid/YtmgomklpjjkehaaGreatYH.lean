/- Several texts in one: G08e G08f G08g G08h G08i. -/
import Derived.Test.YtmgomklpjjkehaaGreatYG
import Derived.Lib.AppendStr
import Derived.StillTailTactics
import Derived.Deep.DeepCutAuto
namespace Go.Proofs.YtmgomklpjjkehaaGreat
open Go.RowKit K
open WP (GP gp gpL)
namespace W
theorem cellsByteW : Tryz.prog.cellsOf 5 = 1 := by kernel_rfl
/-- A writer in block b that holds the bytes l. -/
def WB (b : Nat) (l : List UInt8) (x : Bool) (w : World) : Prop :=
  ∃ p v, (p = .pointer none ∨ p = .pointer (some ⟨b, 0, none⟩)) ∧ w.heap[b]? = some (.cells #[p, v, .bool x] 61 (0, 0)) ∧ w.ownsRow (b + 1) 5 1 v l.length (Lib.byteCells l) ∧ (l = [] → v = .slice none 0 0)
theorem WB.lt {b : Nat} {l : List UInt8} {x : Bool} {w : World} (h : WB b l x w) : b < w.heap.size := by
  obtain ⟨p, v, -, hb, -⟩ := h
  exact (Array.getElem?_eq_some_iff.1 hb).1
theorem WB.below {b : Nat} {l : List UInt8} {x : Bool} {w w' : World} (h : WB b l x w) (hb : Below w.heap.size w w') : WB b l x w' := by
  have hlt := h.lt
  obtain ⟨p, v, h1, h2, h3, h4⟩ := h
  exact ⟨p, v, h1, (hb.block b hlt).trans h2, row_below h3 hb, h4⟩
theorem Bkept.of_below {b : Nat} {w w' : World} (h : Below w.heap.size w w') (hb : b ≤ w.heap.size) : Bkept b w w' := ⟨h.mono hb, fun k _ hk _ _ => (h.block k (Array.getElem?_eq_some_iff.1 hk).1).trans hk⟩
theorem Bkept.cells {b q : Nat} {w w' : World} {cs : Array Value} {T : TypeId} (h : Bkept b w w') (hq : w.heap[q]? = some (.cells cs T (0, 0))) (hne : q ≠ b) (hT : T ≠ 5) : w'.heap[q]? = some (.cells cs T (0, 0)) :=
  h.others q _ hq (fun e => hne (Option.some.inj e)) (fun c fz e => by injection e with _ e2 _; exact hT e2)
set_option maxRecDepth 100000 in
theorem copyCheckW_fresh (b : Nat) (w : World) (h0 : w.cell? ⟨b, 0, none⟩ = some (.pointer none)) (hsh : w.shape? b = some (61, 3)) (hfz : w.frozen? ⟨b, 0, none⟩ = false) :
    Calls Tryz.prog 35 #[.pointer (some ⟨b, 0, none⟩)] w fun e w' => e = .returned (.tuple #[]) ∧ w' = w.setCell ⟨b, 0, none⟩ (.pointer (some ⟨b, 0, none⟩)) := by
  obtain ⟨j, hj, hjs⟩ := Option.map_eq_some_iff.1 sizeBuilder
  go_enter Tryz.func35, Tryz.ntmps35
  go_wp2
  rw [Lib.run_to_unsafe w ⟨b, 0, none⟩ Tryz.underlying47 Tryz.underlying87 hj (by rw [hjs]; decide) hsh (show 0 < 3 by decide)]
  simp only [Result.andThen]
  rw [Oper.upon_value]
  go_wp2
  rw [run_callFunc_extern Tryz.func49 (by kernel_rfl) (by kernel_rfl) (by kernel_rfl) (e := Extern.AbiNoEscape.same) (by kernel_rfl)]
  rw [Lib.run_noEscape]
  simp only [Result.andThen]
  rw [Oper.upon_value]
  go_wp2
  rw [Lib.run_from_unsafe w ⟨b, 0, none⟩ Tryz.underlying87 Tryz.underlying47 hj hsh (by kernel_rfl)]
  simp only [Result.andThen]
  rw [Oper.upon_value]
  go_wp2
  go_end0
  exact ⟨rfl, rfl⟩
theorem copyCheckW (b : Nat) (l : List UInt8) (x : Bool) (w : World) (h : WB b l x w) :
    Calls Tryz.prog 35 #[.pointer (some ⟨b, 0, none⟩)] w fun e w' => e = .returned (.tuple #[]) ∧ (∃ v, w'.heap[b]? = some (.cells #[.pointer (some ⟨b, 0, none⟩), v, .bool x] 61 (0, 0)) ∧ w'.ownsRow (b + 1) 5 1 v l.length (Lib.byteCells l) ∧ (l = [] → v = .slice none 0 0)) ∧ Bkept b w w' := by
  obtain ⟨p, v, hp, hb, hr, hn⟩ := h
  rcases hp with rfl | rfl
  · refine (copyCheckW_fresh b w (Lib.cell_of_heap hb 0) (by simp [World.shape?, hb]) (Lib.frozen_of_heap hb 0)).mono ?_
    rintro e w' ⟨rfl, rfl⟩
    refine ⟨rfl, ⟨v, ?_, row_set hr (by simp) _, hn⟩, (Below.refl b w).setCell (p := ⟨b, 0, none⟩) (Nat.le_refl _) _, (Lib.OthersKept.refl _ _ w).setCell ⟨b, 0, none⟩ rfl _⟩
    have := heap_setCell_same w b 0 _ _ (.pointer (some ⟨b, 0, none⟩)) hb
    rw [this]; simp
  · refine (copyCheck_used b w (Lib.cell_of_heap hb 0)).mono ?_
    rintro e w' ⟨rfl, rfl⟩
    exact ⟨rfl, ⟨v, hb, hr, hn⟩, Bkept.refl b _⟩
theorem row_kind {w : World} {B : Nat} {e : TypeId} {k : Nat} {v : Value} {n : Nat} {xs : List Value} (h : w.ownsRow B e k v n xs) : ∀ g, v.ownBlock = some g → ∃ c fz, w.heap[g]? = some (.cells c e fz) := by
  intro g hg
  rcases h.2 with ⟨h2, _⟩ | ⟨g', cap, cur, hv, _, hgb, _⟩
  · rw [h2] at hg; cases hg
  · rw [hv] at hg
    have e1 : g' = g := by simpa [Value.ownBlock] using hg
    subst e1
    exact ⟨cur, (0, 0), hgb⟩
set_option maxHeartbeats 2000000 in
set_option maxRecDepth 100000 in
theorem writeStringW (b : Nat) (l s : List UInt8) (x : Bool) (w : World) (h : WB b l x w) (hlen : l.length ≤ 100000000) (hs : s.length ≤ 100000000) :
    Calls Tryz.prog 21 #[.pointer (some ⟨b, 0, none⟩), .string ⟨s.toArray⟩] w fun e w' => e = .returned (.tuple #[.int .i64 s.length, .nilIface]) ∧ WB b (l ++ s) x w' ∧ Bkept b w w' := by
  obtain ⟨i0, hi, hz0, hz1, hz2⟩ := info_parts infoByte
  have HCC := Lib.hid (copyCheckW b l x w h)
  have hlt0 := h.lt
  clear h
  have hbl : (Lib.byteCells l).length ≤ 100000000 := by rw [Lib.byteCells_length]; omega
  obtain ⟨S, hS⟩ : ∃ S : ByteArray, S = ⟨s.toArray⟩ := ⟨_, rfl⟩
  have hSl : S.size = s.length := by rw [hS]; simp [ByteArray.size]
  have HSS := Lib.hid (show Lib.strCells S = Lib.byteCells s by rw [hS]; rfl)
  have HSL := Lib.hid hSl
  have HS0 := Lib.hid hS
  rw [← hS, ← hSl]
  rw [← hSl] at hs
  clear hS hSl
  go_enter Tryz.func21, Tryz.ntmps21
  go_wp2_with fail
  refine HCC.out.mono ?_
  rintro e w1 ⟨rfl, ⟨v, hbk, hown, hnil⟩, hk1⟩
  have HK1 := Lib.hid hk1
  have HOWN := Lib.hid hown
  have HNIL := Lib.hid hnil
  have HBK := Lib.hid hbk
  have c0 : w1.cell? ⟨b, 0, none⟩ = some (.pointer (some ⟨b, 0, none⟩)) := Lib.cell_of_heap hbk 0
  have c1 : w1.cell? ⟨b, 1, none⟩ = some v := Lib.cell_of_heap hbk 1
  have hsz := hk1.below.size
  clear hbk hown hnil hk1
  go_wp2_with (at_builtin; refine Lib.wpList_append_own_string _ rfl _ _ 48 9 rfl (b + 1) 5 i0 Tryz.underlying48 Tryz.underlying9 hi hz0 hz1 hz2 _ _ _ rfl HOWN.out S rfl ?c3 ?c4 ?c5 ?_)
  case c3 => unfold maxLen; omega
  case c4 => omega
  case c5 => omega
  intro v' w2 hown' hgrow hiff
  have hne : v.ownBlock ≠ some b := fun e => by have := (HOWN.out.lt b e).1; omega
  have hb2 : w2.heap[b]? = some (.cells #[.pointer (some ⟨b, 0, none⟩), v, .bool x] 61 (0, 0)) := by
    rw [hgrow.block b (by omega) (fun e => hne e.symm)]
    exact HBK.out
  have HB2 := Lib.hid hb2
  have HGR := Lib.hid hgrow
  have HO2 := Lib.hid hown'
  have HIF := Lib.hid hiff
  have d1 : w2.cell? ⟨b, 1, none⟩ = some v := Lib.cell_of_heap hb2 1
  have f1 : w2.frozen? ⟨b, 1, none⟩ = false := Lib.frozen_of_heap hb2 1
  obtain ⟨ao, cap, hv'⟩ := row_val hown'
  obtain ⟨ao2, cap2, hv⟩ := row_val HOWN.out
  subst hv'
  subst hv
  clear hb2 hgrow hown' hiff
  go_wp2
  go_ret2
  refine ⟨rfl, ⟨.pointer (some ⟨b, 0, none⟩), .slice ao (l.length + S.size) cap, .inr rfl, ?_, row_set ?_ (by simp) _, ?_⟩, ?_, ((HK1.out.others.grown HGR.out (row_kind HOWN.out)).setCell ⟨b, 1, none⟩ rfl _)⟩
  · have := heap_setCell_same w2 b 1 _ _ (.slice ao (l.length + S.size) cap) HB2.out
    rw [this]; simp
  · have := HO2.out
    rw [HSS.out] at this
    rw [Lib.byteCells_append, List.length_append, ← HSL.out]
    exact this
  · intro hnil
    have h1 := List.append_eq_nil_iff.1 hnil
    refine HIF.out.2 ⟨HNIL.out h1.1, ?_⟩
    first
    | (rw [HSL.out, h1.2]; rfl)
    | (rw [HS0.out, h1.2]; rfl)
  · exact (HK1.out.below.grown HGR.out (by omega) (fun k hk => by have := (HOWN.out.lt k hk).1; omega)).setCell (p := ⟨b, 1, none⟩) (Nat.le_refl _) _
set_option maxHeartbeats 2000000 in
set_option maxRecDepth 100000 in
theorem writeByteW (b : Nat) (l : List UInt8) (y : UInt8) (x : Bool) (w : World) (h : WB b l x w) (hlen : l.length ≤ 100000000) :
    Calls Tryz.prog 37 #[.pointer (some ⟨b, 0, none⟩), .int .u8 y.toNat] w fun e w' => e = .returned .nilIface ∧ WB b (l ++ [y]) x w' ∧ Bkept b w w' := by
  obtain ⟨i0, hi, hz0, hz1, hz2⟩ := info_parts infoByte
  have HCC := Lib.hid (copyCheckW b l x w h)
  have hlt0 := h.lt
  clear h
  have hbl : (Lib.byteCells l).length ≤ 100000000 := by rw [Lib.byteCells_length]; omega
  obtain ⟨ci, hci⟩ : ∃ ci : Int, ci = (y.toNat : Int) := ⟨_, rfl⟩
  have HCI := Lib.hid hci
  rw [← hci]
  clear hci
  go_enter Tryz.func37, Tryz.ntmps37
  go_wp2_with fail
  refine HCC.out.mono ?_
  rintro e w1 ⟨rfl, ⟨v, hbk, hown, hnil⟩, hk1⟩
  have HK1 := Lib.hid hk1
  have HOWN := Lib.hid hown
  have HBK := Lib.hid hbk
  have c0 : w1.cell? ⟨b, 0, none⟩ = some (.pointer (some ⟨b, 0, none⟩)) := Lib.cell_of_heap hbk 0
  have c1 : w1.cell? ⟨b, 1, none⟩ = some v := Lib.cell_of_heap hbk 1
  have hsz := hk1.below.size
  clear hbk hown hnil hk1
  go_wp2_with (at_builtin; refine wpList_append_own _ rfl _ _ 48 rfl (b + 1) 5 i0 (.int .u8 0) 1 1 Tryz.underlying48 hi hz0 hz1 hz2 rfl (by decide) _ _ _ rfl (HOWN.out.alloc _) ⟨w1.heap.size, 0, none⟩ 1 1 [.int .u8 ci] rfl rfl (one_cells w1 _ _) (by intro u hu; simp at hu; subst hu; rfl) ?c3 ?c4 ?c5 ?_)
  case c3 => unfold maxLen; omega
  case c4 => omega
  case c5 => simp; omega
  intro v' w2 hown' hgrow hiff
  have hne : v.ownBlock ≠ some b := fun e => by have := (HOWN.out.lt b e).1; omega
  have hb2 : w2.heap[b]? = some (.cells #[.pointer (some ⟨b, 0, none⟩), v, .bool x] 61 (0, 0)) := by
    rw [hgrow.block b (by simp; omega) (fun e => hne e.symm)]
    exact ((balloc w1 _).block b (by omega)).trans HBK.out
  have HB2 := Lib.hid hb2
  have HGR := Lib.hid hgrow
  have HO2 := Lib.hid hown'
  have d1 : w2.cell? ⟨b, 1, none⟩ = some v := Lib.cell_of_heap hb2 1
  have f1 : w2.frozen? ⟨b, 1, none⟩ = false := Lib.frozen_of_heap hb2 1
  obtain ⟨ao, cap, hv'⟩ := row_val hown'
  obtain ⟨ao2, cap2, hv⟩ := row_val HOWN.out
  subst hv'
  subst hv
  clear hb2 hgrow hown' hiff
  go_wp2
  go_ret
  refine ⟨rfl, ⟨.pointer (some ⟨b, 0, none⟩), .slice ao (l.length + 1) cap, .inr rfl, ?_, row_set ?_ (by simp) _, fun e => by simp at e⟩, ?_, (((HK1.out.others.alloc _).grown HGR.out (row_kind (HOWN.out.alloc _))).setCell ⟨b, 1, none⟩ rfl _)⟩
  · have := heap_setCell_same w2 b 1 _ _ (.slice ao (l.length + 1) cap) HB2.out
    rw [this]; simp
  · have := HO2.out
    rw [show (l ++ [y]).length = l.length + 1 by simp, show Lib.byteCells (l ++ [y]) = Lib.byteCells l ++ [.int .u8 ci] by rw [Lib.byteCells_append, HCI.out]; rfl]
    exact this
  · exact ((HK1.out.below.alloc (by omega) _).grown HGR.out (by simp; omega) (fun k hk => by have := (HOWN.out.lt k hk).1; omega)).setCell (p := ⟨b, 1, none⟩) (Nat.le_refl _) _
end W
end Go.Proofs.YtmgomklpjjkehaaGreat
namespace Go.Proofs.YtmgomklpjjkehaaGreat
open Go.RowKit K
open WP (GP gp gpL)
namespace W
set_option maxHeartbeats 2000000 in
set_option maxRecDepth 100000 in
theorem stringW (b : Nat) (l : List UInt8) (x : Bool) (w : World) (h : WB b l x w) (hlen : l.length ≤ 100000000) :
    Calls Tryz.prog 22 #[.pointer (some ⟨b, 0, none⟩)] w fun e w' => e = .returned (.string ⟨l.toArray⟩) ∧ Bkept b w w' := by
  have mixed : Tryz.prog.follows .mixedOrders = true := by kernel_rfl
  obtain ⟨p, v, -, hb, hr, hn⟩ := h
  by_cases h0 : l = []
  · subst h0
    obtain rfl := hn rfl
    have hUS := Lib.run_unsafeString_none (P := Tryz.prog)
    have c1 : w.drew.cell? ⟨b, 1, none⟩ = some (.slice none 0 0) := Lib.cell_of_heap (show w.drew.heap[b]? = _ from hb) 1
    have hSD : (Builtin.unsafeSliceData_ #[48] 75 #[.slice none 0 0]).run Tryz.prog w.drew = .ok (.pointer none) w.drew := rfl
    go_enter Tryz.func22, Tryz.ntmps22
    go_wp2
    go_region_o
    all_goals (go_wp2; go_ret; exact ⟨rfl, Below.drew (Below.refl b w), (Lib.OthersKept.refl _ _ w).drew⟩)
  · rcases hr.2 with ⟨_, hz⟩ | ⟨g, cap, cur, hv, hbg, hg, hnc, hcm, hcs, htake⟩
    · exact absurd (List.length_eq_zero_iff.1 hz) h0
    have hl0 : l.length ≠ 0 := by simpa using h0
    subst hv
    have c1 : w.drew.cell? ⟨b, 1, none⟩ = some (.slice (some ⟨g, 0, none⟩) l.length cap) := Lib.cell_of_heap (show w.drew.heap[b]? = _ from hb) 1
    have hSD : (Builtin.unsafeSliceData_ #[48] 75 #[.slice (some ⟨g, 0, none⟩) l.length cap]).run Tryz.prog w.drew = .ok (.pointer (some ⟨g, 0, none⟩)) w.drew :=
      Lib.run_unsafeSliceData_row _ _ _ _ _ _ (by omega)
    have hUS : (Builtin.unsafeString_ #[75, 3] 9 #[.pointer (some ⟨g, 0, none⟩), .int .i64 l.length]).run Tryz.prog w.drew = .ok (.string ⟨l.toArray⟩) (w.drew.freeze ⟨g, 0, none⟩ l.length) := by
      refine Lib.run_unsafeString_row w.drew 75 3 9 5 Tryz.underlying75 cellsByteW g cur.size (by have hg' : w.drew.heap[g]? = some (.cells cur 5 (0, 0)) := hg; simp [World.shape?, hg']) l h0 (by omega) (by omega) ?_
      intro j x hx
      exact hr.cells (g := g) rfl j (.int .u8 x.toNat) (by simp [Lib.byteCells, hx])
    have HBG := Lib.hid hbg
    have HG := Lib.hid hg
    clear hr hb hn hbg hg hnc hcm hcs htake h0
    go_enter Tryz.func22, Tryz.ntmps22
    go_wp2
    go_region_o
    all_goals (go_wp2; go_ret; exact ⟨rfl, Lib.below_freeze (Below.drew (Below.refl b w)) (p := ⟨g, 0, none⟩) (by have := HBG.out; show b ≤ g; omega) _, ((Lib.OthersKept.refl _ _ w).drew).freeze ⟨g, 0, none⟩ _ ⟨cur, (0, 0), HG.out⟩⟩)
end W
end Go.Proofs.YtmgomklpjjkehaaGreat
namespace Go.Proofs.YtmgomklpjjkehaaGreat
open Go.RowKit K
open WP (GP gp gpL)
namespace W
theorem num_drop {t : List UInt8} {k : Nat} (h : k < t.length) : LX.number (t.drop k) = (LX.digit (bt t k) && LX.number (t.drop (k + 1))) := by
  obtain ⟨x, hx, hb, _⟩ := drop_cons t k h
  rw [hx, hb]
  rfl
set_option maxRecDepth 100000 in
theorem numeral_any (t : List UInt8) (w : World) (ht : t.length ≤ 1000000) : Calls Tryz.prog 51 #[.string ⟨t.toArray⟩] w fun e w' => e = .returned (.bool (LX.number t)) ∧ w = w' := by
  obtain ⟨R, hR⟩ : ∃ R, LX.number t = R := ⟨_, rfl⟩
  rw [hR]
  have HR := Lib.hid (show LX.number (t.drop 0) = R from hR)
  have HD := Lib.hid (fun (c : Int) (V : World) => wd_digit c V)
  clear hR
  go_enter Tryz.func51, Tryz.ntmps51
  go_wp2
  go_loop [3] (fun i => ∃ k : Nat, k ≤ t.length ∧ i = .int .i64 k ∧ Hid (LX.number (t.drop k) = R)) (fun i => t.length - (intOf i).toNat)
  case atStart => exact ⟨0, Nat.zero_le _, rfl, HR⟩
  case round =>
    obtain ⟨k, hk, rfl, HN⟩ := hrel
    by_cases hlt : k < t.length
    · have HQ := Lib.hid (num_drop hlt)
      obtain ⟨b, hb⟩ : ∃ b, LX.digit (bt t k) = b := ⟨_, rfl⟩
      have HDB := HD.out (bt t k)
      rw [hb] at HQ HDB
      replace HDB := Lib.hid HDB
      clear hb
      rcases (show b = true ∨ b = false by cases b <;> simp) with rfl | rfl
      · have HF := Lib.hid (show LX.number (t.drop (k + 1)) = R by rw [← HN.out, HQ.out, Bool.true_and])
        go_wp2_with fail
        refine (HDB.out _).mono ?_
        rintro e w' ⟨rfl, rfl⟩
        go_wp2
        go_round
        case rel => exact ⟨k + 1, hlt, by go_num, HF⟩
        case measure => simp [intOf]; omega
      · have HF := Lib.hid (show R = false by rw [← HN.out, HQ.out, Bool.false_and])
        go_wp2_with fail
        refine (HDB.out _).mono ?_
        rintro e w' ⟨rfl, rfl⟩
        go_wp2
        go_ret
        exact ⟨ret_bool HF.out.symm, rfl⟩
    · have HF := Lib.hid (show R = true by rw [← HN.out, List.drop_eq_nil_of_le (by omega)]; rfl)
      go_wp2
      go_ret
      exact ⟨ret_bool HF.out.symm, rfl⟩
theorem esc_take {pl : Nat} {op : Bool} {t : List UInt8} {k : Nat} (h : k < t.length) : WP.escT pl op (t.take (k + 1)) = WP.escT pl op (t.take k) ++ (if WP.escapes pl (bt t k) op = true then [92, by8 (bt t k)] else [by8 (bt t k)]) := by
  obtain ⟨x, hx, hb, hg⟩ := drop_cons t k h
  have : t.take (k + 1) = t.take k ++ [x] := by rw [List.take_add_one, hg]; rfl
  rw [this, WP.escT_append, hb, by8_of, WP.escT, WP.escT, List.append_nil]
theorem esc_le (pl : Nat) (op : Bool) (t : List UInt8) (k : Nat) : (WP.escT pl op (t.take k)).length ≤ 2 * t.length := by
  have := WP.escT_len pl op (t.take k)
  have := List.length_take_le' k t
  omega
set_option maxRecDepth 100000 in
set_option maxHeartbeats 2000000 in
theorem text_any (g : Nat) (l t : List UInt8) (pl : Nat) (op x : Bool) (w : World) (h : WB g l x w) (hl : l.length ≤ 50000000) (ht : t.length ≤ 1000000) :
    Calls Tryz.prog 38 #[.pointer (some ⟨g, 0, none⟩), .string ⟨t.toArray⟩, .int .i64 pl, .bool op] w fun e w' => e = .returned (.tuple #[]) ∧ WB g (l ++ WP.escT pl op t) x w' ∧ Bkept g w w' := by
  have HW := Lib.hid (show WB g (l ++ WP.escT pl op (t.take 0)) x w from by rw [List.take_zero, WP.escT, List.append_nil]; exact h)
  have HL := Lib.hid (fun k => show (l ++ WP.escT pl op (t.take k)).length ≤ 60000000 from by have := esc_le pl op t k; rw [List.length_append]; omega)
  have HGL := Lib.hid h.lt
  clear h hl
  go_enter Tryz.func38, Tryz.ntmps38
  go_wp2
  go_loopw [8] (fun i wr => ∃ k : Nat, k ≤ t.length ∧ i = .int .i64 k ∧ Hid (WB g (l ++ WP.escT pl op (t.take k)) x wr) ∧ Hid (Bkept g w wr)) (fun i _ => t.length - (intOf i).toNat)
  case atStart => exact ⟨0, Nat.zero_le _, rfl, HW, Lib.hid (Bkept.refl _ _)⟩
  case round =>
    obtain ⟨k, hk, rfl, HB, HK⟩ := hrel
    by_cases hlt : k < t.length
    · have HT := Lib.hid (esc_take (pl := pl) (op := op) hlt)
      have HLk := Lib.hid (show (l ++ WP.escT pl op (t.take k)).length ≤ 60000000 from HL.out k)
      obtain ⟨z, hz⟩ : ∃ z, bt t k = z := ⟨_, rfl⟩
      have hz0 := bt_nonneg t k
      have hz1 := bt_le t k
      have HES := Lib.hid (fun V => escapes_any pl (bt t k) op V)
      rw [hz] at HT hz0 hz1 HES
      have HBY := Lib.hid (by8_toNat z hz0 hz1)
      obtain ⟨b, hb⟩ : ∃ b, WP.escapes pl z op = b := ⟨_, rfl⟩
      rw [hb] at HES HT
      clear hb
      obtain ⟨acc, hacc⟩ : ∃ acc, l ++ WP.escT pl op (t.take k) = acc := ⟨_, rfl⟩
      have HAC := Lib.hid hacc
      rw [hacc] at HB HLk
      clear hacc
      have k0 : (0 : Int) ≤ (k : Int) := by omega
      have k1 : ((k : Int) < (t.length : Int)) = True := eq_true (by omega)
      have w1 : IntKind.i64.wrap ((k : Int) + 1) = (k : Int) + 1 := IntWalk.i64_in _ (by omega)
      rcases (show b = true ∨ b = false by cases b <;> simp) with rfl | rfl
      · have HF := Lib.hid (show l ++ WP.escT pl op (t.take (k + 1)) = acc ++ [92] ++ [by8 z] by rw [HT.out, ← List.append_assoc, HAC.out, if_pos rfl, List.append_assoc]; rfl)
        have HW1 := Lib.hid (writeByteW g acc 92 x wr HB.out (by have := HLk.out; omega))
        go_wp2_with fail
        refine (HES.out _).mono ?_
        rintro e w1 ⟨rfl, rfl⟩
        go_wp2_with fail
        refine HW1.out.mono ?_
        rintro e Y ⟨rfl, hby, hky⟩
        have HY := Lib.hid hby
        have HKY := Lib.hid (HK.out.trans hky)
        have HW2 := Lib.hid (show Calls Tryz.prog 37 #[.pointer (some ⟨g, 0, none⟩), .int .u8 z] Y.drew fun e w' => e = .returned .nilIface ∧ WB g (acc ++ [92] ++ [by8 z]) x w' ∧ Bkept g Y.drew w' from by
          have := writeByteW g (acc ++ [92]) (by8 z) x Y.drew (hby.below (Below.refl _ _).drew) (by have := HLk.out; rw [List.length_append, List.length_singleton]; omega)
          rwa [HBY.out] at this)
        have HDY := Lib.hid (Bkept.of_below (Below.refl Y.heap.size Y).drew (Nat.le_of_lt hby.lt))
        clear hby hky
        go_wp2_with fail
        refine wp_region_still_tail 6 (by kernel_rfl) (by kernel_rfl) ?_
        simp only [List.take_succ_cons, List.take_zero, List.drop_succ_cons, List.drop_zero]
        repeat still_step
        refine wpStill_nil ?_
        change wpList _ _ _ _ _ Y.drew
        go_wp2_with fail
        refine HW2.out.mono ?_
        rintro e Z ⟨rfl, hbz, hkz⟩
        have HZ := Lib.hid hbz
        have HKZ := Lib.hid ((HKY.out.trans HDY.out).trans hkz)
        clear hbz hkz
        go_wp2
        go_roundw
        case rel => exact ⟨k + 1, hlt, by go_num, Lib.hid (by rw [HF.out]; exact HZ.out), HKZ⟩
        case measure => simp [intOf]; omega
      · have HF := Lib.hid (show l ++ WP.escT pl op (t.take (k + 1)) = acc ++ [by8 z] by rw [HT.out, ← List.append_assoc, HAC.out, if_neg (by simp)])
        have HW2 := Lib.hid (show Calls Tryz.prog 37 #[.pointer (some ⟨g, 0, none⟩), .int .u8 z] wr.drew fun e w' => e = .returned .nilIface ∧ WB g (acc ++ [by8 z]) x w' ∧ Bkept g wr.drew w' from by
          have := writeByteW g acc (by8 z) x wr.drew (HB.out.below (Below.refl _ _).drew) (by have := HLk.out; omega)
          rwa [HBY.out] at this)
        have HDY := Lib.hid (Bkept.of_below (Below.refl wr.heap.size wr).drew (Nat.le_of_lt HB.out.lt))
        go_wp2_with fail
        refine (HES.out _).mono ?_
        rintro e w1 ⟨rfl, rfl⟩
        go_wp2_with fail
        refine wp_region_still_tail 6 (by kernel_rfl) (by kernel_rfl) ?_
        simp only [List.take_succ_cons, List.take_zero, List.drop_succ_cons, List.drop_zero]
        repeat still_step
        refine wpStill_nil ?_
        change wpList _ _ _ _ _ wr.drew
        go_wp2_with fail
        refine HW2.out.mono ?_
        rintro e Z ⟨rfl, hbz, hkz⟩
        have HZ := Lib.hid hbz
        have HKZ := Lib.hid ((HK.out.trans HDY.out).trans hkz)
        clear hbz hkz
        go_wp2
        go_roundw
        case rel => exact ⟨k + 1, hlt, by go_num, Lib.hid (by rw [HF.out]; exact HZ.out), HKZ⟩
        case measure => simp [intOf]; omega
    · have HF := Lib.hid (show l ++ WP.escT pl op (t.take k) = l ++ WP.escT pl op t by rw [List.take_of_length_le (by omega)])
      go_wp2
      go_end0
      exact ⟨rfl, by rw [← HF.out]; exact HB.out, HK.out⟩
end W
end Go.Proofs.YtmgomklpjjkehaaGreat
namespace Go.Proofs.YtmgomklpjjkehaaGreat
open Go.RowKit K
open WP (GP gp gpL)
namespace W
/-- What the writer writes for a parameter. -/
def outQ (pl : Nat) (nx : Int) (t : List UInt8) (o : Int) (c : Bool) (ps : List GP) : List UInt8 :=
  if o = 0 then (if WP.braces t nx = true then 36 :: 123 :: (t ++ [125]) else 36 :: t)
  else if o = 5 then 36 :: 123 :: 35 :: (t ++ [125])
  else match WP.symbol o with
    | none => []
    | some y => 36 :: 123 :: (t ++ ((if c = true then 58 :: y else y) ++ (WP.outL pl true ps ++ [125])))
def badQ (o : Int) (ps : List GP) : Bool := if o = 0 ∨ o = 5 then false else if WP.symbol o = none then true else WP.badL ps
/-- What parts gives for a list, written behind any text. -/
def PartsC (g : Nat) (w : World) (v : Value) (pl : Nat) (op : Bool) (ps : List GP) : Prop :=
  ∀ (V : World) (l : List UInt8) (x : Bool), Bkept g w V → WB g l x V → l.length + (2 * WP.sizL ps + 8 * WP.cntL ps) ≤ 40000000 →
    Calls Tryz.prog 26 #[.pointer (some ⟨g, 0, none⟩), v, .int .i64 pl, .bool op] V fun e w' => e = .returned (.tuple #[]) ∧ WB g (l ++ WP.outL pl op ps) (x || WP.badL ps) w' ∧ Bkept g V w'
theorem str_add (a b c : List UInt8) (h : a ++ b = c) (ha : a.length ≤ 8000000) (hb : b.length ≤ 8000000) : ∀ U, (Op.stringOp .add ⟨a.toArray⟩ ⟨b.toArray⟩).run Tryz.prog U = .ok (.string ⟨c.toArray⟩) U := fun U => by
  rw [← h]
  exact run_string_add_lists U a b (by omega) (by omega)
set_option maxRecDepth 100000 in
set_option maxHeartbeats 4000000 in
theorem param_ne (g : Nat) (l t : List UInt8) (x c : Bool) (pl : Nat) (nx : Int) (ps : List GP) (A : Option Addr) (cap : Nat) (w : World) (h : WB g l x w) (hl : l.length ≤ 50000000) (ht : t.length ≤ 1000000) (ht0 : ¬ t = []) :
    Calls Tryz.prog 39 #[.pointer (some ⟨g, 0, none⟩), .agg #[.int .i64 4, .string ⟨t.toArray⟩, .int .i64 0, .bool c, .slice A ps.length cap], .int .i64 pl, .int .u8 nx] w
      fun e w' => e = .returned (.tuple #[]) ∧ WB g (l ++ outQ pl nx t 0 c ps) x w' ∧ Bkept g w w' := by
  obtain ⟨OUT, hOUT⟩ : ∃ OUT, outQ pl nx t 0 c ps = OUT := ⟨_, rfl⟩
  rw [hOUT]
  have HOUT := Lib.hid hOUT
  clear hOUT
  have hpos : 0 < t.length := List.length_pos_iff.2 ht0
  have hemp : t.isEmpty = false := by cases t with | nil => exact absurd rfl ht0 | cons a b => rfl
  have HB := Lib.hid h
  have hgl := h.lt
  have HN := Lib.hid (fun V => numeral_any t V ht)
  have HS := Lib.hid (fun (c : Int) V => wd_starts c V)
  have HD := Lib.hid (fun (c : Int) V => wd_digit c V)
  have hps : (0 : Int) ≤ (ps.length : Int) := by omega
  have htl : (0 : Int) ≤ (t.length : Int) := by omega
  clear h
  obtain ⟨V, hV⟩ : ∃ V, V = w.alloc (.cells #[.int .i64 4, .string ⟨t.toArray⟩, .int .i64 0, .bool c, .slice A ps.length cap] 38) := ⟨_, rfl⟩
  have HVP := Lib.hid (show V.heap[w.heap.size]? = some (.cells #[.int .i64 4, .string ⟨t.toArray⟩, .int .i64 0, .bool c, .slice A ps.length cap] 38 (0, 0)) by rw [hV]; exact al_new w _)
  have HWV := Lib.hid (show Below w.heap.size w V by rw [hV]; exact balloc _ _)
  have HV := Lib.hid hV
  have v1 := Lib.cell_of_heap HVP.out 1
  have hv1 : V.cell? ⟨w.heap.size, 1, none⟩ = some (.string ⟨t.toArray⟩) := v1
  clear hV v1
  go_enter Tryz.func39, Tryz.ntmps39
  go_upto_region 5 with (fail)
  rw [← HV.out]
  go_cut [43] (fun v wx => v = .bool (WP.braces t nx) ∧ wx = V)
  case first =>
    go_wp2_with (first | (go_at_call 51; refine (HN.out _).mono ?_; rintro e w' ⟨rfl, rfl⟩) | (go_at_call 52; refine (HS.out _ _).mono ?_; rintro e w' ⟨rfl, rfl⟩) | (go_at_call 53; refine (HD.out _ _).mono ?_; rintro e w' ⟨rfl, rfl⟩))
    all_goals
      go_meet
      refine ⟨?_, rfl⟩
      go_light
      have hc : decide ((1 : Int) < (t.length : Int)) = decide (1 < t.length) := decide_eq_decide.2 (by omega)
      unfold WP.braces
      first
      | (rw [hc]; clear hc; simp_all; done)
      | (clear hc; simp_all; done)
      | (clear hc; simp_all; omega)
  case rest =>
    obtain ⟨rfl, hwc⟩ := hcut
    obtain rfl : V = wc := hwc.symm
    obtain ⟨R, hR⟩ : ∃ R, WP.braces t nx = R := ⟨_, rfl⟩
    have HWVB := Lib.hid (HB.out.below (btr HWV.out (Below.refl _ _).drew))
    have HKV := Lib.hid (Bkept.of_below (btr HWV.out (Below.refl _ _).drew) (Nat.le_of_lt hgl))
    have htx : ((t.length : Int) ≤ 1000000) := by omega
    rcases (show R = true ∨ R = false by cases R <;> simp) with rfl | rfl
    · have HO := Lib.hid (show OUT = 36 :: 123 :: (t ++ [125]) by rw [← HOUT.out]; unfold outQ; rw [if_pos rfl, if_pos hR])
      have HWS := Lib.hid (writeStringW g l (36 :: 123 :: (t ++ [125])) x V.drew HWVB.out (by omega) (by simp; omega))
      have hA1 := str_add [36, 123] t (36 :: 123 :: t) rfl (by decide) (by omega)
      have hA2 := str_add (36 :: 123 :: t) [125] (36 :: 123 :: (t ++ [125])) rfl (by simp; omega) (by decide)
      rw [hR]
      clear hwc hR
      go_wp2_with fail
      refine wp_region_still_tail 7 (by kernel_rfl) (by kernel_rfl) ?_
      simp only [List.take_succ_cons, List.take_zero, List.drop_succ_cons, List.drop_zero]
      repeat still_step
      refine wpStill_nil ?_
      change wpList _ _ _ _ _ V.drew
      go_wp2_with fail
      refine HWS.out.mono ?_
      rintro e Z ⟨rfl, hz, hk⟩
      have HZ := Lib.hid hz
      have HKZ := Lib.hid (HKV.out.trans hk)
      clear hz hk
      go_wp2
      first | go_end0 | refine bodyPost_ret (results_none rfl _ _ _) rfl ?_
      exact ⟨rfl, by rw [HO.out]; exact HZ.out, HKZ.out⟩
    · have HO := Lib.hid (show OUT = 36 :: t by rw [← HOUT.out]; unfold outQ; rw [if_pos rfl, if_neg (by rw [hR]; simp)])
      have HWS := Lib.hid (writeStringW g l (36 :: t) x V.drew HWVB.out (by omega) (by simp; omega))
      have hA1 := str_add [36] t (36 :: t) rfl (by decide) (by omega)
      rw [hR]
      clear hwc hR
      go_wp2_with fail
      refine wp_region_still_tail 6 (by kernel_rfl) (by kernel_rfl) ?_
      simp only [List.take_succ_cons, List.take_zero, List.drop_succ_cons, List.drop_zero]
      repeat still_step
      refine wpStill_nil ?_
      change wpList _ _ _ _ _ V.drew
      go_wp2_with fail
      refine HWS.out.mono ?_
      rintro e Z ⟨rfl, hz, hk⟩
      have HZ := Lib.hid hz
      have HKZ := Lib.hid (HKV.out.trans hk)
      clear hz hk
      go_wp2
      first | go_end0 | refine bodyPost_ret (results_none rfl _ _ _) rfl ?_
      exact ⟨rfl, by rw [HO.out]; exact HZ.out, HKZ.out⟩
end W
end Go.Proofs.YtmgomklpjjkehaaGreat
namespace Go.Proofs.YtmgomklpjjkehaaGreat
open Go.RowKit K
open WP (GP gp gpL)
namespace W
set_option maxRecDepth 100000 in
set_option maxHeartbeats 4000000 in
theorem param_nil (g : Nat) (l : List UInt8) (x c : Bool) (pl : Nat) (nx : Int) (ps : List GP) (A : Option Addr) (cap : Nat) (w : World) (h : WB g l x w) (hl : l.length ≤ 50000000) :
    Calls Tryz.prog 39 #[.pointer (some ⟨g, 0, none⟩), .agg #[.int .i64 4, .string ⟨([] : List UInt8).toArray⟩, .int .i64 0, .bool c, .slice A ps.length cap], .int .i64 pl, .int .u8 nx] w
      fun e w' => e = .returned (.tuple #[]) ∧ WB g (l ++ [36]) x w' ∧ Bkept g w w' := by
  have HB := Lib.hid h
  have hgl := h.lt
  have HN := Lib.hid (fun V => show Calls Tryz.prog 51 #[.string ⟨([] : List UInt8).toArray⟩] V fun e w' => e = .returned (.bool true) ∧ V = w' from numeral_any [] V (by simp))
  have hps : (0 : Int) ≤ (ps.length : Int) := by omega
  obtain ⟨V, hV⟩ : ∃ V, V = w.alloc (.cells #[.int .i64 4, .string ⟨([] : List UInt8).toArray⟩, .int .i64 0, .bool c, .slice A ps.length cap] 38) := ⟨_, rfl⟩
  have HVP := Lib.hid (show V.heap[w.heap.size]? = some (.cells #[.int .i64 4, .string ⟨([] : List UInt8).toArray⟩, .int .i64 0, .bool c, .slice A ps.length cap] 38 (0, 0)) by rw [hV]; exact al_new w _)
  have HWV := Lib.hid (show Below w.heap.size w V by rw [hV]; exact balloc _ _)
  have HV := Lib.hid hV
  have v1 := Lib.cell_of_heap HVP.out 1
  have hv1 : V.cell? ⟨w.heap.size, 1, none⟩ = some (.string ⟨([] : List UInt8).toArray⟩) := v1
  have HWVB := Lib.hid (HB.out.below (btr HWV.out (Below.refl _ _).drew))
  have HKV := Lib.hid (Bkept.of_below (btr HWV.out (Below.refl _ _).drew) (Nat.le_of_lt hgl))
  have HWS := Lib.hid (writeStringW g l [36] x V.drew HWVB.out (by omega) (by simp))
  have hA1 := str_add [36] [] [36] rfl (by decide) (by decide)
  clear h hV v1
  go_enter Tryz.func39, Tryz.ntmps39
  go_wp2_with (go_at_call 51; refine (HN.out _).mono ?_; rintro e w' ⟨rfl, rfl⟩)
  rw [← HV.out]
  refine wp_region_still_tail 6 (by kernel_rfl) (by kernel_rfl) ?_
  simp only [List.take_succ_cons, List.take_zero, List.drop_succ_cons, List.drop_zero]
  repeat still_step
  refine wpStill_nil ?_
  change wpList _ _ _ _ _ V.drew
  go_wp2_with fail
  refine HWS.out.mono ?_
  rintro e Z ⟨rfl, hz, hk⟩
  have HZ := Lib.hid hz
  have HKZ := Lib.hid (HKV.out.trans hk)
  clear hz hk
  go_wp2
  first | go_end0 | refine bodyPost_ret (results_none rfl _ _ _) rfl ?_
  exact ⟨rfl, HZ.out, HKZ.out⟩
set_option maxRecDepth 100000 in
set_option maxHeartbeats 4000000 in
theorem param_len (g : Nat) (l t : List UInt8) (x c : Bool) (pl : Nat) (nx : Int) (ps : List GP) (A : Option Addr) (cap : Nat) (w : World) (h : WB g l x w) (hl : l.length ≤ 50000000) (ht : t.length ≤ 1000000) :
    Calls Tryz.prog 39 #[.pointer (some ⟨g, 0, none⟩), .agg #[.int .i64 4, .string ⟨t.toArray⟩, .int .i64 5, .bool c, .slice A ps.length cap], .int .i64 pl, .int .u8 nx] w
      fun e w' => e = .returned (.tuple #[]) ∧ WB g (l ++ 36 :: 123 :: 35 :: (t ++ [125])) x w' ∧ Bkept g w w' := by
  have HB := Lib.hid h
  have hgl := h.lt
  have hps : (0 : Int) ≤ (ps.length : Int) := by omega
  obtain ⟨V, hV⟩ : ∃ V, V = w.alloc (.cells #[.int .i64 4, .string ⟨t.toArray⟩, .int .i64 5, .bool c, .slice A ps.length cap] 38) := ⟨_, rfl⟩
  have HVP := Lib.hid (show V.heap[w.heap.size]? = some (.cells #[.int .i64 4, .string ⟨t.toArray⟩, .int .i64 5, .bool c, .slice A ps.length cap] 38 (0, 0)) by rw [hV]; exact al_new w _)
  have HWV := Lib.hid (show Below w.heap.size w V by rw [hV]; exact balloc _ _)
  have HV := Lib.hid hV
  have v1 := Lib.cell_of_heap HVP.out 1
  have hv1 : V.cell? ⟨w.heap.size, 1, none⟩ = some (.string ⟨t.toArray⟩) := v1
  have HWVB := Lib.hid (HB.out.below (btr HWV.out (Below.refl _ _).drew))
  have HKV := Lib.hid (Bkept.of_below (btr HWV.out (Below.refl _ _).drew) (Nat.le_of_lt hgl))
  have HWS := Lib.hid (writeStringW g l (36 :: 123 :: 35 :: (t ++ [125])) x V.drew HWVB.out (by omega) (by simp; omega))
  have hA1 := str_add [36, 123, 35] t (36 :: 123 :: 35 :: t) rfl (by decide) (by omega)
  have hA2 := str_add (36 :: 123 :: 35 :: t) [125] (36 :: 123 :: 35 :: (t ++ [125])) rfl (by simp; omega) (by decide)
  clear h hV v1
  go_enter Tryz.func39, Tryz.ntmps39
  go_wp2_with fail
  rw [← HV.out]
  refine wp_region_still_tail 7 (by kernel_rfl) (by kernel_rfl) ?_
  simp only [List.take_succ_cons, List.take_zero, List.drop_succ_cons, List.drop_zero]
  repeat still_step
  refine wpStill_nil ?_
  change wpList _ _ _ _ _ V.drew
  go_wp2_with fail
  refine HWS.out.mono ?_
  rintro e Z ⟨rfl, hz, hk⟩
  have HZ := Lib.hid hz
  have HKZ := Lib.hid (HKV.out.trans hk)
  clear hz hk
  go_wp2
  first | go_end0 | refine bodyPost_ret (results_none rfl _ _ _) rfl ?_
  exact ⟨rfl, HZ.out, HKZ.out⟩
theorem symbol_none {o : Int} (h : WP.symbol o = none) : ¬ o = 1 ∧ ¬ o = 2 ∧ ¬ o = 3 ∧ ¬ o = 4 ∧ ¬ o = 6 ∧ ¬ o = 7 ∧ ¬ o = 8 ∧ ¬ o = 9 := by
  unfold WP.symbol at h
  repeat' split at h
  all_goals first | exact ⟨by assumption, by assumption, by assumption, by assumption, by assumption, by assumption, by assumption, by assumption⟩ | cases h
theorem symbol_some {o : Int} {y : List UInt8} (h : WP.symbol o = some y) : (o = 1 ∧ y = [45]) ∨ (o = 2 ∧ y = [61]) ∨ (o = 3 ∧ y = [63]) ∨ (o = 4 ∧ y = [43]) ∨ (o = 6 ∧ y = [37]) ∨ (o = 7 ∧ y = [37, 37]) ∨ (o = 8 ∧ y = [35]) ∨ (o = 9 ∧ y = [35, 35]) := by
  unfold WP.symbol at h
  repeat' split at h
  all_goals first | (injection h with h; subst h; simp_all; done) | cases h
theorem WB.wrong {g : Nat} {l : List UInt8} {x : Bool} {w : World} (h : WB g l x w) : WB g l true (w.setCell ⟨g, 2, none⟩ (.bool true)) ∧ Bkept g w (w.setCell ⟨g, 2, none⟩ (.bool true)) := by
  obtain ⟨p, v, h1, h2, h3, h4⟩ := h
  refine ⟨⟨p, v, h1, ?_, row_set h3 (by simp) _, h4⟩, (Below.refl g w).setCell (p := ⟨g, 2, none⟩) (Nat.le_refl _) _, (Lib.OthersKept.refl _ _ w).setCell ⟨g, 2, none⟩ rfl _⟩
  have := heap_setCell_same w g 2 _ _ (.bool true) h2
  rw [this]; simp
set_option maxRecDepth 100000 in
set_option maxHeartbeats 4000000 in
theorem param_bad (g : Nat) (l t : List UInt8) (x c : Bool) (pl : Nat) (nx o : Int) (ps : List GP) (A : Option Addr) (cap : Nat) (w : World) (h : WB g l x w) (h0 : ¬ o = 0) (h5 : ¬ o = 5) (hs : WP.symbol o = none) :
    Calls Tryz.prog 39 #[.pointer (some ⟨g, 0, none⟩), .agg #[.int .i64 4, .string ⟨t.toArray⟩, .int .i64 o, .bool c, .slice A ps.length cap], .int .i64 pl, .int .u8 nx] w
      fun e w' => e = .returned (.tuple #[]) ∧ WB g l true w' ∧ Bkept g w w' := by
  have HB := Lib.hid h
  have hgl := h.lt
  have hps : (0 : Int) ≤ (ps.length : Int) := by omega
  obtain ⟨n1, n2, n3, n4, n6, n7, n8, n9⟩ := symbol_none hs
  have b0 := beq_f h0
  have b1 := beq_f n1
  have b2 := beq_f n2
  have b3 := beq_f n3
  have b4 := beq_f n4
  have b5 := beq_f h5
  have b6 := beq_f n6
  have b7 := beq_f n7
  have b8 := beq_f n8
  have b9 := beq_f n9
  have f2 : w.frozen? ⟨g, 2, none⟩ = false := by obtain ⟨p, v, -, hb, -⟩ := h; exact Lib.frozen_of_heap hb 2
  have c2 : w.cell? ⟨g, 2, none⟩ = some (.bool x) := by obtain ⟨p, v, -, hb, -⟩ := h; exact Lib.cell_of_heap hb 2
  clear h n1 n2 n3 n4 n6 n7 n8 n9 h0 h5 hs
  go_enter Tryz.func39, Tryz.ntmps39
  go_wp2
  first | go_end0 | refine bodyPost_ret (results_none rfl _ _ _) rfl ?_
  exact ⟨rfl, HB.out.wrong.1.below (balloc _ _), HB.out.wrong.2.trans (Bkept.of_below (balloc _ _) (Nat.le_of_lt HB.out.wrong.1.lt))⟩
end W
end Go.Proofs.YtmgomklpjjkehaaGreat
