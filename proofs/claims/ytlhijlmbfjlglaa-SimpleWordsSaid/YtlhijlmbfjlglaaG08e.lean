/- Words: the writer's builder, the first field of a struct of three cells. -/
import Derived.Test.YtlhijlmbfjlglaaYB
import Derived.Lib.AppendStr
namespace Go.Proofs.Ytlhijlmbfjlglaa
open Go.RowKit K
open WP (GP gp gpL)
namespace W
theorem cellsByteW : Try.prog.cellsOf 5 = 1 := by kernel_rfl
/-- A writer in block b that holds the bytes l. -/
def WB (b : Nat) (l : List UInt8) (x : Bool) (w : World) : Prop :=
  ∃ p v, (p = .pointer none ∨ p = .pointer (some ⟨b, 0, none⟩)) ∧ w.heap[b]? = some (.cells #[p, v, .bool x] 98 (0, 0)) ∧ w.ownsRow (b + 1) 5 1 v l.length (Lib.byteCells l) ∧ (l = [] → v = .slice none 0 0)
theorem WB.lt {b : Nat} {l : List UInt8} {x : Bool} {w : World} (h : WB b l x w) : b < w.heap.size := by
  obtain ⟨p, v, -, hb, -⟩ := h
  exact (Array.getElem?_eq_some_iff.1 hb).1
theorem WB.below {b : Nat} {l : List UInt8} {x : Bool} {w w' : World} (h : WB b l x w) (hb : Below w.heap.size w w') : WB b l x w' := by
  have hlt := h.lt
  obtain ⟨p, v, h1, h2, h3, h4⟩ := h
  exact ⟨p, v, h1, (hb.block b hlt).trans h2, row_below h3 hb, h4⟩
theorem Bkept.of_below {b : Nat} {w w' : World} (h : Below w.heap.size w w') (hb : b ≤ w.heap.size) : Bkept b w w' := ⟨h.mono hb, fun k _ hk _ _ => (h.block k (Array.getElem?_eq_some_iff.1 hk).1).trans hk⟩
theorem Bkept.cells {b q : Nat} {w w' : World} {cs : Array Value} {T : TypeId} (h : Bkept b w w') (hq : w.heap[q]? = some (.cells cs T (0, 0))) (hne : q ≠ b) (hT : T ≠ 5) : w'.heap[q]? = some (.cells cs T (0, 0)) :=
  h.others q _ hq (fun e => hne (Option.some.inj e)) (fun c fz e => by injection e with _ e2 _; exact hT e2)
set_option maxRecDepth 100000 in
theorem copyCheckW_fresh (b : Nat) (w : World) (h0 : w.cell? ⟨b, 0, none⟩ = some (.pointer none)) (hsh : w.shape? b = some (98, 3)) (hfz : w.frozen? ⟨b, 0, none⟩ = false) :
    Calls Try.prog 70 #[.pointer (some ⟨b, 0, none⟩)] w fun e w' => e = .returned (.tuple #[]) ∧ w' = w.setCell ⟨b, 0, none⟩ (.pointer (some ⟨b, 0, none⟩)) := by
  obtain ⟨j, hj, hjs⟩ := Option.map_eq_some_iff.1 sizeBuilder
  go_enter Try.func70, Try.ntmps70
  go_wp2
  rw [Lib.run_to_unsafe w ⟨b, 0, none⟩ Try.underlying86 Try.underlying119 hj (by rw [hjs]; decide) hsh (show 0 < 3 by decide)]
  simp only [Result.andThen]
  rw [Oper.upon_value]
  go_wp2
  rw [run_callFunc_extern Try.func85 (by kernel_rfl) (by kernel_rfl) (by kernel_rfl) (e := Extern.AbiNoEscape.same) (by kernel_rfl)]
  rw [Lib.run_noEscape]
  simp only [Result.andThen]
  rw [Oper.upon_value]
  go_wp2
  rw [Lib.run_from_unsafe w ⟨b, 0, none⟩ Try.underlying119 Try.underlying86 hj hsh (by kernel_rfl)]
  simp only [Result.andThen]
  rw [Oper.upon_value]
  go_wp2
  go_end0
  exact ⟨rfl, rfl⟩
theorem copyCheckW (b : Nat) (l : List UInt8) (x : Bool) (w : World) (h : WB b l x w) :
    Calls Try.prog 70 #[.pointer (some ⟨b, 0, none⟩)] w fun e w' => e = .returned (.tuple #[]) ∧ (∃ v, w'.heap[b]? = some (.cells #[.pointer (some ⟨b, 0, none⟩), v, .bool x] 98 (0, 0)) ∧ w'.ownsRow (b + 1) 5 1 v l.length (Lib.byteCells l) ∧ (l = [] → v = .slice none 0 0)) ∧ Bkept b w w' := by
  obtain ⟨p, v, hp, hb, hr, hn⟩ := h
  rcases hp with rfl | rfl
  · refine (copyCheckW_fresh b w (Lib.cell_of_heap hb 0) (by simp [World.shape?, hb]) (Lib.frozen_of_heap hb 0)).mono ?_
    rintro e w' ⟨rfl, rfl⟩
    refine ⟨rfl, ⟨v, ?_, row_set hr (by simp) _, hn⟩, (Below.refl b w).setCell (p := ⟨b, 0, none⟩) (Nat.le_refl _) _, (Lib.OthersKept.refl _ _ w).setCell ⟨b, 0, none⟩ rfl _⟩
    have := heap_setCell_same w b 0 _ _ (.pointer (some ⟨b, 0, none⟩)) hb
    rw [this]; simp
  · refine (copyCheck_used b w (Lib.cell_of_heap hb 0)).mono ?_
    rintro e w' ⟨rfl, rfl⟩
    exact ⟨rfl, ⟨v, hb, hr, hn⟩, Bkept.refl b _⟩
theorem row_kind {w : World} {B : Nat} {e : TypeId} {k : Nat} {v : Value} {n : Nat} {xs : List Value} (h : w.ownsRow B e k v n xs) : ∀ g, v.ownBlock = some g → ∃ c fz, w.heap[g]? = some (.cells c e fz) := by
  intro g hg
  rcases h.2 with ⟨h2, _⟩ | ⟨g', cap, cur, hv, _, hgb, _⟩
  · rw [h2] at hg; cases hg
  · rw [hv] at hg
    have e1 : g' = g := by simpa [Value.ownBlock] using hg
    subst e1
    exact ⟨cur, (0, 0), hgb⟩
set_option maxHeartbeats 2000000 in
set_option maxRecDepth 100000 in
theorem writeStringW (b : Nat) (l s : List UInt8) (x : Bool) (w : World) (h : WB b l x w) (hlen : l.length ≤ 100000000) (hs : s.length ≤ 100000000) :
    Calls Try.prog 46 #[.pointer (some ⟨b, 0, none⟩), .string ⟨s.toArray⟩] w fun e w' => e = .returned (.tuple #[.int .i64 s.length, .nilIface]) ∧ WB b (l ++ s) x w' ∧ Bkept b w w' := by
  obtain ⟨i0, hi, hz0, hz1, hz2⟩ := info_parts infoByte
  have HCC := Lib.hid (copyCheckW b l x w h)
  have hlt0 := h.lt
  clear h
  have hbl : (Lib.byteCells l).length ≤ 100000000 := by rw [Lib.byteCells_length]; omega
  obtain ⟨S, hS⟩ : ∃ S : ByteArray, S = ⟨s.toArray⟩ := ⟨_, rfl⟩
  have hSl : S.size = s.length := by rw [hS]; simp [ByteArray.size]
  have HSS := Lib.hid (show Lib.strCells S = Lib.byteCells s by rw [hS]; rfl)
  have HSL := Lib.hid hSl
  have HS0 := Lib.hid hS
  rw [← hS, ← hSl]
  rw [← hSl] at hs
  clear hS hSl
  go_enter Try.func46, Try.ntmps46
  go_wp2_with fail
  refine HCC.out.mono ?_
  rintro e w1 ⟨rfl, ⟨v, hbk, hown, hnil⟩, hk1⟩
  have HK1 := Lib.hid hk1
  have HOWN := Lib.hid hown
  have HNIL := Lib.hid hnil
  have HBK := Lib.hid hbk
  have c0 : w1.cell? ⟨b, 0, none⟩ = some (.pointer (some ⟨b, 0, none⟩)) := Lib.cell_of_heap hbk 0
  have c1 : w1.cell? ⟨b, 1, none⟩ = some v := Lib.cell_of_heap hbk 1
  have hsz := hk1.below.size
  clear hbk hown hnil hk1
  go_wp2_with (at_builtin; refine Lib.wpList_append_own_string _ rfl _ _ 87 9 rfl (b + 1) 5 i0 Try.underlying87 Try.underlying9 hi hz0 hz1 hz2 _ _ _ rfl HOWN.out S rfl ?c3 ?c4 ?c5 ?_)
  case c3 => unfold maxLen; omega
  case c4 => omega
  case c5 => omega
  intro v' w2 hown' hgrow hiff
  have hne : v.ownBlock ≠ some b := fun e => by have := (HOWN.out.lt b e).1; omega
  have hb2 : w2.heap[b]? = some (.cells #[.pointer (some ⟨b, 0, none⟩), v, .bool x] 98 (0, 0)) := by
    rw [hgrow.block b (by omega) (fun e => hne e.symm)]
    exact HBK.out
  have HB2 := Lib.hid hb2
  have HGR := Lib.hid hgrow
  have HO2 := Lib.hid hown'
  have HIF := Lib.hid hiff
  have d1 : w2.cell? ⟨b, 1, none⟩ = some v := Lib.cell_of_heap hb2 1
  have f1 : w2.frozen? ⟨b, 1, none⟩ = false := Lib.frozen_of_heap hb2 1
  obtain ⟨ao, cap, hv'⟩ := row_val hown'
  obtain ⟨ao2, cap2, hv⟩ := row_val HOWN.out
  subst hv'
  subst hv
  clear hb2 hgrow hown' hiff
  go_wp2
  go_ret2
  refine ⟨rfl, ⟨.pointer (some ⟨b, 0, none⟩), .slice ao (l.length + S.size) cap, .inr rfl, ?_, row_set ?_ (by simp) _, ?_⟩, ?_, ((HK1.out.others.grown HGR.out (row_kind HOWN.out)).setCell ⟨b, 1, none⟩ rfl _)⟩
  · have := heap_setCell_same w2 b 1 _ _ (.slice ao (l.length + S.size) cap) HB2.out
    rw [this]; simp
  · have := HO2.out
    rw [HSS.out] at this
    rw [Lib.byteCells_append, List.length_append, ← HSL.out]
    exact this
  · intro hnil
    have h1 := List.append_eq_nil_iff.1 hnil
    refine HIF.out.2 ⟨HNIL.out h1.1, ?_⟩
    first
    | (rw [HSL.out, h1.2]; rfl)
    | (rw [HS0.out, h1.2]; rfl)
  · exact (HK1.out.below.grown HGR.out (by omega) (fun k hk => by have := (HOWN.out.lt k hk).1; omega)).setCell (p := ⟨b, 1, none⟩) (Nat.le_refl _) _
set_option maxHeartbeats 2000000 in
set_option maxRecDepth 100000 in
theorem writeByteW (b : Nat) (l : List UInt8) (y : UInt8) (x : Bool) (w : World) (h : WB b l x w) (hlen : l.length ≤ 100000000) :
    Calls Try.prog 71 #[.pointer (some ⟨b, 0, none⟩), .int .u8 y.toNat] w fun e w' => e = .returned .nilIface ∧ WB b (l ++ [y]) x w' ∧ Bkept b w w' := by
  obtain ⟨i0, hi, hz0, hz1, hz2⟩ := info_parts infoByte
  have HCC := Lib.hid (copyCheckW b l x w h)
  have hlt0 := h.lt
  clear h
  have hbl : (Lib.byteCells l).length ≤ 100000000 := by rw [Lib.byteCells_length]; omega
  obtain ⟨ci, hci⟩ : ∃ ci : Int, ci = (y.toNat : Int) := ⟨_, rfl⟩
  have HCI := Lib.hid hci
  rw [← hci]
  clear hci
  go_enter Try.func71, Try.ntmps71
  go_wp2_with fail
  refine HCC.out.mono ?_
  rintro e w1 ⟨rfl, ⟨v, hbk, hown, hnil⟩, hk1⟩
  have HK1 := Lib.hid hk1
  have HOWN := Lib.hid hown
  have HBK := Lib.hid hbk
  have c0 : w1.cell? ⟨b, 0, none⟩ = some (.pointer (some ⟨b, 0, none⟩)) := Lib.cell_of_heap hbk 0
  have c1 : w1.cell? ⟨b, 1, none⟩ = some v := Lib.cell_of_heap hbk 1
  have hsz := hk1.below.size
  clear hbk hown hnil hk1
  go_wp2_with (at_builtin; refine wpList_append_own _ rfl _ _ 87 rfl (b + 1) 5 i0 (.int .u8 0) 1 1 Try.underlying87 hi hz0 hz1 hz2 rfl (by decide) _ _ _ rfl (HOWN.out.alloc _) ⟨w1.heap.size, 0, none⟩ 1 1 [.int .u8 ci] rfl rfl (one_cells w1 _ _) (by intro u hu; simp at hu; subst hu; rfl) ?c3 ?c4 ?c5 ?_)
  case c3 => unfold maxLen; omega
  case c4 => omega
  case c5 => simp; omega
  intro v' w2 hown' hgrow hiff
  have hne : v.ownBlock ≠ some b := fun e => by have := (HOWN.out.lt b e).1; omega
  have hb2 : w2.heap[b]? = some (.cells #[.pointer (some ⟨b, 0, none⟩), v, .bool x] 98 (0, 0)) := by
    rw [hgrow.block b (by simp; omega) (fun e => hne e.symm)]
    exact ((balloc w1 _).block b (by omega)).trans HBK.out
  have HB2 := Lib.hid hb2
  have HGR := Lib.hid hgrow
  have HO2 := Lib.hid hown'
  have d1 : w2.cell? ⟨b, 1, none⟩ = some v := Lib.cell_of_heap hb2 1
  have f1 : w2.frozen? ⟨b, 1, none⟩ = false := Lib.frozen_of_heap hb2 1
  obtain ⟨ao, cap, hv'⟩ := row_val hown'
  obtain ⟨ao2, cap2, hv⟩ := row_val HOWN.out
  subst hv'
  subst hv
  clear hb2 hgrow hown' hiff
  go_wp2
  go_ret
  refine ⟨rfl, ⟨.pointer (some ⟨b, 0, none⟩), .slice ao (l.length + 1) cap, .inr rfl, ?_, row_set ?_ (by simp) _, fun e => by simp at e⟩, ?_, (((HK1.out.others.alloc _).grown HGR.out (row_kind (HOWN.out.alloc _))).setCell ⟨b, 1, none⟩ rfl _)⟩
  · have := heap_setCell_same w2 b 1 _ _ (.slice ao (l.length + 1) cap) HB2.out
    rw [this]; simp
  · have := HO2.out
    rw [show (l ++ [y]).length = l.length + 1 by simp, show Lib.byteCells (l ++ [y]) = Lib.byteCells l ++ [.int .u8 ci] by rw [Lib.byteCells_append, HCI.out]; rfl]
    exact this
  · exact ((HK1.out.below.alloc (by omega) _).grown HGR.out (by simp; omega) (fun k hk => by have := (HOWN.out.lt k hk).1; omega)).setCell (p := ⟨b, 1, none⟩) (Nat.le_refl _) _
end W
end Go.Proofs.Ytlhijlmbfjlglaa
