/- Chapter 29: lists of files; Find. -/
import Derived.Test.YtmccfdmnidbalaaGreatDoorW29e
namespace Go.Proofs.YtmccfdmnidbalaaGreatDoor
open Go.RowKit K
namespace K
abbrev Fi := List UInt8 × Bool × List UInt8
def fz : Fi := ([], false, [])
/-- The slice's address A leads to the files fs, three cells each. -/
def FL (w : World) (A : Option Addr) (fs : List Fi) : Prop :=
  ∀ i, i < fs.length → ∃ b off, A = some ⟨b, off, none⟩ ∧ b < w.heap.size ∧ w.cell? ⟨b, off + i * 3, none⟩ = some (.string ⟨(fs.getD i fz).1.toArray⟩) ∧ w.cell? ⟨b, off + i * 3 + 1, none⟩ = some (.bool (fs.getD i fz).2.1) ∧ w.cell? ⟨b, off + i * 3 + 2, none⟩ = some (.string ⟨(fs.getD i fz).2.2.toArray⟩)
theorem FL.below {w w' : World} {A : Option Addr} {fs : List Fi} (h : FL w A fs) (hb : Below w.heap.size w w') : FL w' A fs := fun i hi => by
  obtain ⟨b, off, e, hlt, h0, h1, h2⟩ := h i hi
  exact ⟨b, off, e, Nat.lt_of_lt_of_le hlt hb.size, (hb.cell (p := ⟨b, off + i * 3, none⟩) hlt).trans h0, (hb.cell (p := ⟨b, off + i * 3 + 1, none⟩) hlt).trans h1, (hb.cell (p := ⟨b, off + i * 3 + 2, none⟩) hlt).trans h2⟩
def FV (w : World) (v : Value) (fs : List Fi) : Prop := ∃ A c, v = .slice A fs.length c ∧ fs.length ≤ c ∧ c ≤ 9223372036854775807 ∧ FL w A fs
theorem FV.below {w w' : World} {v : Value} {fs : List Fi} (h : FV w v fs) (hb : Below w.heap.size w w') : FV w' v fs := by
  obtain ⟨A, c, h1, h2, h3, h4⟩ := h
  exact ⟨A, c, h1, h2, h3, h4.below hb⟩
theorem box3_cells {w : World} {g : Nat} {a b c : Value} {t : TypeId} (h : w.heap[g]? = some (.cells #[a, b, c] t (0, 0))) :
    w.cell? ⟨g, 0, none⟩ = some a ∧ w.cell? ⟨g, 1, none⟩ = some b ∧ w.cell? ⟨g, 2, none⟩ = some c ∧ w.frozen? ⟨g, 0, none⟩ = false ∧ w.frozen? ⟨g, 1, none⟩ = false ∧ w.frozen? ⟨g, 2, none⟩ = false := by
  refine ⟨Lib.cell_of_heap h 0, Lib.cell_of_heap h 1, Lib.cell_of_heap h 2, ?_, ?_, ?_⟩ <;> simp [World.frozen?, h]
/-- A struct of three cells stored into its box, then something allocated. -/
theorem box3_stored {w : World} {g : Nat} {a b c : Value} {t : TypeId} (h : w.heap[g]? = some (.cells #[a, b, c] t (0, 0))) (x y z : Value) (o : Obj) (B : Nat) (hB : B ≤ g) :
    ∃ W : World, W = (((w.setCell ⟨g, 0, none⟩ x).setCell ⟨g, 1, none⟩ y).setCell ⟨g, 2, none⟩ z).alloc o ∧ W.cell? ⟨g, 0, none⟩ = some x ∧ W.cell? ⟨g, 1, none⟩ = some y ∧ W.cell? ⟨g, 2, none⟩ = some z ∧ Below B w W := by
  have hlt := (Array.getElem?_eq_some_iff.1 h).1
  have h1 := heap_setCell_same w g 0 _ t x h
  have h2 := heap_setCell_same _ g 1 _ t y h1
  have h3 := heap_setCell_same _ g 2 _ t z h2
  have h4 : ((((w.setCell ⟨g, 0, none⟩ x).setCell ⟨g, 1, none⟩ y).setCell ⟨g, 2, none⟩ z).alloc o).heap[g]? = some (.cells #[x, y, z] t (0, 0)) := by
    refine (Below.heap_alloc _ o g (by simpa [World.setCell] using hlt)).trans ?_
    rw [h3]; simp
  obtain ⟨c0, c1, c2, -⟩ := box3_cells h4
  exact ⟨_, rfl, c0, c1, c2, ((((Below.refl B w).setCell hB _).setCell hB _).setCell hB _).alloc (by simp [World.setCell]; omega) _⟩
end K
namespace P
def findF : List Fi → List UInt8 → Option Fi
  | [], _ => none
  | f :: r, p => if f.1 = p then some f else findF r p
def findAt (fs : List Fi) (p : List UInt8) (k : Nat) : Option Fi := findF (fs.drop k) p
theorem findAt_hit {fs : List Fi} {p : List UInt8} {k : Nat} {f : Fi} (h : k < fs.length) (hf : fs.getD k fz = f) (he : f.1 = p) : findAt fs p k = some f := by
  unfold findAt
  rw [List.drop_eq_getElem_cons h]
  rw [List.getD_eq_getElem?_getD, List.getElem?_eq_getElem h] at hf
  simp only [Option.getD_some] at hf
  rw [hf, findF, if_pos he]
theorem findAt_miss {fs : List Fi} {p : List UInt8} {k : Nat} {f : Fi} (h : k < fs.length) (hf : fs.getD k fz = f) (he : ¬ f.1 = p) : findAt fs p k = findAt fs p (k + 1) := by
  unfold findAt
  rw [List.drop_eq_getElem_cons h]
  rw [List.getD_eq_getElem?_getD, List.getElem?_eq_getElem h] at hf
  simp only [Option.getD_some] at hf
  rw [hf, findF, if_neg he]
def tup (o : Option Fi) : Fi := o.getD fz
end P
namespace W
set_option maxHeartbeats 1000000 in
theorem Find_any (v : Value) (fs : List Fi) (p : List UInt8) (w : World) (hV : FV w v fs) (hn : fs.length ≤ 1000000) :
    Calls Tryz.prog 41 #[v, .string ⟨p.toArray⟩] w fun e w' => e = .returned (.tuple #[.agg #[.string ⟨(P.tup (P.findF fs p)).1.toArray⟩, .bool (P.tup (P.findF fs p)).2.1, .string ⟨(P.tup (P.findF fs p)).2.2.toArray⟩], .bool (P.findF fs p).isSome]) ∧ Below w.heap.size w w' := by
  obtain ⟨A, c, rfl, hc1, hc2, hF⟩ := hV
  have HF := Lib.hid hF
  obtain ⟨R, hR⟩ : ∃ R, P.findF fs p = R := ⟨_, rfl⟩
  rw [hR]
  have HR := Lib.hid (show P.findAt fs p 0 = R from hR)
  clear hR hF
  obtain ⟨x, hx⟩ : ∃ x, x = w.alloc (.cells #[.string ⟨#[]⟩, .bool false, .string ⟨#[]⟩] 35) := ⟨_, rfl⟩
  have HX := Lib.hid hx
  have HBx := Lib.hid (show Below w.heap.size w x by rw [hx]; exact balloc _ _)
  have HXH := Lib.hid (show x.heap[w.heap.size]? = some (.cells #[.string ⟨#[]⟩, .bool false, .string ⟨#[]⟩] 35 (0, 0)) by rw [hx]; exact heap_alloc_new w _)
  have hxl : w.heap.size < x.heap.size := by rw [hx]; simp
  clear hx
  go_enter Tryz.func41, Tryz.ntmps41
  go_wp2
  rw [← HX.out]
  clear HX
  go_loopw [10] (fun i wr => ∃ k : Nat, k ≤ fs.length ∧ i = .int .i64 k ∧ Below x.heap.size x wr ∧ Hid (P.findAt fs p k = R)) (fun i _ => fs.length - (intOf i).toNat)
  case atStart => exact ⟨0, by omega, rfl, Below.refl _ _, HR.out⟩
  case round =>
    obtain ⟨k, hk, rfl, hbw, HK⟩ := hrel
    have HBw := Lib.hid hbw
    obtain ⟨f0, f1, f2, z0, z1, z2⟩ := box3_cells ((hbw.block w.heap.size hxl).trans HXH.out)
    have hlt0 : w.heap.size < wr.heap.size := Nat.lt_of_lt_of_le hxl hbw.size
    by_cases hlt : k < fs.length
    · obtain ⟨b, off, rfl, hb, c0, c1, c2⟩ := (HF.out.below (btr HBx.out hbw)) k hlt
      obtain ⟨⟨q, d, cc⟩, hf⟩ : ∃ f, fs.getD k fz = f := ⟨_, rfl⟩
      have HHIT := Lib.hid (fun he => P.findAt_hit (p := p) hlt hf he)
      have HMISS := Lib.hid (fun he => P.findAt_miss (p := p) hlt hf he)
      rw [hf] at c0 c1 c2
      simp only at c0 c1 c2
      have k0 : (0 : Int) ≤ (k : Int) := by omega
      have k1 : (k : Int) < (fs.length : Int) := by omega
      have hne : ¬ w.heap.size = wr.heap.size := by omega
      clear hf hbw
      by_cases hq : q = p
      · have e1 : (q == p) = true := by simp [hq]
        have HG := Lib.hid (show R = some (q, d, cc) by rw [← HK.out]; exact HHIT.out hq)
        clear hq
        go_wp2
        obtain ⟨Y, hY, y0, y1, y2, hbY⟩ := box3_stored ((HBw.out.block w.heap.size hxl).trans HXH.out) (.string ⟨q.toArray⟩) (.bool d) (.string ⟨cc.toArray⟩) (.cells #[.string ⟨q.toArray⟩, .bool d, .string ⟨cc.toArray⟩] 35) w.heap.size (Nat.le_refl _)
        rw [← hY]
        refine bodyPost_ret (v := .tuple #[.agg #[.string ⟨q.toArray⟩, .bool d, .string ⟨cc.toArray⟩], .bool true]) (by simp [results, Tryz.results41, go_sem, y0, y1, y2]) rfl ⟨by rw [HG.out]; rfl, ?_⟩
        exact (btr HBx.out HBw.out).trans hbY
      · have e1 : (q == p) = false := by simp [hq]
        have HG := Lib.hid (show P.findAt fs p (k + 1) = R by rw [← HK.out]; exact (HMISS.out hq).symm)
        clear hq
        go_wp2
        go_roundw
        case rel => exact ⟨k + 1, by omega, by go_num, HBw.out.alloc HBw.out.size _, HG.out⟩
        case measure => simp [intOf]; omega
    · have HG := Lib.hid (show R = none by rw [← HK.out]; unfold P.findAt; rw [List.drop_eq_nil_of_le (by omega)]; rfl)
      clear hbw
      go_wp2
      refine bodyPost_ret (v := .tuple #[.agg #[.string ⟨#[]⟩, .bool false, .string ⟨#[]⟩], .bool false]) (by simp [results, Tryz.results41, go_sem, f0, f1, f2]) rfl ⟨by rw [HG.out]; rfl, ?_⟩
      exact (((btr HBx.out HBw.out).setCell (by simp) _).setCell (by simp) _).setCell (by simp) _
end W
end Go.Proofs.YtmccfdmnidbalaaGreatDoor
