/- Chapter 9: skip, whatever delimiters wait. -/
import Derived.Test.YtelhobphphkidaaGreatDoorW09za
import Derived.Test.YtelhobphphkidaaGreatDoorShelfC
import Derived.Deep.QuietTactic
import Derived.BigQuiet
import Derived.IntWalk
namespace Go.Proofs.YtelhobphphkidaaGreatDoor
open Go.RowKit K
namespace W
/-- The library's variable MaxLen holds some integer. -/
def Env9 (w : World) : Prop := ∃ m, w.cell? ⟨0, 0, none⟩ = some (.int .i64 m)
theorem Env9.go {w w' : World} (h : Env9 w) (hb : Below w.heap.size w w') : Env9 w' := by
  obtain ⟨m, hm⟩ := h
  exact ⟨m, cell_go hm hb⟩
theorem Env9.box {g : Nat} {w w' : World} (h : Env9 w) (hb : OneBox g w w') (hg : 0 < g) : Env9 w' := by
  obtain ⟨m, hm⟩ := h
  exact ⟨m, (World.cell?_of_block (hb.2.2.block _ hg)).trans hm⟩
def dls (ls : List (List UInt8 × Bool)) : List Value := ls.flatMap fun d => [.string ⟨d.1.toArray⟩, .bool d.2]
theorem dls_len : ∀ ls : List (List UInt8 × Bool), (dls ls).length = ls.length * 2
  | [] => rfl
  | d :: r => by
    have := dls_len r
    unfold dls at this ⊢
    simp only [List.flatMap_cons, List.length_append, List.length_cons, List.length_nil] at this ⊢
    omega
theorem dls_at : ∀ {ls : List (List UInt8 × Bool)} {k : Nat} {d : List UInt8 × Bool}, ls[k]? = some d → (dls ls)[k * 2]? = some (.string ⟨d.1.toArray⟩) ∧ (dls ls)[k * 2 + 1]? = some (.bool d.2)
  | [], k, d, h => by simp at h
  | e :: r, 0, d, h => by
    simp at h
    subst h
    exact ⟨rfl, rfl⟩
  | e :: r, k + 1, d, h => by
    have := dls_at (ls := r) (k := k) (d := d) (by simpa using h)
    have h2 : dls (e :: r) = [.string ⟨e.1.toArray⟩, .bool e.2] ++ dls r := rfl
    rw [h2, show (k + 1) * 2 = k * 2 + 2 by omega]
    exact ⟨by simpa using this.1, by simpa using this.2⟩
theorem cut_fst (a b : List UInt8) : (Lib.cut a b).1.length ≤ a.length := by
  unfold Lib.cut
  split
  · simp
    omega
  · simp
theorem OneBox.trans {g : Nat} {a b c : World} (h : OneBox g a b) (k : OneBox g b c) : OneBox g a c :=
  ⟨Nat.le_trans h.1 k.1, fun q h1 h2 => (k.2.1 q (Nat.lt_of_lt_of_le h1 h.1) h2).trans (h.2.1 q h1 h2), h.2.2.trans k.2.2⟩
theorem OneBox.of {g : Nat} {a b : World} (hg : g < a.heap.size) (h : Below a.heap.size a b) : OneBox g a b :=
  ⟨h.size, fun q h1 _ => h.block q h1, h.mono (Nat.le_of_lt hg)⟩
def left9 (f : Bool) (n : Nat) : Nat := if f = true then 0 else n + 1
set_option maxRecDepth 100000 in
set_option maxHeartbeats 4000000 in
theorem skip_any (ls : List (List UInt8 × Bool)) (base g : Nat) (s : List UInt8) (at_ : Nat) (va vm vb : Value) (A : Option Addr) (cap : Nat) (c h str : Bool) (w : World) (he : EB w g s at_ va vm vb c h str (.slice A ls.length cap)) (hown : w.ownsRow base 89 2 (.slice A ls.length cap) ls.length (dls ls)) (hA : (Value.slice A ls.length cap).ownBlock ≠ some g) (hE : Env9 w) (hg : 0 < g) (hs : s.length ≤ 100000) (ha : at_ ≤ s.length) (hn : ls.length ≤ 100000) :
    Calls Tryz.prog 57 #[.pointer (some ⟨g, 0, none⟩)] w fun e w' => e = .returned (.tuple #[]) ∧ ∃ a2 : Nat, at_ ≤ a2 ∧ a2 ≤ s.length ∧ EB w' g s a2 va vm vb c h str (.slice none 0 0) ∧ OneBox g w w' := by
  obtain ⟨-, -, -, -, -, -, -, -, x8⟩ := he.cells
  have hgs := he.lt
  have HE := Lib.hid he
  have HO := Lib.hid hown
  have HA := Lib.hid hA
  have HV := Lib.hid hE
  have HS := Lib.hid hs
  have HAT := Lib.hid ha
  have k0 : (0 : Int) ≤ (ls.length : Int) := by omega
  have hg0 := hg
  clear he hown hA hE hs ha hg
  go_enter Tryz.func57, Tryz.ntmps57
  go_wp2
  go_loopw [13] (fun i wr => ∃ k a : Nat, k ≤ ls.length ∧ i = .int .i64 k ∧ Hid (at_ ≤ a ∧ a ≤ s.length) ∧ Hid (EB wr g s a va vm vb c h str (.slice A ls.length cap)) ∧ Hid (OneBox g w wr)) (fun i _ => ls.length - (intOf i).toNat)
  case atStart => exact ⟨0, at_, Nat.zero_le _, rfl, Lib.hid ⟨Nat.le_refl _, HAT.out⟩, HE, Lib.hid (OneBox.refl _ _)⟩
  case round =>
    obtain ⟨k, a, hk, rfl, HAA, HB, HOB⟩ := hrel
    clear HE x8
    by_cases hlt : k < ls.length
    · have hlt2 : ((k : Int) < (ls.length : Int)) = True := eq_true (by omega)
      have hk0 : (0 : Int) ≤ (k : Int) := by omega
      obtain ⟨q, cq, hq, hqc⟩ := row_some HO.out (by omega)
      obtain ⟨d, hd⟩ : ∃ d, ls[k]? = some d := ⟨_, List.getElem?_eq_getElem hlt⟩
      obtain ⟨e0, e1⟩ := dls_at hd
      injection hq with hq _ hq3
      subst hq hq3
      have hqg : q ≠ g := fun e => HA.out (by rw [e]; rfl)
      have hqs : q < w.heap.size := World.block_lt_of_cell? _ _ (hqc _ _ e0)
      have hq2 := HOB.out.2.1 q hqs hqg
      have c0 : wr.cell? ⟨q, k * 2, none⟩ = some (.string ⟨d.1.toArray⟩) := (World.cell?_of_block hq2).trans (hqc _ _ e0)
      have c1 : wr.cell? ⟨q, k * 2 + 1, none⟩ = some (.bool d.2) := (World.cell?_of_block hq2).trans (hqc _ _ e1)
      obtain ⟨d0, d1⟩ := d
      dsimp only at c0 c1
      obtain ⟨qd, hqd⟩ : ∃ qd, qd = wr.heap.size := ⟨_, rfl⟩
      obtain ⟨X, hX⟩ : ∃ X, X = wr.alloc (.cells #[.string ⟨d0.toArray⟩, .bool d1] 89) := ⟨_, rfl⟩
      have hxb : Below wr.heap.size wr X := by rw [hX]; exact balloc _ _
      have HBX := Lib.hid (HB.out.new hxb)
      have HOX := Lib.hid (HOB.out.trans (OneBox.of HB.out.lt hxb))
      have HDX := Lib.hid (show X.heap[qd]? = some (.cells #[.string ⟨d0.toArray⟩, .bool d1] 89 (0, 0)) by rw [hX, hqd]; exact al_new _ _)
      have HQG := Lib.hid (show qd ≠ g by have := HB.out.lt; omega)
      have HX := Lib.hid hX
      have HQD := Lib.hid hqd
      clear hd e0 e1 hqc hqg hqs hq2 hX hxb hqd HB HOB
      go_upto_region 3 with (fail)
      rw [← HX.out, ← HQD.out]
      go_wp2
      go_loopg [4] (left9 false (s.length - a)) (fun m f wi => ∃ (fb : Bool) (a2 : Nat), f = .bool fb ∧ Hid (m = left9 fb (s.length - a2)) ∧ Hid (at_ ≤ a2 ∧ a2 ≤ s.length) ∧ Hid (EB wi g s a2 va vm vb c h str (.slice (some ⟨q, 0, none⟩) ls.length cap)) ∧ Hid (OneBox g w wi) ∧ Hid (wi.heap[qd]? = some (.cells #[.string ⟨d0.toArray⟩, .bool d1] 89 (0, 0))))
      case atStart => exact ⟨false, a, rfl, Lib.hid rfl, HAA, HBX, HOX, HDX⟩
      case round =>
        obtain ⟨fb, a2, rfl, HM, HA2, HB2, HO2, HD2⟩ := hrel
        clear HBX HOX HDX HX HQD
        obtain ⟨x0, x1, -⟩ := HB2.out.cells
        cases fb with
        | true =>
          go_wp2_with fail
          go_quiet (fail)
          go_wp2
          go_roundw
          case measure => simp [intOf]; omega
          case rel => exact ⟨k + 1, a2, hlt, by go_num, HA2, Lib.hid (HB2.out.new (bdN (Below.refl _ _) _)), Lib.hid (HO2.out.trans (OneBox.of HB2.out.lt (bdN (Below.refl _ _) _)))⟩
        | false =>
          by_cases hlt3 : a2 < s.length
          · have hl4 : ((a2 : Int) < (s.length : Int)) = True := eq_true (by omega)
            have hl5 : decide ((a2 : Int) < (s.length : Int)) = true := decide_eq_true (by omega)
            have hl6 : (0 : Int) ≤ (a2 : Int) := by omega
            have hl7 : (a2 : Int) ≤ (s.length : Int) := by omega
            obtain ⟨m0, hm0⟩ := HV.out.box HO2.out hg0
            obtain ⟨ln, hln⟩ : ∃ ln, (Lib.cut (cut s a2 s.length) [10]).1 = ln := ⟨_, rfl⟩
            have hll : ln.length + a2 ≤ s.length := by rw [← hln]; have := cut_fst (cut s a2 s.length) [10]; simp at this ⊢; omega
            have HC := Lib.hid (fun V (hV : V.cell? ⟨0, 0, none⟩ = some (.int .i64 m0)) => show Calls Tryz.prog 92 #[.string ⟨(cut s a2 s.length).toArray⟩, .string ⟨#[10]⟩] V (fun e w' => e = .returned (.tuple #[.string ⟨ln.toArray⟩, .string ⟨(Lib.cut (cut s a2 s.length) [10]).2.1.toArray⟩, .bool (Lib.cut (cut s a2 s.length) [10]).2.2]) ∧ ∃ m, w' = V.drewN m) from by
              have := Tryz.strings_Cut ⟨(cut s a2 s.length).toArray⟩ ⟨#[10]⟩ m0 V (by have := HS.out; simp [ByteArray.size]; omega) hV
              rw [← hln]
              exact this)
            have HM0 := Lib.hid hm0
            have HLL := Lib.hid hll
            clear hm0 hln hll
            generalize (Lib.cut (cut s a2 s.length) [10]).2.1 = rst at HC
            generalize (Lib.cut (cut s a2 s.length) [10]).2.2 = fnd at HC
            go_wp2_with fail
            go_quiet (fail)
            go_wp2_with fail
            obtain ⟨V, hV⟩ : ∃ V, V = wr.drewN nq := ⟨_, rfl⟩
            rw [← hV]
            have hbV : Below wr.heap.size wr V := by rw [hV]; exact bdN (Below.refl _ _) nq
            have HBV := Lib.hid hbV
            have hm1 : V.cell? ⟨0, 0, none⟩ = some (.int .i64 m0) := by rw [hV]; exact HM0.out
            have HM1 := Lib.hid hm1
            obtain ⟨y0, y1, -⟩ := (HB2.out.new hbV).cells
            clear x0 x1 hV hbV hm1 hl4 hl5
            go_quiet ((go_at_call 92; exact Calls.quiet_of (HC.out _ HM1.out)))
            obtain ⟨V1, hV1⟩ : ∃ V1, V1 = V.drewN nq := ⟨_, rfl⟩
            rw [← hV1]
            have hbv : Below wr.heap.size wr V1 := by rw [hV1]; exact bdN HBV.out _
            have HBW := Lib.hid (HB2.out.new hbv)
            have HOW := Lib.hid (HO2.out.trans (OneBox.of HB2.out.lt hbv))
            have HDW := Lib.hid ((hbv.block qd (Array.getElem?_eq_some_iff.1 HD2.out).1).trans HD2.out)
            clear hbv hV1 y0 y1
            obtain ⟨z0, z1, -⟩ := HBW.out.cells
            have zf := HBW.out.thaw 1
            have w1 : IntKind.i64.wrap ((a2 : Int) + (ln.length : Int)) = (a2 : Int) + ln.length := IntWalk.i64_in _ (by have := HLL.out; have := HS.out; omega)
            have w2 : IntKind.i64.wrap ((a2 : Int) + (ln.length : Int) + 1) = (a2 : Int) + ln.length + 1 := IntWalk.i64_in _ (by have := HLL.out; have := HS.out; omega)
            go_wp2_with fail
            go_still_tail 17, (by kernel_rfl)
            change wpList _ _ _ _ _ V1.drew
            go_upto_region 7 with (fail)
            obtain ⟨a3, ha3⟩ : ∃ a3 : Nat, a3 = min (a2 + ln.length + 1) s.length := ⟨_, rfl⟩
            have hmin : min ((a2 : Int) + (ln.length : Int) + 1) (s.length : Int) = (a3 : Int) := by omega
            rw [hmin]
            obtain ⟨U, hU⟩ : ∃ U, U = (V1.setCell ⟨g, 1, none⟩ (.int .i64 (a3 : Int))).drew := ⟨_, rfl⟩
            rw [← hU]
            have HBU := Lib.hid (show EB U g s a3 va vm vb c h str (.slice (some ⟨q, 0, none⟩) ls.length cap) by rw [hU]; exact HBW.out.set1 _)
            have HOU := Lib.hid (show OneBox g w U by
              rw [hU]
              have h1 := HOW.out.set 1 (.int .i64 (a3 : Int))
              exact h1.trans (OneBox.of (by have := HBW.out.lt; simpa using this) (Below.refl _ _).drew))
            have HDU := Lib.hid (show U.heap[qd]? = some (.cells #[.string ⟨d0.toArray⟩, .bool d1] 89 (0, 0)) by rw [hU]; exact (Below.heap_setCell _ _ _ _ (by dsimp only; exact HQG.out)).trans HDW.out)
            have HA3 := Lib.hid (show at_ ≤ a3 ∧ a3 ≤ s.length ∧ a2 < a3 by have := HA2.out; omega)
            clear hU hmin ha3 z0 z1 zf w1 w2
            have u0 := Lib.cell_of_heap HDU.out 0
            have u1 := Lib.cell_of_heap HDU.out 1
            cases d1 with
            | true =>
              have HTL := Lib.hid (show Calls Tryz.prog 93 #[.string ⟨ln.toArray⟩, .string ⟨#[9]⟩] U (fun e w' => e = .returned (.string ⟨(Lib.trimLeftB ln 9).toArray⟩) ∧ w' = U) from Tryz.strings_TrimLeft_one ⟨ln.toArray⟩ 9 (by decide) U)
              obtain ⟨l2, hl2⟩ : ∃ l2, Lib.trimLeftB ln 9 = l2 := ⟨_, rfl⟩
              rw [hl2] at HTL
              obtain ⟨f2, hf2⟩ : ∃ f2, (l2 == d0) = f2 := ⟨_, rfl⟩
              go_wp2_with fail
              refine HTL.out.mono ?_
              rintro e U2 ⟨rfl, rfl⟩
              go_wp2
              go_roundg (left9 f2 (s.length - a3))
              case measure => have e1 := HM.out; have e2 := HA3.out; rw [e1]; unfold left9; cases f2 <;> simp <;> omega
              case rel => exact ⟨f2, a3, rfl, Lib.hid rfl, Lib.hid ⟨HA3.out.1, HA3.out.2.1⟩, HBU, HOU, HDU⟩
            | false =>
              obtain ⟨f2, hf2⟩ : ∃ f2, (ln == d0) = f2 := ⟨_, rfl⟩
              go_wp2
              go_roundg (left9 f2 (s.length - a3))
              case measure => have e1 := HM.out; have e2 := HA3.out; rw [e1]; unfold left9; cases f2 <;> simp <;> omega
              case rel => exact ⟨f2, a3, rfl, Lib.hid rfl, Lib.hid ⟨HA3.out.1, HA3.out.2.1⟩, HBU, HOU, HDU⟩
          · have hl4 : ((a2 : Int) < (s.length : Int)) = False := eq_false (by omega)
            have hl5 : decide ((a2 : Int) < (s.length : Int)) = false := decide_eq_false (by omega)
            go_wp2_with fail
            go_quiet (fail)
            go_wp2
            go_roundw
            case measure => simp [intOf]; omega
            case rel => exact ⟨k + 1, a2, hlt, by go_num, HA2, Lib.hid (HB2.out.new (bdN (Below.refl _ _) _)), Lib.hid (HO2.out.trans (OneBox.of HB2.out.lt (bdN (Below.refl _ _) _)))⟩
    · have hlt2 : ((k : Int) < (ls.length : Int)) = False := eq_false (by omega)
      have f8 := HB.out.thaw 8
      obtain ⟨-, -, -, -, -, -, -, -, y8⟩ := HB.out.cells
      have HF := Lib.hid (show ∃ a2 : Nat, at_ ≤ a2 ∧ a2 ≤ s.length ∧ EB (wr.setCell ⟨g, 8, none⟩ (.slice none 0 0)) g s a2 va vm vb c h str (.slice none 0 0) ∧ OneBox g w (wr.setCell ⟨g, 8, none⟩ (.slice none 0 0)) from ⟨a, HAA.out.1, HAA.out.2, HB.out.set8 _, HOB.out.set _ _⟩)
      go_wp2
      first | go_end0 | refine bodyPost_ret (results_none rfl _ _ _) rfl ?_
      exact ⟨rfl, HF.out⟩
end W
end Go.Proofs.YtelhobphphkidaaGreatDoor
