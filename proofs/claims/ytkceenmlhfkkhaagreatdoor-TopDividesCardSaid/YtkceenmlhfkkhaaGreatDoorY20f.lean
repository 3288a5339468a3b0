/- Several texts in one: W20f W20g W20h. -/
import Derived.Test.YtkceenmlhfkkhaaGreatDoorW20e
namespace Go.Proofs.YtkceenmlhfkkhaaGreatDoor
open Go.RowKit K
namespace W
set_option maxRecDepth 100000
theorem isPath_root (w : World) : Calls Tryz.prog 98 #[.string ⟨#[47]⟩] w fun e w' => e = .returned (.bool true) ∧ w' = w := by
  go_enter Tryz.func98, Tryz.ntmps98
  go_wp2
  go_ret
  exact ⟨rfl, rfl⟩
set_option maxHeartbeats 2000000 in
theorem Clean_root (w : World) (hw : Env w) : Calls Tryz.prog 57 #[.string ⟨#[47]⟩, .string ⟨#[47]⟩] w fun e w' => e = .returned (.tuple #[.string ⟨#[47]⟩, .int .i64 0]) ∧ Below w.heap.size w w' := by
  obtain ⟨m, hm⟩ := hw
  have HS := Lib.hid (Tryz.strings_Split ⟨#[47]⟩ ⟨#[47]⟩ m w (by decide) hm (by decide))
  have hc : Lib.countB ⟨#[47]⟩ ⟨#[47]⟩ = 1 := by kernel_rfl
  have hs : (Lib.splitB ⟨#[47]⟩ 0 1 ⟨#[47]⟩).map Value.string = [.string ⟨#[]⟩, .string ⟨#[]⟩] := by kernel_rfl
  obtain ⟨X, hX⟩ : ∃ X, X = w.alloc (.cells #[.string ⟨#[]⟩, .string ⟨#[]⟩] 9) := ⟨_, rfl⟩
  have HX := Lib.hid hX
  have HBX := Lib.hid (show Below w.heap.size w X by rw [hX]; exact balloc _ _)
  have hxp : X.heap[w.heap.size]? = some (.cells #[.string ⟨#[]⟩, .string ⟨#[]⟩] 9 (0, 0)) := by rw [hX]; exact al_new w _
  have x0 : X.cell? ⟨w.heap.size, 0, none⟩ = some (.string ⟨#[]⟩) := Lib.cell_of_heap hxp 0
  have x1 : X.cell? ⟨w.heap.size, 1, none⟩ = some (.string ⟨#[]⟩) := Lib.cell_of_heap hxp 1
  have hxl := (Array.getElem?_eq_some_iff.1 hxp).1
  have HJ := Lib.hid (fun Y => Tryz.strings_Join_none none 0 ⟨#[47]⟩ Y)
  have HP := Lib.hid (isPath_root w)
  clear hX hxp hm
  go_enter Tryz.func57, Tryz.ntmps57
  go_wp2_with fail
  refine HP.out.mono ?_
  rintro e Y ⟨rfl, hwy⟩
  obtain rfl : w = Y := hwy.symm
  go_wp2_with fail
  refine HS.out.mono ?_
  rintro e Y ⟨rfl, hy⟩
  rw [hc]
  have hy2 : X = Y := by rw [hy, HX.out, hc, hs]
  subst hy2
  clear hy hc hs
  go_wp2
  go_loopw [6, 30] (fun o i wr => ∃ k : Nat, k ≤ 2 ∧ i = .int .i64 k ∧ o = .slice none 0 0 ∧ wr = X) (fun _ i _ => 2 - (intOf i).toNat)
  case atStart => exact ⟨0, by omega, rfl, rfl, rfl⟩
  case round =>
    obtain ⟨k, hk, rfl, rfl, rfl⟩ := hrel
    have hk3 : k = 0 ∨ k = 1 ∨ k = 2 := by omega
    clear hk
    rcases hk3 with rfl | rfl | rfl
    case inl =>
      go_wp2
      go_roundw
      case rel => exact ⟨1, by omega, by go_num, rfl, by trivial⟩
      case measure => simp [intOf]
    case inr.inl =>
      go_wp2
      go_roundw
      case rel => exact ⟨2, by omega, by go_num, rfl, by trivial⟩
      case measure => simp [intOf]
    case inr.inr =>
      go_wp2_with fail
      refine (HJ.out _).mono ?_
      rintro e Y ⟨rfl, hwy⟩
      have HBY := Lib.hid (show Below w.heap.size w Y by rw [hwy]; exact HBX.out)
      clear hwy
      go_wp2
      go_ret2
      exact ⟨rfl, HBY.out⟩
/-- Join over an own row of names. -/
theorem Join_slash (v : Value) (ns : List (List UInt8)) (base : Nat) (w : World) (ho : OR 1 es 9 base w v ns) (hn : ns.length ≤ 3000000) (hj : (Lib.join ns [47]).length ≤ 3000000) :
    Calls Tryz.prog 61 #[v, .string ⟨#[47]⟩] w fun e w' => e = .returned (.string ⟨(Lib.join ns [47]).toArray⟩) ∧ Below w.heap.size w w' := by
  unfold OR at ho
  rcases own_casesN ho with ⟨rfl, h1⟩ | ⟨g, cap, rfl, hcap, -, hg⟩
  · rw [List.eq_nil_of_length_eq_zero h1]
    exact (Tryz.strings_Join_none none 0 ⟨#[47]⟩ w).mono fun e w' ⟨h1, h2⟩ => ⟨h1, by rw [h2]; exact Below.refl _ _⟩
  · have hm : (ns.map fun s => (⟨s.toArray⟩ : ByteArray)).map (·.data.toList) = ns := by simp [Function.comp_def]
    have := Tryz.strings_Join g 0 cap (ns.map fun s => (⟨s.toArray⟩ : ByteArray)) ⟨#[47]⟩ w (fun j x hx => ?_) hg (by simp; omega) (by simpa using hcap) (by rw [hm]; show (Lib.join ns [47]).length ≤ _; omega)
    · rw [hm, List.length_map] at this
      exact this
    · obtain ⟨s, hs, rfl⟩ : ∃ s, ns[j]? = some s ∧ (⟨s.toArray⟩ : ByteArray) = x := by
        rw [List.getElem?_map] at hx
        cases h : ns[j]? with
        | none => rw [h] at hx; cases hx
        | some s => rw [h] at hx; simp at hx; exact ⟨s, rfl, hx⟩
      have hc := ho.cells (g := g) rfl j (.string ⟨s.toArray⟩) (by
        have := flat_at es_len hs 0 _ rfl
        simpa using this)
      rw [Nat.zero_add]
      rw [show (⟨g, 0, none⟩ : Addr).add j = ⟨g, j, none⟩ by unfold Addr.add; split <;> simp_all] at hc
      exact hc
end W
end Go.Proofs.YtkceenmlhfkkhaaGreatDoor
namespace Go.Proofs.YtkceenmlhfkkhaaGreatDoor
open Go.RowKit Go.Shelf K
attribute [local go_sem] Oper.semAt_some
namespace W
set_option maxRecDepth 100000
theorem infoComp : (Tryz.prog.info? 134).map (fun i => (i.zero, i.size, i.bytes)) = some (some (.agg #[.string ⟨#[]⟩, .slice none 0 0, .bool false]), 3, 48) := by kernel_rfl
/-- The state of the loop over the pieces: the search's box, the flag, and the two rows. -/
structure PSx (w : World) (n0 sb lb mb : Nat) (fv : Value) (xs : List (Value × List SP.Run)) (W : World) (pv nv : Value) (xp : List Value) : Prop where
  bel : Below w.heap.size w W
  s : W.heap[sb]? = some (.cells #[fv, pv, nv, .slice none 0 0, .map (some mb)] 127 (0, 0))
  l : W.heap[lb]? = some (.cells #[.bool true] 4 (0, 0))
  p : W.ownsRow n0 134 3 pv xs.length xp
  n : OR 1 es 9 n0 W nv (names xs)
  z : n0 ≤ W.heap.size
def PS (w : World) (n0 sb lb mb : Nat) (fv : Value) (xs : List (Value × List SP.Run)) (W : World) : Prop := ∃ pv nv xp, PSx w n0 sb lb mb fv xs W pv nv xp
theorem names_len (xs : List (Value × List SP.Run)) : (names xs).length = xs.length := List.length_map _
/-- A row of cells abides that something else turns. -/
theorem row_kept {A B : World} {n0 : Nat} {T : TypeId} {m : Nat} {v : Value} {n : Nat} {xs : List Value} (h : A.ownsRow n0 T m v n xs) (hk : ∀ (k : Nat) (cs : Array Value) (f : Nat × Nat), A.heap[k]? = some (.cells cs T f) → B.heap[k]? = some (.cells cs T f)) : B.ownsRow n0 T m v n xs := by
  refine ⟨h.1, ?_⟩
  rcases h.2 with h1 | ⟨g, cap, cur, h1, h2, h3, h4⟩
  · exact .inl h1
  · exact .inr ⟨g, cap, cur, h1, h2, hk _ _ _ h3, h4⟩
theorem put_other {W : World} {l k : Nat} {o o' : Obj} {cs : Array Value} {T : TypeId} {f : Nat × Nat} (hl : W.heap[l]? = some o) (ho : o.isCells = false) (hk : W.heap[k]? = some (.cells cs T f)) : (W.putObj l o').heap[k]? = some (.cells cs T f) := by
  have hne : k ≠ l := by
    intro e
    subst e
    rw [hk] at hl
    injection hl with hl
    subst hl
    cases ho
  exact (World.putObj_heap_other hne).trans hk
theorem PS.steady {w : World} {n0 sb lb mb : Nat} {fv : Value} (B : Nat) (hB : w.heap.size ≤ B) (xs : List (Value × List SP.Run)) : Steady B (PS w n0 sb lb mb fv xs) := by
  rintro W l o o' hl ho hc ⟨pv, nv, xp, h⟩
  exact ⟨pv, nv, xp, belowK_t h.bel (belowK_b' hl hB ho), put_other ho hc h.s, put_other ho hc h.l, row_kept h.p fun _ _ _ hk => put_other ho hc hk, row_kept h.n fun _ _ _ hk => put_other ho hc hk, by simp [World.putObj]; exact h.z⟩
where
  belowK_b' {w W : World} {B l : Nat} {o o' : Obj} (hl : B ≤ l) (hB : w.heap.size ≤ B) (ho : W.heap[l]? = some o) : Below w.heap.size W (W.putObj l o') :=
    (Below.refl w.heap.size W).grown (grownBy_putObj' W l o') (by have := (Array.getElem?_eq_some_iff.1 ho).1; omega) (fun k e => by cases e; omega)
theorem PRel.steady (B : Nat) (x : Value × List SP.Run) : Steady B (PRel x) := by
  rintro W l o o' hl ho hc ⟨h1, h2, h3, h4⟩
  refine ⟨?_, h2, h3, h4⟩
  obtain ⟨A, cap, e1, e2', e3⟩ := h1
  refine ⟨A, cap, e1, e2', ?_⟩
  rcases e3 with e3 | ⟨b, off, e4, e5, e6⟩
  · exact .inl e3
  · refine .inr ⟨b, off, e4, by show b < (W.putObj l o').heap.size; simp [World.putObj]; exact e5, fun i y hi j u hj => ?_⟩
    have := e6 i y hi j u hj
    rw [World.cell?_of_block (w' := W.putObj l o') (w := W)]
    · exact this
    · show (W.putObj l o').heap[b]? = W.heap[b]?
      by_cases hb : b = l
      · subst hb
        exfalso
        unfold World.cell? at this
        rw [ho] at this
        cases o with
        | cells => cases hc
        | _ => simp at this
      · exact World.putObj_heap_other hb
theorem PKp.steady (n0 sb lb B : Nat) (hB : n0 ≤ B) (V : World) : Steady B (PKp n0 sb lb V) := by
  rintro W l o o' hl ho hc ⟨h1, h2, h3⟩
  refine ⟨by simp [World.putObj]; exact h1, fun k a1 a2 a3 => (World.putObj_heap_other (by omega)).trans (h2 k a1 a2 a3), fun k cs f hk => put_other ho hc (h3 k cs f hk)⟩
theorem PS.it {w : World} {n0 sb lb mb : Nat} {fv : Value} {xs : List (Value × List SP.Run)} {A B : World} (hn : w.heap.size ≤ n0) (h : PS w n0 sb lb mb fv xs A) (hi : PIt n0 A B) : PS w n0 sb lb mb fv xs B := by
  obtain ⟨pv, nv, xp, h⟩ := h
  exact ⟨pv, nv, xp, h.bel.trans (hi.1.mono hn), hi.2.2 _ _ h.s (fun cs f e => by injection e with _ e _; exact absurd e (by decide)), hi.2.2 _ _ h.l (fun cs f e => by injection e with _ e _; exact absurd e (by decide)),
    row_kept h.p fun k cs f hk => hi.2.2 _ _ hk (fun cs f e => by injection e with _ e _; exact absurd e (by decide)), row_kept h.n fun k cs f hk => hi.2.2 _ _ hk (fun cs f e => by injection e with _ e _; exact absurd e (by decide)), Nat.le_trans h.z hi.2.1⟩
end W
end Go.Proofs.YtkceenmlhfkkhaaGreatDoor
namespace Go.Proofs.YtkceenmlhfkkhaaGreatDoor
open Go.RowKit Go.Shelf K
attribute [local go_sem] Oper.semAt_some
namespace W
set_option maxRecDepth 100000
theorem pieces_any (A : Option Addr) (n cap : Nat) (w : World) : Calls Tryz.prog 58 #[.slice A n cap] w fun e w' => e = .returned (.func (.func 101) #[] #[.pointer (some ⟨w.heap.size, 0, none⟩)]) ∧ w' = w.alloc (.cells #[.slice A n cap] 86) := by
  have hmf : ∀ (fn : Fn) (first cap : Array Value) (w : World), (Instr.makeFunc fn first cap).run Tryz.prog w = .ok (.func fn first cap) w := fun _ _ _ _ => rfl
  go_enter Tryz.func58, Tryz.ntmps58
  go_wp2
  go_ret
  exact ⟨rfl, rfl⟩
theorem cells3 (w : World) (q : Nat) (hq : q = w.heap.size) (a b c : Value) (T : TypeId) : ∀ (j : Nat) (u : Value), [a, b, c][j]? = some u → (w.alloc (.cells #[a, b, c] T)).cell? ((⟨q, 0, none⟩ : Addr).add j) = some u := by
  subst hq
  intro j u hj
  match j, hj with
  | 0, hj => simp at hj; subst hj; simp [Addr.add]
  | 1, hj => simp at hj; subst hj; simp [Addr.add]
  | 2, hj => simp at hj; subst hj; simp [Addr.add]
  | n + 3, hj => simp at hj
theorem cells1 (w : World) (q : Nat) (hq : q = w.heap.size) (a : Value) (T : TypeId) : ∀ (j : Nat) (u : Value), [a][j]? = some u → (w.alloc (.cells #[a] T)).cell? ((⟨q, 0, none⟩ : Addr).add j) = some u := by
  subst hq
  intro j u hj
  match j, hj with
  | 0, hj => simp at hj; subst hj; simp [Addr.add]
  | n + 1, hj => simp at hj
theorem PKp.refl_ (n0 sb lb : Nat) (V : World) : PKp n0 sb lb V V := ⟨Nat.le_refl _, fun _ _ _ _ => rfl, fun _ _ _ h => h⟩
theorem PKp.trans_ (n0 sb lb : Nat) (U V W : World) (h : PKp n0 sb lb U V) (k : PKp n0 sb lb V W) : PKp n0 sb lb U W :=
  ⟨Nat.le_trans h.1 k.1, fun q a b c => (k.2.1 q a b c).trans (h.2.1 q a b c), fun q cs f hq => k.2.2 q cs f (h.2.2 q cs f hq)⟩
set_option maxHeartbeats 8000000 in
theorem Expand_lit (FA : Option Addr) (fn fc : Nat) (v : Value) (rs : List SP.Run) (w : World) (hv : R2 w v rs) (hw : Env w) (hok : SP.okr rs) (hrl : rs.length ≤ 100000) (htl : (SP.text rs).length ≤ 100000) (hne : rs ≠ []) (hg0 : 0 < w.heap.size) :
    Calls Tryz.prog 40 #[.slice FA fn fc, .string ⟨#[47]⟩, v] w fun e w' => ∃ q, e = .returned (.tuple #[.slice (some ⟨q, 0, none⟩) 1 1, .int .i64 0]) ∧ w'.cell? ⟨q, 0, none⟩ = some (.string ⟨(SP.text rs).toArray⟩) ∧ Below w.heap.size w w' := by
  obtain ⟨T, hT⟩ : ∃ T, SP.text rs = T := ⟨_, rfl⟩
  rw [hT] at htl ⊢
  have HCL := Lib.hid (Clean_root w hw)
  have HVV := Lib.hid hv
  have HEN := Lib.hid hw
  have HT := Lib.hid hT
  have HTL := Lib.hid htl
  have HRL := Lib.hid hrl
  have HOK := Lib.hid hok
  have HG0 := Lib.hid hg0
  obtain ⟨bb, off, cap, hvv, hcap, hbb, hr⟩ := R2.at_ hv hne
  have HR := Lib.hid hr
  subst hvv
  have HPC := Lib.hid (fun Y => pieces_any (some ⟨bb, off, none⟩) rs.length cap Y)
  have hmm : ∀ w : World, (Instr.makeMap 124 none).run Tryz.prog w = .ok (.map (some w.heap.size)) (w.alloc (.map #[] 0)) := fun _ => rfl
  clear hv hw hT htl hrl hok hr hg0
  refine (callsIn_wide (n := 3)).1 ?_
  refine callsIn_of_wp_marks Tryz.func40 rfl trivial ?_ rfl
  simp only [Tryz.ntmps40, List.size_toArray, List.length_cons, List.length_nil, Nat.reduceAdd, Nat.reduceSub, Array.replicate_succ, Array.replicate_zero, List.push_toArray, List.append_toArray, List.nil_append, List.cons_append]
  gi_wp2_with (first
    | (gi_at_call 57; refine (callsIn_wide.2 HCL.out).mono ?_; rintro e Y0 ⟨rfl, hY0⟩)
    | (refine ⟨trivial, ?_⟩; gi_at_call 57; refine (callsIn_wide.2 HCL.out).mono ?_; rintro e Y0 ⟨rfl, hY0⟩)
    | (gi_at_call 58; refine (callsIn_wide.2 (HPC.out _)).mono ?_; rintro e Y ⟨rfl, hY⟩)
    | (refine ⟨trivial, ?_⟩; gi_at_call 58; refine (callsIn_wide.2 (HPC.out _)).mono ?_; rintro e Y ⟨rfl, hY⟩))
  obtain ⟨m0, hm0⟩ : ∃ m0, m0 = Y0.heap.size := ⟨_, rfl⟩
  have hYb : Below Y0.heap.size Y0 Y := by
    rw [hY]
    exact btr (btr (btr (balloc _ _) (balloc _ _)) (balloc _ _)) (balloc _ _)
  have hys : Y.heap.size = m0 + 4 := by rw [hY, hm0]; simp
  have hs1 : Y.heap[m0 + 1]? = some (.cells #[.slice FA fn fc, .slice none 0 0, .slice none 0 0, .slice none 0 0, .map (some m0)] 127 (0, 0)) := by
    rw [hY, hm0]
    exact (Below.heap_alloc _ _ _ (by simp)).trans ((Below.heap_alloc _ _ _ (by simp)).trans (al_new' _ _ _ (by simp)))
  have hl1 : Y.heap[m0 + 2]? = some (.cells #[.bool true] 4 (0, 0)) := by
    rw [hY, hm0]
    exact (Below.heap_alloc _ _ _ (by simp)).trans (al_new' _ _ _ (by simp))
  have hb1 : Y.heap[m0 + 3]? = some (.cells #[.slice (some ⟨bb, off, none⟩) rs.length cap] 86 (0, 0)) := by
    rw [hY, hm0]
    exact al_new' _ _ _ (by simp)
  have hwy : w.heap.size ≤ m0 := by rw [hm0]; exact hY0.size
  have HWY := Lib.hid (hY0.trans (hYb.mono hY0.size))
  have HB1 := Lib.hid hb1
  have HS1 := Lib.hid hs1
  have HL1 := Lib.hid hl1
  have HYS := Lib.hid hys
  have HPS := Lib.hid (show ∀ W, Below Y.heap.size Y W → PS w Y.heap.size (m0 + 1) (m0 + 2) m0 (.slice FA fn fc) [] W from fun W hW => ⟨_, _, [], HWY.out.trans (hW.mono HWY.out.size), (hW.block _ (by omega)).trans hs1, (hW.block _ (by omega)).trans hl1, World.ownsRow_nil _ _ _ _, OR.nil _ _ _, hW.size⟩)
  rw [← hY]
  clear hs1 hl1 hb1 hYb hY
  refine range_rel rfl (by omega) (gf := 101) rfl trivial (enters_of Tryz.func101 (by kernel_rfl) rfl) (fun x : Value × List SP.Run => #[x.1]) (fun _ => rfl) PRel (PS w Y.heap.size (m0 + 1) (m0 + 2) m0 (.slice FA fn fc)) (PIt Y.heap.size) (PKp Y.heap.size (m0 + 1) (m0 + 2)) (fun xs => Lib.join (names xs) [47] = T ∧ xs ≠ []) 100001
    (fun A B h k o ho hc => h.2.2 k o ho (fun cs f e => by subst e; cases hc)) (fun pre A B hI hi => PS.it (by omega) hI hi) (fun pre => PS.steady _ (by omega) pre) (PRel.steady _) (PKp.steady _ _ _ _ (Nat.le_refl _)) (PKp.refl_ _ _ _) (PKp.trans_ _ _ _)
    (fun r => HPS.out _ (btr (balloc _ _) (balloc _ _))) ?seq ?a1 ?assign ?body ?done
  case assign =>
    intro l x W K hK
    gi_wp2
    exact hK
  case seq =>
    rintro l J W ⟨r, rfl⟩ hJ hYY h0
    have hbw := btr (balloc Y (.deferred (some []))) (balloc (Y.alloc (.deferred (some []))) (.loop r))
    have hw2 := HWY.out.trans (hbw.mono HWY.out.size)
    obtain ⟨m, hm⟩ := HEN.out
    exact pieces1_in 2 (by omega) l _ Y.heap.size (m0 + 1) (m0 + 2) 0 rs bb off cap T HT.out HTL.out HRL.out HOK.out J rfl (fun _ => ⟨by omega, by omega, by omega⟩) ⟨by rw [hys, hm0]; omega, by rw [hm0]; omega, by rw [hm0]; omega⟩ ⟨by have := HG0.out; omega, by have := HG0.out; omega, by have := HG0.out; omega⟩ hJ hYY _ hbw.size
      (by have h := Lib.cell_of_heap ((hbw.block (m0 + 3) (by omega)).trans HB1.out) 0; rw [hm0] at h; exact h) (HR.out.below hw2 hbb) ⟨m, (hw2.cell (p := ⟨0, 0, none⟩) HG0.out).trans hm⟩ h0
  case body =>
    rintro l pre ⟨xv, xr⟩ W ⟨pv, nv, xp, hps⟩ ⟨hx1, hx2, hx3, hx4⟩ hpre
    dsimp only at hx1 hx2 hx3 hx4
    obtain ⟨i1, hi, hz0, hz1, hz2⟩ := info_parts infoComp
    obtain ⟨i2, hj, hy0, hy1, hy2⟩ := info_parts infoStr
    obtain ⟨A, cap2, rfl, -⟩ := hx1.slice
    obtain ⟨Ap, cp, rfl⟩ := row_val hps.p
    obtain ⟨An, cn, rfl⟩ := hps.n.val
    rw [names_len] at hps
    have HPN := Lib.hid (show W.ownsRow Y.heap.size 9 1 (.slice An pre.length cn) pre.length ((names pre).flatMap es) by have h := hps.n; unfold OR at h; rw [names_len] at h; exact h)
    subst hm0
    have HTX := Lib.hid (Text_any xr _ W hx1 (by omega) (by show (SP.text xr).length ≤ _; omega))
    obtain ⟨t1, ht1⟩ : ∃ t1, SP.text xr = t1 := ⟨_, rfl⟩
    have HT1 := Lib.hid ht1
    rw [show fsts xr = t1 from ht1] at HTX
    have HCP := Lib.hid (fun Y (hY : Below W.heap.size W Y) => Compile_lit xr _ Y (hx1.below hY) (by omega) (by rw [SP.chars_text]; omega) (fun r hr => ⟨(hx2 r hr).1, (hx2 r hr).2.1⟩) (fun r hr => by have := SP.mem_text hr; omega) (fun r hr => (hx2 r hr).2.2))
    have HLT := Lib.hid (fun Y v (h : RV 4 pe Y v (PT.chars xr)) => Literal_lit (PT.chars xr) v Y h (by rw [SP.chars_text]; omega))
    have HPS := Lib.hid hps
    have hlw : Y0.heap.size + 2 < W.heap.size := (Array.getElem?_eq_some_iff.1 hps.l).1
    have hyw : Y.heap.size ≤ W.heap.size := hps.z
    have hpl : pre.length ≤ 1000000 := by omega
    have HX3 := Lib.hid hx2
    clear hps hx1 hx2 hx3 hx4 ht1 hpre
    gi_wp2_with (first
      | (refine ⟨trivial, ?_⟩; gi_at_call 39; refine (CallsIn.inRound l (callsIn_wide.2 HTX.out)).mono ?_; rintro e Y1 ⟨rfl, hY1⟩)
      | (refine ⟨trivial, ?_⟩; gi_at_call 59; refine (CallsIn.inRound l (callsIn_wide.2 (HCP.out Y1 hY1))).mono ?_; rintro e Y2 ⟨v2, rfl, ho2, hY2⟩; obtain ⟨A2, c2, rfl⟩ := ho2.val)
      | (refine ⟨trivial, ?_⟩; gi_at_call 60; refine (CallsIn.inRound l (callsIn_wide.2 (HLT.out _ _ ((ho2.rv pe_len).below (balloc _ _))))).mono ?_; rintro e Y4 ⟨⟨s4, rfl⟩, hY4⟩
         have hb4 : Below W.heap.size W Y4 := (btr (btr hY1 hY2) (btr (balloc Y2 _) hY4))
         have hwy2 : W.heap.size ≤ Y2.heap.size := (btr hY1 hY2).size
         have hq : Y4.heap[Y2.heap.size]? = some (.cells #[.string ⟨t1.toArray⟩, .slice A2 (PT.chars xr).length c2, .bool false] 134 (0, 0)) := (hY4.block _ (by simp)).trans (al_new Y2 _)
         have q0 : Y4.cell? ⟨Y2.heap.size, 0, none⟩ = some (.string ⟨t1.toArray⟩) := Lib.cell_of_heap hq 0
         have q1 : Y4.cell? ⟨Y2.heap.size, 1, none⟩ = some (.slice A2 (PT.chars xr).length c2) := Lib.cell_of_heap hq 1
         have q2 : Y4.cell? ⟨Y2.heap.size, 2, none⟩ = some (.bool false) := Lib.cell_of_heap hq 2
         have qf := Lib.frozen_of_heap hq 2
         have hs4 := (hb4.block (Y0.heap.size + 1) (by omega)).trans HPS.out.s
         have hl4 := (hb4.block (Y0.heap.size + 2) (by omega)).trans HPS.out.l
         have s1 : Y4.cell? ⟨Y0.heap.size + 1, 1, none⟩ = some (.slice Ap pre.length cp) := Lib.cell_of_heap hs4 1
         have s2 : Y4.cell? ⟨Y0.heap.size + 1, 2, none⟩ = some (.slice An pre.length cn) := Lib.cell_of_heap hs4 2
         have sf1 := Lib.frozen_of_heap hs4 1
         have sf2 := Lib.frozen_of_heap hs4 2
         have l0 : Y4.cell? ⟨Y0.heap.size + 1 + 1, 0, none⟩ = some (.bool true) := Lib.cell_of_heap hl4 0
         have lf : Y4.frozen? ⟨Y0.heap.size + 1 + 1, 0, none⟩ = false := Lib.frozen_of_heap hl4 0
         have n1 : ¬ Y2.heap.size = Y0.heap.size + 1 := by omega
         have n2 : ¬ Y2.heap.size = Y0.heap.size + 1 + 1 := by omega
         have n3 : ¬ Y0.heap.size + 1 = Y2.heap.size := by omega
         have n4 : ¬ Y0.heap.size + 1 + 1 = Y2.heap.size := by omega
         have hz4 := (Array.getElem?_eq_some_iff.1 hq).1
         have hsl := (Array.getElem?_eq_some_iff.1 hs4).1
         have hll : Y0.heap.size + 1 + 1 < Y4.heap.size := (Array.getElem?_eq_some_iff.1 hl4).1)
      | (gi_at_builtin; refine wpListIn_append_own _ rfl _ _ 125 rfl Y.heap.size 134 i1 _ 3 48 Tryz.underlying125 hi hz0 hz1 hz2 rfl (by decide) (.slice Ap pre.length cp) pre.length _ rfl (row_below (row_set (row_set2 (row_below HPS.out.p hb4) (fun r hr => by have := (World.ownsRow.lt HPS.out.p r hr).2; first | omega | (dsimp only; omega)) _) (by first | omega | (dsimp only; omega)) _) (balloc _ _)) ⟨Y4.heap.size, 0, none⟩ 1 1 [.string ⟨t1.toArray⟩, .slice A2 (PT.chars xr).length c2, .bool true] rfl rfl (cells3 _ _ (by simp) _ _ _ _) (by intro u hu; simp at hu; rcases hu with rfl | rfl | rfl <;> rfl) (by unfold maxLen; omega) (by omega) (by simp <;> omega) ?_; intro v5 W5 ho5 hg5 _
         obtain ⟨A5, c5, rfl⟩ := row_val ho5
         have gp := own_ge HPS.out.p
         have gq := fun r hr => (World.ownsRow.lt HPS.out.p r hr).2
         have hsZ : ((Y4.setCell ⟨Y2.heap.size, 2, none⟩ (.bool true)).setCell ⟨Y0.heap.size + 1 + 1, 0, none⟩ (.bool true)).heap[Y0.heap.size + 1]? = _ := ((Below.heap_setCell _ _ _ _ (by first | omega | (dsimp only; omega))).trans (Below.heap_setCell _ _ _ _ (by first | omega | (dsimp only; omega)))).trans hs4
         have hs5 : W5.heap[Y0.heap.size + 1]? = some (.cells #[.slice FA fn fc, .slice Ap pre.length cp, .slice An pre.length cn, .slice none 0 0, .map (some Y0.heap.size)] 127 (0, 0)) := (hg5.block _ (by simp <;> omega) (fun e => by have := gp _ e.symm; omega)).trans ((Below.heap_alloc _ _ _ (by simp <;> omega)).trans hsZ)
         have hqZ : (Y4.setCell ⟨Y2.heap.size, 2, none⟩ (.bool true)).heap[Y2.heap.size]? = some (.cells #[.string ⟨t1.toArray⟩, .slice A2 (PT.chars xr).length c2, .bool true] 134 (0, 0)) := (heap_setCell_same Y4 Y2.heap.size 2 _ _ (.bool true) hq).trans rfl
         have hq5 : W5.heap[Y2.heap.size]? = some (.cells #[.string ⟨t1.toArray⟩, .slice A2 (PT.chars xr).length c2, .bool true] 134 (0, 0)) := (hg5.block _ (by simp <;> omega) (fun e => by have := gq _ e.symm; omega)).trans ((Below.heap_alloc _ _ _ (by simp <;> omega)).trans ((Below.heap_setCell _ _ _ _ (by first | omega | (dsimp only; omega))).trans hqZ))
         have hnZ : (((Y4.setCell ⟨Y2.heap.size, 2, none⟩ (.bool true)).setCell ⟨Y0.heap.size + 1 + 1, 0, none⟩ (.bool true)).alloc (.cells #[.string ⟨t1.toArray⟩, .slice A2 (PT.chars xr).length c2, .bool true] 134)).ownsRow Y.heap.size 9 1 (.slice An pre.length cn) pre.length ((names pre).flatMap es) := row_below (row_set (row_set2 (row_below HPN.out hb4) (fun r hr => by have := (World.ownsRow.lt HPN.out r hr).2; first | omega | (dsimp only; omega)) (.bool true)) (by first | omega | (dsimp only; omega)) (.bool true)) (balloc _ _)
         have hpZ : (((Y4.setCell ⟨Y2.heap.size, 2, none⟩ (.bool true)).setCell ⟨Y0.heap.size + 1 + 1, 0, none⟩ (.bool true)).alloc (.cells #[.string ⟨t1.toArray⟩, .slice A2 (PT.chars xr).length c2, .bool true] 134)).ownsRow Y.heap.size 134 3 (.slice Ap pre.length cp) pre.length xp := row_below (row_set (row_set2 (row_below HPS.out.p hb4) (fun r hr => by have := (World.ownsRow.lt HPS.out.p r hr).2; first | omega | (dsimp only; omega)) (.bool true)) (by first | omega | (dsimp only; omega)) (.bool true)) (balloc _ _)
         have HN5 := Lib.hid (show W5.ownsRow Y.heap.size 9 1 (.slice An pre.length cn) pre.length ((names pre).flatMap es) from row_grown hnZ hg5 (fun r hr hx2 => rows_apart hnZ hpZ (by decide) r hx2 hr))
         have s51 : W5.cell? ⟨Y0.heap.size + 1, 1, none⟩ = some (.slice Ap pre.length cp) := Lib.cell_of_heap hs5 1
         have s52 : W5.cell? ⟨Y0.heap.size + 1, 2, none⟩ = some (.slice An pre.length cn) := Lib.cell_of_heap hs5 2
         have sf51 : W5.frozen? ⟨Y0.heap.size + 1, 1, none⟩ = false := Lib.frozen_of_heap hs5 1
         have q50 : W5.cell? ⟨Y2.heap.size, 0, none⟩ = some (.string ⟨t1.toArray⟩) := Lib.cell_of_heap hq5 0
         have hz5 := (Array.getElem?_eq_some_iff.1 hq5).1
         have hs5l := (Array.getElem?_eq_some_iff.1 hs5).1)
      | (gi_at_builtin; refine wpListIn_append_own _ rfl _ _ 24 rfl Y.heap.size 9 i2 _ 1 16 Tryz.underlying24 hj hy0 hy1 hy2 rfl (by decide) (.slice An pre.length cn) pre.length _ rfl (row_below (row_set HN5.out (by first | omega | (dsimp only; omega)) _) (balloc _ _)) ⟨W5.heap.size, 0, none⟩ 1 1 [.string ⟨t1.toArray⟩] rfl rfl (cells1 _ _ (by simp) _ _) (by intro u hu; simp at hu; subst hu; rfl) (by unfold maxLen; omega) (by omega) (by simp <;> omega) ?_; intro v6 W6 ho6 hg6 _
         obtain ⟨A6, c6, rfl⟩ := row_val ho6
         have gn := own_ge HPN.out
         have hs6 : W6.heap[Y0.heap.size + 1]? = some (.cells #[.slice FA fn fc, .slice A5 (pre.length + 1) c5, .slice An pre.length cn, .slice none 0 0, .map (some Y0.heap.size)] 127 (0, 0)) := (hg6.block _ (by simp <;> omega) (fun e => by have := gn _ e.symm; omega)).trans ((Below.heap_alloc _ _ _ (by simp <;> omega)).trans ((heap_setCell_same W5 (Y0.heap.size + 1) 1 _ _ (.slice A5 (pre.length + 1) c5) hs5).trans rfl))
         have s62 : W6.cell? ⟨Y0.heap.size + 1, 2, none⟩ = some (.slice An pre.length cn) := Lib.cell_of_heap hs6 2
         have sf62 : W6.frozen? ⟨Y0.heap.size + 1, 2, none⟩ = false := Lib.frozen_of_heap hs6 2
         have hs6l := (Array.getElem?_eq_some_iff.1 hs6).1))
    have hn0 : Y.heap.size = Y0.heap.size + 4 := hys
    have gp2 := own_ge HPS.out.p
    have gn2 := own_ge HPN.out
    have z5 : Y4.heap.size + 1 ≤ W5.heap.size := by have := hg5.size; simpa using this
    have z6 : W5.heap.size + 1 ≤ W6.heap.size := by have := hg6.size; simpa using this
    have hF : ∀ k, k < W.heap.size → k ≠ Y0.heap.size + 1 → k ≠ Y0.heap.size + 1 + 1 → (Value.slice Ap pre.length cp).ownBlock ≠ some k → (Value.slice An pre.length cn).ownBlock ≠ some k → (W6.setCell ⟨Y0.heap.size + 1, 2, none⟩ (.slice A6 (pre.length + 1) c6)).heap[k]? = W.heap[k]? := by
      intro k k1 k2 k3 k4 k5
      refine (Below.heap_setCell _ _ _ _ (by dsimp only; omega)).trans ?_
      refine (hg6.block k (by simp <;> omega) (fun e => k5 e.symm)).trans ?_
      refine (Below.heap_alloc _ _ _ (by simp <;> omega)).trans ?_
      refine (Below.heap_setCell _ _ _ _ (by dsimp only; omega)).trans ?_
      refine (hg5.block k (by simp <;> omega) (fun e => k4 e.symm)).trans ?_
      refine (Below.heap_alloc _ _ _ (by simp <;> omega)).trans ?_
      refine (Below.heap_setCell _ _ _ _ (by dsimp only; omega)).trans ?_
      refine (Below.heap_setCell _ _ _ _ (by dsimp only; omega)).trans ?_
      exact hb4.block k k1
    have hlF : (W6.setCell ⟨Y0.heap.size + 1, 2, none⟩ (.slice A6 (pre.length + 1) c6)).heap[Y0.heap.size + 2]? = some (.cells #[.bool true] 4 (0, 0)) := by
      refine (Below.heap_setCell _ _ _ _ (by dsimp only; omega)).trans ?_
      refine (hg6.block _ (by simp <;> omega) (fun e => by have := gn2 _ e.symm; omega)).trans ?_
      refine (Below.heap_alloc _ _ _ (by simp <;> omega)).trans ?_
      refine (Below.heap_setCell _ _ _ _ (by dsimp only; omega)).trans ?_
      refine (hg5.block _ (by simp <;> omega) (fun e => by have := gp2 _ e.symm; omega)).trans ?_
      refine (Below.heap_alloc _ _ _ (by simp <;> omega)).trans ?_
      exact (heap_setCell_same _ (Y0.heap.size + 1 + 1) 0 _ _ (.bool true) ((Below.heap_setCell _ _ _ _ (by dsimp only; omega)).trans hl4)).trans rfl
    have hzF : W.heap.size ≤ (W6.setCell ⟨Y0.heap.size + 1, 2, none⟩ (.slice A6 (pre.length + 1) c6)).heap.size := by simp; omega
    have hbF : Below w.heap.size W (W6.setCell ⟨Y0.heap.size + 1, 2, none⟩ (.slice A6 (pre.length + 1) c6)) := by
      have hw0 := HWY.out.size
      have b1 : Below w.heap.size W Y4 := hb4.mono HPS.out.bel.size
      have b2 := (b1.setCell (p := ⟨Y2.heap.size, 2, none⟩) (by dsimp only; omega) (.bool true)).setCell (p := ⟨Y0.heap.size + 1 + 1, 0, none⟩) (by dsimp only; omega) (.bool true)
      have b3 := (b2.alloc (by simp <;> omega) (.cells #[.string ⟨t1.toArray⟩, .slice A2 (PT.chars xr).length c2, .bool true] 134)).grown hg5 (by simp <;> omega) (fun q hq => by have := gp2 q hq; omega)
      have b4 := ((b3.setCell (p := ⟨Y0.heap.size + 1, 1, none⟩) (by dsimp only; omega) (.slice A5 (pre.length + 1) c5)).alloc (by simp <;> omega) (.cells #[.string ⟨t1.toArray⟩] 9)).grown hg6 (by simp <;> omega) (fun q hq => by have := gn2 q hq; omega)
      exact b4.setCell (p := ⟨Y0.heap.size + 1, 2, none⟩) (by dsimp only; omega) _
    have hpF : (W6.setCell ⟨Y0.heap.size + 1, 2, none⟩ (.slice A6 (pre.length + 1) c6)).ownsRow Y.heap.size 134 3 (.slice A5 (pre.length + 1) c5) (pre.length + 1) (xp ++ [.string ⟨t1.toArray⟩, .slice A2 (PT.chars xr).length c2, .bool true]) := by
      have r1 : ((W5.setCell ⟨Y0.heap.size + 1, 1, none⟩ (.slice A5 (pre.length + 1) c5)).alloc (.cells #[.string ⟨t1.toArray⟩] 9)).ownsRow Y.heap.size 134 3 (.slice A5 (pre.length + 1) c5) (pre.length + 1) (xp ++ [.string ⟨t1.toArray⟩, .slice A2 (PT.chars xr).length c2, .bool true]) := row_below (row_set (by simpa using ho5) (by dsimp only; omega) _) (balloc _ _)
      have r2 : ((W5.setCell ⟨Y0.heap.size + 1, 1, none⟩ (.slice A5 (pre.length + 1) c5)).alloc (.cells #[.string ⟨t1.toArray⟩] 9)).ownsRow Y.heap.size 9 1 (.slice An pre.length cn) pre.length ((names pre).flatMap es) := row_below (row_set HN5.out (by dsimp only; omega) _) (balloc _ _)
      exact row_set (row_grown r1 hg6 (fun r hr hx2 => rows_apart r1 r2 (by decide) r hx2 hr)) (by dsimp only; omega) _
    have hnF : OR 1 es 9 Y.heap.size (W6.setCell ⟨Y0.heap.size + 1, 2, none⟩ (.slice A6 (pre.length + 1) c6)) (.slice A6 (pre.length + 1) c6) (names (pre ++ [(.slice A xr.length cap2, xr)])) := by
      rw [names_snoc, HT1.out]
      have h6 : W6.ownsRow Y.heap.size 9 1 (.slice A6 (pre.length + 1) c6) (pre.length + 1) ((names pre).flatMap es ++ es t1) := ho6
      have h7 := row_set (p := ⟨Y0.heap.size + 1, 2, none⟩) h6 (by dsimp only; omega) (.slice A6 (pre.length + 1) c6)
      refine OR.snocG (enc := es) (l := names pre) (x := t1) ?_
      rw [names_len]
      exact h7
    have hsF : (W6.setCell ⟨Y0.heap.size + 1, 2, none⟩ (.slice A6 (pre.length + 1) c6)).heap[Y0.heap.size + 1]? = some (.cells #[.slice FA fn fc, .slice A5 (pre.length + 1) c5, .slice A6 (pre.length + 1) c6, .slice none 0 0, .map (some Y0.heap.size)] 127 (0, 0)) := (heap_setCell_same W6 (Y0.heap.size + 1) 2 _ _ _ hs6).trans rfl
    have hne1 : ∀ (k : Nat) (o : Obj), W.heap[k]? = some o → o.isCells = false → k ≠ Y0.heap.size + 1 ∧ k ≠ Y0.heap.size + 1 + 1 ∧ (Value.slice Ap pre.length cp).ownBlock ≠ some k ∧ (Value.slice An pre.length cn).ownBlock ≠ some k := by
      intro k o hk ho
      refine ⟨?_, ?_, ?_, ?_⟩
      · rintro rfl; rw [HPS.out.s] at hk; injection hk with hk; subst hk; cases ho
      · rintro rfl; rw [show W.heap[Y0.heap.size + 1 + 1]? = _ from HPS.out.l] at hk; injection hk with hk; subst hk; cases ho
      · intro e
        rcases HPS.out.p.2 with ⟨h1, _⟩ | ⟨g, cap, cur, h1, _, h3, _⟩
        · rw [h1] at e; cases e
        · rw [h1] at e; injection e with e; dsimp only at e; subst e; rw [h3] at hk; injection hk with hk; subst hk; cases ho
      · intro e
        rcases HPN.out.2 with ⟨h1, _⟩ | ⟨g, cap, cur, h1, _, h3, _⟩
        · rw [h1] at e; cases e
        · rw [h1] at e; injection e with e; dsimp only at e; subst e; rw [h3] at hk; injection hk with hk; subst hk; cases ho
    have hne2 : ∀ (k : Nat) (cs : Array Value) (f : Nat × Nat), W.heap[k]? = some (.cells cs 121 f) → k ≠ Y0.heap.size + 1 ∧ k ≠ Y0.heap.size + 1 + 1 ∧ (Value.slice Ap pre.length cp).ownBlock ≠ some k ∧ (Value.slice An pre.length cn).ownBlock ≠ some k := by
      intro k cs f hk
      refine ⟨?_, ?_, fun e => own_apart HPS.out.p hk (by decide) k e rfl, fun e => own_apart HPN.out hk (by decide) k e rfl⟩
      · rintro rfl; rw [HPS.out.s] at hk; injection hk with hk; injection hk with _ hk _; exact absurd hk (by decide)
      · rintro rfl; rw [show W.heap[Y0.heap.size + 1 + 1]? = _ from HPS.out.l] at hk; injection hk with hk; injection hk with _ hk _; exact absurd hk (by decide)
    rw [← hn0]
    refine ⟨⟨hzF, fun k o hk ho => ?_⟩, ⟨hzF, fun k k1 k2 k3 => ?_, fun k cs f hk => ?_⟩, _, _, _, ⟨HPS.out.bel.trans hbF, hsF, hlF, by rw [List.length_append]; exact hpF, hnF, Nat.le_trans hyw hzF⟩⟩
    · obtain ⟨a1, a2, a3, a4⟩ := hne1 k o hk ho
      exact (hF k (Array.getElem?_eq_some_iff.1 hk).1 a1 a2 a3 a4).trans hk
    · refine hF k (by omega) k2 k3 (fun e => by have := gp2 _ e; omega) (fun e => by have := gn2 _ e; omega)
    · obtain ⟨a1, a2, a3, a4⟩ := hne2 k cs f hk
      exact (hF k (Array.getElem?_eq_some_iff.1 hk).1 a1 a2 a3 a4).trans hk
  case done =>
    rintro D xs W hD ⟨hjt, hxn⟩ ⟨pv, nv, xp, hps⟩ hDe
    subst hm0
    have hcount : (names xs).length ≤ 200000 := by
      cases hx : names xs with
      | nil => simp
      | cons y r =>
        have h1 := HTL.out
        rw [← hjt, hx, Lib.join_length] at h1
        simp at h1 ⊢
        omega
    obtain ⟨An, cn, rfl⟩ := hps.n.val
    have HJ := Lib.hid (Join_slash _ (names xs) Y.heap.size W hps.n (by omega) (by rw [hjt]; have := HTL.out; omega))
    rw [hjt] at HJ
    have hs1 : W.cell? ⟨Y0.heap.size + 1, 2, none⟩ = some (.slice An (names xs).length cn) := Lib.cell_of_heap hps.s 2
    have hsl := (Array.getElem?_eq_some_iff.1 hps.s).1
    have hll : Y0.heap.size + 1 + 1 < W.heap.size := (Array.getElem?_eq_some_iff.1 hps.l).1
    have HPS := Lib.hid hps
    have hdl := (Array.getElem?_eq_some_iff.1 hDe).1
    have HDE := Lib.hid hDe
    clear hjt hxn hps hcount hDe
    gi_wp2_with (first
      | (gi_at_call 61; refine (callsIn_wide.2 HJ.out).mono ?_; rintro e X ⟨rfl, hX⟩; have l1 : X.cell? ⟨Y0.heap.size + 1 + 1, 0, none⟩ = some (.bool true) := Lib.cell_of_heap ((hX.block _ hll).trans HPS.out.l) 0)
      | (refine ⟨trivial, ?_⟩; gi_at_call 61; refine (callsIn_wide.2 HJ.out).mono ?_; rintro e X ⟨rfl, hX⟩; have l1 : X.cell? ⟨Y0.heap.size + 1 + 1, 0, none⟩ = some (.bool true) := Lib.cell_of_heap ((hX.block _ hll).trans HPS.out.l) 0))
    have hK' : (X.alloc (.cells #[.string ⟨T.toArray⟩] 9)).heap[D]? = some (.deferred (some [])) := (Below.heap_alloc _ _ _ (by have := hX.size; omega)).trans ((hX.block _ hdl).trans HDE.out)
    have hwX := HPS.out.bel.trans (hX.mono HPS.out.bel.size)
    have hw0 := HWY.out.size
    refine ⟨by simp, .inl ⟨_, _, rfl, run_takeDeferred hK', ?_⟩⟩
    refine ⟨_, results_tmp2 rfl _ _ _, X.heap.size, rfl, ?_, ?_⟩
    · exact (World.cell?_of_block (World.putObj_heap_other (by dsimp only; have := hX.size; omega))).trans (by simp)
    · exact (hwX.trans ((balloc X _).mono (Nat.le_trans HPS.out.bel.size hX.size))).trans (belowK_b (n₀ := w.heap.size) (w := w) (Nat.le_refl _) _ D _ _ (by omega) hK' rfl rfl)
end W
end Go.Proofs.YtkceenmlhfkkhaaGreatDoor
