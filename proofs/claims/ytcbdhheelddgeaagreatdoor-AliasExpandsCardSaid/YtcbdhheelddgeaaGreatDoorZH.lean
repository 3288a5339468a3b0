/- Several texts in one: W09q P09x W09r W09s W09t W09u. -/
import Derived.Test.YtcbdhheelddgeaaGreatDoorZF
import Derived.Test.YtcbdhheelddgeaaGreatDoorZG
import Derived.BigQuiet
import Derived.Test.YtcbdhheelddgeaaGreatDoorP07b
namespace Go.Proofs.YtcbdhheelddgeaaGreatDoor
open Go.RowKit K
namespace AX
/-- The value by which a token is replaced. -/
def value (l : List AL.Al) (T : List SE) (cmd : Bool) (kd : Nat) (ps : Nat) (tx : List UInt8) : Option (List UInt8) :=
 if cmd = false then none else if kd ≠ 1 then none else
 match sget T tx with
 | some e => if (ps : Int) < e then none else AL.get l tx
 | none => AL.get l tx
end AX
namespace W
theorem sm_new {W V : World} {b : Nat} {T : List SE} (h : SM W b T) (hb : Below W.heap.size W V) : SM V b T := h.kept (hb.block _ h.lt)
set_option maxRecDepth 100000 in
set_option maxHeartbeats 4000000 in
theorem value_any (l : List AL.Al) (T : List SE) (kd ps st : Nat) (tx : List UInt8) (g mb : Nat) (s : List UInt8) (at_ : Int) (va vb vl : Value) (c h str : Bool) (w : World) (he : EB w g s at_ va (.map (some mb)) vb c h str vl) (hA : AS w va l) (hM : SM w mb T) (hl : l.length ≤ 1000000) :
  Calls Tryz.prog 14 #[.pointer (some ⟨g, 0, none⟩), .agg #[.int .i64 kd, .int .i64 ps, .int .i64 st, .string ⟨tx.toArray⟩]] w fun e w' => e = .returned (.tuple #[.string ⟨((AX.value l T c kd ps tx).getD []).toArray⟩, .bool (AX.value l T c kd ps tx).isSome]) ∧ Below w.heap.size w w' := by
 obtain ⟨V, hV⟩ : ∃ V, V = w.alloc (.cells #[.int .i64 kd, .int .i64 ps, .int .i64 st, .string ⟨tx.toArray⟩] 46) := ⟨_, rfl⟩
 have hb : Below w.heap.size w V := by rw [hV]; exact balloc w _
 have e1 := he.new hb
 have m1 := sm_new hM hb
 obtain ⟨-, -, k2, k3, -, -, -⟩ := e1.cells
 obtain ⟨-, -, -, -, -, w5, -⟩ := he.cells
 have hgs := he.lt
 have hn : V.heap[w.heap.size]? = some (.cells #[.int .i64 kd, .int .i64 ps, .int .i64 st, .string ⟨tx.toArray⟩] 46 (0, 0)) := by rw [hV]; exact al_new w _
 obtain ⟨t0, t1, t3⟩ : V.cell? ⟨w.heap.size, 0, none⟩ = some (.int .i64 kd) ∧ V.cell? ⟨w.heap.size, 1, none⟩ = some (.int .i64 ps) ∧ V.cell? ⟨w.heap.size, 3, none⟩ = some (.string ⟨tx.toArray⟩) := ⟨Lib.cell_of_heap hn 0, Lib.cell_of_heap hn 1, Lib.cell_of_heap hn 3⟩
 have HB := Lib.hid hb
 obtain ⟨A, cc, rfl⟩ := hA.slice
 have HG := Lib.hid (fun U (hu : Below w.heap.size w U) => Get_any l tx (.slice A l.length cc) U (hA.go hu) hl)
 obtain ⟨R, hR⟩ : ∃ R, AX.value l T c kd ps tx = R := ⟨_, rfl⟩
 rw [hR]
 unfold AX.value at hR
 have HV := Lib.hid hV
 have HF := Lib.hid (And.intro t0 (And.intro t1 (And.intro t3 (And.intro k2 (And.intro k3 m1)))))
 clear he hA hM e1 hn hb hl hV t0 t1 t3 k2 k3 m1
 cases c
 case false =>
  have HRE := Lib.hid (show none = R from hR)
  clear hR
  go_enter Tryz.func14, Tryz.ntmps14
  go_wp2
  go_ret2
  rw [← HRE.out, ← HV.out]
  exact ⟨rfl, HB.out⟩
 case true =>
  by_cases hk : kd = 1
  case neg =>
   have HRE := Lib.hid (show none = R by rw [← hR, if_neg (by simp), if_pos hk])
   have hk2 : ¬ (kd : Int) = 1 := by omega
   have hk3 : ((kd : Int) == 1) = false := by rw [beq_eq_false_iff_ne]; exact hk2
   have hk4 : ((kd : Int) != 1) = true := by simp [bne, hk3]
   clear hR hk
   go_enter Tryz.func14, Tryz.ntmps14
   go_wp2
   go_ret2
   rw [← HRE.out, ← HV.out]
   exact ⟨rfl, HB.out⟩
  rw [if_neg (by simp), if_neg (by simpa using hk)] at hR
  have q1 : ((kd : Int) == 1) = true := by rw [hk]; rfl
  have q2 : ((kd : Int) != 1) = false := by simp [bne, q1]
  clear hk
  obtain ⟨t0, t1, t3, k2, k3, m1⟩ := HF.out
  have hL2 : ∀ n, (Instr.lookup 40 (.map (some mb)) (.string ⟨tx.toArray⟩) true).run Tryz.prog (V.drewN n) = .ok (.tuple #[.int .i64 ((sget T tx).getD 0), .bool (sget T tx).isSome]) (V.drewN n) := fun n => SM.look (W := V.drewN n) (m1.kept (by simp)) Tryz.underlying40 Tryz.underlying9 (by kernel_rfl) tx
  obtain ⟨G, hG⟩ : ∃ G, AL.get l tx = G := ⟨_, rfl⟩
  rw [hG] at hR HG
  have HBN := Lib.hid (fun n => (show Below w.heap.size w (V.drewN n) from ⟨HB.out.os, HB.out.tape, HB.out.output, HB.out.size, HB.out.block⟩))
  cases hs : sget T tx with
  | none =>
   rw [hs] at hL2 hR
   have HRE := Lib.hid hR
   clear hR m1 hs hG
   go_enter Tryz.func14, Tryz.ntmps14
   go_wp2_with fail
   rw [← HV.out]
   go_quiet (fail)
   go_wp2_with fail
   obtain ⟨U, hU⟩ : ∃ U, U = V.drewN nq := ⟨_, rfl⟩
   have HBU := Lib.hid (show Below w.heap.size w U from by rw [hU]; exact HBN.out nq)
   have u2 : U.cell? ⟨g, 2, none⟩ = some (.slice A l.length cc) := by rw [hU]; exact k2
   have u3 : U.cell? ⟨w.heap.size, 3, none⟩ = some (.string ⟨tx.toArray⟩) := by rw [hU]; exact t3
   rw [← hU]
   clear hU hL2 k2 k3 t0 t1 t3 w5 q1 q2 hgs
   have HSU := Lib.hid (fun (U2 : World) (hb : Below U.drew.heap.size U.drew U2) => show U2.cell? ⟨g, 2, none⟩ = some (.slice A l.length cc) ∧ U2.cell? ⟨w.heap.size, 3, none⟩ = some (.string ⟨tx.toArray⟩) ∧ Below w.heap.size w U2 from ⟨cell_go (W := U.drew) u2 hb, cell_go (W := U.drew) u3 hb, HBU.out.drew.trans (hb.mono HBU.out.drew.size)⟩)
   have HGU := Lib.hid (HG.out U.drew HBU.out.drew)
   go_region_held3 (fun w' => w'.cell? ⟨g, 2, none⟩ = some (.slice A l.length cc) ∧ w'.cell? ⟨w.heap.size, 3, none⟩ = some (.string ⟨tx.toArray⟩) ∧ Below w.heap.size w w')
    (first | exact HSU.out _ (Below.refl _ _) | exact HSU.out _ (by assumption))
    ((go_at_call 9; refine HGU.out.mono ?_; rintro e' U2 ⟨rfl, hb⟩))
   go_wp2
   go_ret2
   rw [← HRE.out]
   exact ⟨rfl, (HSU.out _ (by assumption)).2.2⟩
  | some e =>
   rw [hs] at hL2 hR
   by_cases hlt : (ps : Int) < e
   ·have HRE := Lib.hid (show none = R by rw [← hR]; exact (if_pos hlt).symm)
    have q3 : decide ((ps : Int) < e) = true := by simpa using hlt
    clear hR m1 hs hG
    go_enter Tryz.func14, Tryz.ntmps14
    go_wp2_with fail
    rw [← HV.out]
    go_quiet (fail)
    go_wp2
    go_ret2
    rw [← HRE.out]
    exact ⟨rfl, HBN.out nq⟩
   ·have HRE := Lib.hid (show G = R by rw [← hR]; exact (if_neg hlt).symm)
    have q3 : decide ((ps : Int) < e) = false := by simpa using hlt
    clear hR m1 hs hG
    go_enter Tryz.func14, Tryz.ntmps14
    go_wp2_with fail
    rw [← HV.out]
    go_quiet (fail)
    go_wp2_with fail
    obtain ⟨U, hU⟩ : ∃ U, U = V.drewN nq := ⟨_, rfl⟩
    have HBU := Lib.hid (show Below w.heap.size w U from by rw [hU]; exact HBN.out nq)
    have u2 : U.cell? ⟨g, 2, none⟩ = some (.slice A l.length cc) := by rw [hU]; exact k2
    have u3 : U.cell? ⟨w.heap.size, 3, none⟩ = some (.string ⟨tx.toArray⟩) := by rw [hU]; exact t3
    rw [← hU]
    clear q3 hlt hU hL2 k2 k3 t0 t1 t3 w5 q1 q2 hgs
    have HSU := Lib.hid (fun (U2 : World) (hb : Below U.drew.heap.size U.drew U2) => show U2.cell? ⟨g, 2, none⟩ = some (.slice A l.length cc) ∧ U2.cell? ⟨w.heap.size, 3, none⟩ = some (.string ⟨tx.toArray⟩) ∧ Below w.heap.size w U2 from ⟨cell_go (W := U.drew) u2 hb, cell_go (W := U.drew) u3 hb, HBU.out.drew.trans (hb.mono HBU.out.drew.size)⟩)
    have HGU := Lib.hid (HG.out U.drew HBU.out.drew)
    go_region_held3 (fun w' => w'.cell? ⟨g, 2, none⟩ = some (.slice A l.length cc) ∧ w'.cell? ⟨w.heap.size, 3, none⟩ = some (.string ⟨tx.toArray⟩) ∧ Below w.heap.size w w')
     (first | exact HSU.out _ (Below.refl _ _) | exact HSU.out _ (by assumption))
     ((go_at_call 9; refine HGU.out.mono ?_; rintro e' U2 ⟨rfl, hb⟩))
    go_wp2
    go_ret2
    rw [← HRE.out]
    exact ⟨rfl, (HSU.out _ (by assumption)).2.2⟩
end W
end Go.Proofs.YtcbdhheelddgeaaGreatDoor
namespace Go.Proofs.YtcbdhheelddgeaaGreatDoor
open K W
namespace AX
structure X where
 s : List UInt8
 at_ : Nat
 ends : List SE
 blanks : List Int
 cmd : Bool
 here : Bool
 strip : Bool
def reach (x : X) (pos : Nat) : X := { x with blanks := flt pos x.blanks, cmd := x.cmd || hit pos x.blanks }
def blank (v : List UInt8) : Bool := v.getLast? == some 32 || v.getLast? == some 9
def moved (ps : Nat) (mv : Int) (T : List SE) : List SE := T.map fun e => (e.1, if (ps : Int) < e.2 then e.2 + mv else e.2)
def replace (x : X) (ps st : Nat) (tx v : List UInt8) : X :=
 let mv : Int := (v.length : Int) - ((st : Int) - ps)
 { x with s := x.s.take ps ++ v ++ x.s.drop st, at_ := ps, ends := sput (moved ps mv x.ends) tx (ps + v.length), blanks := x.blanks.map (· + mv) ++ (if blank v then [((ps : Int) + v.length)] else []), cmd := true }
/-- The operators behind which a token is in command position. -/
def opensB (t : List UInt8) : Bool := [[59], [38], [38, 38], [124, 124], [124], [40]].contains t
/-- ! { do elif else if then until while -/
def introB (t : List UInt8) : Bool := [[33], [123], [100, 111], [101, 108, 105, 102], [101, 108, 115, 101], [105, 102], [116, 104, 101, 110], [117, 110, 116, 105, 108], [119, 104, 105, 108, 101]].contains t
def pass (x : X) (kd st : Nat) (tx : List UInt8) : Option X :=
 if x.here = true then none else if kd = 3 then some { x with at_ := st, cmd := true } else
 if kd = 2 then some { x with at_ := st, here := tx == [60, 60] || tx == [60, 60, 45], strip := tx == [60, 60, 45], cmd := opensB tx }
 else some { x with at_ := st, cmd := x.cmd && kd == 1 && introB tx }
def run (l : List AL.Al) : Nat → X → Option (List UInt8 × Int)
 | 0, _ => none
 | n + 1, x =>
  match LX.next x.s x.at_ with
  | (t, e) =>
   if e ≠ 0 then some (x.s, 0) else if t.kind = 5 then some (x.s, 0) else
   match value l (reach x t.pos).ends (reach x t.pos).cmd t.kind t.pos t.text with
   | some v => if 16384 < (replace (reach x t.pos) t.pos t.stop t.text v).s.length then some ([], 3) else run l n (replace (reach x t.pos) t.pos t.stop t.text v)
   | none =>
    match pass (reach x t.pos) t.kind t.stop t.text with
    | none => none
    | some y => run l n y
def expand (l : List AL.Al) (n : Nat) (s : List UInt8) : Option (List UInt8 × Int) :=
 if AL.valid l ≠ 0 then some ([], AL.valid l) else if 16384 < s.length then some ([], 3) else run l n ⟨s, 0, [], [], true, false, false⟩
/-- The chapter's list, source and answer. -/
def exL : List AL.Al := [([108, 108], [108, 115, 32, 45, 108]), ([115, 117, 100, 111], [115, 117, 100, 111, 32])]
def exS : List UInt8 := [105, 102, 32, 108, 108, 32, 97, 59, 32, 101, 99, 104, 111, 32, 108, 108, 59, 32, 115, 117, 100, 111, 32, 108, 108]
def exR : List UInt8 := [105, 102, 32, 108, 115, 32, 45, 108, 32, 97, 59, 32, 101, 99, 104, 111, 32, 108, 108, 59, 32, 115, 117, 100, 111, 32, 32, 108, 115, 32, 45, 108]
theorem ex_expand : expand exL 30 exS = some (exR, 0) := by decide +kernel
theorem ex_set1 : AL.set [] [108, 108] [108, 115, 32, 45, 108] = ([([108, 108], [108, 115, 32, 45, 108])], 0) := by decide +kernel
theorem ex_set2 : AL.set [([108, 108], [108, 115, 32, 45, 108])] [115, 117, 100, 111] [115, 117, 100, 111, 32] = (exL, 0) := by decide +kernel
theorem ex_get : AL.get exL [108, 108] = some [108, 115, 32, 45, 108] := by decide +kernel
theorem ex_unset : AL.unset exL [108, 108] = ([([115, 117, 100, 111], [115, 117, 100, 111, 32])], 0) := by decide +kernel
end AX
end Go.Proofs.YtcbdhheelddgeaaGreatDoor
namespace Go.Proofs.YtcbdhheelddgeaaGreatDoor
open Go.RowKit K
namespace AX
def intros : List (List UInt8) := [[33], [123], [100, 111], [101, 108, 105, 102], [101, 108, 115, 101], [105, 102], [116, 104, 101, 110], [117, 110, 116, 105, 108], [119, 104, 105, 108, 101]]
theorem introB_eq (t : List UInt8) : introB t = intros.contains t := rfl
end AX
namespace W
set_option maxRecDepth 100000 in
set_option maxHeartbeats 1000000 in
theorem introduces_any (t : List UInt8) (w : World) : Calls Tryz.prog 37 #[.string ⟨t.toArray⟩] w fun e w' => e = .returned (.bool (AX.introB t)) ∧ w = w' := by
 rw [AX.introB_eq]
 by_cases h : t ∈ AX.intros
 ·have HR := Lib.hid (show AX.intros.contains t = true from List.contains_iff_mem.2 h)
  simp only [AX.intros, List.mem_cons, List.not_mem_nil, or_false] at h
  rcases h with rfl | rfl | rfl | rfl | rfl | rfl | rfl | rfl | rfl
  all_goals
   go_enter Tryz.func37, Tryz.ntmps37
   go_wp2
   go_ret
   exact ⟨ret_bool HR.out.symm, rfl⟩
 ·have HR := Lib.hid (show AX.intros.contains t = false by rw [← Bool.not_eq_true, List.contains_iff_mem]; exact h)
  have hn : ∀ x ∈ AX.intros, (t == x) = false := fun x hx => by rw [beq_eq_false_iff_ne]; rintro rfl; exact h hx
  have n0 := hn [33] (by decide)
  have n1 := hn [123] (by decide)
  have n2 := hn [100, 111] (by decide)
  have n3 := hn [101, 108, 105, 102] (by decide)
  have n4 := hn [101, 108, 115, 101] (by decide)
  have n5 := hn [105, 102] (by decide)
  have n6 := hn [116, 104, 101, 110] (by decide)
  have n7 := hn [117, 110, 116, 105, 108] (by decide)
  have n8 := hn [119, 104, 105, 108, 101] (by decide)
  clear hn h
  go_enter Tryz.func37, Tryz.ntmps37
  go_wp2
  go_ret
  exact ⟨ret_bool HR.out.symm, rfl⟩
end W
end Go.Proofs.YtcbdhheelddgeaaGreatDoor
namespace Go.Proofs.YtcbdhheelddgeaaGreatDoor
open Go.RowKit K
namespace W
set_option maxRecDepth 100000 in
set_option maxHeartbeats 4000000 in
theorem Index_str (L : List (List UInt8)) (t : List UInt8) (rb c : Nat) (w : World) (hrow : ∀ j x, L[j]? = some x → w.cell? ⟨rb, j, none⟩ = some (.string ⟨x.toArray⟩)) (hl : L.length ≤ 100000) :
  Calls Tryz.prog 74 #[.slice (some ⟨rb, 0, none⟩) L.length c, .string ⟨t.toArray⟩] w fun e w' => (∃ k : Int, e = .returned (.int .i64 k) ∧ (decide (0 ≤ k)) = L.contains t) ∧ w' = w := by
 obtain ⟨n, hn⟩ : ∃ n, n = L.length := ⟨_, rfl⟩
 rw [← hn] at hl ⊢
 have n0 : (0 : Int) ≤ (n : Int) := by omega
 have nb : (n : Int) ≤ 100000 := by omega
 have HN := Lib.hid hn
 have HR := Lib.hid hrow
 clear hl hn hrow
 go_enter Tryz.func74, Tryz.ntmps74
 go_wp2
 go_loopg [5, 8] n (fun gk v5 i wr => ∃ k : Nat, k ≤ n ∧ gk = n - k ∧ i = .int .i64 k ∧ wr = w ∧ Hid (∀ x ∈ L.take k, t ≠ x))
 case atStart => exact ⟨0, Nat.zero_le _, rfl, rfl, rfl, Lib.hid (fun x hx => by simp at hx)⟩
 case round =>
  obtain ⟨k, hk, rfl, rfl, rfl, HA⟩ := hrel
  by_cases hlt : k < n
  ·have hlt2 : (k : Int) < (n : Int) := by omega
   obtain ⟨y, hy⟩ : ∃ y, L[k]? = some y := ⟨_, List.getElem?_eq_getElem (by have := HN.out; omega)⟩
   have r0 := HR.out k y hy
   have HLY := Lib.hid hy
   have HLT := Lib.hid hlt
   clear hy
   by_cases hyp : t = y
   ·have HC := Lib.hid (show L.contains t = true by rw [List.contains_iff_mem, hyp]; exact List.mem_of_getElem? HLY.out)
    have e1 : (t == y) = true := by rw [hyp]; simp
    have HYP := Lib.hid hyp
    clear hyp
    go_wp2
    go_ret
    exact ⟨⟨(k : Int), rfl, by rw [HC.out]; simp⟩, rfl⟩
   ·have e1 : (t == y) = false := by rw [beq_eq_false_iff_ne]; exact hyp
    have HA2 := Lib.hid (show ∀ x ∈ L.take (k + 1), t ≠ x from fun x hx => by
     have hh := (List.getElem?_eq_some_iff.1 HLY.out)
     rw [List.take_add_one, HLY.out] at hx
     rcases List.mem_append.1 hx with h | h
     ·exact HA.out x h
     ·simp at h; rw [h]; exact hyp)
    clear hyp
    go_wp2
    go_roundg (n - (k + 1))
    case measure => have := HLT.out; omega
    case rel => exact ⟨k + 1, HLT.out, rfl, by go_num, rfl, HA2⟩
  ·have hlt2 : ¬ (k : Int) < (n : Int) := by omega
   have HC := Lib.hid (show L.contains t = false by
    rw [← Bool.not_eq_true, List.contains_iff_mem]
    intro hm
    exact HA.out t (by rw [List.take_of_length_le (by have := HN.out; omega)]; exact hm) rfl)
   go_wp2
   go_ret
   exact ⟨⟨-1, rfl, ⟨fun h => absurd h (by decide), fun h => absurd (List.contains_iff_mem.2 h) (by rw [HC.out]; simp)⟩⟩, rfl⟩
theorem Contains_str (L : List (List UInt8)) (t : List UInt8) (rb c : Nat) (w : World) (hrow : ∀ j x, L[j]? = some x → w.cell? ⟨rb, j, none⟩ = some (.string ⟨x.toArray⟩)) (hl : L.length ≤ 100000) :
  Calls Tryz.prog 36 #[.slice (some ⟨rb, 0, none⟩) L.length c, .string ⟨t.toArray⟩] w fun e w' => e = .returned (.bool (L.contains t)) ∧ w' = w := by
 have HC := Lib.hid (Index_str L t rb c w hrow hl)
 obtain ⟨n, hn⟩ : ∃ n, n = L.length := ⟨_, rfl⟩
 obtain ⟨R, hR⟩ : ∃ R, R = L.contains t := ⟨_, rfl⟩
 rw [← hn, ← hR] at HC
 rw [← hn, ← hR]
 clear hrow hl hn hR
 go_enter Tryz.func36, Tryz.ntmps36
 go_wp2_with fail
 refine HC.out.mono ?_
 rintro e w1 ⟨⟨k, rfl, rfl⟩, rfl⟩
 go_wp2
 go_ret
 exact ⟨rfl, rfl⟩
end W
end Go.Proofs.YtcbdhheelddgeaaGreatDoor
namespace Go.Proofs.YtcbdhheelddgeaaGreatDoor
open Go.RowKit K
namespace W
section
variable {W : World} {g : Nat} {s : List UInt8} {at_ : Int} {va vm vb vl : Value} {c h st : Bool}
theorem EB.set1 (e : EB W g s at_ va vm vb c h st vl) (a : Int) : EB (W.setCell ⟨g, 1, none⟩ (.int .i64 a)) g s a va vm vb c h st vl := by
 have := heap_setCell_same W g 1 _ _ (.int .i64 a) e
 unfold EB; rw [this]; simp
theorem EB.set6 (e : EB W g s at_ va vm vb c h st vl) (b : Bool) : EB (W.setCell ⟨g, 6, none⟩ (.bool b)) g s at_ va vm vb c b st vl := by
 have := heap_setCell_same W g 6 _ _ (.bool b) e
 unfold EB; rw [this]; simp
theorem EB.set7 (e : EB W g s at_ va vm vb c h st vl) (b : Bool) : EB (W.setCell ⟨g, 7, none⟩ (.bool b)) g s at_ va vm vb c h b vl := by
 have := heap_setCell_same W g 7 _ _ (.bool b) e
 unfold EB; rw [this]; simp
theorem EB.set0 (e : EB W g s at_ va vm vb c h st vl) (t : List UInt8) : EB (W.setCell ⟨g, 0, none⟩ (.string ⟨t.toArray⟩)) g t at_ va vm vb c h st vl := by
 have := heap_setCell_same W g 0 _ _ (.string ⟨t.toArray⟩) e
 unfold EB; rw [this]; simp
end
/-- Of what was there, the examiner's box alone is turned. -/
def OneBox (g : Nat) (w w' : World) : Prop := w.heap.size ≤ w'.heap.size ∧ (∀ q, q < w.heap.size → q ≠ g → w'.heap[q]? = w.heap[q]?) ∧ Below g w w'
theorem OneBox.refl (g : Nat) (w : World) : OneBox g w w := ⟨Nat.le_refl _, fun _ _ _ => rfl, Below.refl _ _⟩
theorem OneBox.alloc {g : Nat} {a w : World} (h : OneBox g a w) (hg : g < a.heap.size) (o : Obj) : OneBox g a (w.alloc o) :=
 ⟨by have := h.1; simp; omega, fun q h1 h2 => (Below.heap_alloc _ _ _ (Nat.lt_of_lt_of_le h1 h.1)).trans (h.2.1 q h1 h2), h.2.2.alloc (by have := h.1; omega) o⟩
theorem OneBox.set {g : Nat} {a w : World} (h : OneBox g a w) (o : Nat) (v : Value) : OneBox g a (w.setCell ⟨g, o, none⟩ v) :=
 ⟨by have := h.1; simpa using this, fun q h1 h2 => (Below.heap_setCell _ _ _ _ (by dsimp only; exact h2)).trans (h.2.1 q h1 h2), h.2.2.setCell (p := ⟨g, o, none⟩) (Nat.le_refl _) v⟩
set_option maxRecDepth 100000 in
set_option maxHeartbeats 1000000 in
theorem pass_word (kd ps st : Nat) (tx : List UInt8) (g : Nat) (s : List UInt8) (at_ : Int) (va vm vb vl : Value) (c str : Bool) (w : World) (he : EB w g s at_ va vm vb c false str vl) (h2 : kd ≠ 2) (h3 : kd ≠ 3) :
  Calls Tryz.prog 16 #[.pointer (some ⟨g, 0, none⟩), .agg #[.int .i64 kd, .int .i64 ps, .int .i64 st, .string ⟨tx.toArray⟩]] w fun e w' => e = .returned (.tuple #[]) ∧ EB w' g s st va vm vb (c && kd == 1 && AX.introB tx) false str vl ∧ OneBox g w w' := by
 have hgs := he.lt
 obtain ⟨V, hV⟩ : ∃ V, V = w.setCell ⟨g, 1, none⟩ (.int .i64 st) := ⟨_, rfl⟩
 have e1 : EB V g s st va vm vb c false str vl := by rw [hV]; exact he.set1 _
 have hVs : V.heap.size = w.heap.size := by rw [hV]; simp
 have hV1 : OneBox g w V := by rw [hV]; exact (OneBox.refl g w).set 1 _
 obtain ⟨X, hX⟩ : ∃ X, X = V.alloc (.cells #[.int .i64 kd, .int .i64 ps, .int .i64 st, .string ⟨tx.toArray⟩] 46) := ⟨_, rfl⟩
 have e2 : EB X g s st va vm vb c false str vl := by rw [hX]; exact e1.new (balloc V _)
 have hX1 : OneBox g w X := by rw [hX]; exact hV1.alloc hgs _
 have hnX : X.heap[w.heap.size]? = some (.cells #[.int .i64 kd, .int .i64 ps, .int .i64 st, .string ⟨tx.toArray⟩] 46 (0, 0)) := by rw [hX, ← hVs]; exact al_new V _
 obtain ⟨-, w1, -⟩ := he.cells
 have wf := he.thaw 1
 obtain ⟨-, -, -, -, -, x5, x6, -⟩ := e2.cells
 have f5 := e2.thaw 5
 have t0 : X.cell? ⟨w.heap.size, 0, none⟩ = some (.int .i64 kd) := Lib.cell_of_heap hnX 0
 have t3 : X.cell? ⟨w.heap.size, 3, none⟩ = some (.string ⟨tx.toArray⟩) := Lib.cell_of_heap hnX 3
 have HX := Lib.hid (show X = (w.setCell ⟨g, 1, none⟩ (.int .i64 st)).alloc (.cells #[.int .i64 kd, .int .i64 ps, .int .i64 st, .string ⟨tx.toArray⟩] 46) by rw [hX, hV])
 have HI := Lib.hid (introduces_any tx X)
 have HF := Lib.hid (fun b => show EB (X.setCell ⟨g, 5, none⟩ (.bool b)) g s st va vm vb b false str vl ∧ OneBox g w (X.setCell ⟨g, 5, none⟩ (.bool b)) from ⟨e2.set5 b, hX1.set _ _⟩)
 have k2 : ((kd : Int) == 2) = false := by rw [beq_eq_false_iff_ne]; omega
 have k3 : ((kd : Int) == 3) = false := by rw [beq_eq_false_iff_ne]; omega
 obtain ⟨k1, hk1⟩ : ∃ k1, (kd == 1) = k1 := ⟨_, rfl⟩
 have k4 : ((kd : Int) == 1) = k1 := by rw [← hk1]; cases h : (kd == 1) <;> simp_all <;> omega
 rw [hk1]
 clear he e1 hV1 hX hV e2 hX1 hnX h2 h3 hk1 hVs
 cases c
 case false =>
  go_enter Tryz.func16, Tryz.ntmps16
  go_upto_region 2 with (fail)
  rw [← HX.out]
  go_wp2
  first | go_end0 | refine bodyPost_ret (results_none rfl _ _ _) rfl ?_
  exact ⟨rfl, HF.out _⟩
 case true =>
  cases k1
  case false =>
   go_enter Tryz.func16, Tryz.ntmps16
   go_upto_region 2 with (fail)
   rw [← HX.out]
   go_wp2
   first | go_end0 | refine bodyPost_ret (results_none rfl _ _ _) rfl ?_
   exact ⟨rfl, HF.out _⟩
  case true =>
   go_enter Tryz.func16, Tryz.ntmps16
   go_upto_region 2 with (fail)
   rw [← HX.out]
   go_wp2_with fail
   refine HI.out.mono ?_
   rintro e X1 ⟨rfl, rfl⟩
   go_wp2
   first | go_end0 | refine bodyPost_ret (results_none rfl _ _ _) rfl ?_
   exact ⟨rfl, HF.out _⟩
end W
end Go.Proofs.YtcbdhheelddgeaaGreatDoor
namespace Go.Proofs.YtcbdhheelddgeaaGreatDoor
open Go.RowKit K
namespace W
def opsL : List (List UInt8) := [[59], [38], [38, 38], [124, 124], [124], [40]]
set_option maxRecDepth 100000 in
set_option maxHeartbeats 1000000 in
theorem pass_op (ps st : Nat) (tx : List UInt8) (g : Nat) (s : List UInt8) (at_ : Int) (va vm vb vl : Value) (c str : Bool) (w : World) (he : EB w g s at_ va vm vb c false str vl) :
  Calls Tryz.prog 16 #[.pointer (some ⟨g, 0, none⟩), .agg #[.int .i64 2, .int .i64 ps, .int .i64 st, .string ⟨tx.toArray⟩]] w fun e w' => e = .returned (.tuple #[]) ∧ EB w' g s st va vm vb (AX.opensB tx) (tx == [60, 60] || tx == [60, 60, 45]) (tx == [60, 60, 45]) vl ∧ OneBox g w w' := by
 obtain ⟨b1, hb1⟩ : ∃ b1, (tx == [60, 60]) = b1 := ⟨_, rfl⟩
 obtain ⟨b2, hb2⟩ : ∃ b2, (tx == [60, 60, 45]) = b2 := ⟨_, rfl⟩
 have hgs := he.lt
 obtain ⟨V, hV⟩ : ∃ V, V = w.setCell ⟨g, 1, none⟩ (.int .i64 st) := ⟨_, rfl⟩
 have e1 : EB V g s st va vm vb c false str vl := by rw [hV]; exact he.set1 _
 have hVs : V.heap.size = w.heap.size := by rw [hV]; simp
 have hV1 : OneBox g w V := by rw [hV]; exact (OneBox.refl g w).set 1 _
 obtain ⟨X, hX⟩ : ∃ X, X = V.alloc (.cells #[.int .i64 2, .int .i64 ps, .int .i64 st, .string ⟨tx.toArray⟩] 46) := ⟨_, rfl⟩
 have e2 : EB X g s st va vm vb c false str vl := by rw [hX]; exact e1.new (balloc V _)
 have hX1 : OneBox g w X := by rw [hX]; exact hV1.alloc hgs _
 have hXs : X.heap.size = w.heap.size + 1 := by rw [hX]; simp [hVs]
 have hnX : X.heap[w.heap.size]? = some (.cells #[.int .i64 2, .int .i64 ps, .int .i64 st, .string ⟨tx.toArray⟩] 46 (0, 0)) := by rw [hX, ← hVs]; exact al_new V _
 obtain ⟨Y, hY⟩ : ∃ Y, Y = (X.setCell ⟨g, 6, none⟩ (.bool (b1 || b2))).setCell ⟨g, 7, none⟩ (.bool b2) := ⟨_, rfl⟩
 have e3 : EB Y g s st va vm vb c (b1 || b2) b2 vl := by rw [hY]; exact (e2.set6 _).set7 _
 have hY1 : OneBox g w Y := by rw [hY]; exact (hX1.set 6 _).set 7 _
 have hYs : Y.heap.size = w.heap.size + 1 := by rw [hY]; simp [hXs]
 obtain ⟨Z, hZ⟩ : ∃ Z, Z = Y.alloc (.cells #[.string ⟨#[59]⟩, .string ⟨#[38]⟩, .string ⟨#[38, 38]⟩, .string ⟨#[124, 124]⟩, .string ⟨#[124]⟩, .string ⟨#[40]⟩] 9) := ⟨_, rfl⟩
 have e4 : EB Z g s st va vm vb c (b1 || b2) b2 vl := by rw [hZ]; exact e3.new (balloc Y _)
 have hZ1 : OneBox g w Z := by rw [hZ]; exact hY1.alloc hgs _
 have hnZ : Z.heap[w.heap.size + 1]? = some (.cells #[.string ⟨#[59]⟩, .string ⟨#[38]⟩, .string ⟨#[38, 38]⟩, .string ⟨#[124, 124]⟩, .string ⟨#[124]⟩, .string ⟨#[40]⟩] 9 (0, 0)) := by rw [hZ, ← hYs]; exact al_new Y _
 obtain ⟨-, w1, -, -, -, -, w6, w7, -⟩ := he.cells
 have wf := he.thaw 1
 obtain ⟨-, -, -, -, -, x5, x6, x7, -⟩ := e2.cells
 have f5 := e2.thaw 5
 have f6 := e2.thaw 6
 have f7 := e2.thaw 7
 have t0 : X.cell? ⟨w.heap.size, 0, none⟩ = some (.int .i64 2) := Lib.cell_of_heap hnX 0
 have t3 : X.cell? ⟨w.heap.size, 3, none⟩ = some (.string ⟨tx.toArray⟩) := Lib.cell_of_heap hnX 3
 have HX := Lib.hid (show X = (w.setCell ⟨g, 1, none⟩ (.int .i64 st)).alloc (.cells #[.int .i64 2, .int .i64 ps, .int .i64 st, .string ⟨tx.toArray⟩] 46) by rw [hX, hV])
 have HC := Lib.hid (Contains_str opsL tx (w.heap.size + 1) 6 Z (fun j x hx => by
  match j, hx with
  | 0, h => simp [opsL] at h; subst h; exact Lib.cell_of_heap hnZ 0
  | 1, h => simp [opsL] at h; subst h; exact Lib.cell_of_heap hnZ 1
  | 2, h => simp [opsL] at h; subst h; exact Lib.cell_of_heap hnZ 2
  | 3, h => simp [opsL] at h; subst h; exact Lib.cell_of_heap hnZ 3
  | 4, h => simp [opsL] at h; subst h; exact Lib.cell_of_heap hnZ 4
  | 5, h => simp [opsL] at h; subst h; exact Lib.cell_of_heap hnZ 5
  | n + 6, h => simp [opsL] at h) (by decide))
 have HF := Lib.hid (fun b => show EB (Z.setCell ⟨g, 5, none⟩ (.bool b)) g s st va vm vb b (b1 || b2) b2 vl ∧ OneBox g w (Z.setCell ⟨g, 5, none⟩ (.bool b)) from ⟨e4.set5 b, hZ1.set _ _⟩)
 obtain ⟨-, -, -, -, -, z5, -⟩ := e4.cells
 have zf := e4.thaw 5
 have HZ := Lib.hid (show Z = ((X.setCell ⟨g, 6, none⟩ (.bool (b1 || b2))).setCell ⟨g, 7, none⟩ (.bool b2)).alloc (.cells #[.string ⟨#[59]⟩, .string ⟨#[38]⟩, .string ⟨#[38, 38]⟩, .string ⟨#[124, 124]⟩, .string ⟨#[124]⟩, .string ⟨#[40]⟩] 9) by rw [hZ, hY])
 have hopens : AX.opensB tx = opsL.contains tx := rfl
 rw [hopens, hb1, hb2]
 obtain ⟨bo, hbo⟩ : ∃ bo, opsL.contains tx = bo := ⟨_, rfl⟩
 rw [hbo] at HC ⊢
 clear hbo
 have hgx : g < X.heap.size := by omega
 have hsx : w.heap.size < X.heap.size := by omega
 have hgw : g ≠ w.heap.size := by omega
 clear he e1 hV1 hX hV e2 hX1 hnX hVs e3 hY1 hYs hY hZ hnZ e4 hZ1 hopens
 cases b1
 case false =>
  have HZ2 := HZ.out
  simp only [Bool.false_or] at HZ2
  have HZ3 := Lib.hid HZ2
  clear HZ2 HZ
  go_enter Tryz.func16, Tryz.ntmps16
  go_upto_region 2 with (fail)
  rw [← HX.out]
  go_upto_region 15 with (fail)
  go_wp2_with fail
  rw [← HZ3.out]
  refine HC.out.mono ?_
  rintro e Z1 ⟨rfl, rfl⟩
  go_wp2
  first | go_end0 | refine bodyPost_ret (results_none rfl _ _ _) rfl ?_
  exact ⟨rfl, HF.out _⟩
 case true =>
  have HZ2 := HZ.out
  simp only [Bool.true_or] at HZ2
  have HZ3 := Lib.hid HZ2
  clear HZ2 HZ
  go_enter Tryz.func16, Tryz.ntmps16
  go_upto_region 2 with (fail)
  rw [← HX.out]
  go_upto_region 15 with (fail)
  go_wp2_with fail
  rw [← HZ3.out]
  refine HC.out.mono ?_
  rintro e Z1 ⟨rfl, rfl⟩
  go_wp2
  first | go_end0 | refine bodyPost_ret (results_none rfl _ _ _) rfl ?_
  exact ⟨rfl, HF.out _⟩
end W
end Go.Proofs.YtcbdhheelddgeaaGreatDoor
