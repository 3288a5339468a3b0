/- Chapter 34: Show of the reference. -/
import Derived.Test.YtfigidknocpdaaaDoorW34m
import Derived.Deep.RegionHeldLaw
namespace Go.Proofs.YtfigidknocpdaaaDoor
open Go.RowKit K
namespace K
theorem step_append_own {P : Program} {ops : Array Oper} {o : Oper} {a : Act} {w : World} {K : Act → World → Prop} {Q : Exit → Act → World → Prop} {E : Prop}
    (hg : o.guard = none) (s x : Operand) (t : TypeId) (hop : o.op = Op.call { callee := Callee.builtin Builtin.append, args := #[s, x], argTypes := #[t, t] })
    (base : Nat) (e : TypeId) (i : TypeInfo) (z : Value) (size bytes : Nat) (ht : P.underlying t = some (.slice e)) (hi : P.info? e = some i) (hz : i.zero = some z)
    (hsize : i.size = size) (hby : i.bytes = bytes) (hzs : z.cells.size = size) (hsz : 0 < size)
    (v : Value) (n : Nat) (xs : List Value) (hs : a.eval s = v) (hown : w.ownsRow base e size v n xs)
    (ad : Addr) (m c : Nat) (news : List Value) (hx : a.eval x = .slice (some ad) m c) (hl : news.length = m * size) (hnews : ∀ j u, news[j]? = some u → w.cell? (ad.add j) = some u) (h1 : ∀ u ∈ news, u.oneCell' = true)
    (h63 : n + m ≤ maxLen) (hbytes : (n + m) * bytes ≤ 140737488355328) (hbase : base ≤ w.heap.size)
    (hK : ∀ v' w', w'.ownsRow base e size v' (n + m) (xs ++ news) → w.grownBy w' v.ownBlock → K (a.put o.dst v') w') :
    if Region.wanted o (yielded ops a.tmps) = true then Oper.wp P o a w K Q else E := by
  have hw : Region.wanted o (yielded ops a.tmps) = true := by simp [Region.wanted, hg]
  rw [if_pos hw]
  obtain ⟨v', w', hr, h2, h3, _⟩ := run_append_own (P := P) w base t o.type e i z size bytes ht hi hz hsize hby hzs hsz v n xs hown ad m c news hl hnews h1 h63 hbytes hbase
  unfold Oper.wp
  simp [execOp, hop, resolve, invoke, builtin, hs, hx, hr, Result.andThen]
  exact hK v' w' h2 h3
end K
namespace W
set_option maxRecDepth 100000 in
set_option maxHeartbeats 2000000 in
theorem Show_ref (v : Value) (ts : List Tr) (w : World) (hV : TV w v ts) (hn : ts.length ≤ 1000) (hz : ∀ t ∈ ts, 0 ≤ t.1 ∧ t.1 ≤ 20 ∧ t.2.length ≤ 1000) :
    Calls Tryd.prog 27 #[v] w (SPost w (P.shows ts)) := by
  obtain ⟨i0, hi, hz0, hz1, hz2⟩ := info_parts infoStr
  obtain ⟨A, c, rfl, hc1, hc2, -, hT⟩ := hV
  obtain ⟨R, hR⟩ : ∃ R, P.shows ts = R := ⟨_, rfl⟩
  rw [hR]
  have HR := Lib.hid (show ts.map P.showLine = R from hR)
  have HT := Lib.hid hT
  have HZ := Lib.hid hz
  clear hR hT hz
  go_enter Tryd.func27, Tryd.ntmps27
  go_wp2
  go_loopw [3, 4] (fun o i wr => ∃ (k : Nat) (acc : List (List UInt8)), k ≤ ts.length ∧ i = .int .i64 k ∧ acc.length ≤ k ∧ wr.ownsRow w.heap.size 9 1 o acc.length (acc.map fun s => .string ⟨s.toArray⟩) ∧ Below w.heap.size w wr ∧ Hid (acc ++ (ts.drop k).map P.showLine = R)) (fun _ i _ => ts.length - (intOf i).toNat)
  case atStart => exact ⟨0, [], by omega, rfl, by simp, World.ownsRow_nil _ _ _ _, Below.refl _ _, by show _ = _; simpa using HR.out⟩
  case round =>
    obtain ⟨k, acc, hk, rfl, hac, hown, hbw, HN⟩ := hrel
    by_cases hlt : k < ts.length
    · obtain ⟨b, off, rfl, hb, hc0w, hc1w⟩ := HT.out.get hlt
      have HD := Lib.hid (drop_getT hlt)
      have hmem : ts.getD k (0, []) ∈ ts := by rw [List.getD_eq_getElem?_getD, List.getElem?_eq_getElem hlt]; exact List.getElem_mem hlt
      obtain ⟨b1, b2, b3⟩ := HZ.out _ hmem
      obtain ⟨⟨z, s⟩, ht⟩ : ∃ t, ts.getD k (0, []) = t := ⟨_, rfl⟩
      rw [ht] at HD hc0w hc1w b1 b2 b3
      simp only at hc0w hc1w b1 b2 b3
      have HL := Lib.hid (show acc ++ [P.showLine (z, s)] ++ (ts.drop (k + 1)).map P.showLine = R by rw [← HN.out, HD.out]; simp)
      have HLN := Lib.hid (show P.showLine (z, s) = [116, 114, 97, 112, 32, 45, 45, 32] ++ P.quote s ++ [32] ++ P.trapName z from rfl)
      generalize P.showLine (z, s) = line at HL HLN
      have hnl := P.trapName_le z b1 b2
      have hql := P.quote_len s
      have HQ := Lib.hid (show ∀ w1, Calls Tryd.prog 47 #[.string ⟨s.toArray⟩] w1 fun e w' => e = .returned (.string ⟨(P.quote s).toArray⟩) ∧ w1 = w' from fun w1 => Quote_ref s w1 (by omega))
      have HNM := Lib.hid (show ∀ w1, Calls Tryd.prog 48 #[.int .i64 z] w1 fun e w' => e = .returned (.string ⟨(P.trapName z).toArray⟩) ∧ w1 = w' from fun w1 => name_ref z w1 b1 b2)
      obtain ⟨nm, hnm⟩ : ∃ nm, P.trapName z = nm := ⟨_, rfl⟩
      rw [hnm] at HLN hnl HNM
      obtain ⟨q, hq⟩ : ∃ q, P.quote s = q := ⟨_, rfl⟩
      rw [hq] at HQ HLN hql
      have hsz := hbw.size
      have HO := Lib.hid hown
      have HB := Lib.hid hbw
      have k0 : (0 : Int) ≤ (k : Int) := by omega
      have k1 : (k : Int) < (ts.length : Int) := by omega
      have HAPP := Lib.hid (show (acc.map fun s => Value.string ⟨s.toArray⟩) ++ [Value.string ⟨line.toArray⟩] = (acc ++ [line]).map fun s => Value.string ⟨s.toArray⟩ by simp)
      clear ht hmem HN HD hnm hq hown hbw
      have HKP := Lib.hid (show ∀ w', Below w.heap.size w w' → (w'.cell? ⟨b, off + k * 2, none⟩ = some (.int .i64 z) ∧ w'.cell? ⟨b, off + k * 2 + 1, none⟩ = some (.string ⟨s.toArray⟩) ∧ Below w.heap.size w w') from fun w' h => ⟨(h.cell (p := ⟨b, off + k * 2, none⟩) hb).trans hc0w, (h.cell (p := ⟨b, off + k * 2 + 1, none⟩) hb).trans hc1w, h⟩)
      obtain ⟨hc0, hc1', -⟩ := HKP.out wr HB.out
      clear hc0w hc1w
      go_wp2_with fail
      go_region_held_law (fun w' => w'.cell? ⟨b, off + k * 2, none⟩ = some (.int .i64 z) ∧ w'.cell? ⟨b, off + k * 2 + 1, none⟩ = some (.string ⟨s.toArray⟩) ∧ Below w.heap.size w w')
        (first | exact HKP.out _ HB.out.drew | exact HKP.out _ (HB.out.alloc HB.out.size _).drew | exact hkp3 | (go_split_ands; exact HKP.out _ ‹_›) | go_keep)
        (first
          | (refine step_append_own rfl _ _ 38 rfl w.heap.size 9 i0 (.string ⟨#[]⟩) 1 16 Tryd.underlying38 hi hz0 hz1 hz2 rfl (by decide) u3 acc.length _ rfl (own_below HO.out ((Below.refl _ _).alloc (Nat.le_refl _) _).drew) ⟨wr.heap.size, 0, none⟩ 1 1 [.string _] rfl rfl (one_cells wr _ _) (one_str _) (by unfold maxLen; omega) (by omega) (by simp; omega) ?_; intro v3 w3 hown3 hgrow3; have hkp3 := HKP.out w3 ((HB.out.alloc HB.out.size _).drew.grown hgrow3 (by simp; omega) (fun j hj => (HO.out.lt j hj).1)))
          | (go_at_call 47; refine (HQ.out _).mono ?_; rintro e w1 ⟨rfl, rfl⟩)
          | (go_at_call 48; refine (HNM.out _).mono ?_; rintro e w1 ⟨rfl, rfl⟩))
      all_goals first
        | (exfalso; omega)
        | (have hown4 : w3.ownsRow w.heap.size 9 1 v3 (acc.length + 1) ((acc ++ [line]).map fun s => .string ⟨s.toArray⟩) := by
             rw [← HAPP.out, HLN.out]
             simpa using hown3
           have HO4 := Lib.hid hown4
           have HB3 := Lib.hid hkp3.2.2
           clear hown3 hgrow3 hown4 hkp3
           go_wp2
           go_roundw
           case rel => exact ⟨k + 1, acc ++ [line], by omega, by go_num, by simp; omega, by simpa using HO4.out, HB3.out, HL.out⟩
           case measure => simp [intOf]; omega)
    · have HF := Lib.hid (show acc = R by have := HN.out; rw [List.drop_eq_nil_of_le (by omega)] at this; simpa using this)
      have HB := Lib.hid hbw
      have HO := Lib.hid hown
      clear hown hbw
      go_wp2
      go_ret
      exact ⟨_, rfl, by rw [← HF.out]; exact HO.out, HB.out⟩
end W
end Go.Proofs.YtfigidknocpdaaaDoor
