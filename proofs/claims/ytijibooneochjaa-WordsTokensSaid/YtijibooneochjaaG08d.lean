/- Words: Literal. -/
import Derived.Test.YtijibooneochjaaG08c
namespace Go.Proofs.Ytijibooneochjaa
open Go.RowKit K
open WP (GP gp gpL)
namespace W
def litStr : Option (List UInt8) → List UInt8 | none => [] | some s => s
/-- What Literal gives. -/
def LitOut (B : Nat) (w : World) (R : Option (List UInt8)) (e : Ending) (w' : World) : Prop := e = .returned (.tuple #[.string ⟨(litStr R).toArray⟩, .bool R.isSome]) ∧ Below B w w'
def app (acc : List UInt8) (r : Option (List UInt8)) : Option (List UInt8) := r.map (acc ++ ·)
theorem app_none (acc : List UInt8) : app acc none = none := rfl
theorem app_nil (acc : List UInt8) : app acc (some []) = some acc := by unfold app; rw [Option.map_some, List.append_nil]
theorem app_app (a b : List UInt8) (r : Option (List UInt8)) : app a (app b r) = app (a ++ b) r := by cases r <;> simp [app]
theorem lit_drop {l : List GP} {k : Nat} {p : GP} (h : l.drop k = p :: l.drop (k + 1)) : WP.glit (l.drop k) = (WP.glit1 p).bind fun a => app a (WP.glit (l.drop (k + 1))) := by rw [h, WP.glit]; rfl
theorem litIn_drop {l : List GP} {k : Nat} {p : GP} (h : l.drop k = p :: l.drop (k + 1)) : WP.glitIn (l.drop k) = if p.kind = 1 then app p.text (WP.glitIn (l.drop (k + 1))) else none := by rw [h, WP.glitIn]; rfl
theorem siz_drop {l : List GP} {k : Nat} {p : GP} (h : l.drop k = p :: l.drop (k + 1)) : WP.sizL (l.drop k) = WP.sizP p + WP.sizL (l.drop (k + 1)) := by rw [h, WP.sizL]
theorem bind_app (t : List UInt8) (X G : Option (List UInt8)) : ((app t X).bind fun a => app a G) = app t (X.bind fun a => app a G) := by
  cases X with
  | none => rfl
  | some x => exact (app_app t x G).symm
/-- What is still to be read of a double-quoted part and of the parts behind it. -/
def inG (ps : List GP) (G : Option (List UInt8)) : Option (List UInt8) := (WP.glitIn ps).bind fun a => app a G
theorem inG_nil (G : Option (List UInt8)) : inG [] G = G := by
  show app [] G = G
  cases G <;> rfl
theorem inG_yes {ps : List GP} {j : Nat} {k : Int} {t : List UInt8} {o : Int} {c : Bool} {qs : List GP} (G : Option (List UInt8)) (h : ps.drop j = .mk k t o c qs :: ps.drop (j + 1)) (hk : k = 1) : inG (ps.drop j) G = app t (inG (ps.drop (j + 1)) G) := by
  unfold inG
  rw [litIn_drop h, if_pos (show (GP.mk k t o c qs).kind = 1 from hk), bind_app]
  rfl
theorem inG_no {ps : List GP} {j : Nat} {k : Int} {t : List UInt8} {o : Int} {c : Bool} {qs : List GP} (G : Option (List UInt8)) (h : ps.drop j = .mk k t o c qs :: ps.drop (j + 1)) (hk : ¬ k = 1) : inG (ps.drop j) G = none := by
  unfold inG
  rw [litIn_drop h, if_neg (show ¬ (GP.mk k t o c qs).kind = 1 from hk)]
  rfl
theorem WriteString_lit (b : Nat) (l s : List UInt8) (w : World) (h : Bld b l w) (hlen : l.length ≤ 1000000) (hs : s.length ≤ 1000000) :
    Calls Try.prog 31 #[.pointer (some ⟨b, 0, none⟩), .string ⟨s.toArray⟩] w fun e w' => e = .returned (.tuple #[.int .i64 s.length, .nilIface]) ∧ Bld b (l ++ s) w' ∧ Below b w w' :=
  (WriteString_k b l s w h (by omega) (by omega)).mono fun _ _ ⟨h1, h2, h3⟩ => ⟨h1, h2, h3.below⟩
set_option maxRecDepth 100000 in
set_option maxHeartbeats 8000000 in
theorem Literal_any (v : Value) (l : List GP) (w : World) (h : GS w (fun b => b < w.heap.size) v l) (hn : WP.cntL l ≤ 1000000) (hz : WP.sizL l ≤ 1000000) :
    Calls Try.prog 11 #[v] w (LitOut w.heap.size w (WP.glit l)) := by
  obtain ⟨A, cap, rfl⟩ := h.slice
  have HG := Lib.hid h
  have hll := len_cnt l
  have HCN := Lib.hid hn
  obtain ⟨R, hR⟩ : ∃ R, WP.glit l = R := ⟨_, rfl⟩
  rw [hR]
  have HR := Lib.hid (show app [] (WP.glit (l.drop 0)) = R by rw [← hR]; show app [] (WP.glit l) = _; cases WP.glit l <;> rfl)
  have hn1 : l.length ≤ 1000000 := by omega
  have HZ := Lib.hid (show ([] : List UInt8).length + WP.sizL (l.drop 0) ≤ 1000000 from by rw [List.length_nil, Nat.zero_add]; exact hz)
  obtain ⟨V, hV⟩ : ∃ V, V = w.alloc (.cells #[.pointer none, .slice none 0 0] 73) := ⟨_, rfl⟩
  have HBV := Lib.hid (show Bld w.heap.size [] V from by
    unfold Bld
    refine .inl ⟨Nat.le_refl _, .slice none 0 0, ?_, ⟨rfl, .inl ⟨rfl, rfl⟩⟩, by simp [Value.ownBlock]⟩
    rw [hV]
    exact al_new w _)
  have HWV := Lib.hid (show Below w.heap.size w V by rw [hV]; exact balloc _ _)
  have hws : w.heap.size < V.heap.size := by rw [hV]; simp
  have HV := Lib.hid hV
  clear hR h hz hn hV hll
  go_enter Try.func11, Try.ntmps11
  go_wp2
  rw [← HV.out]
  go_loopw [11] (fun i wr => ∃ k acc, k ≤ l.length ∧ i = .int .i64 (k : Nat) ∧ Hid (app acc (WP.glit (l.drop k)) = R) ∧ Hid (acc.length + WP.sizL (l.drop k) ≤ 1000000) ∧ Hid (Bld w.heap.size acc wr) ∧ Hid (Below w.heap.size w wr)) (fun i _ => l.length - (intOf i).toNat)
  case atStart => exact ⟨0, [], Nat.zero_le _, rfl, HR, HZ, HBV, HWV⟩
  case round =>
    obtain ⟨k, acc, hk, rfl, HN, HA, HBL, HB⟩ := hrel
    have HLT := Lib.hid HBL.out.lt
    have HFAIL := Lib.hid (show R = none → ∀ Y, Below w.heap.size w Y → LitOut w.heap.size w R (.returned (.tuple #[.string ⟨#[]⟩, .bool false])) Y from fun e Y hY => by rw [e]; exact ⟨rfl, hY⟩)
    by_cases hlt : k < l.length
    · obtain ⟨p, hp, hd⟩ := get_of_lt hlt
      have HQ := Lib.hid (lit_drop hd)
      have HSZ := Lib.hid (siz_drop hd)
      obtain ⟨b, off, A2, cap2, rfl, hb, g0, g1, g2, g3, g4, hg⟩ := (HG.out.kept HB.out).get hp
      have hbr : b < wr.heap.size := Nat.lt_of_lt_of_le hb HB.out.size
      have HGP := Lib.hid hg
      have hcp := cnt_get hp
      have hcl := HCN.out
      clear hp hd hb hg
      obtain ⟨kd, t, o, c, ps⟩ := p
      have hpl := len_cnt ps
      dsimp only [WP.GP.kind, WP.GP.text, WP.GP.op, WP.GP.colon, WP.GP.parts] at g0 g1 g2 g3 g4 HGP hcp
      have hps : (0 : Int) ≤ (ps.length : Int) := by omega
      have hpm : ps.length ≤ 1000000 := by omega
      have HSP := Lib.hid (show WP.sizP (.mk kd t o c ps) = t.length + WP.sizL ps by rw [WP.sizP])
      obtain ⟨X, hX⟩ : ∃ X, X = wr.alloc (.cells #[.int .i64 kd, .string ⟨t.toArray⟩, .int .i64 o, .bool c, .slice A2 ps.length cap2] 64) := ⟨_, rfl⟩
      have HWX := Lib.hid (show Below wr.heap.size wr X by rw [hX]; exact balloc _ _)
      have hxp : X.heap[wr.heap.size]? = some (.cells #[.int .i64 kd, .string ⟨t.toArray⟩, .int .i64 o, .bool c, .slice A2 ps.length cap2] 64 (0, 0)) := by rw [hX]; exact al_new wr _
      have x0 := Lib.cell_of_heap hxp 0
      have x1 := Lib.cell_of_heap hxp 1
      have x4 := Lib.cell_of_heap hxp 4
      have HXB := Lib.hid (show Bld w.heap.size acc X from HBL.out.below HWX.out)
      have HX := Lib.hid hX
      have hwsr := HLT.out
      clear hX hxp hcp hcl hpl
      have hB0 := HB.out
      by_cases h12 : kd = 1 ∨ kd = 2
      · have HF := Lib.hid (show app (acc ++ t) (WP.glit (l.drop (k + 1))) = R by
          rw [← HN.out, HQ.out, WP.glit1, if_pos h12, ← app_app]; rfl)
        have HA2 := Lib.hid (show (acc ++ t).length + WP.sizL (l.drop (k + 1)) ≤ 1000000 by
          have h1 := HA.out; have h2 := HSZ.out; have h3 := HSP.out; rw [List.length_append]; omega)
        have HWS := Lib.hid (WriteString_lit w.heap.size acc t X HXB.out (by have := HA.out; omega) (by have := HA2.out; rw [List.length_append] at this; omega))
        rcases h12 with rfl | rfl
        all_goals
          go_wp2_with fail
          rw [← HX.out]
          refine HWS.out.mono ?_
          rintro e Y ⟨rfl, hby, hwy⟩
          have HBY := Lib.hid hby
          have HWY := Lib.hid ((HB.out.trans (HWX.out.mono HB.out.size)).trans hwy)
          clear hby hwy
          go_wp2
          go_roundw
          case rel => exact ⟨k + 1, acc ++ t, hlt, by go_num, HF, HA2, HBY, HWY⟩
          case measure => simp [intOf]; omega
      · have n1 := beq_f (fun e => h12 (.inl e))
        have n2 := beq_f (fun e => h12 (.inr e))
        by_cases h3 : kd = 3
        · subst h3
          obtain ⟨G, hG⟩ : ∃ G, WP.glit (l.drop (k + 1)) = G := ⟨_, rfl⟩
          have HGG := Lib.hid hG
          have HNI := Lib.hid (show app acc (inG (ps.drop 0) G) = R by rw [← HN.out, HQ.out, hG]; rfl)
          have HAI := Lib.hid (show acc.length + WP.sizL (ps.drop 0) + WP.sizL (l.drop (k + 1)) ≤ 1000000 by
            have h1 := HA.out; have h2 := HSZ.out; have h3 := HSP.out; show _ + WP.sizL ps + _ ≤ _; omega)
          have HBX := Lib.hid (HB.out.trans (HWX.out.mono HB.out.size))
          have HGX := Lib.hid (show GS X (fun b => b < w.heap.size) (.slice A2 ps.length cap2) ps from HGP.out.below HWX.out)
          clear hG hB0
          go_wp2
          rw [← HX.out]
          go_loopw [28] (fun i wr => ∃ j acc2, j ≤ ps.length ∧ i = .int .i64 (j : Nat) ∧ Hid (app acc2 (inG (ps.drop j) G) = R) ∧ Hid (acc2.length + WP.sizL (ps.drop j) + WP.sizL (l.drop (k + 1)) ≤ 1000000) ∧ Hid (Bld w.heap.size acc2 wr) ∧ Hid (Below w.heap.size X wr)) (fun i _ => ps.length - (intOf i).toNat)
          case atStart => exact ⟨0, acc, Nat.zero_le _, rfl, HNI, HAI, HXB, Lib.hid (Below.refl _ _)⟩
          case round =>
            clear HNI HAI x0 x1 x4 HX
            obtain ⟨j, acc2, hj, rfl, HN2, HA2, HBL2, HB2⟩ := hrel
            have HBW2 := Lib.hid (HBX.out.trans HB2.out)
            by_cases hjl : j < ps.length
            · obtain ⟨q, hq, hdq⟩ := get_of_lt hjl
              have HSZ2 := Lib.hid (siz_drop hdq)
              obtain ⟨b2, off2, A3, cap3, rfl, hb2, y0, y1, y2, y3, y4, -⟩ := (HGX.out.kept HB2.out).get hq
              have hbr2 : b2 < wr.heap.size := Nat.lt_of_lt_of_le hb2 HBW2.out.size
              obtain ⟨kd2, t2, o2, c2, qs⟩ := q
              have HDQ := Lib.hid hdq
              clear hq hdq hb2
              dsimp only [WP.GP.kind, WP.GP.text, WP.GP.op, WP.GP.colon, WP.GP.parts] at y0 y1 y2 y3 y4
              have hqs : (0 : Int) ≤ (qs.length : Int) := by omega
              have HSP2 := Lib.hid (show WP.sizP (.mk kd2 t2 o2 c2 qs) = t2.length + WP.sizL qs by rw [WP.sizP])
              obtain ⟨Z, hZ⟩ : ∃ Z, Z = wr.alloc (.cells #[.int .i64 kd2, .string ⟨t2.toArray⟩, .int .i64 o2, .bool c2, .slice A3 qs.length cap3] 64) := ⟨_, rfl⟩
              have HWZ := Lib.hid (show Below wr.heap.size wr Z by rw [hZ]; exact balloc _ _)
              have HZB := Lib.hid (show Bld w.heap.size acc2 Z from HBL2.out.below HWZ.out)
              have HZZ := Lib.hid hZ
              clear hZ
              by_cases h1 : kd2 = 1
              · subst h1
                have HF := Lib.hid (show app (acc2 ++ t2) (inG (ps.drop (j + 1)) G) = R by
                  rw [← HN2.out, inG_yes G HDQ.out rfl, ← app_app])
                have HA3 := Lib.hid (show (acc2 ++ t2).length + WP.sizL (ps.drop (j + 1)) + WP.sizL (l.drop (k + 1)) ≤ 1000000 by
                  have h1 := HA2.out; have h2 := HSZ2.out; have h3 := HSP2.out; rw [List.length_append]; omega)
                have HWS := Lib.hid (WriteString_lit w.heap.size acc2 t2 Z HZB.out (by have := HA2.out; omega) (by have := HA3.out; rw [List.length_append] at this; omega))
                go_wp2_with fail
                rw [← HZZ.out]
                refine HWS.out.mono ?_
                rintro e Y ⟨rfl, hby, hwy⟩
                have HBY := Lib.hid hby
                have HWY := Lib.hid ((HB2.out.trans (HWZ.out.mono HBW2.out.size)).trans hwy)
                clear hby hwy
                go_wp2
                go_roundw
                case rel => exact ⟨j + 1, acc2 ++ t2, hjl, by go_num, HF, HA3, HBY, HWY⟩
                case measure => simp [intOf]; omega
              · have m1 := beq_f h1
                have m1' : (kd2 != 1) = true := by simpa using h1
                have HF := Lib.hid (show R = none by rw [← HN2.out, inG_no G HDQ.out h1]; rfl)
                have HWY := Lib.hid (HBW2.out.trans (HWZ.out.mono HBW2.out.size))
                go_wp2
                go_ret2
                exact HFAIL.out HF.out _ (by rw [← HZZ.out]; exact HWY.out)
            · have HF := Lib.hid (show app acc2 (WP.glit (l.drop (k + 1))) = R by rw [← HN2.out, show ps.drop j = [] from List.drop_eq_nil_of_le (by omega), inG_nil, HGG.out])
              have HA3 := Lib.hid (show acc2.length + WP.sizL (l.drop (k + 1)) ≤ 1000000 by have := HA2.out; omega)
              go_wp2
              go_roundw
              case rel => exact ⟨k + 1, acc2, hlt, by go_num, HF, HA3, HBL2, HBW2⟩
              case measure => simp [intOf]; omega
        · have n3 := beq_f h3
          have HF := Lib.hid (show R = none by rw [← HN.out, HQ.out, WP.glit1, if_neg h12, if_neg h3]; rfl)
          go_wp2
          go_ret2
          exact HFAIL.out HF.out _ (by rw [← HX.out]; exact HB.out.trans (HWX.out.mono HB.out.size))
    · have HF := Lib.hid (show R = some acc by rw [← HN.out, List.drop_eq_nil_of_le (by omega), WP.glit, app_nil])
      have HST := Lib.hid (Try.Builder_String_any_k w.heap.size w.heap.size acc wr HBL.out (by have := HLT.out; omega))
      go_wp2_with fail
      refine HST.out.mono ?_
      rintro e Y ⟨rfl, -, hby, -⟩
      have HBY := Lib.hid (HB.out.trans hby)
      clear hby
      go_wp2
      go_ret2
      rw [HF.out]
      exact ⟨rfl, HBY.out⟩
end W
end Go.Proofs.Ytijibooneochjaa
