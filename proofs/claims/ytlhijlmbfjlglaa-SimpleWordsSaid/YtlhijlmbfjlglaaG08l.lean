/- Words: valid, Show and Valid. -/
import Derived.Test.YtlhijlmbfjlglaaG08k
import Derived.Test.YtlhijlmbfjlglaaYE
import Derived.Test.YtlhijlmbfjlglaaYA
namespace Go.Proofs.Ytlhijlmbfjlglaa
open Go.RowKit K
open WP (GP gp gpL)
namespace W
theorem parts_all : ∀ n, PartsN n := by
  intro n
  induction n with
  | zero => intro g w v pl op ps h; exact absurd h (Nat.not_lt_zero _)
  | succ n ih =>
    intro g w v pl op ps h hm hs hG
    exact parts_step ih g w v pl op ps (by omega) hm hs hG
/-- What a plain reading of Parse's outcome says of parts. -/
def sameR (l : List GP) (r : Except WP.Flt (List WP.Part)) : Bool := match r with | .error _ => false | .ok ps => WP.sameL l (gpL ps)
theorem validG_bad {l : List GP} (h : WP.badL l = true) : WP.validG l = ([], false) := by unfold WP.validG; rw [if_pos h]
theorem validG_ok {l : List GP} (h : WP.badL l = false) : WP.validG l = (WP.outL 0 false l, sameR l (WP.parse (WP.outL 0 false l) 0)) := by unfold WP.validG; rw [if_neg (by rw [h]; simp)]; rfl
set_option maxRecDepth 100000 in
set_option maxHeartbeats 8000000 in
theorem valid_any (hB : BrAll) (v : Value) (l : List GP) (w : World) (h : GS w (fun b => b < w.heap.size) v l) (hz : 2 * WP.sizL l + 8 * WP.cntL l ≤ 100000) :
    Calls Try.prog 31 #[v] w fun e w' => e = .returned (.tuple #[.string ⟨(WP.validG l).1.toArray⟩, .bool (WP.validG l).2]) ∧ Below w.heap.size w w' := by
  obtain ⟨A, cap, rfl⟩ := h.slice
  have hol := WP.outL_len 0 false l
  obtain ⟨X, hX⟩ : ∃ X, X = w.alloc (.cells #[.pointer none, .slice none 0 0, .bool false] 98) := ⟨_, rfl⟩
  have HWX := Lib.hid (show Below w.heap.size w X by rw [hX]; exact balloc _ _)
  have hxs : w.heap.size < X.heap.size := by rw [hX]; simp
  have HWB := Lib.hid (show WB w.heap.size [] false X from ⟨.pointer none, .slice none 0 0, .inl rfl, by rw [hX]; exact al_new w _, ⟨rfl, .inl ⟨rfl, rfl⟩⟩, fun _ => rfl⟩)
  have HGX := Lib.hid (h.below HWX.out)
  have HP := Lib.hid (parts_all (WP.cntL l + 1) w.heap.size X (.slice A l.length cap) 0 false l (Nat.lt_succ_self _) (by omega) (by omega) HGX.out X [] false (Bkept.refl _ _) HWB.out (by rw [List.length_nil]; omega))
  rw [List.nil_append, Bool.false_or] at HP
  have HX := Lib.hid hX
  obtain ⟨O, hO⟩ : ∃ O, WP.outL 0 false l = O := ⟨_, rfl⟩
  rw [hO] at HP hol
  have HOL := Lib.hid (show O.length ≤ 100000 by omega)
  have HCN := Lib.hid (show WP.cntL l ≤ 1000000 by omega)
  have HBR := Lib.hid hB
  have hln := len_cnt l
  have hl0 : l.length ≤ 100000 := by omega
  cases hb : WP.badL l with
  | true =>
    have HV := Lib.hid (validG_bad hb)
    rw [HV.out]
    rw [hb] at HP
    clear hb hX h hz hol hO hB hln
    go_enter Try.func31, Try.ntmps31
    go_wp2_with fail
    rw [← HX.out]
    refine HP.out.mono ?_
    rintro e Y ⟨rfl, hwb, hk⟩
    have HY := Lib.hid (HWX.out.trans hk.below)
    obtain ⟨p, u, -, hbl, -⟩ := hwb
    have y2 : Y.cell? ⟨w.heap.size, 2, none⟩ = some (.bool true) := Lib.cell_of_heap hbl 2
    clear hbl hk
    go_wp2
    go_ret2
    exact ⟨rfl, HY.out⟩
  | false =>
    have hvg := validG_ok hb
    rw [hO] at hvg
    rw [hb] at HP
    rw [hvg]
    clear hvg
    have HPS := Lib.hid (fun (Y : World) => Parse_any HBR.out O Y HOL.out)
    obtain ⟨R, hR⟩ : ∃ R, WP.parse O 0 = R := ⟨_, rfl⟩
    have HR := Lib.hid hR
    rw [hR] at HPS ⊢
    clear hb hX h hz hol hO hB hR hln
    dsimp only
    cases R with
    | error f =>
      have hf0 := beq_f (WP.parse_code HR.out)
      rw [show sameR l (.error f) = false from rfl]
      go_enter Try.func31, Try.ntmps31
      go_wp2_with fail
      rw [← HX.out]
      refine HP.out.mono ?_
      rintro e Y ⟨rfl, hwb, hk⟩
      have HY := Lib.hid (HWX.out.trans hk.below)
      have HST := Lib.hid (stringW w.heap.size O false Y hwb (by have := HOL.out; omega))
      obtain ⟨p, u, -, hbl, -⟩ := hwb
      have y2 : Y.cell? ⟨w.heap.size, 2, none⟩ = some (.bool false) := Lib.cell_of_heap hbl 2
      have HYS := Lib.hid (show w.heap.size ≤ Y.heap.size from (HWX.out.trans hk.below).size)
      clear hbl hk
      go_wp2_with fail
      refine HST.out.mono ?_
      rintro e Z ⟨rfl, hk⟩
      have HZ := Lib.hid (HY.out.trans hk.below)
      clear hk
      go_wp2_with fail
      refine (HPS.out Z).mono ?_
      rintro e U ⟨rfl, hbu⟩
      have HU := Lib.hid (HZ.out.trans (hbu.mono HZ.out.size))
      clear hbu
      go_wp2
      go_ret2
      exact ⟨rfl, HU.out⟩
    | ok ps =>
      have hps0 : (0 : Int) ≤ (ps.length : Int) := by omega
      obtain ⟨S, hS⟩ : ∃ S, sameR l (.ok ps) = S := ⟨_, rfl⟩
      have HS := Lib.hid (show WP.sameL l (gpL ps) = S from hS)
      rw [hS]
      clear hS
      go_enter Try.func31, Try.ntmps31
      go_wp2_with fail
      rw [← HX.out]
      refine HP.out.mono ?_
      rintro e Y ⟨rfl, hwb, hk⟩
      have HY := Lib.hid (HWX.out.trans hk.below)
      have HGY := Lib.hid (HGX.out.kept hk.below)
      have HST := Lib.hid (stringW w.heap.size O false Y hwb (by have := HOL.out; omega))
      obtain ⟨p, u, -, hbl, -⟩ := hwb
      have y2 : Y.cell? ⟨w.heap.size, 2, none⟩ = some (.bool false) := Lib.cell_of_heap hbl 2
      clear hbl hk
      go_wp2_with fail
      refine HST.out.mono ?_
      rintro e Z ⟨rfl, hk⟩
      have HZ := Lib.hid (HY.out.trans hk.below)
      have HGZ := Lib.hid (HGY.out.kept hk.below)
      clear hk
      go_wp2_with fail
      refine (HPS.out Z).mono ?_
      rintro e U ⟨A2, cap2, rfl, hbu, hrep⟩
      have HU := Lib.hid (HZ.out.trans (hbu.mono HZ.out.size))
      have HSM := Lib.hid (show Calls Try.prog 50 #[.slice A l.length cap, .slice A2 ps.length cap2] U fun e w' => e = .returned (.bool S) ∧ Below U.heap.size U w' from by
        have := Same_any l (gpL ps) (.slice A l.length cap) (.slice A2 ps.length cap2) U HCN.out (HGZ.out.up hbu) ((GS.of_rep (cap := cap2) hrep).mono fun b h1 h2 => ⟨h2, rfl⟩)
        rw [HS.out] at this
        exact this)
      clear hbu hrep
      go_wp2_with fail
      refine HSM.out.mono ?_
      rintro e Q ⟨rfl, hq⟩
      have HQ := Lib.hid (HU.out.trans (hq.mono HU.out.size))
      clear hq
      go_wp2
      go_ret2
      exact ⟨rfl, HQ.out⟩
theorem Valid_any (hB : BrAll) (v : Value) (l : List GP) (w : World) (h : GS w (fun b => b < w.heap.size) v l) (hz : 2 * WP.sizL l + 8 * WP.cntL l ≤ 100000) :
    Calls Try.prog 16 #[v] w fun e w' => e = .returned (.int .i64 (WP.showG l).2) ∧ Below w.heap.size w w' := by
  obtain ⟨A, cap, rfl⟩ := h.slice
  have HV := Lib.hid (valid_any hB _ l w h hz)
  obtain ⟨⟨s, b⟩, hsb⟩ : ∃ q, WP.validG l = q := ⟨_, rfl⟩
  have hsh : WP.showG l = if b = true then (s, 0) else ([], 1) := by unfold WP.showG; rw [hsb]
  rw [hsb] at HV
  rw [hsh]
  clear h hsb hsh hB
  rcases (show b = true ∨ b = false by cases b <;> simp) with rfl | rfl
  · rw [if_pos rfl]
    go_enter Try.func16, Try.ntmps16
    go_wp2_with fail
    refine HV.out.mono ?_
    rintro e Y ⟨rfl, hb⟩
    have HB := Lib.hid hb
    clear hb
    go_wp2
    go_ret
    exact ⟨rfl, HB.out⟩
  · rw [if_neg (by simp)]
    go_enter Try.func16, Try.ntmps16
    go_wp2_with fail
    refine HV.out.mono ?_
    rintro e Y ⟨rfl, hb⟩
    have HB := Lib.hid hb
    clear hb
    go_wp2
    go_ret
    exact ⟨rfl, HB.out⟩
end W
end Go.Proofs.Ytlhijlmbfjlglaa
