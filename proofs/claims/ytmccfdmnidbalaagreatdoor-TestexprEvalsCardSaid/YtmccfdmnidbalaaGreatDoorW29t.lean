/- Chapter 29: strings.ContainsAny at any bytes. -/
import Derived.Test.YtmccfdmnidbalaaGreatDoorW29d
import Derived.Lib.OthersKept
import Derived.Lib.DecodeN
import Derived.StillTailTactics
namespace Go.Proofs.YtmccfdmnidbalaaGreatDoor
open Go.RowKit K
namespace P
theorem enc_cases (r : Int) (h : 128 ≤ r) : (∃ x y : UInt8, Utf8.encode r = ⟨#[x, y]⟩ ∧ 128 ≤ y.toNat) ∨ (∃ x y z : UInt8, Utf8.encode r = ⟨#[x, y, z]⟩) ∨ ∃ x y z t : UInt8, Utf8.encode r = ⟨#[x, y, z, t]⟩ := by
  have hc : 128 ≤ (if Utf8.valid r then r.toNat else Utf8.runeError) := by
    split
    · omega
    · decide
  unfold Utf8.encode
  simp only
  generalize (if Utf8.valid r then r.toNat else Utf8.runeError) = c at hc
  rw [if_neg (by omega)]
  split
  · left
    refine ⟨_, _, rfl, ?_⟩
    rw [UInt8.toNat_ofNat']
    omega
  · split
    · right; left; exact ⟨_, _, _, rfl⟩
    · right; right; exact ⟨_, _, _, _, rfl⟩
set_option maxRecDepth 100000 in
set_option maxHeartbeats 2000000 in
theorem decN_cover (n b0 b1 b2 b3 d : Nat) (h0 : 128 ≤ b0) (hn : 1 ≤ n) (hd : (Lib.decodeN n b0 b1 b2 b3).2 = d) : d ≤ n ∧ 1 ≤ d ∧ d ≤ 4 ∧ (1 < d → 128 ≤ b1) ∧ (2 < d → 128 ≤ b2) ∧ (3 < d → 128 ≤ b3) := by
  subst hd
  unfold Lib.decodeN
  repeat' split
  all_goals (refine ⟨?_, ?_, ?_, ?_, ?_, ?_⟩ <;> simp only <;> omega)
theorem two_low (p : Nat) (h : p < 2) : bt [47, 0] p < 128 ∧ (bt [47, 0] p == 65533) = false := by
  have : p = 0 ∨ p = 1 := by omega
  rcases this with rfl | rfl <;> decide
def qq (c : UInt8) : Bool := (c.toNat : Int) == 47 || (c.toNat : Int) == 0
theorem any_skip (l : List UInt8) (p d : Nat) (h : ∀ j, p ≤ j → j < p + d → 128 ≤ bt l j) : (l.drop p).any qq = (l.drop (p + d)).any qq := by
  induction d with
  | zero => rfl
  | succ d ih =>
    rw [ih fun j a b => h j a (by omega)]
    by_cases hl : p + d < l.length
    · obtain ⟨x, hx, hb, -⟩ := drop_cons l (p + d) hl
      have h1 := h (p + d) (by omega) (by omega)
      rw [hb] at h1
      rw [hx, List.any_cons]
      have : qq x = false := by
        unfold qq
        rw [Bool.or_eq_false_iff]
        constructor
        · simp only [beq_eq_false_iff_ne]; omega
        · simp only [beq_eq_false_iff_ne]; omega
      rw [this, Bool.false_or, Nat.add_assoc]
    · rw [List.drop_eq_nil_of_le (by omega), List.drop_eq_nil_of_le (by omega)]
theorem get_bt2 (l : List UInt8) (j : Nat) (h : j < l.length) : (((ByteArray.mk l.toArray).get! j).toNat : Int) = bt l j := by
  have h' : j < (ByteArray.mk l.toArray).size := by simpa [ByteArray.size] using h
  rw [← get_bt l j h', ← get_at _ j h']
  rfl
theorem cover (l : List UInt8) (p : Nat) (h : p < l.length) (ha : 128 ≤ bt l p) : p + (Utf8.decode ⟨l.toArray⟩ p).2 ≤ l.length ∧ ∀ j, p ≤ j → j < p + (Utf8.decode ⟨l.toArray⟩ p).2 → 128 ≤ bt l j := by
  have hs : (ByteArray.mk l.toArray).size = l.length := by simp [ByteArray.size]
  have hd := Lib.decode_at ⟨l.toArray⟩ p
  rw [hs] at hd
  have h0 := get_bt2 l p h
  obtain ⟨c1, c2, c3, c4, c5, c6⟩ := decN_cover (l.length - p) _ ((ByteArray.mk l.toArray).get! (p + 1)).toNat ((ByteArray.mk l.toArray).get! (p + 2)).toNat ((ByteArray.mk l.toArray).get! (p + 3)).toNat _ (show 128 ≤ ((ByteArray.mk l.toArray).get! p).toNat by omega) (by omega) rfl
  rw [← hd] at c1 c2 c3 c4 c5 c6
  generalize (Utf8.decode ⟨l.toArray⟩ p).2 = d at *
  refine ⟨by omega, fun j a b => ?_⟩
  have hj : j = p ∨ j = p + 1 ∨ j = p + 2 ∨ j = p + 3 := by omega
  rcases hj with rfl | rfl | rfl | rfl
  · exact ha
  · rw [← get_bt2 l _ (by omega)]; have := c4 (by omega); omega
  · rw [← get_bt2 l _ (by omega)]; have := c5 (by omega); omega
  · rw [← get_bt2 l _ (by omega)]; have := c6 (by omega); omega
end P
namespace K
theorem bdN0 {B : Nat} {a w : World} (h : Below B a w) (n : Nat) : Below B a (w.drewN n) := ⟨h.os, h.tape, h.output, h.size, h.block⟩
theorem nogo_ret {Q : Exit → Act → World → Prop} {a : Act} {w : World} (h : Q .ret a w) : Exit.noGoto Q .ret a w := h
theorem inb_ret {n : Nat} {Q : Exit → Act → World → Prop} {a : Act} {w : World} (h : Q .ret a w) : Exit.inBlock n Q .ret a w := h
theorem then_ret {N : Act → World → Prop} {Q : Exit → Act → World → Prop} {a : Act} {w : World} (h : Q .ret a w) : Exit.then N Q .ret a w := h
theorem next_high2 {R : Program} (w : World) (k : Nat) (l : List UInt8) (pos : Nat) (hk : w.heap[k]? = some (.stringIter ⟨l.toArray⟩ pos)) (h : pos < l.length) (ha : 128 ≤ bt l pos) :
    ∃ r d : Nat, 128 ≤ r ∧ 1 ≤ d ∧ pos + d ≤ l.length ∧ (l.drop pos).any P.qq = (l.drop (pos + d)).any P.qq ∧ ∀ ty, (Instr.next (.pointer (some ⟨k, 0, none⟩)) true ty).run R w = .ok (.tuple #[.bool true, .int .i64 pos, .int .i32 r]) (w.iterAt k ⟨l.toArray⟩ (pos + d)) := by
  have h' : pos < (ByteArray.mk l.toArray).size := by simpa [ByteArray.size] using h
  have hb := get_bt l pos h'
  obtain ⟨h1, h2⟩ := decode_high ⟨l.toArray⟩ pos h' (by omega)
  obtain ⟨h3, h4⟩ := P.cover l pos h ha
  exact ⟨_, _, h1, h2, h3, P.any_skip l pos _ h4, fun ty => Lib.run_next_any_at w k ⟨l.toArray⟩ pos ty hk h'⟩
end K
namespace W
theorem IndexByte_nil (c : Int) (w : World) :
    Calls Tryz.prog 97 #[.string ⟨#[]⟩, .int .u8 c] w fun e w' => e = .returned (.int .i64 (-1)) ∧ w = w' := by
  refine (Tryz.strings_IndexByte ⟨#[]⟩ c w).mono ?_
  rintro e w' ⟨rfl, rfl⟩
  exact ⟨rfl, rfl⟩
theorem IndexRune_low (c : Int) (h0 : 0 ≤ c) (h1 : c < 128) : ∃ z : Int, ((0 ≤ z) ↔ P.qq (by8 c) = true) ∧ ∀ w,
    Calls Tryz.prog 81 #[.string ⟨#[47, 0]⟩, .int .i32 c] w fun e w' => e = .returned (.int .i64 z) ∧ w = w' := by
  refine ⟨Lib.indexByte [47, 0] c.toNat.toUInt8, ?_, fun w => ?_⟩
  · have := Lib.contains_iff_indexByte [47, 0] c.toNat.toUInt8
    have hd : ∀ z : Int, (0 ≤ z ↔ decide (0 ≤ z) = true) := fun z => by simp
    rw [hd, ← this]
    have hb : by8 c = c.toNat.toUInt8 := rfl
    rw [hb]
    generalize c.toNat.toUInt8 = b
    unfold P.qq
    have e1 : ((b.toNat : Int) == 47) = (b == 47) := by
      rw [Bool.eq_iff_iff, beq_iff_eq, beq_iff_eq, ← UInt8.toNat_inj]
      have : (47 : UInt8).toNat = 47 := rfl
      omega
    have e2 : ((b.toNat : Int) == 0) = (b == 0) := by
      rw [Bool.eq_iff_iff, beq_iff_eq, beq_iff_eq, ← UInt8.toNat_inj]
      have : (0 : UInt8).toNat = 0 := rfl
      omega
    rw [e1, e2]
    simp
  · refine (Tryz.strings_IndexRune_ascii ⟨#[47, 0]⟩ c w h0 h1).mono ?_
    rintro e w' ⟨rfl, rfl⟩
    exact ⟨rfl, rfl⟩
set_option maxHeartbeats 2000000 in
set_option maxRecDepth 100000 in
theorem IndexRune_high (r : Int) (h : 128 ≤ r) (w : World) :
    Calls Tryz.prog 81 #[.string ⟨#[47, 0]⟩, .int .i32 r] w fun e w' => e = .returned (.int .i64 (-1)) ∧ Below w.heap.size w w' := by
  have r0 : ((0 : Int) ≤ r) = True := eq_true (by omega)
  have r1 : (r < 128) = False := eq_false (by omega)
  by_cases he : r = 65533
  · subst he
    go_enter Tryz.func81, Tryz.ntmps81
    go_wp2
    go_loopw [] (fun wr => ∃ pos : Nat, pos ≤ 2 ∧ wr.heap[w.heap.size]? = some (.stringIter ⟨#[47, 0]⟩ pos) ∧ Below w.heap.size w wr) (fun wr => 2 - wr.iterPos w.heap.size)
    case atStart =>
      refine ⟨0, by omega, ?_, (Below.refl _ w).alloc (Nat.le_refl _) _⟩
      have := World.iter_heap w ⟨#[47, 0]⟩ 0
      simpa using this
    case round =>
      obtain ⟨pos, hk, hit, hbw⟩ := hrel
      by_cases hlt : pos < 2
      · have hnx := next_low (P := Tryz.prog) wr w.heap.size [47, 0] pos hit hlt _ rfl (P.two_low pos hlt).1
        have ht := (P.two_low pos hlt).2
        generalize bt [47, 0] pos = c at hnx ht
        have hit2 := Lib.hid (Lib.iterAt_heap wr w.heap.size ⟨#[47, 0]⟩ pos (pos + 1) hit)
        have hbw2 := Lib.hid (Lib.below_iterAt hbw (k := w.heap.size) (by omega) ⟨#[47, 0]⟩ (pos + 1))
        go_wp2
        go_roundw
        case rel => exact ⟨pos + 1, by omega, hit2.out, hbw2.out⟩
        case measure => simp only [World.iterPos, hit2.out, hit]; omega
      · have hnx := next_end (P := Tryz.prog) wr w.heap.size [47, 0] pos hit hlt
        go_wp2
        go_ret
        exact ⟨rfl, hbw⟩
  have e1 : (r == 65533) = false := by simpa using he
  have HVR := Lib.hid (fun w => Tryz.utf8_ValidRune r w)
  generalize Lib.validRune r = V at HVR
  cases V with
  | false =>
    clear he h
    go_enter Tryz.func81, Tryz.ntmps81
    go_wp2_with fail
    refine (HVR.out _).mono ?_
    rintro e w1 ⟨rfl, rfl⟩
    go_wp2
    go_ret
    exact ⟨rfl, Below.refl _ _⟩
  | true =>
    rcases P.enc_cases r h with ⟨x, y, hE, hy⟩ | ⟨x, y, z, hE⟩ | ⟨x, y, z, t, hE⟩
    · clear he h
      have hne : (bt [47, 0] 1 != bt [x, y] 1) = true := by
        show ((0 : Int) != (y.toNat : Int)) = true
        simp only [bne_iff_ne, ne_eq]; omega
      have hne2 : (bt [47, 0] 1 == bt [x, y] 1) = false := by
        show ((0 : Int) == (y.toNat : Int)) = false
        simp only [beq_eq_false_iff_ne, ne_eq]; omega
      go_enter Tryz.func81, Tryz.ntmps81
      go_wp2_with fail
      refine (HVR.out _).mono ?_
      rintro e w1 ⟨rfl, rfl⟩
      go_wp2
      go_step3
      go_wp2
      go_loop [9, 10] (fun i f => i = .int .i64 1 ∧ f = .int .i64 0) (fun _ _ => 0)
      case atStart => exact ⟨rfl, rfl⟩
      case round =>
        obtain ⟨rfl, rfl⟩ := hrel
        go_wp2_with fail
        go_step3
        go_wp2_with fail
        go_quiet (fail)
        go_wp2_with fail
        have hw2 : IntKind.i64.wrap 2 = 2 := by decide
        refine wp_region_still_tail 7 (by kernel_rfl) (by kernel_rfl) ?_
        simp only [List.take_succ_cons, List.take_zero, List.drop_succ_cons, List.drop_zero]
        repeat still_step
        refine wpStill_nil ?_
        change wpList _ _ _ _ _ (w1.drewN nq).drew
        go_wp2_with fail
        refine (IndexByte_nil _ _).mono ?_
        rintro e w2 ⟨rfl, rfl⟩
        go_wp2
        repeat first | refine nogo_ret ?_ | refine inb_ret ?_ | refine then_ret ?_
        go_ret
        exact ⟨rfl, bdN0 (Below.refl _ _) _⟩
    · clear he h
      go_enter Tryz.func81, Tryz.ntmps81
      go_wp2_with fail
      refine (HVR.out _).mono ?_
      rintro e w1 ⟨rfl, rfl⟩
      go_wp2
      go_step3
      go_wp2
      go_loop [9, 10] (fun i f => i = .int .i64 2 ∧ f = .int .i64 0) (fun _ _ => 0)
      case atStart => exact ⟨rfl, rfl⟩
      case round =>
        obtain ⟨rfl, rfl⟩ := hrel
        go_wp2
        repeat rw [Exit.noGoto_ret]
        go_ret
        exact ⟨rfl, Below.refl _ _⟩
    · clear he h
      go_enter Tryz.func81, Tryz.ntmps81
      go_wp2_with fail
      refine (HVR.out _).mono ?_
      rintro e w1 ⟨rfl, rfl⟩
      go_wp2
      go_step3
      go_wp2
      go_loop [9, 10] (fun i f => i = .int .i64 3 ∧ f = .int .i64 0) (fun _ _ => 0)
      case atStart => exact ⟨rfl, rfl⟩
      case round =>
        obtain ⟨rfl, rfl⟩ := hrel
        go_wp2
        repeat rw [Exit.noGoto_ret]
        go_ret
        exact ⟨rfl, Below.refl _ _⟩
theorem IndexAny_small (l : List UInt8) (hl : l.length ≤ 8) (w : World) :
    Calls Tryz.prog 69 #[.string ⟨l.toArray⟩, .string ⟨#[47, 0]⟩] w fun e w' => (∃ z : Int, e = .returned (.int .i64 z) ∧ ((0 ≤ z) ↔ l.any P.qq = true)) ∧ Below w.heap.size w w' := by
  have HU := Lib.hid (fun w => Tryz.strings_shouldUseASCIISet (l.length : Int) w)
  rw [decide_eq_false (show ¬ ((8 : Int) < (l.length : Int)) by omega)] at HU
  go_enter Tryz.func69, Tryz.ntmps69
  go_wp2_with fail
  refine (HU.out _).mono ?_
  rintro e w1 ⟨rfl, rfl⟩
  go_wp2
  go_loopw [] (fun wr => ∃ pos : Nat, pos ≤ l.length ∧ wr.heap[w1.heap.size]? = some (.stringIter ⟨l.toArray⟩ pos) ∧ Below w1.heap.size w1 wr ∧ Hid ((l.drop pos).any P.qq = l.any P.qq)) (fun wr => l.length - wr.iterPos w1.heap.size)
  case atStart =>
    refine ⟨0, by omega, ?_, (Below.refl _ w1).alloc (Nat.le_refl _) _, rfl⟩
    have := World.iter_heap w1 ⟨l.toArray⟩ 0
    simpa using this
  case round =>
    obtain ⟨pos, hk, hit, hbw, HN⟩ := hrel
    have hlt0 : w1.heap.size < wr.heap.size := (Array.getElem?_eq_some_iff.1 hit).1
    by_cases hlt : pos < l.length
    · by_cases ha : bt l pos < 128
      · obtain ⟨x, hx, hb, -⟩ := drop_cons l pos hlt
        obtain ⟨z, hz, hcall⟩ := IndexRune_low (bt l pos) (bt_nonneg _ _) ha
        have HC := Lib.hid hcall
        have HZ : Hid ((0 ≤ z) ↔ P.qq x = true) := by rw [by8_bt hb] at hz; exact hz
        have HX := Lib.hid hx
        have hnx := next_low (P := Tryz.prog) wr w1.heap.size l pos hit hlt _ rfl ha
        generalize bt l pos = c at *
        clear hx hcall hz hb ha
        have hit2 := Lib.hid (Lib.iterAt_heap wr w1.heap.size ⟨l.toArray⟩ pos (pos + 1) hit)
        have hbw2 := Lib.hid (Lib.below_iterAt hbw (k := w1.heap.size) (by omega) ⟨l.toArray⟩ (pos + 1))
        by_cases h0 : 0 ≤ z
        · have h0' : ((0 : Int) ≤ z) = True := eq_true h0
          have HT := Lib.hid (HZ.out.1 h0)
          clear h0
          go_wp2_with fail
          refine (HC.out _).mono ?_
          rintro e w2 ⟨rfl, rfl⟩
          go_wp2
          go_ret
          exact ⟨⟨_, rfl, by rw [← HN.out, HX.out, List.any_cons, HT.out, Bool.true_or]; simp⟩, hbw2.out⟩
        · have h0' : ((0 : Int) ≤ z) = False := eq_false h0
          have HT := Lib.hid (show P.qq x = false by have := mt HZ.out.2 h0; simpa using this)
          clear h0
          go_wp2_with fail
          refine (HC.out _).mono ?_
          rintro e w2 ⟨rfl, rfl⟩
          go_wp2
          go_roundw
          case rel => exact ⟨pos + 1, by omega, hit2.out, hbw2.out, by rw [← HN.out, HX.out, List.any_cons, HT.out, Bool.false_or]; exact rfl⟩
          case measure => simp only [World.iterPos, hit2.out, hit]; omega
      · obtain ⟨r, d, hr, hd, hle, hsk, hnx⟩ := next_high2 (R := Tryz.prog) wr w1.heap.size l pos hit hlt (by omega)
        have HS := Lib.hid hsk
        have hit2 := Lib.hid (Lib.iterAt_heap wr w1.heap.size ⟨l.toArray⟩ pos (pos + d) hit)
        have hbw2 := Lib.hid (Lib.below_iterAt hbw (k := w1.heap.size) (by omega) ⟨l.toArray⟩ (pos + d))
        have HC := Lib.hid (fun w => IndexRune_high (r : Int) (by omega) w)
        have hsz : (wr.iterAt w1.heap.size ⟨l.toArray⟩ (pos + d)).heap.size = wr.heap.size := by simp [World.iterAt]
        obtain ⟨y, hy⟩ : ∃ y, y = wr.iterAt w1.heap.size ⟨l.toArray⟩ (pos + d) := ⟨_, rfl⟩
        rw [← hy] at hnx hit2 hbw2 hsz
        have hy0 := Lib.hid (show w1.heap.size < y.heap.size by omega)
        clear hy hsk ha hsz
        go_wp2_with fail
        refine (HC.out _).mono ?_
        rintro e w2 ⟨rfl, hb2⟩
        have hit3 := Lib.hid ((hb2.block _ hy0.out).trans hit2.out)
        have hb3 := Lib.hid (btr hbw2.out hb2)
        clear hb2
        go_wp2
        go_roundw
        case rel => exact ⟨pos + d, hle, hit3.out, hb3.out, HS.out ▸ HN.out⟩
        case measure => simp only [World.iterPos, hit3.out, hit]; omega
    · have hnx := next_end (P := Tryz.prog) wr w1.heap.size l pos hit hlt
      have HF := Lib.hid (show l.any P.qq = false by rw [← HN.out, List.drop_eq_nil_of_le (by omega)]; rfl)
      go_wp2
      go_ret
      exact ⟨⟨_, rfl, by rw [HF.out]; simp⟩, hbw⟩
theorem any_all (l : List UInt8) (hl : l.length ≤ 1000000) : AnyOK l := fun w => by
  have hI : Calls Tryz.prog 69 #[.string ⟨l.toArray⟩, .string ⟨#[47, 0]⟩] w fun e w' => (∃ z : Int, e = .returned (.int .i64 z) ∧ ((0 ≤ z) ↔ l.any P.qq = true)) ∧ Below w.heap.size w w' := by
    by_cases h8 : l.length ≤ 8
    · exact IndexAny_small l h8 w
    · refine (Tryz.strings_IndexAny_long (fun w => by kernel_rfl) ⟨l.toArray⟩ ⟨#[47, 0]⟩ w (by decide) (by simp [ByteArray.size]; omega) (by simp [ByteArray.size]; omega) (by decide) (fun j b hb => ?_)).mono ?_
      · have : b ∈ ([47, 0] : List UInt8) := List.mem_of_getElem? (by simpa using hb)
        simp at this
        rcases this with rfl | rfl <;> decide
      · rintro e w' ⟨rfl, rfl⟩
        refine ⟨⟨_, rfl, ?_⟩, ((Below.refl _ w).alloc (Nat.le_refl _) _).alloc (by simp) _⟩
        have h1 := P.any2 l
        unfold Lib.containsAny at h1
        have h2 : l.any P.qq = (l.any fun c => (c.toNat : Int) == 47 || (c.toNat : Int) == 0) := rfl
        rw [h2, ← h1]
        simp
  have HI := Lib.hid hI
  have h2 : (l.any fun c => (c.toNat : Int) == 47 || (c.toNat : Int) == 0) = l.any P.qq := rfl
  rw [h2]
  generalize l.any P.qq = T at HI
  clear hI h2
  go_enter Tryz.func59, Tryz.ntmps59
  go_wp2_with fail
  refine HI.out.mono ?_
  rintro e w1 ⟨⟨z, rfl, hz⟩, hb⟩
  have HB := Lib.hid hb
  have HD := Lib.hid (show decide (0 ≤ z) = T by
    by_cases h : 0 ≤ z
    · rw [decide_eq_true h, hz.1 h]
    · rw [decide_eq_false h]; have := mt hz.2 h; exact (by simpa using this : T = false).symm)
  clear hz hb
  go_wp2
  go_ret
  exact ⟨ret_bool HD.out, HB.out⟩
end W
end Go.Proofs.YtmccfdmnidbalaaGreatDoor
