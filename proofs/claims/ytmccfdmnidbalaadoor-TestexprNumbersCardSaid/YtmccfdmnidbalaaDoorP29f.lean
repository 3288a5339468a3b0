/- Chapter 29 in plain Lean: decimal numerals. -/
import Derived.Test.YtmccfdmnidbalaaDoorP29c
namespace Go.Proofs.YtmccfdmnidbalaaDoor
open K
namespace P
def dg (n : Nat) : UInt8 := UInt8.ofNat (48 + n % 10)
/-- The digits of a number, out behind them. -/
def decN : Nat → Nat → List UInt8 → List UInt8
  | 0, _, out => out
  | f + 1, n, out => if n ≤ 9 then dg n :: out else decN f (n / 10) (dg n :: out)
theorem dg_toNat (n : Nat) : (dg n).toNat = 48 + n % 10 := by
  unfold dg
  rw [UInt8.toNat_ofNat']
  omega
theorem dg_dig (n : Nat) : isDig (dg n) = true := by
  unfold isDig
  rw [dg_toNat]
  simp
  omega
theorem dg_dv (n : Nat) : dv (dg n) = n % 10 := by unfold dv; rw [dg_toNat]; omega
theorem decN_dig : ∀ (f n : Nat) (out : List UInt8), out.all isDig = true → (decN f n out).all isDig = true
  | 0, _, _, h => h
  | f + 1, n, out, h => by
    rw [decN]
    have h2 : (dg n :: out).all isDig = true := by rw [List.all_cons, dg_dig, h]; rfl
    split
    · exact h2
    · exact decN_dig f (n / 10) _ h2
theorem decN_val : ∀ (f n : Nat) (out : List UInt8), n < 10 ^ f → 1 ≤ f → decV (decN f n out) = n * 10 ^ out.length + decV out
  | 0, _, _, _, h => by omega
  | f + 1, n, out, h, _ => by
    rw [decN]
    split
    · rw [decV_cons, dg_dv]
      congr 2
      omega
    · rename_i hn
      have hf : 1 ≤ f := by
        rcases Nat.eq_zero_or_pos f with h0 | h0
        · subst h0; simp at h; omega
        · exact h0
      rw [decN_val f (n / 10) _ (by rw [Nat.pow_succ] at h; omega) hf, decV_cons, dg_dv, List.length_cons, Nat.pow_succ]
      have := Nat.div_add_mod n 10
      generalize n / 10 = d at *
      generalize n % 10 = m at *
      generalize 10 ^ out.length = M
      have e1 : d * (M * 10) = 10 * d * M := by rw [← Nat.mul_assoc, Nat.mul_comm (d * M) 10, Nat.mul_assoc]
      rw [← this, Nat.add_mul, e1]
      omega
theorem decN_ne : ∀ (f n : Nat) (out : List UInt8), 1 ≤ f → decN f n out ≠ []
  | 0, _, _, h => by omega
  | f + 1, n, out, _ => by
    rw [decN]
    split
    · simp
    · cases f with
      | zero => simp [decN]
      | succ f => exact decN_ne (f + 1) _ _ (by omega)
theorem decN_len : ∀ (f n : Nat) (out : List UInt8), (decN f n out).length ≤ f + out.length
  | 0, _, _ => by simp [decN]
  | f + 1, n, out => by
    rw [decN]
    split
    · simp; omega
    · have := decN_len f (n / 10) (dg n :: out)
      simp at this
      omega
def decS (n : Nat) : List UInt8 := decN 20 n []
theorem decS_dig (n : Nat) : (decS n).all isDig = true := decN_dig 20 n [] rfl
theorem decS_val {n : Nat} (h : n < 100000000000000000000) : decV (decS n) = n := by
  have := decN_val 20 n [] h (by omega)
  have e : decV ([] : List UInt8) = 0 := rfl
  rw [e] at this
  show decV (decN 20 n []) = n
  simpa using this
theorem decS_len (n : Nat) : (decS n).length ≤ 20 := decN_len 20 n []
theorem decS_ne (n : Nat) : decS n ≠ [] := decN_ne 20 n [] (by omega)
/-- A number in decimal. -/
def decI (a : Int) : List UInt8 := if a < 0 then 45 :: decS (-a).toNat else decS a.toNat
theorem zeros_val (k : Nat) (l : List UInt8) : decV (List.replicate k 48 ++ l) = decV l := by
  induction k with
  | zero => rfl
  | succ k ih =>
    rw [List.replicate_succ, List.cons_append, decV_cons, ih]
    simp [dv]
theorem zeros_dig (k : Nat) : (List.replicate k (48 : UInt8)).all isDig = true := by
  rw [List.all_eq_true]
  intro x hx
  rw [(List.mem_replicate.1 hx).2]
  rfl
theorem head_dig {l : List UInt8} (h : l.all isDig = true) : sgn? l = false ∧ neg? l = false := by
  cases l with
  | nil => exact ⟨rfl, rfl⟩
  | cons c r =>
    rw [List.all_cons, Bool.and_eq_true] at h
    have := h.1
    unfold isDig at this
    simp only [Bool.and_eq_true, decide_eq_true_eq] at this
    unfold sgn? neg?
    rw [head_cons, head_cons]
    have e1 : (45 : UInt8).toNat = 45 := rfl
    have e2 : (43 : UInt8).toNat = 43 := rfl
    constructor
    · simp; omega
    · simp; omega
theorem int_decI {a : Int} (h0 : -9223372036854775808 ≤ a) (h1 : a ≤ 9223372036854775807) : intP (decI a) = some a := by
  have hlim : lim = 9223372036854775808 := rfl
  unfold decI
  split
  · rename_i hn
    have hv := decS_val (n := (-a).toNat) (by omega)
    have hb : body (45 :: decS (-a).toNat) = decS (-a).toNat := rfl
    have hd : digits? (45 :: decS (-a).toNat) = true := by
      unfold digits?
      rw [hb, decS_dig]
      simpa using decS_ne _
    unfold intP
    rw [if_pos hd, if_pos (show neg? (45 :: decS (-a).toNat) = true from rfl), hb, hv]
    rw [if_pos (by omega)]
    congr 1
    omega
  · rename_i hn
    have hv := decS_val (n := a.toNat) (by omega)
    obtain ⟨e1, e2⟩ := head_dig (decS_dig a.toNat)
    have hb : body (decS a.toNat) = decS a.toNat := by unfold body; rw [e1]; rfl
    have hd : digits? (decS a.toNat) = true := by
      unfold digits?
      rw [hb, decS_dig]
      simpa using decS_ne _
    unfold intP
    rw [if_pos hd, if_neg (by rw [e2]; simp), hb, hv]
    rw [if_pos (by omega)]
    congr 1
    omega
theorem int_plus {a : Int} (k : Nat) (h0 : 0 ≤ a) (h1 : a ≤ 9223372036854775807) : intP (43 :: (List.replicate k 48 ++ decI a)) = some a := by
  have hlim : lim = 9223372036854775808 := rfl
  unfold decI
  rw [if_neg (by omega)]
  have hv := decS_val (n := a.toNat) (by omega)
  have hb : body (43 :: (List.replicate k 48 ++ decS a.toNat)) = List.replicate k 48 ++ decS a.toNat := rfl
  have hd : digits? (43 :: (List.replicate k 48 ++ decS a.toNat)) = true := by
    unfold digits?
    rw [hb, List.all_append, zeros_dig, decS_dig]
    have := decS_ne a.toNat
    simp [this]
  unfold intP
  rw [if_pos hd, if_neg (show ¬ neg? (43 :: (List.replicate k 48 ++ decS a.toNat)) = true by rw [show neg? (43 :: (List.replicate k 48 ++ decS a.toNat)) = false from rfl]; simp), hb, zeros_val, hv]
  rw [if_pos (by omega)]
  congr 1
  omega
theorem decI_len (a : Int) : (decI a).length ≤ 21 := by
  unfold decI
  split
  · have := decS_len (-a).toNat; simp; omega
  · have := decS_len a.toNat; omega
end P
end Go.Proofs.YtmccfdmnidbalaaDoor
