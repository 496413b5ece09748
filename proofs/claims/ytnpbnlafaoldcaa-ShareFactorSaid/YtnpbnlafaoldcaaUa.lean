/- Division of a double word, in plain numbers; the length of a word. No statement is claimed here. -/
import Derived.Test.YtnpbnlafaoldcaaRj
import Derived.Lib.Tables
namespace Go.Proofs.Ytnpbnlafaoldcaa
open Go Go.Lft
set_option linter.unusedSimpArgs false
set_option linter.unusedVariables false
attribute [local congr] ob_congr bw_congr ib_congr ck_congr iwA_congr itA_congr aw_congr awp_congr sqA_congr bkA_congr vr_congr gd_congr

/-! ### Half a step of the division -/
/-- What the guess q and the rest r are, for the upper half u of what is divided. -/
structure HalfI (u d0 Y a b q r : Int) : Prop where
  eq : q * a + r = u
  r0 : 0 ≤ r
  lo : (u * 4294967296 + d0) / Y ≤ q
  hi : q ≤ 4294967297
structure HalfP (u d0 Y a b : Int) : Prop where
  hY : Y = a * 4294967296 + b
  ha0 : 2147483648 ≤ a
  ha1 : a < 4294967296
  hb0 : 0 ≤ b
  hb1 : b < 4294967296
  hu0 : 0 ≤ u
  hu1 : u < Y
  hd0 : 0 ≤ d0
  hd1 : d0 < 4294967296
theorem HalfP.Q {u d0 Y a b : Int} (p : HalfP u d0 Y a b) : 0 ≤ (u * 4294967296 + d0) / Y ∧ (u * 4294967296 + d0) / Y < 4294967296 := by
  obtain ⟨h1, h2, h3, h4, h5, h6, h7, h8, h9⟩ := p
  refine ⟨Int.ediv_nonneg (by omega) (by omega), Int.ediv_lt_of_lt_mul (by omega) ?_⟩
  have : (u + 1) * 4294967296 ≤ Y * 4294967296 := by omega
  omega
theorem half_start {u d0 Y a b : Int} (p : HalfP u d0 Y a b) : HalfI u d0 Y a b (u / a) (u - u / a * a) ∧ u - u / a * a < 4294967296 ∧ 0 ≤ u / a * a ∧ u / a * a ≤ u := by
  obtain ⟨h1, h2, h3, h4, h5, h6, h7, h8, h9⟩ := p
  have e := Int.mul_ediv_add_emod u a
  rw [Int.mul_comm] at e
  have m0 := Int.emod_nonneg u (show a ≠ 0 by omega)
  have m1 := Int.emod_lt_of_pos u (show 0 < a by omega)
  have q0 : 0 ≤ u / a := Int.ediv_nonneg h6 (by omega)
  have k0 : 0 ≤ u / a * a := Int.mul_nonneg q0 (by omega)
  refine ⟨⟨by omega, by omega, ?_, ?_⟩, by omega, by omega, by omega⟩
  · apply Int.lt_add_one_iff.1
    apply Int.ediv_lt_of_lt_mul (by omega)
    -- (u / a + 1) * Y ≥ (u / a + 1) * a * 2^32 ≥ (u + 1) * 2^32
    have k1 : (u / a + 1) * (a * 4294967296) ≤ (u / a + 1) * Y := Int.mul_le_mul_of_nonneg_left (by omega) (by omega)
    have k2 : (u / a + 1) * (a * 4294967296) = (u / a * a + a) * 4294967296 := by
      rw [← Int.mul_assoc, Int.add_mul, Int.one_mul]
    have k3 : (u + 1) * 4294967296 ≤ (u / a * a + a) * 4294967296 := by omega
    omega
  · apply Int.lt_add_one_iff.1
    apply Int.ediv_lt_of_lt_mul (by omega)
    omega
theorem half_big {u d0 Y a b q r : Int} (p : HalfP u d0 Y a b) (h : HalfI u d0 Y a b q r) (hq : 0 ≤ q) (ht : q * b ≤ 4294967296 * r + d0) : q = (u * 4294967296 + d0) / Y := by
  obtain ⟨h1, h2, h3, h4, h5, h6, h7, h8, h9⟩ := p
  obtain ⟨e, r0, lo, hi⟩ := h
  apply Int.le_antisymm _ lo
  apply Int.le_ediv_of_mul_le (by omega)
  rw [h1, Int.mul_add, ← Int.mul_assoc]
  have : q * a = u - r := by omega
  rw [this]; omega
theorem half_more {u d0 Y a b q r : Int} (p : HalfP u d0 Y a b) (h : HalfI u d0 Y a b q r) (ht : 4294967296 ≤ q ∨ 4294967296 * r + d0 < q * b) : (u * 4294967296 + d0) / Y < q := by
  have hQ := p.Q
  obtain ⟨h1, h2, h3, h4, h5, h6, h7, h8, h9⟩ := p
  obtain ⟨e, r0, lo, hi⟩ := h
  rcases ht with ht | ht
  · omega
  · apply Int.ediv_lt_of_lt_mul (by omega)
    rw [h1, Int.mul_add, ← Int.mul_assoc]
    have : q * a = u - r := by omega
    rw [this]; omega
theorem half_next {u d0 Y a b q r : Int} (p : HalfP u d0 Y a b) (h : HalfI u d0 Y a b q r) (ht : 4294967296 ≤ q ∨ 4294967296 * r + d0 < q * b) : HalfI u d0 Y a b (q - 1) (r + a) ∧ 0 ≤ q - 1 ∧ (4294967296 ≤ r + a → q - 1 = (u * 4294967296 + d0) / Y) := by
  have hm := half_more p h ht
  have hQ := p.Q
  have hi : HalfI u d0 Y a b (q - 1) (r + a) := by
    obtain ⟨h1, h2, h3, h4, h5, h6, h7, h8, h9⟩ := p
    obtain ⟨e, r0, lo, hi⟩ := h
    exact ⟨by rw [Int.sub_mul]; omega, by omega, by omega, by omega⟩
  refine ⟨hi, by omega, fun hr => half_big p hi (by omega) ?_⟩
  have h1 : (q - 1) * b ≤ 4294967296 * 4294967296 := Int.mul_le_mul (by have := h.hi; omega) (by have := p.hb1; omega) p.hb0 (by omega)
  have h2 : 4294967296 * 4294967296 ≤ 4294967296 * (r + a) := by omega
  have := p.hd0
  omega
/-- What is left after half a step. -/
theorem half_rest {u d0 Y a b : Int} (p : HalfP u d0 Y a b) : 0 ≤ u * 4294967296 + d0 - (u * 4294967296 + d0) / Y * Y ∧ u * 4294967296 + d0 - (u * 4294967296 + d0) / Y * Y < Y ∧ u * 4294967296 + d0 - (u * 4294967296 + d0) / Y * Y = (u * 4294967296 + d0) % Y := by
  have hY : 0 < Y := by have := p.hY; have := p.ha0; have := p.hb0; omega
  have e := Int.mul_ediv_add_emod (u * 4294967296 + d0) Y
  rw [Int.mul_comm] at e
  have m0 := Int.emod_nonneg (u * 4294967296 + d0) (show Y ≠ 0 by omega)
  have m1 := Int.emod_lt_of_pos (u * 4294967296 + d0) hY
  omega
theorem wrap_mod (x : Int) : IntKind.wrap .u64 x = x % 18446744073709551616 := by
  simp only [IntKind.wrap, IntKind.signed, IntKind.bits, Bool.false_and, Bool.false_eq_true, if_false]
  have : (2 : Int) ^ 64 = 18446744073709551616 := by decide
  rw [this]
theorem wrap_rest (x d z : Int) (h : 0 ≤ x + d - z ∧ x + d - z ≤ 18446744073709551615) : IntKind.wrap .u64 (IntKind.wrap .u64 (IntKind.wrap .u64 x + d) - IntKind.wrap .u64 z) = x + d - z := by
  simp only [wrap_mod]; omega

/-- The two halves together. -/
theorem two_halves {hi lo y s : Int} (hs : 0 < s) (U Y un32 un10 : Int) (hY : Y = y * s) (hy : 0 < y) (hh : hi < y) (hU : un32 * 18446744073709551616 + un10 = (hi * 18446744073709551616 + lo) * s) (h10 : 0 ≤ un10 ∧ un10 < 18446744073709551616) (h32 : 0 ≤ un32) :
    (un32 * 4294967296 + un10 / 4294967296) / Y * 4294967296 + ((un32 * 4294967296 + un10 / 4294967296) % Y * 4294967296 + un10 % 4294967296) / Y = (hi * 18446744073709551616 + lo) / y ∧ ((un32 * 4294967296 + un10 / 4294967296) % Y * 4294967296 + un10 % 4294967296) % Y = (hi * 18446744073709551616 + lo) % y * s := by
  have hYp : 0 < Y := by rw [hY]; exact Int.mul_pos hy hs
  have e1 := Int.mul_ediv_add_emod (un32 * 4294967296 + un10 / 4294967296) Y
  have e2 := Int.mul_ediv_add_emod ((un32 * 4294967296 + un10 / 4294967296) % Y * 4294967296 + un10 % 4294967296) Y
  have m2 := Int.emod_nonneg ((un32 * 4294967296 + un10 / 4294967296) % Y * 4294967296 + un10 % 4294967296) (show Y ≠ 0 by omega)
  have m3 := Int.emod_lt_of_pos ((un32 * 4294967296 + un10 / 4294967296) % Y * 4294967296 + un10 % 4294967296) hYp
  generalize (un32 * 4294967296 + un10 / 4294967296) / Y = q1 at *
  generalize hr1 : (un32 * 4294967296 + un10 / 4294967296) % Y = r1 at *
  generalize (r1 * 4294967296 + un10 % 4294967296) / Y = q0 at *
  generalize hr0 : (r1 * 4294967296 + un10 % 4294967296) % Y = r0 at *
  have e3 : Y * (q1 * 4294967296 + q0) + r0 = (hi * 18446744073709551616 + lo) * s := by
    rw [← hU, Int.mul_add, ← Int.mul_assoc]
    omega
  have e4 : (hi * 18446744073709551616 + lo) * s / Y = q1 * 4294967296 + q0 ∧ (hi * 18446744073709551616 + lo) * s % Y = r0 := by
    rw [← e3]
    constructor
    · rw [Int.mul_comm Y, Int.add_comm, Int.add_mul_ediv_right _ _ (by omega), Int.ediv_eq_zero_of_lt m2 m3]; omega
    · rw [Int.add_comm, Int.add_mul_emod_self_left]; exact Int.emod_eq_of_lt m2 m3
  have e5 : (hi * 18446744073709551616 + lo) * s % (y * s) = (hi * 18446744073709551616 + lo) % y * s := by
    rw [Int.mul_comm _ s, Int.mul_comm y, Int.mul_emod_mul_of_pos _ _ hs, Int.mul_comm]
  rw [hY, Int.mul_ediv_mul_of_pos_left _ _ hs, e5] at e4
  exact ⟨e4.1.symm, e4.2.symm⟩

/-! ### The length of a word -/
theorem len8_fin : ∀ k : Nat, k < 256 → 0 < k → ∃ s : Nat, s < 8 ∧ Go.Lib.len8 (k : Int) = 8 - s ∧ 128 ≤ k * 2 ^ s ∧ (k + 1) * 2 ^ s ≤ 256 := by decide +kernel
theorem len_fin (n : Nat) (x : Int) (hn : n = 0 ∨ n = 8 ∨ n = 16 ∨ n = 24 ∨ n = 32 ∨ n = 40 ∨ n = 48 ∨ n = 56) (h0 : 0 < x / 2 ^ n) (h1 : x / 2 ^ n < 256) : ∃ s : Nat, s ≤ 63 ∧ (n : Int) + Go.Lib.len8 (x / 2 ^ n) = 64 - s ∧ 9223372036854775808 ≤ x * 2 ^ s ∧ x * 2 ^ s < 18446744073709551616 := by
  obtain ⟨k, hk⟩ : ∃ k : Nat, x / 2 ^ n = k := ⟨(x / 2 ^ n).toNat, by omega⟩
  rw [hk] at h0 h1 ⊢
  obtain ⟨s, s1, s2, s3, s4⟩ := len8_fin k (by omega) (by omega)
  refine ⟨(56 - n) + s, by omega, by rw [s2]; omega, ?_⟩
  have hs : s = 0 ∨ s = 1 ∨ s = 2 ∨ s = 3 ∨ s = 4 ∨ s = 5 ∨ s = 6 ∨ s = 7 := by omega
  rcases hs with rfl | rfl | rfl | rfl | rfl | rfl | rfl | rfl <;> rcases hn with rfl | rfl | rfl | rfl | rfl | rfl | rfl | rfl <;> simp only [Nat.reduceSub, Nat.reduceAdd, Nat.reducePow, Int.reducePow] at * <;> omega
end Go.Proofs.Ytnpbnlafaoldcaa
