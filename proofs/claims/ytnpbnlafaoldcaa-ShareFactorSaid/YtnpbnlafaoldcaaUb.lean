/- The length of a word, and division of a double word, in the library. No statement is claimed here. -/
import Derived.Test.YtnpbnlafaoldcaaUa
namespace Go.Proofs.Ytnpbnlafaoldcaa
open Go Go.Lft
set_option linter.unusedSimpArgs false
set_option linter.unusedVariables false
attribute [local congr] ob_congr bw_congr ib_congr ck_congr iwA_congr itA_congr aw_congr awp_congr sqA_congr bkA_congr vr_congr gd_congr

theorem s_ix8 (k : IntKind) (i : Int) (h0 : 0 ≤ i) (h1 : i < 256) : s2A .ixs (.v (.string Go.Lib.len8tab)) (.v (.int k i)) = some (.v (.int .u8 (Go.Lib.len8 i))) := by
  have h2 : i.toNat < Go.Lib.len8tab.size := by
    have := Go.Lib.len8tab_size; omega
  have h : k2v .ixs (.string Go.Lib.len8tab) (.int k i) = some (.int .u8 (Go.Lib.len8 i)) := by
    simp only [k2v, h0, if_true, Go.Lib.len8]
    have : Go.Lib.len8tab[i.toNat]? = some (Go.Lib.len8tab[i.toNat]) := by simp [h2]
    rw [this]; rfl
  simp only [s2A, h, Option.map_some]
theorem len8_bd (i : Int) (h0 : 0 ≤ i) (h1 : i < 256) : 0 ≤ Go.Lib.len8 i ∧ Go.Lib.len8 i ≤ 8 := by
  obtain ⟨k, rfl⟩ : ∃ k : Nat, i = k := ⟨i.toNat, by omega⟩
  by_cases hk : k = 0
  · subst hk; decide +kernel
  · obtain ⟨s, h2, h3, _⟩ := len8_fin k (by omega) (by omega)
    omega
theorem wrap_u8 {n : Int} (h1 : 0 ≤ n) (h2 : n ≤ 255) : IntKind.wrap .u8 n = n := by
  simp only [IntKind.wrap, IntKind.signed, IntKind.bits, Bool.false_and, Bool.false_eq_true, if_false]
  have : (2 : Int) ^ 8 = 256 := by decide
  rw [this]; omega

theorem av_ixs (e : List A) (H : List Blk) (a c : X) : (X.b .ixs a c).av e H = ob (a.av e H) fun x => ob (c.av e H) fun y => s2A .ixs x y := rfl
def LenR (x : Int) : A → List Blk → Prop := fun r G => G = [] ∧ ∃ s : Nat, s ≤ 63 ∧ r = .v (.int .i64 (64 - s)) ∧ 9223372036854775808 ≤ x * 2 ^ s ∧ x * 2 ^ s < 18446744073709551616
set_option maxRecDepth 100000 in
theorem len64_vr (x : Int) (hx : 0 < x ∧ x ≤ 18446744073709551615) : VR P false n_bits_Len64 [.v (.int .u64 x)] [] (LenR x) := by
  refine vr_bits_Len64 (by simp) (.inr rfl) fun _ _ => ?_
  have e32 : (2 : Int) ^ (32 : Int).toNat = 4294967296 := by decide
  have e16 : (2 : Int) ^ (16 : Int).toNat = 65536 := by decide
  have e8 : (2 : Int) ^ (8 : Int).toNat = 256 := by decide
  unfold s_bits_Len64
  simp only [Go.Lib.fold_len8tab]
  simp (disch := ((try simp only [List.length_set, List.length_replicate, List.length_append, List.length_cons, List.length_nil]); omega)) only [aW, aX, aV, aB, aN, aL, aP, aH, v_bits_Len64]
  refine ib_intro (fun h0 => ?_) (fun h0 => ?_)
  · simp (disch := ((try simp only [List.length_set, List.length_replicate, List.length_append, List.length_cons, List.length_nil]); omega)) only [aW, aX, aV, aB, aN, aL, aP, aH, s_shrU, e32]
    refine ib_intro (fun h1 => ?_) (fun h1 => ?_)
    · simp (disch := ((try simp only [List.length_set, List.length_replicate, List.length_append, List.length_cons, List.length_nil]); omega)) only [aW, aX, aV, aB, aN, aL, aP, aH, s_shrU, e16]
      refine ib_intro (fun h2 => ?_) (fun h2 => ?_)
      · simp (disch := ((try simp only [List.length_set, List.length_replicate, List.length_append, List.length_cons, List.length_nil]); omega)) only [aW, aX, aV, aB, aN, aL, aP, aH, s_shrU, e8]
        have hz : x / 4294967296 / 65536 / 256 = x / 2 ^ 56 := by
          simp only [Int.reducePow] <;> omega
        obtain ⟨s, s1, s2, s3, s4⟩ := len_fin 56 x (by omega) (by rw [← hz]; omega) (by rw [← hz]; omega)
        have hl := len8_bd (x / 4294967296 / 65536 / 256) (by omega) (by omega)
        rw [← hz] at s2
        simp (disch := ((try simp only [List.length_set, List.length_replicate, List.length_append, List.length_cons, List.length_nil]); omega)) only [aW, aX, aV, aB, aN, aL, aP, aH, av_ixs, s_ix8, wrap_u8, r_bits_Len64]
        refine post_v ⟨rfl, s, s1, ?_, s3, s4⟩
        congr 2 <;> omega
      · simp (disch := ((try simp only [List.length_set, List.length_replicate, List.length_append, List.length_cons, List.length_nil]); omega)) only [aW, aX, aV, aB, aN, aL, aP, aH]
        have hz : x / 4294967296 / 65536 = x / 2 ^ 48 := by
          simp only [Int.reducePow] <;> omega
        obtain ⟨s, s1, s2, s3, s4⟩ := len_fin 48 x (by omega) (by rw [← hz]; omega) (by rw [← hz]; omega)
        have hl := len8_bd (x / 4294967296 / 65536) (by omega) (by omega)
        rw [← hz] at s2
        simp (disch := ((try simp only [List.length_set, List.length_replicate, List.length_append, List.length_cons, List.length_nil]); omega)) only [aW, aX, aV, aB, aN, aL, aP, aH, av_ixs, s_ix8, wrap_u8, r_bits_Len64]
        refine post_v ⟨rfl, s, s1, ?_, s3, s4⟩
        congr 2 <;> omega
    · simp (disch := ((try simp only [List.length_set, List.length_replicate, List.length_append, List.length_cons, List.length_nil]); omega)) only [aW, aX, aV, aB, aN, aL, aP, aH]
      refine ib_intro (fun h2 => ?_) (fun h2 => ?_)
      · simp (disch := ((try simp only [List.length_set, List.length_replicate, List.length_append, List.length_cons, List.length_nil]); omega)) only [aW, aX, aV, aB, aN, aL, aP, aH, s_shrU, e8]
        have hz : x / 4294967296 / 256 = x / 2 ^ 40 := by
          simp only [Int.reducePow] <;> omega
        obtain ⟨s, s1, s2, s3, s4⟩ := len_fin 40 x (by omega) (by rw [← hz]; omega) (by rw [← hz]; omega)
        have hl := len8_bd (x / 4294967296 / 256) (by omega) (by omega)
        rw [← hz] at s2
        simp (disch := ((try simp only [List.length_set, List.length_replicate, List.length_append, List.length_cons, List.length_nil]); omega)) only [aW, aX, aV, aB, aN, aL, aP, aH, av_ixs, s_ix8, wrap_u8, r_bits_Len64]
        refine post_v ⟨rfl, s, s1, ?_, s3, s4⟩
        congr 2 <;> omega
      · simp (disch := ((try simp only [List.length_set, List.length_replicate, List.length_append, List.length_cons, List.length_nil]); omega)) only [aW, aX, aV, aB, aN, aL, aP, aH]
        have hz : x / 4294967296 = x / 2 ^ 32 := by
          simp only [Int.reducePow] <;> omega
        obtain ⟨s, s1, s2, s3, s4⟩ := len_fin 32 x (by omega) (by rw [← hz]; omega) (by rw [← hz]; omega)
        have hl := len8_bd (x / 4294967296) (by omega) (by omega)
        rw [← hz] at s2
        simp (disch := ((try simp only [List.length_set, List.length_replicate, List.length_append, List.length_cons, List.length_nil]); omega)) only [aW, aX, aV, aB, aN, aL, aP, aH, av_ixs, s_ix8, wrap_u8, r_bits_Len64]
        refine post_v ⟨rfl, s, s1, ?_, s3, s4⟩
        congr 2 <;> omega
  · simp (disch := ((try simp only [List.length_set, List.length_replicate, List.length_append, List.length_cons, List.length_nil]); omega)) only [aW, aX, aV, aB, aN, aL, aP, aH]
    refine ib_intro (fun h1 => ?_) (fun h1 => ?_)
    · simp (disch := ((try simp only [List.length_set, List.length_replicate, List.length_append, List.length_cons, List.length_nil]); omega)) only [aW, aX, aV, aB, aN, aL, aP, aH, s_shrU, e16]
      refine ib_intro (fun h2 => ?_) (fun h2 => ?_)
      · simp (disch := ((try simp only [List.length_set, List.length_replicate, List.length_append, List.length_cons, List.length_nil]); omega)) only [aW, aX, aV, aB, aN, aL, aP, aH, s_shrU, e8]
        have hz : x / 65536 / 256 = x / 2 ^ 24 := by
          simp only [Int.reducePow] <;> omega
        obtain ⟨s, s1, s2, s3, s4⟩ := len_fin 24 x (by omega) (by rw [← hz]; omega) (by rw [← hz]; omega)
        have hl := len8_bd (x / 65536 / 256) (by omega) (by omega)
        rw [← hz] at s2
        simp (disch := ((try simp only [List.length_set, List.length_replicate, List.length_append, List.length_cons, List.length_nil]); omega)) only [aW, aX, aV, aB, aN, aL, aP, aH, av_ixs, s_ix8, wrap_u8, r_bits_Len64]
        refine post_v ⟨rfl, s, s1, ?_, s3, s4⟩
        congr 2 <;> omega
      · simp (disch := ((try simp only [List.length_set, List.length_replicate, List.length_append, List.length_cons, List.length_nil]); omega)) only [aW, aX, aV, aB, aN, aL, aP, aH]
        have hz : x / 65536 = x / 2 ^ 16 := by
          simp only [Int.reducePow] <;> omega
        obtain ⟨s, s1, s2, s3, s4⟩ := len_fin 16 x (by omega) (by rw [← hz]; omega) (by rw [← hz]; omega)
        have hl := len8_bd (x / 65536) (by omega) (by omega)
        rw [← hz] at s2
        simp (disch := ((try simp only [List.length_set, List.length_replicate, List.length_append, List.length_cons, List.length_nil]); omega)) only [aW, aX, aV, aB, aN, aL, aP, aH, av_ixs, s_ix8, wrap_u8, r_bits_Len64]
        refine post_v ⟨rfl, s, s1, ?_, s3, s4⟩
        congr 2 <;> omega
    · simp (disch := ((try simp only [List.length_set, List.length_replicate, List.length_append, List.length_cons, List.length_nil]); omega)) only [aW, aX, aV, aB, aN, aL, aP, aH]
      refine ib_intro (fun h2 => ?_) (fun h2 => ?_)
      · simp (disch := ((try simp only [List.length_set, List.length_replicate, List.length_append, List.length_cons, List.length_nil]); omega)) only [aW, aX, aV, aB, aN, aL, aP, aH, s_shrU, e8]
        have hz : x / 256 = x / 2 ^ 8 := by
          simp only [Int.reducePow] <;> omega
        obtain ⟨s, s1, s2, s3, s4⟩ := len_fin 8 x (by omega) (by rw [← hz]; omega) (by rw [← hz]; omega)
        have hl := len8_bd (x / 256) (by omega) (by omega)
        rw [← hz] at s2
        simp (disch := ((try simp only [List.length_set, List.length_replicate, List.length_append, List.length_cons, List.length_nil]); omega)) only [aW, aX, aV, aB, aN, aL, aP, aH, av_ixs, s_ix8, wrap_u8, r_bits_Len64]
        refine post_v ⟨rfl, s, s1, ?_, s3, s4⟩
        congr 2 <;> omega
      · simp (disch := ((try simp only [List.length_set, List.length_replicate, List.length_append, List.length_cons, List.length_nil]); omega)) only [aW, aX, aV, aB, aN, aL, aP, aH]
        have hz : x = x / 2 ^ 0 := by
          simp only [Int.reducePow] <;> omega
        obtain ⟨s, s1, s2, s3, s4⟩ := len_fin 0 x (by omega) (by rw [← hz]; omega) (by rw [← hz]; omega)
        have hl := len8_bd (x) (by omega) (by omega)
        rw [← hz] at s2
        simp (disch := ((try simp only [List.length_set, List.length_replicate, List.length_append, List.length_cons, List.length_nil]); omega)) only [aW, aX, aV, aB, aN, aL, aP, aH, av_ixs, s_ix8, wrap_u8, r_bits_Len64]
        refine post_v ⟨rfl, s, s1, ?_, s3, s4⟩
        congr 2 <;> omega
theorem lz64_vr (x : Int) (hx : 0 < x ∧ x ≤ 18446744073709551615) : VR P false n_bits_LeadingZeros64 [.v (.int .u64 x)] [] (fun r G => G = [] ∧ ∃ s : Nat, s ≤ 63 ∧ r = .v (.int .i64 s) ∧ 9223372036854775808 ≤ x * 2 ^ s ∧ x * 2 ^ s < 18446744073709551616) := by
  refine vr_bits_LeadingZeros64 (by simp) (.inr rfl) fun _ _ => ?_
  simp (disch := ((try simp only [List.length_set, List.length_replicate, List.length_append, List.length_cons, List.length_nil]); omega)) only [aW, aX, aV, aB, aN, aL, aP, aH, s_bits_LeadingZeros64, v_bits_LeadingZeros64]
  refine (len64_vr x hx).useE (LdL.refl (by simp (disch := first | omega | simp (disch := omega) only [aF, aL, aN]) only [aW, aX, aV, aB, aN, aL, aP, aH, aF, Int.natCast_add, Int.natCast_mul, Int.add_sub_cancel, List.length_nil, Int.cast_ofNat_Int, and_true, true_and])) ?_ ?_
  · rintro r G ⟨rfl, s, _, rfl, _⟩; exact ⟨rfl, rfl⟩
  rintro r ⟨_, s, s1, rfl, s3, s4⟩
  refine aret_of ?_
  simp (disch := ((try simp only [List.length_set, List.length_replicate, List.length_append, List.length_cons, List.length_nil]); omega)) only [aW, aX, aV, aB, aN, aL, aP, aH, r_bits_LeadingZeros64]
  refine post_v ⟨rfl, s, s1, ?_, s3, s4⟩
  congr 2 <;> omega

theorem s_orU (a b : Int) (k : Nat) (hk : k ≤ 63) (h0 : 0 ≤ a) (ha : (a * 2 ^ k) ≤ 18446744073709551615) (hb0 : 0 ≤ b) (hb : b < 2 ^ k) : s2A (.bin .or) (.v (.int .u64 (a * 2 ^ k))) (.v (.int .u64 b)) = some (.v (.int .u64 (a * 2 ^ k + b))) := by
  obtain ⟨a, rfl⟩ : ∃ n : Nat, a = n := ⟨a.toNat, by omega⟩
  obtain ⟨b, rfl⟩ : ∃ n : Nat, b = n := ⟨b.toNat, by omega⟩
  have e64 : (2 : Nat) ^ 64 = 18446744073709551616 := by decide
  have hb' : b < 2 ^ k := by
    have : ((2 ^ k : Nat) : Int) = 2 ^ k := by rw [Int.natCast_pow]; rfl
    omega
  have hA : ((a * 2 ^ k : Nat) : Int) = (a : Int) * 2 ^ k := by rw [Int.natCast_mul, Int.natCast_pow]; rfl
  rw [← hA] at ha ⊢
  have hor : (BitVec.ofInt 64 ((a * 2 ^ k : Nat) : Int) ||| BitVec.ofInt 64 (b : Int)).toNat = a * 2 ^ k + b := by
    rw [BitVec.toNat_or, BitVec.toNat_ofInt, BitVec.toNat_ofInt]
    have e1 : (((a * 2 ^ k : Nat) : Int) % (2 ^ 64 : Nat)).toNat = a * 2 ^ k := by
      rw [Int.emod_eq_of_lt (by omega) (by omega)]; rfl
    have hkk : (2 : Nat) ^ k ≤ 2 ^ 63 := Nat.pow_le_pow_right (by decide) hk
    have e63 : (2 : Nat) ^ 63 = 9223372036854775808 := by decide
    have e2 : ((b : Int) % (2 ^ 64 : Nat)).toNat = b := by
      rw [Int.emod_eq_of_lt (by omega) (by omega)]; rfl
    rw [e1, e2, Nat.mul_comm, Nat.two_pow_add_eq_or_of_lt hb']
  have hsum : a * 2 ^ k + b < 18446744073709551616 := by
    -- the upper part is a multiple of 2 ^ k below 2 ^ 64
    have h1 : a * 2 ^ k < 2 ^ (64 - k) * 2 ^ k := by rw [← Nat.pow_add, show 64 - k + k = 64 by omega, e64]; omega
    have h2 : a < 2 ^ (64 - k) := Nat.lt_of_mul_lt_mul_right h1
    have h3 : (a + 1) * 2 ^ k ≤ 2 ^ (64 - k) * 2 ^ k := Nat.mul_le_mul_right _ h2
    rw [← Nat.pow_add, show 64 - k + k = 64 by omega, e64, Nat.add_mul, Nat.one_mul] at h3
    omega
  have h : k2v (.bin .or) (.int .u64 ((a * 2 ^ k : Nat) : Int)) (.int .u64 (b : Int)) = some (.int .u64 (IntKind.wrap .u64 (((BitVec.ofInt 64 ((a * 2 ^ k : Nat) : Int) ||| BitVec.ofInt 64 (b : Int)).toNat : Nat) : Int))) := by
    simp [k2v, binOp, Op.intBits, pureV]; rfl
  rw [hor, wrap_u64 (by omega) (by omega)] at h
  simp only [s2A, h, Option.map_some, Int.natCast_add]
theorem s_shlU (a : Int) (k : IntKind) (b : Int) (h0 : 0 ≤ b) (h1 : b ≤ 63) : s2A (.bin .shl) (.v (.int .u64 a)) (.v (.int k b)) = some (.v (.int .u64 (IntKind.wrap .u64 (a * 2 ^ b.toNat)))) := by
  have e : min b.toNat 64 = b.toNat := Nat.min_eq_left (by omega)
  have h : k2v (.bin .shl) (.int .u64 a) (.int k b) = some (.int .u64 (IntKind.wrap .u64 (a * 2 ^ b.toNat))) := by
    rw [← e]
    simp only [k2v, binOp, Op.shift, pureV, show ¬ b < 0 by omega, if_false]; rfl
  simp only [s2A, h, Option.map_some]

theorem shift_lo (lo : Int) (s : Nat) (hs : s ≤ 63) (hlo : 0 ≤ lo ∧ lo ≤ 18446744073709551615) : ∃ l1 u : Int, lo / 2 ^ (64 - s) = l1 ∧ IntKind.wrap .u64 (lo * 2 ^ s) = u ∧ 0 ≤ l1 ∧ l1 < 2 ^ s ∧ 0 ≤ u ∧ u < 18446744073709551616 ∧ lo * 2 ^ s = l1 * 18446744073709551616 + u := by
  have p1 : 0 < (2 : Int) ^ s := Int.pow_pos (by decide)
  have p2 : 0 < (2 : Int) ^ (64 - s) := Int.pow_pos (by decide)
  have e64 : (2 : Int) ^ (64 - s) * 2 ^ s = 18446744073709551616 := by
    rw [← Int.pow_add, show 64 - s + s = 64 by omega]; decide
  have d := Int.mul_ediv_add_emod lo (2 ^ (64 - s))
  have m0 := Int.emod_nonneg lo (show (2 : Int) ^ (64 - s) ≠ 0 by omega)
  have m1 := Int.emod_lt_of_pos lo p2
  have q0 : 0 ≤ lo / 2 ^ (64 - s) := Int.ediv_nonneg hlo.1 (by omega)
  have q1 : lo / 2 ^ (64 - s) < 2 ^ s := Int.ediv_lt_of_lt_mul p2 (by rw [Int.mul_comm, e64]; omega)
  have f0 : 0 ≤ lo % 2 ^ (64 - s) * 2 ^ s := Int.mul_nonneg m0 (by omega)
  have f1 : lo % 2 ^ (64 - s) * 2 ^ s < 18446744073709551616 := by
    rw [← e64]; exact Int.mul_lt_mul_of_pos_right m1 p1
  have e : lo * 2 ^ s = lo / 2 ^ (64 - s) * 18446744073709551616 + lo % 2 ^ (64 - s) * 2 ^ s := by
    rw [← e64, ← Int.mul_assoc, ← Int.add_mul, Int.mul_comm (lo / _), d]
  exact ⟨_, _, rfl, rfl, q0, q1, by rw [wrap_mod]; omega, by rw [wrap_mod]; omega, by rw [wrap_mod]; omega⟩

set_option maxHeartbeats 4000000 in
theorem div64_vr (hi lo y : Int) (hhi : 0 < hi ∧ hi < y) (hlo : 0 ≤ lo ∧ lo ≤ 18446744073709551615) (hy : y ≤ 9223372036854775807) : VR P false n_bits_Div64 [.v (.int .u64 hi), .v (.int .u64 lo), .v (.int .u64 y)] [] (isR (.tup [.v (.int .u64 ((hi * 18446744073709551616 + lo) / y)), .v (.int .u64 ((hi * 18446744073709551616 + lo) % y))])) := by
  refine vr_bits_Div64 (by simp) (.inr rfl) fun _ _ => ?_
  simp (disch := ((try simp only [List.length_set, List.length_replicate, List.length_append, List.length_cons, List.length_nil]); omega)) only [aW, aX, aV, aB, aN, aL, aP, aH, s_bits_Div64, v_bits_Div64]
  refine (lz64_vr y (by omega)).useE (LdL.refl (by simp (disch := first | omega | simp (disch := omega) only [aF, aL, aN]) only [aW, aX, aV, aB, aN, aL, aP, aH, aF, Int.natCast_add, Int.natCast_mul, Int.add_sub_cancel, List.length_nil, Int.cast_ofNat_Int, and_true, true_and])) ?_ ?_
  · rintro r G ⟨rfl, s, _, rfl, _⟩; exact ⟨rfl, rfl⟩
  rintro r ⟨_, s, s1, rfl, s3, s4⟩
  refine aret_of ?_
  have hs0 : 0 < s := by
    apply Nat.pos_of_ne_zero; intro hc; subst hc; rw [Int.pow_zero] at s3; omega
  have tn : ((s : Nat) : Int).toNat = s := Int.toNat_natCast s
  have tn2 : (64 - ((s : Nat) : Int)).toNat = 64 - s := by omega
  have ws : IntKind.wrap .u64 ((s : Nat) : Int) = s := wrap_u64 (by omega) (by omega)
  have e32 : (2 : Int) ^ (32 : Int).toNat = 4294967296 := by decide
  have e32' : (2 : Int) ^ 32 = 4294967296 := by decide
  have p0 : 0 < (2 : Int) ^ s := Int.pow_pos (by decide)
  have hms : hi * 2 ^ s ≤ (y - 1) * 2 ^ s := Int.mul_le_mul_of_nonneg_right (by omega) (by omega)
  have hms0 : 0 ≤ hi * 2 ^ s := Int.mul_nonneg (by omega) (by omega)
  have w1 : IntKind.wrap .u64 (y * 2 ^ s) = y * 2 ^ s := wrap_u64 (by omega) (by omega)
  have hys : (y - 1) * 2 ^ s = y * 2 ^ s - 2 ^ s := by rw [Int.sub_mul, Int.one_mul]
  have w2 : IntKind.wrap .u64 (hi * 2 ^ s) = hi * 2 ^ s := wrap_u64 hms0 (by omega)
  obtain ⟨l1, u, hl1, hu, l10, l11, u0, u1, hlu⟩ := shift_lo lo s s1 hlo
  have hor := s_orU hi l1 s s1 (by omega) (by omega) l10 l11
  have hUU : (hi * 2 ^ s + l1) * 18446744073709551616 + u = (hi * 18446744073709551616 + lo) * 2 ^ s := by
    rw [Int.add_mul (hi * 18446744073709551616), hlu, Int.add_mul, Int.mul_assoc, Int.mul_assoc, Int.mul_comm (2 ^ s)]; omega
  have hU1 : hi * 2 ^ s + l1 < y * 2 ^ s := by omega
  have hfin := two_halves (s := 2 ^ s) p0 0 (y * 2 ^ s) (hi * 2 ^ s + l1) u rfl (by omega) hhi.2 hUU ⟨u0, u1⟩ (by omega)
  have hU0 : 0 ≤ hi * 2 ^ s + l1 := by omega
  have hsh : ((hi * 18446744073709551616 + lo) % y * 2 ^ s) / 2 ^ s = (hi * 18446744073709551616 + lo) % y := Int.mul_ediv_cancel _ (by omega)
  have hand1 := s_andU (y * 2 ^ s) 4294967295 32 (by omega) rfl (by omega) (by omega)
  have hand2 := s_andU u 4294967295 32 (by omega) rfl u0 (by omega)
  have w3 : IntKind.wrap .u64 (64 - ((s : Nat) : Int)) = 64 - s := wrap_u64 (by omega) (by omega)
  simp (disch := ((try simp only [List.length_set, List.length_replicate, List.length_append, List.length_cons, List.length_nil]); omega)) only [aW, aX, aV, aB, aN, aL, aP, aH, w3, ws, tn, tn2, s_shlU, w1, w2, s_shrU, e32, e32', hand1, hand2, hl1, hu, hor]
  generalize hU : hi * 2 ^ s + l1 = U at *
  generalize hY : y * 2 ^ s = Y at *
  clear hor hand1 hand2 w1 w2 hUU hms hys
  obtain ⟨a, ha⟩ : ∃ a, a = Y / 4294967296 := ⟨_, rfl⟩
  obtain ⟨b, hb⟩ : ∃ b, b = Y % 4294967296 := ⟨_, rfl⟩
  obtain ⟨d1, hd1⟩ : ∃ d1, d1 = u / 4294967296 := ⟨_, rfl⟩
  obtain ⟨d0, hd0⟩ : ∃ d0, d0 = u % 4294967296 := ⟨_, rfl⟩
  rw [← hd1, ← hd0] at hfin
  simp only [← ha, ← hb, ← hd1, ← hd0]
  have hP : HalfP U d1 Y a b := ⟨by omega, by omega, by omega, by omega, by omega, hU0, hU1, by omega, by omega⟩
  obtain ⟨i1, i2, i3, i4⟩ := half_start hP
  obtain ⟨r1, r2, r3⟩ := half_rest hP
  have hQ := hP.Q
  have hw1 := wrap_rest (U * 4294967296) d1 ((U * 4294967296 + d1) / Y * Y) (by omega)
  rw [r3] at hw1 r1 r2
  have i5 : 0 ≤ U / a := Int.ediv_nonneg hU0 (by omega)
  have i6 := i1.hi
  have t1 : U.tdiv a = U / a := Int.tdiv_eq_ediv_of_nonneg hU0
  generalize hQ1 : (U * 4294967296 + d1) / Y = Q1 at *
  generalize hR1 : (U * 4294967296 + d1) % Y = R1 at *
  have hP2 : HalfP R1 d0 Y a b := ⟨by omega, by omega, by omega, by omega, by omega, r1, r2, by omega, by omega⟩
  obtain ⟨j1, j2, j3, j4⟩ := half_start hP2
  obtain ⟨k1, k2, k3⟩ := half_rest hP2
  have hQ2 := hP2.Q
  have hw2 := wrap_rest (R1 * 4294967296) d0 ((R1 * 4294967296 + d0) / Y * Y) (by omega)
  rw [k3] at hw2 k1 k2
  have j5 : 0 ≤ R1 / a := Int.ediv_nonneg r1 (by omega)
  have j6 := j1.hi
  have t2 : R1.tdiv a = R1 / a := Int.tdiv_eq_ediv_of_nonneg r1
  generalize hQ0 : (R1 * 4294967296 + d0) / Y = Q0 at *
  generalize hR0 : (R1 * 4294967296 + d0) % Y = R0 at *
  have hb01 := hP.hb0
  have hb02 := hP.hb1
  have ha1 := hP.ha1
  have ha0 := hP.ha0
  have hd10 := hP.hd0
  have hd11 := hP.hd1
  have hd20 := hP2.hd0
  have hd21 := hP2.hd1
  have mb : ∀ q : Int, 0 ≤ q → q < 4294967296 → 0 ≤ q * b ∧ q * b ≤ 4294967295 * 4294967295 := fun q h1 h2 => ⟨Int.mul_nonneg h1 hb01, Int.mul_le_mul (by omega) (by omega) hb01 (by omega)⟩
  have mQ1 := mb Q1 hQ.1 hQ.2
  have mQ0 := mb Q0 hQ2.1 hQ2.2
  simp (disch := ((try simp only [List.length_set, List.length_replicate, List.length_append, List.length_cons, List.length_nil]); omega)) only [aW, aX, aV, aB, aN, aL, aP, aH, t1, wrap_u64]
  refine AWP.loopP (α := Int × Int) g_bits_Div64_0 (fun p => HalfI U d1 Y a b p.1 p.2 ∧ p.2 < 4294967296 ∧ 0 ≤ p.1) (fun p => [(12, .v (.int .u64 p.1)), (13, .v (.int .u64 p.2))]) (fun _ => []) (fun p => (p.1 - Q1).toNat) (U / a, U - U / a * a) ⟨i1, i2, i5⟩ ?_ ?_
  · exact Cut.of' 0 rfl (by omega) (by simp (disch := first | omega | simp (disch := omega) only [aF, aL, aN]) only [aW, aX, aV, aB, aN, aL, aP, aH, aF, Int.natCast_add, Int.natCast_mul, Int.add_sub_cancel, List.length_nil, Int.cast_ofNat_Int, and_true, true_and]) (by simp (disch := first | omega | simp (disch := omega) only [aF, aL, aN]) only [aW, aX, aV, aB, aN, aL, aP, aH, aF, Int.natCast_add, Int.natCast_mul, Int.add_sub_cancel, List.length_nil, Int.cast_ofNat_Int, and_true, true_and])
  rintro ⟨q, r⟩ ⟨hI, hr, hq0⟩
  simp only at hI hr hq0
  have hr0 := hI.r0
  have hqh := hI.hi
  have hqQ := hI.lo
  rw [hQ1] at hqQ
  have hnx := fun ht => half_next hP hI ht
  have hbg := fun ht => half_big hP hI hq0 ht
  rw [hQ1] at hnx hbg
  have mq := mb q hq0
  by_cases hcont : (4294967296 ≤ q ∨ 4294967296 * r + d1 < q * b) ∧ r + a < 4294967296
  · obtain ⟨hT, hra⟩ := hcont
    obtain ⟨n1, n2, n3⟩ := hnx hT
    have n4 := n1.lo
    rw [hQ1] at n4
    by_cases hq : 4294967296 ≤ q
    · simp (disch := ((try simp only [List.length_set, List.length_replicate, List.length_append, List.length_cons, List.length_nil]); omega)) only [aW, aX, aV, aB, aN, aL, aP, aH, wrap_u64]
      refine ⟨(q - 1, r + a), ⟨n1, hra, n2⟩, by simp only; omega, ?_⟩
      exact Cut.of' 0 rfl (by omega) (by simp (disch := first | omega | simp (disch := omega) only [aF, aL, aN]) only [aW, aX, aV, aB, aN, aL, aP, aH, aF, Int.natCast_add, Int.natCast_mul, Int.add_sub_cancel, List.length_nil, Int.cast_ofNat_Int, and_true, true_and]) (by simp (disch := first | omega | simp (disch := omega) only [aF, aL, aN]) only [aW, aX, aV, aB, aN, aL, aP, aH, aF, Int.natCast_add, Int.natCast_mul, Int.add_sub_cancel, List.length_nil, Int.cast_ofNat_Int, and_true, true_and])
    · have mq' := mq (by omega)
      simp (disch := ((try simp only [List.length_set, List.length_replicate, List.length_append, List.length_cons, List.length_nil]); omega)) only [aW, aX, aV, aB, aN, aL, aP, aH, wrap_u64]
      refine ⟨(q - 1, r + a), ⟨n1, hra, n2⟩, by simp only; omega, ?_⟩
      exact Cut.of' 0 rfl (by omega) (by simp (disch := first | omega | simp (disch := omega) only [aF, aL, aN]) only [aW, aX, aV, aB, aN, aL, aP, aH, aF, Int.natCast_add, Int.natCast_mul, Int.add_sub_cancel, List.length_nil, Int.cast_ofNat_Int, and_true, true_and]) (by simp (disch := first | omega | simp (disch := omega) only [aF, aL, aN]) only [aW, aX, aV, aB, aN, aL, aP, aH, aF, Int.natCast_add, Int.natCast_mul, Int.add_sub_cancel, List.length_nil, Int.cast_ofNat_Int, and_true, true_and])
  have hex : (q = Q1 ∧ q < 4294967296 ∧ Q1 * b ≤ 4294967296 * r + d1) ∨ (4294967296 ≤ q ∧ 4294967296 ≤ r + a ∧ q - 1 = Q1) ∨ (q < 4294967296 ∧ 4294967296 * r + d1 < q * b ∧ 4294967296 ≤ r + a ∧ q - 1 = Q1) := by
    by_cases hT : 4294967296 ≤ q ∨ 4294967296 * r + d1 < q * b
    · have hra : 4294967296 ≤ r + a := by
        apply Classical.byContradiction; intro hc; exact hcont ⟨hT, by omega⟩
      obtain ⟨n1, n2, n3⟩ := hnx hT
      have := n3 hra
      by_cases hq : 4294967296 ≤ q
      · exact .inr (.inl ⟨hq, hra, this⟩)
      · exact .inr (.inr ⟨by omega, by omega, hra, this⟩)
    · have h1 : q = Q1 := hbg (by omega)
      exact .inl ⟨h1, by omega, by rw [← h1]; omega⟩
  clear hcont hnx hbg
  rcases hex with ⟨hB, hx1, hx2⟩ | ⟨hx1, hx2, hB⟩ | ⟨hx1, hx2, hx3, hB⟩
  all_goals
    try have mq' := mq (by omega)
    simp (disch := ((try simp only [List.length_set, List.length_replicate, List.length_append, List.length_cons, List.length_nil]); omega)) only [aW, aX, aV, aB, aN, aL, aP, aH, hB, wrap_u64, hw1, t2]
    clear hI hr hr0 hqh hqQ mq
    refine AWP.loopP (α := Int × Int) g_bits_Div64_1 (fun p => HalfI R1 d0 Y a b p.1 p.2 ∧ p.2 < 4294967296 ∧ 0 ≤ p.1) (fun p => [(15, .v (.int .u64 p.1)), (13, .v (.int .u64 p.2))]) (fun _ => []) (fun p => (p.1 - Q0).toNat) (R1 / a, R1 - R1 / a * a) ⟨j1, j2, j5⟩ ?_ ?_
    · exact Cut.of' 0 rfl (by omega) (by simp (disch := first | omega | simp (disch := omega) only [aF, aL, aN]) only [aW, aX, aV, aB, aN, aL, aP, aH, aF, Int.natCast_add, Int.natCast_mul, Int.add_sub_cancel, List.length_nil, Int.cast_ofNat_Int, and_true, true_and]) (by simp (disch := first | omega | simp (disch := omega) only [aF, aL, aN]) only [aW, aX, aV, aB, aN, aL, aP, aH, aF, Int.natCast_add, Int.natCast_mul, Int.add_sub_cancel, List.length_nil, Int.cast_ofNat_Int, and_true, true_and])
    rintro ⟨c, e⟩ ⟨hI, hr, hc0⟩
    simp only at hI hr hc0
    have hr0 := hI.r0
    have hqh := hI.hi
    have hqQ := hI.lo
    rw [hQ0] at hqQ
    have hnx := fun ht => half_next hP2 hI ht
    have hbg := fun ht => half_big hP2 hI hc0 ht
    rw [hQ0] at hnx hbg
    have mq := mb c hc0
    by_cases hcont : (4294967296 ≤ c ∨ 4294967296 * e + d0 < c * b) ∧ e + a < 4294967296
    · obtain ⟨hT, hra⟩ := hcont
      obtain ⟨n1, n2, n3⟩ := hnx hT
      have n4 := n1.lo
      rw [hQ0] at n4
      by_cases hq : 4294967296 ≤ c
      · simp (disch := ((try simp only [List.length_set, List.length_replicate, List.length_append, List.length_cons, List.length_nil]); omega)) only [aW, aX, aV, aB, aN, aL, aP, aH, wrap_u64]
        refine ⟨(c - 1, e + a), ⟨n1, hra, n2⟩, by simp only; omega, ?_⟩
        exact Cut.of' 0 rfl (by omega) (by simp (disch := first | omega | simp (disch := omega) only [aF, aL, aN]) only [aW, aX, aV, aB, aN, aL, aP, aH, aF, Int.natCast_add, Int.natCast_mul, Int.add_sub_cancel, List.length_nil, Int.cast_ofNat_Int, and_true, true_and]) (by simp (disch := first | omega | simp (disch := omega) only [aF, aL, aN]) only [aW, aX, aV, aB, aN, aL, aP, aH, aF, Int.natCast_add, Int.natCast_mul, Int.add_sub_cancel, List.length_nil, Int.cast_ofNat_Int, and_true, true_and])
      · have mq' := mq (by omega)
        simp (disch := ((try simp only [List.length_set, List.length_replicate, List.length_append, List.length_cons, List.length_nil]); omega)) only [aW, aX, aV, aB, aN, aL, aP, aH, wrap_u64]
        refine ⟨(c - 1, e + a), ⟨n1, hra, n2⟩, by simp only; omega, ?_⟩
        exact Cut.of' 0 rfl (by omega) (by simp (disch := first | omega | simp (disch := omega) only [aF, aL, aN]) only [aW, aX, aV, aB, aN, aL, aP, aH, aF, Int.natCast_add, Int.natCast_mul, Int.add_sub_cancel, List.length_nil, Int.cast_ofNat_Int, and_true, true_and]) (by simp (disch := first | omega | simp (disch := omega) only [aF, aL, aN]) only [aW, aX, aV, aB, aN, aL, aP, aH, aF, Int.natCast_add, Int.natCast_mul, Int.add_sub_cancel, List.length_nil, Int.cast_ofNat_Int, and_true, true_and])
    have hex : (c = Q0 ∧ c < 4294967296 ∧ Q0 * b ≤ 4294967296 * e + d0) ∨ (4294967296 ≤ c ∧ 4294967296 ≤ e + a ∧ c - 1 = Q0) ∨ (c < 4294967296 ∧ 4294967296 * e + d0 < c * b ∧ 4294967296 ≤ e + a ∧ c - 1 = Q0) := by
      by_cases hT : 4294967296 ≤ c ∨ 4294967296 * e + d0 < c * b
      · have hra : 4294967296 ≤ e + a := by
          apply Classical.byContradiction; intro hc; exact hcont ⟨hT, by omega⟩
        obtain ⟨n1, n2, n3⟩ := hnx hT
        have := n3 hra
        by_cases hq : 4294967296 ≤ c
        · exact .inr (.inl ⟨hq, hra, this⟩)
        · exact .inr (.inr ⟨by omega, by omega, hra, this⟩)
      · have h1 : c = Q0 := hbg (by omega)
        exact .inl ⟨h1, by omega, by rw [← h1]; omega⟩
    clear hcont hnx hbg
    rcases hex with ⟨hC, hy1, hy2⟩ | ⟨hy1, hy2, hC⟩ | ⟨hy1, hy2, hy3, hC⟩
    all_goals
      try have mq' := mq (by omega)
      simp (disch := ((try simp only [List.length_set, List.length_replicate, List.length_append, List.length_cons, List.length_nil]); omega)) only [aW, aX, aV, aB, aN, aL, aP, aH, hC, wrap_u64, hw2, s_shrU, tn, hfin.1, hfin.2, hsh, r_bits_Div64]
      exact post0 (Fz.refl rfl) ⟨rfl, rfl⟩
end Go.Proofs.Ytnpbnlafaoldcaa