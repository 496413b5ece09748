/- Sorted orders and rounds; operations on bits; num.Sum, bits.Mul64. No statement is claimed here. -/
import Derived.Test.YtnpbnlafaoldcaaRf
import Derived.Lib.Mul64
namespace Go.Proofs.Ytnpbnlafaoldcaa
open Go Go.Lft
set_option linter.unusedSimpArgs false
set_option linter.unusedVariables false
attribute [local congr] ob_congr bw_congr ib_congr ck_congr iwA_congr itA_congr aw_congr awp_congr sqA_congr bkA_congr vr_congr gd_congr

/-! ### A sorted order tells what the rounds take -/
theorem pigeonI : ∀ (n : Nat) (f : Nat → Nat), (∀ i, i ≤ n → f i < n) → ∃ i j, i < j ∧ j ≤ n ∧ f i = f j
  | 0, f, h => by have := h 0 (by omega); omega
  | n + 1, f, h => by
    by_cases hx : ∃ i, i ≤ n ∧ f i = f (n + 1)
    · obtain ⟨i, h1, h2⟩ := hx; exact ⟨i, n + 1, by omega, by omega, h2⟩
    · have hne : ∀ i, i ≤ n → f i ≠ f (n + 1) := fun i hi hc => hx ⟨i, hi, hc⟩
      obtain ⟨i, j, h1, h2, h3⟩ := pigeonI n (fun i => if f i = n then f (n + 1) else f i) fun i hi => by
        have a1 := h i (by omega)
        have a2 := h (n + 1) (by omega)
        have a3 := hne i hi
        split <;> omega
      have a1 := hne i (by omega)
      have a2 := hne j h2
      refine ⟨i, j, h1, by omega, ?_⟩
      split at h3 <;> split at h3 <;> omega
theorem ltO_ne {q : List Int} {x y : Int} (h : ltO q x y) : x ≠ y := by rintro rfl; unfold ltO at h; omega
theorem sorted_all {q T : List Int} {n : Nat} (hl : T.length = n) (hr : InR n T) (hs : T.Pairwise (ltO q)) : ∀ i : Nat, i < n → ∃ l, l < n ∧ T.getD l 0 = (i : Int) := fun i hi => by
  apply Classical.byContradiction; intro hc
  have hne : ∀ l, l < n → T.getD l 0 ≠ (i : Int) := fun l hl' he => hc ⟨l, hl', he⟩
  have hin : ∀ l, l < n → 0 ≤ T.getD l 0 ∧ T.getD l 0 < n := fun l hl' => hr _ (mem_getD (by omega))
  obtain ⟨m, rfl⟩ : ∃ m, n = m + 1 := ⟨n - 1, by omega⟩
  obtain ⟨a, b, h1, h2, h3⟩ := pigeonI m (fun l => if (T.getD l 0).toNat < i then (T.getD l 0).toNat else (T.getD l 0).toNat - 1) fun l hl' => by
    have a1 := hin l (by omega)
    have a2 := hne l (by omega)
    split <;> omega
  have a1 := hin a (by omega)
  have a2 := hne a (by omega)
  have b1 := hin b (by omega)
  have b2 := hne b (by omega)
  have hab : T.getD a 0 = T.getD b 0 := by
    split at h3 <;> split at h3 <;> omega
  have := List.pairwise_iff_getElem.1 hs a b (by omega) (by omega) h1
  refine ltO_ne this ?_
  simpa [List.getD_eq_getElem?_getD, show a < T.length by omega, show b < T.length by omega] using hab
theorem sorted_get {q T : List Int} (hs : T.Pairwise (ltO q)) {i j : Nat} (hij : i < j) (hj : j < T.length) : ltO q (T.getD i 0) (T.getD j 0) := by
  have := List.pairwise_iff_getElem.1 hs i j (by omega) hj hij
  simpa [List.getD_eq_getElem?_getD, show i < T.length by omega, hj] using this
def incs (p : List Int) (T : List Int) : List Int := T.foldl (fun p x => inc p x.toNat) p
theorem incs_succ (p T : List Int) (k : Nat) (h : k < T.length) : incs p (T.take (k + 1)) = inc (incs p (T.take k)) (T.getD k 0).toNat := by
  unfold incs
  rw [List.take_succ_eq_append_getElem h, List.foldl_append]
  simp [List.getD_eq_getElem?_getD, h]
theorem incs_len (p T : List Int) : (incs p T).length = p.length := by
  unfold incs
  induction T generalizing p with
  | nil => rfl
  | cons x T ih => rw [List.foldl_cons, ih, inc_len]
theorem rd_sorted {p0 q0 T : List Int} (hl : p0.length = q0.length) (hq : ∀ i, i < q0.length → 0 ≤ q0.getD i 0) (hT : T.length = q0.length) (hr : InR q0.length T) (hs : T.Pairwise (ltO q0)) :
    ∀ k, k ≤ q0.length → (rd p0 q0 k).1 = incs p0 (T.take k) ∧ ∀ i, i < q0.length → (rd p0 q0 k).2.getD i 0 = if ∃ l, l < k ∧ T.getD l 0 = (i : Int) then -1 else q0.getD i 0
  | 0, _ => ⟨by simp [rd, incs], fun i _ => by rw [if_neg (by rintro ⟨l, h, _⟩; omega)]; rfl⟩
  | k + 1, hk => by
    obtain ⟨h1, h2⟩ := rd_sorted hl hq hT hr hs k (by omega)
    have hll := rd_len p0 q0 k
    have hin := hr _ (mem_getD (l := T) (i := k) (by omega))
    have hb : bestI (rd p0 q0 k).2 = (T.getD k 0).toNat := by
      have hTk : (rd p0 q0 k).2.getD (T.getD k 0).toNat 0 = q0.getD (T.getD k 0).toNat 0 := by
        rw [h2 _ (by omega), if_neg]
        rintro ⟨l, l1, l2⟩
        exact ltO_ne (sorted_get hs l1 (by omega)) (by omega)
      have hge : ∀ i, i < q0.length → (rd p0 q0 k).2.getD i 0 ≤ q0.getD (T.getD k 0).toNat 0 ∧ (i < (T.getD k 0).toNat → (rd p0 q0 k).2.getD i 0 < q0.getD (T.getD k 0).toNat 0) := fun i hi => by
        rw [h2 i hi]
        have hnn := hq (T.getD k 0).toNat (by omega)
        split
        · omega
        · rename_i hx
          obtain ⟨l, l1, l2⟩ := sorted_all hT hr hs i hi
          have hkl : k ≤ l := Nat.le_of_not_lt fun hc => hx ⟨l, hc, l2⟩
          by_cases hkl2 : k = l
          · subst hkl2
            rw [l2, Int.toNat_natCast]
            exact ⟨Int.le_refl _, fun h => by omega⟩
          · have := sorted_get hs (show k < l by omega) (by omega)
            rw [l2] at this
            unfold ltO kq at this
            rw [Int.toNat_natCast] at this
            omega
      refine bestI_uniq (by omega) (fun i hi => ?_) fun i hi => ?_
      · rw [hTk]; exact (hge i (by omega)).1
      · rw [hTk]; exact (hge i (by omega)).2 hi
    refine ⟨?_, fun i hi => ?_⟩
    · simp only [rd]
      rw [hb, h1, incs_succ _ _ _ (by omega)]
    · simp only [rd]
      rw [hb, getD_seti]
      by_cases he : (T.getD k 0).toNat = i
      · rw [if_pos ⟨he, by omega⟩, if_pos ⟨k, by omega, by omega⟩]
      · rw [if_neg (fun h => he h.1), h2 i hi]
        have : (∃ l, l < k ∧ T.getD l 0 = (i : Int)) ↔ ∃ l, l < k + 1 ∧ T.getD l 0 = (i : Int) := by
          constructor
          · rintro ⟨l, a, b⟩; exact ⟨l, by omega, b⟩
          · rintro ⟨l, a, b⟩
            rcases Nat.lt_succ_iff_lt_or_eq.1 a with h | rfl
            · exact ⟨l, h, b⟩
            · omega
        simp only [this]

/-! ### Operations on bits -/
theorem fdiv_nn (a : Int) (n : Nat) : a.fdiv (2 ^ n) = a / 2 ^ n := Int.fdiv_eq_ediv_of_nonneg a (Int.le_of_lt (Int.pow_pos (by decide)))
theorem s_shrI (a : Int) (k : IntKind) (b : Int) (h0 : 0 ≤ b) (h1 : b ≤ 63) : s2A (.bin .shr) (.v (.int .i64 a)) (.v (.int k b)) = some (.v (.int .i64 (a / 2 ^ b.toNat))) := by
  have e : min b.toNat 64 = b.toNat := Nat.min_eq_left (by omega)
  have h : k2v (.bin .shr) (.int .i64 a) (.int k b) = some (.int .i64 (a / 2 ^ b.toNat)) := by
    rw [← fdiv_nn, ← e]
    simp only [k2v, binOp, Op.shift, pureV, show ¬ b < 0 by omega, if_false]; rfl
  simp only [s2A, h, Option.map_some]
theorem s_shrU (a : Int) (k : IntKind) (b : Int) (h0 : 0 ≤ b) (h1 : b ≤ 63) : s2A (.bin .shr) (.v (.int .u64 a)) (.v (.int k b)) = some (.v (.int .u64 (a / 2 ^ b.toNat))) := by
  have e : min b.toNat 64 = b.toNat := Nat.min_eq_left (by omega)
  have h : k2v (.bin .shr) (.int .u64 a) (.int k b) = some (.int .u64 (a / 2 ^ b.toNat)) := by
    rw [← fdiv_nn, ← e]
    simp only [k2v, binOp, Op.shift, pureV, show ¬ b < 0 by omega, if_false]; rfl
  simp only [s2A, h, Option.map_some]
theorem s_shlI (a : Int) (k : IntKind) (b : Int) (h0 : 0 ≤ b) (h1 : b ≤ 63) : s2A (.bin .shl) (.v (.int .i64 a)) (.v (.int k b)) = some (.v (.int .i64 (IntKind.wrap .i64 (a * 2 ^ b.toNat)))) := by
  have e : min b.toNat 64 = b.toNat := Nat.min_eq_left (by omega)
  have h : k2v (.bin .shl) (.int .i64 a) (.int k b) = some (.int .i64 (IntKind.wrap .i64 (a * 2 ^ b.toNat))) := by
    rw [← e]
    simp only [k2v, binOp, Op.shift, pureV, show ¬ b < 0 by omega, if_false]; rfl
  simp only [s2A, h, Option.map_some]
theorem and_mask (a : Nat) (k : Nat) (ha : a < 2 ^ 64) (hk : 2 ^ k - 1 < 2 ^ 64) : (BitVec.ofInt 64 (a : Int) &&& BitVec.ofInt 64 ((2 ^ k - 1 : Nat) : Int)).toNat = a % 2 ^ k := by
  rw [BitVec.toNat_and, BitVec.toNat_ofInt, BitVec.toNat_ofInt]
  have e1 : ((a : Int) % (2 ^ 64 : Nat)).toNat = a := by omega
  have e2 : (((2 ^ k - 1 : Nat) : Int) % (2 ^ 64 : Nat)).toNat = 2 ^ k - 1 := by
    rw [Int.emod_eq_of_lt (by omega) (by omega)]; rfl
  rw [e1, e2, Nat.and_two_pow_sub_one_eq_mod]
theorem s_andI (a m : Int) (k : Nat) (hk : k ≤ 62) (hm : m = 2 ^ k - 1) (h0 : 0 ≤ a) (h1 : a ≤ 9223372036854775807) : s2A (.bin .and) (.v (.int .i64 a)) (.v (.int .i64 m)) = some (.v (.int .i64 (a % 2 ^ k))) := by
  obtain ⟨b, rfl⟩ : ∃ b : Nat, a = b := ⟨a.toNat, by omega⟩
  have hp : (2 : Nat) ^ k ≤ 2 ^ 62 := Nat.pow_le_pow_right (by decide) hk
  have h1p : 1 ≤ 2 ^ k := Nat.one_le_two_pow
  have e62 : (2 : Nat) ^ 62 = 4611686018427387904 := by decide
  have e64 : (2 : Nat) ^ 64 = 18446744073709551616 := by decide
  have hm' : m = ((2 ^ k - 1 : Nat) : Int) := by
    rw [hm, Int.natCast_sub h1p, Int.natCast_pow]; rfl
  have hb := and_mask b k (by omega) (by omega)
  have h : k2v (.bin .and) (.int .i64 b) (.int .i64 m) = some (.int .i64 (IntKind.wrap .i64 ((BitVec.ofInt 64 (b : Int) &&& BitVec.ofInt 64 m).toNat))) := by
    simp [k2v, binOp, Op.intBits, pureV]; rfl
  have hlt : b % 2 ^ k < 2 ^ k := Nat.mod_lt _ (by omega)
  rw [hm', hb, wrap_in (by omega) (by omega)] at h
  rw [hm']
  simp only [s2A, h, Option.map_some, Int.natCast_emod, Int.natCast_pow]
  rfl
theorem s_andU (a m : Int) (k : Nat) (hk : k ≤ 62) (hm : m = 2 ^ k - 1) (h0 : 0 ≤ a) (h1 : a ≤ 18446744073709551615) : s2A (.bin .and) (.v (.int .u64 a)) (.v (.int .u64 m)) = some (.v (.int .u64 (a % 2 ^ k))) := by
  obtain ⟨b, rfl⟩ : ∃ b : Nat, a = b := ⟨a.toNat, by omega⟩
  have hp : (2 : Nat) ^ k ≤ 2 ^ 62 := Nat.pow_le_pow_right (by decide) hk
  have h1p : 1 ≤ 2 ^ k := Nat.one_le_two_pow
  have e62 : (2 : Nat) ^ 62 = 4611686018427387904 := by decide
  have e64 : (2 : Nat) ^ 64 = 18446744073709551616 := by decide
  have hm' : m = ((2 ^ k - 1 : Nat) : Int) := by
    rw [hm, Int.natCast_sub h1p, Int.natCast_pow]; rfl
  have hb := and_mask b k (by omega) (by omega)
  have h : k2v (.bin .and) (.int .u64 b) (.int .u64 m) = some (.int .u64 (IntKind.wrap .u64 ((BitVec.ofInt 64 (b : Int) &&& BitVec.ofInt 64 m).toNat))) := by
    simp [k2v, binOp, Op.intBits, pureV]; rfl
  have hlt : b % 2 ^ k < 2 ^ k := Nat.mod_lt _ (by omega)
  rw [hm', hb, wrap_u64 (by omega) (by omega)] at h
  rw [hm']
  simp only [s2A, h, Option.map_some, Int.natCast_emod, Int.natCast_pow]
  rfl
end Go.Proofs.Ytnpbnlafaoldcaa
