/- Lemmas and walks that the proof of BaleProportions uses. No statement is claimed here. -/
import Derived.Test.YtbgmhbjfcpddkaaBaleProportionsZal
import Derived.Lib.Mul64
namespace Go.Proofs.Ytbgmhbjfcpddkaa
open Go Go.Lft
set_option linter.unusedSimpArgs false
set_option linter.unusedVariables false
attribute [local congr] ob_congr bw_congr ib_congr ck_congr iwA_congr itA_congr aw_congr awp_congr sqA_congr bkA_congr vr_congr gd_congr

/-! ### A sorted order tells what the rounds take -/
theorem pigeonI : ∀ (n : Nat) (f : Nat → Nat), (∀ i, i ≤ n → f i < n) → ∃ i j, i < j ∧ j ≤ n ∧ f i = f j
  | 0, f, h => by have := h 0 (by omega); omega
  | n + 1, f, h => by
    by_cases hx : ∃ i, i ≤ n ∧ f i = f (n + 1)
    · obtain ⟨i, h1, h2⟩ := hx; exact ⟨i, n + 1, by omega, by omega, h2⟩
    · have hne : ∀ i, i ≤ n → f i ≠ f (n + 1) := fun i hi hc => hx ⟨i, hi, hc⟩
      obtain ⟨i, j, h1, h2, h3⟩ := pigeonI n (fun i => if f i = n then f (n + 1) else f i) fun i hi => by
        have a1 := h i (by omega)
        have a2 := h (n + 1) (by omega)
        have a3 := hne i hi
        split <;> omega
      have a1 := hne i (by omega)
      have a2 := hne j h2
      refine ⟨i, j, h1, by omega, ?_⟩
      split at h3 <;> split at h3 <;> omega
theorem ltO_ne {q : List Int} {x y : Int} (h : ltO q x y) : x ≠ y := by rintro rfl; unfold ltO at h; omega
theorem sorted_all {q T : List Int} {n : Nat} (hl : T.length = n) (hr : InR n T) (hs : T.Pairwise (ltO q)) : ∀ i : Nat, i < n → ∃ l, l < n ∧ T.getD l 0 = (i : Int) := fun i hi => by
  apply Classical.byContradiction; intro hc
  have hne : ∀ l, l < n → T.getD l 0 ≠ (i : Int) := fun l hl' he => hc ⟨l, hl', he⟩
  have hin : ∀ l, l < n → 0 ≤ T.getD l 0 ∧ T.getD l 0 < n := fun l hl' => hr _ (mem_getD (by omega))
  obtain ⟨m, rfl⟩ : ∃ m, n = m + 1 := ⟨n - 1, by omega⟩
  obtain ⟨a, b, h1, h2, h3⟩ := pigeonI m (fun l => if (T.getD l 0).toNat < i then (T.getD l 0).toNat else (T.getD l 0).toNat - 1) fun l hl' => by
    have a1 := hin l (by omega)
    have a2 := hne l (by omega)
    split <;> omega
  have a1 := hin a (by omega)
  have a2 := hne a (by omega)
  have b1 := hin b (by omega)
  have b2 := hne b (by omega)
  have hab : T.getD a 0 = T.getD b 0 := by
    split at h3 <;> split at h3 <;> omega
  have := List.pairwise_iff_getElem.1 hs a b (by omega) (by omega) h1
  refine ltO_ne this ?_
  simpa [List.getD_eq_getElem?_getD, show a < T.length by omega, show b < T.length by omega] using hab
theorem sorted_get {q T : List Int} (hs : T.Pairwise (ltO q)) {i j : Nat} (hij : i < j) (hj : j < T.length) : ltO q (T.getD i 0) (T.getD j 0) := by
  have := List.pairwise_iff_getElem.1 hs i j (by omega) hj hij
  simpa [List.getD_eq_getElem?_getD, show i < T.length by omega, hj] using this
def incs (p : List Int) (T : List Int) : List Int := T.foldl (fun p x => inc p x.toNat) p
theorem incs_succ (p T : List Int) (k : Nat) (h : k < T.length) : incs p (T.take (k + 1)) = inc (incs p (T.take k)) (T.getD k 0).toNat := by
  unfold incs
  rw [List.take_succ_eq_append_getElem h, List.foldl_append]
  simp [List.getD_eq_getElem?_getD, h]
theorem incs_len (p T : List Int) : (incs p T).length = p.length := by
  unfold incs
  induction T generalizing p with
  | nil => rfl
  | cons x T ih => rw [List.foldl_cons, ih, inc_len]
theorem rd_sorted {p0 q0 T : List Int} (hl : p0.length = q0.length) (hq : ∀ i, i < q0.length → 0 ≤ q0.getD i 0) (hT : T.length = q0.length) (hr : InR q0.length T) (hs : T.Pairwise (ltO q0)) :
    ∀ k, k ≤ q0.length → (rd p0 q0 k).1 = incs p0 (T.take k) ∧ ∀ i, i < q0.length → (rd p0 q0 k).2.getD i 0 = if ∃ l, l < k ∧ T.getD l 0 = (i : Int) then -1 else q0.getD i 0
  | 0, _ => ⟨by simp [rd, incs], fun i _ => by rw [if_neg (by rintro ⟨l, h, _⟩; omega)]; rfl⟩
  | k + 1, hk => by
    obtain ⟨h1, h2⟩ := rd_sorted hl hq hT hr hs k (by omega)
    have hll := rd_len p0 q0 k
    have hin := hr _ (mem_getD (l := T) (i := k) (by omega))
    have hb : bestI (rd p0 q0 k).2 = (T.getD k 0).toNat := by
      have hTk : (rd p0 q0 k).2.getD (T.getD k 0).toNat 0 = q0.getD (T.getD k 0).toNat 0 := by
        rw [h2 _ (by omega), if_neg]
        rintro ⟨l, l1, l2⟩
        exact ltO_ne (sorted_get hs l1 (by omega)) (by omega)
      have hge : ∀ i, i < q0.length → (rd p0 q0 k).2.getD i 0 ≤ q0.getD (T.getD k 0).toNat 0 ∧ (i < (T.getD k 0).toNat → (rd p0 q0 k).2.getD i 0 < q0.getD (T.getD k 0).toNat 0) := fun i hi => by
        rw [h2 i hi]
        have hnn := hq (T.getD k 0).toNat (by omega)
        split
        · omega
        · rename_i hx
          obtain ⟨l, l1, l2⟩ := sorted_all hT hr hs i hi
          have hkl : k ≤ l := Nat.le_of_not_lt fun hc => hx ⟨l, hc, l2⟩
          by_cases hkl2 : k = l
          · subst hkl2
            rw [l2, Int.toNat_natCast]
            exact ⟨Int.le_refl _, fun h => by omega⟩
          · have := sorted_get hs (show k < l by omega) (by omega)
            rw [l2] at this
            unfold ltO kq at this
            rw [Int.toNat_natCast] at this
            omega
      refine bestI_uniq (by omega) (fun i hi => ?_) fun i hi => ?_
      · rw [hTk]; exact (hge i (by omega)).1
      · rw [hTk]; exact (hge i (by omega)).2 hi
    refine ⟨?_, fun i hi => ?_⟩
    · simp only [rd]
      rw [hb, h1, incs_succ _ _ _ (by omega)]
    · simp only [rd]
      rw [hb, getD_seti]
      by_cases he : (T.getD k 0).toNat = i
      · rw [if_pos ⟨he, by omega⟩, if_pos ⟨k, by omega, by omega⟩]
      · rw [if_neg (fun h => he h.1), h2 i hi]
        have : (∃ l, l < k ∧ T.getD l 0 = (i : Int)) ↔ ∃ l, l < k + 1 ∧ T.getD l 0 = (i : Int) := by
          constructor
          · rintro ⟨l, a, b⟩; exact ⟨l, by omega, b⟩
          · rintro ⟨l, a, b⟩
            rcases Nat.lt_succ_iff_lt_or_eq.1 a with h | rfl
            · exact ⟨l, h, b⟩
            · omega
        simp only [this]

/-! ### Operations on bits -/
theorem fdiv_nn (a : Int) (n : Nat) : a.fdiv (2 ^ n) = a / 2 ^ n := Int.fdiv_eq_ediv_of_nonneg a (Int.le_of_lt (Int.pow_pos (by decide)))
theorem s_shrI (a : Int) (k : IntKind) (b : Int) (h0 : 0 ≤ b) (h1 : b ≤ 63) : s2A (.bin .shr) (.v (.int .i64 a)) (.v (.int k b)) = some (.v (.int .i64 (a / 2 ^ b.toNat))) := by
  have e : min b.toNat 64 = b.toNat := Nat.min_eq_left (by omega)
  have h : k2v (.bin .shr) (.int .i64 a) (.int k b) = some (.int .i64 (a / 2 ^ b.toNat)) := by
    rw [← fdiv_nn, ← e]
    simp only [k2v, binOp, Op.shift, pureV, show ¬ b < 0 by omega, if_false]; rfl
  simp only [s2A, h, Option.map_some]
theorem s_shrU (a : Int) (k : IntKind) (b : Int) (h0 : 0 ≤ b) (h1 : b ≤ 63) : s2A (.bin .shr) (.v (.int .u64 a)) (.v (.int k b)) = some (.v (.int .u64 (a / 2 ^ b.toNat))) := by
  have e : min b.toNat 64 = b.toNat := Nat.min_eq_left (by omega)
  have h : k2v (.bin .shr) (.int .u64 a) (.int k b) = some (.int .u64 (a / 2 ^ b.toNat)) := by
    rw [← fdiv_nn, ← e]
    simp only [k2v, binOp, Op.shift, pureV, show ¬ b < 0 by omega, if_false]; rfl
  simp only [s2A, h, Option.map_some]
theorem s_shlI (a : Int) (k : IntKind) (b : Int) (h0 : 0 ≤ b) (h1 : b ≤ 63) : s2A (.bin .shl) (.v (.int .i64 a)) (.v (.int k b)) = some (.v (.int .i64 (IntKind.wrap .i64 (a * 2 ^ b.toNat)))) := by
  have e : min b.toNat 64 = b.toNat := Nat.min_eq_left (by omega)
  have h : k2v (.bin .shl) (.int .i64 a) (.int k b) = some (.int .i64 (IntKind.wrap .i64 (a * 2 ^ b.toNat))) := by
    rw [← e]
    simp only [k2v, binOp, Op.shift, pureV, show ¬ b < 0 by omega, if_false]; rfl
  simp only [s2A, h, Option.map_some]
theorem and_mask (a : Nat) (k : Nat) (ha : a < 2 ^ 64) (hk : 2 ^ k - 1 < 2 ^ 64) : (BitVec.ofInt 64 (a : Int) &&& BitVec.ofInt 64 ((2 ^ k - 1 : Nat) : Int)).toNat = a % 2 ^ k := by
  rw [BitVec.toNat_and, BitVec.toNat_ofInt, BitVec.toNat_ofInt]
  have e1 : ((a : Int) % (2 ^ 64 : Nat)).toNat = a := by omega
  have e2 : (((2 ^ k - 1 : Nat) : Int) % (2 ^ 64 : Nat)).toNat = 2 ^ k - 1 := by
    rw [Int.emod_eq_of_lt (by omega) (by omega)]; rfl
  rw [e1, e2, Nat.and_two_pow_sub_one_eq_mod]
theorem s_andI (a m : Int) (k : Nat) (hk : k ≤ 62) (hm : m = 2 ^ k - 1) (h0 : 0 ≤ a) (h1 : a ≤ 9223372036854775807) : s2A (.bin .and) (.v (.int .i64 a)) (.v (.int .i64 m)) = some (.v (.int .i64 (a % 2 ^ k))) := by
  obtain ⟨b, rfl⟩ : ∃ b : Nat, a = b := ⟨a.toNat, by omega⟩
  have hp : (2 : Nat) ^ k ≤ 2 ^ 62 := Nat.pow_le_pow_right (by decide) hk
  have h1p : 1 ≤ 2 ^ k := Nat.one_le_two_pow
  have e62 : (2 : Nat) ^ 62 = 4611686018427387904 := by decide
  have e64 : (2 : Nat) ^ 64 = 18446744073709551616 := by decide
  have hm' : m = ((2 ^ k - 1 : Nat) : Int) := by
    rw [hm, Int.natCast_sub h1p, Int.natCast_pow]; rfl
  have hb := and_mask b k (by omega) (by omega)
  have h : k2v (.bin .and) (.int .i64 b) (.int .i64 m) = some (.int .i64 (IntKind.wrap .i64 ((BitVec.ofInt 64 (b : Int) &&& BitVec.ofInt 64 m).toNat))) := by
    simp [k2v, binOp, Op.intBits, pureV]; rfl
  have hlt : b % 2 ^ k < 2 ^ k := Nat.mod_lt _ (by omega)
  rw [hm', hb, wrap_in (by omega) (by omega)] at h
  rw [hm']
  simp only [s2A, h, Option.map_some, Int.natCast_emod, Int.natCast_pow]
  rfl
theorem s_andU (a m : Int) (k : Nat) (hk : k ≤ 62) (hm : m = 2 ^ k - 1) (h0 : 0 ≤ a) (h1 : a ≤ 18446744073709551615) : s2A (.bin .and) (.v (.int .u64 a)) (.v (.int .u64 m)) = some (.v (.int .u64 (a % 2 ^ k))) := by
  obtain ⟨b, rfl⟩ : ∃ b : Nat, a = b := ⟨a.toNat, by omega⟩
  have hp : (2 : Nat) ^ k ≤ 2 ^ 62 := Nat.pow_le_pow_right (by decide) hk
  have h1p : 1 ≤ 2 ^ k := Nat.one_le_two_pow
  have e62 : (2 : Nat) ^ 62 = 4611686018427387904 := by decide
  have e64 : (2 : Nat) ^ 64 = 18446744073709551616 := by decide
  have hm' : m = ((2 ^ k - 1 : Nat) : Int) := by
    rw [hm, Int.natCast_sub h1p, Int.natCast_pow]; rfl
  have hb := and_mask b k (by omega) (by omega)
  have h : k2v (.bin .and) (.int .u64 b) (.int .u64 m) = some (.int .u64 (IntKind.wrap .u64 ((BitVec.ofInt 64 (b : Int) &&& BitVec.ofInt 64 m).toNat))) := by
    simp [k2v, binOp, Op.intBits, pureV]; rfl
  have hlt : b % 2 ^ k < 2 ^ k := Nat.mod_lt _ (by omega)
  rw [hm', hb, wrap_u64 (by omega) (by omega)] at h
  rw [hm']
  simp only [s2A, h, Option.map_some, Int.natCast_emod, Int.natCast_pow]
  rfl
end Go.Proofs.Ytbgmhbjfcpddkaa
namespace Go.Proofs.Ytbgmhbjfcpddkaa
open Go Go.Lft
set_option linter.unusedSimpArgs false
set_option linter.unusedVariables false
attribute [local congr] ob_congr bw_congr ib_congr ck_congr iwA_congr itA_congr aw_congr awp_congr sqA_congr bkA_congr vr_congr gd_congr

theorem take_succ_I (l : List Int) (k : Nat) (h : k < l.length) : l.take (k + 1) = l.take k ++ [l.getD k 0] := by
  rw [List.take_succ_eq_append_getElem h]; simp [List.getD_eq_getElem?_getD, h]
def sumK (l : List Int) (k : Nat) : Int := (l.take k).sum
theorem sumK_zero (l : List Int) : sumK l 0 = 0 := by simp [sumK]
theorem sumK_succ (l : List Int) (k : Nat) (h : k < l.length) : sumK l (k + 1) = sumK l k + l.getD k 0 := by
  unfold sumK; rw [take_succ_I l k h]; simp
theorem sumK_all (l : List Int) : sumK l l.length = l.sum := by simp [sumK]

theorem numIn_vr {w : Bool} (x : Int) : VR P false n_num_in [.fs w [.v (.int .i64 x)]] [] (isR (.v (.bool (decide (-1125899906842624 ≤ x ∧ x ≤ 1125899906842624))))) := by
  refine vr_num_in (by simp) (.inr rfl) fun _ _ => ?_
  have e : [A.v (.int .i64 x)] = ints [x] := rfl
  rw [e]
  simp (disch := ((try simp only [List.length_set, List.length_replicate, List.length_append, List.length_cons, List.length_nil]); omega)) only [aW, aX, aV, aB, aN, aL, aP, aH, s_num_in, v_num_in]
  refine AWP.loopP g_num_in_0 (fun k : Nat => k ≤ 1 ∧ (k = 1 → -1125899906842624 ≤ x ∧ x ≤ 1125899906842624)) (fun k => [(1, .v (.bool false)), (2, .v (.int .i64 k))]) (fun _ => []) (fun k => 1 - k) 0 ⟨by omega, fun h => by omega⟩ ?_ ?_
  · simp only [List.length_cons, List.length_nil]
    exact Cut.of' 0 rfl (by omega) (by simp (disch := first | omega | simp (disch := omega) only [aF, aL, aN]) only [aW, aX, aV, aB, aN, aL, aP, aH, aF, Int.natCast_add, Int.natCast_mul, Int.add_sub_cancel, List.length_nil, Int.cast_ofNat_Int, and_true, true_and]) (by simp (disch := first | omega | simp (disch := omega) only [aF, aL, aN]) only [aW, aX, aV, aB, aN, aL, aP, aH, aF, Int.natCast_add, Int.natCast_mul, Int.add_sub_cancel, List.length_nil, Int.cast_ofNat_Int, and_true, true_and])
  rintro k ⟨hk, hx⟩
  by_cases hlt : k < 1
  · have hk0 : k = 0 := by omega
    subst hk0
    simp (disch := ((try simp only [List.length_set, List.length_replicate, List.length_append, List.length_cons, List.length_nil]); omega)) only [aW, aX, aV, aB, aN, aL, aP, aH, List.length_cons, List.length_nil, List.getD_cons_zero]
    refine ib_intro (fun h3 => ?_) (fun h3 => ?_)
    · simp (disch := ((try simp only [List.length_set, List.length_replicate, List.length_append, List.length_cons, List.length_nil]); omega)) only [aW, aX, aV, aB, aN, aL, aP, aH, r_num_in]
      exact post_v ⟨vfalse (by omega), rfl⟩
    · simp (disch := ((try simp only [List.length_set, List.length_replicate, List.length_append, List.length_cons, List.length_nil]); omega)) only [aW, aX, aV, aB, aN, aL, aP, aH]
      exact ⟨1, ⟨by omega, fun _ => by omega⟩, by omega, (by refine Cut.of' (0) ?_ (by omega) ?_ ?_ <;> simp (disch := first | omega | simp (disch := omega) only [aF, aL, aN]) only [aW, aX, aV, aB, aN, aL, aP, aH, aF, Int.natCast_add, Int.natCast_mul, Int.add_sub_cancel, List.length_nil, Int.cast_ofNat_Int, and_true, true_and, Int.zero_add])⟩
  · have hk1 : k = 1 := by omega
    subst hk1
    simp (disch := ((try simp only [List.length_set, List.length_replicate, List.length_append, List.length_cons, List.length_nil]); omega)) only [aW, aX, aV, aB, aN, aL, aP, aH, r_num_in, List.length_cons, List.length_nil]
    exact post_v ⟨vtrue (hx rfl), rfl⟩

theorem checked_vr (x : Int) : VR P false n_num_checked [.v (.int .i64 x)] [] (isR (.tup [.v (.int .i64 (if -1125899906842624 ≤ x ∧ x ≤ 1125899906842624 then x else 0)), .v (.int .i64 (if -1125899906842624 ≤ x ∧ x ≤ 1125899906842624 then 0 else 2))])) := by
  refine vr_num_checked (by simp) (.inr rfl) fun _ _ => ?_
  simp (disch := ((try simp only [List.length_set, List.length_replicate, List.length_append, List.length_cons, List.length_nil]); omega)) only [aW, aX, aV, aB, aN, aL, aP, aH, s_num_checked, v_num_checked]
  refine (numIn_vr (w := false) x).use ⟨ld_slI _ 0 0 1 [x] rfl rfl, trivial⟩ rfl (aret_of ?_)
  by_cases h : -1125899906842624 ≤ x ∧ x ≤ 1125899906842624
  · rw [if_pos h, if_pos h]
    simp (disch := ((try simp only [List.length_set, List.length_replicate, List.length_append, List.length_cons, List.length_nil]); omega)) only [aW, aX, aV, aB, aN, aL, aP, aH, decide_eq_true h, r_num_checked]
    exact post0 (Fz.refl rfl) ⟨rfl, rfl⟩
  · rw [if_neg h, if_neg h]
    simp (disch := ((try simp only [List.length_set, List.length_replicate, List.length_append, List.length_cons, List.length_nil]); omega)) only [aW, aX, aV, aB, aN, aL, aP, aH, decide_eq_false h, r_num_checked]
    exact post0 (Fz.refl rfl) ⟨rfl, rfl⟩

theorem numSum_vr {w : Bool} (l : List Int) (hl : l.length ≤ 512) (hr : ∀ x ∈ l, 0 ≤ x ∧ x ≤ 1125899906842624) : VR P false n_num_Sum [.fs w (ints l)] [] (isR (.tup [.v (.int .i64 (if l.sum ≤ 1125899906842624 then l.sum else 0)), .v (.int .i64 (if l.sum ≤ 1125899906842624 then 0 else 2))])) := by
  refine vr_num_Sum (by simp) (.inr rfl) fun _ _ => ?_
  have e25 : (2 : Int) ^ (25 : Int).toNat = 33554432 := by decide
  have e25' : (2 : Int) ^ 25 = 33554432 := by decide
  simp (disch := ((try simp only [List.length_set, List.length_replicate, List.length_append, List.length_cons, List.length_nil]); omega)) only [aW, aX, aV, aB, aN, aL, aP, aH, s_num_Sum, v_num_Sum]
  refine AWP.loopP (α := Nat × Int × Int) g_num_Sum_0 (fun s => s.1 ≤ l.length ∧ s.2.1 * 33554432 + s.2.2 = sumK l s.1 ∧ 0 ≤ s.2.1 ∧ s.2.1 ≤ s.1 * 33554432 ∧ 0 ≤ s.2.2 ∧ s.2.2 ≤ s.1 * 33554432) (fun s => [(1, .v (.int .i64 0)), (2, .v (.int .i64 0)), (3, .v (.int .i64 s.2.1)), (4, .v (.int .i64 s.2.2)), (5, .v (.int .i64 s.1))]) (fun _ => []) (fun s => l.length - s.1) (0, 0, 0) ⟨by omega, by simp [sumK_zero], by simp, by simp, by simp, by simp⟩ ?_ ?_
  · exact Cut.of' 0 rfl (by omega) (by simp (disch := first | omega | simp (disch := omega) only [aF, aL, aN]) only [aW, aX, aV, aB, aN, aL, aP, aH, aF, Int.natCast_add, Int.natCast_mul, Int.add_sub_cancel, List.length_nil, Int.cast_ofNat_Int, and_true, true_and]) (by simp (disch := first | omega | simp (disch := omega) only [aF, aL, aN]) only [aW, aX, aV, aB, aN, aL, aP, aH, aF, Int.natCast_add, Int.natCast_mul, Int.add_sub_cancel, List.length_nil, Int.cast_ofNat_Int, and_true, true_and])
  rintro ⟨k, hi, lo⟩ ⟨h1, h2, h3, h4, h5, h6⟩
  simp only at h1 h2 h3 h4 h5 h6
  by_cases hlt : k < l.length
  · have hx := hr _ (mem_getD hlt)
    have hs := sumK_succ l k hlt
    simp (disch := ((try simp only [List.length_set, List.length_replicate, List.length_append, List.length_cons, List.length_nil]); omega)) only [aW, aX, aV, aB, aN, aL, aP, aH]
    refine (numIn_vr (w := false) (l.getD k 0)).use ⟨ld_slI _ 0 0 1 [l.getD k 0] rfl rfl, trivial⟩ rfl (aret_of ?_)
    simp (disch := ((try simp only [List.length_set, List.length_replicate, List.length_append, List.length_cons, List.length_nil]); omega)) only [aW, aX, aV, aB, aN, aL, aP, aH, decide_eq_true (show -1125899906842624 ≤ l.getD k 0 ∧ l.getD k 0 ≤ 1125899906842624 by omega), s_shrI, e25, s_andI (l.getD k 0) 33554431 25 (by omega) rfl (by omega) (by omega), e25']
    refine ⟨(k + 1, hi + l.getD k 0 / 33554432, lo + l.getD k 0 % 33554432), ⟨by simp only; omega, ?_, ?_, ?_, ?_, ?_⟩, by simp only; omega, ?_⟩
    · simp only; omega
    · simp only; omega
    · simp only; omega
    · simp only; omega
    · simp only; omega
    · exact Cut.of' 0 rfl (by omega) (by simp (disch := first | omega | simp (disch := omega) only [aF, aL, aN]) only [aW, aX, aV, aB, aN, aL, aP, aH, aF, Int.natCast_add, Int.natCast_mul, Int.add_sub_cancel, List.length_nil, Int.cast_ofNat_Int, and_true, true_and]) (by simp (disch := first | omega | simp (disch := omega) only [aF, aL, aN]) only [aW, aX, aV, aB, aN, aL, aP, aH, aF, Int.natCast_add, Int.natCast_mul, Int.add_sub_cancel, List.length_nil, Int.cast_ofNat_Int, and_true, true_and])
  · have hke : k = l.length := by omega
    subst hke
    rw [sumK_all] at h2
    simp (disch := ((try simp only [List.length_set, List.length_replicate, List.length_append, List.length_cons, List.length_nil]); omega)) only [aW, aX, aV, aB, aN, aL, aP, aH, s_shrI, e25]
    refine ib_intro (fun h7 => ?_) (fun h7 => ?_)
    · rw [if_neg (by omega), if_neg (by omega)]
      simp (disch := ((try simp only [List.length_set, List.length_replicate, List.length_append, List.length_cons, List.length_nil]); omega)) only [aW, aX, aV, aB, aN, aL, aP, aH, r_num_Sum]
      exact post0 (Fz.refl rfl) ⟨rfl, rfl⟩
    · have e5 : (hi + lo / 33554432) * 33554432 + lo % 33554432 = l.sum := by omega
      simp (disch := ((try simp only [List.length_set, List.length_replicate, List.length_append, List.length_cons, List.length_nil]); omega)) only [aW, aX, aV, aB, aN, aL, aP, aH, s_shlI, e25, s_andI lo 33554431 25 (by omega) rfl (by omega) (by omega), e25', e5]
      refine (checked_vr l.sum).same (by simp (disch := first | omega | simp (disch := omega) only [aF, aL, aN]) only [aW, aX, aV, aB, aN, aL, aP, aH, aF, Int.natCast_add, Int.natCast_mul, Int.add_sub_cancel, List.length_nil, Int.cast_ofNat_Int, and_true, true_and]) rfl (aret_of ?_)
      have e6 : (-1125899906842624 ≤ l.sum ∧ l.sum ≤ 1125899906842624) = (l.sum ≤ 1125899906842624) := propext (by omega)
      simp only [e6]
      simp (disch := ((try simp only [List.length_set, List.length_replicate, List.length_append, List.length_cons, List.length_nil]); omega)) only [aW, aX, aV, aB, aN, aL, aP, aH, r_num_Sum]
      exact post0 (Fz.refl rfl) ⟨rfl, rfl⟩

/-! ### Sums of weights -/
def badW (w : Int) : Prop := w < 0 ∨ 1125899906842624 < w
instance : DecidablePred badW := fun w => by unfold badW; infer_instance
def weighE (ws : List Int) : Int × Int :=
  if ws.length < 1 ∨ 512 < ws.length then (0, 1) else if ∃ i, i < ws.length ∧ badW (ws.getD i 0) then (0, 1) else if ws.sum ≤ 1125899906842624 then (ws.sum, 0) else (0, 2)
theorem weigh_len {ws : List Int} (h : ws.length < 1 ∨ 512 < ws.length) : weighE ws = (0, 1) := by unfold weighE; rw [if_pos h]
theorem weigh_bad {ws : List Int} (h : ¬ (ws.length < 1 ∨ 512 < ws.length)) (h2 : ∃ i, i < ws.length ∧ badW (ws.getD i 0)) : weighE ws = (0, 1) := by unfold weighE; rw [if_neg h, if_pos h2]
theorem weigh_sum {ws : List Int} (h : ¬ (ws.length < 1 ∨ 512 < ws.length)) (h2 : ¬ ∃ i, i < ws.length ∧ badW (ws.getD i 0)) : weighE ws = if ws.sum ≤ 1125899906842624 then (ws.sum, 0) else (0, 2) := by unfold weighE; rw [if_neg h, if_neg h2]
def pairT (x : Int × Int) : A := .tup [.v (.int .i64 x.1), .v (.int .i64 x.2)]

theorem weighed_vr {w : Bool} (ws : List Int) : VR P false n_share_weighed [.fs w (ints ws)] [] (isR (pairT (weighE ws))) := by
  refine vr_share_weighed (by simp) (.inr rfl) fun _ _ => ?_
  unfold pairT
  simp (disch := ((try simp only [List.length_set, List.length_replicate, List.length_append, List.length_cons, List.length_nil]); omega)) only [aW, aX, aV, aB, aN, aL, aP, aH, s_share_weighed, v_share_weighed]
  refine ib_intro (fun h1 => ?_) (fun h1 => ?_)
  · rw [weigh_len (by omega)]
    simp (disch := ((try simp only [List.length_set, List.length_replicate, List.length_append, List.length_cons, List.length_nil]); omega)) only [aW, aX, aV, aB, aN, aL, aP, aH, r_share_weighed]
    exact post0 (Fz.refl rfl) ⟨rfl, rfl⟩
  have h1 : ¬ (ws.length < 1 ∨ 512 < ws.length) := by omega
  simp (disch := ((try simp only [List.length_set, List.length_replicate, List.length_append, List.length_cons, List.length_nil]); omega)) only [aW, aX, aV, aB, aN, aL, aP, aH]
  refine AWP.loopP g_share_weighed_0 (fun k : Nat => k ≤ ws.length ∧ ∀ i, i < k → ¬ badW (ws.getD i 0)) (fun k => [(1, .v (.int .i64 0)), (2, .v (.int .i64 0)), (3, .v (.int .i64 k))]) (fun _ => []) (fun k => ws.length - k) 0 ⟨by omega, fun i hi => by omega⟩ (by refine Cut.of' (0) ?_ (by omega) ?_ ?_ <;> simp (disch := first | omega | simp (disch := omega) only [aF, aL, aN]) only [aW, aX, aV, aB, aN, aL, aP, aH, aF, Int.natCast_add, Int.natCast_mul, Int.add_sub_cancel, List.length_nil, Int.cast_ofNat_Int, and_true, true_and]) ?_
  rintro k ⟨hk, hb⟩
  by_cases hlt : k < ws.length
  · simp (disch := ((try simp only [List.length_set, List.length_replicate, List.length_append, List.length_cons, List.length_nil]); omega)) only [aW, aX, aV, aB, aN, aL, aP, aH]
    refine ib_intro (fun h3 => ?_) (fun h3 => ?_)
    · rw [weigh_bad h1 ⟨k, hlt, h3⟩]
      simp (disch := ((try simp only [List.length_set, List.length_replicate, List.length_append, List.length_cons, List.length_nil]); omega)) only [aW, aX, aV, aB, aN, aL, aP, aH, r_share_weighed]
      exact post0 (Fz.refl rfl) ⟨rfl, rfl⟩
    · simp (disch := ((try simp only [List.length_set, List.length_replicate, List.length_append, List.length_cons, List.length_nil]); omega)) only [aW, aX, aV, aB, aN, aL, aP, aH]
      refine ⟨k + 1, ⟨by omega, fun i hi => ?_⟩, by omega, (by refine Cut.of' (0) ?_ (by omega) ?_ ?_ <;> simp (disch := first | omega | simp (disch := omega) only [aF, aL, aN]) only [aW, aX, aV, aB, aN, aL, aP, aH, aF, Int.natCast_add, Int.natCast_mul, Int.add_sub_cancel, List.length_nil, Int.cast_ofNat_Int, and_true, true_and])⟩
      rcases Nat.lt_succ_iff_lt_or_eq.1 hi with h | rfl
      · exact hb i h
      · exact h3
  · have hno : ¬ ∃ i, i < ws.length ∧ badW (ws.getD i 0) := by
      rintro ⟨i, h2, h3⟩; exact hb i (by omega) h3
    have hall : ∀ x ∈ ws, 0 ≤ x ∧ x ≤ 1125899906842624 := fun x hx => by
      obtain ⟨i, h2, rfl⟩ := getD_mem hx
      have := hb i (by omega)
      unfold badW at this; omega
    rw [weigh_sum h1 hno]
    simp (disch := ((try simp only [List.length_set, List.length_replicate, List.length_append, List.length_cons, List.length_nil]); omega)) only [aW, aX, aV, aB, aN, aL, aP, aH]
    refine (numSum_vr (w := w) ws (by omega) hall).same (by simp (disch := first | omega | simp (disch := omega) only [aF, aL, aN]) only [aW, aX, aV, aB, aN, aL, aP, aH, aF, Int.natCast_add, Int.natCast_mul, Int.add_sub_cancel, List.length_nil, Int.cast_ofNat_Int, and_true, true_and]) rfl (aret_of ?_)
    by_cases h4 : ws.sum ≤ 1125899906842624
    · simp only [if_pos h4]
      simp (disch := ((try simp only [List.length_set, List.length_replicate, List.length_append, List.length_cons, List.length_nil]); omega)) only [aW, aX, aV, aB, aN, aL, aP, aH, r_share_weighed]
      exact post0 (Fz.refl rfl) ⟨rfl, rfl⟩
    · simp only [if_neg h4]
      simp (disch := ((try simp only [List.length_set, List.length_replicate, List.length_append, List.length_cons, List.length_nil]); omega)) only [aW, aX, aV, aB, aN, aL, aP, aH, r_share_weighed]
      exact post0 (Fz.refl rfl) ⟨rfl, rfl⟩

/-! ### The reference's division -/
end Go.Proofs.Ytbgmhbjfcpddkaa
namespace Go.Proofs.Ytbgmhbjfcpddkaa
open Go Go.Lft
set_option linter.unusedSimpArgs false
set_option linter.unusedVariables false
attribute [local congr] ob_congr bw_congr ib_congr ck_congr iwA_congr itA_congr aw_congr awp_congr sqA_congr bkA_congr vr_congr gd_congr

theorem mul64_vr (x y : Int) (hx : 0 ≤ x ∧ x ≤ 18446744073709551615) (hy : 0 ≤ y ∧ y ≤ 18446744073709551615) : VR P false n_bits_Mul64 [.v (.int .u64 x), .v (.int .u64 y)] [] (isR (.tup [.v (.int .u64 (x * y / 18446744073709551616)), .v (.int .u64 (IntKind.wrap .u64 (x * y)))])) := by
  refine vr_bits_Mul64 (by simp) (.inr rfl) fun _ _ => ?_
  have e32 : (2 : Int) ^ (32 : Int).toNat = 4294967296 := by decide
  have e32' : (2 : Int) ^ 32 = 4294967296 := by decide
  obtain ⟨X, rfl⟩ : ∃ X : Nat, x = X := ⟨x.toNat, by omega⟩
  obtain ⟨Y, rfl⟩ : ∃ Y : Nat, y = Y := ⟨y.toNat, by omega⟩
  obtain ⟨m1, m2, m3, m4⟩ := Go.Lib.mul64_hi X Y (by omega) (by omega)
  have n4 : (X : Int) / 4294967296 * ((Y : Int) / 4294967296) + ((X : Int) / 4294967296 * ((Y : Int) % 4294967296) + (X : Int) % 4294967296 * ((Y : Int) % 4294967296) / 4294967296) / 4294967296 + (((X : Int) / 4294967296 * ((Y : Int) % 4294967296) + (X : Int) % 4294967296 * ((Y : Int) % 4294967296) / 4294967296) % 4294967296 + (X : Int) % 4294967296 * ((Y : Int) / 4294967296)) / 4294967296 = (X : Int) * Y / 18446744073709551616 := by
    have := congrArg (fun n : Nat => (n : Int)) m4
    simpa only [Int.natCast_add, Int.natCast_mul, Int.natCast_ediv, Int.natCast_emod, Int.cast_ofNat_Int] using this
  have n1 : (X : Int) % 4294967296 * ((Y : Int) % 4294967296) < 18446744073709551616 := by
    have := Int.ofNat_lt.2 m1
    simpa only [Int.natCast_add, Int.natCast_mul, Int.natCast_ediv, Int.natCast_emod, Int.cast_ofNat_Int] using this
  have n2 : (X : Int) / 4294967296 * ((Y : Int) % 4294967296) + (X : Int) % 4294967296 * ((Y : Int) % 4294967296) / 4294967296 < 18446744073709551616 := by
    have := Int.ofNat_lt.2 m2
    simpa only [Int.natCast_add, Int.natCast_mul, Int.natCast_ediv, Int.natCast_emod, Int.cast_ofNat_Int] using this
  have n3 : ((X : Int) / 4294967296 * ((Y : Int) % 4294967296) + (X : Int) % 4294967296 * ((Y : Int) % 4294967296) / 4294967296) % 4294967296 + (X : Int) % 4294967296 * ((Y : Int) / 4294967296) < 18446744073709551616 := by
    have := Int.ofNat_lt.2 m3
    simpa only [Int.natCast_add, Int.natCast_mul, Int.natCast_ediv, Int.natCast_emod, Int.cast_ofNat_Int] using this
  have p1 : 0 ≤ (X : Int) % 4294967296 * ((Y : Int) % 4294967296) := Int.mul_nonneg (by omega) (by omega)
  have p2 : 0 ≤ (X : Int) / 4294967296 * ((Y : Int) % 4294967296) := Int.mul_nonneg (by omega) (by omega)
  have p3 : 0 ≤ (X : Int) % 4294967296 * ((Y : Int) / 4294967296) := Int.mul_nonneg (by omega) (by omega)
  have p4 : 0 ≤ (X : Int) / 4294967296 * ((Y : Int) / 4294967296) := Int.mul_nonneg (by omega) (by omega)
  have p5 : (X : Int) * Y / 18446744073709551616 ≤ 18446744073709551615 := by
    have : (X : Int) * Y ≤ 18446744073709551615 * 18446744073709551615 := Int.mul_le_mul (by omega) (by omega) (by omega) (by omega)
    omega
  have p6 : 0 ≤ (X : Int) * Y := Int.mul_nonneg (by omega) (by omega)
  simp (disch := ((try simp only [List.length_set, List.length_replicate, List.length_append, List.length_cons, List.length_nil]); omega)) only [aW, aX, aV, aB, aN, aL, aP, aH, s_bits_Mul64, v_bits_Mul64, s_andU (X : Int) 4294967295 32 (by omega) rfl (by omega) (by omega), s_andU (Y : Int) 4294967295 32 (by omega) rfl (by omega) (by omega), s_shrU, e32, e32']
  generalize hA : (X : Int) / 4294967296 * ((Y : Int) / 4294967296) = A at *
  generalize hB : (X : Int) / 4294967296 * ((Y : Int) % 4294967296) = B at *
  generalize hC : (X : Int) % 4294967296 * ((Y : Int) / 4294967296) = C at *
  generalize hD : (X : Int) % 4294967296 * ((Y : Int) % 4294967296) = D at *
  simp (disch := ((try simp only [List.length_set, List.length_replicate, List.length_append, List.length_cons, List.length_nil]); omega)) only [aW, aX, aV, aB, aN, aL, aP, aH, wrap_u64, s_shrU, e32, e32', s_andU (B + D / 4294967296) 4294967295 32 (by omega) rfl (by omega) (by omega), hA, hC, n4, r_bits_Mul64]
  exact post0 (Fz.refl rfl) ⟨rfl, rfl⟩

theorem div64_small (lo y : Int) (hlo : 0 ≤ lo ∧ lo ≤ 18446744073709551615) (hy : 0 < y ∧ y ≤ 18446744073709551615) : VR P false n_bits_Div64 [.v (.int .u64 0), .v (.int .u64 lo), .v (.int .u64 y)] [] (isR (.tup [.v (.int .u64 (lo / y)), .v (.int .u64 (lo % y))])) := by
  refine vr_bits_Div64 (by simp) (.inr rfl) fun _ _ => ?_
  have h1 : lo.tdiv y = lo / y := Int.tdiv_eq_ediv_of_nonneg hlo.1
  have h2 : lo.tmod y = lo % y := Int.tmod_eq_emod_of_nonneg hlo.1
  have h3 : 0 ≤ lo / y := Int.ediv_nonneg hlo.1 (by omega)
  have h4 : lo / y ≤ lo := Int.ediv_le_self y hlo.1
  simp (disch := ((try simp only [List.length_set, List.length_replicate, List.length_append, List.length_cons, List.length_nil]); omega)) only [aW, aX, aV, aB, aN, aL, aP, aH, s_bits_Div64, v_bits_Div64, h1, h2, wrap_u64, r_bits_Div64]
  exact post0 (Fz.refl rfl) ⟨rfl, rfl⟩

/-! ### Errors of Split -/
def splitE (t : Int) (ws : List Int) : Int :=
  if t < 0 ∨ 70368744177664 < t then 1 else if (weighE ws).2 ≠ 0 then (weighE ws).2 else if (weighE ws).1 = 0 ∧ 0 < t then 10 else 0
def splitV (t : Int) (ws : List Int) : List Int × Int := if splitE t ws ≠ 0 then ([], splitE t ws) else (partsR t ws, 0)
structure SplitOk (t : Int) (ws : List Int) : Prop where
  t0 : 0 ≤ t ∧ t ≤ 70368744177664
  len : 1 ≤ ws.length ∧ ws.length ≤ 512
  w : ∀ x ∈ ws, 0 ≤ x ∧ x ≤ 1125899906842624
  sum : ws.sum ≤ 1125899906842624
  pos : ws.sum = 0 → t = 0
  we : weighE ws = (ws.sum, 0)
theorem splitE_ok {t : Int} {ws : List Int} (h : splitE t ws = 0) : SplitOk t ws := by
  unfold splitE at h
  split at h
  · cases h
  rename_i h1
  split at h
  · contradiction
  rename_i h2
  split at h
  · cases h
  rename_i h3
  have h2' := Classical.not_not.1 h2
  have hw : weighE ws = if ws.length < 1 ∨ 512 < ws.length then (0, 1) else if ∃ i, i < ws.length ∧ badW (ws.getD i 0) then (0, 1) else if ws.sum ≤ 1125899906842624 then (ws.sum, 0) else (0, 2) := rfl
  by_cases a1 : ws.length < 1 ∨ 512 < ws.length
  · rw [if_pos a1] at hw; rw [hw] at h2'; cases h2'
  rw [if_neg a1] at hw
  by_cases a2 : ∃ i, i < ws.length ∧ badW (ws.getD i 0)
  · rw [if_pos a2] at hw; rw [hw] at h2'; cases h2'
  rw [if_neg a2] at hw
  by_cases a3 : ws.sum ≤ 1125899906842624
  · rw [if_pos a3] at hw
    rw [hw] at h3
    refine ⟨by omega, by omega, fun x hx => ?_, a3, fun hz => ?_, hw⟩
    · obtain ⟨i, h4, rfl⟩ := getD_mem hx
      apply Classical.byContradiction; intro hc
      exact a2 ⟨i, h4, by unfold badW; omega⟩
    · simp only at h3; omega
  · rw [if_neg a3] at hw; rw [hw] at h2'; cases h2'
theorem SplitOk.sp {t : Int} {ws : List Int} (h : SplitOk t ws) : SpOk t ws := ⟨h.t0.1, fun w hw => (h.w w hw).1, fun hc => by have := h.len; rw [hc] at this; simp at this, h.pos⟩
theorem w_le {t : Int} {ws : List Int} (h : SplitOk t ws) {i : Nat} (hi : i < ws.length) : 0 ≤ ws.getD i 0 ∧ ws.getD i 0 ≤ ws.sum := by
  have h1 := h.w _ (mem_getD hi)
  refine ⟨h1.1, ?_⟩
  have := sum_le_p ((List.replicate ws.length 0).set i (ws.getD i 0)) ws (by simp) fun l hl => by
    simp only [List.length_set, List.length_replicate] at hl
    rw [getD_seti]
    split
    · rename_i hc; rw [hc.1]; exact Int.le_refl _
    · have := (h.w _ (mem_getD hl)).1
      simpa [List.getD_eq_getElem?_getD, hl] using this
  rw [sum_seti _ _ _ (by simpa using hi)] at this
  have e1 : (List.replicate ws.length (0 : Int)).sum = 0 := by
    induction ws.length with
    | zero => rfl
    | succ n ih => rw [List.replicate_succ, List.sum_cons, ih]; rfl
  have e2 : (List.replicate ws.length (0 : Int)).getD i 0 = 0 := by simp [List.getD_eq_getElem?_getD, hi]
  omega
theorem q_le {t : Int} {ws : List Int} (h : SplitOk t ws) {i : Nat} (hi : i < ws.length) : 0 ≤ t * ws.getD i 0 / ws.sum ∧ t * ws.getD i 0 / ws.sum ≤ t := by
  have h1 := w_le h hi
  have h0 := h.t0.1
  refine ⟨Int.ediv_nonneg (Int.mul_nonneg h0 h1.1) (by omega), ?_⟩
  by_cases hz : ws.sum = 0
  · rw [hz, Int.ediv_zero]; exact h0
  · have : t * ws.getD i 0 ≤ t * ws.sum := Int.mul_le_mul_of_nonneg_left h1.2 h0
    have := Int.ediv_le_ediv (show 0 < ws.sum by omega) this
    rwa [Int.mul_ediv_cancel _ hz] at this
theorem r_le {t : Int} {ws : List Int} (h : SplitOk t ws) {i : Nat} (hi : i < ws.length) : 0 ≤ t * ws.getD i 0 % ws.sum ∧ t * ws.getD i 0 % ws.sum ≤ 1125899906842624 := by
  have h1 := w_le h hi
  by_cases hz : ws.sum = 0
  · rw [hz, h.pos hz]; simp
  · have := Int.emod_lt_of_pos (t * ws.getD i 0) (show 0 < ws.sum by omega)
    have := Int.emod_nonneg (t * ws.getD i 0) hz
    have := h.sum
    omega
/-- The parts of the first k weights, and what is left after them. -/
def frontQ (t : Int) (ws : List Int) (k : Nat) : List Int := (quos t ws).take k ++ List.replicate (ws.length - k) 0
def frontR (t : Int) (ws : List Int) (k : Nat) : List Int := (rems t ws).take k ++ List.replicate (ws.length - k) 0
def frontO (n k : Nat) : List Int := rng 0 k ++ List.replicate (n - k) 0
theorem front_set (l : List Int) (n k : Nat) (y : Int) (hl : l.length = n) (hk : k < n) (hy : y = l.getD k 0) : (l.take k ++ List.replicate (n - k) 0).set k y = l.take (k + 1) ++ List.replicate (n - (k + 1)) 0 := by
  subst hy
  have h1 : (l.take k).length = k := by simp; omega
  rw [List.set_append_right _ _ (by omega), h1, Nat.sub_self, show n - k = (n - (k + 1)) + 1 by omega, List.replicate_succ, List.set_cons_zero, take_succ_I l k (by omega)]
  simp
theorem front_len (l : List Int) (n k : Nat) (hl : l.length = n) (hk : k ≤ n) : (l.take k ++ List.replicate (n - k) (0 : Int)).length = n := by simp; omega
theorem front_get (l : List Int) (n k : Nat) (hl : l.length = n) (hk : k < n) : (l.take k ++ List.replicate (n - k) (0 : Int)).getD k 0 = 0 := by
  have h1 : (l.take k).length = k := by simp; omega
  rw [get_app, h1, if_neg (by omega), Nat.sub_self]
  simp [List.getD_eq_getElem?_getD, show 0 < n - k by omega]
theorem sumQ_bd {t : Int} {ws : List Int} (h : SplitOk t ws) : ∀ k, k ≤ ws.length → 0 ≤ sumK (quos t ws) k ∧ sumK (quos t ws) k ≤ t := fun k hk => by
  have hl := quos_len t ws
  have hnn : ∀ x ∈ quos t ws, 0 ≤ x := fun x hx => by
    obtain ⟨i, h2, rfl⟩ := getD_mem hx
    exact quos_nn h.sp i (by omega)
  have h1 := sum_ge0 ((quos t ws).take k) fun x hx => hnn x (List.mem_of_mem_take hx)
  have h2 := sum_ge0 ((quos t ws).drop k) fun x hx => hnn x (List.mem_of_mem_drop hx)
  have h3 : (quos t ws).sum = ((quos t ws).take k).sum + ((quos t ws).drop k).sum := by rw [← List.sum_append, List.take_append_drop]
  have h4 := (left_bd h.sp).1
  unfold sumK; omega
theorem frontO_eq (n k : Nat) (hk : k ≤ n) : frontO n k = (rng 0 n).take k ++ List.replicate (n - k) 0 := by
  unfold frontO
  congr 1
  have : rng 0 n = rng 0 k ++ rng (0 + k) (n - k) := by rw [← rng_split]; congr 1; omega
  rw [this, List.take_append_of_le_length (by rw [rng_len]; exact Nat.le_refl _), List.take_of_length_le (by rw [rng_len]; exact Nat.le_refl _)]

theorem sp_err {t : Int} {ws : List Int} (h : t < 0 ∨ 70368744177664 < t) : splitV t ws = ([], 1) := by unfold splitV splitE; rw [if_pos h]; rfl
theorem sp_we {t : Int} {ws : List Int} (h : ¬ (t < 0 ∨ 70368744177664 < t)) (h2 : (weighE ws).2 ≠ 0) : splitV t ws = ([], (weighE ws).2) := by unfold splitV splitE; rw [if_neg h, if_pos h2, if_pos h2]
theorem sp_empty {t : Int} {ws : List Int} (h : ¬ (t < 0 ∨ 70368744177664 < t)) (h2 : ¬ (weighE ws).2 ≠ 0) (h3 : (weighE ws).1 = 0 ∧ 0 < t) : splitV t ws = ([], 10) := by unfold splitV splitE; rw [if_neg h, if_neg h2, if_pos h3]; rfl
theorem sp_ok {t : Int} {ws : List Int} (h : ¬ (t < 0 ∨ 70368744177664 < t)) (h2 : ¬ (weighE ws).2 ≠ 0) (h3 : ¬ ((weighE ws).1 = 0 ∧ 0 < t)) : splitE t ws = 0 ∧ splitV t ws = (partsR t ws, 0) := by
  have : splitE t ws = 0 := by unfold splitE; rw [if_neg h, if_neg h2, if_neg h3]
  exact ⟨this, by unfold splitV; rw [if_neg (by omega)]⟩
def listT (x : List Int × Int) : A := .tup [.fs true (ints x.1), .v (.int .i64 x.2)]

theorem rd_bound {p0 q0 : List Int} (hp : ∀ i, i < p0.length → 0 ≤ p0.getD i 0 ∧ p0.getD i 0 ≤ 70368744177664) : ∀ k i, i < p0.length → 0 ≤ (rd p0 q0 k).1.getD i 0 ∧ (rd p0 q0 k).1.getD i 0 ≤ 70368744177664 + k
  | 0, i, hi => by have := hp i hi; simp only [rd]; omega
  | k + 1, i, hi => by
    have ih := rd_bound (q0 := q0) hp k
    simp only [rd, inc]
    rw [getD_seti]
    split
    · rename_i h
      rw [h.1]
      have := ih i hi; omega
    · have := ih i hi; omega

/-- What Split gives back, in memory of the caller's. -/
def SplitO (t : Int) (ws : List Int) : A → List Blk → Prop := fun r G => ((splitV t ws).2 ≠ 0 ∧ r = .tup [.fs true [], .v (.int .i64 (splitV t ws).2)] ∧ G = []) ∨ ((splitV t ws).2 = 0 ∧ ∃ ver, r = .tup [.sl 0 ver 1 0 ws.length, .v (.int .i64 0)] ∧ G = [⟨ver, ints (partsR t ws)⟩])
theorem splitV_err {t : Int} {ws : List Int} (h : (splitV t ws).2 ≠ 0) : splitV t ws = ([], (splitV t ws).2) := by
  unfold splitV at *
  split
  · rfl
  · rename_i hc; rw [if_neg hc] at h; exact absurd rfl h
theorem splitV_ok {t : Int} {ws : List Int} (h : (splitV t ws).2 = 0) : splitE t ws = 0 ∧ splitV t ws = (partsR t ws, 0) := by
  unfold splitV at *
  split at h
  · rename_i hc; exact absurd h hc
  · rename_i hc; rw [if_neg hc]; exact ⟨Classical.not_not.1 hc, rfl⟩
theorem SplitO.fz {t : Int} {ws : List Int} (r : A) (G : List Blk) (h : SplitO t ws r G) : ∃ r' G', Cut ([] : List Blk).length [r] G [r'] G' ∧ isR (listT (splitV t ws)) r' G' := by
  rcases h with ⟨h1, rfl, rfl⟩ | ⟨h1, ver, rfl, rfl⟩
  · rw [splitV_err h1]
    exact ⟨_, _, Cut.refl _ _ _, rfl, rfl⟩
  · obtain ⟨h2, h3⟩ := splitV_ok h1
    have hl := (partsR_ok (splitE_ok h2).sp).len
    rw [h3]
    exact ⟨listT (partsR t ws, 0), [], Cut.of' 0 rfl (Nat.le_refl _) (by rw [fzb_nil]; trivial) ⟨Fz.tup ⟨fz_slI 0 _ 0 ver ws.length (partsR t ws) (by omega) hl.symm (by simp [blkAt]), Fz.refl rfl, trivial⟩, trivial⟩, rfl, rfl⟩

end Go.Proofs.Ytbgmhbjfcpddkaa
namespace Go.Proofs.Ytbgmhbjfcpddkaa
open Go Go.Lft
set_option linter.unusedSimpArgs false
set_option linter.unusedVariables false
attribute [local congr] ob_congr bw_congr ib_congr ck_congr iwA_congr itA_congr aw_congr awp_congr sqA_congr bkA_congr vr_congr gd_congr

theorem check1_vr (x : Int) : VR P false n_material_check_1 [.v (.int .i64 x)] [] (isR (.v (.bool (decide (badM x))))) := by
  refine vr_material_check_1 (by simp) (.inr rfl) fun _ _ => ?_
  simp (disch := ((try simp only [List.length_set, List.length_replicate, List.length_append, List.length_cons, List.length_nil]); omega)) only [aW, aX, aV, aB, aN, aL, aP, aH, aM, aBl, s_material_check_1, v_material_check_1, r_material_check_1]
  exact post_v ⟨rfl, rfl⟩
theorem badM_hit {xs : List Int} {k : Nat} (hk : k < xs.length) (hb : ∀ i, i < k → ¬ badM (xs.getD i 0)) (hp : badM (xs.getD k 0)) : idxE badM xs = k := idxE_hit (p := badM) 0 hk hb hp
theorem badM_none {xs : List Int} (hb : ∀ i, i < xs.length → ¬ badM (xs.getD i 0)) : idxE badM xs = -1 := idxE_none (p := badM) 0 hb
theorem indexMix_vr {w : Bool} (xs : List Int) (hl : xs.length < 1000000000) : VR P false n_slices_IndexFunc [.fs w (ints xs), .fn n_material_check_1 []] [] (isR (.v (.int .i64 (idxE badM xs)))) := by
  refine vr_slices_IndexFunc (by simp) (.inr rfl) fun _ _ => ?_
  simp (disch := ((try simp only [List.length_set, List.length_replicate, List.length_append, List.length_cons, List.length_nil]); omega)) only [aW, aX, aV, aB, aN, aL, aP, aH, aM, aBl, s_slices_IndexFunc, v_slices_IndexFunc]
  refine AWP.loopP g_slices_IndexFunc_0 (fun k : Nat => k ≤ xs.length ∧ ∀ i, i < k → ¬ badM (xs.getD i 0)) (fun k => [(2, .v (.int .i64 0)), (3, .v (.int .i64 k))]) (fun _ => []) (fun k => xs.length - k) 0 ⟨by omega, fun i hi => by omega⟩ (by refine Cut.of' (0) ?_ (by omega) ?_ ?_ <;> simp (disch := first | omega | simp (disch := omega) only [aF, aL, aN, aM, aBl]) only [aW, aX, aV, aB, aN, aL, aP, aH, aM, aBl, aF, Int.natCast_add, Int.natCast_mul, Int.add_sub_cancel, List.length_nil, Int.cast_ofNat_Int, and_true, true_and]) ?_
  rintro k ⟨hk, hb⟩
  by_cases hlt : k < xs.length
  · simp (disch := ((try simp only [List.length_set, List.length_replicate, List.length_append, List.length_cons, List.length_nil]); omega)) only [aW, aX, aV, aB, aN, aL, aP, aH, aM, aBl]
    refine ⟨by kernel_rfl, ?_⟩
    refine (check1_vr (xs.getD k 0)).same (by simp (disch := first | omega | simp (disch := omega) only [aF, aL, aN, aM, aBl]) only [aW, aX, aV, aB, aN, aL, aP, aH, aM, aBl, aF, Int.natCast_add, Int.natCast_mul, Int.add_sub_cancel, List.length_nil, Int.cast_ofNat_Int, and_true, true_and]) rfl (aret_of ?_)
    simp (disch := ((try simp only [List.length_set, List.length_replicate, List.length_append, List.length_cons, List.length_nil]); omega)) only [aW, aX, aV, aB, aN, aL, aP, aH, aM, aBl]
    refine ib_intro (fun h3 => ?_) (fun h3 => ?_)
    · simp (disch := ((try simp only [List.length_set, List.length_replicate, List.length_append, List.length_cons, List.length_nil]); omega)) only [aW, aX, aV, aB, aN, aL, aP, aH, aM, aBl, r_slices_IndexFunc]
      exact post_v ⟨by rw [badM_hit hlt hb h3], rfl⟩
    · simp (disch := ((try simp only [List.length_set, List.length_replicate, List.length_append, List.length_cons, List.length_nil]); omega)) only [aW, aX, aV, aB, aN, aL, aP, aH, aM, aBl]
      refine ⟨k + 1, ⟨by omega, fun i hi => ?_⟩, by omega, (by refine Cut.of' (0) ?_ (by omega) ?_ ?_ <;> simp (disch := first | omega | simp (disch := omega) only [aF, aL, aN, aM, aBl]) only [aW, aX, aV, aB, aN, aL, aP, aH, aM, aBl, aF, Int.natCast_add, Int.natCast_mul, Int.add_sub_cancel, List.length_nil, Int.cast_ofNat_Int, and_true, true_and])⟩
      rcases Nat.lt_succ_iff_lt_or_eq.1 hi with h | rfl
      · exact hb i h
      · exact h3
  · simp (disch := ((try simp only [List.length_set, List.length_replicate, List.length_append, List.length_cons, List.length_nil]); omega)) only [aW, aX, aV, aB, aN, aL, aP, aH, aM, aBl, r_slices_IndexFunc]
    exact post_v ⟨by rw [badM_none fun i hi => hb i (by omega)], rfl⟩
theorem containsMix_vr {w : Bool} (xs : List Int) (hl : xs.length < 1000000000) : VR P false n_slices_ContainsFunc [.fs w (ints xs), .fn n_material_check_1 []] [] (isR (.v (.bool (decide (0 ≤ idxE badM xs))))) := by
  refine vr_slices_ContainsFunc (by simp) (.inr rfl) fun _ _ => ?_
  simp (disch := ((try simp only [List.length_set, List.length_replicate, List.length_append, List.length_cons, List.length_nil]); omega)) only [aW, aX, aV, aB, aN, aL, aP, aH, aM, aBl, s_slices_ContainsFunc, v_slices_ContainsFunc]
  refine (indexMix_vr (w := w) xs hl).same (by simp (disch := first | omega | simp (disch := omega) only [aF, aL, aN, aM, aBl]) only [aW, aX, aV, aB, aN, aL, aP, aH, aM, aBl, aF, Int.natCast_add, Int.natCast_mul, Int.add_sub_cancel, List.length_nil, Int.cast_ofNat_Int, and_true, true_and]) rfl (aret_of ?_)
  simp (disch := ((try simp only [List.length_set, List.length_replicate, List.length_append, List.length_cons, List.length_nil]); omega)) only [aW, aX, aV, aB, aN, aL, aP, aH, aM, aBl, r_slices_ContainsFunc]
  exact post_v ⟨vdec Iff.rfl, rfl⟩
theorem mixCheck_vr {w v : Bool} (l : List (List Int)) (hl : l.length < 1000000000) : VR P false n_material_check [.fs w (rows v l)] [] (isR (.v (.int .i64 (firstE mixE l)))) := by
  refine vr_material_check (by simp) (.inr rfl) fun _ _ => ?_
  simp (disch := ((try simp only [List.length_set, List.length_replicate, List.length_append, List.length_cons, List.length_nil]); omega)) only [aW, aX, aV, aB, aN, aL, aP, aH, aM, aBl, s_material_check, v_material_check]
  refine AWP.loopP g_material_check_0 (fun k : Nat => k ≤ l.length ∧ ∀ i, i < k → mixE (l.getD i []) = 0) (fun k => [(1, .v (.int .i64 0)), (2, .v (.int .i64 k))]) (fun _ => []) (fun k => l.length - k) 0 ⟨by omega, fun i hi => by omega⟩ (by refine Cut.of' (0) ?_ (by omega) ?_ ?_ <;> simp (disch := first | omega | simp (disch := omega) only [aF, aL, aN, aM, aBl]) only [aW, aX, aV, aB, aN, aL, aP, aH, aM, aBl, aF, Int.natCast_add, Int.natCast_mul, Int.add_sub_cancel, List.length_nil, Int.cast_ofNat_Int, and_true, true_and]) ?_
  rintro k ⟨hk, hb⟩
  by_cases hlt : k < l.length
  · simp (disch := ((try simp only [List.length_set, List.length_replicate, List.length_append, List.length_cons, List.length_nil]); omega)) only [aW, aX, aV, aB, aN, aL, aP, aH, aM, aBl]
    refine ib_intro (fun h3 => ?_) (fun h3 => ?_)
    · have he := mixE_len (xs := l.getD k []) (by omega)
      simp (disch := ((try simp only [List.length_set, List.length_replicate, List.length_append, List.length_cons, List.length_nil]); omega)) only [aW, aX, aV, aB, aN, aL, aP, aH, aM, aBl, r_material_check]
      exact post_v ⟨by rw [firstE_hit [] hlt hb (by omega), he], rfl⟩
    · simp (disch := ((try simp only [List.length_set, List.length_replicate, List.length_append, List.length_cons, List.length_nil]); omega)) only [aW, aX, aV, aB, aN, aL, aP, aH, aM, aBl]
      refine (containsMix_vr (w := v) (l.getD k []) (by omega)).same (by simp (disch := first | omega | simp (disch := omega) only [aF, aL, aN, aM, aBl]) only [aW, aX, aV, aB, aN, aL, aP, aH, aM, aBl, aF, Int.natCast_add, Int.natCast_mul, Int.add_sub_cancel, List.length_nil, Int.cast_ofNat_Int, and_true, true_and]) rfl (aret_of ?_)
      simp (disch := ((try simp only [List.length_set, List.length_replicate, List.length_append, List.length_cons, List.length_nil]); omega)) only [aW, aX, aV, aB, aN, aL, aP, aH, aM, aBl]
      refine ib_intro (fun h4 => ?_) (fun h4 => ?_)
      · have he := mixE_bad (xs := l.getD k []) (by omega) h4
        simp (disch := ((try simp only [List.length_set, List.length_replicate, List.length_append, List.length_cons, List.length_nil]); omega)) only [aW, aX, aV, aB, aN, aL, aP, aH, aM, aBl, r_material_check]
        exact post_v ⟨by rw [firstE_hit [] hlt hb (by omega), he], rfl⟩
      · have he := mixE_good (xs := l.getD k []) (by omega) h4
        simp (disch := ((try simp only [List.length_set, List.length_replicate, List.length_append, List.length_cons, List.length_nil]); omega)) only [aW, aX, aV, aB, aN, aL, aP, aH, aM, aBl]
        refine ⟨k + 1, ⟨by omega, fun i hi => ?_⟩, by omega, (by refine Cut.of' (0) ?_ (by omega) ?_ ?_ <;> simp (disch := first | omega | simp (disch := omega) only [aF, aL, aN, aM, aBl]) only [aW, aX, aV, aB, aN, aL, aP, aH, aM, aBl, aF, Int.natCast_add, Int.natCast_mul, Int.add_sub_cancel, List.length_nil, Int.cast_ofNat_Int, and_true, true_and])⟩
        rcases Nat.lt_succ_iff_lt_or_eq.1 hi with h | rfl
        · exact hb i h
        · exact he
  · simp (disch := ((try simp only [List.length_set, List.length_replicate, List.length_append, List.length_cons, List.length_nil]); omega)) only [aW, aX, aV, aB, aN, aL, aP, aH, aM, aBl, r_material_check]
    exact post_v ⟨by rw [firstE_none [] fun i hi => hb i (by omega)], rfl⟩
theorem firstE_one (xs : List Int) : firstE mixE [xs] = mixE xs := by
  unfold firstE firstE; split
  · rfl
  · rename_i h; exact (Classical.not_not.1 h).symm
theorem mixCheck1_vr (xs : List Int) : VR P false n_material_check [.fs false [.fs false (ints xs)]] [] (isR (.v (.int .i64 (mixE xs)))) := by
  have h := mixCheck_vr (w := false) (v := false) [xs] (by simp)
  rw [firstE_one] at h; exact h
theorem firstE_two (a b : List Int) : firstE mixE [a, b] = if mixE a ≠ 0 then mixE a else mixE b := by
  show (if mixE a ≠ 0 then mixE a else firstE mixE [b]) = _
  rw [firstE_one]
theorem mixCheck2_vr (a b : List Int) : VR P false n_material_check [.fs false [.fs false (ints a), .fs false (ints b)]] [] (isR (.v (.int .i64 (if mixE a ≠ 0 then mixE a else mixE b)))) := by
  have h := mixCheck_vr (w := false) (v := false) [a, b] (by simp)
  rw [firstE_two] at h; exact h

theorem refFault_vr {w : Bool} (xs : List Int) : VR P false n_ref12_Fault [.fs w (ints xs)] [] (isR (.v (.int .i64 (mixE xs)))) := by
  refine vr_ref12_Fault (by simp) (.inr rfl) fun _ _ => ?_
  simp (disch := ((try simp only [List.length_set, List.length_replicate, List.length_append, List.length_cons, List.length_nil]); omega)) only [aW, aX, aV, aB, aN, aL, aP, aH, aM, aBl, s_ref12_Fault, v_ref12_Fault]
  refine ib_intro (fun h1 => ?_) (fun h1 => ?_)
  · simp (disch := ((try simp only [List.length_set, List.length_replicate, List.length_append, List.length_cons, List.length_nil]); omega)) only [aW, aX, aV, aB, aN, aL, aP, aH, aM, aBl, r_ref12_Fault]
    exact post_v ⟨by rw [mixE_len (by omega)], rfl⟩
  simp (disch := ((try simp only [List.length_set, List.length_replicate, List.length_append, List.length_cons, List.length_nil]); omega)) only [aW, aX, aV, aB, aN, aL, aP, aH, aM, aBl]
  refine AWP.loopP g_ref12_Fault_0 (fun k : Nat => k ≤ xs.length ∧ ∀ i, i < k → ¬ badM (xs.getD i 0)) (fun k => [(1, .v (.int .i64 0)), (2, .v (.int .i64 k))]) (fun _ => []) (fun k => xs.length - k) 0 ⟨by omega, fun i hi => by omega⟩ (by refine Cut.of' (0) ?_ (by omega) ?_ ?_ <;> simp (disch := first | omega | simp (disch := omega) only [aF, aL, aN, aM, aBl]) only [aW, aX, aV, aB, aN, aL, aP, aH, aM, aBl, aF, Int.natCast_add, Int.natCast_mul, Int.add_sub_cancel, List.length_nil, Int.cast_ofNat_Int, and_true, true_and]) ?_
  rintro k ⟨hk, hb⟩
  by_cases hlt : k < xs.length
  · simp (disch := ((try simp only [List.length_set, List.length_replicate, List.length_append, List.length_cons, List.length_nil]); omega)) only [aW, aX, aV, aB, aN, aL, aP, aH, aM, aBl]
    refine ib_intro (fun h3 => ?_) (fun h3 => ?_)
    · simp (disch := ((try simp only [List.length_set, List.length_replicate, List.length_append, List.length_cons, List.length_nil]); omega)) only [aW, aX, aV, aB, aN, aL, aP, aH, aM, aBl, r_ref12_Fault]
      exact post_v ⟨by rw [mixE_bad (by omega) (by rw [badM_hit hlt hb h3]; omega)], rfl⟩
    · simp (disch := ((try simp only [List.length_set, List.length_replicate, List.length_append, List.length_cons, List.length_nil]); omega)) only [aW, aX, aV, aB, aN, aL, aP, aH, aM, aBl]
      refine ⟨k + 1, ⟨by omega, fun i hi => ?_⟩, by omega, (by refine Cut.of' (0) ?_ (by omega) ?_ ?_ <;> simp (disch := first | omega | simp (disch := omega) only [aF, aL, aN, aM, aBl]) only [aW, aX, aV, aB, aN, aL, aP, aH, aM, aBl, aF, Int.natCast_add, Int.natCast_mul, Int.add_sub_cancel, List.length_nil, Int.cast_ofNat_Int, and_true, true_and])⟩
      rcases Nat.lt_succ_iff_lt_or_eq.1 hi with h | rfl
      · exact hb i h
      · exact h3
  · simp (disch := ((try simp only [List.length_set, List.length_replicate, List.length_append, List.length_cons, List.length_nil]); omega)) only [aW, aX, aV, aB, aN, aL, aP, aH, aM, aBl, r_ref12_Fault]
    exact post_v ⟨by rw [mixE_good (by omega) (by rw [badM_none fun i hi => hb i (by omega)]; omega)], rfl⟩

theorem materialTotal_vr {w : Bool} (xs : List Int) : VR P false n_material_Total [.fs w (ints xs)] [] (isR (pairT (totM xs))) := by
  refine vr_material_Total (by simp) (.inr rfl) fun _ _ => ?_
  unfold pairT
  simp (disch := ((try simp only [List.length_set, List.length_replicate, List.length_append, List.length_cons, List.length_nil]); omega)) only [aW, aX, aV, aB, aN, aL, aP, aH, aM, aBl, s_material_Total, v_material_Total]
  refine (mixCheck1_vr xs).use (ld_all (by simp [frzL_nil, frzL_cons, fzp_any, fzp_nil, fzp_v, fzp_agg, fzp_tup, fzp_fn, fzp_fs, fzp_fp, fzp_sl, fzp_vs, fzp_lp, ldp_any, ldp_nil, ldp_v, ldp_agg, ldp_fn, ldp_fs, ldp_fp, ldp_sl, ldp_vs, ldp_lp, blkAt, flatA, A.cells, A.one, Lft.one, retA, A.bdL, A.bd, ii_bd])) rfl (aret_of ?_)
  simp (disch := ((try simp only [List.length_set, List.length_replicate, List.length_append, List.length_cons, List.length_nil]); omega)) only [aW, aX, aV, aB, aN, aL, aP, aH, aM, aBl]
  refine ib_intro (fun h1 => ?_) (fun h1 => ?_)
  · rw [totM_err h1]
    simp (disch := ((try simp only [List.length_set, List.length_replicate, List.length_append, List.length_cons, List.length_nil]); omega)) only [aW, aX, aV, aB, aN, aL, aP, aH, aM, aBl, r_material_Total]
    exact post0 (Fz.refl rfl) ⟨rfl, rfl⟩
  have h1 := Classical.not_not.1 h1
  have h2 := sumT_mix h1
  have h3 := (mixE_ok.1 h1).1
  rw [totM_ok h1]
  simp (disch := ((try simp only [List.length_set, List.length_replicate, List.length_append, List.length_cons, List.length_nil]); omega)) only [aW, aX, aV, aB, aN, aL, aP, aH, aM, aBl]
  refine AWP.loopP g_material_Total_0 (fun k : Nat => k ≤ xs.length) (fun k => [(4, .v (.int .i64 (sumT xs k))), (5, .v (.int .i64 k))]) (fun _ => []) (fun k => xs.length - k) 0 (by omega) ?_ ?_
  · rw [sumT_zero]
    exact Cut.of' 1 rfl (by omega) (by simp (disch := first | omega | simp (disch := omega) only [aF, aL, aN, aM, aBl]) only [aW, aX, aV, aB, aN, aL, aP, aH, aM, aBl, aF, Int.natCast_add, Int.natCast_mul, Int.add_sub_cancel, List.length_nil, Int.cast_ofNat_Int, and_true, true_and]) (by simp (disch := first | omega | simp (disch := omega) only [aF, aL, aN, aM, aBl]) only [aW, aX, aV, aB, aN, aL, aP, aH, aM, aBl, aF, Int.natCast_add, Int.natCast_mul, Int.add_sub_cancel, List.length_nil, Int.cast_ofNat_Int, and_true, true_and])
  rintro k hk
  have h4 := h2 k hk
  by_cases hlt : k < xs.length
  · have h5 := mixE_get h1 k hlt
    simp (disch := ((try simp only [List.length_set, List.length_replicate, List.length_append, List.length_cons, List.length_nil]); omega)) only [aW, aX, aV, aB, aN, aL, aP, aH, aM, aBl]
    refine ⟨k + 1, by omega, by omega, ?_⟩
    rw [sumT_succ xs k hlt]
    exact Cut.of' 1 rfl (by omega) (by simp (disch := first | omega | simp (disch := omega) only [aF, aL, aN, aM, aBl]) only [aW, aX, aV, aB, aN, aL, aP, aH, aM, aBl, aF, Int.natCast_add, Int.natCast_mul, Int.add_sub_cancel, List.length_nil, Int.cast_ofNat_Int, and_true, true_and]) (by simp (disch := first | omega | simp (disch := omega) only [aF, aL, aN, aM, aBl]) only [aW, aX, aV, aB, aN, aL, aP, aH, aM, aBl, aF, Int.natCast_add, Int.natCast_mul, Int.add_sub_cancel, List.length_nil, Int.cast_ofNat_Int, and_true, true_and])
  · have hke : k = xs.length := by omega
    subst hke
    simp (disch := ((try simp only [List.length_set, List.length_replicate, List.length_append, List.length_cons, List.length_nil]); omega)) only [aW, aX, aV, aB, aN, aL, aP, aH, aM, aBl, r_material_Total, sumT_all]
    exact post0 (Fz.refl rfl) ⟨rfl, rfl⟩
theorem refTotal_vr {w : Bool} (xs : List Int) : VR P false n_ref12_Total [.fs w (ints xs)] [] (isR (pairT (totM xs))) := by
  refine vr_ref12_Total (by simp) (.inr rfl) fun _ _ => ?_
  unfold pairT
  simp (disch := ((try simp only [List.length_set, List.length_replicate, List.length_append, List.length_cons, List.length_nil]); omega)) only [aW, aX, aV, aB, aN, aL, aP, aH, aM, aBl, s_ref12_Total, v_ref12_Total]
  refine (refFault_vr (w := w) xs).same (by simp (disch := first | omega | simp (disch := omega) only [aF, aL, aN, aM, aBl]) only [aW, aX, aV, aB, aN, aL, aP, aH, aM, aBl, aF, Int.natCast_add, Int.natCast_mul, Int.add_sub_cancel, List.length_nil, Int.cast_ofNat_Int, and_true, true_and]) rfl (aret_of ?_)
  simp (disch := ((try simp only [List.length_set, List.length_replicate, List.length_append, List.length_cons, List.length_nil]); omega)) only [aW, aX, aV, aB, aN, aL, aP, aH, aM, aBl]
  refine ib_intro (fun h1 => ?_) (fun h1 => ?_)
  · rw [totM_err h1]
    simp (disch := ((try simp only [List.length_set, List.length_replicate, List.length_append, List.length_cons, List.length_nil]); omega)) only [aW, aX, aV, aB, aN, aL, aP, aH, aM, aBl, r_ref12_Total]
    exact post0 (Fz.refl rfl) ⟨rfl, rfl⟩
  have h1 := Classical.not_not.1 h1
  have h2 := sumT_mix h1
  have h3 := (mixE_ok.1 h1).1
  rw [totM_ok h1]
  simp (disch := ((try simp only [List.length_set, List.length_replicate, List.length_append, List.length_cons, List.length_nil]); omega)) only [aW, aX, aV, aB, aN, aL, aP, aH, aM, aBl]
  refine AWP.loopP g_ref12_Total_0 (fun k : Nat => k ≤ xs.length) (fun k => [(4, .v (.int .i64 (sumT xs k))), (5, .v (.int .i64 k))]) (fun _ => []) (fun k => xs.length - k) 0 (by omega) ?_ ?_
  · rw [sumT_zero]
    exact Cut.of' 0 rfl (by omega) (by simp (disch := first | omega | simp (disch := omega) only [aF, aL, aN, aM, aBl]) only [aW, aX, aV, aB, aN, aL, aP, aH, aM, aBl, aF, Int.natCast_add, Int.natCast_mul, Int.add_sub_cancel, List.length_nil, Int.cast_ofNat_Int, and_true, true_and]) (by simp (disch := first | omega | simp (disch := omega) only [aF, aL, aN, aM, aBl]) only [aW, aX, aV, aB, aN, aL, aP, aH, aM, aBl, aF, Int.natCast_add, Int.natCast_mul, Int.add_sub_cancel, List.length_nil, Int.cast_ofNat_Int, and_true, true_and])
  rintro k hk
  have h4 := h2 k hk
  by_cases hlt : k < xs.length
  · have h5 := mixE_get h1 k hlt
    simp (disch := ((try simp only [List.length_set, List.length_replicate, List.length_append, List.length_cons, List.length_nil]); omega)) only [aW, aX, aV, aB, aN, aL, aP, aH, aM, aBl]
    refine ⟨k + 1, by omega, by omega, ?_⟩
    rw [sumT_succ xs k hlt]
    exact Cut.of' 0 rfl (by omega) (by simp (disch := first | omega | simp (disch := omega) only [aF, aL, aN, aM, aBl]) only [aW, aX, aV, aB, aN, aL, aP, aH, aM, aBl, aF, Int.natCast_add, Int.natCast_mul, Int.add_sub_cancel, List.length_nil, Int.cast_ofNat_Int, and_true, true_and]) (by simp (disch := first | omega | simp (disch := omega) only [aF, aL, aN, aM, aBl]) only [aW, aX, aV, aB, aN, aL, aP, aH, aM, aBl, aF, Int.natCast_add, Int.natCast_mul, Int.add_sub_cancel, List.length_nil, Int.cast_ofNat_Int, and_true, true_and])
  · have hke : k = xs.length := by omega
    subst hke
    simp (disch := ((try simp only [List.length_set, List.length_replicate, List.length_append, List.length_cons, List.length_nil]); omega)) only [aW, aX, aV, aB, aN, aL, aP, aH, aM, aBl, r_ref12_Total, sumT_all]
    exact post0 (Fz.refl rfl) ⟨rfl, rfl⟩

theorem materialPurity_vr {w : Bool} (xs : List Int) (i : Int) : VR P false n_material_Purity [.fs w (ints xs), .v (.int .i64 i)] [] (isR (pairT (purM xs i))) := by
  refine vr_material_Purity (by simp) (.inr rfl) fun _ _ => ?_
  have ht := materialTotal_vr (w := w) xs
  unfold pairT at ht ⊢
  simp (disch := ((try simp only [List.length_set, List.length_replicate, List.length_append, List.length_cons, List.length_nil]); omega)) only [aW, aX, aV, aB, aN, aL, aP, aH, aM, aBl, s_material_Purity, v_material_Purity]
  refine ht.same (by simp (disch := first | omega | simp (disch := omega) only [aF, aL, aN, aM, aBl]) only [aW, aX, aV, aB, aN, aL, aP, aH, aM, aBl, aF, Int.natCast_add, Int.natCast_mul, Int.add_sub_cancel, List.length_nil, Int.cast_ofNat_Int, and_true, true_and]) (by simp (disch := first | omega | simp (disch := omega) only [aF, aL, aN, aM, aBl]) only [aW, aX, aV, aB, aN, aL, aP, aH, aM, aBl, aF, Int.natCast_add, Int.natCast_mul, Int.add_sub_cancel, List.length_nil, Int.cast_ofNat_Int, and_true, true_and]) (aret_of ?_)
  by_cases h1 : mixE xs = 0
  case neg =>
    rw [totM_err h1, purM_err h1]
    simp (disch := ((try simp only [List.length_set, List.length_replicate, List.length_append, List.length_cons, List.length_nil]); omega)) only [aW, aX, aV, aB, aN, aL, aP, aH, aM, aBl, r_material_Purity]
    exact post0 (Fz.refl rfl) ⟨rfl, rfl⟩
  rw [totM_ok h1]
  have h2 := sum_mix h1
  simp (disch := ((try simp only [List.length_set, List.length_replicate, List.length_append, List.length_cons, List.length_nil]); omega)) only [aW, aX, aV, aB, aN, aL, aP, aH, aM, aBl]
  refine ib_intro (fun h3 => ?_) (fun h3 => ?_)
  · rw [purM_rng h1 h3]
    simp (disch := ((try simp only [List.length_set, List.length_replicate, List.length_append, List.length_cons, List.length_nil]); omega)) only [aW, aX, aV, aB, aN, aL, aP, aH, aM, aBl, r_material_Purity]
    exact post0 (Fz.refl rfl) ⟨rfl, rfl⟩
  simp (disch := ((try simp only [List.length_set, List.length_replicate, List.length_append, List.length_cons, List.length_nil]); omega)) only [aW, aX, aV, aB, aN, aL, aP, aH, aM, aBl]
  refine ib_intro (fun h4 => ?_) (fun h4 => ?_)
  · rw [purM_emp h1 h3 h4]
    simp (disch := ((try simp only [List.length_set, List.length_replicate, List.length_append, List.length_cons, List.length_nil]); omega)) only [aW, aX, aV, aB, aN, aL, aP, aH, aM, aBl, r_material_Purity]
    exact post0 (Fz.refl rfl) ⟨rfl, rfl⟩
  rw [purM_ok h1 h3 h4]
  have h5 := mixE_get0 h1 i.toNat
  have h6 : 0 ≤ xs.getD i.toNat 0 * 1000 / xs.sum := Int.ediv_nonneg (by omega) h2.1
  have h7 : xs.getD i.toNat 0 * 1000 / xs.sum ≤ xs.getD i.toNat 0 * 1000 := Int.ediv_le_self _ (by omega)
  simp (disch := ((try simp only [List.length_set, List.length_replicate, List.length_append, List.length_cons, List.length_nil]); omega)) only [aW, aX, aV, aB, aN, aL, aP, aH, aM, aBl, r_material_Purity]
  exact post0 (Fz.refl rfl) ⟨rfl, rfl⟩
end Go.Proofs.Ytbgmhbjfcpddkaa
namespace Go.Proofs.Ytbgmhbjfcpddkaa
open Go Go.Lft
set_option linter.unusedSimpArgs false
set_option linter.unusedVariables false
attribute [local congr] ob_congr bw_congr ib_congr ck_congr iwA_congr itA_congr aw_congr awp_congr sqA_congr bkA_congr vr_congr gd_congr

theorem add1_vr (x y : Int) (hx : 0 ≤ x ∧ x ≤ 1073741824) (hy : 0 ≤ y ∧ y ≤ 1073741824) : VR P false n_material_Add_1 [.v (.int .i64 x), .v (.int .i64 y)] [] (isR (.v (.int .i64 (x + y)))) := by
  refine vr_material_Add_1 (by simp) (.inr rfl) fun _ _ => ?_
  simp (disch := ((try simp only [List.length_set, List.length_replicate, List.length_append, List.length_cons, List.length_nil]); omega)) only [aW, aX, aV, aB, aN, aL, aP, aH, aM, aBl, s_material_Add_1, v_material_Add_1, r_material_Add_1]
  exact post_v ⟨rfl, rfl⟩

theorem combineAdd_vr {w v : Bool} (a b : List Int) : VR P false n_material_combine [.fs w (ints a), .fs v (ints b), .fn n_material_Add_1 [], .v (.int .i64 2)] [] (isR (listT (addM a b))) := by
  refine vr_material_combine (by simp) (.inr rfl) fun _ _ => ?_
  unfold listT
  simp (disch := ((try simp only [List.length_set, List.length_replicate, List.length_append, List.length_cons, List.length_nil]); omega)) only [aW, aX, aV, aB, aN, aL, aP, aH, aM, aBl, s_material_combine, v_material_combine]
  refine (mixCheck2_vr a b).use (ld_all (by simp [frzL_nil, frzL_cons, fzp_any, fzp_nil, fzp_v, fzp_agg, fzp_tup, fzp_fn, fzp_fs, fzp_fp, fzp_sl, fzp_vs, fzp_lp, ldp_any, ldp_nil, ldp_v, ldp_agg, ldp_fn, ldp_fs, ldp_fp, ldp_sl, ldp_vs, ldp_lp, blkAt, flatA, A.cells, A.one, Lft.one, retA, A.bdL, A.bd, ii_bd])) rfl (aret_of ?_)
  by_cases h1 : mixE a = 0
  case neg =>
    rw [if_pos h1, addM_e1 h1]
    simp (disch := ((try simp only [List.length_set, List.length_replicate, List.length_append, List.length_cons, List.length_nil]); omega)) only [aW, aX, aV, aB, aN, aL, aP, aH, aM, aBl, r_material_combine]
    exact post_err ⟨rfl, rfl⟩
  rw [if_neg (fun h => h h1)]
  by_cases h2 : mixE b = 0
  case neg =>
    rw [addM_e2 h1 h2]
    simp (disch := ((try simp only [List.length_set, List.length_replicate, List.length_append, List.length_cons, List.length_nil]); omega)) only [aW, aX, aV, aB, aN, aL, aP, aH, aM, aBl, r_material_combine]
    exact post_err ⟨rfl, rfl⟩
  rw [h2]
  simp (disch := ((try simp only [List.length_set, List.length_replicate, List.length_append, List.length_cons, List.length_nil]); omega)) only [aW, aX, aV, aB, aN, aL, aP, aH, aM, aBl]
  refine ib_intro (fun h3 => ?_) (fun h3 => ?_)
  · rw [addM_e3 h1 h2 (by omega)]
    simp (disch := ((try simp only [List.length_set, List.length_replicate, List.length_append, List.length_cons, List.length_nil]); omega)) only [aW, aX, aV, aB, aN, aL, aP, aH, aM, aBl, r_material_combine]
    exact post_err ⟨rfl, rfl⟩
  have h3 : a.length = b.length := by omega
  have hl := (mixE_ok.1 h1).1
  simp (disch := ((try simp only [List.length_set, List.length_replicate, List.length_append, List.length_cons, List.length_nil]); omega)) only [aW, aX, aV, aB, aN, aL, aP, aH, aM, aBl]
  refine AWP.loopP g_material_combine_0 (fun k : Nat => k ≤ a.length) (fun k => [(8, .v (.int .i64 k))]) (fun k => [(1, ⟨0, ints (frontP a b k)⟩)]) (fun k => a.length - k) 0 (by omega) ?_ ?_
  · rw [frontP_zero]
    try simp (disch := ((try simp only [List.length_set, List.length_replicate, List.length_append, List.length_cons, List.length_nil]); omega)) only [aW, aX, aV, aB, aN, aL, aP, aH, aM, aBl]
    exact Cut.of' 2 rfl (by omega) (by simp (disch := first | omega | simp (disch := omega) only [aF, aL, aN, aM, aBl]) only [aW, aX, aV, aB, aN, aL, aP, aH, aM, aBl, aF, Int.natCast_add, Int.natCast_mul, Int.add_sub_cancel, List.length_nil, Int.cast_ofNat_Int, and_true, true_and]) (by simp (disch := first | omega | simp (disch := omega) only [aF, aL, aN, aM, aBl]) only [aW, aX, aV, aB, aN, aL, aP, aH, aM, aBl, aF, Int.natCast_add, Int.natCast_mul, Int.add_sub_cancel, List.length_nil, Int.cast_ofNat_Int, and_true, true_and])
  rintro k hk
  have fl := frontP_len a b k hk
  by_cases hlt : k < a.length
  · have h5 := mixE_get h1 k hlt
    have h6 := mixE_get h2 k (by omega)
    have h7 := frontP_set a b k hlt
    simp (disch := ((try simp only [List.length_set, List.length_replicate, List.length_append, List.length_cons, List.length_nil]); omega)) only [aW, aX, aV, aB, aN, aL, aP, aH, aM, aBl]
    refine ⟨by kernel_rfl, ?_⟩
    refine (add1_vr (a.getD k 0) (b.getD k 0) h5 h6).same (by simp (disch := first | omega | simp (disch := omega) only [aF, aL, aN, aM, aBl]) only [aW, aX, aV, aB, aN, aL, aP, aH, aM, aBl, aF, Int.natCast_add, Int.natCast_mul, Int.add_sub_cancel, List.length_nil, Int.cast_ofNat_Int, and_true, true_and]) rfl (aret_of ?_)
    simp (disch := ((try simp only [List.length_set, List.length_replicate, List.length_append, List.length_cons, List.length_nil]); omega)) only [aW, aX, aV, aB, aN, aL, aP, aH, aM, aBl, h7]
    refine ⟨k + 1, by omega, by omega, ?_⟩
    exact Cut.of' 2 rfl (by omega) (by simp (disch := first | omega | simp (disch := omega) only [aF, aL, aN, aM, aBl]) only [aW, aX, aV, aB, aN, aL, aP, aH, aM, aBl, aF, Int.natCast_add, Int.natCast_mul, Int.add_sub_cancel, List.length_nil, Int.cast_ofNat_Int, and_true, true_and]) (by simp (disch := first | omega | simp (disch := omega) only [aF, aL, aN, aM, aBl]) only [aW, aX, aV, aB, aN, aL, aP, aH, aM, aBl, aF, Int.natCast_add, Int.natCast_mul, Int.add_sub_cancel, List.length_nil, Int.cast_ofNat_Int, and_true, true_and])
  have hke : k = a.length := by omega
  subst hke
  have pl := plusM_len a b
  rw [frontP_all]
  simp (disch := ((try simp only [List.length_set, List.length_replicate, List.length_append, List.length_cons, List.length_nil]); omega)) only [aW, aX, aV, aB, aN, aL, aP, aH, aM, aBl]
  refine (mixCheck1_vr (plusM a b)).use ⟨Ld.sl (r := [.fs false (ints (plusM a b))]) rfl ⟨ld_slI _ 1 0 _ _ pl.symm rfl, trivial⟩ rfl rfl (by simp), trivial⟩ rfl (aret_of ?_)
  by_cases h4 : mixE (plusM a b) = 0
  case neg =>
    rw [addM_e4 h1 h2 h3 h4]
    simp (disch := ((try simp only [List.length_set, List.length_replicate, List.length_append, List.length_cons, List.length_nil]); omega)) only [aW, aX, aV, aB, aN, aL, aP, aH, aM, aBl, r_material_combine]
    exact post_err ⟨rfl, rfl⟩
  rw [addM_ok h1 h2 h3 h4, h4]
  simp (disch := ((try simp only [List.length_set, List.length_replicate, List.length_append, List.length_cons, List.length_nil]); omega)) only [aW, aX, aV, aB, aN, aL, aP, aH, aM, aBl, r_material_combine]
  exact post0 (r := .tup [.fs true (ints (plusM a b)), .v (.int .i64 0)]) (Fz.tup ⟨fz_slI 0 _ 1 0 _ (plusM a b) (by omega) pl.symm (by simp [blkAt]), Fz.refl rfl, trivial⟩) ⟨rfl, rfl⟩
theorem materialAdd_vr {w v : Bool} (a b : List Int) : VR P false n_material_Add [.fs w (ints a), .fs v (ints b)] [] (isR (listT (addM a b))) := by
  refine vr_material_Add (by simp) (.inr rfl) fun _ _ => ?_
  have h := combineAdd_vr (w := w) (v := v) a b
  unfold listT at h ⊢
  generalize addM a b = r at h ⊢
  simp (disch := ((try simp only [List.length_set, List.length_replicate, List.length_append, List.length_cons, List.length_nil]); omega)) only [aW, aX, aV, aB, aN, aL, aP, aH, aM, aBl, s_material_Add, v_material_Add]
  refine h.same (by simp (disch := first | omega | simp (disch := omega) only [aF, aL, aN, aM, aBl]) only [aW, aX, aV, aB, aN, aL, aP, aH, aM, aBl, aF, Int.natCast_add, Int.natCast_mul, Int.add_sub_cancel, List.length_nil, Int.cast_ofNat_Int, and_true, true_and]) (by simp (disch := first | omega | simp (disch := omega) only [aF, aL, aN, aM, aBl]) only [aW, aX, aV, aB, aN, aL, aP, aH, aM, aBl, aF, Int.natCast_add, Int.natCast_mul, Int.add_sub_cancel, List.length_nil, Int.cast_ofNat_Int, and_true, true_and]) (aret_of ?_)
  simp (disch := ((try simp only [List.length_set, List.length_replicate, List.length_append, List.length_cons, List.length_nil]); omega)) only [aW, aX, aV, aB, aN, aL, aP, aH, aM, aBl, r_material_Add]
  exact post0 (Fz.refl (by simp (disch := first | omega | simp (disch := omega) only [aF, aL, aN, aM, aBl]) only [aW, aX, aV, aB, aN, aL, aP, aH, aM, aBl, aF, Int.natCast_add, Int.natCast_mul, Int.add_sub_cancel, List.length_nil, Int.cast_ofNat_Int, and_true, true_and])) ⟨rfl, rfl⟩

theorem same12_vr {w v : Bool} (a b : List Int) (hl : a.length < 1000000000) : VR P false n_ref12_Same [.fs w (ints a), .fs v (ints b)] [] (isR (.v (.bool (decide (a = b))))) := by
  refine vr_ref12_Same (by simp) (.inr rfl) fun _ _ => ?_
  simp (disch := ((try simp only [List.length_set, List.length_replicate, List.length_append, List.length_cons, List.length_nil]); omega)) only [aW, aX, aV, aB, aN, aL, aP, aH, aM, aBl, s_ref12_Same, v_ref12_Same]
  refine ib_intro (fun h1 => ?_) (fun h1 => ?_)
  · simp (disch := ((try simp only [List.length_set, List.length_replicate, List.length_append, List.length_cons, List.length_nil]); omega)) only [aW, aX, aV, aB, aN, aL, aP, aH, aM, aBl, r_ref12_Same]
    refine post_v ⟨vfalse ?_, rfl⟩
    rintro rfl; omega
  have hlen : a.length = b.length := by omega
  simp (disch := ((try simp only [List.length_set, List.length_replicate, List.length_append, List.length_cons, List.length_nil]); omega)) only [aW, aX, aV, aB, aN, aL, aP, aH, aM, aBl]
  refine AWP.loopP g_ref12_Same_0 (fun k : Nat => k ≤ a.length ∧ ∀ i, i < k → a.getD i 0 = b.getD i 0) (fun k => [(2, .v (.bool false)), (3, .v (.int .i64 k))]) (fun _ => []) (fun k => a.length - k) 0 ⟨by omega, fun i hi => by omega⟩ (by refine Cut.of' (0) ?_ (by omega) ?_ ?_ <;> simp (disch := first | omega | simp (disch := omega) only [aF, aL, aN, aM, aBl]) only [aW, aX, aV, aB, aN, aL, aP, aH, aM, aBl, aF, Int.natCast_add, Int.natCast_mul, Int.add_sub_cancel, List.length_nil, Int.cast_ofNat_Int, and_true, true_and]) ?_
  rintro k ⟨hk, hg⟩
  by_cases hlt : k < a.length
  · simp (disch := ((try simp only [List.length_set, List.length_replicate, List.length_append, List.length_cons, List.length_nil]); omega)) only [aW, aX, aV, aB, aN, aL, aP, aH, aM, aBl]
    refine ib_intro (fun h3 => ?_) (fun h3 => ?_)
    · simp (disch := ((try simp only [List.length_set, List.length_replicate, List.length_append, List.length_cons, List.length_nil]); omega)) only [aW, aX, aV, aB, aN, aL, aP, aH, aM, aBl, r_ref12_Same]
      refine post_v ⟨vfalse ?_, rfl⟩
      rintro rfl; exact h3 rfl
    · simp (disch := ((try simp only [List.length_set, List.length_replicate, List.length_append, List.length_cons, List.length_nil]); omega)) only [aW, aX, aV, aB, aN, aL, aP, aH, aM, aBl]
      refine ⟨k + 1, ⟨by omega, fun i hi => ?_⟩, by omega, (by refine Cut.of' (0) ?_ (by omega) ?_ ?_ <;> simp (disch := first | omega | simp (disch := omega) only [aF, aL, aN, aM, aBl]) only [aW, aX, aV, aB, aN, aL, aP, aH, aM, aBl, aF, Int.natCast_add, Int.natCast_mul, Int.add_sub_cancel, List.length_nil, Int.cast_ofNat_Int, and_true, true_and])⟩
      rcases Nat.lt_succ_iff_lt_or_eq.1 hi with h | rfl
      · exact hg i h
      · exact Classical.not_not.1 h3
  · simp (disch := ((try simp only [List.length_set, List.length_replicate, List.length_append, List.length_cons, List.length_nil]); omega)) only [aW, aX, aV, aB, aN, aL, aP, aH, aM, aBl, r_ref12_Same]
    exact post_v ⟨vtrue (eq_getD hlen fun i hi => hg i (by omega)), rfl⟩
end Go.Proofs.Ytbgmhbjfcpddkaa
namespace Go.Proofs.Ytbgmhbjfcpddkaa
open Go Go.Lft
set_option linter.unusedSimpArgs false
set_option linter.unusedVariables false
attribute [local congr] ob_congr bw_congr ib_congr ck_congr iwA_congr itA_congr aw_congr awp_congr sqA_congr bkA_congr vr_congr gd_congr

theorem blE_r1 {b : Bl} {mat : Int} (h : b.id < 1 ∨ 1000000 < b.id ∨ b.mt < 0 ∨ mat ≤ b.mt ∨ b.tm < 0 ∨ 3155759999 < b.tm) : blE b mat = 1 := by unfold blE; rw [if_pos h]
theorem blE_r2 {b : Bl} {mat : Int} (h : ¬ (b.id < 1 ∨ 1000000 < b.id ∨ b.mt < 0 ∨ mat ≤ b.mt ∨ b.tm < 0 ∨ 3155759999 < b.tm)) (h2 : mixE b.mix ≠ 0) : blE b mat = mixE b.mix := by unfold blE; rw [if_neg h, if_pos h2]
theorem blE_r3 {b : Bl} {mat : Int} (h : ¬ (b.id < 1 ∨ 1000000 < b.id ∨ b.mt < 0 ∨ mat ≤ b.mt ∨ b.tm < 0 ∨ 3155759999 < b.tm)) (h2 : mixE b.mix = 0) (h3 : (b.mix.length : Int) ≠ mat) : blE b mat = 18 := by unfold blE; rw [if_neg h, if_neg (by omega), if_pos h3]
theorem blE_r4 {b : Bl} {mat : Int} (h : ¬ (b.id < 1 ∨ 1000000 < b.id ∨ b.mt < 0 ∨ mat ≤ b.mt ∨ b.tm < 0 ∨ 3155759999 < b.tm)) (h2 : mixE b.mix = 0) (h3 : (b.mix.length : Int) = mat) (h4 : b.mix.sum = 0) : blE b mat = 10 := by unfold blE; rw [if_neg h, if_neg (by omega), if_neg (by omega), if_pos h4]
theorem blE_r5 {b : Bl} {mat : Int} (h : ¬ (b.id < 1 ∨ 1000000 < b.id ∨ b.mt < 0 ∨ mat ≤ b.mt ∨ b.tm < 0 ∨ 3155759999 < b.tm)) (h2 : mixE b.mix = 0) (h3 : (b.mix.length : Int) = mat) (h4 : ¬ b.mix.sum = 0) : blE b mat = 0 := by unfold blE; rw [if_neg h, if_neg (by omega), if_neg (by omega), if_neg h4]

theorem moment_vr (x : Int) : VR P false n_bale_moment [.v (.int .i64 x)] [] (isR (.v (.bool (decide (0 ≤ x ∧ x ≤ 3155759999))))) := by
  refine vr_bale_moment (by simp) (.inr rfl) fun _ _ => ?_
  simp (disch := ((try simp only [List.length_set, List.length_replicate, List.length_append, List.length_cons, List.length_nil]); omega)) only [aW, aX, aV, aB, aN, aL, aP, aH, aM, aBl, s_bale_moment, v_bale_moment, r_bale_moment]
  exact post_v ⟨rfl, rfl⟩

theorem one_vr {w : Bool} (b : Bl) (mat : Int) : VR P false n_bale_one [blA w b, .v (.int .i64 mat)] [] (isR (.v (.int .i64 (blE b mat)))) := by
  refine vr_bale_one (by simp) (.inr rfl) fun _ _ => ?_
  have ht := materialTotal_vr (w := w) b.mix
  unfold pairT at ht
  unfold blA blC
  by_cases h1 : b.id < 1 ∨ 1000000 < b.id ∨ b.mt < 0 ∨ mat ≤ b.mt
  · rw [blE_r1 (by omega)]
    simp (disch := ((try simp only [List.length_set, List.length_replicate, List.length_append, List.length_cons, List.length_nil]); omega)) only [aW, aX, aV, aB, aN, aL, aP, aH, aM, aBl, s_bale_one, v_bale_one, r_bale_one]
    exact post_v ⟨rfl, rfl⟩
  simp (disch := ((try simp only [List.length_set, List.length_replicate, List.length_append, List.length_cons, List.length_nil]); omega)) only [aW, aX, aV, aB, aN, aL, aP, aH, aM, aBl, s_bale_one, v_bale_one]
  refine (moment_vr b.tm).same (by simp (disch := first | omega | simp (disch := omega) only [aF, aL, aN, aM, aBl]) only [aW, aX, aV, aB, aN, aL, aP, aH, aM, aBl, aF, Int.natCast_add, Int.natCast_mul, Int.add_sub_cancel, List.length_nil, Int.cast_ofNat_Int, and_true, true_and]) rfl (aret_of ?_)
  by_cases h2 : 0 ≤ b.tm ∧ b.tm ≤ 3155759999
  case neg =>
    rw [blE_r1 (by omega), decide_eq_false h2]
    simp (disch := ((try simp only [List.length_set, List.length_replicate, List.length_append, List.length_cons, List.length_nil]); omega)) only [aW, aX, aV, aB, aN, aL, aP, aH, aM, aBl, r_bale_one]
    exact post_v ⟨rfl, rfl⟩
  rw [decide_eq_true h2]
  have h3 : ¬ (b.id < 1 ∨ 1000000 < b.id ∨ b.mt < 0 ∨ mat ≤ b.mt ∨ b.tm < 0 ∨ 3155759999 < b.tm) := by omega
  simp (disch := ((try simp only [List.length_set, List.length_replicate, List.length_append, List.length_cons, List.length_nil]); omega)) only [aW, aX, aV, aB, aN, aL, aP, aH, aM, aBl]
  refine ht.same (by simp (disch := first | omega | simp (disch := omega) only [aF, aL, aN, aM, aBl]) only [aW, aX, aV, aB, aN, aL, aP, aH, aM, aBl, aF, Int.natCast_add, Int.natCast_mul, Int.add_sub_cancel, List.length_nil, Int.cast_ofNat_Int, and_true, true_and]) (by simp (disch := first | omega | simp (disch := omega) only [aF, aL, aN, aM, aBl]) only [aW, aX, aV, aB, aN, aL, aP, aH, aM, aBl, aF, Int.natCast_add, Int.natCast_mul, Int.add_sub_cancel, List.length_nil, Int.cast_ofNat_Int, and_true, true_and]) (aret_of ?_)
  by_cases h4 : mixE b.mix = 0
  case neg =>
    rw [totM_err h4, blE_r2 h3 h4]
    simp (disch := ((try simp only [List.length_set, List.length_replicate, List.length_append, List.length_cons, List.length_nil]); omega)) only [aW, aX, aV, aB, aN, aL, aP, aH, aM, aBl, r_bale_one]
    exact post_v ⟨rfl, rfl⟩
  rw [totM_ok h4]
  have h5 := (mixE_ok.1 h4).1
  simp (disch := ((try simp only [List.length_set, List.length_replicate, List.length_append, List.length_cons, List.length_nil]); omega)) only [aW, aX, aV, aB, aN, aL, aP, aH, aM, aBl]
  refine ib_intro (fun h6 => ?_) (fun h6 => ?_)
  · rw [blE_r3 h3 h4 h6]
    simp (disch := ((try simp only [List.length_set, List.length_replicate, List.length_append, List.length_cons, List.length_nil]); omega)) only [aW, aX, aV, aB, aN, aL, aP, aH, aM, aBl, r_bale_one]
    exact post_v ⟨rfl, rfl⟩
  simp (disch := ((try simp only [List.length_set, List.length_replicate, List.length_append, List.length_cons, List.length_nil]); omega)) only [aW, aX, aV, aB, aN, aL, aP, aH, aM, aBl]
  refine ib_intro (fun h7 => ?_) (fun h7 => ?_)
  · rw [blE_r4 h3 h4 (by omega) h7]
    simp (disch := ((try simp only [List.length_set, List.length_replicate, List.length_append, List.length_cons, List.length_nil]); omega)) only [aW, aX, aV, aB, aN, aL, aP, aH, aM, aBl, r_bale_one]
    exact post_v ⟨rfl, rfl⟩
  · rw [blE_r5 h3 h4 (by omega) h7]
    simp (disch := ((try simp only [List.length_set, List.length_replicate, List.length_append, List.length_cons, List.length_nil]); omega)) only [aW, aX, aV, aB, aN, aL, aP, aH, aM, aBl, r_bale_one]
    exact post_v ⟨rfl, rfl⟩

theorem baleCheck1_vr {w v : Bool} (c b : Bl) : VR P false n_bale_Check_1 [blA w c, .fp false (blC v b)] [] (isR (.v (.bool (decide (c.id = b.id))))) := by
  refine vr_bale_Check_1 (by simp) (.inr rfl) fun _ _ => ?_
  unfold blA blC
  simp (disch := ((try simp only [List.length_set, List.length_replicate, List.length_append, List.length_cons, List.length_nil]); omega)) only [aW, aX, aV, aB, aN, aL, aP, aH, aM, aBl, s_bale_Check_1, v_bale_Check_1, r_bale_Check_1]
  exact post_v ⟨rfl, rfl⟩
theorem indexBale_vr {w v : Bool} (l : List Bl) (hl : l.length < 1000000000) (b : Bl) : VR P false n_slices_IndexFuncapi_Bale_api_Bale [.fs w (bls w l), .fn n_bale_Check_1 [.fp false (blC v b)]] [] (isR (.v (.int .i64 (idxE (fun c : Bl => c.id = b.id) l)))) := by
  refine vr_slices_IndexFuncapi_Bale_api_Bale (by simp) (.inr rfl) fun _ _ => ?_
  simp (disch := ((try simp only [List.length_set, List.length_replicate, List.length_append, List.length_cons, List.length_nil]); omega)) only [aW, aX, aV, aB, aN, aL, aP, aH, aM, aBl, s_slices_IndexFuncapi_Bale_api_Bale, v_slices_IndexFuncapi_Bale_api_Bale]
  refine AWP.loopP g_slices_IndexFuncapi_Bale_api_Bale_0 (fun k : Nat => k ≤ l.length ∧ ∀ i, i < k → ¬ (l.getD i bl0).id = b.id) (fun k => [(2, .v (.int .i64 0)), (3, .v (.int .i64 k))]) (fun _ => []) (fun k => l.length - k) 0 ⟨by omega, fun i hi => by omega⟩ ?_ ?_
  · exact Cut.of' 0 rfl (by omega) (by simp (disch := first | omega | simp (disch := omega) only [aF, aL, aN, aM, aBl]) only [aW, aX, aV, aB, aN, aL, aP, aH, aM, aBl, aF, Int.natCast_add, Int.natCast_mul, Int.add_sub_cancel, List.length_nil, Int.cast_ofNat_Int, and_true, true_and]) (by unfold blC; simp (disch := first | omega | simp (disch := omega) only [aF, aL, aN, aM, aBl]) only [aW, aX, aV, aB, aN, aL, aP, aH, aM, aBl, aF, Int.natCast_add, Int.natCast_mul, Int.add_sub_cancel, List.length_nil, Int.cast_ofNat_Int, and_true, true_and])
  rintro k ⟨hk, hb⟩
  by_cases hlt : k < l.length
  · simp (disch := ((try simp only [List.length_set, List.length_replicate, List.length_append, List.length_cons, List.length_nil]); omega)) only [aW, aX, aV, aB, aN, aL, aP, aH, aM, aBl]
    refine ⟨by kernel_rfl, ?_⟩
    refine (baleCheck1_vr (w := w) (v := v) (l.getD k bl0) b).same (by unfold blA blC; simp (disch := first | omega | simp (disch := omega) only [aF, aL, aN, aM, aBl]) only [aW, aX, aV, aB, aN, aL, aP, aH, aM, aBl, aF, Int.natCast_add, Int.natCast_mul, Int.add_sub_cancel, List.length_nil, Int.cast_ofNat_Int, and_true, true_and]) rfl (aret_of ?_)
    simp (disch := ((try simp only [List.length_set, List.length_replicate, List.length_append, List.length_cons, List.length_nil]); omega)) only [aW, aX, aV, aB, aN, aL, aP, aH, aM, aBl]
    refine ib_intro (fun h3 => ?_) (fun h3 => ?_)
    · simp (disch := ((try simp only [List.length_set, List.length_replicate, List.length_append, List.length_cons, List.length_nil]); omega)) only [aW, aX, aV, aB, aN, aL, aP, aH, aM, aBl, r_slices_IndexFuncapi_Bale_api_Bale]
      exact post_v ⟨by rw [idxE_hit (p := fun c : Bl => c.id = b.id) bl0 hlt hb h3], rfl⟩
    · simp (disch := ((try simp only [List.length_set, List.length_replicate, List.length_append, List.length_cons, List.length_nil]); omega)) only [aW, aX, aV, aB, aN, aL, aP, aH, aM, aBl]
      refine ⟨k + 1, ⟨by omega, fun i hi => ?_⟩, by omega, ?_⟩
      · rcases Nat.lt_succ_iff_lt_or_eq.1 hi with h | rfl
        · exact hb i h
        · exact h3
      · exact Cut.of' 0 rfl (by omega) (by simp (disch := first | omega | simp (disch := omega) only [aF, aL, aN, aM, aBl]) only [aW, aX, aV, aB, aN, aL, aP, aH, aM, aBl, aF, Int.natCast_add, Int.natCast_mul, Int.add_sub_cancel, List.length_nil, Int.cast_ofNat_Int, and_true, true_and]) (by unfold blC; simp (disch := first | omega | simp (disch := omega) only [aF, aL, aN, aM, aBl]) only [aW, aX, aV, aB, aN, aL, aP, aH, aM, aBl, aF, Int.natCast_add, Int.natCast_mul, Int.add_sub_cancel, List.length_nil, Int.cast_ofNat_Int, and_true, true_and])
  · simp (disch := ((try simp only [List.length_set, List.length_replicate, List.length_append, List.length_cons, List.length_nil]); omega)) only [aW, aX, aV, aB, aN, aL, aP, aH, aM, aBl, r_slices_IndexFuncapi_Bale_api_Bale]
    exact post_v ⟨by rw [idxE_none (p := fun c : Bl => c.id = b.id) bl0 fun i hi => hb i (by omega)], rfl⟩
theorem containsBale_vr {w v : Bool} (l : List Bl) (hl : l.length < 1000000000) (b : Bl) : VR P false n_slices_ContainsFuncapi_Bale_api_Bale [.fs w (bls w l), .fn n_bale_Check_1 [.fp false (blC v b)]] [] (isR (.v (.bool (decide (0 ≤ idxE (fun c : Bl => c.id = b.id) l))))) := by
  refine vr_slices_ContainsFuncapi_Bale_api_Bale (by simp) (.inr rfl) fun _ _ => ?_
  simp (disch := ((try simp only [List.length_set, List.length_replicate, List.length_append, List.length_cons, List.length_nil]); omega)) only [aW, aX, aV, aB, aN, aL, aP, aH, aM, aBl, s_slices_ContainsFuncapi_Bale_api_Bale, v_slices_ContainsFuncapi_Bale_api_Bale]
  refine (indexBale_vr (w := w) (v := v) l hl b).same (by unfold blC; simp (disch := first | omega | simp (disch := omega) only [aF, aL, aN, aM, aBl]) only [aW, aX, aV, aB, aN, aL, aP, aH, aM, aBl, aF, Int.natCast_add, Int.natCast_mul, Int.add_sub_cancel, List.length_nil, Int.cast_ofNat_Int, and_true, true_and]) rfl (aret_of ?_)
  simp (disch := ((try simp only [List.length_set, List.length_replicate, List.length_append, List.length_cons, List.length_nil]); omega)) only [aW, aX, aV, aB, aN, aL, aP, aH, aM, aBl, r_slices_ContainsFuncapi_Bale_api_Bale]
  exact post_v ⟨vdec Iff.rfl, rfl⟩

theorem baleCheck_vr {w : Bool} (l : List Bl) (mat : Int) : VR P false n_bale_Check [.fs w (bls w l), .v (.int .i64 mat)] [] (isR (.v (.int .i64 (blsE l mat)))) := by
  refine vr_bale_Check (by simp) (.inr rfl) fun _ _ => ?_
  simp (disch := ((try simp only [List.length_set, List.length_replicate, List.length_append, List.length_cons, List.length_nil]); omega)) only [aW, aX, aV, aB, aN, aL, aP, aH, aM, aBl, s_bale_Check, v_bale_Check]
  refine ib_intro (fun h1 => ?_) (fun h1 => ?_)
  · rw [blsE_full (by omega)]
    simp (disch := ((try simp only [List.length_set, List.length_replicate, List.length_append, List.length_cons, List.length_nil]); omega)) only [aW, aX, aV, aB, aN, aL, aP, aH, aM, aBl, r_bale_Check]
    exact post_v ⟨rfl, rfl⟩
  simp (disch := ((try simp only [List.length_set, List.length_replicate, List.length_append, List.length_cons, List.length_nil]); omega)) only [aW, aX, aV, aB, aN, aL, aP, aH, aM, aBl]
  refine AWP.loopP g_bale_Check_0 (fun k : Nat => k ≤ l.length ∧ ∀ i, i < k → blE (l.getD i bl0) mat = 0) (fun k => [(2, .v (.int .i64 0)), (3, .v (.int .i64 k))]) (fun _ => []) (fun k => l.length - k) 0 ⟨by omega, fun i hi => by omega⟩ (by refine Cut.of' (0) ?_ (by omega) ?_ ?_ <;> simp (disch := first | omega | simp (disch := omega) only [aF, aL, aN, aM, aBl]) only [aW, aX, aV, aB, aN, aL, aP, aH, aM, aBl, aF, Int.natCast_add, Int.natCast_mul, Int.add_sub_cancel, List.length_nil, Int.cast_ofNat_Int, and_true, true_and]) ?_
  rintro k ⟨hk, hb⟩
  by_cases hlt : k < l.length
  · have h5 := one_vr (w := w) (l.getD k bl0) mat
    unfold blA blC at h5
    simp (disch := ((try simp only [List.length_set, List.length_replicate, List.length_append, List.length_cons, List.length_nil]); omega)) only [aW, aX, aV, aB, aN, aL, aP, aH, aM, aBl]
    refine h5.same (by simp (disch := first | omega | simp (disch := omega) only [aF, aL, aN, aM, aBl]) only [aW, aX, aV, aB, aN, aL, aP, aH, aM, aBl, aF, Int.natCast_add, Int.natCast_mul, Int.add_sub_cancel, List.length_nil, Int.cast_ofNat_Int, and_true, true_and]) rfl (aret_of ?_)
    simp (disch := ((try simp only [List.length_set, List.length_replicate, List.length_append, List.length_cons, List.length_nil]); omega)) only [aW, aX, aV, aB, aN, aL, aP, aH, aM, aBl]
    refine ib_intro (fun h3 => ?_) (fun h3 => ?_)
    · rw [blsE_first (by omega) (by rw [firstE_hit bl0 hlt hb h3]; exact h3), firstE_hit bl0 hlt hb h3]
      simp (disch := ((try simp only [List.length_set, List.length_replicate, List.length_append, List.length_cons, List.length_nil]); omega)) only [aW, aX, aV, aB, aN, aL, aP, aH, aM, aBl, r_bale_Check]
      exact post_v ⟨rfl, rfl⟩
    · simp (disch := ((try simp only [List.length_set, List.length_replicate, List.length_append, List.length_cons, List.length_nil]); omega)) only [aW, aX, aV, aB, aN, aL, aP, aH, aM, aBl]
      refine ⟨k + 1, ⟨by omega, fun i hi => ?_⟩, by omega, (by refine Cut.of' (0) ?_ (by omega) ?_ ?_ <;> simp (disch := first | omega | simp (disch := omega) only [aF, aL, aN, aM, aBl]) only [aW, aX, aV, aB, aN, aL, aP, aH, aM, aBl, aF, Int.natCast_add, Int.natCast_mul, Int.add_sub_cancel, List.length_nil, Int.cast_ofNat_Int, and_true, true_and])⟩
      rcases Nat.lt_succ_iff_lt_or_eq.1 hi with h | rfl
      · exact hb i h
      · exact Classical.not_not.1 h3
  have hke : k = l.length := by omega
  subst hke
  have hf := firstE_none (f := fun b => blE b mat) bl0 hb
  simp (disch := ((try simp only [List.length_set, List.length_replicate, List.length_append, List.length_cons, List.length_nil]); omega)) only [aW, aX, aV, aB, aN, aL, aP, aH, aM, aBl]
  refine AWP.loopP g_bale_Check_1 (fun k : Nat => k ≤ l.length ∧ ∀ i, i < k → ∀ j, j < i → ¬ (l.getD j bl0).id = (l.getD i bl0).id) (fun k => [(2, .v (.int .i64 0)), (9, .v (.int .i64 k))]) (fun _ => []) (fun k => l.length - k) 0 ⟨by omega, fun i hi => by omega⟩ (by refine Cut.of' (0) ?_ (by omega) ?_ ?_ <;> simp (disch := first | omega | simp (disch := omega) only [aF, aL, aN, aM, aBl]) only [aW, aX, aV, aB, aN, aL, aP, aH, aM, aBl, aF, Int.natCast_add, Int.natCast_mul, Int.add_sub_cancel, List.length_nil, Int.cast_ofNat_Int, and_true, true_and]) ?_
  rintro k ⟨hk, hd⟩
  by_cases hlt : k < l.length
  · have h5 := containsBale_vr (w := w) (v := w) (l.take k) (by simp; omega) (l.getD k bl0)
    unfold blC at h5
    have htg : ∀ j, j < k → (l.take k).getD j bl0 = l.getD j bl0 := fun j hj => by simp [List.getD_eq_getElem?_getD, hj]
    have htl : (l.take k).length = k := by simp; omega
    simp (disch := ((try simp only [List.length_set, List.length_replicate, List.length_append, List.length_cons, List.length_nil]); omega)) only [aW, aX, aV, aB, aN, aL, aP, aH, aM, aBl, Int.toNat_natCast]
    refine h5.use ⟨Ld.refl (by simp (disch := first | omega | simp (disch := omega) only [aF, aL, aN, aM, aBl]) only [aW, aX, aV, aB, aN, aL, aP, aH, aM, aBl, aF, Int.natCast_add, Int.natCast_mul, Int.add_sub_cancel, List.length_nil, Int.cast_ofNat_Int, and_true, true_and]), Ld.fn ⟨Ld.lp (o := 0) rfl (LdL.refl (by simp (disch := first | omega | simp (disch := omega) only [aF, aL, aN, aM, aBl]) only [aW, aX, aV, aB, aN, aL, aP, aH, aM, aBl, aF, Int.natCast_add, Int.natCast_mul, Int.add_sub_cancel, List.length_nil, Int.cast_ofNat_Int, and_true, true_and])) (by simp), trivial⟩, trivial⟩ rfl (aret_of ?_)
    simp (disch := ((try simp only [List.length_set, List.length_replicate, List.length_append, List.length_cons, List.length_nil]); omega)) only [aW, aX, aV, aB, aN, aL, aP, aH, aM, aBl]
    refine ib_intro (fun h3 => ?_) (fun h3 => ?_)
    · have h6 := idxE_at (p := fun c : Bl => c.id = (l.getD k bl0).id) bl0 h3
      have h7 := idxE_ge (fun c : Bl => c.id = (l.getD k bl0).id) (l.take k)
      rw [htg _ (by omega)] at h6
      rw [blsE_dup (by omega) hf (dupB_hit hlt (by omega) h6)]
      simp (disch := ((try simp only [List.length_set, List.length_replicate, List.length_append, List.length_cons, List.length_nil]); omega)) only [aW, aX, aV, aB, aN, aL, aP, aH, aM, aBl, r_bale_Check]
      exact post_v ⟨rfl, rfl⟩
    · have h6 := idxE_neg (p := fun c : Bl => c.id = (l.getD k bl0).id) (l := l.take k) (by omega)
      simp (disch := ((try simp only [List.length_set, List.length_replicate, List.length_append, List.length_cons, List.length_nil]); omega)) only [aW, aX, aV, aB, aN, aL, aP, aH, aM, aBl]
      refine ⟨k + 1, ⟨by omega, fun i hi => ?_⟩, by omega, (by refine Cut.of' (0) ?_ (by omega) ?_ ?_ <;> simp (disch := first | omega | simp (disch := omega) only [aF, aL, aN, aM, aBl]) only [aW, aX, aV, aB, aN, aL, aP, aH, aM, aBl, aF, Int.natCast_add, Int.natCast_mul, Int.add_sub_cancel, List.length_nil, Int.cast_ofNat_Int, and_true, true_and])⟩
      rcases Nat.lt_succ_iff_lt_or_eq.1 hi with h | rfl
      · exact hd i h
      · intro j hj
        have := h6 _ (mem_get bl0 (k := j) (by omega))
        rw [htg j hj] at this; exact this
  have hke : k = l.length := by omega
  subst hke
  rw [blsE_ok (by omega) hf (dupB_none hd)]
  simp (disch := ((try simp only [List.length_set, List.length_replicate, List.length_append, List.length_cons, List.length_nil]); omega)) only [aW, aX, aV, aB, aN, aL, aP, aH, aM, aBl, r_bale_Check]
  exact post_v ⟨rfl, rfl⟩

theorem baleTotal_vr {w : Bool} (l : List Bl) (mat : Int) : VR P false n_bale_Total [.fs w (bls w l), .v (.int .i64 mat)] [] (isR (listT (totB l mat))) := by
  refine vr_bale_Total (by simp) (.inr rfl) fun _ _ => ?_
  unfold listT
  simp (disch := ((try simp only [List.length_set, List.length_replicate, List.length_append, List.length_cons, List.length_nil]); omega)) only [aW, aX, aV, aB, aN, aL, aP, aH, aM, aBl, s_bale_Total, v_bale_Total]
  refine ib_intro (fun h1 => ?_) (fun h1 => ?_)
  · have e : totB l mat = ([], 1) := by unfold totB; rw [if_pos h1]
    rw [e]
    simp (disch := ((try simp only [List.length_set, List.length_replicate, List.length_append, List.length_cons, List.length_nil]); omega)) only [aW, aX, aV, aB, aN, aL, aP, aH, aM, aBl, r_bale_Total]
    exact post_err ⟨rfl, rfl⟩
  simp (disch := ((try simp only [List.length_set, List.length_replicate, List.length_append, List.length_cons, List.length_nil]); omega)) only [aW, aX, aV, aB, aN, aL, aP, aH, aM, aBl]
  refine (baleCheck_vr (w := w) l mat).same (by simp (disch := first | omega | simp (disch := omega) only [aF, aL, aN, aM, aBl]) only [aW, aX, aV, aB, aN, aL, aP, aH, aM, aBl, aF, Int.natCast_add, Int.natCast_mul, Int.add_sub_cancel, List.length_nil, Int.cast_ofNat_Int, and_true, true_and]) rfl (aret_of ?_)
  simp (disch := ((try simp only [List.length_set, List.length_replicate, List.length_append, List.length_cons, List.length_nil]); omega)) only [aW, aX, aV, aB, aN, aL, aP, aH, aM, aBl]
  refine ib_intro (fun h2 => ?_) (fun h2 => ?_)
  · have e : totB l mat = ([], blsE l mat) := by unfold totB; rw [if_neg h1, if_pos h2]
    rw [e]
    simp (disch := ((try simp only [List.length_set, List.length_replicate, List.length_append, List.length_cons, List.length_nil]); omega)) only [aW, aX, aV, aB, aN, aL, aP, aH, aM, aBl, r_bale_Total]
    exact post_err ⟨rfl, rfl⟩
  have e : totB l mat = accB l mat.toNat l.length := by unfold totB; rw [if_neg h1, if_neg h2]
  obtain ⟨b1, b2, b3⟩ := blsE_zero (Classical.not_not.1 h2)
  rw [e]
  simp (disch := ((try simp only [List.length_set, List.length_replicate, List.length_append, List.length_cons, List.length_nil]); omega)) only [aW, aX, aV, aB, aN, aL, aP, aH, aM, aBl]
  have z0 : (accB l mat.toNat 0).1 = List.replicate mat.toNat 0 := rfl
  refine AWP.cut (Cut.drop 14) ?_
  have hzf : Fz 0 [⟨0, ints (List.replicate mat.toNat 0)⟩] (.sl 0 0 1 0 mat.toNat) (.fs true (ints (List.replicate mat.toNat 0))) = True := eq_true (fz_slI 0 _ 0 0 _ _ (by omega) (by simp) rfl)
  refine AWP.loopM g_bale_Total_0 (fun k : Nat => k ≤ l.length ∧ (accB l mat.toNat k).2 = 0) (fun k => [(2, .v (.slice none 0 0)), (3, .v (.int .i64 0)), (5, .fs true (ints (accB l mat.toNat k).1)), (6, .v (.int .i64 k))]) (fun _ => []) (fun k => l.length - k) 0 ⟨by omega, rfl⟩ ?_ ?_
  · rw [z0]
    try simp (disch := ((try simp only [List.length_set, List.length_replicate, List.length_append, List.length_cons, List.length_nil]); omega)) only [aW, aX, aV, aB, aN, aL, aP, aH, aM, aBl]
    exact Cut.of' 0 rfl (by omega) (by simp (disch := first | omega | simp (disch := omega) only [aF, aL, aN, aM, aBl]) only [aW, aX, aV, aB, aN, aL, aP, aH, aM, aBl, aF, Int.natCast_add, Int.natCast_mul, Int.add_sub_cancel, List.length_nil, Int.cast_ofNat_Int, and_true, true_and]) (by simp (disch := first | omega | simp (disch := omega) only [aF, aL, aN, aM, aBl]) only [aW, aX, aV, aB, aN, aL, aP, aH, aM, aBl, aF, Int.natCast_add, Int.natCast_mul, Int.add_sub_cancel, List.length_nil, Int.cast_ofNat_Int, and_true, true_and, hzf])
  rintro k ⟨hk, hz⟩
  by_cases hlt : k < l.length
  · have hs := accB_succ l mat.toNat k hlt
    rw [if_neg (by omega)] at hs
    have ha := materialAdd_vr (w := true) (v := w) (accB l mat.toNat k).1 (l.getD k bl0).mix
    rw [← hs] at ha
    unfold listT at ha
    have hn := @addM_nil (accB l mat.toNat k).1 (l.getD k bl0).mix
    rw [← hs] at hn
    have hst := fun h => accB_stay l mat.toNat (k := k + 1) h (j := l.length) (by omega) (Nat.le_refl _)
    simp (disch := ((try simp only [List.length_set, List.length_replicate, List.length_append, List.length_cons, List.length_nil]); omega)) only [aW, aX, aV, aB, aN, aL, aP, aH, aM, aBl]
    refine ha.same (by simp (disch := first | omega | simp (disch := omega) only [aF, aL, aN, aM, aBl]) only [aW, aX, aV, aB, aN, aL, aP, aH, aM, aBl, aF, Int.natCast_add, Int.natCast_mul, Int.add_sub_cancel, List.length_nil, Int.cast_ofNat_Int, and_true, true_and]) (by simp (disch := first | omega | simp (disch := omega) only [aF, aL, aN, aM, aBl]) only [aW, aX, aV, aB, aN, aL, aP, aH, aM, aBl, aF, Int.natCast_add, Int.natCast_mul, Int.add_sub_cancel, List.length_nil, Int.cast_ofNat_Int, and_true, true_and]) (aret_of ?_)
    simp (disch := ((try simp only [List.length_set, List.length_replicate, List.length_append, List.length_cons, List.length_nil]); omega)) only [aW, aX, aV, aB, aN, aL, aP, aH, aM, aBl]
    refine ib_intro (fun h3 => ?_) (fun h3 => ?_)
    · rw [hst h3]
      have e1 : accB l mat.toNat (k + 1) = ([], (accB l mat.toNat (k + 1)).2) := Prod.ext (hn h3) rfl
      rw [e1]
      simp (disch := ((try simp only [List.length_set, List.length_replicate, List.length_append, List.length_cons, List.length_nil]); omega)) only [aW, aX, aV, aB, aN, aL, aP, aH, aM, aBl, r_bale_Total]
      exact post_err ⟨rfl, rfl⟩
    · simp (disch := ((try simp only [List.length_set, List.length_replicate, List.length_append, List.length_cons, List.length_nil]); omega)) only [aW, aX, aV, aB, aN, aL, aP, aH, aM, aBl]
      refine ⟨k + 1, ⟨by omega, by omega⟩, by omega, ?_⟩
      exact Cut.of' 0 rfl (by omega) (by simp (disch := first | omega | simp (disch := omega) only [aF, aL, aN, aM, aBl]) only [aW, aX, aV, aB, aN, aL, aP, aH, aM, aBl, aF, Int.natCast_add, Int.natCast_mul, Int.add_sub_cancel, List.length_nil, Int.cast_ofNat_Int, and_true, true_and]) (by simp (disch := first | omega | simp (disch := omega) only [aF, aL, aN, aM, aBl]) only [aW, aX, aV, aB, aN, aL, aP, aH, aM, aBl, aF, Int.natCast_add, Int.natCast_mul, Int.add_sub_cancel, List.length_nil, Int.cast_ofNat_Int, and_true, true_and])
  have hke : k = l.length := by omega
  subst hke
  simp (disch := ((try simp only [List.length_set, List.length_replicate, List.length_append, List.length_cons, List.length_nil]); omega)) only [aW, aX, aV, aB, aN, aL, aP, aH, aM, aBl, r_bale_Total, hz]
  exact post0 (Fz.refl (by simp (disch := first | omega | simp (disch := omega) only [aF, aL, aN, aM, aBl]) only [aW, aX, aV, aB, aN, aL, aP, aH, aM, aBl, aF, Int.natCast_add, Int.natCast_mul, Int.add_sub_cancel, List.length_nil, Int.cast_ofNat_Int, and_true, true_and])) ⟨rfl, rfl⟩

end Go.Proofs.Ytbgmhbjfcpddkaa
namespace Go.Proofs.Ytbgmhbjfcpddkaa
open Go Go.Lft
set_option linter.unusedSimpArgs false
set_option linter.unusedVariables false
attribute [local congr] ob_congr bw_congr ib_congr ck_congr iwA_congr itA_congr aw_congr awp_congr sqA_congr bkA_congr vr_congr gd_congr

/-- The library divides each product. -/
def DivOk (t : Int) (ws : List Int) : Prop := 0 < ws.sum → ∀ i, i < ws.length → VR P false n_bits_Div64 [.v (.int .u64 (t * ws.getD i 0 / 18446744073709551616)), .v (.int .u64 (IntKind.wrap .u64 (t * ws.getD i 0))), .v (.int .u64 ws.sum)] [] (isR (.tup [.v (.int .u64 (t * ws.getD i 0 / ws.sum)), .v (.int .u64 (t * ws.getD i 0 % ws.sum))]))
theorem divOk_small {t : Int} {ws : List Int} (h : SplitOk t ws) (hs : ∀ i, i < ws.length → t * ws.getD i 0 ≤ 18446744073709551615) : DivOk t ws := fun hp i hi => by
  have h1 := hs i hi
  have h2 : 0 ≤ t * ws.getD i 0 := Int.mul_nonneg h.t0.1 (w_le h hi).1
  have := h.sum
  rw [show t * ws.getD i 0 / 18446744073709551616 = 0 by omega, wrap_u64 h2 h1]
  exact div64_small _ _ ⟨h2, h1⟩ ⟨hp, by omega⟩

theorem shareSplitO_vr {w : Bool} (t : Int) (ws : List Int) (hd : splitE t ws = 0 → DivOk t ws) : VR P false n_share_Split [.v (.int .i64 t), .fs w (ints ws)] [] (SplitO t ws) := by
  refine vr_share_Split (by simp) (.inr rfl) fun _ _ => ?_
  simp (disch := ((try simp only [List.length_set, List.length_replicate, List.length_append, List.length_cons, List.length_nil]); omega)) only [aW, aX, aV, aB, aN, aL, aP, aH, s_share_Split, v_share_Split]
  refine ib_intro (fun h1 => ?_) (fun h1 => ?_)
  · simp (disch := ((try simp only [List.length_set, List.length_replicate, List.length_append, List.length_cons, List.length_nil]); omega)) only [aW, aX, aV, aB, aN, aL, aP, aH, r_share_Split]
    exact post_err (.inl ⟨by rw [sp_err h1]; decide, by rw [sp_err h1], rfl⟩)
  simp (disch := ((try simp only [List.length_set, List.length_replicate, List.length_append, List.length_cons, List.length_nil]); omega)) only [aW, aX, aV, aB, aN, aL, aP, aH]
  refine (weighed_vr (w := w) ws).same (by simp (disch := first | omega | simp (disch := omega) only [aF, aL, aN]) only [aW, aX, aV, aB, aN, aL, aP, aH, aF, Int.natCast_add, Int.natCast_mul, Int.add_sub_cancel, List.length_nil, Int.cast_ofNat_Int, and_true, true_and]) rfl (aret_of ?_)
  unfold pairT
  simp (disch := ((try simp only [List.length_set, List.length_replicate, List.length_append, List.length_cons, List.length_nil]); omega)) only [aW, aX, aV, aB, aN, aL, aP, aH]
  refine ib_intro (fun h2 => ?_) (fun h2 => ?_)
  · simp (disch := ((try simp only [List.length_set, List.length_replicate, List.length_append, List.length_cons, List.length_nil]); omega)) only [aW, aX, aV, aB, aN, aL, aP, aH, r_share_Split]
    exact post_err (.inl ⟨by rw [sp_we h1 h2]; exact h2, by rw [sp_we h1 h2], rfl⟩)
  simp (disch := ((try simp only [List.length_set, List.length_replicate, List.length_append, List.length_cons, List.length_nil]); omega)) only [aW, aX, aV, aB, aN, aL, aP, aH]
  refine ib_intro (fun h3 => ?_) (fun h3 => ?_)
  · simp (disch := ((try simp only [List.length_set, List.length_replicate, List.length_append, List.length_cons, List.length_nil]); omega)) only [aW, aX, aV, aB, aN, aL, aP, aH, r_share_Split]
    exact post_err (.inl ⟨by rw [sp_empty h1 h2 h3]; decide, by rw [sp_empty h1 h2 h3], rfl⟩)
  obtain ⟨e0, e1⟩ := sp_ok h1 h2 h3
  have hd := hd e0
  have ok := splitE_ok e0
  obtain ⟨t0, t1⟩ := ok.t0
  obtain ⟨n0, n1⟩ := ok.len
  have hws := ok.sum
  have hl := quos_len t ws
  have hl2 := rems_len t ws
  have hlb := left_bd ok.sp
  rw [ok.we]
  simp (disch := ((try simp only [List.length_set, List.length_replicate, List.length_append, List.length_cons, List.length_nil]); omega)) only [aW, aX, aV, aB, aN, aL, aP, aH]
  refine AWP.loopP (α := Nat) g_share_Split_0 (fun k => k ≤ ws.length) (fun k => [(8, .v (.int .i64 (t - sumK (quos t ws) k))), (9, .v (.int .i64 k))]) (fun k => [(0, ⟨0, ints (frontQ t ws k)⟩), (1, ⟨0, ints (frontR t ws k)⟩), (2, ⟨0, ints (frontO ws.length k)⟩)]) (fun k => ws.length - k) 0 (by omega) ?_ ?_
  · have z1 : frontQ t ws 0 = List.replicate ws.length 0 := by simp [frontQ]
    have z2 : frontR t ws 0 = List.replicate ws.length 0 := by simp [frontR]
    have z3 : frontO ws.length 0 = List.replicate ws.length 0 := by simp [frontO, rng]
    simp only [z1, z2, z3, sumK_zero, Int.sub_zero]
    try simp (disch := ((try simp only [List.length_set, List.length_replicate, List.length_append, List.length_cons, List.length_nil]); omega)) only [aW, aX, aV, aB, aN, aL, aP, aH]
    exact Cut.of' 4 rfl (by omega) (by simp (disch := first | omega | simp (disch := omega) only [aF, aL, aN]) only [aW, aX, aV, aB, aN, aL, aP, aH, aF, Int.natCast_add, Int.natCast_mul, Int.add_sub_cancel, List.length_nil, Int.cast_ofNat_Int, and_true, true_and]) (by simp (disch := first | omega | simp (disch := omega) only [aF, aL, aN]) only [aW, aX, aV, aB, aN, aL, aP, aH, aF, Int.natCast_add, Int.natCast_mul, Int.add_sub_cancel, List.length_nil, Int.cast_ofNat_Int, and_true, true_and])
  rintro k hk
  have hsb := sumQ_bd ok k hk
  have f1 : (frontQ t ws k).length = ws.length := front_len _ _ _ hl hk
  have f2 : (frontR t ws k).length = ws.length := front_len _ _ _ hl2 hk
  have f3 : (frontO ws.length k).length = ws.length := by rw [frontO_eq _ _ hk]; exact front_len _ _ _ (rng_len _ _) hk
  by_cases hlt : k < ws.length
  · have hsb1 := sumQ_bd ok (k + 1) (by omega)
    have hs1 := sumK_succ (quos t ws) k (by omega)
    have g1 : (quos t ws).getD k 0 = t * ws.getD k 0 / ws.sum := getD_map _ _ _ hlt
    have g2 : (rems t ws).getD k 0 = t * ws.getD k 0 % ws.sum := getD_map _ _ _ hlt
    rw [g1] at hs1
    have u1 : (frontQ t ws k).set k (t * ws.getD k 0 / ws.sum) = frontQ t ws (k + 1) := front_set _ _ _ _ hl hlt g1.symm
    have u2 : (frontR t ws k).set k (t * ws.getD k 0 % ws.sum) = frontR t ws (k + 1) := front_set _ _ _ _ hl2 hlt g2.symm
    have u3 : (frontO ws.length k).set k (k : Int) = frontO ws.length (k + 1) := by
      rw [frontO_eq _ _ hk, frontO_eq _ _ (by omega)]
      exact front_set _ _ _ _ (rng_len _ _) hlt (by rw [rng_get _ _ _ hlt, Nat.zero_add])
    have f1' : (frontQ t ws (k + 1)).length = ws.length := front_len _ _ _ hl (by omega)
    have u4 : (frontQ t ws (k + 1)).getD k 0 = t * ws.getD k 0 / ws.sum := by
      rw [← u1, getD_seti, if_pos ⟨rfl, by omega⟩]
    have hwl := w_le ok hlt
    have hqr := q_le ok hlt
    have hrr := r_le ok hlt
    have sa : (t - sumK (quos t ws) k) - t * ws.getD k 0 / ws.sum = t - sumK (quos t ws) (k + 1) := by omega
    simp (disch := ((try simp only [List.length_set, List.length_replicate, List.length_append, List.length_cons, List.length_nil]); omega)) only [aW, aX, aV, aB, aN, aL, aP, aH, Int.toNat_natCast, u3]
    refine ib_intro (fun h4 => ?_) (fun h4 => ?_)
    · have hdk := hd (by omega) k hlt
      simp (disch := ((try simp only [List.length_set, List.length_replicate, List.length_append, List.length_cons, List.length_nil]); omega)) only [aW, aX, aV, aB, aN, aL, aP, aH, wrap_u64]
      refine (mul64_vr t (ws.getD k 0) ⟨t0, by omega⟩ ⟨hwl.1, by omega⟩).same (by simp (disch := first | omega | simp (disch := omega) only [aF, aL, aN]) only [aW, aX, aV, aB, aN, aL, aP, aH, aF, Int.natCast_add, Int.natCast_mul, Int.add_sub_cancel, List.length_nil, Int.cast_ofNat_Int, and_true, true_and]) rfl (aret_of ?_)
      simp (disch := ((try simp only [List.length_set, List.length_replicate, List.length_append, List.length_cons, List.length_nil]); omega)) only [aW, aX, aV, aB, aN, aL, aP, aH, wrap_u64]
      refine hdk.same (by simp (disch := first | omega | simp (disch := omega) only [aF, aL, aN]) only [aW, aX, aV, aB, aN, aL, aP, aH, aF, Int.natCast_add, Int.natCast_mul, Int.add_sub_cancel, List.length_nil, Int.cast_ofNat_Int, and_true, true_and]) rfl (aret_of ?_)
      simp (disch := ((try simp only [List.length_set, List.length_replicate, List.length_append, List.length_cons, List.length_nil]); omega)) only [aW, aX, aV, aB, aN, aL, aP, aH, Int.toNat_natCast, u1, u2, u4, sa]
      refine ⟨?_, ?_⟩
      all_goals
        refine ⟨k + 1, by omega, by omega, ?_⟩
        exact Cut.of' 4 rfl (by omega) (by simp (disch := first | omega | simp (disch := omega) only [aF, aL, aN]) only [aW, aX, aV, aB, aN, aL, aP, aH, aF, Int.natCast_add, Int.natCast_mul, Int.add_sub_cancel, List.length_nil, Int.cast_ofNat_Int, and_true, true_and]) (by simp (disch := first | omega | simp (disch := omega) only [aF, aL, aN]) only [aW, aX, aV, aB, aN, aL, aP, aH, aF, Int.natCast_add, Int.natCast_mul, Int.add_sub_cancel, List.length_nil, Int.cast_ofNat_Int, and_true, true_and])
    · have hz : ws.sum = 0 := by omega
      have z1 : t * ws.getD k 0 / ws.sum = 0 := by rw [hz, Int.ediv_zero]
      have z2 : t * ws.getD k 0 % ws.sum = 0 := by rw [hz, ok.pos hz]; simp
      rw [z1] at sa u1
      rw [z2] at u2
      have u5 : (frontQ t ws k).getD k 0 = 0 := front_get _ _ _ hl hlt
      have v1 : (frontQ t ws k).set k 0 = frontQ t ws k := eq_getD (by simp) fun i hi => by
        rw [getD_seti]; split
        · rename_i h; rw [← h.1, u5]
        · rfl
      have v2 : (frontR t ws k).set k 0 = frontR t ws k := eq_getD (by simp) fun i hi => by
        rw [getD_seti]; split
        · rename_i h; rw [← h.1]; exact (front_get _ _ _ hl2 hlt).symm
        · rfl
      rw [v1] at u1
      rw [v2] at u2
      simp (disch := ((try simp only [List.length_set, List.length_replicate, List.length_append, List.length_cons, List.length_nil]); omega)) only [aW, aX, aV, aB, aN, aL, aP, aH, Int.toNat_natCast, u5, sa]
      refine ⟨k + 1, by omega, by omega, ?_⟩
      rw [← u1, ← u2]
      exact Cut.of' 4 rfl (by omega) (by simp (disch := first | omega | simp (disch := omega) only [aF, aL, aN]) only [aW, aX, aV, aB, aN, aL, aP, aH, aF, Int.natCast_add, Int.natCast_mul, Int.add_sub_cancel, List.length_nil, Int.cast_ofNat_Int, and_true, true_and]) (by simp (disch := first | omega | simp (disch := omega) only [aF, aL, aN]) only [aW, aX, aV, aB, aN, aL, aP, aH, aF, Int.natCast_add, Int.natCast_mul, Int.add_sub_cancel, List.length_nil, Int.cast_ofNat_Int, and_true, true_and])
  · have hke : k = ws.length := by omega
    subst hke
    have tq : frontQ t ws ws.length = quos t ws := by
      unfold frontQ; rw [List.take_of_length_le (by omega), Nat.sub_self]; simp
    have tr : frontR t ws ws.length = rems t ws := by
      unfold frontR; rw [List.take_of_length_le (by omega), Nat.sub_self]; simp
    have to : frontO ws.length ws.length = rng 0 ws.length := by
      unfold frontO; rw [Nat.sub_self]; simp
    have sq : sumK (quos t ws) ws.length = (quos t ws).sum := by rw [← hl, sumK_all]
    have hlN : t - (quos t ws).sum = (leftN t ws : Nat) := by unfold leftN; omega
    have hln : leftN t ws < ws.length := by omega
    have hQ : QOk (rems t ws) := fun i hi => by
      rw [show (rems t ws).getD i 0 = t * ws.getD i 0 % ws.sum from getD_map _ _ _ (by omega)]
      exact r_le ok (by omega)
    have hs := sortStable_vr (p := quos t ws) hQ (by omega)
    unfold HS at hs
    rw [hl2] at hs
    have hpb : ∀ i, i < (quos t ws).length → 0 ≤ (quos t ws).getD i 0 ∧ (quos t ws).getD i 0 ≤ 70368744177664 := fun i hi => by
      rw [show (quos t ws).getD i 0 = t * ws.getD i 0 / ws.sum from getD_map _ _ _ (by omega)]
      have := q_le ok (i := i) (by omega); omega
    rw [tq, tr, to, sq, hlN]
    clear f1 f2 f3 hsb
    simp (disch := ((try simp only [List.length_set, List.length_replicate, List.length_append, List.length_cons, List.length_nil]); omega)) only [aW, aX, aV, aB, aN, aL, aP, aH]
    refine hs.mono ?_
    rintro r H' ⟨rfl, T, T1, T2, T3, rfl⟩
    refine aret_of ?_
    have hsrt := rd_sorted (p0 := quos t ws) (q0 := rems t ws) (T := T) (by omega) (fun i hi => (hQ i hi).1) (by omega) (by rw [hl2]; exact T2) T3
    have hrb := rd_bound (q0 := rems t ws) hpb
    simp (disch := ((try simp only [List.length_set, List.length_replicate, List.length_append, List.length_cons, List.length_nil]); omega)) only [aW, aX, aV, aB, aN, aL, aP, aH]
    refine AWP.loopP (α := Nat) g_share_Split_1 (fun j => j ≤ leftN t ws) (fun j => [(20, .v (.int .i64 j))]) (fun j => [(0, ⟨0, ints (incs (quos t ws) (T.take j))⟩)]) (fun j => leftN t ws - j) 0 (Nat.zero_le _) ?_ ?_
    · simp only [List.take_zero, incs, List.foldl_nil]
      exact Cut.of' 4 rfl (by omega) (by simp (disch := first | omega | simp (disch := omega) only [aF, aL, aN]) only [aW, aX, aV, aB, aN, aL, aP, aH, aF, Int.natCast_add, Int.natCast_mul, Int.add_sub_cancel, List.length_nil, Int.cast_ofNat_Int, and_true, true_and]) (by simp (disch := first | omega | simp (disch := omega) only [aF, aL, aN]) only [aW, aX, aV, aB, aN, aL, aP, aH, aF, Int.natCast_add, Int.natCast_mul, Int.add_sub_cancel, List.length_nil, Int.cast_ofNat_Int, and_true, true_and])
    rintro j hj
    have il := incs_len (quos t ws) (T.take j)
    by_cases hjl : j < leftN t ws
    · have hx := T2 _ (mem_getD (l := T) (i := j) (by omega))
      have his := incs_succ (quos t ws) T j (by omega)
      have hb := hrb j (T.getD j 0).toNat (by omega)
      rw [(hsrt j (by omega)).1] at hb
      unfold inc at his
      simp (disch := ((try simp only [List.length_set, List.length_replicate, List.length_append, List.length_cons, List.length_nil]); omega)) only [aW, aX, aV, aB, aN, aL, aP, aH, Int.toNat_natCast]
      refine ⟨j + 1, by omega, by omega, ?_⟩
      rw [his]
      exact Cut.of' 4 rfl (by omega) (by simp (disch := first | omega | simp (disch := omega) only [aF, aL, aN]) only [aW, aX, aV, aB, aN, aL, aP, aH, aF, Int.natCast_add, Int.natCast_mul, Int.add_sub_cancel, List.length_nil, Int.cast_ofNat_Int, and_true, true_and]) (by simp (disch := first | omega | simp (disch := omega) only [aF, aL, aN]) only [aW, aX, aV, aB, aN, aL, aP, aH, aF, Int.natCast_add, Int.natCast_mul, Int.add_sub_cancel, List.length_nil, Int.cast_ofNat_Int, and_true, true_and])
    · have hje : j = leftN t ws := by omega
      subst hje
      have hpR : partsR t ws = incs (quos t ws) (T.take (leftN t ws)) := (hsrt _ (by omega)).1
      simp (disch := ((try simp only [List.length_set, List.length_replicate, List.length_append, List.length_cons, List.length_nil]); omega)) only [aW, aX, aV, aB, aN, aL, aP, aH, r_share_Split]
      exact ⟨.tup [.sl 0 0 1 0 ws.length, .v (.int .i64 0)], [⟨0, ints (partsR t ws)⟩], Cut.of' 1 rfl (by omega) ⟨rfl, by rw [hpR]; exact FzL.refl (ii_bd _ _), trivial⟩ ⟨Fz.refl rfl, trivial⟩, .inr ⟨by rw [e1], 0, rfl, rfl⟩⟩
theorem shareSplit_vr {w : Bool} (t : Int) (ws : List Int) (hd : splitE t ws = 0 → DivOk t ws) : VR P false n_share_Split [.v (.int .i64 t), .fs w (ints ws)] [] (isR (listT (splitV t ws))) := (shareSplitO_vr t ws hd).cut SplitO.fz
end Go.Proofs.Ytbgmhbjfcpddkaa
namespace Go.Proofs.Ytbgmhbjfcpddkaa
open Go Go.Lft
set_option linter.unusedSimpArgs false
set_option linter.unusedVariables false

def subM (a b : List Int) : List Int := (List.range a.length).map fun i => a.getD i 0 - b.getD i 0
theorem subM_len (a b : List Int) : (subM a b).length = a.length := by simp [subM]
theorem subM_get (a b : List Int) (i : Nat) (h : i < a.length) : (subM a b).getD i 0 = a.getD i 0 - b.getD i 0 := by simp [subM, List.getD_eq_getElem?_getD, h]
theorem sum_subM : ∀ (a b : List Int), a.length = b.length → (subM a b).sum = a.sum - b.sum
  | [], [], _ => by simp [subM]
  | x :: a, y :: b, h => by
    have ih := sum_subM a b (by simpa using h)
    have e : subM (x :: a) (y :: b) = (x - y) :: subM a b := by
      simp [subM, List.range_succ_eq_map]
    rw [e, List.sum_cons, ih, List.sum_cons, List.sum_cons]; omega
  | [], _ :: _, h => by simp at h
  | _ :: _, [], h => by simp at h
theorem splitE_mix {t : Int} {ws : List Int} (h : mixE ws = 0) (ht : 0 < t ∧ t ≤ ws.sum) : splitE t ws = 0 := by
  have h1 := sum_mix h
  have hl := (mixE_ok.1 h).1
  have hne : ws.length ≠ 0 := fun hc => by
    rw [List.eq_nil_of_length_eq_zero hc] at ht; simp at ht; omega
  have h2 : weighE ws = (ws.sum, 0) := by
    rw [weigh_sum (by omega) (by
      rintro ⟨i, hi, h2⟩
      have := mixE_get h i hi
      unfold badW at h2; omega), if_pos (by omega)]
  unfold splitE
  rw [h2, if_neg (by omega), if_neg (by simp), if_neg (by simp; omega)]
/-- A part of a mix is no more than what is there. -/
theorem parts_le {t : Int} {ws p : List Int} (h : SpR t ws p) (hw : ∀ i, i < ws.length → 0 ≤ ws.getD i 0) (ht : 0 < t ∧ t ≤ ws.sum) {i : Nat} (hi : i < ws.length) : 0 ≤ p.getD i 0 ∧ p.getD i 0 ≤ ws.getD i 0 := by
  have h0 := hw i hi
  have hW : 0 < ws.sum := by omega
  have h1 : 0 ≤ t * ws.getD i 0 := Int.mul_nonneg (by omega) h0
  have h2 : t * ws.getD i 0 ≤ ws.sum * ws.getD i 0 := Int.mul_le_mul_of_nonneg_right ht.2 h0
  have h3 := Int.mul_ediv_add_emod (t * ws.getD i 0) ws.sum
  have h4 := Int.emod_nonneg (t * ws.getD i 0) (show ws.sum ≠ 0 by omega)
  have h5 : 0 ≤ t * ws.getD i 0 / ws.sum := Int.ediv_nonneg h1 (by omega)
  have h8 := h.two i hi
  generalize t * ws.getD i 0 / ws.sum = q at *
  generalize t * ws.getD i 0 % ws.sum = r at *
  generalize t * ws.getD i 0 = m at *
  rcases h8 with h6 | ⟨h6, h7⟩
  · refine ⟨by omega, ?_⟩
    rw [h6]
    exact Int.le_of_mul_le_mul_left (a := ws.sum) (by omega) hW
  · refine ⟨by omega, ?_⟩
    have : q < ws.getD i 0 := Int.lt_of_mul_lt_mul_left (a := ws.sum) (by omega) (by omega)
    omega

/-- What is left before each bale. -/
def leftP (xs : List Int) (size : Int) : Nat → List Int
  | 0 => xs
  | k + 1 => subM (leftP xs size k) (partsR size (leftP xs size k))
structure LeftI (xs : List Int) (size : Int) (k : Nat) : Prop where
  mix : mixE (leftP xs size k) = 0
  len : (leftP xs size k).length = xs.length
  sum : (leftP xs size k).sum = xs.sum - k * size
theorem left_parts {xs : List Int} {size : Int} {k : Nat} (h : LeftI xs size k) (hs : 1 ≤ size) (hk : (k + 1) * size ≤ xs.sum) :
    splitE size (leftP xs size k) = 0 ∧ SpR size (leftP xs size k) (partsR size (leftP xs size k)) ∧ ∀ i, i < xs.length → 0 ≤ (partsR size (leftP xs size k)).getD i 0 ∧ (partsR size (leftP xs size k)).getD i 0 ≤ (leftP xs size k).getD i 0 := by
  have h1 := h.sum
  have h2 : ((k : Int) + 1) * size = k * size + size := by rw [Int.add_mul, Int.one_mul]
  have ht : 0 < size ∧ size ≤ (leftP xs size k).sum := by omega
  have e := splitE_mix h.mix ht
  have sp := partsR_ok (splitE_ok e).sp
  exact ⟨e, sp, fun i hi => parts_le sp (fun i hi => (mixE_get h.mix i hi).1) ht (by rw [h.len]; exact hi)⟩
theorem left_inv {xs : List Int} {size : Int} (hm : mixE xs = 0) (hs : 1 ≤ size) : ∀ k : Nat, k * size ≤ xs.sum → LeftI xs size k
  | 0, _ => ⟨hm, rfl, by simp [leftP]⟩
  | k + 1, hk => by
    have hk' : ((k : Int) + 1) * size ≤ xs.sum := by simpa using hk
    have h2 : ((k : Int) + 1) * size = k * size + size := by rw [Int.add_mul, Int.one_mul]
    have ih := left_inv hm hs k (by omega)
    obtain ⟨e, sp, hp⟩ := left_parts ih hs hk'
    have hl := ih.len
    have hpl := sp.len
    have hps := sp.sum
    have hg := mixE_get ih.mix
    have hle := (mixE_ok.1 ih.mix).1
    have hsum := ih.sum
    refine ⟨mixE_ok.2 ⟨?_, fun x hx => ?_⟩, ?_, ?_⟩
    · show (subM _ _).length ≤ 16
      rw [subM_len]; exact hle
    · obtain ⟨i, hi, rfl⟩ := get_mem 0 (show x ∈ subM (leftP xs size k) (partsR size (leftP xs size k)) from hx)
      rw [subM_len] at hi
      have h3 := hp i (by omega)
      have h4 := hg i hi
      rw [subM_get _ _ _ hi]; omega
    · show (subM _ _).length = _
      rw [subM_len]; exact hl
    · show (subM _ _).sum = _
      rw [sum_subM _ _ hpl.symm, hsum, hps]
      push_cast; omega
def baleP (xs : List Int) (size kind first tm : Int) (i : Nat) : Bl := ⟨first + i, kind, tm, partsR size (leftP xs size i)⟩
def balesP (xs : List Int) (size kind first tm : Int) (n : Nat) : List Bl := (List.range n).map (baleP xs size kind first tm)
theorem balesP_len (xs : List Int) (size kind first tm : Int) (n : Nat) : (balesP xs size kind first tm n).length = n := by simp [balesP]
theorem balesP_get (xs : List Int) (size kind first tm : Int) (n i : Nat) (h : i < n) : (balesP xs size kind first tm n).getD i bl0 = baleP xs size kind first tm i := by simp [balesP, List.getD_eq_getElem?_getD, h]
theorem balesP_succ (xs : List Int) (size kind first tm : Int) (n : Nat) : balesP xs size kind first tm (n + 1) = balesP xs size kind first tm n ++ [baleP xs size kind first tm n] := by simp [balesP, List.range_succ]
def pressN (xs : List Int) (size : Int) : Nat := (xs.sum / size).toNat
def pressE (xs : List Int) (size kind first tm : Int) : Int :=
  if mixE xs ≠ 0 then mixE xs else if size < 1 ∨ 1073741824 < size ∨ kind < 0 ∨ (xs.length : Int) ≤ kind ∨ first < 1 ∨ 1000000 < first ∨ tm < 0 ∨ 3155759999 < tm then 1
  else if 64 < xs.sum / size then 8 else if 0 < xs.sum / size ∧ 1000000 < first + xs.sum / size - 1 then 2 else 0
def pressV (xs : List Int) (size kind first tm : Int) : List Bl × List Int × Int :=
  if pressE xs size kind first tm ≠ 0 then ([], [], pressE xs size kind first tm) else (balesP xs size kind first tm (pressN xs size), leftP xs size (pressN xs size), 0)
structure PressOk (xs : List Int) (size kind first tm : Int) : Prop where
  mix : mixE xs = 0
  s1 : 1 ≤ size
  s2 : size ≤ 1073741824
  k1 : 0 ≤ kind
  k2 : kind < xs.length
  f1 : 1 ≤ first
  f2 : first ≤ 1000000
  t1 : 0 ≤ tm
  t2 : tm ≤ 3155759999
  n1 : xs.sum / size = pressN xs size
  n2 : pressN xs size ≤ 64
  n3 : first + pressN xs size ≤ 1000001
  n4 : pressN xs size * size ≤ xs.sum
  n5 : xs.sum < (pressN xs size + 1) * size
theorem div_facts {s z : Int} (h : 0 ≤ s) (hz : 1 ≤ z) : 0 ≤ s / z ∧ s / z * z ≤ s ∧ s < (s / z + 1) * z := by
  have h3 := Int.mul_ediv_add_emod s z
  have h4 := Int.emod_nonneg s (show z ≠ 0 by omega)
  have h5 := Int.emod_lt_of_pos s (show 0 < z by omega)
  have e : z * (s / z) = s / z * z := Int.mul_comm _ _
  refine ⟨Int.ediv_nonneg h (by omega), by omega, by rw [Int.add_mul, Int.one_mul]; omega⟩
theorem press_ok {xs : List Int} {size kind first tm : Int} (h1 : mixE xs = 0) (h2 : ¬ (size < 1 ∨ 1073741824 < size ∨ kind < 0 ∨ (xs.length : Int) ≤ kind ∨ first < 1 ∨ 1000000 < first ∨ tm < 0 ∨ 3155759999 < tm)) (h3 : ¬ 64 < xs.sum / size) (h4 : ¬ 1000000 < first + xs.sum / size - 1) : pressE xs size kind first tm = 0 ∧ PressOk xs size kind first tm := by
  have hs := sum_mix h1
  obtain ⟨d1, d2, d3⟩ := div_facts hs.1 (show 1 ≤ size by omega)
  have hn : xs.sum / size = pressN xs size := by unfold pressN; omega
  rw [hn] at d2 d3 h3 h4
  refine ⟨?_, ⟨h1, by omega, by omega, by omega, by omega, by omega, by omega, by omega, by omega, hn, by omega, by omega, d2, d3⟩⟩
  unfold pressE
  rw [if_neg (by omega), if_neg h2, if_neg (by omega), if_neg (by omega)]
theorem pressE_ok {xs : List Int} {size kind first tm : Int} (h : pressE xs size kind first tm = 0) : PressOk xs size kind first tm := by
  unfold pressE at h
  split at h
  · contradiction
  rename_i h1
  split at h
  · cases h
  rename_i h2
  split at h
  · cases h
  rename_i h3
  split at h
  · cases h
  rename_i h4
  refine (press_ok (Classical.not_not.1 h1) h2 h3 ?_).2
  intro hc
  by_cases h0 : 0 < xs.sum / size
  · exact h4 ⟨h0, hc⟩
  · omega
theorem press_e1 {xs : List Int} {size kind first tm : Int} (h1 : mixE xs ≠ 0) : pressV xs size kind first tm = ([], [], mixE xs) := by
  have e : pressE xs size kind first tm = mixE xs := by unfold pressE; rw [if_pos h1]
  unfold pressV; rw [e, if_pos h1]
theorem press_e2 {xs : List Int} {size kind first tm : Int} (h1 : mixE xs = 0) (h2 : size < 1 ∨ 1073741824 < size ∨ kind < 0 ∨ (xs.length : Int) ≤ kind ∨ first < 1 ∨ 1000000 < first ∨ tm < 0 ∨ 3155759999 < tm) : pressV xs size kind first tm = ([], [], 1) := by
  have e : pressE xs size kind first tm = 1 := by unfold pressE; rw [if_neg (by omega), if_pos h2]
  unfold pressV; rw [e, if_pos (by omega)]
theorem press_e3 {xs : List Int} {size kind first tm : Int} (h1 : mixE xs = 0) (h2 : ¬ (size < 1 ∨ 1073741824 < size ∨ kind < 0 ∨ (xs.length : Int) ≤ kind ∨ first < 1 ∨ 1000000 < first ∨ tm < 0 ∨ 3155759999 < tm)) (h3 : 64 < xs.sum / size) : pressV xs size kind first tm = ([], [], 8) := by
  have e : pressE xs size kind first tm = 8 := by unfold pressE; rw [if_neg (by omega), if_neg h2, if_pos h3]
  unfold pressV; rw [e, if_pos (by omega)]
theorem press_e4 {xs : List Int} {size kind first tm : Int} (h1 : mixE xs = 0) (h2 : ¬ (size < 1 ∨ 1073741824 < size ∨ kind < 0 ∨ (xs.length : Int) ≤ kind ∨ first < 1 ∨ 1000000 < first ∨ tm < 0 ∨ 3155759999 < tm)) (h3 : ¬ 64 < xs.sum / size) (h4 : 1000000 < first + xs.sum / size - 1) : pressV xs size kind first tm = ([], [], 2) := by
  have hs := sum_mix h1
  obtain ⟨d1, d2, d3⟩ := div_facts hs.1 (show 1 ≤ size by omega)
  have e : pressE xs size kind first tm = 2 := by unfold pressE; rw [if_neg (by omega), if_neg h2, if_neg h3, if_pos ⟨by omega, h4⟩]
  unfold pressV; rw [e, if_pos (by omega)]
theorem press_v {xs : List Int} {size kind first tm : Int} (h : pressE xs size kind first tm = 0) : pressV xs size kind first tm = (balesP xs size kind first tm (pressN xs size), leftP xs size (pressN xs size), 0) := by
  unfold pressV; rw [if_neg (by omega)]
theorem PressOk.left {xs : List Int} {size kind first tm : Int} (h : PressOk xs size kind first tm) {k : Nat} (hk : k ≤ pressN xs size) : LeftI xs size k := by
  refine left_inv h.mix h.s1 k ?_
  have h1 : (k : Int) * size ≤ pressN xs size * size := Int.mul_le_mul_of_nonneg_right (by omega) (by have := h.s1; omega)
  have := h.n4; omega
theorem PressOk.parts {xs : List Int} {size kind first tm : Int} (h : PressOk xs size kind first tm) {k : Nat} (hk : k < pressN xs size) :
    splitE size (leftP xs size k) = 0 ∧ SpR size (leftP xs size k) (partsR size (leftP xs size k)) ∧ ∀ i, i < xs.length → 0 ≤ (partsR size (leftP xs size k)).getD i 0 ∧ (partsR size (leftP xs size k)).getD i 0 ≤ (leftP xs size k).getD i 0 := by
  refine left_parts (h.left (by omega)) h.s1 ?_
  have h1 : ((k : Int) + 1) * size ≤ pressN xs size * size := Int.mul_le_mul_of_nonneg_right (by omega) (by have := h.s1; omega)
  have := h.n4; omega

def pressT (r : List Bl × List Int × Int) : A := .tup [.fs true (bls true r.1), .fs true (ints r.2.1), .v (.int .i64 r.2.2)]
theorem post_err2 {H : List Blk} {R : A → List Blk → Prop} {x : Value} (h : R (.tup [.fs true [], .fs true [], .v x]) []) : apost 0 H R [.v (.slice none 0 0), .v (.slice none 0 0), .v x] :=
  post0 (Fz.tup (l := [.v (.slice none 0 0), .v (.slice none 0 0), .v x]) (r := [.fs true [], .fs true [], .v x]) ⟨fz_nil _ _, fz_nil _ _, Fz.refl rfl, trivial⟩) h
/-- The front of a difference. -/
def frontS (a b : List Int) (k : Nat) : List Int := (subM a b).take k ++ a.drop k
theorem frontS_len (a b : List Int) (k : Nat) (h : k ≤ a.length) : (frontS a b k).length = a.length := by simp [frontS, subM_len]; omega
theorem frontS_zero (a b : List Int) : frontS a b 0 = a := by simp [frontS]
theorem frontS_all (a b : List Int) : frontS a b a.length = subM a b := by
  unfold frontS; rw [List.take_of_length_le (by rw [subM_len]; exact Nat.le_refl _)]; simp
theorem frontS_get (a b : List Int) (k : Nat) (h : k < a.length) : (frontS a b k).getD k 0 = a.getD k 0 := by
  have hl := subM_len a b
  unfold frontS
  rw [List.getD_eq_getElem?_getD, List.getElem?_append_right (by simp; omega)]
  have : k - (List.take k (subM a b)).length = 0 := by simp; omega
  rw [this, List.getElem?_drop, List.getD_eq_getElem?_getD]; simp
theorem frontS_set (a b : List Int) (k : Nat) (h : k < a.length) : (frontS a b k).set k (a.getD k 0 - b.getD k 0) = frontS a b (k + 1) := by
  have hl := subM_len a b
  have hg := subM_get a b k h
  unfold frontS
  rw [List.set_append_right _ _ (by simp; omega), take_succ_get' _ k 0 (by omega), hg, List.append_assoc]
  congr 1
  rw [show k - (List.take k (subM a b)).length = 0 by simp; omega, List.drop_eq_getElem_cons h]
  rfl
end Go.Proofs.Ytbgmhbjfcpddkaa
namespace Go.Proofs.Ytbgmhbjfcpddkaa
open Go Go.Lft
set_option linter.unusedSimpArgs false
set_option linter.unusedVariables false
attribute [local congr] ob_congr bw_congr ib_congr ck_congr iwA_congr itA_congr aw_congr awp_congr sqA_congr bkA_congr vr_congr gd_congr

/-- Splitting what is left, in the program. -/
theorem splitMix_vr {w : Bool} {t : Int} {ws : List Int} (h : mixE ws = 0) (ht : 0 < t ∧ t ≤ 1073741824) (he : splitE t ws = 0) : VR P false n_share_Split [.v (.int .i64 t), .fs w (ints ws)] [] (isR (.tup [.fs true (ints (partsR t ws)), .v (.int .i64 0)])) := by
  have h1 := shareSplit_vr (w := w) t ws fun _ => divOk_small (splitE_ok he) fun i hi => by
    have h2 := mixE_get h i hi
    have h3 : t * ws.getD i 0 ≤ 1073741824 * 1073741824 := Int.mul_le_mul ht.2 h2.2 h2.1 (by omega)
    omega
  have e : splitV t ws = (partsR t ws, 0) := by unfold splitV; rw [if_neg (by omega)]
  rw [e] at h1
  exact h1
theorem balePress_vr {w : Bool} (xs : List Int) (size kind first tm : Int) : VR P false n_bale_Press [.fs w (ints xs), .v (.int .i64 size), .v (.int .i64 kind), .v (.int .i64 first), .v (.int .i64 tm)] [] (isR (pressT (pressV xs size kind first tm))) := by
  refine vr_bale_Press (by simp) (.inr rfl) fun _ _ => ?_
  have ht := materialTotal_vr (w := w) xs
  unfold pairT at ht
  unfold pressT
  by_cases h1 : mixE xs = 0
  case neg =>
    rw [totM_err h1] at ht
    rw [press_e1 h1]
    simp (disch := ((try simp only [List.length_set, List.length_replicate, List.length_append, List.length_cons, List.length_nil]); omega)) only [aW, aX, aV, aB, aN, aL, aP, aH, aM, aBl, s_bale_Press, v_bale_Press]
    refine ht.same (by simp (disch := first | omega | simp (disch := omega) only [aF, aL, aN, aM, aBl]) only [aW, aX, aV, aB, aN, aL, aP, aH, aM, aBl, aF, Int.natCast_add, Int.natCast_mul, Int.add_sub_cancel, List.length_nil, Int.cast_ofNat_Int, and_true, true_and]) (by simp (disch := first | omega | simp (disch := omega) only [aF, aL, aN, aM, aBl]) only [aW, aX, aV, aB, aN, aL, aP, aH, aM, aBl, aF, Int.natCast_add, Int.natCast_mul, Int.add_sub_cancel, List.length_nil, Int.cast_ofNat_Int, and_true, true_and]) (aret_of ?_)
    simp (disch := ((try simp only [List.length_set, List.length_replicate, List.length_append, List.length_cons, List.length_nil]); omega)) only [aW, aX, aV, aB, aN, aL, aP, aH, aM, aBl, r_bale_Press]
    exact post_err2 ⟨rfl, rfl⟩
  rw [totM_ok h1] at ht
  have hs := sum_mix h1
  have hl := (mixE_ok.1 h1).1
  simp (disch := ((try simp only [List.length_set, List.length_replicate, List.length_append, List.length_cons, List.length_nil]); omega)) only [aW, aX, aV, aB, aN, aL, aP, aH, aM, aBl, s_bale_Press, v_bale_Press]
  refine ht.same (by simp (disch := first | omega | simp (disch := omega) only [aF, aL, aN, aM, aBl]) only [aW, aX, aV, aB, aN, aL, aP, aH, aM, aBl, aF, Int.natCast_add, Int.natCast_mul, Int.add_sub_cancel, List.length_nil, Int.cast_ofNat_Int, and_true, true_and]) (by simp (disch := first | omega | simp (disch := omega) only [aF, aL, aN, aM, aBl]) only [aW, aX, aV, aB, aN, aL, aP, aH, aM, aBl, aF, Int.natCast_add, Int.natCast_mul, Int.add_sub_cancel, List.length_nil, Int.cast_ofNat_Int, and_true, true_and]) (aret_of ?_)
  by_cases h2 : size < 1 ∨ 1073741824 < size ∨ kind < 0 ∨ (xs.length : Int) ≤ kind ∨ first < 1 ∨ 1000000 < first
  · rw [press_e2 h1 (by omega)]
    simp (disch := ((try simp only [List.length_set, List.length_replicate, List.length_append, List.length_cons, List.length_nil]); omega)) only [aW, aX, aV, aB, aN, aL, aP, aH, aM, aBl, r_bale_Press]
    exact post_err2 ⟨rfl, rfl⟩
  simp (disch := ((try simp only [List.length_set, List.length_replicate, List.length_append, List.length_cons, List.length_nil]); omega)) only [aW, aX, aV, aB, aN, aL, aP, aH, aM, aBl]
  refine (moment_vr tm).same (by simp (disch := first | omega | simp (disch := omega) only [aF, aL, aN, aM, aBl]) only [aW, aX, aV, aB, aN, aL, aP, aH, aM, aBl, aF, Int.natCast_add, Int.natCast_mul, Int.add_sub_cancel, List.length_nil, Int.cast_ofNat_Int, and_true, true_and]) rfl (aret_of ?_)
  by_cases h3 : 0 ≤ tm ∧ tm ≤ 3155759999
  case neg =>
    rw [press_e2 h1 (by omega), decide_eq_false h3]
    simp (disch := ((try simp only [List.length_set, List.length_replicate, List.length_append, List.length_cons, List.length_nil]); omega)) only [aW, aX, aV, aB, aN, aL, aP, aH, aM, aBl, r_bale_Press]
    exact post_err2 ⟨rfl, rfl⟩
  rw [decide_eq_true h3]
  have h4 : ¬ (size < 1 ∨ 1073741824 < size ∨ kind < 0 ∨ (xs.length : Int) ≤ kind ∨ first < 1 ∨ 1000000 < first ∨ tm < 0 ∨ 3155759999 < tm) := by omega
  obtain ⟨d1, d2, d3⟩ := div_facts hs.1 (show 1 ≤ size by omega)
  have d4 : xs.sum / size ≤ xs.sum := Int.ediv_le_self _ hs.1
  simp (disch := ((try simp only [List.length_set, List.length_replicate, List.length_append, List.length_cons, List.length_nil]); omega)) only [aW, aX, aV, aB, aN, aL, aP, aH, aM, aBl]
  refine ib_intro (fun h5 => ?_) (fun h5 => ?_)
  · rw [press_e3 h1 h4 h5]
    simp (disch := ((try simp only [List.length_set, List.length_replicate, List.length_append, List.length_cons, List.length_nil]); omega)) only [aW, aX, aV, aB, aN, aL, aP, aH, aM, aBl, r_bale_Press]
    exact post_err2 ⟨rfl, rfl⟩
  simp (disch := ((try simp only [List.length_set, List.length_replicate, List.length_append, List.length_cons, List.length_nil]); omega)) only [aW, aX, aV, aB, aN, aL, aP, aH, aM, aBl]
  refine ib_intro (fun h6 => ?_) (fun h6 => ?_)
  · rw [press_e4 h1 h4 h5 h6]
    simp (disch := ((try simp only [List.length_set, List.length_replicate, List.length_append, List.length_cons, List.length_nil]); omega)) only [aW, aX, aV, aB, aN, aL, aP, aH, aM, aBl, r_bale_Press]
    exact post_err2 ⟨rfl, rfl⟩
  obtain ⟨e0, ok⟩ := press_ok h1 h4 h5 h6
  rw [press_v e0, ok.n1]
  have hn2 := ok.n2
  have hn3 := ok.n3
  have hbl := fun k => balesP_len xs size kind first tm k
  simp (disch := ((try simp only [List.length_set, List.length_replicate, List.length_append, List.length_cons, List.length_nil]); omega)) only [aW, aX, aV, aB, aN, aL, aP, aH, aM, aBl, Int.toNat_natCast]
  refine AWP.cut (Cut.virt 12 4 rfl) ?_
  refine AWP.loopP (α := Nat × Nat) g_bale_Press_0 (fun q => q.1 ≤ pressN xs size) (fun q => [(5, .v (.slice none 0 0)), (6, .v (.slice none 0 0)), (7, .v (.int .i64 0)), (12, .vs 1 q.2 4 q.1), (13, .v (.int .i64 q.1))]) (fun q => [(0, ⟨0, ints (leftP xs size q.1)⟩), (1, ⟨q.2, blcs true (balesP xs size kind first tm q.1)⟩)]) (fun q => pressN xs size - q.1) (0, 0) (by simp) ?_ ?_
  · have z1 : leftP xs size 0 = xs := rfl
    have z2 : blcs true (balesP xs size kind first tm 0) = [] := rfl
    have z3 : splA (ints (List.replicate xs.length 0)) 0 (ints xs) = ints xs := spl_zero _ _ (by simp [ii_len])
    simp only [z1, z2]
    try simp (disch := ((try simp only [List.length_set, List.length_replicate, List.length_append, List.length_cons, List.length_nil]); omega)) only [aW, aX, aV, aB, aN, aL, aP, aH, aM, aBl]
    exact Cut.of' 2 rfl (by omega) (by simp (disch := first | omega | simp (disch := omega) only [aF, aL, aN, aM, aBl]) only [aW, aX, aV, aB, aN, aL, aP, aH, aM, aBl, aF, Int.natCast_add, Int.natCast_mul, Int.add_sub_cancel, List.length_nil, Int.cast_ofNat_Int, and_true, true_and, z3]) (by simp (disch := first | omega | simp (disch := omega) only [aF, aL, aN, aM, aBl]) only [aW, aX, aV, aB, aN, aL, aP, aH, aM, aBl, aF, Int.natCast_add, Int.natCast_mul, Int.add_sub_cancel, List.length_nil, Int.cast_ofNat_Int, and_true, true_and])
  rintro ⟨k, ver⟩ hk
  simp only at hk
  have hL := ok.left hk
  have hLl := hL.len
  by_cases hlt : k < pressN xs size
  · obtain ⟨p1, p2, p3⟩ := ok.parts hlt
    have hpl := p2.len
    have hv := splitMix_vr (w := false) hL.mix (t := size) (by omega) p1
    have hsucc := balesP_succ xs size kind first tm k
    have hsl : leftP xs size (k + 1) = subM (leftP xs size k) (partsR size (leftP xs size k)) := rfl
    have hbp : baleP xs size kind first tm k = ⟨first + k, kind, tm, partsR size (leftP xs size k)⟩ := rfl
    have hkl := hbl k
    generalize partsR size (leftP xs size k) = p at *
    have hmx := mixE_get hL.mix
    generalize hW : leftP xs size k = W at *
    simp (disch := ((try simp only [List.length_set, List.length_replicate, List.length_append, List.length_cons, List.length_nil]); omega)) only [aW, aX, aV, aB, aN, aL, aP, aH, aM, aBl]
    refine hv.use ⟨Ld.refl rfl, ld_slI _ 0 0 _ W hLl.symm rfl, trivial⟩ (by simp (disch := first | omega | simp (disch := omega) only [aF, aL, aN, aM, aBl]) only [aW, aX, aV, aB, aN, aL, aP, aH, aM, aBl, aF, Int.natCast_add, Int.natCast_mul, Int.add_sub_cancel, List.length_nil, Int.cast_ofNat_Int, and_true, true_and]) (aret_of ?_)
    simp (disch := ((try simp only [List.length_set, List.length_replicate, List.length_append, List.length_cons, List.length_nil]); omega)) only [aW, aX, aV, aB, aN, aL, aP, aH, aM, aBl]
    refine AWP.loopP g_bale_Press_1 (fun j : Nat => j ≤ W.length) (fun j => [(19, .v (.int .i64 j))]) (fun j => [(0, ⟨0, ints (frontS W p j)⟩)]) (fun j => W.length - j) 0 (by omega) ?_ ?_
    · rw [frontS_zero]
      try simp (disch := ((try simp only [List.length_set, List.length_replicate, List.length_append, List.length_cons, List.length_nil]); omega)) only [aW, aX, aV, aB, aN, aL, aP, aH, aM, aBl]
      exact Cut.of' 2 rfl (by omega) (by simp (disch := first | omega | simp (disch := omega) only [aF, aL, aN, aM, aBl]) only [aW, aX, aV, aB, aN, aL, aP, aH, aM, aBl, aF, Int.natCast_add, Int.natCast_mul, Int.add_sub_cancel, List.length_nil, Int.cast_ofNat_Int, and_true, true_and]) (by simp (disch := first | omega | simp (disch := omega) only [aF, aL, aN, aM, aBl]) only [aW, aX, aV, aB, aN, aL, aP, aH, aM, aBl, aF, Int.natCast_add, Int.natCast_mul, Int.add_sub_cancel, List.length_nil, Int.cast_ofNat_Int, and_true, true_and])
    rintro j hj
    have fl := frontS_len W p j hj
    by_cases hjl : j < W.length
    · have q1 := p3 j (by omega)
      have q2 := hmx j hjl
      have q3 := frontS_get W p j hjl
      have q4 := frontS_set W p j hjl
      simp (disch := ((try simp only [List.length_set, List.length_replicate, List.length_append, List.length_cons, List.length_nil]); omega)) only [aW, aX, aV, aB, aN, aL, aP, aH, aM, aBl, q3, q4]
      refine ⟨j + 1, by omega, by omega, ?_⟩
      exact Cut.of' 2 rfl (by omega) (by simp (disch := first | omega | simp (disch := omega) only [aF, aL, aN, aM, aBl]) only [aW, aX, aV, aB, aN, aL, aP, aH, aM, aBl, aF, Int.natCast_add, Int.natCast_mul, Int.add_sub_cancel, List.length_nil, Int.cast_ofNat_Int, and_true, true_and]) (by simp (disch := first | omega | simp (disch := omega) only [aF, aL, aN, aM, aBl]) only [aW, aX, aV, aB, aN, aL, aP, aH, aM, aBl, aF, Int.natCast_add, Int.natCast_mul, Int.add_sub_cancel, List.length_nil, Int.cast_ofNat_Int, and_true, true_and])
    have hje : j = W.length := by omega
    subst hje
    rw [frontS_all, ← hsl]
    simp (disch := ((try simp only [List.length_set, List.length_replicate, List.length_append, List.length_cons, List.length_nil]); omega)) only [aW, aX, aV, aB, aN, aL, aP, aH, aM, aBl, ← hbp]
    refine ⟨(k + 1, ver + 1), by simp only; omega, by simp only; omega, ?_⟩
    simp only
    rw [hsucc, hbp]
    exact Cut.of' 2 rfl (by omega) (by simp (disch := first | omega | simp (disch := omega) only [aF, aL, aN, aM, aBl]) only [aW, aX, aV, aB, aN, aL, aP, aH, aM, aBl, aF, Int.natCast_add, Int.natCast_mul, Int.add_sub_cancel, List.length_nil, Int.cast_ofNat_Int, and_true, true_and]) (by simp (disch := first | omega | simp (disch := omega) only [aF, aL, aN, aM, aBl]) only [aW, aX, aV, aB, aN, aL, aP, aH, aM, aBl, aF, Int.natCast_add, Int.natCast_mul, Int.add_sub_cancel, List.length_nil, Int.cast_ofNat_Int, and_true, true_and])
  have hke : k = pressN xs size := by omega
  subst hke
  simp (disch := ((try simp only [List.length_set, List.length_replicate, List.length_append, List.length_cons, List.length_nil]); omega)) only [aW, aX, aV, aB, aN, aL, aP, aH, aM, aBl, r_bale_Press]
  exact post0 (r := .tup [.fs true (bls true (balesP xs size kind first tm (pressN xs size))), .fs true (ints (leftP xs size (pressN xs size))), .v (.int .i64 0)]) (Fz.tup ⟨fz_vsBl 0 _ 1 ver _ _ (by omega) (hbl _).symm (by simp [blkAt]), fz_slI 0 _ 0 0 _ _ (by omega) hLl.symm rfl, Fz.refl rfl, trivial⟩) ⟨rfl, rfl⟩

end Go.Proofs.Ytbgmhbjfcpddkaa
