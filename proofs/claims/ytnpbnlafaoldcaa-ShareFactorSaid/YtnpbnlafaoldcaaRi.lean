/- Split, in the program and in the reference. No statement is claimed here. -/
import Derived.Test.YtnpbnlafaoldcaaRh
namespace Go.Proofs.Ytnpbnlafaoldcaa
open Go Go.Lft
set_option linter.unusedSimpArgs false
set_option linter.unusedVariables false
attribute [local congr] ob_congr bw_congr ib_congr ck_congr iwA_congr itA_congr aw_congr awp_congr sqA_congr bkA_congr vr_congr gd_congr

theorem mul64_vr (x y : Int) (hx : 0 ≤ x ∧ x ≤ 18446744073709551615) (hy : 0 ≤ y ∧ y ≤ 18446744073709551615) : VR P false n_bits_Mul64 [.v (.int .u64 x), .v (.int .u64 y)] [] (isR (.tup [.v (.int .u64 (x * y / 18446744073709551616)), .v (.int .u64 (IntKind.wrap .u64 (x * y)))])) := by
  refine vr_bits_Mul64 (by simp) (.inr rfl) fun _ _ => ?_
  have e32 : (2 : Int) ^ (32 : Int).toNat = 4294967296 := by decide
  have e32' : (2 : Int) ^ 32 = 4294967296 := by decide
  obtain ⟨X, rfl⟩ : ∃ X : Nat, x = X := ⟨x.toNat, by omega⟩
  obtain ⟨Y, rfl⟩ : ∃ Y : Nat, y = Y := ⟨y.toNat, by omega⟩
  obtain ⟨m1, m2, m3, m4⟩ := Go.Lib.mul64_hi X Y (by omega) (by omega)
  have n4 : (X : Int) / 4294967296 * ((Y : Int) / 4294967296) + ((X : Int) / 4294967296 * ((Y : Int) % 4294967296) + (X : Int) % 4294967296 * ((Y : Int) % 4294967296) / 4294967296) / 4294967296 + (((X : Int) / 4294967296 * ((Y : Int) % 4294967296) + (X : Int) % 4294967296 * ((Y : Int) % 4294967296) / 4294967296) % 4294967296 + (X : Int) % 4294967296 * ((Y : Int) / 4294967296)) / 4294967296 = (X : Int) * Y / 18446744073709551616 := by
    have := congrArg (fun n : Nat => (n : Int)) m4
    simpa only [Int.natCast_add, Int.natCast_mul, Int.natCast_ediv, Int.natCast_emod, Int.cast_ofNat_Int] using this
  have n1 : (X : Int) % 4294967296 * ((Y : Int) % 4294967296) < 18446744073709551616 := by
    have := Int.ofNat_lt.2 m1
    simpa only [Int.natCast_add, Int.natCast_mul, Int.natCast_ediv, Int.natCast_emod, Int.cast_ofNat_Int] using this
  have n2 : (X : Int) / 4294967296 * ((Y : Int) % 4294967296) + (X : Int) % 4294967296 * ((Y : Int) % 4294967296) / 4294967296 < 18446744073709551616 := by
    have := Int.ofNat_lt.2 m2
    simpa only [Int.natCast_add, Int.natCast_mul, Int.natCast_ediv, Int.natCast_emod, Int.cast_ofNat_Int] using this
  have n3 : ((X : Int) / 4294967296 * ((Y : Int) % 4294967296) + (X : Int) % 4294967296 * ((Y : Int) % 4294967296) / 4294967296) % 4294967296 + (X : Int) % 4294967296 * ((Y : Int) / 4294967296) < 18446744073709551616 := by
    have := Int.ofNat_lt.2 m3
    simpa only [Int.natCast_add, Int.natCast_mul, Int.natCast_ediv, Int.natCast_emod, Int.cast_ofNat_Int] using this
  have p1 : 0 ≤ (X : Int) % 4294967296 * ((Y : Int) % 4294967296) := Int.mul_nonneg (by omega) (by omega)
  have p2 : 0 ≤ (X : Int) / 4294967296 * ((Y : Int) % 4294967296) := Int.mul_nonneg (by omega) (by omega)
  have p3 : 0 ≤ (X : Int) % 4294967296 * ((Y : Int) / 4294967296) := Int.mul_nonneg (by omega) (by omega)
  have p4 : 0 ≤ (X : Int) / 4294967296 * ((Y : Int) / 4294967296) := Int.mul_nonneg (by omega) (by omega)
  have p5 : (X : Int) * Y / 18446744073709551616 ≤ 18446744073709551615 := by
    have : (X : Int) * Y ≤ 18446744073709551615 * 18446744073709551615 := Int.mul_le_mul (by omega) (by omega) (by omega) (by omega)
    omega
  have p6 : 0 ≤ (X : Int) * Y := Int.mul_nonneg (by omega) (by omega)
  simp (disch := ((try simp only [List.length_set, List.length_replicate, List.length_append, List.length_cons, List.length_nil]); omega)) only [aW, aX, aV, aB, aN, aL, aP, aH, s_bits_Mul64, v_bits_Mul64, s_andU (X : Int) 4294967295 32 (by omega) rfl (by omega) (by omega), s_andU (Y : Int) 4294967295 32 (by omega) rfl (by omega) (by omega), s_shrU, e32, e32']
  generalize hA : (X : Int) / 4294967296 * ((Y : Int) / 4294967296) = A at *
  generalize hB : (X : Int) / 4294967296 * ((Y : Int) % 4294967296) = B at *
  generalize hC : (X : Int) % 4294967296 * ((Y : Int) / 4294967296) = C at *
  generalize hD : (X : Int) % 4294967296 * ((Y : Int) % 4294967296) = D at *
  simp (disch := ((try simp only [List.length_set, List.length_replicate, List.length_append, List.length_cons, List.length_nil]); omega)) only [aW, aX, aV, aB, aN, aL, aP, aH, wrap_u64, s_shrU, e32, e32', s_andU (B + D / 4294967296) 4294967295 32 (by omega) rfl (by omega) (by omega), hA, hC, n4, r_bits_Mul64]
  exact post0 (Fz.refl rfl) ⟨rfl, rfl⟩

theorem div64_small (lo y : Int) (hlo : 0 ≤ lo ∧ lo ≤ 18446744073709551615) (hy : 0 < y ∧ y ≤ 18446744073709551615) : VR P false n_bits_Div64 [.v (.int .u64 0), .v (.int .u64 lo), .v (.int .u64 y)] [] (isR (.tup [.v (.int .u64 (lo / y)), .v (.int .u64 (lo % y))])) := by
  refine vr_bits_Div64 (by simp) (.inr rfl) fun _ _ => ?_
  have h1 : lo.tdiv y = lo / y := Int.tdiv_eq_ediv_of_nonneg hlo.1
  have h2 : lo.tmod y = lo % y := Int.tmod_eq_emod_of_nonneg hlo.1
  have h3 : 0 ≤ lo / y := Int.ediv_nonneg hlo.1 (by omega)
  have h4 : lo / y ≤ lo := Int.ediv_le_self y hlo.1
  simp (disch := ((try simp only [List.length_set, List.length_replicate, List.length_append, List.length_cons, List.length_nil]); omega)) only [aW, aX, aV, aB, aN, aL, aP, aH, s_bits_Div64, v_bits_Div64, h1, h2, wrap_u64, r_bits_Div64]
  exact post0 (Fz.refl rfl) ⟨rfl, rfl⟩

/-! ### Errors of Split -/
def splitE (t : Int) (ws : List Int) : Int :=
  if t < 0 ∨ 70368744177664 < t then 1 else if (weighE ws).2 ≠ 0 then (weighE ws).2 else if (weighE ws).1 = 0 ∧ 0 < t then 10 else 0
def splitV (t : Int) (ws : List Int) : List Int × Int := if splitE t ws ≠ 0 then ([], splitE t ws) else (partsR t ws, 0)
structure SplitOk (t : Int) (ws : List Int) : Prop where
  t0 : 0 ≤ t ∧ t ≤ 70368744177664
  len : 1 ≤ ws.length ∧ ws.length ≤ 512
  w : ∀ x ∈ ws, 0 ≤ x ∧ x ≤ 1125899906842624
  sum : ws.sum ≤ 1125899906842624
  pos : ws.sum = 0 → t = 0
  we : weighE ws = (ws.sum, 0)
theorem splitE_ok {t : Int} {ws : List Int} (h : splitE t ws = 0) : SplitOk t ws := by
  unfold splitE at h
  split at h
  · cases h
  rename_i h1
  split at h
  · contradiction
  rename_i h2
  split at h
  · cases h
  rename_i h3
  have h2' := Classical.not_not.1 h2
  have hw : weighE ws = if ws.length < 1 ∨ 512 < ws.length then (0, 1) else if ∃ i, i < ws.length ∧ badW (ws.getD i 0) then (0, 1) else if ws.sum ≤ 1125899906842624 then (ws.sum, 0) else (0, 2) := rfl
  by_cases a1 : ws.length < 1 ∨ 512 < ws.length
  · rw [if_pos a1] at hw; rw [hw] at h2'; cases h2'
  rw [if_neg a1] at hw
  by_cases a2 : ∃ i, i < ws.length ∧ badW (ws.getD i 0)
  · rw [if_pos a2] at hw; rw [hw] at h2'; cases h2'
  rw [if_neg a2] at hw
  by_cases a3 : ws.sum ≤ 1125899906842624
  · rw [if_pos a3] at hw
    rw [hw] at h3
    refine ⟨by omega, by omega, fun x hx => ?_, a3, fun hz => ?_, hw⟩
    · obtain ⟨i, h4, rfl⟩ := getD_mem hx
      apply Classical.byContradiction; intro hc
      exact a2 ⟨i, h4, by unfold badW; omega⟩
    · simp only at h3; omega
  · rw [if_neg a3] at hw; rw [hw] at h2'; cases h2'
theorem SplitOk.sp {t : Int} {ws : List Int} (h : SplitOk t ws) : SpOk t ws := ⟨h.t0.1, fun w hw => (h.w w hw).1, fun hc => by have := h.len; rw [hc] at this; simp at this, h.pos⟩
theorem w_le {t : Int} {ws : List Int} (h : SplitOk t ws) {i : Nat} (hi : i < ws.length) : 0 ≤ ws.getD i 0 ∧ ws.getD i 0 ≤ ws.sum := by
  have h1 := h.w _ (mem_getD hi)
  refine ⟨h1.1, ?_⟩
  have := sum_le_p ((List.replicate ws.length 0).set i (ws.getD i 0)) ws (by simp) fun l hl => by
    simp only [List.length_set, List.length_replicate] at hl
    rw [getD_seti]
    split
    · rename_i hc; rw [hc.1]; exact Int.le_refl _
    · have := (h.w _ (mem_getD hl)).1
      simpa [List.getD_eq_getElem?_getD, hl] using this
  rw [sum_seti _ _ _ (by simpa using hi)] at this
  have e1 : (List.replicate ws.length (0 : Int)).sum = 0 := by
    induction ws.length with
    | zero => rfl
    | succ n ih => rw [List.replicate_succ, List.sum_cons, ih]; rfl
  have e2 : (List.replicate ws.length (0 : Int)).getD i 0 = 0 := by simp [List.getD_eq_getElem?_getD, hi]
  omega
theorem q_le {t : Int} {ws : List Int} (h : SplitOk t ws) {i : Nat} (hi : i < ws.length) : 0 ≤ t * ws.getD i 0 / ws.sum ∧ t * ws.getD i 0 / ws.sum ≤ t := by
  have h1 := w_le h hi
  have h0 := h.t0.1
  refine ⟨Int.ediv_nonneg (Int.mul_nonneg h0 h1.1) (by omega), ?_⟩
  by_cases hz : ws.sum = 0
  · rw [hz, Int.ediv_zero]; exact h0
  · have : t * ws.getD i 0 ≤ t * ws.sum := Int.mul_le_mul_of_nonneg_left h1.2 h0
    have := Int.ediv_le_ediv (show 0 < ws.sum by omega) this
    rwa [Int.mul_ediv_cancel _ hz] at this
theorem r_le {t : Int} {ws : List Int} (h : SplitOk t ws) {i : Nat} (hi : i < ws.length) : 0 ≤ t * ws.getD i 0 % ws.sum ∧ t * ws.getD i 0 % ws.sum ≤ 1125899906842624 := by
  have h1 := w_le h hi
  by_cases hz : ws.sum = 0
  · rw [hz, h.pos hz]; simp
  · have := Int.emod_lt_of_pos (t * ws.getD i 0) (show 0 < ws.sum by omega)
    have := Int.emod_nonneg (t * ws.getD i 0) hz
    have := h.sum
    omega
/-- The parts of the first k weights, and what is left after them. -/
def frontQ (t : Int) (ws : List Int) (k : Nat) : List Int := (quos t ws).take k ++ List.replicate (ws.length - k) 0
def frontR (t : Int) (ws : List Int) (k : Nat) : List Int := (rems t ws).take k ++ List.replicate (ws.length - k) 0
def frontO (n k : Nat) : List Int := rng 0 k ++ List.replicate (n - k) 0
theorem front_set (l : List Int) (n k : Nat) (y : Int) (hl : l.length = n) (hk : k < n) (hy : y = l.getD k 0) : (l.take k ++ List.replicate (n - k) 0).set k y = l.take (k + 1) ++ List.replicate (n - (k + 1)) 0 := by
  subst hy
  have h1 : (l.take k).length = k := by simp; omega
  rw [List.set_append_right _ _ (by omega), h1, Nat.sub_self, show n - k = (n - (k + 1)) + 1 by omega, List.replicate_succ, List.set_cons_zero, take_succ_I l k (by omega)]
  simp
theorem front_len (l : List Int) (n k : Nat) (hl : l.length = n) (hk : k ≤ n) : (l.take k ++ List.replicate (n - k) (0 : Int)).length = n := by simp; omega
theorem front_get (l : List Int) (n k : Nat) (hl : l.length = n) (hk : k < n) : (l.take k ++ List.replicate (n - k) (0 : Int)).getD k 0 = 0 := by
  have h1 : (l.take k).length = k := by simp; omega
  rw [get_app, h1, if_neg (by omega), Nat.sub_self]
  simp [List.getD_eq_getElem?_getD, show 0 < n - k by omega]
theorem sumQ_bd {t : Int} {ws : List Int} (h : SplitOk t ws) : ∀ k, k ≤ ws.length → 0 ≤ sumK (quos t ws) k ∧ sumK (quos t ws) k ≤ t := fun k hk => by
  have hl := quos_len t ws
  have hnn : ∀ x ∈ quos t ws, 0 ≤ x := fun x hx => by
    obtain ⟨i, h2, rfl⟩ := getD_mem hx
    exact quos_nn h.sp i (by omega)
  have h1 := sum_ge0 ((quos t ws).take k) fun x hx => hnn x (List.mem_of_mem_take hx)
  have h2 := sum_ge0 ((quos t ws).drop k) fun x hx => hnn x (List.mem_of_mem_drop hx)
  have h3 : (quos t ws).sum = ((quos t ws).take k).sum + ((quos t ws).drop k).sum := by rw [← List.sum_append, List.take_append_drop]
  have h4 := (left_bd h.sp).1
  unfold sumK; omega
theorem frontO_eq (n k : Nat) (hk : k ≤ n) : frontO n k = (rng 0 n).take k ++ List.replicate (n - k) 0 := by
  unfold frontO
  congr 1
  have : rng 0 n = rng 0 k ++ rng (0 + k) (n - k) := by rw [← rng_split]; congr 1; omega
  rw [this, List.take_append_of_le_length (by rw [rng_len]; exact Nat.le_refl _), List.take_of_length_le (by rw [rng_len]; exact Nat.le_refl _)]

theorem sp_err {t : Int} {ws : List Int} (h : t < 0 ∨ 70368744177664 < t) : splitV t ws = ([], 1) := by unfold splitV splitE; rw [if_pos h]; rfl
theorem sp_we {t : Int} {ws : List Int} (h : ¬ (t < 0 ∨ 70368744177664 < t)) (h2 : (weighE ws).2 ≠ 0) : splitV t ws = ([], (weighE ws).2) := by unfold splitV splitE; rw [if_neg h, if_pos h2, if_pos h2]
theorem sp_empty {t : Int} {ws : List Int} (h : ¬ (t < 0 ∨ 70368744177664 < t)) (h2 : ¬ (weighE ws).2 ≠ 0) (h3 : (weighE ws).1 = 0 ∧ 0 < t) : splitV t ws = ([], 10) := by unfold splitV splitE; rw [if_neg h, if_neg h2, if_pos h3]; rfl
theorem sp_ok {t : Int} {ws : List Int} (h : ¬ (t < 0 ∨ 70368744177664 < t)) (h2 : ¬ (weighE ws).2 ≠ 0) (h3 : ¬ ((weighE ws).1 = 0 ∧ 0 < t)) : splitE t ws = 0 ∧ splitV t ws = (partsR t ws, 0) := by
  have : splitE t ws = 0 := by unfold splitE; rw [if_neg h, if_neg h2, if_neg h3]
  exact ⟨this, by unfold splitV; rw [if_neg (by omega)]⟩
def listT (x : List Int × Int) : A := .tup [.fs true (ints x.1), .v (.int .i64 x.2)]

theorem rd_bound {p0 q0 : List Int} (hp : ∀ i, i < p0.length → 0 ≤ p0.getD i 0 ∧ p0.getD i 0 ≤ 70368744177664) : ∀ k i, i < p0.length → 0 ≤ (rd p0 q0 k).1.getD i 0 ∧ (rd p0 q0 k).1.getD i 0 ≤ 70368744177664 + k
  | 0, i, hi => by have := hp i hi; simp only [rd]; omega
  | k + 1, i, hi => by
    have ih := rd_bound (q0 := q0) hp k
    simp only [rd, inc]
    rw [getD_seti]
    split
    · rename_i h
      rw [h.1]
      have := ih i hi; omega
    · have := ih i hi; omega

/-- What Split gives back, in memory of the caller's. -/
def SplitO (t : Int) (ws : List Int) : A → List Blk → Prop := fun r G => ((splitV t ws).2 ≠ 0 ∧ r = .tup [.fs true [], .v (.int .i64 (splitV t ws).2)] ∧ G = []) ∨ ((splitV t ws).2 = 0 ∧ ∃ ver, r = .tup [.sl 0 ver 1 0 ws.length, .v (.int .i64 0)] ∧ G = [⟨ver, ints (partsR t ws)⟩])
theorem splitV_err {t : Int} {ws : List Int} (h : (splitV t ws).2 ≠ 0) : splitV t ws = ([], (splitV t ws).2) := by
  unfold splitV at *
  split
  · rfl
  · rename_i hc; rw [if_neg hc] at h; exact absurd rfl h
theorem splitV_ok {t : Int} {ws : List Int} (h : (splitV t ws).2 = 0) : splitE t ws = 0 ∧ splitV t ws = (partsR t ws, 0) := by
  unfold splitV at *
  split at h
  · rename_i hc; exact absurd h hc
  · rename_i hc; rw [if_neg hc]; exact ⟨Classical.not_not.1 hc, rfl⟩
theorem SplitO.fz {t : Int} {ws : List Int} (r : A) (G : List Blk) (h : SplitO t ws r G) : ∃ r' G', Cut ([] : List Blk).length [r] G [r'] G' ∧ isR (listT (splitV t ws)) r' G' := by
  rcases h with ⟨h1, rfl, rfl⟩ | ⟨h1, ver, rfl, rfl⟩
  · rw [splitV_err h1]
    exact ⟨_, _, Cut.refl _ _ _, rfl, rfl⟩
  · obtain ⟨h2, h3⟩ := splitV_ok h1
    have hl := (partsR_ok (splitE_ok h2).sp).len
    rw [h3]
    exact ⟨listT (partsR t ws, 0), [], Cut.of' 0 rfl (Nat.le_refl _) (by rw [fzb_nil]; trivial) ⟨Fz.tup ⟨fz_slI 0 _ 0 ver ws.length (partsR t ws) (by omega) hl.symm (by simp [blkAt]), Fz.refl rfl, trivial⟩, trivial⟩, rfl, rfl⟩

theorem ref11SplitO_vr {w : Bool} (t : Int) (ws : List Int) : VR P false n_ref11_Split [.v (.int .i64 t), .fs w (ints ws)] [] (SplitO t ws) := by
  refine vr_ref11_Split (by simp) (.inr rfl) fun _ _ => ?_
  simp (disch := ((try simp only [List.length_set, List.length_replicate, List.length_append, List.length_cons, List.length_nil]); omega)) only [aW, aX, aV, aB, aN, aL, aP, aH, s_ref11_Split, v_ref11_Split]
  refine ib_intro (fun h1 => ?_) (fun h1 => ?_)
  · simp (disch := ((try simp only [List.length_set, List.length_replicate, List.length_append, List.length_cons, List.length_nil]); omega)) only [aW, aX, aV, aB, aN, aL, aP, aH, r_ref11_Split]
    exact post_err (.inl ⟨by rw [sp_err h1]; decide, by rw [sp_err h1], rfl⟩)
  simp (disch := ((try simp only [List.length_set, List.length_replicate, List.length_append, List.length_cons, List.length_nil]); omega)) only [aW, aX, aV, aB, aN, aL, aP, aH]
  refine (ref11Sum_vr (w := w) ws).same (by simp (disch := first | omega | simp (disch := omega) only [aF, aL, aN]) only [aW, aX, aV, aB, aN, aL, aP, aH, aF, Int.natCast_add, Int.natCast_mul, Int.add_sub_cancel, List.length_nil, Int.cast_ofNat_Int, and_true, true_and]) rfl (aret_of ?_)
  unfold pairT
  simp (disch := ((try simp only [List.length_set, List.length_replicate, List.length_append, List.length_cons, List.length_nil]); omega)) only [aW, aX, aV, aB, aN, aL, aP, aH]
  refine ib_intro (fun h2 => ?_) (fun h2 => ?_)
  · simp (disch := ((try simp only [List.length_set, List.length_replicate, List.length_append, List.length_cons, List.length_nil]); omega)) only [aW, aX, aV, aB, aN, aL, aP, aH, r_ref11_Split]
    exact post_err (.inl ⟨by rw [sp_we h1 h2]; exact h2, by rw [sp_we h1 h2], rfl⟩)
  simp (disch := ((try simp only [List.length_set, List.length_replicate, List.length_append, List.length_cons, List.length_nil]); omega)) only [aW, aX, aV, aB, aN, aL, aP, aH]
  refine ib_intro (fun h3 => ?_) (fun h3 => ?_)
  · simp (disch := ((try simp only [List.length_set, List.length_replicate, List.length_append, List.length_cons, List.length_nil]); omega)) only [aW, aX, aV, aB, aN, aL, aP, aH, r_ref11_Split]
    exact post_err (.inl ⟨by rw [sp_empty h1 h2 h3]; decide, by rw [sp_empty h1 h2 h3], rfl⟩)
  obtain ⟨e0, e1⟩ := sp_ok h1 h2 h3
  have ok := splitE_ok e0
  obtain ⟨t0, t1⟩ := ok.t0
  obtain ⟨n0, n1⟩ := ok.len
  have hws := ok.sum
  have hl := quos_len t ws
  have hl2 := rems_len t ws
  have hlb := left_bd ok.sp
  rw [ok.we]
  have p0 : ints [] = ([] : List A) := rfl
  simp (disch := ((try simp only [List.length_set, List.length_replicate, List.length_append, List.length_cons, List.length_nil]); omega)) only [aW, aX, aV, aB, aN, aL, aP, aH]
  refine AWP.loopP (α := Nat × Nat × Nat) g_ref11_Split_0 (fun s => s.1 ≤ ws.length) (fun s => [(2, .v (.slice none 0 0)), (3, .v (.int .i64 0)), (6, .sl 0 s.2.1 1 0 s.1), (7, .sl 1 s.2.2 1 0 s.1), (8, .v (.int .i64 (t - sumK (quos t ws) s.1))), (9, .v (.int .i64 s.1))]) (fun s => [(0, ⟨s.2.1, ints ((quos t ws).take s.1)⟩), (1, ⟨s.2.2, ints ((rems t ws).take s.1)⟩)]) (fun s => ws.length - s.1) (0, 0, 0) (by simp) ?_ ?_
  · simp only [List.take_zero, sumK_zero, Int.sub_zero, p0]
    try simp (disch := ((try simp only [List.length_set, List.length_replicate, List.length_append, List.length_cons, List.length_nil]); omega)) only [aW, aX, aV, aB, aN, aL, aP, aH]
    exact Cut.of' 2 rfl (by omega) (by simp (disch := first | omega | simp (disch := omega) only [aF, aL, aN]) only [aW, aX, aV, aB, aN, aL, aP, aH, aF, Int.natCast_add, Int.natCast_mul, Int.add_sub_cancel, List.length_nil, Int.cast_ofNat_Int, and_true, true_and]) (by simp (disch := first | omega | simp (disch := omega) only [aF, aL, aN]) only [aW, aX, aV, aB, aN, aL, aP, aH, aF, Int.natCast_add, Int.natCast_mul, Int.add_sub_cancel, List.length_nil, Int.cast_ofNat_Int, and_true, true_and])
  rintro ⟨k, v1, v2⟩ hk
  simp only at hk
  have hsb := sumQ_bd ok k hk
  have lt1 : ((quos t ws).take k).length = k := by simp; omega
  have lt2 : ((rems t ws).take k).length = k := by simp; omega
  by_cases hlt : k < ws.length
  · have hsb1 := sumQ_bd ok (k + 1) (by omega)
    have hs1 := sumK_succ (quos t ws) k (by omega)
    have g1 : (quos t ws).getD k 0 = t * ws.getD k 0 / ws.sum := getD_map _ _ _ hlt
    have g2 : (rems t ws).getD k 0 = t * ws.getD k 0 % ws.sum := getD_map _ _ _ hlt
    have ts1 := take_succ_I (quos t ws) k (by omega)
    have ts2 := take_succ_I (rems t ws) k (by omega)
    rw [g1] at hs1 ts1
    rw [g2] at ts2
    have hwl := w_le ok hlt
    have tk1 : ∀ l : List Int, (l.take k).take k = l.take k := fun l => by rw [List.take_take, Nat.min_self]
    have sa : (t - sumK (quos t ws) k) - t * ws.getD k 0 / ws.sum = t - sumK (quos t ws) (k + 1) := by omega
    have hqr := q_le ok hlt
    simp (disch := ((try simp only [List.length_set, List.length_replicate, List.length_append, List.length_cons, List.length_nil]); omega)) only [aW, aX, aV, aB, aN, aL, aP, aH]
    refine ib_intro (fun h4 => ?_) (fun h4 => ?_)
    · simp (disch := ((try simp only [List.length_set, List.length_replicate, List.length_append, List.length_cons, List.length_nil]); omega)) only [aW, aX, aV, aB, aN, aL, aP, aH]
      refine (divide_vr t (ws.getD k 0) ws.sum ⟨t0, t1⟩ hwl ⟨by omega, hws⟩).same (by simp (disch := first | omega | simp (disch := omega) only [aF, aL, aN]) only [aW, aX, aV, aB, aN, aL, aP, aH, aF, Int.natCast_add, Int.natCast_mul, Int.add_sub_cancel, List.length_nil, Int.cast_ofNat_Int, and_true, true_and]) rfl (aret_of ?_)
      unfold pairT
      simp (disch := ((try simp only [List.length_set, List.length_replicate, List.length_append, List.length_cons, List.length_nil]); omega)) only [aW, aX, aV, aB, aN, aL, aP, aH, tk1, sa]
      refine ⟨(k + 1, v1 + 1, v2 + 1), by simp only; omega, by simp only; omega, ?_⟩
      simp only [ts1, ts2]
      try simp (disch := ((try simp only [List.length_set, List.length_replicate, List.length_append, List.length_cons, List.length_nil]); omega)) only [aW, aX, aV, aB, aN, aL, aP, aH]
      exact Cut.of' 2 rfl (by omega) (by simp (disch := first | omega | simp (disch := omega) only [aF, aL, aN]) only [aW, aX, aV, aB, aN, aL, aP, aH, aF, Int.natCast_add, Int.natCast_mul, Int.add_sub_cancel, List.length_nil, Int.cast_ofNat_Int, and_true, true_and, tk1]) (by simp (disch := first | omega | simp (disch := omega) only [aF, aL, aN]) only [aW, aX, aV, aB, aN, aL, aP, aH, aF, Int.natCast_add, Int.natCast_mul, Int.add_sub_cancel, List.length_nil, Int.cast_ofNat_Int, and_true, true_and])
    · have hz : ws.sum = 0 := by omega
      have z1 : t * ws.getD k 0 / ws.sum = 0 := by rw [hz, Int.ediv_zero]
      have z2 : t * ws.getD k 0 % ws.sum = 0 := by rw [hz, ok.pos hz]; simp
      rw [z1] at sa ts1
      rw [z2] at ts2
      simp (disch := ((try simp only [List.length_set, List.length_replicate, List.length_append, List.length_cons, List.length_nil]); omega)) only [aW, aX, aV, aB, aN, aL, aP, aH, tk1, sa]
      refine ⟨(k + 1, v1 + 1, v2 + 1), by simp only; omega, by simp only; omega, ?_⟩
      simp only [ts1, ts2]
      try simp (disch := ((try simp only [List.length_set, List.length_replicate, List.length_append, List.length_cons, List.length_nil]); omega)) only [aW, aX, aV, aB, aN, aL, aP, aH]
      exact Cut.of' 2 rfl (by omega) (by simp (disch := first | omega | simp (disch := omega) only [aF, aL, aN]) only [aW, aX, aV, aB, aN, aL, aP, aH, aF, Int.natCast_add, Int.natCast_mul, Int.add_sub_cancel, List.length_nil, Int.cast_ofNat_Int, and_true, true_and, tk1]) (by simp (disch := first | omega | simp (disch := omega) only [aF, aL, aN]) only [aW, aX, aV, aB, aN, aL, aP, aH, aF, Int.natCast_add, Int.natCast_mul, Int.add_sub_cancel, List.length_nil, Int.cast_ofNat_Int, and_true, true_and])
  · have hke : k = ws.length := by omega
    subst hke
    have tq : (quos t ws).take ws.length = quos t ws := List.take_of_length_le (by omega)
    have tr : (rems t ws).take ws.length = rems t ws := List.take_of_length_le (by omega)
    have sq : sumK (quos t ws) ws.length = (quos t ws).sum := by rw [← hl, sumK_all]
    have hlN : t - (quos t ws).sum = (leftN t ws : Nat) := by unfold leftN; omega
    have hpb : ∀ i, i < (quos t ws).length → 0 ≤ (quos t ws).getD i 0 ∧ (quos t ws).getD i 0 ≤ 70368744177664 := fun i hi => by
      rw [show (quos t ws).getD i 0 = t * ws.getD i 0 / ws.sum from getD_map _ _ _ (by omega)]
      have := q_le ok (i := i) (by omega); omega
    rw [tq, tr, sq, hlN]
    have hln : leftN t ws < ws.length := by omega
    clear hsb lt1 lt2 hlt
    simp (disch := ((try simp only [List.length_set, List.length_replicate, List.length_append, List.length_cons, List.length_nil]); omega)) only [aW, aX, aV, aB, aN, aL, aP, aH]
    refine AWP.loopP (α := Nat) g_ref11_Split_1 (fun m => m ≤ leftN t ws) (fun m => [(8, .v (.int .i64 (leftN t ws - m)))]) (fun m => [(0, ⟨v1, ints (rd (quos t ws) (rems t ws) m).1⟩), (1, ⟨v2, ints (rd (quos t ws) (rems t ws) m).2⟩)]) (fun m => leftN t ws - m) 0 (Nat.zero_le _) ?_ ?_
    · simp only [rd, Int.sub_zero, Int.natCast_zero]
      exact Cut.of' 2 rfl (by omega) (by simp (disch := first | omega | simp (disch := omega) only [aF, aL, aN]) only [aW, aX, aV, aB, aN, aL, aP, aH, aF, Int.natCast_add, Int.natCast_mul, Int.add_sub_cancel, List.length_nil, Int.cast_ofNat_Int, and_true, true_and]) (by simp (disch := first | omega | simp (disch := omega) only [aF, aL, aN]) only [aW, aX, aV, aB, aN, aL, aP, aH, aF, Int.natCast_add, Int.natCast_mul, Int.add_sub_cancel, List.length_nil, Int.cast_ofNat_Int, and_true, true_and])
    rintro m hm
    have hrl := rd_len (quos t ws) (rems t ws) m
    have hrb := rd_bound (q0 := rems t ws) hpb m
    obtain ⟨p, hp⟩ : ∃ p, p = (rd (quos t ws) (rems t ws) m).1 := ⟨_, rfl⟩
    obtain ⟨q, hq⟩ : ∃ q, q = (rd (quos t ws) (rems t ws) m).2 := ⟨_, rfl⟩
    rw [← hp, ← hq] at hrl ⊢
    rw [← hp] at hrb
    by_cases hml : m < leftN t ws
    · have hrs : rd (quos t ws) (rems t ws) (m + 1) = (inc p (bestI q), q.set (bestI q) (-1)) := by rw [rd, ← hp, ← hq]
      simp (disch := ((try simp only [List.length_set, List.length_replicate, List.length_append, List.length_cons, List.length_nil]); omega)) only [aW, aX, aV, aB, aN, aL, aP, aH]
      refine AWP.loopP (α := Nat) g_ref11_Split_2 (fun i => 1 ≤ i ∧ i ≤ q.length) (fun i => [(12, .v (.int .i64 (bestN q i))), (13, .v (.int .i64 i))]) (fun _ => []) (fun i => q.length - i) 1 ⟨Nat.le_refl _, by omega⟩ ?_ ?_
      · simp only [bestN_one]
        exact Cut.of' 2 rfl (by omega) (by simp (disch := first | omega | simp (disch := omega) only [aF, aL, aN]) only [aW, aX, aV, aB, aN, aL, aP, aH, aF, Int.natCast_add, Int.natCast_mul, Int.add_sub_cancel, List.length_nil, Int.cast_ofNat_Int, and_true, true_and]) (by simp (disch := first | omega | simp (disch := omega) only [aF, aL, aN]) only [aW, aX, aV, aB, aN, aL, aP, aH, aF, Int.natCast_add, Int.natCast_mul, Int.add_sub_cancel, List.length_nil, Int.cast_ofNat_Int, and_true, true_and])
      rintro i ⟨hi1, hi2⟩
      have hbl := bestN_lt q i (by omega)
      by_cases hil : i < q.length
      · have hbs : bestN q (i + 1) = if q.getD (bestN q i) 0 < q.getD i 0 then i else bestN q i := rfl
        simp (disch := ((try simp only [List.length_set, List.length_replicate, List.length_append, List.length_cons, List.length_nil]); omega)) only [aW, aX, aV, aB, aN, aL, aP, aH]
        refine ib_intro (fun h5 => ?_) (fun h5 => ?_)
        · rw [if_pos h5] at hbs
          simp (disch := ((try simp only [List.length_set, List.length_replicate, List.length_append, List.length_cons, List.length_nil]); omega)) only [aW, aX, aV, aB, aN, aL, aP, aH]
          refine ⟨i + 1, ⟨by omega, by omega⟩, by omega, ?_⟩
          rw [hbs]
          exact Cut.of' 2 rfl (by omega) (by simp (disch := first | omega | simp (disch := omega) only [aF, aL, aN]) only [aW, aX, aV, aB, aN, aL, aP, aH, aF, Int.natCast_add, Int.natCast_mul, Int.add_sub_cancel, List.length_nil, Int.cast_ofNat_Int, and_true, true_and]) (by simp (disch := first | omega | simp (disch := omega) only [aF, aL, aN]) only [aW, aX, aV, aB, aN, aL, aP, aH, aF, Int.natCast_add, Int.natCast_mul, Int.add_sub_cancel, List.length_nil, Int.cast_ofNat_Int, and_true, true_and])
        · rw [if_neg h5] at hbs
          simp (disch := ((try simp only [List.length_set, List.length_replicate, List.length_append, List.length_cons, List.length_nil]); omega)) only [aW, aX, aV, aB, aN, aL, aP, aH]
          refine ⟨i + 1, ⟨by omega, by omega⟩, by omega, ?_⟩
          rw [hbs]
          exact Cut.of' 2 rfl (by omega) (by simp (disch := first | omega | simp (disch := omega) only [aF, aL, aN]) only [aW, aX, aV, aB, aN, aL, aP, aH, aF, Int.natCast_add, Int.natCast_mul, Int.add_sub_cancel, List.length_nil, Int.cast_ofNat_Int, and_true, true_and]) (by simp (disch := first | omega | simp (disch := omega) only [aF, aL, aN]) only [aW, aX, aV, aB, aN, aL, aP, aH, aF, Int.natCast_add, Int.natCast_mul, Int.add_sub_cancel, List.length_nil, Int.cast_ofNat_Int, and_true, true_and])
      · have hie : i = q.length := by omega
        subst hie
        have hbI : bestN q q.length = bestI q := rfl
        rw [hbI] at hbl ⊢
        have hb := hrb (bestI q) (by omega)
        have hinc : p.set (bestI q) (p.getD (bestI q) 0 + 1) = inc p (bestI q) := rfl
        simp (disch := ((try simp only [List.length_set, List.length_replicate, List.length_append, List.length_cons, List.length_nil]); omega)) only [aW, aX, aV, aB, aN, aL, aP, aH, hinc]
        refine ⟨m + 1, by omega, by omega, ?_⟩
        rw [hrs]
        try simp (disch := ((try simp only [List.length_set, List.length_replicate, List.length_append, List.length_cons, List.length_nil]); omega)) only [aW, aX, aV, aB, aN, aL, aP, aH]
        exact Cut.of' 2 rfl (by omega) (by simp (disch := first | omega | simp (disch := omega) only [aF, aL, aN]) only [aW, aX, aV, aB, aN, aL, aP, aH, aF, Int.natCast_add, Int.natCast_mul, Int.add_sub_cancel, List.length_nil, Int.cast_ofNat_Int, and_true, true_and]) (by simp (disch := first | omega | simp (disch := omega) only [aF, aL, aN]) only [aW, aX, aV, aB, aN, aL, aP, aH, aF, Int.natCast_add, Int.natCast_mul, Int.add_sub_cancel, List.length_nil, Int.cast_ofNat_Int, and_true, true_and, Int.sub_sub])
    · have hme : m = leftN t ws := by omega
      subst hme
      have hpR : p = partsR t ws := hp
      simp (disch := ((try simp only [List.length_set, List.length_replicate, List.length_append, List.length_cons, List.length_nil]); omega)) only [aW, aX, aV, aB, aN, aL, aP, aH, r_ref11_Split]
      refine ⟨.tup [.sl 0 v1 1 0 ws.length, .v (.int .i64 0)], [⟨v1, ints (partsR t ws)⟩], Cut.of' 1 rfl (by omega) ⟨rfl, by rw [hpR]; exact FzL.refl (ii_bd _ _), trivial⟩ ⟨Fz.refl rfl, trivial⟩, .inr ⟨by rw [e1], v1, rfl, rfl⟩⟩
theorem ref11Split_vr {w : Bool} (t : Int) (ws : List Int) : VR P false n_ref11_Split [.v (.int .i64 t), .fs w (ints ws)] [] (isR (listT (splitV t ws))) := (ref11SplitO_vr t ws).cut SplitO.fz
end Go.Proofs.Ytnpbnlafaoldcaa
