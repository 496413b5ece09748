/- Split in the program. No statement is claimed here. -/
import Derived.Test.YtnpbnlafaoldcaaRi
namespace Go.Proofs.Ytnpbnlafaoldcaa
open Go Go.Lft
set_option linter.unusedSimpArgs false
set_option linter.unusedVariables false
attribute [local congr] ob_congr bw_congr ib_congr ck_congr iwA_congr itA_congr aw_congr awp_congr sqA_congr bkA_congr vr_congr gd_congr

/-- The library divides each product. -/
def DivOk (t : Int) (ws : List Int) : Prop := 0 < ws.sum → ∀ i, i < ws.length → VR P false n_bits_Div64 [.v (.int .u64 (t * ws.getD i 0 / 18446744073709551616)), .v (.int .u64 (IntKind.wrap .u64 (t * ws.getD i 0))), .v (.int .u64 ws.sum)] [] (isR (.tup [.v (.int .u64 (t * ws.getD i 0 / ws.sum)), .v (.int .u64 (t * ws.getD i 0 % ws.sum))]))
theorem divOk_small {t : Int} {ws : List Int} (h : SplitOk t ws) (hs : ∀ i, i < ws.length → t * ws.getD i 0 ≤ 18446744073709551615) : DivOk t ws := fun hp i hi => by
  have h1 := hs i hi
  have h2 : 0 ≤ t * ws.getD i 0 := Int.mul_nonneg h.t0.1 (w_le h hi).1
  have := h.sum
  rw [show t * ws.getD i 0 / 18446744073709551616 = 0 by omega, wrap_u64 h2 h1]
  exact div64_small _ _ ⟨h2, h1⟩ ⟨hp, by omega⟩

theorem shareSplitO_vr {w : Bool} (t : Int) (ws : List Int) (hd : splitE t ws = 0 → DivOk t ws) : VR P false n_share_Split [.v (.int .i64 t), .fs w (ints ws)] [] (SplitO t ws) := by
  refine vr_share_Split (by simp) (.inr rfl) fun _ _ => ?_
  simp (disch := ((try simp only [List.length_set, List.length_replicate, List.length_append, List.length_cons, List.length_nil]); omega)) only [aW, aX, aV, aB, aN, aL, aP, aH, s_share_Split, v_share_Split]
  refine ib_intro (fun h1 => ?_) (fun h1 => ?_)
  · simp (disch := ((try simp only [List.length_set, List.length_replicate, List.length_append, List.length_cons, List.length_nil]); omega)) only [aW, aX, aV, aB, aN, aL, aP, aH, r_share_Split]
    exact post_err (.inl ⟨by rw [sp_err h1]; decide, by rw [sp_err h1], rfl⟩)
  simp (disch := ((try simp only [List.length_set, List.length_replicate, List.length_append, List.length_cons, List.length_nil]); omega)) only [aW, aX, aV, aB, aN, aL, aP, aH]
  refine (weighed_vr (w := w) ws).same (by simp (disch := first | omega | simp (disch := omega) only [aF, aL, aN]) only [aW, aX, aV, aB, aN, aL, aP, aH, aF, Int.natCast_add, Int.natCast_mul, Int.add_sub_cancel, List.length_nil, Int.cast_ofNat_Int, and_true, true_and]) rfl (aret_of ?_)
  unfold pairT
  simp (disch := ((try simp only [List.length_set, List.length_replicate, List.length_append, List.length_cons, List.length_nil]); omega)) only [aW, aX, aV, aB, aN, aL, aP, aH]
  refine ib_intro (fun h2 => ?_) (fun h2 => ?_)
  · simp (disch := ((try simp only [List.length_set, List.length_replicate, List.length_append, List.length_cons, List.length_nil]); omega)) only [aW, aX, aV, aB, aN, aL, aP, aH, r_share_Split]
    exact post_err (.inl ⟨by rw [sp_we h1 h2]; exact h2, by rw [sp_we h1 h2], rfl⟩)
  simp (disch := ((try simp only [List.length_set, List.length_replicate, List.length_append, List.length_cons, List.length_nil]); omega)) only [aW, aX, aV, aB, aN, aL, aP, aH]
  refine ib_intro (fun h3 => ?_) (fun h3 => ?_)
  · simp (disch := ((try simp only [List.length_set, List.length_replicate, List.length_append, List.length_cons, List.length_nil]); omega)) only [aW, aX, aV, aB, aN, aL, aP, aH, r_share_Split]
    exact post_err (.inl ⟨by rw [sp_empty h1 h2 h3]; decide, by rw [sp_empty h1 h2 h3], rfl⟩)
  obtain ⟨e0, e1⟩ := sp_ok h1 h2 h3
  have hd := hd e0
  have ok := splitE_ok e0
  obtain ⟨t0, t1⟩ := ok.t0
  obtain ⟨n0, n1⟩ := ok.len
  have hws := ok.sum
  have hl := quos_len t ws
  have hl2 := rems_len t ws
  have hlb := left_bd ok.sp
  rw [ok.we]
  simp (disch := ((try simp only [List.length_set, List.length_replicate, List.length_append, List.length_cons, List.length_nil]); omega)) only [aW, aX, aV, aB, aN, aL, aP, aH]
  refine AWP.loopP (α := Nat) g_share_Split_0 (fun k => k ≤ ws.length) (fun k => [(8, .v (.int .i64 (t - sumK (quos t ws) k))), (9, .v (.int .i64 k))]) (fun k => [(0, ⟨0, ints (frontQ t ws k)⟩), (1, ⟨0, ints (frontR t ws k)⟩), (2, ⟨0, ints (frontO ws.length k)⟩)]) (fun k => ws.length - k) 0 (by omega) ?_ ?_
  · have z1 : frontQ t ws 0 = List.replicate ws.length 0 := by simp [frontQ]
    have z2 : frontR t ws 0 = List.replicate ws.length 0 := by simp [frontR]
    have z3 : frontO ws.length 0 = List.replicate ws.length 0 := by simp [frontO, rng]
    simp only [z1, z2, z3, sumK_zero, Int.sub_zero]
    try simp (disch := ((try simp only [List.length_set, List.length_replicate, List.length_append, List.length_cons, List.length_nil]); omega)) only [aW, aX, aV, aB, aN, aL, aP, aH]
    exact Cut.of' 4 rfl (by omega) (by simp (disch := first | omega | simp (disch := omega) only [aF, aL, aN]) only [aW, aX, aV, aB, aN, aL, aP, aH, aF, Int.natCast_add, Int.natCast_mul, Int.add_sub_cancel, List.length_nil, Int.cast_ofNat_Int, and_true, true_and]) (by simp (disch := first | omega | simp (disch := omega) only [aF, aL, aN]) only [aW, aX, aV, aB, aN, aL, aP, aH, aF, Int.natCast_add, Int.natCast_mul, Int.add_sub_cancel, List.length_nil, Int.cast_ofNat_Int, and_true, true_and])
  rintro k hk
  have hsb := sumQ_bd ok k hk
  have f1 : (frontQ t ws k).length = ws.length := front_len _ _ _ hl hk
  have f2 : (frontR t ws k).length = ws.length := front_len _ _ _ hl2 hk
  have f3 : (frontO ws.length k).length = ws.length := by rw [frontO_eq _ _ hk]; exact front_len _ _ _ (rng_len _ _) hk
  by_cases hlt : k < ws.length
  · have hsb1 := sumQ_bd ok (k + 1) (by omega)
    have hs1 := sumK_succ (quos t ws) k (by omega)
    have g1 : (quos t ws).getD k 0 = t * ws.getD k 0 / ws.sum := getD_map _ _ _ hlt
    have g2 : (rems t ws).getD k 0 = t * ws.getD k 0 % ws.sum := getD_map _ _ _ hlt
    rw [g1] at hs1
    have u1 : (frontQ t ws k).set k (t * ws.getD k 0 / ws.sum) = frontQ t ws (k + 1) := front_set _ _ _ _ hl hlt g1.symm
    have u2 : (frontR t ws k).set k (t * ws.getD k 0 % ws.sum) = frontR t ws (k + 1) := front_set _ _ _ _ hl2 hlt g2.symm
    have u3 : (frontO ws.length k).set k (k : Int) = frontO ws.length (k + 1) := by
      rw [frontO_eq _ _ hk, frontO_eq _ _ (by omega)]
      exact front_set _ _ _ _ (rng_len _ _) hlt (by rw [rng_get _ _ _ hlt, Nat.zero_add])
    have f1' : (frontQ t ws (k + 1)).length = ws.length := front_len _ _ _ hl (by omega)
    have u4 : (frontQ t ws (k + 1)).getD k 0 = t * ws.getD k 0 / ws.sum := by
      rw [← u1, getD_seti, if_pos ⟨rfl, by omega⟩]
    have hwl := w_le ok hlt
    have hqr := q_le ok hlt
    have hrr := r_le ok hlt
    have sa : (t - sumK (quos t ws) k) - t * ws.getD k 0 / ws.sum = t - sumK (quos t ws) (k + 1) := by omega
    simp (disch := ((try simp only [List.length_set, List.length_replicate, List.length_append, List.length_cons, List.length_nil]); omega)) only [aW, aX, aV, aB, aN, aL, aP, aH, Int.toNat_natCast, u3]
    refine ib_intro (fun h4 => ?_) (fun h4 => ?_)
    · have hdk := hd (by omega) k hlt
      simp (disch := ((try simp only [List.length_set, List.length_replicate, List.length_append, List.length_cons, List.length_nil]); omega)) only [aW, aX, aV, aB, aN, aL, aP, aH, wrap_u64]
      refine (mul64_vr t (ws.getD k 0) ⟨t0, by omega⟩ ⟨hwl.1, by omega⟩).same (by simp (disch := first | omega | simp (disch := omega) only [aF, aL, aN]) only [aW, aX, aV, aB, aN, aL, aP, aH, aF, Int.natCast_add, Int.natCast_mul, Int.add_sub_cancel, List.length_nil, Int.cast_ofNat_Int, and_true, true_and]) rfl (aret_of ?_)
      simp (disch := ((try simp only [List.length_set, List.length_replicate, List.length_append, List.length_cons, List.length_nil]); omega)) only [aW, aX, aV, aB, aN, aL, aP, aH, wrap_u64]
      refine hdk.same (by simp (disch := first | omega | simp (disch := omega) only [aF, aL, aN]) only [aW, aX, aV, aB, aN, aL, aP, aH, aF, Int.natCast_add, Int.natCast_mul, Int.add_sub_cancel, List.length_nil, Int.cast_ofNat_Int, and_true, true_and]) rfl (aret_of ?_)
      simp (disch := ((try simp only [List.length_set, List.length_replicate, List.length_append, List.length_cons, List.length_nil]); omega)) only [aW, aX, aV, aB, aN, aL, aP, aH, Int.toNat_natCast, u1, u2, u4, sa]
      refine ⟨?_, ?_⟩
      all_goals
        refine ⟨k + 1, by omega, by omega, ?_⟩
        exact Cut.of' 4 rfl (by omega) (by simp (disch := first | omega | simp (disch := omega) only [aF, aL, aN]) only [aW, aX, aV, aB, aN, aL, aP, aH, aF, Int.natCast_add, Int.natCast_mul, Int.add_sub_cancel, List.length_nil, Int.cast_ofNat_Int, and_true, true_and]) (by simp (disch := first | omega | simp (disch := omega) only [aF, aL, aN]) only [aW, aX, aV, aB, aN, aL, aP, aH, aF, Int.natCast_add, Int.natCast_mul, Int.add_sub_cancel, List.length_nil, Int.cast_ofNat_Int, and_true, true_and])
    · have hz : ws.sum = 0 := by omega
      have z1 : t * ws.getD k 0 / ws.sum = 0 := by rw [hz, Int.ediv_zero]
      have z2 : t * ws.getD k 0 % ws.sum = 0 := by rw [hz, ok.pos hz]; simp
      rw [z1] at sa u1
      rw [z2] at u2
      have u5 : (frontQ t ws k).getD k 0 = 0 := front_get _ _ _ hl hlt
      have v1 : (frontQ t ws k).set k 0 = frontQ t ws k := eq_getD (by simp) fun i hi => by
        rw [getD_seti]; split
        · rename_i h; rw [← h.1, u5]
        · rfl
      have v2 : (frontR t ws k).set k 0 = frontR t ws k := eq_getD (by simp) fun i hi => by
        rw [getD_seti]; split
        · rename_i h; rw [← h.1]; exact (front_get _ _ _ hl2 hlt).symm
        · rfl
      rw [v1] at u1
      rw [v2] at u2
      simp (disch := ((try simp only [List.length_set, List.length_replicate, List.length_append, List.length_cons, List.length_nil]); omega)) only [aW, aX, aV, aB, aN, aL, aP, aH, Int.toNat_natCast, u5, sa]
      refine ⟨k + 1, by omega, by omega, ?_⟩
      rw [← u1, ← u2]
      exact Cut.of' 4 rfl (by omega) (by simp (disch := first | omega | simp (disch := omega) only [aF, aL, aN]) only [aW, aX, aV, aB, aN, aL, aP, aH, aF, Int.natCast_add, Int.natCast_mul, Int.add_sub_cancel, List.length_nil, Int.cast_ofNat_Int, and_true, true_and]) (by simp (disch := first | omega | simp (disch := omega) only [aF, aL, aN]) only [aW, aX, aV, aB, aN, aL, aP, aH, aF, Int.natCast_add, Int.natCast_mul, Int.add_sub_cancel, List.length_nil, Int.cast_ofNat_Int, and_true, true_and])
  · have hke : k = ws.length := by omega
    subst hke
    have tq : frontQ t ws ws.length = quos t ws := by
      unfold frontQ; rw [List.take_of_length_le (by omega), Nat.sub_self]; simp
    have tr : frontR t ws ws.length = rems t ws := by
      unfold frontR; rw [List.take_of_length_le (by omega), Nat.sub_self]; simp
    have to : frontO ws.length ws.length = rng 0 ws.length := by
      unfold frontO; rw [Nat.sub_self]; simp
    have sq : sumK (quos t ws) ws.length = (quos t ws).sum := by rw [← hl, sumK_all]
    have hlN : t - (quos t ws).sum = (leftN t ws : Nat) := by unfold leftN; omega
    have hln : leftN t ws < ws.length := by omega
    have hQ : QOk (rems t ws) := fun i hi => by
      rw [show (rems t ws).getD i 0 = t * ws.getD i 0 % ws.sum from getD_map _ _ _ (by omega)]
      exact r_le ok (by omega)
    have hs := sortStable_vr (p := quos t ws) hQ (by omega)
    unfold HS at hs
    rw [hl2] at hs
    have hpb : ∀ i, i < (quos t ws).length → 0 ≤ (quos t ws).getD i 0 ∧ (quos t ws).getD i 0 ≤ 70368744177664 := fun i hi => by
      rw [show (quos t ws).getD i 0 = t * ws.getD i 0 / ws.sum from getD_map _ _ _ (by omega)]
      have := q_le ok (i := i) (by omega); omega
    rw [tq, tr, to, sq, hlN]
    clear f1 f2 f3 hsb
    simp (disch := ((try simp only [List.length_set, List.length_replicate, List.length_append, List.length_cons, List.length_nil]); omega)) only [aW, aX, aV, aB, aN, aL, aP, aH]
    refine hs.mono ?_
    rintro r H' ⟨rfl, T, T1, T2, T3, rfl⟩
    refine aret_of ?_
    have hsrt := rd_sorted (p0 := quos t ws) (q0 := rems t ws) (T := T) (by omega) (fun i hi => (hQ i hi).1) (by omega) (by rw [hl2]; exact T2) T3
    have hrb := rd_bound (q0 := rems t ws) hpb
    simp (disch := ((try simp only [List.length_set, List.length_replicate, List.length_append, List.length_cons, List.length_nil]); omega)) only [aW, aX, aV, aB, aN, aL, aP, aH]
    refine AWP.loopP (α := Nat) g_share_Split_1 (fun j => j ≤ leftN t ws) (fun j => [(20, .v (.int .i64 j))]) (fun j => [(0, ⟨0, ints (incs (quos t ws) (T.take j))⟩)]) (fun j => leftN t ws - j) 0 (Nat.zero_le _) ?_ ?_
    · simp only [List.take_zero, incs, List.foldl_nil]
      exact Cut.of' 4 rfl (by omega) (by simp (disch := first | omega | simp (disch := omega) only [aF, aL, aN]) only [aW, aX, aV, aB, aN, aL, aP, aH, aF, Int.natCast_add, Int.natCast_mul, Int.add_sub_cancel, List.length_nil, Int.cast_ofNat_Int, and_true, true_and]) (by simp (disch := first | omega | simp (disch := omega) only [aF, aL, aN]) only [aW, aX, aV, aB, aN, aL, aP, aH, aF, Int.natCast_add, Int.natCast_mul, Int.add_sub_cancel, List.length_nil, Int.cast_ofNat_Int, and_true, true_and])
    rintro j hj
    have il := incs_len (quos t ws) (T.take j)
    by_cases hjl : j < leftN t ws
    · have hx := T2 _ (mem_getD (l := T) (i := j) (by omega))
      have his := incs_succ (quos t ws) T j (by omega)
      have hb := hrb j (T.getD j 0).toNat (by omega)
      rw [(hsrt j (by omega)).1] at hb
      unfold inc at his
      simp (disch := ((try simp only [List.length_set, List.length_replicate, List.length_append, List.length_cons, List.length_nil]); omega)) only [aW, aX, aV, aB, aN, aL, aP, aH, Int.toNat_natCast]
      refine ⟨j + 1, by omega, by omega, ?_⟩
      rw [his]
      exact Cut.of' 4 rfl (by omega) (by simp (disch := first | omega | simp (disch := omega) only [aF, aL, aN]) only [aW, aX, aV, aB, aN, aL, aP, aH, aF, Int.natCast_add, Int.natCast_mul, Int.add_sub_cancel, List.length_nil, Int.cast_ofNat_Int, and_true, true_and]) (by simp (disch := first | omega | simp (disch := omega) only [aF, aL, aN]) only [aW, aX, aV, aB, aN, aL, aP, aH, aF, Int.natCast_add, Int.natCast_mul, Int.add_sub_cancel, List.length_nil, Int.cast_ofNat_Int, and_true, true_and])
    · have hje : j = leftN t ws := by omega
      subst hje
      have hpR : partsR t ws = incs (quos t ws) (T.take (leftN t ws)) := (hsrt _ (by omega)).1
      simp (disch := ((try simp only [List.length_set, List.length_replicate, List.length_append, List.length_cons, List.length_nil]); omega)) only [aW, aX, aV, aB, aN, aL, aP, aH, r_share_Split]
      exact ⟨.tup [.sl 0 0 1 0 ws.length, .v (.int .i64 0)], [⟨0, ints (partsR t ws)⟩], Cut.of' 1 rfl (by omega) ⟨rfl, by rw [hpR]; exact FzL.refl (ii_bd _ _), trivial⟩ ⟨Fz.refl rfl, trivial⟩, .inr ⟨by rw [e1], 0, rfl, rfl⟩⟩
theorem shareSplit_vr {w : Bool} (t : Int) (ws : List Int) (hd : splitE t ws = 0 → DivOk t ws) : VR P false n_share_Split [.v (.int .i64 t), .fs w (ints ws)] [] (isR (listT (splitV t ws))) := (shareSplitO_vr t ws hd).cut SplitO.fz
end Go.Proofs.Ytnpbnlafaoldcaa
