/- GraphMutual: the law's walk. No statement is claimed here. -/
import Derived.Test.YtaiidcelopfjlaaGx
namespace Go.Proofs.Ytaiidcelopfjlaa
open Go Go.Lft
set_option linter.unusedSimpArgs false
set_option linter.unusedVariables false
attribute [local congr] ob_congr bw_congr ib_congr ck_congr iwA_congr itA_congr aw_congr awp_congr sqA_congr bkA_congr vr_congr gd_congr

theorem reach_self {n : Int} {l : Arcs} (hr : inR n l) {v : Int} (h0 : 0 ≤ v) (h1 : v < n) : (reachL n l v).getD v.toNat false = true := (reachL_iff hr h0 h1 h0).2 (.refl v)
theorem reach_flip {n : Int} {l : Arcs} (hr : inR n l) {v w : Int} (h0 : 0 ≤ v) (h1 : v < n) (h2 : 0 ≤ w) (h3 : w < n) : (reachL n (backL l) w).getD v.toNat false = (reachL n l v).getD w.toNat false := by
  rw [Bool.eq_iff_iff]
  have a1 := reachL_iff hr h0 h1 h2
  have a2 := reachL_iff (inR_swap hr) h2 h3 h0
  unfold vis at a1 a2
  rw [a1, show (reachL n (backL l) w).getD v.toNat false = true ↔ Path (backL l) w v from a2, path_back]
theorem mutual_iff {n : Int} {l : Arcs} (hr : inR n l) {v w : Int} (h0 : 0 ≤ v) (h1 : v < n) (h2 : 0 ≤ w) (h3 : w < n) : both n l v.toNat w.toNat = ((reachL n l v).getD w.toNat false && (reachL n l w).getD v.toNat false) := by
  unfold both
  rw [Int.toNat_of_nonneg h0, reach_flip hr h2 h3 h0 h1]

theorem u8_of {a : Int} (h : (Lit.int .u8 a).wf = true) : 0 ≤ a ∧ a ≤ 255 := by
  simp only [Lit.wf, Bool.and_eq_true, decide_eq_true_eq] at h
  have h1 : IntKind.u8.max = 255 := rfl
  have h2 : IntKind.u8.min = 0 := rfl
  omega
theorem graphMutual_vr {w : Bool} (n : Int) (l : Arcs) (a b : Int) (ha : 0 ≤ a ∧ a ≤ 255) (hb : 0 ≤ b ∧ b ≤ 255) : VR P false n_law09_GraphMutual [graphA w n l, .v (.int .u8 a), .v (.int .u8 b)] [] (isR (.v (.bool true))) := by
  refine vr_law09_GraphMutual (by simp) (.inr rfl) fun _ _ => ?_
  unfold graphA
  simp (disch := ((try simp only [List.length_set, List.length_replicate, List.length_append, List.length_cons, List.length_nil]); omega)) only [aW, aX, aV, aB, aN, aL, aP, aH, s_law09_GraphMutual, v_law09_GraphMutual]
  refine (groups_vr (w := w) n l).same (by unfold graphA; simp (disch := first | omega | simp (disch := omega) only [aF, aL, aN]) only [aW, aX, aV, aB, aN, aL, aP, aH, aF, Int.natCast_add, Int.natCast_mul, Int.add_sub_cancel, List.length_nil, Int.cast_ofNat_Int, and_true, true_and]) (by simp (disch := first | omega | simp (disch := omega) only [aF, aL, aN]) only [aW, aX, aV, aB, aN, aL, aP, aH, aF, Int.natCast_add, Int.natCast_mul, Int.add_sub_cancel, List.length_nil, Int.cast_ofNat_Int, and_true, true_and]) (aret_of ?_)
  simp (disch := ((try simp only [List.length_set, List.length_replicate, List.length_append, List.length_cons, List.length_nil]); omega)) only [aW, aX, aV, aB, aN, aL, aP, aH]
  refine (large_vr (w := w) n l).same (by unfold graphA; simp (disch := first | omega | simp (disch := omega) only [aF, aL, aN]) only [aW, aX, aV, aB, aN, aL, aP, aH, aF, Int.natCast_add, Int.natCast_mul, Int.add_sub_cancel, List.length_nil, Int.cast_ofNat_Int, and_true, true_and]) rfl (aret_of ?_)
  simp (disch := ((try simp only [List.length_set, List.length_replicate, List.length_append, List.length_cons, List.length_nil]); omega)) only [aW, aX, aV, aB, aN, aL, aP, aH]
  have hgr : (groupsR n l).2 = gcheck n l := by unfold groupsR; split <;> simp_all
  rw [hgr]
  refine ib_intro (fun h1 => ?_) (fun h1 => ?_)
  · simp (disch := ((try simp only [List.length_set, List.length_replicate, List.length_append, List.length_cons, List.length_nil]); omega)) only [aW, aX, aV, aB, aN, aL, aP, aH]
    refine awake_vr.same (by simp (disch := first | omega | simp (disch := omega) only [aF, aL, aN]) only [aW, aX, aV, aB, aN, aL, aP, aH, aF, Int.natCast_add, Int.natCast_mul, Int.add_sub_cancel, List.length_nil, Int.cast_ofNat_Int, and_true, true_and]) rfl (aret_of ?_)
    simp (disch := ((try simp only [List.length_set, List.length_replicate, List.length_append, List.length_cons, List.length_nil]); omega)) only [aW, aX, aV, aB, aN, aL, aP, aH, r_law09_GraphMutual]
    exact post_v ⟨rfl, rfl⟩
  have hg : gcheck n l = 0 := by omega
  obtain ⟨c1, c2, c3, c4⟩ := gcheck_ok hg
  have hn1 : 1 ≤ n := by omega
  have hG : (groupsR n l).1 = (gst n l n.toNat).2 := by unfold groupsR; rw [if_neg (by simp [hg])]
  rw [hG]
  have gp := gp_of c4
  generalize (gst n l n.toNat).2 = G at gp ⊢
  have hv : 0 ≤ a % n ∧ a % n < n := ⟨Int.emod_nonneg _ (by omega), Int.emod_lt_of_pos _ (by omega)⟩
  have hw : 0 ≤ b % n ∧ b % n < n := ⟨Int.emod_nonneg _ (by omega), Int.emod_lt_of_pos _ (by omega)⟩
  have e1 : visitR n l l (a % n) = (reachL n l (a % n), 0) := by unfold visitR; rw [if_neg (by simp [hg]), if_neg (by omega)]
  have e2 : visitR n l l (b % n) = (reachL n l (b % n), 0) := by unfold visitR; rw [if_neg (by simp [hg]), if_neg (by omega)]
  have e3 : visitR n l (backL l) (b % n) = (reachL n (backL l) (b % n), 0) := by unfold visitR; rw [if_neg (by simp [hg]), if_neg (by omega)]
  have q1 := reach_vr (w := w) n l (a % n)
  have q2 := reach_vr (w := w) n l (b % n)
  have q3 := back_vr (w := w) n l (b % n)
  rw [e1] at q1
  rw [e2] at q2
  rw [e3] at q3
  have l1 := reachL_len n l (a % n)
  have l2 := reachL_len n l (b % n)
  have l3 := reachL_len n (backL l) (b % n)
  have s1 := reach_self c4 hv.1 hv.2
  have s2 := reach_flip c4 hv.1 hv.2 hw.1 hw.2
  have s3 := mutual_iff c4 hv.1 hv.2 hw.1 hw.2
  have s4 := gNo_same gp hv hw
  rw [s3] at s4
  simp (disch := ((try simp only [List.length_set, List.length_replicate, List.length_append, List.length_cons, List.length_nil]); omega)) only [aW, aX, aV, aB, aN, aL, aP, aH]
  generalize a % n = x at *
  generalize b % n = y at *
  refine q1.same (by unfold graphA; simp (disch := first | omega | simp (disch := omega) only [aF, aL, aN]) only [aW, aX, aV, aB, aN, aL, aP, aH, aF, Int.natCast_add, Int.natCast_mul, Int.add_sub_cancel, List.length_nil, Int.cast_ofNat_Int, and_true, true_and]) (by simp (disch := first | omega | simp (disch := omega) only [aF, aL, aN]) only [aW, aX, aV, aB, aN, aL, aP, aH, aF, Int.natCast_add, Int.natCast_mul, Int.add_sub_cancel, List.length_nil, Int.cast_ofNat_Int, and_true, true_and]) (aret_of ?_)
  simp (disch := ((try simp only [List.length_set, List.length_replicate, List.length_append, List.length_cons, List.length_nil]); omega)) only [aW, aX, aV, aB, aN, aL, aP, aH]
  refine q2.same (by unfold graphA; simp (disch := first | omega | simp (disch := omega) only [aF, aL, aN]) only [aW, aX, aV, aB, aN, aL, aP, aH, aF, Int.natCast_add, Int.natCast_mul, Int.add_sub_cancel, List.length_nil, Int.cast_ofNat_Int, and_true, true_and]) (by simp (disch := first | omega | simp (disch := omega) only [aF, aL, aN]) only [aW, aX, aV, aB, aN, aL, aP, aH, aF, Int.natCast_add, Int.natCast_mul, Int.add_sub_cancel, List.length_nil, Int.cast_ofNat_Int, and_true, true_and]) (aret_of ?_)
  simp (disch := ((try simp only [List.length_set, List.length_replicate, List.length_append, List.length_cons, List.length_nil]); omega)) only [aW, aX, aV, aB, aN, aL, aP, aH]
  refine q3.same (by unfold graphA; simp (disch := first | omega | simp (disch := omega) only [aF, aL, aN]) only [aW, aX, aV, aB, aN, aL, aP, aH, aF, Int.natCast_add, Int.natCast_mul, Int.add_sub_cancel, List.length_nil, Int.cast_ofNat_Int, and_true, true_and]) (by simp (disch := first | omega | simp (disch := omega) only [aF, aL, aN]) only [aW, aX, aV, aB, aN, aL, aP, aH, aF, Int.natCast_add, Int.natCast_mul, Int.add_sub_cancel, List.length_nil, Int.cast_ofNat_Int, and_true, true_and]) (aret_of ?_)
  simp (disch := ((try simp only [List.length_set, List.length_replicate, List.length_append, List.length_cons, List.length_nil]); omega)) only [aW, aX, aV, aB, aN, aL, aP, aH]
  have hgl := gp.len
  refine AWP.loopP g_law09_GraphMutual_0 (fun k : Nat => k ≤ G.length) (fun k => [(3, .v (.bool false)), (16, .v (.int .i64 k))]) (fun k => [(1, ⟨0, ints (tabI n.toNat fun u => gNo G k u)⟩)]) (fun k => G.length - k) 0 (by omega) ?_ ?_
  · have e0 : (tabI n.toNat fun u => gNo G 0 u) = List.replicate n.toNat 0 := by
      rw [tabI_rep]; exact tabI_ext fun v _ => gNo_zero G v
    simp (disch := ((try simp only [List.length_set, List.length_replicate, List.length_append, List.length_cons, List.length_nil]); omega)) only [aW, aX, aV, aB, aN, aL, aP, aH, e0]
    exact Cut.of' 2 rfl (by omega) (by simp (disch := first | omega | simp (disch := omega) only [aF, aL, aN]) only [aW, aX, aV, aB, aN, aL, aP, aH, aF, Int.natCast_add, Int.natCast_mul, Int.add_sub_cancel, List.length_nil, Int.cast_ofNat_Int, and_true, true_and]) (by simp (disch := first | omega | simp (disch := omega) only [aF, aL, aN]) only [aW, aX, aV, aB, aN, aL, aP, aH, aF, Int.natCast_add, Int.natCast_mul, Int.add_sub_cancel, List.length_nil, Int.cast_ofNat_Int, and_true, true_and])
  rintro k hk
  by_cases hkl : k < G.length
  · have hrl := gp.rlen k hkl
    simp (disch := ((try simp only [List.length_set, List.length_replicate, List.length_append, List.length_cons, List.length_nil]); omega)) only [aW, aX, aV, aB, aN, aL, aP, aH]
    refine AWP.loopP g_law09_GraphMutual_1 (fun j : Nat => j ≤ (G.getD k []).length) (fun j => [(3, .v (.bool false)), (22, .v (.int .i64 j))]) (fun j => [(1, ⟨0, ints (tabI n.toNat fun u => gMd G k j u)⟩)]) (fun j => (G.getD k []).length - j) 0 (by omega) ?_ ?_
    · simp only [gMd_zero]
      try simp (disch := ((try simp only [List.length_set, List.length_replicate, List.length_append, List.length_cons, List.length_nil]); omega)) only [aW, aX, aV, aB, aN, aL, aP, aH]
      exact Cut.of' 2 rfl (by omega) (by simp (disch := first | omega | simp (disch := omega) only [aF, aL, aN]) only [aW, aX, aV, aB, aN, aL, aP, aH, aF, Int.natCast_add, Int.natCast_mul, Int.add_sub_cancel, List.length_nil, Int.cast_ofNat_Int, and_true, true_and]) (by simp (disch := first | omega | simp (disch := omega) only [aF, aL, aN]) only [aW, aX, aV, aB, aN, aL, aP, aH, aF, Int.natCast_add, Int.natCast_mul, Int.add_sub_cancel, List.length_nil, Int.cast_ofNat_Int, and_true, true_and])
    rintro j hj
    have hTl := tabI_len n.toNat fun u => gMd G k j u
    by_cases hjl : j < (G.getD k []).length
    · have hm : (G.getD k []).getD j 0 ∈ G.getD k [] := by
        rw [show (G.getD k []).getD j 0 = (G.getD k [])[j] by rw [List.getD_eq_getElem?_getD (l := G.getD k []), List.getElem?_eq_getElem hjl]; rfl]
        exact List.getElem_mem hjl
      obtain ⟨r1, r2⟩ := gp.rng k hkl _ hm
      have hz := gMd_new gp hkl hjl
      have hst := gMd_step gp hkl hjl
      have hg1 := tabI_get n.toNat (fun u => gMd G k j u) ((G.getD k []).getD j 0).toNat (by omega)
      rw [Int.toNat_of_nonneg r1, hz] at hg1
      have e4 : (tabI n.toNat fun u => gMd G k j u).set ((G.getD k []).getD j 0).toNat ((k : Int) + 1) = tabI n.toNat fun u => gMd G k (j + 1) u := by
        rw [tabI_set _ _ _ _ (by omega)]
        refine tabI_ext fun v _ => ?_
        rw [hst]
        by_cases hv : v = ((G.getD k []).getD j 0).toNat
        · have : (v : Int) = (G.getD k []).getD j 0 := by omega
          rw [if_pos hv, if_pos this]; omega
        · have : ¬ (v : Int) = (G.getD k []).getD j 0 := by omega
          rw [if_neg hv, if_neg this]
      simp (disch := ((try simp only [List.length_set, List.length_replicate, List.length_append, List.length_cons, List.length_nil]); omega)) only [aW, aX, aV, aB, aN, aL, aP, aH, hg1, e4]
      refine ⟨j + 1, by omega, by omega, ?_⟩
      exact Cut.of' 2 rfl (by omega) (by simp (disch := first | omega | simp (disch := omega) only [aF, aL, aN]) only [aW, aX, aV, aB, aN, aL, aP, aH, aF, Int.natCast_add, Int.natCast_mul, Int.add_sub_cancel, List.length_nil, Int.cast_ofNat_Int, and_true, true_and]) (by simp (disch := first | omega | simp (disch := omega) only [aF, aL, aN]) only [aW, aX, aV, aB, aN, aL, aP, aH, aF, Int.natCast_add, Int.natCast_mul, Int.add_sub_cancel, List.length_nil, Int.cast_ofNat_Int, and_true, true_and])
    · have hje : j = (G.getD k []).length := by omega
      subst hje
      simp (disch := ((try simp only [List.length_set, List.length_replicate, List.length_append, List.length_cons, List.length_nil]); omega)) only [aW, aX, aV, aB, aN, aL, aP, aH]
      refine ⟨k + 1, by omega, by omega, ?_⟩
      simp only [gMd_all gp hkl]
      exact Cut.of' 2 rfl (by omega) (by simp (disch := first | omega | simp (disch := omega) only [aF, aL, aN]) only [aW, aX, aV, aB, aN, aL, aP, aH, aF, Int.natCast_add, Int.natCast_mul, Int.add_sub_cancel, List.length_nil, Int.cast_ofNat_Int, and_true, true_and]) (by simp (disch := first | omega | simp (disch := omega) only [aF, aL, aN]) only [aW, aX, aV, aB, aN, aL, aP, aH, aF, Int.natCast_add, Int.natCast_mul, Int.add_sub_cancel, List.length_nil, Int.cast_ofNat_Int, and_true, true_and])
  · have hke : k = G.length := by omega
    subst hke
    have hTl := tabI_len n.toNat fun u => gNo G G.length u
    simp (disch := ((try simp only [List.length_set, List.length_replicate, List.length_append, List.length_cons, List.length_nil]); omega)) only [aW, aX, aV, aB, aN, aL, aP, aH]
    refine AWP.loopP g_law09_GraphMutual_2 (fun i : Nat => i ≤ n.toNat) (fun i => [(3, .v (.bool false)), (27, .v (.int .i64 i))]) (fun _ => []) (fun i => n.toNat - i) 0 (by omega) ?_ ?_
    · try simp (disch := ((try simp only [List.length_set, List.length_replicate, List.length_append, List.length_cons, List.length_nil]); omega)) only [aW, aX, aV, aB, aN, aL, aP, aH]
      exact Cut.of' 2 rfl (by omega) (by simp (disch := first | omega | simp (disch := omega) only [aF, aL, aN]) only [aW, aX, aV, aB, aN, aL, aP, aH, aF, Int.natCast_add, Int.natCast_mul, Int.add_sub_cancel, List.length_nil, Int.cast_ofNat_Int, and_true, true_and]) (by simp (disch := first | omega | simp (disch := omega) only [aF, aL, aN]) only [aW, aX, aV, aB, aN, aL, aP, aH, aF, Int.natCast_add, Int.natCast_mul, Int.add_sub_cancel, List.length_nil, Int.cast_ofNat_Int, and_true, true_and])
    rintro i hi
    by_cases hil : i < n.toNat
    · have hg1 := tabI_get n.toNat (fun u => gNo G G.length u) i (by omega)
      obtain ⟨p, p1, p2⟩ := gp.cover i (by omega) (by omega)
      rw [gNo_at gp p1 p2] at hg1
      simp (disch := ((try simp only [List.length_set, List.length_replicate, List.length_append, List.length_cons, List.length_nil]); omega)) only [aW, aX, aV, aB, aN, aL, aP, aH, hg1]
      refine ⟨i + 1, by omega, by omega, ?_⟩
      exact Cut.of' 2 rfl (by omega) (by simp (disch := first | omega | simp (disch := omega) only [aF, aL, aN]) only [aW, aX, aV, aB, aN, aL, aP, aH, aF, Int.natCast_add, Int.natCast_mul, Int.add_sub_cancel, List.length_nil, Int.cast_ofNat_Int, and_true, true_and]) (by simp (disch := first | omega | simp (disch := omega) only [aF, aL, aN]) only [aW, aX, aV, aB, aN, aL, aP, aH, aF, Int.natCast_add, Int.natCast_mul, Int.add_sub_cancel, List.length_nil, Int.cast_ofNat_Int, and_true, true_and])
    · have hie : i = n.toNat := by omega
      subst hie
      have hg1 := tabI_get n.toNat (fun u => gNo G G.length u) x.toNat (by omega)
      have hg2 := tabI_get n.toNat (fun u => gNo G G.length u) y.toNat (by omega)
      rw [Int.toNat_of_nonneg hv.1] at hg1
      rw [Int.toNat_of_nonneg hw.1] at hg2
      simp (disch := ((try simp only [List.length_set, List.length_replicate, List.length_append, List.length_cons, List.length_nil]); omega)) only [aW, aX, aV, aB, aN, aL, aP, aH, hg1, hg2, s1, s2]
      have hd : decide (gNo G G.length x = gNo G G.length y) = ((reachL n l x).getD y.toNat false && (reachL n l y).getD x.toNat false) := by
        rw [Bool.eq_iff_iff, decide_eq_true_eq]; exact s4
      rw [hd, beq_self_eq_true, beq_self_eq_true]
      simp (disch := ((try simp only [List.length_set, List.length_replicate, List.length_append, List.length_cons, List.length_nil]); omega)) only [aW, aX, aV, aB, aN, aL, aP, aH]
      refine awake_vr.same (by simp (disch := first | omega | simp (disch := omega) only [aF, aL, aN]) only [aW, aX, aV, aB, aN, aL, aP, aH, aF, Int.natCast_add, Int.natCast_mul, Int.add_sub_cancel, List.length_nil, Int.cast_ofNat_Int, and_true, true_and]) rfl (aret_of ?_)
      simp (disch := ((try simp only [List.length_set, List.length_replicate, List.length_append, List.length_cons, List.length_nil]); omega)) only [aW, aX, aV, aB, aN, aL, aP, aH, r_law09_GraphMutual]
      exact post_v ⟨rfl, rfl⟩
end Go.Proofs.Ytaiidcelopfjlaa
