/- The walk of LayoutLonger. -/
import Derived.Test.YtjhdedifmhkhbaaPm
namespace Go.Proofs.Ytjhdedifmhkhbaa
open Go Go.Lft
set_option linter.unusedSimpArgs false
set_option linter.unusedVariables false
attribute [local congr] ob_congr bw_congr ib_congr ck_congr iwA_congr itA_congr aw_congr awp_congr sqA_congr bkA_congr vr_congr gd_congr

theorem drB_set {p : Pl} (h : POk p) {k : Nat} (hk : k < p.bs.length) {n : Int} (hn : (p.bs.getD k b0).ln ≤ n) : drB (setP p k n) = drB p := by
  unfold drB
  rw [Bool.eq_iff_iff]
  simp only [List.all_eq_true, List.mem_range]
  constructor
  · intro hx m hm mt hmt
    have hmt' : mt < p.mat.toNat := hmt
    rw [← (way_set h hk hn (mt := mt) (by omega) (by omega) hm).1]; exact hx m hm mt hmt
  · intro hx m hm mt hmt
    have hmt' : mt < p.mat.toNat := hmt
    rw [(way_set h hk hn (mt := mt) (by omega) (by omega) hm).1]; exact hx m hm mt hmt

theorem layoutLonger_vr (p : Pl) (x y : Int) (hx : 0 ≤ x ∧ x ≤ 255) (hy : fit y) : VR P false n_law34_LayoutLonger [plA true true p, .v (.int .u8 x), .v (.int .i64 y)] [] (isR (.v (.bool true))) := by
  refine vr_law34_LayoutLonger (by simp) (.inr rfl) fun _ _ => ?_
  unfold plA plC
  simp (disch := ((try simp only [List.length_set, List.length_replicate, List.length_append, List.length_cons, List.length_nil]); omega)) only [aW, aX, aV, aB, aN, aL, aP, aH, aM, s_law34_LayoutLonger, v_law34_LayoutLonger]
  refine (great_vr (w := true) (v := true) p).useE (LdL.refl (by simp (disch := first | omega | simp (disch := omega) only [aF, aL, aN, aM]) only [aW, aX, aV, aB, aN, aL, aP, aH, aM, aF, Int.natCast_add, Int.natCast_mul, Int.add_sub_cancel, List.length_nil, Int.cast_ofNat_Int, and_true, true_and])) great_c ?_
  rintro r ⟨_, b, rfl⟩
  refine aret_of ?_
  by_cases hg : b = true ∨ p.bs.length = 0
  · rcases hg with rfl | hl0 <;> try cases b
    all_goals
      simp (disch := ((try simp only [List.length_set, List.length_replicate, List.length_append, List.length_cons, List.length_nil]); omega)) only [aW, aX, aV, aB, aN, aL, aP, aH, aM, Int.toNat_one]
      refine awake34_vr.same (by simp (disch := first | omega | simp (disch := omega) only [aF, aL, aN, aM]) only [aW, aX, aV, aB, aN, aL, aP, aH, aM, aF, Int.natCast_add, Int.natCast_mul, Int.add_sub_cancel, List.length_nil, Int.cast_ofNat_Int, and_true, true_and]) rfl (aret_of ?_)
      simp (disch := ((try simp only [List.length_set, List.length_replicate, List.length_append, List.length_cons, List.length_nil]); omega)) only [aW, aX, aV, aB, aN, aL, aP, aH, aM, r_law34_LayoutLonger]
      exact post_v ⟨rfl, rfl⟩
  obtain rfl : b = false := by cases b with
    | false => rfl
    | true => exact (hg (.inl rfl)).elim
  have hl0 : p.bs.length ≠ 0 := fun h => hg (.inr h)
  simp (disch := ((try simp only [List.length_set, List.length_replicate, List.length_append, List.length_cons, List.length_nil]); omega)) only [aW, aX, aV, aB, aN, aL, aP, aH, aM, Int.toNat_one]
  refine (layoutCheck_vr (w := true) (v := true) p).same (by unfold plA plC; simp (disch := first | omega | simp (disch := omega) only [aF, aL, aN, aM]) only [aW, aX, aV, aB, aN, aL, aP, aH, aM, aF, Int.natCast_add, Int.natCast_mul, Int.add_sub_cancel, List.length_nil, Int.cast_ofNat_Int, and_true, true_and]) rfl (aret_of ?_)
  simp (disch := ((try simp only [List.length_set, List.length_replicate, List.length_append, List.length_cons, List.length_nil]); omega)) only [aW, aX, aV, aB, aN, aL, aP, aH, aM, Int.toNat_one]
  refine ib_intro (fun hc => ?_) (fun hc => ?_)
  · simp (disch := ((try simp only [List.length_set, List.length_replicate, List.length_append, List.length_cons, List.length_nil]); omega)) only [aW, aX, aV, aB, aN, aL, aP, aH, aM, Int.toNat_one]
    refine awake34_vr.same (by simp (disch := first | omega | simp (disch := omega) only [aF, aL, aN, aM]) only [aW, aX, aV, aB, aN, aL, aP, aH, aM, aF, Int.natCast_add, Int.natCast_mul, Int.add_sub_cancel, List.length_nil, Int.cast_ofNat_Int, and_true, true_and]) rfl (aret_of ?_)
    simp (disch := ((try simp only [List.length_set, List.length_replicate, List.length_append, List.length_cons, List.length_nil]); omega)) only [aW, aX, aV, aB, aN, aL, aP, aH, aM, r_law34_LayoutLonger]
    exact post_v ⟨rfl, rfl⟩
  have hc0 : pcheck p = 0 := Classical.not_not.1 hc
  have ok := pcheck_ok hc0
  have hm2 := ok.m2
  have hn2 := ok.n2
  have hb2 := ok.b2
  have wx : IntKind.wrap .i64 x = x := wrap_in (by omega) (by omega)
  obtain ⟨N, hN⟩ : ∃ N : Nat, x % (p.bs.length : Int) = N := ⟨(x % (p.bs.length : Int)).toNat, by
    have := Int.emod_nonneg x (show (p.bs.length : Int) ≠ 0 by omega); omega⟩
  have hNl : N < p.bs.length := by
    have := Int.emod_lt_of_pos x (show (0 : Int) < p.bs.length by omega); omega
  have t1 : x.tmod (p.bs.length : Int) = N := by rw [Int.tmod_eq_emod_of_nonneg hx.1]; exact hN
  have hbt := ok.bt _ (mem_get b0 hNl)
  simp (disch := ((try simp only [List.length_set, List.length_replicate, List.length_append, List.length_cons, List.length_nil]); omega)) only [aW, aX, aV, aB, aN, aL, aP, aH, aM, Int.toNat_one, wx, t1, hN, Int.toNat_natCast]
  refine ib_intro (fun h5 => ?_) (fun h5 => ?_)
  · simp (disch := ((try simp only [List.length_set, List.length_replicate, List.length_append, List.length_cons, List.length_nil]); omega)) only [aW, aX, aV, aB, aN, aL, aP, aH, aM, Int.toNat_one]
    refine awake34_vr.same (by simp (disch := first | omega | simp (disch := omega) only [aF, aL, aN, aM]) only [aW, aX, aV, aB, aN, aL, aP, aH, aM, aF, Int.natCast_add, Int.natCast_mul, Int.add_sub_cancel, List.length_nil, Int.cast_ofNat_Int, and_true, true_and]) rfl (aret_of ?_)
    simp (disch := ((try simp only [List.length_set, List.length_replicate, List.length_append, List.length_cons, List.length_nil]); omega)) only [aW, aX, aV, aB, aN, aL, aP, aH, aM, r_law34_LayoutLonger]
    exact post_v ⟨rfl, rfl⟩
  have n2 : (1 : Nat) + 1 = 2 := rfl
  have hnew := fun H => bts_new H true p.bs
  have hbl := btc_len p.bs
  have hst := btc_set y p.bs N hNl
  simp (disch := ((try simp only [List.length_set, List.length_replicate, List.length_append, List.length_cons, List.length_nil]); omega)) only [aW, aX, aV, aB, aN, aL, aP, aH, aM, Int.toNat_one, Int.toNat_natCast, n2, hnew, hst]
  have hq := pcheck_set hc0 hNl (n := y) ⟨by omega, by omega⟩
  have hw := fun mt h0 h1 m hm => way_set ok hNl (n := y) (by omega) (mt := mt) h0 h1 (m := m) hm
  have e1 : drainR p = (drB p, 0) := by unfold drainR; rw [if_neg (by omega)]
  have e2 : drainR (setP p N y) = (drB p, 0) := by unfold drainR; rw [if_neg (by omega), drB_set ok hNl (by omega)]
  have hd1 := layoutDrains_vr (w := true) (v := true) p
  have hd2 := layoutDrains_vr (w := true) (v := false) (setP p N y)
  rw [e1] at hd1
  rw [e2] at hd2
  have hh1 := fun (m mt : Int) => layoutHeight_vr (w := true) (v := true) p m mt
  have hh2 := fun (m mt : Int) => layoutHeight_vr (w := true) (v := false) (setP p N y) m mt
  have hfz : ∀ H, FzL 3 H (btcells (setLn p.bs N y)) (btcells (setLn p.bs N y)) = True := fun H => eq_true (FzL.refl (btc_bd _ _))
  generalize drB p = D at *
  refine hd1.same (by unfold plA plC; simp (disch := first | omega | simp (disch := omega) only [aF, aL, aN, aM]) only [aW, aX, aV, aB, aN, aL, aP, aH, aM, aF, Int.natCast_add, Int.natCast_mul, Int.add_sub_cancel, List.length_nil, Int.cast_ofNat_Int, and_true, true_and]) rfl (aret_of ?_)
  simp (disch := ((try simp only [List.length_set, List.length_replicate, List.length_append, List.length_cons, List.length_nil]); omega)) only [aW, aX, aV, aB, aN, aL, aP, aH, aM, Int.toNat_one, Int.toNat_natCast, n2, hnew, hst]
  refine hd2.use (args' := [plA true false (setP p N y)]) ⟨Ld.agg ⟨Ld.refl rfl, Ld.refl (by simp (disch := first | omega | simp (disch := omega) only [aF, aL, aN, aM]) only [aW, aX, aV, aB, aN, aL, aP, aH, aM, aF, Int.natCast_add, Int.natCast_mul, Int.add_sub_cancel, List.length_nil, Int.cast_ofNat_Int, and_true, true_and]), ld_bts _ 2 1 _ (setLn p.bs N y) (setLn_len _ _ _).symm rfl, Ld.refl rfl, trivial⟩, trivial⟩ rfl (aret_of ?_)
  cases D <;> simp (disch := ((try simp only [List.length_set, List.length_replicate, List.length_append, List.length_cons, List.length_nil]); omega)) only [aW, aX, aV, aB, aN, aL, aP, aH, aM, Int.toNat_one, Int.toNat_natCast, n2]
  all_goals
    refine AWP.loopP g_law34_LayoutLonger_0 (fun i : Nat => i ≤ p.ms.length) (fun i => [(11, .v (.int .i64 i))]) (fun _ => []) (fun i => p.ms.length - i) 0 (by omega) ?_ ?_
    · exact Cut.of' 3 rfl (by omega) (by simp (disch := first | omega | simp (disch := omega) only [aF, aL, aN, aM]) only [aW, aX, aV, aB, aN, aL, aP, aH, aM, aF, Int.natCast_add, Int.natCast_mul, Int.add_sub_cancel, List.length_nil, Int.cast_ofNat_Int, and_true, true_and, hfz]) (by simp (disch := first | omega | simp (disch := omega) only [aF, aL, aN, aM]) only [aW, aX, aV, aB, aN, aL, aP, aH, aM, aF, Int.natCast_add, Int.natCast_mul, Int.add_sub_cancel, List.length_nil, Int.cast_ofNat_Int, and_true, true_and])
    rintro i hi
    by_cases hlt : i < p.ms.length
    · simp (disch := ((try simp only [List.length_set, List.length_replicate, List.length_append, List.length_cons, List.length_nil]); omega)) only [aW, aX, aV, aB, aN, aL, aP, aH, aM, Int.toNat_one]
      refine AWP.loopP (α := Nat) g_law34_LayoutLonger_1 (fun k => (k : Int) ≤ p.mat) (fun k => [(12, .v (.int .i64 k))]) (fun _ => []) (fun k => p.mat.toNat - k) 0 (by have := ok.m1; omega) ?_ ?_
      · exact Cut.of' 3 rfl (by omega) (by simp (disch := first | omega | simp (disch := omega) only [aF, aL, aN, aM]) only [aW, aX, aV, aB, aN, aL, aP, aH, aM, aF, Int.natCast_add, Int.natCast_mul, Int.add_sub_cancel, List.length_nil, Int.cast_ofNat_Int, and_true, true_and, hfz]) (by simp (disch := first | omega | simp (disch := omega) only [aF, aL, aN, aM]) only [aW, aX, aV, aB, aN, aL, aP, aH, aM, aF, Int.natCast_add, Int.natCast_mul, Int.add_sub_cancel, List.length_nil, Int.cast_ofNat_Int, and_true, true_and])
      rintro k hk
      by_cases hkl : (k : Int) < p.mat
      · have v1 := hh1 i k
        have v2 := hh2 i k
        obtain ⟨w1, w2, w3, w4, w5⟩ := hw k (by omega) hkl i hlt
        have g1 := height_ok hc0 (mt := k) (by omega) hkl hlt
        have g2 := height_ok (p := setP p N y) hq (mt := k) (by omega) hkl hlt
        rw [w1] at g2
        simp (disch := ((try simp only [List.length_set, List.length_replicate, List.length_append, List.length_cons, List.length_nil]); omega)) only [aW, aX, aV, aB, aN, aL, aP, aH, aM, Int.toNat_one]
        refine v1.same (by unfold plA plC; simp (disch := first | omega | simp (disch := omega) only [aF, aL, aN, aM]) only [aW, aX, aV, aB, aN, aL, aP, aH, aM, aF, Int.natCast_add, Int.natCast_mul, Int.add_sub_cancel, List.length_nil, Int.cast_ofNat_Int, and_true, true_and]) rfl (aret_of ?_)
        simp (disch := ((try simp only [List.length_set, List.length_replicate, List.length_append, List.length_cons, List.length_nil]); omega)) only [aW, aX, aV, aB, aN, aL, aP, aH, aM, Int.toNat_one, Int.toNat_natCast]
        refine v2.use (args' := [plA true false (setP p N y), .v (.int .i64 i), .v (.int .i64 k)]) ⟨Ld.agg ⟨Ld.refl rfl, Ld.refl (by simp (disch := first | omega | simp (disch := omega) only [aF, aL, aN, aM]) only [aW, aX, aV, aB, aN, aL, aP, aH, aM, aF, Int.natCast_add, Int.natCast_mul, Int.add_sub_cancel, List.length_nil, Int.cast_ofNat_Int, and_true, true_and]), ld_bts _ 2 1 _ (setLn p.bs N y) (setLn_len _ _ _).symm rfl, Ld.refl rfl, trivial⟩, Ld.refl rfl, Ld.refl rfl, trivial⟩ rfl (aret_of ?_)
        by_cases hz : (wayV p k i).2 = false
        · rw [if_pos hz] at g1 g2
          rw [g1, g2]
          simp (disch := ((try simp only [List.length_set, List.length_replicate, List.length_append, List.length_cons, List.length_nil]); omega)) only [aW, aX, aV, aB, aN, aL, aP, aH, aM, Int.toNat_one, Int.toNat_natCast]
          refine ⟨k + 1, by omega, by omega, ?_⟩
          exact Cut.of' 3 rfl (by omega) (by simp (disch := first | omega | simp (disch := omega) only [aF, aL, aN, aM]) only [aW, aX, aV, aB, aN, aL, aP, aH, aM, aF, Int.natCast_add, Int.natCast_mul, Int.add_sub_cancel, List.length_nil, Int.cast_ofNat_Int, and_true, true_and, hfz]) (by simp (disch := first | omega | simp (disch := omega) only [aF, aL, aN, aM]) only [aW, aX, aV, aB, aN, aL, aP, aH, aM, aF, Int.natCast_add, Int.natCast_mul, Int.add_sub_cancel, List.length_nil, Int.cast_ofNat_Int, and_true, true_and])
        · rw [if_neg hz] at g1 g2
          rw [g1, g2]
          simp (disch := ((try simp only [List.length_set, List.length_replicate, List.length_append, List.length_cons, List.length_nil]); omega)) only [aW, aX, aV, aB, aN, aL, aP, aH, aM, Int.toNat_one, Int.toNat_natCast]
          refine ⟨k + 1, by omega, by omega, ?_⟩
          exact Cut.of' 3 rfl (by omega) (by simp (disch := first | omega | simp (disch := omega) only [aF, aL, aN, aM]) only [aW, aX, aV, aB, aN, aL, aP, aH, aM, aF, Int.natCast_add, Int.natCast_mul, Int.add_sub_cancel, List.length_nil, Int.cast_ofNat_Int, and_true, true_and, hfz]) (by simp (disch := first | omega | simp (disch := omega) only [aF, aL, aN, aM]) only [aW, aX, aV, aB, aN, aL, aP, aH, aM, aF, Int.natCast_add, Int.natCast_mul, Int.add_sub_cancel, List.length_nil, Int.cast_ofNat_Int, and_true, true_and])
      · simp (disch := ((try simp only [List.length_set, List.length_replicate, List.length_append, List.length_cons, List.length_nil]); omega)) only [aW, aX, aV, aB, aN, aL, aP, aH, aM, Int.toNat_one]
        refine ⟨i + 1, by omega, by omega, ?_⟩
        exact Cut.of' 3 rfl (by omega) (by simp (disch := first | omega | simp (disch := omega) only [aF, aL, aN, aM]) only [aW, aX, aV, aB, aN, aL, aP, aH, aM, aF, Int.natCast_add, Int.natCast_mul, Int.add_sub_cancel, List.length_nil, Int.cast_ofNat_Int, and_true, true_and, hfz]) (by simp (disch := first | omega | simp (disch := omega) only [aF, aL, aN, aM]) only [aW, aX, aV, aB, aN, aL, aP, aH, aM, aF, Int.natCast_add, Int.natCast_mul, Int.add_sub_cancel, List.length_nil, Int.cast_ofNat_Int, and_true, true_and])
    · have hie : i = p.ms.length := by omega
      subst hie
      simp (disch := ((try simp only [List.length_set, List.length_replicate, List.length_append, List.length_cons, List.length_nil]); omega)) only [aW, aX, aV, aB, aN, aL, aP, aH, aM, Int.toNat_one]
      refine awake34_vr.same (by simp (disch := first | omega | simp (disch := omega) only [aF, aL, aN, aM]) only [aW, aX, aV, aB, aN, aL, aP, aH, aM, aF, Int.natCast_add, Int.natCast_mul, Int.add_sub_cancel, List.length_nil, Int.cast_ofNat_Int, and_true, true_and]) rfl (aret_of ?_)
      simp (disch := ((try simp only [List.length_set, List.length_replicate, List.length_append, List.length_cons, List.length_nil]); omega)) only [aW, aX, aV, aB, aN, aL, aP, aH, aM, r_law34_LayoutLonger]
      exact post_v ⟨rfl, rfl⟩
end Go.Proofs.Ytjhdedifmhkhbaa
