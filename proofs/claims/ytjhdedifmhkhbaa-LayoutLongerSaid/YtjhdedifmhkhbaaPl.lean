/- One step of a way; the walk of LayoutSteps. -/
import Derived.Test.YtjhdedifmhkhbaaPk
namespace Go.Proofs.Ytjhdedifmhkhbaa
open Go Go.Lft
set_option linter.unusedSimpArgs false
set_option linter.unusedVariables false
attribute [local congr] ob_congr bw_congr ib_congr ck_congr iwA_congr itA_congr aw_congr awp_congr sqA_congr bkA_congr vr_congr gd_congr

theorem posR_shift (p : Pl) (mt : Int) (i : Nat) : ∀ j, posR p mt (nx p mt i) j = posR p mt i (j + 1)
  | 0 => rfl
  | j + 1 => by simp only [posR, posR_shift p mt i j]
theorem farR_shift (p : Pl) (mt : Int) (i : Nat) : ∀ j, farR p mt i (j + 1) = lx p mt i + farR p mt (nx p mt i) j
  | 0 => by simp [farR, posR]
  | j + 1 => by
    have := farR_shift p mt i j
    simp only [farR] at this ⊢
    rw [posR_shift, Int.add_assoc, ← Int.add_assoc, ← Int.add_assoc]
    simp only [posR] at this ⊢
    omega
theorem way_step {p : Pl} (h : POk p) {mt : Int} (h0 : 0 ≤ mt) (h1 : mt < p.mat) {i : Nat} (hi : i < p.ms.length) (hb : ¬ binN p i) :
    ((wayV p mt i).2 = true ∧ (wayV p mt (nx p mt i)).2 = true ∧ (wayV p mt i).1 = (wayV p mt (nx p mt i)).1 + lx p mt i ∧ 0 ≤ (wayV p mt (nx p mt i)).1 ∧ (wayV p mt (nx p mt i)).1 ≤ 1000) ∨ ((wayV p mt i).2 = false ∧ (wayV p mt (nx p mt i)).2 = false) := by
  have hn := (out_ok h h0 h1 hi hb).2.2.2.1
  have hn2 := h.n2
  rcases wayR_cases h h0 h1 hi with ⟨k, k1, k2, k3, k4⟩ | ⟨k1, k2⟩
  · match k, k1, k2, k3, k4 with
    | 0, _, _, k3, _ => exact (hb k3).elim
    | k + 1, k1, k2, k3, k4 =>
      have c1 : ∀ j, j < k → ¬ binN p (posR p mt (nx p mt i) j) := fun j hj => by rw [posR_shift]; exact k2 (j + 1) (by omega)
      have c2 : binN p (posR p mt (nx p mt i) k) := by rw [posR_shift]; exact k3
      have c3 := wayR_of (f := p.ms.length) (by omega) c1 c2
      have c4 := farR_bd h h0 h1 hn k c1
      refine .inl ?_
      unfold wayV
      rw [k4, c3, farR_shift]
      exact ⟨rfl, rfl, by simp only; omega, c4.1, by simp only; omega⟩
  · refine .inr ?_
    have c1 : ∀ j, ¬ binN p (posR p mt (nx p mt i) j) := fun j => by rw [posR_shift]; exact k1 (j + 1)
    unfold wayV
    rw [k2, wayR_none c1]
    exact ⟨rfl, rfl⟩
theorem height_ok {p : Pl} (h : pcheck p = 0) {mt : Int} (h0 : 0 ≤ mt) (h1 : mt < p.mat) {i : Nat} (hi : i < p.ms.length) : heightR p i mt = if (wayV p mt i).2 = false then (0, 23) else ((wayV p mt i).1, 0) := by
  unfold heightR
  rw [if_neg (by omega), if_neg (by omega), if_neg (by omega), Int.toNat_natCast]
theorem height_bin {p : Pl} (h : pcheck p = 0) {mt : Int} (h0 : 0 ≤ mt) (h1 : mt < p.mat) {i : Nat} (hi : i < p.ms.length) (hb : binN p i) : heightR p i mt = (0, 0) := by
  rw [height_ok h h0 h1 hi]
  unfold wayV
  rw [wayR_bin hb]; rfl

theorem layoutSteps_law (p : Pl) : VR P false n_law34_LayoutSteps [plA true true p] [] (isR (.v (.bool true))) := by
  refine vr_law34_LayoutSteps (by simp) (.inr rfl) fun _ _ => ?_
  unfold plA plC
  simp (disch := ((try simp only [List.length_set, List.length_replicate, List.length_append, List.length_cons, List.length_nil]); omega)) only [aW, aX, aV, aB, aN, aL, aP, aH, aM, s_law34_LayoutSteps, v_law34_LayoutSteps]
  refine (great_vr (w := true) (v := true) p).useE (LdL.refl (by simp (disch := first | omega | simp (disch := omega) only [aF, aL, aN, aM]) only [aW, aX, aV, aB, aN, aL, aP, aH, aM, aF, Int.natCast_add, Int.natCast_mul, Int.add_sub_cancel, List.length_nil, Int.cast_ofNat_Int, and_true, true_and])) great_c ?_
  rintro r ⟨_, b, rfl⟩
  refine aret_of ?_
  cases b with
  | true =>
    simp (disch := ((try simp only [List.length_set, List.length_replicate, List.length_append, List.length_cons, List.length_nil]); omega)) only [aW, aX, aV, aB, aN, aL, aP, aH, aM, Int.toNat_one]
    refine awake34_vr.same (by simp (disch := first | omega | simp (disch := omega) only [aF, aL, aN, aM]) only [aW, aX, aV, aB, aN, aL, aP, aH, aM, aF, Int.natCast_add, Int.natCast_mul, Int.add_sub_cancel, List.length_nil, Int.cast_ofNat_Int, and_true, true_and]) rfl (aret_of ?_)
    simp (disch := ((try simp only [List.length_set, List.length_replicate, List.length_append, List.length_cons, List.length_nil]); omega)) only [aW, aX, aV, aB, aN, aL, aP, aH, aM, r_law34_LayoutSteps]
    exact post_v ⟨rfl, rfl⟩
  | false =>
  simp (disch := ((try simp only [List.length_set, List.length_replicate, List.length_append, List.length_cons, List.length_nil]); omega)) only [aW, aX, aV, aB, aN, aL, aP, aH, aM, Int.toNat_one]
  refine (layoutCheck_vr (w := true) (v := true) p).same (by unfold plA plC; simp (disch := first | omega | simp (disch := omega) only [aF, aL, aN, aM]) only [aW, aX, aV, aB, aN, aL, aP, aH, aM, aF, Int.natCast_add, Int.natCast_mul, Int.add_sub_cancel, List.length_nil, Int.cast_ofNat_Int, and_true, true_and]) rfl (aret_of ?_)
  simp (disch := ((try simp only [List.length_set, List.length_replicate, List.length_append, List.length_cons, List.length_nil]); omega)) only [aW, aX, aV, aB, aN, aL, aP, aH, aM, Int.toNat_one]
  refine ib_intro (fun hc => ?_) (fun hc => ?_)
  · simp (disch := ((try simp only [List.length_set, List.length_replicate, List.length_append, List.length_cons, List.length_nil]); omega)) only [aW, aX, aV, aB, aN, aL, aP, aH, aM, Int.toNat_one]
    refine awake34_vr.same (by simp (disch := first | omega | simp (disch := omega) only [aF, aL, aN, aM]) only [aW, aX, aV, aB, aN, aL, aP, aH, aM, aF, Int.natCast_add, Int.natCast_mul, Int.add_sub_cancel, List.length_nil, Int.cast_ofNat_Int, and_true, true_and]) rfl (aret_of ?_)
    simp (disch := ((try simp only [List.length_set, List.length_replicate, List.length_append, List.length_cons, List.length_nil]); omega)) only [aW, aX, aV, aB, aN, aL, aP, aH, aM, r_law34_LayoutSteps]
    exact post_v ⟨rfl, rfl⟩
  have hc0 : pcheck p = 0 := Classical.not_not.1 hc
  have ok := pcheck_ok hc0
  have hm2 := ok.m2
  have hn2 := ok.n2
  have hb2 := ok.b2
  simp (disch := ((try simp only [List.length_set, List.length_replicate, List.length_append, List.length_cons, List.length_nil]); omega)) only [aW, aX, aV, aB, aN, aL, aP, aH, aM, Int.toNat_one]
  refine AWP.loopP g_law34_LayoutSteps_0 (fun i : Nat => i ≤ p.ms.length) (fun i => [(1, .v (.bool false)), (3, .v (.int .i64 i))]) (fun _ => []) (fun i => p.ms.length - i) 0 (by omega) ?_ ?_
  · exact Cut.of' 1 rfl (by omega) (by simp (disch := first | omega | simp (disch := omega) only [aF, aL, aN, aM]) only [aW, aX, aV, aB, aN, aL, aP, aH, aM, aF, Int.natCast_add, Int.natCast_mul, Int.add_sub_cancel, List.length_nil, Int.cast_ofNat_Int, and_true, true_and]) (by simp (disch := first | omega | simp (disch := omega) only [aF, aL, aN, aM]) only [aW, aX, aV, aB, aN, aL, aP, aH, aM, aF, Int.natCast_add, Int.natCast_mul, Int.add_sub_cancel, List.length_nil, Int.cast_ofNat_Int, and_true, true_and])
  rintro i hi
  by_cases hlt : i < p.ms.length
  · simp (disch := ((try simp only [List.length_set, List.length_replicate, List.length_append, List.length_cons, List.length_nil]); omega)) only [aW, aX, aV, aB, aN, aL, aP, aH, aM, Int.toNat_one]
    refine AWP.loopP (α := Nat) g_law34_LayoutSteps_1 (fun k => (k : Int) ≤ p.mat) (fun k => [(1, .v (.bool false)), (4, .v (.int .i64 k))]) (fun _ => []) (fun k => p.mat.toNat - k) 0 (by have := ok.m1; omega) ?_ ?_
    · exact Cut.of' 1 rfl (by omega) (by simp (disch := first | omega | simp (disch := omega) only [aF, aL, aN, aM]) only [aW, aX, aV, aB, aN, aL, aP, aH, aM, aF, Int.natCast_add, Int.natCast_mul, Int.add_sub_cancel, List.length_nil, Int.cast_ofNat_Int, and_true, true_and]) (by simp (disch := first | omega | simp (disch := omega) only [aF, aL, aN, aM]) only [aW, aX, aV, aB, aN, aL, aP, aH, aM, aF, Int.natCast_add, Int.natCast_mul, Int.add_sub_cancel, List.length_nil, Int.cast_ofNat_Int, and_true, true_and])
    rintro k hk
    by_cases hkl : (k : Int) < p.mat
    · have hv1 := layoutHeight_vr (w := true) (v := true) p i k
      simp (disch := ((try simp only [List.length_set, List.length_replicate, List.length_append, List.length_cons, List.length_nil]); omega)) only [aW, aX, aV, aB, aN, aL, aP, aH, aM, Int.toNat_one]
      refine hv1.same (by unfold plA plC; simp (disch := first | omega | simp (disch := omega) only [aF, aL, aN, aM]) only [aW, aX, aV, aB, aN, aL, aP, aH, aM, aF, Int.natCast_add, Int.natCast_mul, Int.add_sub_cancel, List.length_nil, Int.cast_ofNat_Int, and_true, true_and]) rfl (aret_of ?_)
      simp (disch := ((try simp only [List.length_set, List.length_replicate, List.length_append, List.length_cons, List.length_nil]); omega)) only [aW, aX, aV, aB, aN, aL, aP, aH, aM, Int.toNat_one, Int.toNat_natCast]
      refine (machineOuts_vr (w := true) (p.ms.getD i [])).same (by unfold mcA mcC; simp (disch := first | omega | simp (disch := omega) only [aF, aL, aN, aM]) only [aW, aX, aV, aB, aN, aL, aP, aH, aM, aF, Int.natCast_add, Int.natCast_mul, Int.add_sub_cancel, List.length_nil, Int.cast_ofNat_Int, and_true, true_and]) rfl (aret_of ?_)
      by_cases hb : binN p i
      · have hh := height_bin hc0 (by omega) hkl hlt hb
        have hb' : outsN (p.ms.getD i []) = 0 := hb
        rw [hh]
        simp (disch := ((try simp only [List.length_set, List.length_replicate, List.length_append, List.length_cons, List.length_nil]); omega)) only [aW, aX, aV, aB, aN, aL, aP, aH, aM, Int.toNat_one]
        refine ⟨k + 1, by omega, by omega, ?_⟩
        exact Cut.of' 1 rfl (by omega) (by simp (disch := first | omega | simp (disch := omega) only [aF, aL, aN, aM]) only [aW, aX, aV, aB, aN, aL, aP, aH, aM, aF, Int.natCast_add, Int.natCast_mul, Int.add_sub_cancel, List.length_nil, Int.cast_ofNat_Int, and_true, true_and]) (by simp (disch := first | omega | simp (disch := omega) only [aF, aL, aN, aM]) only [aW, aX, aV, aB, aN, aL, aP, aH, aM, aF, Int.natCast_add, Int.natCast_mul, Int.add_sub_cancel, List.length_nil, Int.cast_ofNat_Int, and_true, true_and])
      · have hb' : outsN (p.ms.getD i []) ≠ 0 := hb
        obtain ⟨o1, o2, o3, o4, o5, o6, o7⟩ := out_ok ok (mt := k) (by omega) hkl hlt hb
        have hh := height_ok hc0 (mt := k) (by omega) hkl hlt
        have hh2 := height_ok hc0 (mt := k) (by omega) hkl o4
        have hrow : ((p.ms.getD i []).getD (k : Int).toNat []).length < 1000000000 := by
          have hm := ok.mc _ (mem_get [] hlt)
          have hml := hm.len
          have := (hm.row _ (mem_get [] (k := (k : Int).toNat) (by omega))).2.1
          omega
        have hf : findB p.bs i (mainN (p.ms.getD i []) k) = (outB p k i : Nat) := by unfold outB; omega
        have hnx : nextR p i (mainN (p.ms.getD i []) k) = (((outB p k i : Nat) : Int), (0 : Int)) := by
          unfold nextR; rw [if_neg (by omega), if_neg (by omega), hf]
        have hst := way_step ok (mt := k) (by omega) hkl hlt hb
        have hv2 := layoutNext_vr (w := true) (v := true) p i (mainN (p.ms.getD i []) k)
        rw [hnx] at hv2
        have hv3 := layoutHeight_vr (w := true) (v := true) p (nx p k i) k
        have hln : (p.bs.getD (outB p k i) b0).ln = lx p k i := rfl
        generalize hN : outB p k i = N at *
        generalize hL : lx p k i = L at *
        generalize hX : nx p k i = X at *
        simp (disch := ((try simp only [List.length_set, List.length_replicate, List.length_append, List.length_cons, List.length_nil]); omega)) only [aW, aX, aV, aB, aN, aL, aP, aH, aM, Int.toNat_one]
        refine (machineMain_vr (w := true) (p.ms.getD i []) k hrow).same (by unfold mcA mcC; simp (disch := first | omega | simp (disch := omega) only [aF, aL, aN, aM]) only [aW, aX, aV, aB, aN, aL, aP, aH, aM, aF, Int.natCast_add, Int.natCast_mul, Int.add_sub_cancel, List.length_nil, Int.cast_ofNat_Int, and_true, true_and]) rfl (aret_of ?_)
        simp (disch := ((try simp only [List.length_set, List.length_replicate, List.length_append, List.length_cons, List.length_nil]); omega)) only [aW, aX, aV, aB, aN, aL, aP, aH, aM, Int.toNat_one]
        refine hv2.same (by unfold plA plC; simp (disch := first | omega | simp (disch := omega) only [aF, aL, aN, aM]) only [aW, aX, aV, aB, aN, aL, aP, aH, aM, aF, Int.natCast_add, Int.natCast_mul, Int.add_sub_cancel, List.length_nil, Int.cast_ofNat_Int, and_true, true_and]) rfl (aret_of ?_)
        simp (disch := ((try simp only [List.length_set, List.length_replicate, List.length_append, List.length_cons, List.length_nil]); omega)) only [aW, aX, aV, aB, aN, aL, aP, aH, aM, Int.toNat_one, Int.toNat_natCast, o5]
        refine hv3.same (by unfold plA plC; simp (disch := first | omega | simp (disch := omega) only [aF, aL, aN, aM]) only [aW, aX, aV, aB, aN, aL, aP, aH, aM, aF, Int.natCast_add, Int.natCast_mul, Int.add_sub_cancel, List.length_nil, Int.cast_ofNat_Int, and_true, true_and]) rfl (aret_of ?_)
        rcases hst with ⟨g1, g2, g3, g4, g5⟩ | ⟨g1, g2⟩
        · rw [if_neg (by rw [g1]; simp)] at hh
          rw [if_neg (by rw [g2]; simp)] at hh2
          rw [hh, hh2]
          simp (disch := ((try simp only [List.length_set, List.length_replicate, List.length_append, List.length_cons, List.length_nil]); omega)) only [aW, aX, aV, aB, aN, aL, aP, aH, aM, Int.toNat_one, Int.toNat_natCast, hln]
          refine ⟨k + 1, by omega, by omega, ?_⟩
          exact Cut.of' 1 rfl (by omega) (by simp (disch := first | omega | simp (disch := omega) only [aF, aL, aN, aM]) only [aW, aX, aV, aB, aN, aL, aP, aH, aM, aF, Int.natCast_add, Int.natCast_mul, Int.add_sub_cancel, List.length_nil, Int.cast_ofNat_Int, and_true, true_and]) (by simp (disch := first | omega | simp (disch := omega) only [aF, aL, aN, aM]) only [aW, aX, aV, aB, aN, aL, aP, aH, aM, aF, Int.natCast_add, Int.natCast_mul, Int.add_sub_cancel, List.length_nil, Int.cast_ofNat_Int, and_true, true_and])
        · rw [if_pos g1] at hh
          rw [if_pos g2] at hh2
          rw [hh, hh2]
          simp (disch := ((try simp only [List.length_set, List.length_replicate, List.length_append, List.length_cons, List.length_nil]); omega)) only [aW, aX, aV, aB, aN, aL, aP, aH, aM, Int.toNat_one, Int.toNat_natCast, hln]
          refine ⟨k + 1, by omega, by omega, ?_⟩
          exact Cut.of' 1 rfl (by omega) (by simp (disch := first | omega | simp (disch := omega) only [aF, aL, aN, aM]) only [aW, aX, aV, aB, aN, aL, aP, aH, aM, aF, Int.natCast_add, Int.natCast_mul, Int.add_sub_cancel, List.length_nil, Int.cast_ofNat_Int, and_true, true_and]) (by simp (disch := first | omega | simp (disch := omega) only [aF, aL, aN, aM]) only [aW, aX, aV, aB, aN, aL, aP, aH, aM, aF, Int.natCast_add, Int.natCast_mul, Int.add_sub_cancel, List.length_nil, Int.cast_ofNat_Int, and_true, true_and])
    · simp (disch := ((try simp only [List.length_set, List.length_replicate, List.length_append, List.length_cons, List.length_nil]); omega)) only [aW, aX, aV, aB, aN, aL, aP, aH, aM, Int.toNat_one]
      refine ⟨i + 1, by omega, by omega, ?_⟩
      exact Cut.of' 1 rfl (by omega) (by simp (disch := first | omega | simp (disch := omega) only [aF, aL, aN, aM]) only [aW, aX, aV, aB, aN, aL, aP, aH, aM, aF, Int.natCast_add, Int.natCast_mul, Int.add_sub_cancel, List.length_nil, Int.cast_ofNat_Int, and_true, true_and]) (by simp (disch := first | omega | simp (disch := omega) only [aF, aL, aN, aM]) only [aW, aX, aV, aB, aN, aL, aP, aH, aM, aF, Int.natCast_add, Int.natCast_mul, Int.add_sub_cancel, List.length_nil, Int.cast_ofNat_Int, and_true, true_and])
  · have hie : i = p.ms.length := by omega
    subst hie
    simp (disch := ((try simp only [List.length_set, List.length_replicate, List.length_append, List.length_cons, List.length_nil]); omega)) only [aW, aX, aV, aB, aN, aL, aP, aH, aM, Int.toNat_one]
    refine awake34_vr.same (by simp (disch := first | omega | simp (disch := omega) only [aF, aL, aN, aM]) only [aW, aX, aV, aB, aN, aL, aP, aH, aM, aF, Int.natCast_add, Int.natCast_mul, Int.add_sub_cancel, List.length_nil, Int.cast_ofNat_Int, and_true, true_and]) rfl (aret_of ?_)
    simp (disch := ((try simp only [List.length_set, List.length_replicate, List.length_append, List.length_cons, List.length_nil]); omega)) only [aW, aX, aV, aB, aN, aL, aP, aH, aM, r_law34_LayoutSteps]
    exact post_v ⟨rfl, rfl⟩
end Go.Proofs.Ytjhdedifmhkhbaa
