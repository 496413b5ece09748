/- The graph of a plant, its belts, ways, heights. No statement is claimed here. -/
import Derived.Test.YtjhdedifmhkhbaaPe
import Derived.Test.YtjhdedifmhkhbaaGf
namespace Go.Proofs.Ytjhdedifmhkhbaa
open Go Go.Lft
set_option linter.unusedSimpArgs false
set_option linter.unusedVariables false
attribute [local congr] ob_congr bw_congr ib_congr ck_congr iwA_congr itA_congr aw_congr awp_congr sqA_congr bkA_congr vr_congr gd_congr

def arcsR (p : Pl) : Arcs := p.bs.map fun b => (b.fr, b.to)
theorem arcsR_len (p : Pl) : (arcsR p).length = p.bs.length := by simp [arcsR]
theorem arcsR_get (p : Pl) (k : Nat) (h : k < p.bs.length) : (arcsR p).getD k (0, 0) = ((p.bs.getD k b0).fr, (p.bs.getD k b0).to) := by
  simp [arcsR, List.getD_eq_getElem?_getD, h]
def pgraph (p : Pl) : (Int × Arcs) × Int := if pcheck p ≠ 0 then ((0, []), pcheck p) else ((p.ms.length, arcsR p), 0)
theorem pgraph_err {p : Pl} (h : pcheck p ≠ 0) : pgraph p = ((0, []), pcheck p) := by unfold pgraph; rw [if_pos h]
theorem pgraph_ok {p : Pl} (h : pcheck p = 0) : pgraph p = (((p.ms.length : Int), arcsR p), 0) := by unfold pgraph; rw [if_neg (by omega)]
def graphT (g : (Int × Arcs) × Int) : A := .tup [graphA true g.1.1 g.1.2, .v (.int .i64 g.2)]

theorem layoutGraph_vr {w v : Bool} (p : Pl) : VR P false n_layout_Graph [plA w v p] [] (isR (graphT (pgraph p))) := by
  refine vr_layout_Graph (by simp) (.inr rfl) fun _ _ => ?_
  unfold plA plC
  simp (disch := ((try simp only [List.length_set, List.length_replicate, List.length_append, List.length_cons, List.length_nil]); omega)) only [aW, aX, aV, aB, aN, aL, aP, aH, aM, s_layout_Graph, v_layout_Graph]
  refine (layoutCheck_vr (w := w) (v := v) p).same (by unfold plA plC; simp (disch := first | omega | simp (disch := omega) only [aF, aL, aN, aM]) only [aW, aX, aV, aB, aN, aL, aP, aH, aM, aF, Int.natCast_add, Int.natCast_mul, Int.add_sub_cancel, List.length_nil, Int.cast_ofNat_Int, and_true, true_and]) rfl (aret_of ?_)
  simp (disch := ((try simp only [List.length_set, List.length_replicate, List.length_append, List.length_cons, List.length_nil]); omega)) only [aW, aX, aV, aB, aN, aL, aP, aH, aM]
  refine ib_intro (fun h1 => ?_) (fun h1 => ?_)
  · rw [pgraph_err h1]
    simp (disch := ((try simp only [List.length_set, List.length_replicate, List.length_append, List.length_cons, List.length_nil]); omega)) only [aW, aX, aV, aB, aN, aL, aP, aH, aM, r_layout_Graph]
    exact post0 (r := graphT ((0, []), pcheck p)) (Fz.tup ⟨Fz.agg ⟨Fz.refl rfl, fz_nil _ _, trivial⟩, Fz.refl rfl, trivial⟩) ⟨rfl, rfl⟩
  have h1 := Classical.not_not.1 h1
  have ok := pcheck_ok h1
  have hb2 := ok.b2
  rw [pgraph_ok h1]
  simp (disch := ((try simp only [List.length_set, List.length_replicate, List.length_append, List.length_cons, List.length_nil]); omega)) only [aW, aX, aV, aB, aN, aL, aP, aH, aM]
  refine AWP.cut (Cut.virtB 2 0 1 2 rfl rfl) ?_
  refine AWP.loopP (α := Nat × Nat) g_layout_Graph_0 (fun q => q.1 ≤ p.bs.length) (fun q => [(5, .v (.int .i64 q.1))]) (fun q => [(2, ⟨0, [.v (.int .i64 p.ms.length), .vs 3 q.2 2 q.1]⟩), (3, ⟨q.2, pcells ((arcsR p).take q.1)⟩)]) (fun q => p.bs.length - q.1) (0, 0) (by simp) ?_ ?_
  · simp (disch := ((try simp only [List.length_set, List.length_replicate, List.length_append, List.length_cons, List.length_nil]); omega)) only [aW, aX, aV, aB, aN, aL, aP, aH, aM]
    exact Cut.of' 4 rfl (by omega) (by simp (disch := first | omega | simp (disch := omega) only [aF, aL, aN, aM]) only [aW, aX, aV, aB, aN, aL, aP, aH, aM, aF, Int.natCast_add, Int.natCast_mul, Int.add_sub_cancel, List.length_nil, Int.cast_ofNat_Int, and_true, true_and, pc_nil, List.take_zero]) (by simp (disch := first | omega | simp (disch := omega) only [aF, aL, aN, aM]) only [aW, aX, aV, aB, aN, aL, aP, aH, aM, aF, Int.natCast_add, Int.natCast_mul, Int.add_sub_cancel, List.length_nil, Int.cast_ofNat_Int, and_true, true_and])
  rintro ⟨k, ver⟩ hk
  simp only at hk
  have hal := arcsR_len p
  have hbk : ((arcsR p).take k).length = k := by simp; omega
  by_cases hlt : k < p.bs.length
  · have hg := arcsR_get p k hlt
    simp (disch := ((try simp only [List.length_set, List.length_replicate, List.length_append, List.length_cons, List.length_nil]); omega)) only [aW, aX, aV, aB, aN, aL, aP, aH, aM]
    refine ⟨(k + 1, ver + 1), by simp only; omega, by simp only; omega, ?_⟩
    rw [take_succ_get (arcsR p) k (0, 0) (by omega), hg]
    simp (disch := ((try simp only [List.length_set, List.length_replicate, List.length_append, List.length_cons, List.length_nil]); omega)) only [aW, aX, aV, aB, aN, aL, aP, aH, aM]
    have e1 : List.take k (List.take k (arcsR p)) = List.take k (arcsR p) := by rw [List.take_take, Nat.min_self]
    exact Cut.of' 4 rfl (by omega) (by simp (disch := first | omega | simp (disch := omega) only [aF, aL, aN, aM]) only [aW, aX, aV, aB, aN, aL, aP, aH, aM, aF, Int.natCast_add, Int.natCast_mul, Int.add_sub_cancel, List.length_nil, Int.cast_ofNat_Int, and_true, true_and, e1]) (by simp (disch := first | omega | simp (disch := omega) only [aF, aL, aN, aM]) only [aW, aX, aV, aB, aN, aL, aP, aH, aM, aF, Int.natCast_add, Int.natCast_mul, Int.add_sub_cancel, List.length_nil, Int.cast_ofNat_Int, and_true, true_and])
  · have hkl : k = p.bs.length := by omega
    subst hkl
    have e1 : (arcsR p).take p.bs.length = arcsR p := List.take_of_length_le (by omega)
    simp (disch := ((try simp only [List.length_set, List.length_replicate, List.length_append, List.length_cons, List.length_nil]); omega)) only [aW, aX, aV, aB, aN, aL, aP, aH, aM, r_layout_Graph]
    refine post0 (r := graphT (((p.ms.length : Int), arcsR p), 0)) (Fz.tup ⟨Fz.agg ⟨Fz.refl rfl, ?_, trivial⟩, Fz.refl rfl, trivial⟩) ⟨rfl, rfl⟩
    exact fz_vsP 0 _ 3 ver p.bs.length (arcsR p) (by omega) hal.symm (by simp [blkAt, e1])

theorem refGraph_vr {w v : Bool} (p : Pl) : VR P false n_ref34_Graph [plA w v p] [] (isR (graphT (pgraph p))) := by
  refine vr_ref34_Graph (by simp) (.inr rfl) fun _ _ => ?_
  unfold plA plC
  simp (disch := ((try simp only [List.length_set, List.length_replicate, List.length_append, List.length_cons, List.length_nil]); omega)) only [aW, aX, aV, aB, aN, aL, aP, aH, aM, s_ref34_Graph, v_ref34_Graph]
  refine (ref34Check_vr (w := w) (v := v) p).same (by unfold plA plC; simp (disch := first | omega | simp (disch := omega) only [aF, aL, aN, aM]) only [aW, aX, aV, aB, aN, aL, aP, aH, aM, aF, Int.natCast_add, Int.natCast_mul, Int.add_sub_cancel, List.length_nil, Int.cast_ofNat_Int, and_true, true_and]) rfl (aret_of ?_)
  simp (disch := ((try simp only [List.length_set, List.length_replicate, List.length_append, List.length_cons, List.length_nil]); omega)) only [aW, aX, aV, aB, aN, aL, aP, aH, aM]
  refine ib_intro (fun h1 => ?_) (fun h1 => ?_)
  · rw [pgraph_err h1]
    simp (disch := ((try simp only [List.length_set, List.length_replicate, List.length_append, List.length_cons, List.length_nil]); omega)) only [aW, aX, aV, aB, aN, aL, aP, aH, aM, r_ref34_Graph]
    exact post0 (r := graphT ((0, []), pcheck p)) (Fz.tup ⟨Fz.agg ⟨Fz.refl rfl, fz_nil _ _, trivial⟩, Fz.refl rfl, trivial⟩) ⟨rfl, rfl⟩
  have h1 := Classical.not_not.1 h1
  have ok := pcheck_ok h1
  have hb2 := ok.b2
  rw [pgraph_ok h1]
  simp (disch := ((try simp only [List.length_set, List.length_replicate, List.length_append, List.length_cons, List.length_nil]); omega)) only [aW, aX, aV, aB, aN, aL, aP, aH, aM]
  refine AWP.cut (Cut.virtB 2 0 1 2 rfl rfl) ?_
  refine AWP.loopP (α := Nat × Nat) g_ref34_Graph_0 (fun q => q.1 ≤ p.bs.length) (fun q => [(5, .v (.int .i64 q.1))]) (fun q => [(2, ⟨0, [.v (.int .i64 p.ms.length), .vs 3 q.2 2 q.1]⟩), (3, ⟨q.2, pcells ((arcsR p).take q.1)⟩)]) (fun q => p.bs.length - q.1) (0, 0) (by simp) ?_ ?_
  · simp (disch := ((try simp only [List.length_set, List.length_replicate, List.length_append, List.length_cons, List.length_nil]); omega)) only [aW, aX, aV, aB, aN, aL, aP, aH, aM]
    exact Cut.of' 4 rfl (by omega) (by simp (disch := first | omega | simp (disch := omega) only [aF, aL, aN, aM]) only [aW, aX, aV, aB, aN, aL, aP, aH, aM, aF, Int.natCast_add, Int.natCast_mul, Int.add_sub_cancel, List.length_nil, Int.cast_ofNat_Int, and_true, true_and, pc_nil, List.take_zero]) (by simp (disch := first | omega | simp (disch := omega) only [aF, aL, aN, aM]) only [aW, aX, aV, aB, aN, aL, aP, aH, aM, aF, Int.natCast_add, Int.natCast_mul, Int.add_sub_cancel, List.length_nil, Int.cast_ofNat_Int, and_true, true_and])
  rintro ⟨k, ver⟩ hk
  simp only at hk
  have hal := arcsR_len p
  have hbk : ((arcsR p).take k).length = k := by simp; omega
  by_cases hlt : k < p.bs.length
  · have hg := arcsR_get p k hlt
    simp (disch := ((try simp only [List.length_set, List.length_replicate, List.length_append, List.length_cons, List.length_nil]); omega)) only [aW, aX, aV, aB, aN, aL, aP, aH, aM]
    refine ⟨(k + 1, ver + 1), by simp only; omega, by simp only; omega, ?_⟩
    rw [take_succ_get (arcsR p) k (0, 0) (by omega), hg]
    simp (disch := ((try simp only [List.length_set, List.length_replicate, List.length_append, List.length_cons, List.length_nil]); omega)) only [aW, aX, aV, aB, aN, aL, aP, aH, aM]
    have e1 : List.take k (List.take k (arcsR p)) = List.take k (arcsR p) := by rw [List.take_take, Nat.min_self]
    exact Cut.of' 4 rfl (by omega) (by simp (disch := first | omega | simp (disch := omega) only [aF, aL, aN, aM]) only [aW, aX, aV, aB, aN, aL, aP, aH, aM, aF, Int.natCast_add, Int.natCast_mul, Int.add_sub_cancel, List.length_nil, Int.cast_ofNat_Int, and_true, true_and, e1]) (by simp (disch := first | omega | simp (disch := omega) only [aF, aL, aN, aM]) only [aW, aX, aV, aB, aN, aL, aP, aH, aM, aF, Int.natCast_add, Int.natCast_mul, Int.add_sub_cancel, List.length_nil, Int.cast_ofNat_Int, and_true, true_and])
  · have hkl : k = p.bs.length := by omega
    subst hkl
    have e1 : (arcsR p).take p.bs.length = arcsR p := List.take_of_length_le (by omega)
    simp (disch := ((try simp only [List.length_set, List.length_replicate, List.length_append, List.length_cons, List.length_nil]); omega)) only [aW, aX, aV, aB, aN, aL, aP, aH, aM, r_ref34_Graph]
    refine post0 (r := graphT (((p.ms.length : Int), arcsR p), 0)) (Fz.tup ⟨Fz.agg ⟨Fz.refl rfl, ?_, trivial⟩, Fz.refl rfl, trivial⟩) ⟨rfl, rfl⟩
    exact fz_vsP 0 _ 3 ver p.bs.length (arcsR p) (by omega) hal.symm (by simp [blkAt, e1])

def nextR (p : Pl) (m o : Int) : Int × Int := if pcheck p ≠ 0 then (0, pcheck p) else if findB p.bs m o < 0 then (0, 7) else (findB p.bs m o, 0)
theorem layoutNext_vr {w v : Bool} (p : Pl) (m o : Int) : VR P false n_layout_Next [plA w v p, .v (.int .i64 m), .v (.int .i64 o)] [] (isR (.tup [.v (.int .i64 (nextR p m o).1), .v (.int .i64 (nextR p m o).2)])) := by
  refine vr_layout_Next (by simp) (.inr rfl) fun _ _ => ?_
  unfold plA plC nextR
  simp (disch := ((try simp only [List.length_set, List.length_replicate, List.length_append, List.length_cons, List.length_nil]); omega)) only [aW, aX, aV, aB, aN, aL, aP, aH, aM, s_layout_Next, v_layout_Next]
  refine (layoutCheck_vr (w := w) (v := v) p).same (by unfold plA plC; simp (disch := first | omega | simp (disch := omega) only [aF, aL, aN, aM]) only [aW, aX, aV, aB, aN, aL, aP, aH, aM, aF, Int.natCast_add, Int.natCast_mul, Int.add_sub_cancel, List.length_nil, Int.cast_ofNat_Int, and_true, true_and]) rfl (aret_of ?_)
  simp (disch := ((try simp only [List.length_set, List.length_replicate, List.length_append, List.length_cons, List.length_nil]); omega)) only [aW, aX, aV, aB, aN, aL, aP, aH, aM]
  refine ib_intro (fun h1 => ?_) (fun h1 => ?_)
  · rw [if_pos h1]
    simp (disch := ((try simp only [List.length_set, List.length_replicate, List.length_append, List.length_cons, List.length_nil]); omega)) only [aW, aX, aV, aB, aN, aL, aP, aH, aM, r_layout_Next]
    exact post0 (Fz.refl (by simp (disch := first | omega | simp (disch := omega) only [aF, aL, aN, aM]) only [aW, aX, aV, aB, aN, aL, aP, aH, aM, aF, Int.natCast_add, Int.natCast_mul, Int.add_sub_cancel, List.length_nil, Int.cast_ofNat_Int, and_true, true_and])) ⟨rfl, rfl⟩
  rw [if_neg h1]
  have ok := pcheck_ok (Classical.not_not.1 h1)
  have hb2 := ok.b2
  simp (disch := ((try simp only [List.length_set, List.length_replicate, List.length_append, List.length_cons, List.length_nil]); omega)) only [aW, aX, aV, aB, aN, aL, aP, aH, aM]
  refine (find_vr (w := w) (v := v) p (by omega) m o).same (by unfold plA plC; simp (disch := first | omega | simp (disch := omega) only [aF, aL, aN, aM]) only [aW, aX, aV, aB, aN, aL, aP, aH, aM, aF, Int.natCast_add, Int.natCast_mul, Int.add_sub_cancel, List.length_nil, Int.cast_ofNat_Int, and_true, true_and]) rfl (aret_of ?_)
  simp (disch := ((try simp only [List.length_set, List.length_replicate, List.length_append, List.length_cons, List.length_nil]); omega)) only [aW, aX, aV, aB, aN, aL, aP, aH, aM]
  refine ib_intro (fun h2 => ?_) (fun h2 => ?_)
  · rw [if_pos h2]
    simp (disch := ((try simp only [List.length_set, List.length_replicate, List.length_append, List.length_cons, List.length_nil]); omega)) only [aW, aX, aV, aB, aN, aL, aP, aH, aM, r_layout_Next]
    exact post0 (Fz.refl (by simp (disch := first | omega | simp (disch := omega) only [aF, aL, aN, aM]) only [aW, aX, aV, aB, aN, aL, aP, aH, aM, aF, Int.natCast_add, Int.natCast_mul, Int.add_sub_cancel, List.length_nil, Int.cast_ofNat_Int, and_true, true_and])) ⟨rfl, rfl⟩
  · rw [if_neg h2]
    simp (disch := ((try simp only [List.length_set, List.length_replicate, List.length_append, List.length_cons, List.length_nil]); omega)) only [aW, aX, aV, aB, aN, aL, aP, aH, aM, r_layout_Next]
    exact post0 (Fz.refl (by simp (disch := first | omega | simp (disch := omega) only [aF, aL, aN, aM]) only [aW, aX, aV, aB, aN, aL, aP, aH, aM, aF, Int.natCast_add, Int.natCast_mul, Int.add_sub_cancel, List.length_nil, Int.cast_ofNat_Int, and_true, true_and])) ⟨rfl, rfl⟩

theorem refNext_vr {w v : Bool} (p : Pl) (m o : Int) : VR P false n_ref34_Next [plA w v p, .v (.int .i64 m), .v (.int .i64 o)] [] (isR (.tup [.v (.int .i64 (nextR p m o).1), .v (.int .i64 (nextR p m o).2)])) := by
  refine vr_ref34_Next (by simp) (.inr rfl) fun _ _ => ?_
  unfold plA plC nextR
  simp (disch := ((try simp only [List.length_set, List.length_replicate, List.length_append, List.length_cons, List.length_nil]); omega)) only [aW, aX, aV, aB, aN, aL, aP, aH, aM, s_ref34_Next, v_ref34_Next]
  refine (ref34Check_vr (w := w) (v := v) p).same (by unfold plA plC; simp (disch := first | omega | simp (disch := omega) only [aF, aL, aN, aM]) only [aW, aX, aV, aB, aN, aL, aP, aH, aM, aF, Int.natCast_add, Int.natCast_mul, Int.add_sub_cancel, List.length_nil, Int.cast_ofNat_Int, and_true, true_and]) rfl (aret_of ?_)
  simp (disch := ((try simp only [List.length_set, List.length_replicate, List.length_append, List.length_cons, List.length_nil]); omega)) only [aW, aX, aV, aB, aN, aL, aP, aH, aM]
  refine ib_intro (fun h1 => ?_) (fun h1 => ?_)
  · rw [if_pos h1]
    simp (disch := ((try simp only [List.length_set, List.length_replicate, List.length_append, List.length_cons, List.length_nil]); omega)) only [aW, aX, aV, aB, aN, aL, aP, aH, aM, r_ref34_Next]
    exact post0 (Fz.refl (by simp (disch := first | omega | simp (disch := omega) only [aF, aL, aN, aM]) only [aW, aX, aV, aB, aN, aL, aP, aH, aM, aF, Int.natCast_add, Int.natCast_mul, Int.add_sub_cancel, List.length_nil, Int.cast_ofNat_Int, and_true, true_and])) ⟨rfl, rfl⟩
  rw [if_neg h1]
  have ok := pcheck_ok (Classical.not_not.1 h1)
  have hb2 := ok.b2
  simp (disch := ((try simp only [List.length_set, List.length_replicate, List.length_append, List.length_cons, List.length_nil]); omega)) only [aW, aX, aV, aB, aN, aL, aP, aH, aM]
  refine (place_vr (w := w) (v := v) p (by omega) m o).same (by unfold plA plC; simp (disch := first | omega | simp (disch := omega) only [aF, aL, aN, aM]) only [aW, aX, aV, aB, aN, aL, aP, aH, aM, aF, Int.natCast_add, Int.natCast_mul, Int.add_sub_cancel, List.length_nil, Int.cast_ofNat_Int, and_true, true_and]) rfl (aret_of ?_)
  simp (disch := ((try simp only [List.length_set, List.length_replicate, List.length_append, List.length_cons, List.length_nil]); omega)) only [aW, aX, aV, aB, aN, aL, aP, aH, aM]
  refine ib_intro (fun h2 => ?_) (fun h2 => ?_)
  · rw [if_pos h2]
    simp (disch := ((try simp only [List.length_set, List.length_replicate, List.length_append, List.length_cons, List.length_nil]); omega)) only [aW, aX, aV, aB, aN, aL, aP, aH, aM, r_ref34_Next]
    exact post0 (Fz.refl (by simp (disch := first | omega | simp (disch := omega) only [aF, aL, aN, aM]) only [aW, aX, aV, aB, aN, aL, aP, aH, aM, aF, Int.natCast_add, Int.natCast_mul, Int.add_sub_cancel, List.length_nil, Int.cast_ofNat_Int, and_true, true_and])) ⟨rfl, rfl⟩
  · rw [if_neg h2]
    simp (disch := ((try simp only [List.length_set, List.length_replicate, List.length_append, List.length_cons, List.length_nil]); omega)) only [aW, aX, aV, aB, aN, aL, aP, aH, aM, r_ref34_Next]
    exact post0 (Fz.refl (by simp (disch := first | omega | simp (disch := omega) only [aF, aL, aN, aM]) only [aW, aX, aV, aB, aN, aL, aP, aH, aM, aF, Int.natCast_add, Int.natCast_mul, Int.add_sub_cancel, List.length_nil, Int.cast_ofNat_Int, and_true, true_and])) ⟨rfl, rfl⟩

/-! ### Ways -/
def wayV (p : Pl) (mt : Int) (m : Nat) : Int × Bool := wayR p mt p.ms.length m 0
def wayT (x : Int × Bool) : A := .tup [.v (.int .i64 x.1), .v (.bool x.2)]
theorem rows4 {p : Pl} (h : POk p) {i : Nat} (hi : i < p.ms.length) (mt : Int) : ((p.ms.getD i []).getD mt.toNat []).length < 1000000000 := by
  have hm := h.mc _ (mem_get [] hi)
  by_cases hk : mt.toNat < (p.ms.getD i []).length
  · have := (hm.row _ (mem_get [] hk)).2.1; omega
  · rw [List.getD_eq_getElem?_getD, List.getElem?_eq_none (by omega)]; simp

theorem refWay_vr {w v : Bool} (p : Pl) (h : POk p) (m : Nat) (hm : m < p.ms.length) (mt : Int) (h0 : 0 ≤ mt) (h1 : mt < p.mat) : VR P false n_ref34_way [plA w v p, .v (.int .i64 m), .v (.int .i64 mt)] [] (isR (wayT (wayV p mt m))) := by
  refine vr_ref34_way (by simp) (.inr rfl) fun _ _ => ?_
  have hn2 := h.n2
  have hb2 := h.b2
  unfold plA plC
  simp (disch := ((try simp only [List.length_set, List.length_replicate, List.length_append, List.length_cons, List.length_nil]); omega)) only [aW, aX, aV, aB, aN, aL, aP, aH, aM, s_ref34_way, v_ref34_way]
  refine AWP.loopP g_ref34_way_0 (fun k : Nat => k ≤ p.ms.length + 1 ∧ ∀ i, i < k → ¬ binN p (posR p mt m i)) (fun k => [(1, .v (.int .i64 (posR p mt m k))), (3, .v (.int .i64 0)), (4, .v (.bool false)), (5, .v (.int .i64 (farR p mt m k))), (6, .v (.int .i64 k))]) (fun _ => []) (fun k => p.ms.length + 1 - k) 0 ⟨by omega, fun i hi => by omega⟩ ?_ ?_
  · simp only [posR, farR]
    try simp (disch := ((try simp only [List.length_set, List.length_replicate, List.length_append, List.length_cons, List.length_nil]); omega)) only [aW, aX, aV, aB, aN, aL, aP, aH, aM]
    exact Cut.of' 1 rfl (by omega) (by simp (disch := first | omega | simp (disch := omega) only [aF, aL, aN, aM]) only [aW, aX, aV, aB, aN, aL, aP, aH, aM, aF, Int.natCast_add, Int.natCast_mul, Int.add_sub_cancel, List.length_nil, Int.cast_ofNat_Int, and_true, true_and]) (by simp (disch := first | omega | simp (disch := omega) only [aF, aL, aN, aM]) only [aW, aX, aV, aB, aN, aL, aP, aH, aM, aF, Int.natCast_add, Int.natCast_mul, Int.add_sub_cancel, List.length_nil, Int.cast_ofNat_Int, and_true, true_and])
  rintro k ⟨hk, hb⟩
  by_cases hlt : k < p.ms.length + 1
  · have hp := posR_lt h h0 h1 hm k hb
    have hf := farR_bd h h0 h1 hm k hb
    simp (disch := ((try simp only [List.length_set, List.length_replicate, List.length_append, List.length_cons, List.length_nil]); omega)) only [aW, aX, aV, aB, aN, aL, aP, aH, aM]
    refine (refOuts_vr (w := w) (p.ms.getD (posR p mt m k) [])).same (by unfold mcA mcC; simp (disch := first | omega | simp (disch := omega) only [aF, aL, aN, aM]) only [aW, aX, aV, aB, aN, aL, aP, aH, aM, aF, Int.natCast_add, Int.natCast_mul, Int.add_sub_cancel, List.length_nil, Int.cast_ofNat_Int, and_true, true_and]) rfl (aret_of ?_)
    by_cases hbin : binN p (posR p mt m k)
    · have hz : outsN (p.ms.getD (posR p mt m k) []) = 0 := hbin
      have hw : wayV p mt m = (farR p mt m k, true) := wayR_of (by omega) hb hbin
      rw [hz, hw]
      simp (disch := ((try simp only [List.length_set, List.length_replicate, List.length_append, List.length_cons, List.length_nil]); omega)) only [aW, aX, aV, aB, aN, aL, aP, aH, aM, r_ref34_way]
      exact post0 (Fz.refl (by simp (disch := first | omega | simp (disch := omega) only [aF, aL, aN, aM]) only [aW, aX, aV, aB, aN, aL, aP, aH, aM, aF, Int.natCast_add, Int.natCast_mul, Int.add_sub_cancel, List.length_nil, Int.cast_ofNat_Int, and_true, true_and])) ⟨rfl, rfl⟩
    · have hz : ¬ outsN (p.ms.getD (posR p mt m k) []) = 0 := hbin
      obtain ⟨o1, o2, o3, o4, o5, o6, o7⟩ := out_ok h h0 h1 hp hbin
      have o1' : (findB p.bs (posR p mt m k) (mainN (p.ms.getD (posR p mt m k) []) mt)).toNat = outB p mt (posR p mt m k) := rfl
      have o8 := findB_ge p.bs (posR p mt m k) (mainN (p.ms.getD (posR p mt m k) []) mt)
      have hr4 := rows4 h hp mt
      have o9 : (p.bs.getD (outB p mt (posR p mt m k)) b0).ln = lx p mt (posR p mt m k) := rfl
      simp (disch := ((try simp only [List.length_set, List.length_replicate, List.length_append, List.length_cons, List.length_nil]); omega)) only [aW, aX, aV, aB, aN, aL, aP, aH, aM]
      refine ⟨?_, ?_, ?_⟩
      all_goals
        refine (refMain_vr (w := w) (p.ms.getD (posR p mt m k) []) mt hr4).same (by unfold mcA mcC; simp (disch := first | omega | simp (disch := omega) only [aF, aL, aN, aM]) only [aW, aX, aV, aB, aN, aL, aP, aH, aM, aF, Int.natCast_add, Int.natCast_mul, Int.add_sub_cancel, List.length_nil, Int.cast_ofNat_Int, and_true, true_and]) rfl (aret_of ?_)
        simp (disch := ((try simp only [List.length_set, List.length_replicate, List.length_append, List.length_cons, List.length_nil]); omega)) only [aW, aX, aV, aB, aN, aL, aP, aH, aM]
        refine (place_vr (w := w) (v := v) p (by omega) (posR p mt m k) (mainN (p.ms.getD (posR p mt m k) []) mt)).same (by unfold plA plC; simp (disch := first | omega | simp (disch := omega) only [aF, aL, aN, aM]) only [aW, aX, aV, aB, aN, aL, aP, aH, aM, aF, Int.natCast_add, Int.natCast_mul, Int.add_sub_cancel, List.length_nil, Int.cast_ofNat_Int, and_true, true_and]) rfl (aret_of ?_)
        simp (disch := ((try simp only [List.length_set, List.length_replicate, List.length_append, List.length_cons, List.length_nil]); omega)) only [aW, aX, aV, aB, aN, aL, aP, aH, aM, o1', o5, o9]
        refine ⟨k + 1, ⟨by omega, fun i hi => ?_⟩, by omega, ?_⟩
        · rcases Nat.lt_succ_iff_lt_or_eq.1 hi with h | rfl
          · exact hb i h
          · exact hbin
        · simp only [posR, farR]
          try simp (disch := ((try simp only [List.length_set, List.length_replicate, List.length_append, List.length_cons, List.length_nil]); omega)) only [aW, aX, aV, aB, aN, aL, aP, aH, aM]
          exact Cut.of' 1 rfl (by omega) (by simp (disch := first | omega | simp (disch := omega) only [aF, aL, aN, aM]) only [aW, aX, aV, aB, aN, aL, aP, aH, aM, aF, Int.natCast_add, Int.natCast_mul, Int.add_sub_cancel, List.length_nil, Int.cast_ofNat_Int, and_true, true_and]) (by simp (disch := first | omega | simp (disch := omega) only [aF, aL, aN, aM]) only [aW, aX, aV, aB, aN, aL, aP, aH, aM, aF, Int.natCast_add, Int.natCast_mul, Int.add_sub_cancel, List.length_nil, Int.cast_ofNat_Int, and_true, true_and])
  · have hw : wayV p mt m = (0, false) := by
      rcases wayR_cases h h0 h1 hm with ⟨k', g1, g2, g3, g4⟩ | ⟨g1, g2⟩
      · exact absurd g3 (hb k' (by omega))
      · exact g2
    rw [hw]
    simp (disch := ((try simp only [List.length_set, List.length_replicate, List.length_append, List.length_cons, List.length_nil]); omega)) only [aW, aX, aV, aB, aN, aL, aP, aH, aM, r_ref34_way]
    exact post0 (Fz.refl (by simp (disch := first | omega | simp (disch := omega) only [aF, aL, aN, aM]) only [aW, aX, aV, aB, aN, aL, aP, aH, aM, aF, Int.natCast_add, Int.natCast_mul, Int.add_sub_cancel, List.length_nil, Int.cast_ofNat_Int, and_true, true_and])) ⟨rfl, rfl⟩
end Go.Proofs.Ytjhdedifmhkhbaa
