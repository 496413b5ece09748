/- Split in general; the walks of ShareSplit and ShareFactor. -/
import Derived.Test.YtnpbnlafaoldcaaUb
import Derived.Test.YtnpbnlafaoldcaaTb
namespace Go.Proofs.Ytnpbnlafaoldcaa
open Go Go.Lft
set_option linter.unusedSimpArgs false
set_option linter.unusedVariables false
attribute [local congr] ob_congr bw_congr ib_congr ck_congr iwA_congr itA_congr aw_congr awp_congr sqA_congr bkA_congr vr_congr gd_congr

theorem divOk_all {t : Int} {ws : List Int} (h : SplitOk t ws) : DivOk t ws := fun hp i hi => by
  have h1 := w_le h hi
  have h2 : 0 ≤ t * ws.getD i 0 := Int.mul_nonneg h.t0.1 h1.1
  have h3 := h.sum
  have h4 : t * ws.getD i 0 ≤ 70368744177664 * ws.sum := Int.mul_le_mul h.t0.2 h1.2 h1.1 (by omega)
  by_cases hz : t * ws.getD i 0 ≤ 18446744073709551615
  · rw [show t * ws.getD i 0 / 18446744073709551616 = 0 by omega, wrap_u64 h2 hz]
    exact div64_small _ _ ⟨h2, hz⟩ ⟨hp, by omega⟩
  · have e : t * ws.getD i 0 / 18446744073709551616 * 18446744073709551616 + IntKind.wrap .u64 (t * ws.getD i 0) = t * ws.getD i 0 := by rw [wrap_mod]; omega
    have := div64_vr (t * ws.getD i 0 / 18446744073709551616) (IntKind.wrap .u64 (t * ws.getD i 0)) ws.sum ⟨by omega, by omega⟩ (by rw [wrap_mod]; omega) (by omega)
    rwa [e] at this
theorem shareSplitA_vr {w : Bool} (t : Int) (ws : List Int) : VR P false n_share_Split [.v (.int .i64 t), .fs w (ints ws)] [] (isR (listT (splitV t ws))) :=
  shareSplit_vr t ws fun h => divOk_all (splitE_ok h)

theorem lawSplit_vr (t : Int) (ws : List Int) (hl : ws.length ≤ maxLen) : VR P false n_law11_ShareSplit [.v (.int .i64 t), .fs true (ints ws)] [] (isR (.v (.bool true))) := by
  refine vr_law11_ShareSplit (by simp) (.inr rfl) fun _ _ => ?_
  have h1 := shareSplitA_vr (w := true) t ws
  have h2 := ref11Split_vr (w := true) t ws
  unfold listT at h1 h2
  have hlen : (splitV t ws).1.length < 1000000000 := by
    unfold splitV
    split
    · simp
    · rename_i h
      have ok := splitE_ok (Classical.not_not.1 h)
      have := (partsR_ok ok.sp).len
      have := ok.len
      simp only; omega
  have hs := same11_vr (w := true) (v := true) (splitV t ws).1 (splitV t ws).1 hlen
  rw [decide_eq_true rfl] at hs
  generalize splitV t ws = V at *
  simp (disch := ((try simp only [List.length_set, List.length_replicate, List.length_append, List.length_cons, List.length_nil]); omega)) only [aW, aX, aV, aB, aN, aL, aP, aH, s_law11_ShareSplit, v_law11_ShareSplit]
  refine h2.same (by simp (disch := first | omega | simp (disch := omega) only [aF, aL, aN]) only [aW, aX, aV, aB, aN, aL, aP, aH, aF, Int.natCast_add, Int.natCast_mul, Int.add_sub_cancel, List.length_nil, Int.cast_ofNat_Int, and_true, true_and]) (by simp (disch := first | omega | simp (disch := omega) only [aF, aL, aN]) only [aW, aX, aV, aB, aN, aL, aP, aH, aF, Int.natCast_add, Int.natCast_mul, Int.add_sub_cancel, List.length_nil, Int.cast_ofNat_Int, and_true, true_and]) (aret_of ?_)
  simp (disch := ((try simp only [List.length_set, List.length_replicate, List.length_append, List.length_cons, List.length_nil]); omega)) only [aW, aX, aV, aB, aN, aL, aP, aH]
  refine h1.same (by simp (disch := first | omega | simp (disch := omega) only [aF, aL, aN]) only [aW, aX, aV, aB, aN, aL, aP, aH, aF, Int.natCast_add, Int.natCast_mul, Int.add_sub_cancel, List.length_nil, Int.cast_ofNat_Int, and_true, true_and]) (by simp (disch := first | omega | simp (disch := omega) only [aF, aL, aN]) only [aW, aX, aV, aB, aN, aL, aP, aH, aF, Int.natCast_add, Int.natCast_mul, Int.add_sub_cancel, List.length_nil, Int.cast_ofNat_Int, and_true, true_and]) (aret_of ?_)
  simp (disch := ((try simp only [List.length_set, List.length_replicate, List.length_append, List.length_cons, List.length_nil]); omega)) only [aW, aX, aV, aB, aN, aL, aP, aH]
  refine hs.same (by simp (disch := first | omega | simp (disch := omega) only [aF, aL, aN]) only [aW, aX, aV, aB, aN, aL, aP, aH, aF, Int.natCast_add, Int.natCast_mul, Int.add_sub_cancel, List.length_nil, Int.cast_ofNat_Int, and_true, true_and]) rfl (aret_of ?_)
  simp (disch := ((try simp only [List.length_set, List.length_replicate, List.length_append, List.length_cons, List.length_nil]); omega)) only [aW, aX, aV, aB, aN, aL, aP, aH]
  refine exampleHolds_vr.same (by simp (disch := first | omega | simp (disch := omega) only [aF, aL, aN]) only [aW, aX, aV, aB, aN, aL, aP, aH, aF, Int.natCast_add, Int.natCast_mul, Int.add_sub_cancel, List.length_nil, Int.cast_ofNat_Int, and_true, true_and]) rfl (aret_of ?_)
  simp (disch := ((try simp only [List.length_set, List.length_replicate, List.length_append, List.length_cons, List.length_nil]); omega)) only [aW, aX, aV, aB, aN, aL, aP, aH, r_law11_ShareSplit]
  exact post_v ⟨rfl, rfl⟩
end Go.Proofs.Ytnpbnlafaoldcaa
