/- The belts of a plant: finding them, their errors. No statement is claimed here. -/
import Derived.Test.YtjhdedifmhkhbaaPc
namespace Go.Proofs.Ytjhdedifmhkhbaa
open Go Go.Lft
set_option linter.unusedSimpArgs false
set_option linter.unusedVariables false
attribute [local congr] ob_congr bw_congr ib_congr ck_congr iwA_congr itA_congr aw_congr awp_congr sqA_congr bkA_congr vr_congr gd_congr

theorem plA_eq (w v : Bool) (p : Pl) : A.agg [.v (.int .i64 p.mat), .fs w (mcs w p.ms), .fs v (bts p.bs), .v (.int .i64 p.fd)] = plA w v p := rfl
theorem mcA_eq (w : Bool) (m : Mc) : A.agg [.fs w (rows w m)] = mcA w m := rfl
theorem btA_eq (b : Bt) : A.agg [.v (.int .i64 b.fr), .v (.int .i64 b.ot), .v (.int .i64 b.to), .v (.int .i64 b.ln)] = btA b := rfl

theorem has_vr {w v : Bool} (p : Pl) (m : Int) : VR P false n_layout_has [plA w v p, .v (.int .i64 m)] [] (isR (.v (.bool (decide (0 ≤ m ∧ m < p.ms.length))))) := by
  refine vr_layout_has (by simp) (.inr rfl) fun _ _ => ?_
  unfold plA plC
  simp (disch := ((try simp only [List.length_set, List.length_replicate, List.length_append, List.length_cons, List.length_nil]); omega)) only [aW, aX, aV, aB, aN, aL, aP, aH, aM, s_layout_has, v_layout_has, r_layout_has]
  exact post_v ⟨rfl, rfl⟩

theorem bin_vr {w v : Bool} (p : Pl) (m : Int) (h0 : 0 ≤ m) (h1 : m < p.ms.length) : VR P false n_layout_bin [plA w v p, .v (.int .i64 m)] [] (isR (.v (.bool (decide (binN p m.toNat))))) := by
  refine vr_layout_bin (by simp) (.inr rfl) fun _ _ => ?_
  unfold plA plC
  simp (disch := ((try simp only [List.length_set, List.length_replicate, List.length_append, List.length_cons, List.length_nil]); omega)) only [aW, aX, aV, aB, aN, aL, aP, aH, aM, s_layout_bin, v_layout_bin]
  refine (machineOuts_vr (w := w) (p.ms.getD m.toNat [])).same (by simp (disch := first | omega | simp (disch := omega) only [aF, aL, aN, aM]) only [aW, aX, aV, aB, aN, aL, aP, aH, aM, aF, Int.natCast_add, Int.natCast_mul, Int.add_sub_cancel, List.length_nil, Int.cast_ofNat_Int, and_true, true_and]) rfl (aret_of ?_)
  simp (disch := ((try simp only [List.length_set, List.length_replicate, List.length_append, List.length_cons, List.length_nil]); omega)) only [aW, aX, aV, aB, aN, aL, aP, aH, aM, r_layout_bin]
  exact post_v ⟨vdec (by unfold binN; omega), rfl⟩

theorem find1_vr (b : Bt) (m o : Int) : VR P false n_layout_find_1 [btA b, .fp false [.v (.int .i64 m)], .fp false [.v (.int .i64 o)]] [] (isR (.v (.bool (decide (isB m o b))))) := by
  refine vr_layout_find_1 (by simp) (.inr rfl) fun _ _ => ?_
  unfold btA btC
  simp (disch := ((try simp only [List.length_set, List.length_replicate, List.length_append, List.length_cons, List.length_nil]); omega)) only [aW, aX, aV, aB, aN, aL, aP, aH, aM, s_layout_find_1, v_layout_find_1, r_layout_find_1]
  exact post_v ⟨vdec (by unfold isB; exact Iff.rfl), rfl⟩

theorem findB_hit {bs : List Bt} {m o : Int} {k : Nat} (hk : k < bs.length) (hb : ∀ i, i < k → ¬ isB m o (bs.getD i b0)) (hp : isB m o (bs.getD k b0)) : findB bs m o = k := idxE_hit (p := isB m o) b0 hk hb hp
theorem findB_none {bs : List Bt} {m o : Int} (hb : ∀ i, i < bs.length → ¬ isB m o (bs.getD i b0)) : findB bs m o = -1 := idxE_none (p := isB m o) b0 hb

theorem indexFuncB_vr {v : Bool} (bs : List Bt) (hl : bs.length < 1000000000) (m o : Int) : VR P false n_slices_IndexFuncapi_Belt_api_Belt [.fs v (bts bs), .fn n_layout_find_1 [.fp false [.v (.int .i64 m)], .fp false [.v (.int .i64 o)]]] [] (isR (.v (.int .i64 (findB bs m o)))) := by
  refine vr_slices_IndexFuncapi_Belt_api_Belt (by simp) (.inr rfl) fun _ _ => ?_
  simp (disch := ((try simp only [List.length_set, List.length_replicate, List.length_append, List.length_cons, List.length_nil]); omega)) only [aW, aX, aV, aB, aN, aL, aP, aH, aM, s_slices_IndexFuncapi_Belt_api_Belt, v_slices_IndexFuncapi_Belt_api_Belt]
  refine AWP.loopP g_slices_IndexFuncapi_Belt_api_Belt_0 (fun k : Nat => k ≤ bs.length ∧ ∀ i, i < k → ¬ isB m o (bs.getD i b0)) (fun k => [(2, .v (.int .i64 0)), (3, .v (.int .i64 k))]) (fun _ => []) (fun k => bs.length - k) 0 ⟨by omega, fun i hi => by omega⟩ (by refine Cut.of' (0) ?_ (by omega) ?_ ?_ <;> simp (disch := first | omega | simp (disch := omega) only [aF, aL, aN, aM]) only [aW, aX, aV, aB, aN, aL, aP, aH, aM, aF, Int.natCast_add, Int.natCast_mul, Int.add_sub_cancel, List.length_nil, Int.cast_ofNat_Int, and_true, true_and]) ?_
  rintro k ⟨hk, hb⟩
  by_cases hlt : k < bs.length
  · simp (disch := ((try simp only [List.length_set, List.length_replicate, List.length_append, List.length_cons, List.length_nil]); omega)) only [aW, aX, aV, aB, aN, aL, aP, aH, aM]
    refine ⟨by kernel_rfl, ?_⟩
    refine (find1_vr (bs.getD k b0) m o).same (by unfold btA btC; simp (disch := first | omega | simp (disch := omega) only [aF, aL, aN, aM]) only [aW, aX, aV, aB, aN, aL, aP, aH, aM, aF, Int.natCast_add, Int.natCast_mul, Int.add_sub_cancel, List.length_nil, Int.cast_ofNat_Int, and_true, true_and]) rfl (aret_of ?_)
    simp (disch := ((try simp only [List.length_set, List.length_replicate, List.length_append, List.length_cons, List.length_nil]); omega)) only [aW, aX, aV, aB, aN, aL, aP, aH, aM]
    refine ib_intro (fun h3 => ?_) (fun h3 => ?_)
    · simp (disch := ((try simp only [List.length_set, List.length_replicate, List.length_append, List.length_cons, List.length_nil]); omega)) only [aW, aX, aV, aB, aN, aL, aP, aH, aM, r_slices_IndexFuncapi_Belt_api_Belt]
      exact post_v ⟨by rw [findB_hit hlt hb h3], rfl⟩
    · simp (disch := ((try simp only [List.length_set, List.length_replicate, List.length_append, List.length_cons, List.length_nil]); omega)) only [aW, aX, aV, aB, aN, aL, aP, aH, aM]
      refine ⟨k + 1, ⟨by omega, fun i hi => ?_⟩, by omega, (by refine Cut.of' (0) ?_ (by omega) ?_ ?_ <;> simp (disch := first | omega | simp (disch := omega) only [aF, aL, aN, aM]) only [aW, aX, aV, aB, aN, aL, aP, aH, aM, aF, Int.natCast_add, Int.natCast_mul, Int.add_sub_cancel, List.length_nil, Int.cast_ofNat_Int, and_true, true_and])⟩
      rcases Nat.lt_succ_iff_lt_or_eq.1 hi with h | rfl
      · exact hb i h
      · exact h3
  · simp (disch := ((try simp only [List.length_set, List.length_replicate, List.length_append, List.length_cons, List.length_nil]); omega)) only [aW, aX, aV, aB, aN, aL, aP, aH, aM, r_slices_IndexFuncapi_Belt_api_Belt]
    exact post_v ⟨by rw [findB_none fun i hi => hb i (by omega)], rfl⟩

theorem find_vr {w v : Bool} (p : Pl) (hl : p.bs.length < 1000000000) (m o : Int) : VR P false n_layout_find [plA w v p, .v (.int .i64 m), .v (.int .i64 o)] [] (isR (.v (.int .i64 (findB p.bs m o)))) := by
  refine vr_layout_find (by simp) (.inr rfl) fun _ _ => ?_
  unfold plA plC
  simp (disch := ((try simp only [List.length_set, List.length_replicate, List.length_append, List.length_cons, List.length_nil]); omega)) only [aW, aX, aV, aB, aN, aL, aP, aH, aM, s_layout_find, v_layout_find]
  refine (indexFuncB_vr (v := v) p.bs hl m o).use ⟨Ld.refl (by simp (disch := first | omega | simp (disch := omega) only [aF, aL, aN, aM]) only [aW, aX, aV, aB, aN, aL, aP, aH, aM, aF, Int.natCast_add, Int.natCast_mul, Int.add_sub_cancel, List.length_nil, Int.cast_ofNat_Int, and_true, true_and]), Ld.fn ⟨Ld.lp (o := 0) rfl (LdL.refl rfl) (by simp), Ld.lp (o := 0) rfl (LdL.refl rfl) (by simp), trivial⟩, trivial⟩ rfl (aret_of ?_)
  simp (disch := ((try simp only [List.length_set, List.length_replicate, List.length_append, List.length_cons, List.length_nil]); omega)) only [aW, aX, aV, aB, aN, aL, aP, aH, aM, r_layout_find]
  exact post_v ⟨rfl, rfl⟩

theorem place_vr {w v : Bool} (p : Pl) (hl : p.bs.length < 1000000000) (m o : Int) : VR P false n_ref34_place [plA w v p, .v (.int .i64 m), .v (.int .i64 o)] [] (isR (.v (.int .i64 (findB p.bs m o)))) := by
  refine vr_ref34_place (by simp) (.inr rfl) fun _ _ => ?_
  unfold plA plC
  simp (disch := ((try simp only [List.length_set, List.length_replicate, List.length_append, List.length_cons, List.length_nil]); omega)) only [aW, aX, aV, aB, aN, aL, aP, aH, aM, s_ref34_place, v_ref34_place]
  refine AWP.loopP g_ref34_place_0 (fun k : Nat => k ≤ p.bs.length ∧ ∀ i, i < k → ¬ isB m o (p.bs.getD i b0)) (fun k => [(3, .v (.int .i64 0)), (4, .v (.int .i64 k))]) (fun _ => []) (fun k => p.bs.length - k) 0 ⟨by omega, fun i hi => by omega⟩ (by refine Cut.of' (1) ?_ (by omega) ?_ ?_ <;> simp (disch := first | omega | simp (disch := omega) only [aF, aL, aN, aM]) only [aW, aX, aV, aB, aN, aL, aP, aH, aM, aF, Int.natCast_add, Int.natCast_mul, Int.add_sub_cancel, List.length_nil, Int.cast_ofNat_Int, and_true, true_and]) ?_
  rintro k ⟨hk, hb⟩
  by_cases hlt : k < p.bs.length
  · simp (disch := ((try simp only [List.length_set, List.length_replicate, List.length_append, List.length_cons, List.length_nil]); omega)) only [aW, aX, aV, aB, aN, aL, aP, aH, aM]
    refine ib_intro (fun h3 => ?_) (fun h3 => ?_)
    · simp (disch := ((try simp only [List.length_set, List.length_replicate, List.length_append, List.length_cons, List.length_nil]); omega)) only [aW, aX, aV, aB, aN, aL, aP, aH, aM, r_ref34_place]
      exact post_v ⟨by rw [findB_hit hlt hb h3], rfl⟩
    · simp (disch := ((try simp only [List.length_set, List.length_replicate, List.length_append, List.length_cons, List.length_nil]); omega)) only [aW, aX, aV, aB, aN, aL, aP, aH, aM]
      refine ⟨k + 1, ⟨by omega, fun i hi => ?_⟩, by omega, (by refine Cut.of' (1) ?_ (by omega) ?_ ?_ <;> simp (disch := first | omega | simp (disch := omega) only [aF, aL, aN, aM]) only [aW, aX, aV, aB, aN, aL, aP, aH, aM, aF, Int.natCast_add, Int.natCast_mul, Int.add_sub_cancel, List.length_nil, Int.cast_ofNat_Int, and_true, true_and])⟩
      rcases Nat.lt_succ_iff_lt_or_eq.1 hi with h | rfl
      · exact hb i h
      · exact h3
  · simp (disch := ((try simp only [List.length_set, List.length_replicate, List.length_append, List.length_cons, List.length_nil]); omega)) only [aW, aX, aV, aB, aN, aL, aP, aH, aM, r_ref34_place]
    exact post_v ⟨by rw [findB_none fun i hi => hb i (by omega)], rfl⟩

theorem beltE_none {ms : List Mc} {b : Bt} (h : b.fr < 0 ∨ (ms.length : Int) ≤ b.fr ∨ b.ot < 0 ∨ (outsN (ms.getD b.fr.toNat []) : Int) ≤ b.ot ∨ b.to < 0 ∨ (ms.length : Int) ≤ b.to) : beltE ms b = 7 := by unfold beltE; rw [if_pos h]
theorem beltE_range {ms : List Mc} {b : Bt} (h : ¬ (b.fr < 0 ∨ (ms.length : Int) ≤ b.fr ∨ b.ot < 0 ∨ (outsN (ms.getD b.fr.toNat []) : Int) ≤ b.ot ∨ b.to < 0 ∨ (ms.length : Int) ≤ b.to)) (h2 : b.ln < 1 ∨ 16 < b.ln) : beltE ms b = 1 := by unfold beltE; rw [if_neg h, if_pos h2]
theorem beltE_fine {ms : List Mc} {b : Bt} (h : ¬ (b.fr < 0 ∨ (ms.length : Int) ≤ b.fr ∨ b.ot < 0 ∨ (outsN (ms.getD b.fr.toNat []) : Int) ≤ b.ot ∨ b.to < 0 ∨ (ms.length : Int) ≤ b.to)) (h2 : ¬ (b.ln < 1 ∨ 16 < b.ln)) : beltE ms b = 0 := by unfold beltE; rw [if_neg h, if_neg h2]

theorem belt_vr {w v : Bool} (p : Pl) (b : Bt) : VR P false n_layout_belt [plA w v p, btA b] [] (isR (.v (.int .i64 (beltE p.ms b)))) := by
  refine vr_layout_belt (by simp) (.inr rfl) fun _ _ => ?_
  unfold btA btC plA plC
  simp (disch := ((try simp only [List.length_set, List.length_replicate, List.length_append, List.length_cons, List.length_nil]); omega)) only [aW, aX, aV, aB, aN, aL, aP, aH, aM, s_layout_belt, v_layout_belt]
  refine (has_vr (w := w) (v := v) p b.fr).same (by simp (disch := first | omega | simp (disch := omega) only [aF, aL, aN, aM]) only [aW, aX, aV, aB, aN, aL, aP, aH, aM, aF, Int.natCast_add, Int.natCast_mul, Int.add_sub_cancel, List.length_nil, Int.cast_ofNat_Int, and_true, true_and]) rfl (aret_of ?_)
  by_cases h1 : 0 ≤ b.fr ∧ b.fr < p.ms.length
  · simp (disch := ((try simp only [List.length_set, List.length_replicate, List.length_append, List.length_cons, List.length_nil]); omega)) only [aW, aX, aV, aB, aN, aL, aP, aH, aM, decide_eq_true h1]
    by_cases h2 : b.ot < 0
    · simp (disch := ((try simp only [List.length_set, List.length_replicate, List.length_append, List.length_cons, List.length_nil]); omega)) only [aW, aX, aV, aB, aN, aL, aP, aH, aM, r_layout_belt]
      exact post_v ⟨by rw [beltE_none (by omega)], rfl⟩
    · simp (disch := ((try simp only [List.length_set, List.length_replicate, List.length_append, List.length_cons, List.length_nil]); omega)) only [aW, aX, aV, aB, aN, aL, aP, aH, aM]
      refine (machineOuts_vr (w := w) (p.ms.getD b.fr.toNat [])).same (by simp (disch := first | omega | simp (disch := omega) only [aF, aL, aN, aM]) only [aW, aX, aV, aB, aN, aL, aP, aH, aM, aF, Int.natCast_add, Int.natCast_mul, Int.add_sub_cancel, List.length_nil, Int.cast_ofNat_Int, and_true, true_and]) rfl (aret_of ?_)
      simp (disch := ((try simp only [List.length_set, List.length_replicate, List.length_append, List.length_cons, List.length_nil]); omega)) only [aW, aX, aV, aB, aN, aL, aP, aH, aM]
      by_cases h3 : (outsN (p.ms.getD b.fr.toNat []) : Int) ≤ b.ot
      · simp (disch := ((try simp only [List.length_set, List.length_replicate, List.length_append, List.length_cons, List.length_nil]); omega)) only [aW, aX, aV, aB, aN, aL, aP, aH, aM, r_layout_belt]
        exact post_v ⟨by rw [beltE_none (by omega)], rfl⟩
      · simp (disch := ((try simp only [List.length_set, List.length_replicate, List.length_append, List.length_cons, List.length_nil]); omega)) only [aW, aX, aV, aB, aN, aL, aP, aH, aM]
        refine (has_vr (w := w) (v := v) p b.to).same (by simp (disch := first | omega | simp (disch := omega) only [aF, aL, aN, aM]) only [aW, aX, aV, aB, aN, aL, aP, aH, aM, aF, Int.natCast_add, Int.natCast_mul, Int.add_sub_cancel, List.length_nil, Int.cast_ofNat_Int, and_true, true_and]) rfl (aret_of ?_)
        by_cases h4 : 0 ≤ b.to ∧ b.to < p.ms.length
        · have hn : ¬ (b.fr < 0 ∨ (p.ms.length : Int) ≤ b.fr ∨ b.ot < 0 ∨ (outsN (p.ms.getD b.fr.toNat []) : Int) ≤ b.ot ∨ b.to < 0 ∨ (p.ms.length : Int) ≤ b.to) := by omega
          simp (disch := ((try simp only [List.length_set, List.length_replicate, List.length_append, List.length_cons, List.length_nil]); omega)) only [aW, aX, aV, aB, aN, aL, aP, aH, aM, decide_eq_true h4]
          refine ib_intro (fun h5 => ?_) (fun h5 => ?_)
          · simp (disch := ((try simp only [List.length_set, List.length_replicate, List.length_append, List.length_cons, List.length_nil]); omega)) only [aW, aX, aV, aB, aN, aL, aP, aH, aM, r_layout_belt]
            exact post_v ⟨by rw [beltE_range hn h5], rfl⟩
          · simp (disch := ((try simp only [List.length_set, List.length_replicate, List.length_append, List.length_cons, List.length_nil]); omega)) only [aW, aX, aV, aB, aN, aL, aP, aH, aM, r_layout_belt]
            exact post_v ⟨by rw [beltE_fine hn h5], rfl⟩
        · simp (disch := ((try simp only [List.length_set, List.length_replicate, List.length_append, List.length_cons, List.length_nil]); omega)) only [aW, aX, aV, aB, aN, aL, aP, aH, aM, decide_eq_false h4, r_layout_belt]
          exact post_v ⟨by rw [beltE_none (by omega)], rfl⟩
  · simp (disch := ((try simp only [List.length_set, List.length_replicate, List.length_append, List.length_cons, List.length_nil]); omega)) only [aW, aX, aV, aB, aN, aL, aP, aH, aM, decide_eq_false h1, r_layout_belt]
    exact post_v ⟨by rw [beltE_none (by omega)], rfl⟩
end Go.Proofs.Ytjhdedifmhkhbaa
