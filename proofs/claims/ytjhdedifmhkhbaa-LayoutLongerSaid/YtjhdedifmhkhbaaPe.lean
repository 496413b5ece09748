/- Checking a plant, in the program and in the reference. No statement is claimed here. -/
import Derived.Test.YtjhdedifmhkhbaaPd
namespace Go.Proofs.Ytjhdedifmhkhbaa
open Go Go.Lft
set_option linter.unusedSimpArgs false
set_option linter.unusedVariables false
attribute [local congr] ob_congr bw_congr ib_congr ck_congr iwA_congr itA_congr aw_congr awp_congr sqA_congr bkA_congr vr_congr gd_congr

def pbelts (ms : List Mc) (bs : List Bt) : Int := if beltsE ms bs ≠ 0 then beltsE ms bs else if openO ms bs then 3 else 0
theorem beltsE_hit {ms : List Mc} {bs : List Bt} {k : Nat} (hk : k < bs.length) (hb : ∀ i, i < k → beltE ms (bs.getD i b0) = 0) (hn : beltE ms (bs.getD k b0) ≠ 0) : beltsE ms bs = beltE ms (bs.getD k b0) := by
  have := firstE_hit (f := beltE ms) b0 hk hb hn
  unfold beltsE; rw [this, if_pos hn]
theorem beltsE_twice {ms : List Mc} {bs : List Bt} (hb : ∀ i, i < bs.length → beltE ms (bs.getD i b0) = 0) (ht : twice bs) : beltsE ms bs = 6 := by
  have := firstE_none (f := beltE ms) b0 hb
  unfold beltsE; rw [this, if_neg (by omega), if_pos ht]
theorem beltsE_fine {ms : List Mc} {bs : List Bt} (hb : ∀ i, i < bs.length → beltE ms (bs.getD i b0) = 0) (ht : ¬ twice bs) : beltsE ms bs = 0 := by
  have := firstE_none (f := beltE ms) b0 hb
  unfold beltsE; rw [this, if_neg (by omega), if_neg ht]
theorem pbelts_err {ms : List Mc} {bs : List Bt} (h : beltsE ms bs ≠ 0) : pbelts ms bs = beltsE ms bs := by unfold pbelts; rw [if_pos h]
theorem pbelts_open {ms : List Mc} {bs : List Bt} (h : beltsE ms bs = 0) (h2 : openO ms bs) : pbelts ms bs = 3 := by unfold pbelts; rw [if_neg (by omega), if_pos h2]
theorem pbelts_fine {ms : List Mc} {bs : List Bt} (h : beltsE ms bs = 0) (h2 : ¬ openO ms bs) : pbelts ms bs = 0 := by unfold pbelts; rw [if_neg (by omega), if_neg h2]

theorem outs4 {m : Mc} {mat : Int} (h : mcheck m mat = 0) : outsN m ≤ 4 := by
  have hmk := mcheck_ok h
  rcases outsN_le (m := m) with h | h
  · omega
  · exact (hmk.row _ (mem_get [] h)).2.1
theorem belts_vr {w v : Bool} (p : Pl) (hl : p.bs.length ≤ 48) (hm : p.ms.length ≤ 24) (h4 : ∀ i, i < p.ms.length → outsN (p.ms.getD i []) ≤ 4) : VR P false n_layout_belts [plA w v p] [] (isR (.v (.int .i64 (pbelts p.ms p.bs)))) := by
  refine vr_layout_belts (by simp) (.inr rfl) fun _ _ => ?_
  unfold plA plC
  simp (disch := ((try simp only [List.length_set, List.length_replicate, List.length_append, List.length_cons, List.length_nil]); omega)) only [aW, aX, aV, aB, aN, aL, aP, aH, aM, s_layout_belts, v_layout_belts]
  refine AWP.loopP g_layout_belts_0 (fun k : Nat => k ≤ p.bs.length ∧ ∀ i, i < k → beltE p.ms (p.bs.getD i b0) = 0) (fun k => [(1, .v (.int .i64 0)), (3, .v (.int .i64 k))]) (fun _ => []) (fun k => p.bs.length - k) 0 ⟨by omega, fun i hi => by omega⟩ (by refine Cut.of' (1) ?_ (by omega) ?_ ?_ <;> simp (disch := first | omega | simp (disch := omega) only [aF, aL, aN, aM]) only [aW, aX, aV, aB, aN, aL, aP, aH, aM, aF, Int.natCast_add, Int.natCast_mul, Int.add_sub_cancel, List.length_nil, Int.cast_ofNat_Int, and_true, true_and]) ?_
  rintro k ⟨hk, hb⟩
  by_cases hlt : k < p.bs.length
  · simp (disch := ((try simp only [List.length_set, List.length_replicate, List.length_append, List.length_cons, List.length_nil]); omega)) only [aW, aX, aV, aB, aN, aL, aP, aH, aM]
    refine (belt_vr (w := w) (v := v) p (p.bs.getD k b0)).same (by unfold plA plC btA btC; simp (disch := first | omega | simp (disch := omega) only [aF, aL, aN, aM]) only [aW, aX, aV, aB, aN, aL, aP, aH, aM, aF, Int.natCast_add, Int.natCast_mul, Int.add_sub_cancel, List.length_nil, Int.cast_ofNat_Int, and_true, true_and]) rfl (aret_of ?_)
    simp (disch := ((try simp only [List.length_set, List.length_replicate, List.length_append, List.length_cons, List.length_nil]); omega)) only [aW, aX, aV, aB, aN, aL, aP, aH, aM]
    refine ib_intro (fun h3 => ?_) (fun h3 => ?_)
    · simp (disch := ((try simp only [List.length_set, List.length_replicate, List.length_append, List.length_cons, List.length_nil]); omega)) only [aW, aX, aV, aB, aN, aL, aP, aH, aM, r_layout_belts]
      have h4 := beltsE_hit hlt hb h3
      exact post_v ⟨by rw [pbelts_err (by omega), h4], rfl⟩
    · simp (disch := ((try simp only [List.length_set, List.length_replicate, List.length_append, List.length_cons, List.length_nil]); omega)) only [aW, aX, aV, aB, aN, aL, aP, aH, aM]
      refine ⟨k + 1, ⟨by omega, fun i hi => ?_⟩, by omega, (by refine Cut.of' (1) ?_ (by omega) ?_ ?_ <;> simp (disch := first | omega | simp (disch := omega) only [aF, aL, aN, aM]) only [aW, aX, aV, aB, aN, aL, aP, aH, aM, aF, Int.natCast_add, Int.natCast_mul, Int.add_sub_cancel, List.length_nil, Int.cast_ofNat_Int, and_true, true_and])⟩
      rcases Nat.lt_succ_iff_lt_or_eq.1 hi with h | rfl
      · exact hb i h
      · exact Classical.not_not.1 h3
  have hb : ∀ i, i < p.bs.length → beltE p.ms (p.bs.getD i b0) = 0 := fun i hi => hb i (by omega)
  simp (disch := ((try simp only [List.length_set, List.length_replicate, List.length_append, List.length_cons, List.length_nil]); omega)) only [aW, aX, aV, aB, aN, aL, aP, aH, aM]
  refine AWP.loopP g_layout_belts_1 (fun k : Nat => k ≤ p.bs.length ∧ ∀ i, i < k → findB p.bs (p.bs.getD i b0).fr (p.bs.getD i b0).ot = i) (fun k => [(1, .v (.int .i64 0)), (9, .v (.int .i64 k))]) (fun _ => []) (fun k => p.bs.length - k) 0 ⟨by omega, fun i hi => by omega⟩ (by refine Cut.of' (1) ?_ (by omega) ?_ ?_ <;> simp (disch := first | omega | simp (disch := omega) only [aF, aL, aN, aM]) only [aW, aX, aV, aB, aN, aL, aP, aH, aM, aF, Int.natCast_add, Int.natCast_mul, Int.add_sub_cancel, List.length_nil, Int.cast_ofNat_Int, and_true, true_and]) ?_
  rintro k ⟨hk, hu⟩
  by_cases hlt : k < p.bs.length
  · simp (disch := ((try simp only [List.length_set, List.length_replicate, List.length_append, List.length_cons, List.length_nil]); omega)) only [aW, aX, aV, aB, aN, aL, aP, aH, aM]
    refine (find_vr (w := w) (v := v) p (by omega) (p.bs.getD k b0).fr (p.bs.getD k b0).ot).same (by unfold plA plC; simp (disch := first | omega | simp (disch := omega) only [aF, aL, aN, aM]) only [aW, aX, aV, aB, aN, aL, aP, aH, aM, aF, Int.natCast_add, Int.natCast_mul, Int.add_sub_cancel, List.length_nil, Int.cast_ofNat_Int, and_true, true_and]) rfl (aret_of ?_)
    simp (disch := ((try simp only [List.length_set, List.length_replicate, List.length_append, List.length_cons, List.length_nil]); omega)) only [aW, aX, aV, aB, aN, aL, aP, aH, aM]
    refine ib_intro (fun h3 => ?_) (fun h3 => ?_)
    · simp (disch := ((try simp only [List.length_set, List.length_replicate, List.length_append, List.length_cons, List.length_nil]); omega)) only [aW, aX, aV, aB, aN, aL, aP, aH, aM, r_layout_belts]
      have h4 := beltsE_twice hb ⟨k, hlt, h3⟩
      exact post_v ⟨by rw [pbelts_err (by omega), h4], rfl⟩
    · simp (disch := ((try simp only [List.length_set, List.length_replicate, List.length_append, List.length_cons, List.length_nil]); omega)) only [aW, aX, aV, aB, aN, aL, aP, aH, aM]
      refine ⟨k + 1, ⟨by omega, fun i hi => ?_⟩, by omega, (by refine Cut.of' (1) ?_ (by omega) ?_ ?_ <;> simp (disch := first | omega | simp (disch := omega) only [aF, aL, aN, aM]) only [aW, aX, aV, aB, aN, aL, aP, aH, aM, aF, Int.natCast_add, Int.natCast_mul, Int.add_sub_cancel, List.length_nil, Int.cast_ofNat_Int, and_true, true_and])⟩
      rcases Nat.lt_succ_iff_lt_or_eq.1 hi with h | rfl
      · exact hu i h
      · exact Classical.not_not.1 h3
  have hf := beltsE_fine hb fun ⟨i, h1, h2⟩ => h2 (hu i (by omega))
  simp (disch := ((try simp only [List.length_set, List.length_replicate, List.length_append, List.length_cons, List.length_nil]); omega)) only [aW, aX, aV, aB, aN, aL, aP, aH, aM]
  refine AWP.loopP g_layout_belts_2 (fun k : Nat => k ≤ p.ms.length ∧ ∀ i, i < k → ∀ o, o < outsN (p.ms.getD i []) → 0 ≤ findB p.bs i o) (fun k => [(1, .v (.int .i64 0)), (15, .v (.int .i64 k))]) (fun _ => []) (fun k => p.ms.length - k) 0 ⟨by omega, fun i hi => by omega⟩ (by refine Cut.of' (1) ?_ (by omega) ?_ ?_ <;> simp (disch := first | omega | simp (disch := omega) only [aF, aL, aN, aM]) only [aW, aX, aV, aB, aN, aL, aP, aH, aM, aF, Int.natCast_add, Int.natCast_mul, Int.add_sub_cancel, List.length_nil, Int.cast_ofNat_Int, and_true, true_and]) ?_
  rintro k ⟨hk, hu2⟩
  by_cases hlt : k < p.ms.length
  · have hk4 := h4 k hlt
    simp (disch := ((try simp only [List.length_set, List.length_replicate, List.length_append, List.length_cons, List.length_nil]); omega)) only [aW, aX, aV, aB, aN, aL, aP, aH, aM]
    refine (machineOuts_vr (w := w) (p.ms.getD k [])).same (by unfold mcA mcC; simp (disch := first | omega | simp (disch := omega) only [aF, aL, aN, aM]) only [aW, aX, aV, aB, aN, aL, aP, aH, aM, aF, Int.natCast_add, Int.natCast_mul, Int.add_sub_cancel, List.length_nil, Int.cast_ofNat_Int, and_true, true_and]) rfl (aret_of ?_)
    simp (disch := ((try simp only [List.length_set, List.length_replicate, List.length_append, List.length_cons, List.length_nil]); omega)) only [aW, aX, aV, aB, aN, aL, aP, aH, aM]
    refine AWP.loopP g_layout_belts_3 (fun o : Nat => o ≤ outsN (p.ms.getD k []) ∧ ∀ i, i < o → 0 ≤ findB p.bs k i) (fun o => [(1, .v (.int .i64 0)), (21, .v (.int .i64 o))]) (fun _ => []) (fun o => outsN (p.ms.getD k []) - o) 0 ⟨by omega, fun i hi => by omega⟩ (by refine Cut.of' (2) ?_ (by omega) ?_ ?_ <;> simp (disch := first | omega | simp (disch := omega) only [aF, aL, aN, aM]) only [aW, aX, aV, aB, aN, aL, aP, aH, aM, aF, Int.natCast_add, Int.natCast_mul, Int.add_sub_cancel, List.length_nil, Int.cast_ofNat_Int, and_true, true_and]) ?_
    rintro o ⟨ho, hv⟩
    by_cases hol : o < outsN (p.ms.getD k [])
    · simp (disch := ((try simp only [List.length_set, List.length_replicate, List.length_append, List.length_cons, List.length_nil]); omega)) only [aW, aX, aV, aB, aN, aL, aP, aH, aM]
      refine (find_vr (w := w) (v := v) p (by omega) k o).same (by unfold plA plC; simp (disch := first | omega | simp (disch := omega) only [aF, aL, aN, aM]) only [aW, aX, aV, aB, aN, aL, aP, aH, aM, aF, Int.natCast_add, Int.natCast_mul, Int.add_sub_cancel, List.length_nil, Int.cast_ofNat_Int, and_true, true_and]) rfl (aret_of ?_)
      simp (disch := ((try simp only [List.length_set, List.length_replicate, List.length_append, List.length_cons, List.length_nil]); omega)) only [aW, aX, aV, aB, aN, aL, aP, aH, aM]
      refine ib_intro (fun h3 => ?_) (fun h3 => ?_)
      · simp (disch := ((try simp only [List.length_set, List.length_replicate, List.length_append, List.length_cons, List.length_nil]); omega)) only [aW, aX, aV, aB, aN, aL, aP, aH, aM, r_layout_belts]
        exact post_v ⟨by rw [pbelts_open hf ⟨k, hlt, o, hol, h3⟩], rfl⟩
      · simp (disch := ((try simp only [List.length_set, List.length_replicate, List.length_append, List.length_cons, List.length_nil]); omega)) only [aW, aX, aV, aB, aN, aL, aP, aH, aM]
        refine ⟨o + 1, ⟨by omega, fun i hi => ?_⟩, by omega, (by refine Cut.of' (2) ?_ (by omega) ?_ ?_ <;> simp (disch := first | omega | simp (disch := omega) only [aF, aL, aN, aM]) only [aW, aX, aV, aB, aN, aL, aP, aH, aM, aF, Int.natCast_add, Int.natCast_mul, Int.add_sub_cancel, List.length_nil, Int.cast_ofNat_Int, and_true, true_and])⟩
        rcases Nat.lt_succ_iff_lt_or_eq.1 hi with h | rfl
        · exact hv i h
        · omega
    · simp (disch := ((try simp only [List.length_set, List.length_replicate, List.length_append, List.length_cons, List.length_nil]); omega)) only [aW, aX, aV, aB, aN, aL, aP, aH, aM]
      refine ⟨k + 1, ⟨by omega, fun i hi => ?_⟩, by omega, (by refine Cut.of' (1) ?_ (by omega) ?_ ?_ <;> simp (disch := first | omega | simp (disch := omega) only [aF, aL, aN, aM]) only [aW, aX, aV, aB, aN, aL, aP, aH, aM, aF, Int.natCast_add, Int.natCast_mul, Int.add_sub_cancel, List.length_nil, Int.cast_ofNat_Int, and_true, true_and])⟩
      rcases Nat.lt_succ_iff_lt_or_eq.1 hi with h | rfl
      · exact hu2 i h
      · intro o' ho'; exact hv o' (by omega)
  · simp (disch := ((try simp only [List.length_set, List.length_replicate, List.length_append, List.length_cons, List.length_nil]); omega)) only [aW, aX, aV, aB, aN, aL, aP, aH, aM, r_layout_belts]
    refine post_v ⟨?_, rfl⟩
    rw [pbelts_fine hf]
    rintro ⟨i, h1, o, h2, h3⟩
    have := hu2 i (by omega) o h2
    omega

theorem refBelts_vr {w v : Bool} (p : Pl) (hl : p.bs.length ≤ 48) (hm : p.ms.length ≤ 24) : VR P false n_ref34_belts [plA w v p] [] (isR (.v (.int .i64 (beltsE p.ms p.bs)))) := by
  refine vr_ref34_belts (by simp) (.inr rfl) fun _ _ => ?_
  unfold plA plC
  simp (disch := ((try simp only [List.length_set, List.length_replicate, List.length_append, List.length_cons, List.length_nil]); omega)) only [aW, aX, aV, aB, aN, aL, aP, aH, aM, s_ref34_belts, v_ref34_belts]
  refine AWP.loopP g_ref34_belts_0 (fun k : Nat => k ≤ p.bs.length ∧ ∀ i, i < k → beltE p.ms (p.bs.getD i b0) = 0) (fun k => [(1, .v (.int .i64 0)), (2, .v (.int .i64 k))]) (fun _ => []) (fun k => p.bs.length - k) 0 ⟨by omega, fun i hi => by omega⟩ (by refine Cut.of' (1) ?_ (by omega) ?_ ?_ <;> simp (disch := first | omega | simp (disch := omega) only [aF, aL, aN, aM]) only [aW, aX, aV, aB, aN, aL, aP, aH, aM, aF, Int.natCast_add, Int.natCast_mul, Int.add_sub_cancel, List.length_nil, Int.cast_ofNat_Int, and_true, true_and]) ?_
  rintro k ⟨hk, hb⟩
  by_cases hlt : k < p.bs.length
  · have next : beltE p.ms (p.bs.getD k b0) = 0 → ∀ i, i < k + 1 → beltE p.ms (p.bs.getD i b0) = 0 := fun h3 i hi => by
      rcases Nat.lt_succ_iff_lt_or_eq.1 hi with h | rfl
      · exact hb i h
      · exact h3
    have hit := beltsE_hit (ms := p.ms) hlt hb
    generalize hbk : p.bs.getD k b0 = b at next hit
    by_cases h1 : (b.fr < 0 ∨ (p.ms.length : Int) ≤ b.fr) ∨ b.ot < 0
    · have h4 := beltE_none (ms := p.ms) (b := b) (by omega)
      simp (disch := ((try simp only [List.length_set, List.length_replicate, List.length_append, List.length_cons, List.length_nil]); omega)) only [aW, aX, aV, aB, aN, aL, aP, aH, aM, hbk, r_ref34_belts]
      exact post_v ⟨by rw [hit (by omega), h4], rfl⟩
    · simp (disch := ((try simp only [List.length_set, List.length_replicate, List.length_append, List.length_cons, List.length_nil]); omega)) only [aW, aX, aV, aB, aN, aL, aP, aH, aM, hbk]
      refine (refOuts_vr (w := w) (p.ms.getD b.fr.toNat [])).same (by unfold mcA mcC; simp (disch := first | omega | simp (disch := omega) only [aF, aL, aN, aM]) only [aW, aX, aV, aB, aN, aL, aP, aH, aM, aF, Int.natCast_add, Int.natCast_mul, Int.add_sub_cancel, List.length_nil, Int.cast_ofNat_Int, and_true, true_and]) rfl (aret_of ?_)
      simp (disch := ((try simp only [List.length_set, List.length_replicate, List.length_append, List.length_cons, List.length_nil]); omega)) only [aW, aX, aV, aB, aN, aL, aP, aH, aM]
      refine ib_intro (fun h2 => ?_) (fun h2 => ?_)
      · have h4 := beltE_none (ms := p.ms) (b := b) (by omega)
        simp (disch := ((try simp only [List.length_set, List.length_replicate, List.length_append, List.length_cons, List.length_nil]); omega)) only [aW, aX, aV, aB, aN, aL, aP, aH, aM, r_ref34_belts]
        exact post_v ⟨by rw [hit (by omega), h4], rfl⟩
      · have hn : ¬ (b.fr < 0 ∨ (p.ms.length : Int) ≤ b.fr ∨ b.ot < 0 ∨ (outsN (p.ms.getD b.fr.toNat []) : Int) ≤ b.ot ∨ b.to < 0 ∨ (p.ms.length : Int) ≤ b.to) := by omega
        simp (disch := ((try simp only [List.length_set, List.length_replicate, List.length_append, List.length_cons, List.length_nil]); omega)) only [aW, aX, aV, aB, aN, aL, aP, aH, aM]
        refine ib_intro (fun h5 => ?_) (fun h5 => ?_)
        · have h4 := beltE_range hn h5
          simp (disch := ((try simp only [List.length_set, List.length_replicate, List.length_append, List.length_cons, List.length_nil]); omega)) only [aW, aX, aV, aB, aN, aL, aP, aH, aM, r_ref34_belts]
          exact post_v ⟨by rw [hit (by omega), h4], rfl⟩
        · simp (disch := ((try simp only [List.length_set, List.length_replicate, List.length_append, List.length_cons, List.length_nil]); omega)) only [aW, aX, aV, aB, aN, aL, aP, aH, aM]
          exact ⟨k + 1, ⟨by omega, next (beltE_fine hn h5)⟩, by omega, (by refine Cut.of' (1) ?_ (by omega) ?_ ?_ <;> simp (disch := first | omega | simp (disch := omega) only [aF, aL, aN, aM]) only [aW, aX, aV, aB, aN, aL, aP, aH, aM, aF, Int.natCast_add, Int.natCast_mul, Int.add_sub_cancel, List.length_nil, Int.cast_ofNat_Int, and_true, true_and])⟩
  have hb : ∀ i, i < p.bs.length → beltE p.ms (p.bs.getD i b0) = 0 := fun i hi => hb i (by omega)
  simp (disch := ((try simp only [List.length_set, List.length_replicate, List.length_append, List.length_cons, List.length_nil]); omega)) only [aW, aX, aV, aB, aN, aL, aP, aH, aM]
  refine AWP.loopP g_ref34_belts_1 (fun k : Nat => k ≤ p.bs.length ∧ ∀ i, i < k → findB p.bs (p.bs.getD i b0).fr (p.bs.getD i b0).ot = i) (fun k => [(1, .v (.int .i64 0)), (5, .v (.int .i64 k))]) (fun _ => []) (fun k => p.bs.length - k) 0 ⟨by omega, fun i hi => by omega⟩ (by refine Cut.of' (1) ?_ (by omega) ?_ ?_ <;> simp (disch := first | omega | simp (disch := omega) only [aF, aL, aN, aM]) only [aW, aX, aV, aB, aN, aL, aP, aH, aM, aF, Int.natCast_add, Int.natCast_mul, Int.add_sub_cancel, List.length_nil, Int.cast_ofNat_Int, and_true, true_and]) ?_
  rintro k ⟨hk, hu⟩
  by_cases hlt : k < p.bs.length
  · simp (disch := ((try simp only [List.length_set, List.length_replicate, List.length_append, List.length_cons, List.length_nil]); omega)) only [aW, aX, aV, aB, aN, aL, aP, aH, aM]
    refine AWP.loopP g_ref34_belts_2 (fun j : Nat => j ≤ k ∧ ∀ i, i < j → ¬ isB (p.bs.getD k b0).fr (p.bs.getD k b0).ot (p.bs.getD i b0)) (fun j => [(1, .v (.int .i64 0)), (6, .v (.int .i64 j))]) (fun _ => []) (fun j => k - j) 0 ⟨by omega, fun i hi => by omega⟩ (by refine Cut.of' (1) ?_ (by omega) ?_ ?_ <;> simp (disch := first | omega | simp (disch := omega) only [aF, aL, aN, aM]) only [aW, aX, aV, aB, aN, aL, aP, aH, aM, aF, Int.natCast_add, Int.natCast_mul, Int.add_sub_cancel, List.length_nil, Int.cast_ofNat_Int, and_true, true_and]) ?_
    rintro j ⟨hj, hv⟩
    by_cases hjl : j < k
    · simp (disch := ((try simp only [List.length_set, List.length_replicate, List.length_append, List.length_cons, List.length_nil]); omega)) only [aW, aX, aV, aB, aN, aL, aP, aH, aM]
      refine ib_intro (fun h3 => ?_) (fun h3 => ?_)
      · have hf : findB p.bs (p.bs.getD k b0).fr (p.bs.getD k b0).ot = j := findB_hit (by omega) hv ⟨h3.1.symm, h3.2.symm⟩
        have ht := beltsE_twice hb ⟨k, hlt, by omega⟩
        simp (disch := ((try simp only [List.length_set, List.length_replicate, List.length_append, List.length_cons, List.length_nil]); omega)) only [aW, aX, aV, aB, aN, aL, aP, aH, aM, r_ref34_belts]
        exact post_v ⟨by rw [ht], rfl⟩
      · simp (disch := ((try simp only [List.length_set, List.length_replicate, List.length_append, List.length_cons, List.length_nil]); omega)) only [aW, aX, aV, aB, aN, aL, aP, aH, aM]
        refine ⟨j + 1, ⟨by omega, fun i hi => ?_⟩, by omega, (by refine Cut.of' (1) ?_ (by omega) ?_ ?_ <;> simp (disch := first | omega | simp (disch := omega) only [aF, aL, aN, aM]) only [aW, aX, aV, aB, aN, aL, aP, aH, aM, aF, Int.natCast_add, Int.natCast_mul, Int.add_sub_cancel, List.length_nil, Int.cast_ofNat_Int, and_true, true_and])⟩
        rcases Nat.lt_succ_iff_lt_or_eq.1 hi with h | rfl
        · exact hv i h
        · exact fun h => h3 ⟨h.1.symm, h.2.symm⟩
    · simp (disch := ((try simp only [List.length_set, List.length_replicate, List.length_append, List.length_cons, List.length_nil]); omega)) only [aW, aX, aV, aB, aN, aL, aP, aH, aM]
      refine ⟨k + 1, ⟨by omega, fun i hi => ?_⟩, by omega, (by refine Cut.of' (1) ?_ (by omega) ?_ ?_ <;> simp (disch := first | omega | simp (disch := omega) only [aF, aL, aN, aM]) only [aW, aX, aV, aB, aN, aL, aP, aH, aM, aF, Int.natCast_add, Int.natCast_mul, Int.add_sub_cancel, List.length_nil, Int.cast_ofNat_Int, and_true, true_and])⟩
      rcases Nat.lt_succ_iff_lt_or_eq.1 hi with h | rfl
      · exact hu i h
      · exact findB_hit hlt (fun l hl => hv l (by omega)) ⟨rfl, rfl⟩
  · have hf := beltsE_fine hb fun ⟨i, h1, h2⟩ => h2 (hu i (by omega))
    simp (disch := ((try simp only [List.length_set, List.length_replicate, List.length_append, List.length_cons, List.length_nil]); omega)) only [aW, aX, aV, aB, aN, aL, aP, aH, aM, r_ref34_belts]
    exact post_v ⟨by rw [hf], rfl⟩

/-! ### Check -/
theorem pc_range {p : Pl} (h : p.mat < 1 ∨ 16 < p.mat) : pcheck p = 1 := by unfold pcheck; rw [if_pos h]
theorem pc_empty {p : Pl} (h : ¬ (p.mat < 1 ∨ 16 < p.mat)) (h2 : p.ms.length = 0) : pcheck p = 10 := by unfold pcheck; rw [if_neg h, if_pos h2]
theorem pc_full {p : Pl} (h : ¬ (p.mat < 1 ∨ 16 < p.mat)) (h2 : ¬ p.ms.length = 0) (h3 : 24 < p.ms.length ∨ 48 < p.bs.length) : pcheck p = 8 := by unfold pcheck; rw [if_neg h, if_neg h2, if_pos h3]
theorem pc_mc {p : Pl} (h : ¬ (p.mat < 1 ∨ 16 < p.mat)) (h2 : ¬ p.ms.length = 0) (h3 : ¬ (24 < p.ms.length ∨ 48 < p.bs.length)) {k : Nat} (hk : k < p.ms.length) (hb : ∀ i, i < k → mcheck (p.ms.getD i []) p.mat = 0) (hn : mcheck (p.ms.getD k []) p.mat ≠ 0) : pcheck p = mcheck (p.ms.getD k []) p.mat := by
  have := firstE_hit (f := fun m => mcheck m p.mat) [] hk hb hn
  unfold pcheck; rw [if_neg h, if_neg h2, if_neg h3, this, if_pos hn]
theorem pc_belts {p : Pl} (h : ¬ (p.mat < 1 ∨ 16 < p.mat)) (h2 : ¬ p.ms.length = 0) (h3 : ¬ (24 < p.ms.length ∨ 48 < p.bs.length)) (hb : ∀ i, i < p.ms.length → mcheck (p.ms.getD i []) p.mat = 0) (hn : beltsE p.ms p.bs ≠ 0) : pcheck p = beltsE p.ms p.bs := by
  have := firstE_none (f := fun m => mcheck m p.mat) [] hb
  unfold pcheck; rw [if_neg h, if_neg h2, if_neg h3, this, if_neg (by omega), if_pos hn]
theorem pc_open {p : Pl} (h : ¬ (p.mat < 1 ∨ 16 < p.mat)) (h2 : ¬ p.ms.length = 0) (h3 : ¬ (24 < p.ms.length ∨ 48 < p.bs.length)) (hb : ∀ i, i < p.ms.length → mcheck (p.ms.getD i []) p.mat = 0) (hn : beltsE p.ms p.bs = 0) (ho : openO p.ms p.bs) : pcheck p = 3 := by
  have := firstE_none (f := fun m => mcheck m p.mat) [] hb
  unfold pcheck; rw [if_neg h, if_neg h2, if_neg h3, this, if_neg (by omega), if_neg (by omega), if_pos ho]
theorem pc_feed {p : Pl} (h : ¬ (p.mat < 1 ∨ 16 < p.mat)) (h2 : ¬ p.ms.length = 0) (h3 : ¬ (24 < p.ms.length ∨ 48 < p.bs.length)) (hb : ∀ i, i < p.ms.length → mcheck (p.ms.getD i []) p.mat = 0) (hn : beltsE p.ms p.bs = 0) (ho : ¬ openO p.ms p.bs) :
    pcheck p = if p.fd < 0 ∨ (p.ms.length : Int) ≤ p.fd then 7 else if outsN (p.ms.getD p.fd.toNat []) = 0 then 13 else 0 := by
  have := firstE_none (f := fun m => mcheck m p.mat) [] hb
  unfold pcheck; rw [if_neg h, if_neg h2, if_neg h3, this, if_neg (by omega), if_neg (by omega), if_neg ho]
theorem pbelts_belts {ms : List Mc} {bs : List Bt} (h : pbelts ms bs ≠ 0) (h2 : beltsE ms bs ≠ 0) : pbelts ms bs = beltsE ms bs := pbelts_err h2

theorem layoutCheck_vr {w v : Bool} (p : Pl) : VR P false n_layout_Check [plA w v p] [] (isR (.v (.int .i64 (pcheck p)))) := by
  refine vr_layout_Check (by simp) (.inr rfl) fun _ _ => ?_
  unfold plA plC
  simp (disch := ((try simp only [List.length_set, List.length_replicate, List.length_append, List.length_cons, List.length_nil]); omega)) only [aW, aX, aV, aB, aN, aL, aP, aH, aM, s_layout_Check, v_layout_Check]
  refine ib_intro (fun h1 => ?_) (fun h1 => ?_)
  · simp (disch := ((try simp only [List.length_set, List.length_replicate, List.length_append, List.length_cons, List.length_nil]); omega)) only [aW, aX, aV, aB, aN, aL, aP, aH, aM, r_layout_Check]
    exact post_v ⟨by rw [pc_range h1], rfl⟩
  simp (disch := ((try simp only [List.length_set, List.length_replicate, List.length_append, List.length_cons, List.length_nil]); omega)) only [aW, aX, aV, aB, aN, aL, aP, aH, aM]
  refine ib_intro (fun h2 => ?_) (fun h2 => ?_)
  · simp (disch := ((try simp only [List.length_set, List.length_replicate, List.length_append, List.length_cons, List.length_nil]); omega)) only [aW, aX, aV, aB, aN, aL, aP, aH, aM, r_layout_Check]
    exact post_v ⟨by rw [pc_empty h1 (by omega)], rfl⟩
  have h2 : ¬ p.ms.length = 0 := by omega
  simp (disch := ((try simp only [List.length_set, List.length_replicate, List.length_append, List.length_cons, List.length_nil]); omega)) only [aW, aX, aV, aB, aN, aL, aP, aH, aM]
  refine ib_intro (fun h3 => ?_) (fun h3 => ?_)
  · simp (disch := ((try simp only [List.length_set, List.length_replicate, List.length_append, List.length_cons, List.length_nil]); omega)) only [aW, aX, aV, aB, aN, aL, aP, aH, aM, r_layout_Check]
    exact post_v ⟨by rw [pc_full h1 h2 (by omega)], rfl⟩
  have h3 : ¬ (24 < p.ms.length ∨ 48 < p.bs.length) := by omega
  simp (disch := ((try simp only [List.length_set, List.length_replicate, List.length_append, List.length_cons, List.length_nil]); omega)) only [aW, aX, aV, aB, aN, aL, aP, aH, aM]
  refine AWP.loopP g_layout_Check_0 (fun k : Nat => k ≤ p.ms.length ∧ ∀ i, i < k → mcheck (p.ms.getD i []) p.mat = 0) (fun k => [(1, .v (.int .i64 0)), (6, .v (.int .i64 k))]) (fun _ => []) (fun k => p.ms.length - k) 0 ⟨by omega, fun i hi => by omega⟩ (by refine Cut.of' (1) ?_ (by omega) ?_ ?_ <;> simp (disch := first | omega | simp (disch := omega) only [aF, aL, aN, aM]) only [aW, aX, aV, aB, aN, aL, aP, aH, aM, aF, Int.natCast_add, Int.natCast_mul, Int.add_sub_cancel, List.length_nil, Int.cast_ofNat_Int, and_true, true_and]) ?_
  rintro k ⟨hk, hb⟩
  by_cases hlt : k < p.ms.length
  · simp (disch := ((try simp only [List.length_set, List.length_replicate, List.length_append, List.length_cons, List.length_nil]); omega)) only [aW, aX, aV, aB, aN, aL, aP, aH, aM]
    refine (machineCheck_vr (w := w) (p.ms.getD k []) p.mat).same (by unfold mcA mcC; simp (disch := first | omega | simp (disch := omega) only [aF, aL, aN, aM]) only [aW, aX, aV, aB, aN, aL, aP, aH, aM, aF, Int.natCast_add, Int.natCast_mul, Int.add_sub_cancel, List.length_nil, Int.cast_ofNat_Int, and_true, true_and]) rfl (aret_of ?_)
    simp (disch := ((try simp only [List.length_set, List.length_replicate, List.length_append, List.length_cons, List.length_nil]); omega)) only [aW, aX, aV, aB, aN, aL, aP, aH, aM]
    refine ib_intro (fun h4 => ?_) (fun h4 => ?_)
    · simp (disch := ((try simp only [List.length_set, List.length_replicate, List.length_append, List.length_cons, List.length_nil]); omega)) only [aW, aX, aV, aB, aN, aL, aP, aH, aM, r_layout_Check]
      exact post_v ⟨by rw [pc_mc h1 h2 h3 hlt hb h4], rfl⟩
    · simp (disch := ((try simp only [List.length_set, List.length_replicate, List.length_append, List.length_cons, List.length_nil]); omega)) only [aW, aX, aV, aB, aN, aL, aP, aH, aM]
      refine ⟨k + 1, ⟨by omega, fun i hi => ?_⟩, by omega, (by refine Cut.of' (1) ?_ (by omega) ?_ ?_ <;> simp (disch := first | omega | simp (disch := omega) only [aF, aL, aN, aM]) only [aW, aX, aV, aB, aN, aL, aP, aH, aM, aF, Int.natCast_add, Int.natCast_mul, Int.add_sub_cancel, List.length_nil, Int.cast_ofNat_Int, and_true, true_and])⟩
      rcases Nat.lt_succ_iff_lt_or_eq.1 hi with h | rfl
      · exact hb i h
      · exact Classical.not_not.1 h4
  have hb : ∀ i, i < p.ms.length → mcheck (p.ms.getD i []) p.mat = 0 := fun i hi => hb i (by omega)
  simp (disch := ((try simp only [List.length_set, List.length_replicate, List.length_append, List.length_cons, List.length_nil]); omega)) only [aW, aX, aV, aB, aN, aL, aP, aH, aM]
  refine (belts_vr (w := w) (v := v) p (by omega) (by omega) fun i hi => outs4 (hb i hi)).same (by unfold plA plC; simp (disch := first | omega | simp (disch := omega) only [aF, aL, aN, aM]) only [aW, aX, aV, aB, aN, aL, aP, aH, aM, aF, Int.natCast_add, Int.natCast_mul, Int.add_sub_cancel, List.length_nil, Int.cast_ofNat_Int, and_true, true_and]) rfl (aret_of ?_)
  by_cases h4 : beltsE p.ms p.bs = 0
  · by_cases h5 : openO p.ms p.bs
    · simp (disch := ((try simp only [List.length_set, List.length_replicate, List.length_append, List.length_cons, List.length_nil]); omega)) only [aW, aX, aV, aB, aN, aL, aP, aH, aM, pbelts_open h4 h5, r_layout_Check]
      exact post_v ⟨by rw [pc_open h1 h2 h3 hb h4 h5], rfl⟩
    · have hf := pc_feed h1 h2 h3 hb h4 h5
      simp (disch := ((try simp only [List.length_set, List.length_replicate, List.length_append, List.length_cons, List.length_nil]); omega)) only [aW, aX, aV, aB, aN, aL, aP, aH, aM, pbelts_fine h4 h5]
      refine (has_vr (w := w) (v := v) p p.fd).same (by unfold plA plC; simp (disch := first | omega | simp (disch := omega) only [aF, aL, aN, aM]) only [aW, aX, aV, aB, aN, aL, aP, aH, aM, aF, Int.natCast_add, Int.natCast_mul, Int.add_sub_cancel, List.length_nil, Int.cast_ofNat_Int, and_true, true_and]) rfl (aret_of ?_)
      by_cases h6 : 0 ≤ p.fd ∧ p.fd < p.ms.length
      · rw [if_neg (by omega)] at hf
        simp (disch := ((try simp only [List.length_set, List.length_replicate, List.length_append, List.length_cons, List.length_nil]); omega)) only [aW, aX, aV, aB, aN, aL, aP, aH, aM, decide_eq_true h6]
        refine (bin_vr (w := w) (v := v) p p.fd h6.1 h6.2).same (by unfold plA plC; simp (disch := first | omega | simp (disch := omega) only [aF, aL, aN, aM]) only [aW, aX, aV, aB, aN, aL, aP, aH, aM, aF, Int.natCast_add, Int.natCast_mul, Int.add_sub_cancel, List.length_nil, Int.cast_ofNat_Int, and_true, true_and]) rfl (aret_of ?_)
        simp (disch := ((try simp only [List.length_set, List.length_replicate, List.length_append, List.length_cons, List.length_nil]); omega)) only [aW, aX, aV, aB, aN, aL, aP, aH, aM]
        refine ib_intro (fun h7 => ?_) (fun h7 => ?_)
        · have h7 : outsN (p.ms.getD p.fd.toNat []) = 0 := h7
          rw [if_pos h7] at hf
          simp (disch := ((try simp only [List.length_set, List.length_replicate, List.length_append, List.length_cons, List.length_nil]); omega)) only [aW, aX, aV, aB, aN, aL, aP, aH, aM, r_layout_Check]
          exact post_v ⟨by rw [hf], rfl⟩
        · have h7 : ¬ outsN (p.ms.getD p.fd.toNat []) = 0 := h7
          rw [if_neg h7] at hf
          simp (disch := ((try simp only [List.length_set, List.length_replicate, List.length_append, List.length_cons, List.length_nil]); omega)) only [aW, aX, aV, aB, aN, aL, aP, aH, aM, r_layout_Check]
          exact post_v ⟨by rw [hf], rfl⟩
      · rw [if_pos (by omega)] at hf
        simp (disch := ((try simp only [List.length_set, List.length_replicate, List.length_append, List.length_cons, List.length_nil]); omega)) only [aW, aX, aV, aB, aN, aL, aP, aH, aM, decide_eq_false h6, r_layout_Check]
        exact post_v ⟨by rw [hf], rfl⟩
  · simp (disch := ((try simp only [List.length_set, List.length_replicate, List.length_append, List.length_cons, List.length_nil]); omega)) only [aW, aX, aV, aB, aN, aL, aP, aH, aM, pbelts_err h4, r_layout_Check]
    exact post_v ⟨by rw [pc_belts h1 h2 h3 hb h4], rfl⟩

theorem ref34Check_vr {w v : Bool} (p : Pl) : VR P false n_ref34_Check [plA w v p] [] (isR (.v (.int .i64 (pcheck p)))) := by
  refine vr_ref34_Check (by simp) (.inr rfl) fun _ _ => ?_
  unfold plA plC
  simp (disch := ((try simp only [List.length_set, List.length_replicate, List.length_append, List.length_cons, List.length_nil]); omega)) only [aW, aX, aV, aB, aN, aL, aP, aH, aM, s_ref34_Check, v_ref34_Check]
  refine ib_intro (fun h1 => ?_) (fun h1 => ?_)
  · simp (disch := ((try simp only [List.length_set, List.length_replicate, List.length_append, List.length_cons, List.length_nil]); omega)) only [aW, aX, aV, aB, aN, aL, aP, aH, aM, r_ref34_Check]
    exact post_v ⟨by rw [pc_range h1], rfl⟩
  simp (disch := ((try simp only [List.length_set, List.length_replicate, List.length_append, List.length_cons, List.length_nil]); omega)) only [aW, aX, aV, aB, aN, aL, aP, aH, aM]
  refine ib_intro (fun h2 => ?_) (fun h2 => ?_)
  · simp (disch := ((try simp only [List.length_set, List.length_replicate, List.length_append, List.length_cons, List.length_nil]); omega)) only [aW, aX, aV, aB, aN, aL, aP, aH, aM, r_ref34_Check]
    exact post_v ⟨by rw [pc_empty h1 (by omega)], rfl⟩
  have h2 : ¬ p.ms.length = 0 := by omega
  simp (disch := ((try simp only [List.length_set, List.length_replicate, List.length_append, List.length_cons, List.length_nil]); omega)) only [aW, aX, aV, aB, aN, aL, aP, aH, aM]
  refine ib_intro (fun h3 => ?_) (fun h3 => ?_)
  · simp (disch := ((try simp only [List.length_set, List.length_replicate, List.length_append, List.length_cons, List.length_nil]); omega)) only [aW, aX, aV, aB, aN, aL, aP, aH, aM, r_ref34_Check]
    exact post_v ⟨by rw [pc_full h1 h2 (by omega)], rfl⟩
  have h3 : ¬ (24 < p.ms.length ∨ 48 < p.bs.length) := by omega
  simp (disch := ((try simp only [List.length_set, List.length_replicate, List.length_append, List.length_cons, List.length_nil]); omega)) only [aW, aX, aV, aB, aN, aL, aP, aH, aM]
  refine AWP.loopP g_ref34_Check_0 (fun k : Nat => k ≤ p.ms.length ∧ ∀ i, i < k → mcheck (p.ms.getD i []) p.mat = 0) (fun k => [(1, .v (.int .i64 0)), (3, .v (.int .i64 k))]) (fun _ => []) (fun k => p.ms.length - k) 0 ⟨by omega, fun i hi => by omega⟩ (by refine Cut.of' (1) ?_ (by omega) ?_ ?_ <;> simp (disch := first | omega | simp (disch := omega) only [aF, aL, aN, aM]) only [aW, aX, aV, aB, aN, aL, aP, aH, aM, aF, Int.natCast_add, Int.natCast_mul, Int.add_sub_cancel, List.length_nil, Int.cast_ofNat_Int, and_true, true_and]) ?_
  rintro k ⟨hk, hb⟩
  by_cases hlt : k < p.ms.length
  · simp (disch := ((try simp only [List.length_set, List.length_replicate, List.length_append, List.length_cons, List.length_nil]); omega)) only [aW, aX, aV, aB, aN, aL, aP, aH, aM]
    refine (ref33Check_vr (w := w) (p.ms.getD k []) p.mat).same (by unfold mcA mcC; simp (disch := first | omega | simp (disch := omega) only [aF, aL, aN, aM]) only [aW, aX, aV, aB, aN, aL, aP, aH, aM, aF, Int.natCast_add, Int.natCast_mul, Int.add_sub_cancel, List.length_nil, Int.cast_ofNat_Int, and_true, true_and]) rfl (aret_of ?_)
    simp (disch := ((try simp only [List.length_set, List.length_replicate, List.length_append, List.length_cons, List.length_nil]); omega)) only [aW, aX, aV, aB, aN, aL, aP, aH, aM]
    refine ib_intro (fun h4 => ?_) (fun h4 => ?_)
    · simp (disch := ((try simp only [List.length_set, List.length_replicate, List.length_append, List.length_cons, List.length_nil]); omega)) only [aW, aX, aV, aB, aN, aL, aP, aH, aM, r_ref34_Check]
      exact post_v ⟨by rw [pc_mc h1 h2 h3 hlt hb h4], rfl⟩
    · simp (disch := ((try simp only [List.length_set, List.length_replicate, List.length_append, List.length_cons, List.length_nil]); omega)) only [aW, aX, aV, aB, aN, aL, aP, aH, aM]
      refine ⟨k + 1, ⟨by omega, fun i hi => ?_⟩, by omega, (by refine Cut.of' (1) ?_ (by omega) ?_ ?_ <;> simp (disch := first | omega | simp (disch := omega) only [aF, aL, aN, aM]) only [aW, aX, aV, aB, aN, aL, aP, aH, aM, aF, Int.natCast_add, Int.natCast_mul, Int.add_sub_cancel, List.length_nil, Int.cast_ofNat_Int, and_true, true_and])⟩
      rcases Nat.lt_succ_iff_lt_or_eq.1 hi with h | rfl
      · exact hb i h
      · exact Classical.not_not.1 h4
  have hb : ∀ i, i < p.ms.length → mcheck (p.ms.getD i []) p.mat = 0 := fun i hi => hb i (by omega)
  simp (disch := ((try simp only [List.length_set, List.length_replicate, List.length_append, List.length_cons, List.length_nil]); omega)) only [aW, aX, aV, aB, aN, aL, aP, aH, aM]
  refine (refBelts_vr (w := w) (v := v) p (by omega) (by omega)).same (by unfold plA plC; simp (disch := first | omega | simp (disch := omega) only [aF, aL, aN, aM]) only [aW, aX, aV, aB, aN, aL, aP, aH, aM, aF, Int.natCast_add, Int.natCast_mul, Int.add_sub_cancel, List.length_nil, Int.cast_ofNat_Int, and_true, true_and]) rfl (aret_of ?_)
  simp (disch := ((try simp only [List.length_set, List.length_replicate, List.length_append, List.length_cons, List.length_nil]); omega)) only [aW, aX, aV, aB, aN, aL, aP, aH, aM]
  refine ib_intro (fun h4 => ?_) (fun h4 => ?_)
  · simp (disch := ((try simp only [List.length_set, List.length_replicate, List.length_append, List.length_cons, List.length_nil]); omega)) only [aW, aX, aV, aB, aN, aL, aP, aH, aM, r_ref34_Check]
    exact post_v ⟨by rw [pc_belts h1 h2 h3 hb h4], rfl⟩
  have h4 : beltsE p.ms p.bs = 0 := Classical.not_not.1 h4
  simp (disch := ((try simp only [List.length_set, List.length_replicate, List.length_append, List.length_cons, List.length_nil]); omega)) only [aW, aX, aV, aB, aN, aL, aP, aH, aM]
  refine AWP.loopP g_ref34_Check_1 (fun k : Nat => k ≤ p.ms.length ∧ ∀ i, i < k → ∀ o, o < outsN (p.ms.getD i []) → 0 ≤ findB p.bs i o) (fun k => [(1, .v (.int .i64 0)), (6, .v (.int .i64 k))]) (fun _ => []) (fun k => p.ms.length - k) 0 ⟨by omega, fun i hi => by omega⟩ (by refine Cut.of' (1) ?_ (by omega) ?_ ?_ <;> simp (disch := first | omega | simp (disch := omega) only [aF, aL, aN, aM]) only [aW, aX, aV, aB, aN, aL, aP, aH, aM, aF, Int.natCast_add, Int.natCast_mul, Int.add_sub_cancel, List.length_nil, Int.cast_ofNat_Int, and_true, true_and]) ?_
  rintro k ⟨hk, hu2⟩
  by_cases hlt : k < p.ms.length
  · have hol4 := outs4 (hb k hlt)
    simp (disch := ((try simp only [List.length_set, List.length_replicate, List.length_append, List.length_cons, List.length_nil]); omega)) only [aW, aX, aV, aB, aN, aL, aP, aH, aM]
    refine AWP.loopP g_ref34_Check_2 (fun o : Nat => o ≤ outsN (p.ms.getD k []) ∧ ∀ i, i < o → 0 ≤ findB p.bs k i) (fun o => [(1, .v (.int .i64 0)), (7, .v (.int .i64 o))]) (fun _ => []) (fun o => outsN (p.ms.getD k []) - o) 0 ⟨by omega, fun i hi => by omega⟩ (by refine Cut.of' (1) ?_ (by omega) ?_ ?_ <;> simp (disch := first | omega | simp (disch := omega) only [aF, aL, aN, aM]) only [aW, aX, aV, aB, aN, aL, aP, aH, aM, aF, Int.natCast_add, Int.natCast_mul, Int.add_sub_cancel, List.length_nil, Int.cast_ofNat_Int, and_true, true_and]) ?_
    rintro o ⟨ho, hv⟩
    simp (disch := ((try simp only [List.length_set, List.length_replicate, List.length_append, List.length_cons, List.length_nil]); omega)) only [aW, aX, aV, aB, aN, aL, aP, aH, aM]
    refine (refOuts_vr (w := w) (p.ms.getD k [])).same (by unfold mcA mcC; simp (disch := first | omega | simp (disch := omega) only [aF, aL, aN, aM]) only [aW, aX, aV, aB, aN, aL, aP, aH, aM, aF, Int.natCast_add, Int.natCast_mul, Int.add_sub_cancel, List.length_nil, Int.cast_ofNat_Int, and_true, true_and]) rfl (aret_of ?_)
    by_cases hol : o < outsN (p.ms.getD k [])
    · simp (disch := ((try simp only [List.length_set, List.length_replicate, List.length_append, List.length_cons, List.length_nil]); omega)) only [aW, aX, aV, aB, aN, aL, aP, aH, aM]
      refine (place_vr (w := w) (v := v) p (by omega) k o).same (by unfold plA plC; simp (disch := first | omega | simp (disch := omega) only [aF, aL, aN, aM]) only [aW, aX, aV, aB, aN, aL, aP, aH, aM, aF, Int.natCast_add, Int.natCast_mul, Int.add_sub_cancel, List.length_nil, Int.cast_ofNat_Int, and_true, true_and]) rfl (aret_of ?_)
      simp (disch := ((try simp only [List.length_set, List.length_replicate, List.length_append, List.length_cons, List.length_nil]); omega)) only [aW, aX, aV, aB, aN, aL, aP, aH, aM]
      refine ib_intro (fun h5 => ?_) (fun h5 => ?_)
      · simp (disch := ((try simp only [List.length_set, List.length_replicate, List.length_append, List.length_cons, List.length_nil]); omega)) only [aW, aX, aV, aB, aN, aL, aP, aH, aM, r_ref34_Check]
        exact post_v ⟨by rw [pc_open h1 h2 h3 hb h4 ⟨k, hlt, o, hol, h5⟩], rfl⟩
      · simp (disch := ((try simp only [List.length_set, List.length_replicate, List.length_append, List.length_cons, List.length_nil]); omega)) only [aW, aX, aV, aB, aN, aL, aP, aH, aM]
        refine ⟨o + 1, ⟨by omega, fun i hi => ?_⟩, by omega, (by refine Cut.of' (1) ?_ (by omega) ?_ ?_ <;> simp (disch := first | omega | simp (disch := omega) only [aF, aL, aN, aM]) only [aW, aX, aV, aB, aN, aL, aP, aH, aM, aF, Int.natCast_add, Int.natCast_mul, Int.add_sub_cancel, List.length_nil, Int.cast_ofNat_Int, and_true, true_and])⟩
        rcases Nat.lt_succ_iff_lt_or_eq.1 hi with h | rfl
        · exact hv i h
        · omega
    · simp (disch := ((try simp only [List.length_set, List.length_replicate, List.length_append, List.length_cons, List.length_nil]); omega)) only [aW, aX, aV, aB, aN, aL, aP, aH, aM]
      refine ⟨k + 1, ⟨by omega, fun i hi => ?_⟩, by omega, (by refine Cut.of' (1) ?_ (by omega) ?_ ?_ <;> simp (disch := first | omega | simp (disch := omega) only [aF, aL, aN, aM]) only [aW, aX, aV, aB, aN, aL, aP, aH, aM, aF, Int.natCast_add, Int.natCast_mul, Int.add_sub_cancel, List.length_nil, Int.cast_ofNat_Int, and_true, true_and])⟩
      rcases Nat.lt_succ_iff_lt_or_eq.1 hi with h | rfl
      · exact hu2 i h
      · intro o' ho'; exact hv o' (by omega)
  have hno : ¬ openO p.ms p.bs := by
    rintro ⟨i, g1, o, g2, g3⟩
    have := hu2 i (by omega) o g2
    omega
  have hf := pc_feed h1 h2 h3 hb h4 hno
  simp (disch := ((try simp only [List.length_set, List.length_replicate, List.length_append, List.length_cons, List.length_nil]); omega)) only [aW, aX, aV, aB, aN, aL, aP, aH, aM]
  refine ib_intro (fun h6 => ?_) (fun h6 => ?_)
  · rw [if_pos h6] at hf
    simp (disch := ((try simp only [List.length_set, List.length_replicate, List.length_append, List.length_cons, List.length_nil]); omega)) only [aW, aX, aV, aB, aN, aL, aP, aH, aM, r_ref34_Check]
    exact post_v ⟨by rw [hf], rfl⟩
  rw [if_neg h6] at hf
  simp (disch := ((try simp only [List.length_set, List.length_replicate, List.length_append, List.length_cons, List.length_nil]); omega)) only [aW, aX, aV, aB, aN, aL, aP, aH, aM]
  refine (refOuts_vr (w := w) (p.ms.getD p.fd.toNat [])).same (by unfold mcA mcC; simp (disch := first | omega | simp (disch := omega) only [aF, aL, aN, aM]) only [aW, aX, aV, aB, aN, aL, aP, aH, aM, aF, Int.natCast_add, Int.natCast_mul, Int.add_sub_cancel, List.length_nil, Int.cast_ofNat_Int, and_true, true_and]) rfl (aret_of ?_)
  simp (disch := ((try simp only [List.length_set, List.length_replicate, List.length_append, List.length_cons, List.length_nil]); omega)) only [aW, aX, aV, aB, aN, aL, aP, aH, aM]
  refine ib_intro (fun h7 => ?_) (fun h7 => ?_)
  · rw [if_pos (by omega)] at hf
    simp (disch := ((try simp only [List.length_set, List.length_replicate, List.length_append, List.length_cons, List.length_nil]); omega)) only [aW, aX, aV, aB, aN, aL, aP, aH, aM, r_ref34_Check]
    exact post_v ⟨by rw [hf], rfl⟩
  · rw [if_neg (by omega)] at hf
    simp (disch := ((try simp only [List.length_set, List.length_replicate, List.length_append, List.length_cons, List.length_nil]); omega)) only [aW, aX, aV, aB, aN, aL, aP, aH, aM, r_ref34_Check]
    exact post_v ⟨by rw [hf], rfl⟩
end Go.Proofs.Ytjhdedifmhkhbaa
