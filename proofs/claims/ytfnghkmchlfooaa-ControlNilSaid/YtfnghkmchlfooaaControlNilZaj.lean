/- Lemmas and walks that the proof of ControlNil uses. No statement is claimed here. -/
import Derived.Test.YtfnghkmchlfooaaControlNilZai
namespace Go.Proofs.Ytfnghkmchlfooaa
open Go Go.Lft
set_option linter.unusedSimpArgs false
set_option linter.unusedVariables false
attribute [local congr] ob_congr bw_congr ib_congr ck_congr iwA_congr itA_congr aw_congr awp_congr sqA_congr bkA_congr vr_congr gd_congr

def pbelts (ms : List Mc) (bs : List Bt) : Int := if beltsE ms bs ≠ 0 then beltsE ms bs else if openO ms bs then 3 else 0
theorem beltsE_hit {ms : List Mc} {bs : List Bt} {k : Nat} (hk : k < bs.length) (hb : ∀ i, i < k → beltE ms (bs.getD i b0) = 0) (hn : beltE ms (bs.getD k b0) ≠ 0) : beltsE ms bs = beltE ms (bs.getD k b0) := by
  have := firstE_hit (f := beltE ms) b0 hk hb hn
  unfold beltsE; rw [this, if_pos hn]
theorem beltsE_twice {ms : List Mc} {bs : List Bt} (hb : ∀ i, i < bs.length → beltE ms (bs.getD i b0) = 0) (ht : twice bs) : beltsE ms bs = 6 := by
  have := firstE_none (f := beltE ms) b0 hb
  unfold beltsE; rw [this, if_neg (by omega), if_pos ht]
theorem beltsE_fine {ms : List Mc} {bs : List Bt} (hb : ∀ i, i < bs.length → beltE ms (bs.getD i b0) = 0) (ht : ¬ twice bs) : beltsE ms bs = 0 := by
  have := firstE_none (f := beltE ms) b0 hb
  unfold beltsE; rw [this, if_neg (by omega), if_neg ht]
theorem pbelts_err {ms : List Mc} {bs : List Bt} (h : beltsE ms bs ≠ 0) : pbelts ms bs = beltsE ms bs := by unfold pbelts; rw [if_pos h]
theorem pbelts_open {ms : List Mc} {bs : List Bt} (h : beltsE ms bs = 0) (h2 : openO ms bs) : pbelts ms bs = 3 := by unfold pbelts; rw [if_neg (by omega), if_pos h2]
theorem pbelts_fine {ms : List Mc} {bs : List Bt} (h : beltsE ms bs = 0) (h2 : ¬ openO ms bs) : pbelts ms bs = 0 := by unfold pbelts; rw [if_neg (by omega), if_neg h2]

theorem outs4 {m : Mc} {mat : Int} (h : mcheck m mat = 0) : outsN m ≤ 4 := by
  have hmk := mcheck_ok h
  rcases outsN_le (m := m) with h | h
  · omega
  · exact (hmk.row _ (mem_get [] h)).2.1
theorem belts_vr {w v : Bool} (p : Pl) (hl : p.bs.length ≤ 48) (hm : p.ms.length ≤ 24) (h4 : ∀ i, i < p.ms.length → outsN (p.ms.getD i []) ≤ 4) : VR P false n_layout_belts [plA w v p] [] (isR (.v (.int .i64 (pbelts p.ms p.bs)))) := by
  refine vr_layout_belts (by simp) (.inr rfl) fun _ _ => ?_
  unfold plA plC
  simp (disch := ((try simp only [List.length_set, List.length_replicate, List.length_append, List.length_cons, List.length_nil]); omega)) only [aW, aX, aV, aB, aN, aL, aP, aH, aM, s_layout_belts, v_layout_belts]
  refine AWP.loopP g_layout_belts_0 (fun k : Nat => k ≤ p.bs.length ∧ ∀ i, i < k → beltE p.ms (p.bs.getD i b0) = 0) (fun k => [(1, .v (.int .i64 0)), (3, .v (.int .i64 k))]) (fun _ => []) (fun k => p.bs.length - k) 0 ⟨by omega, fun i hi => by omega⟩ (by refine Cut.of' (1) ?_ (by omega) ?_ ?_ <;> simp (disch := first | omega | simp (disch := omega) only [aF, aL, aN, aM]) only [aW, aX, aV, aB, aN, aL, aP, aH, aM, aF, Int.natCast_add, Int.natCast_mul, Int.add_sub_cancel, List.length_nil, Int.cast_ofNat_Int, and_true, true_and]) ?_
  rintro k ⟨hk, hb⟩
  by_cases hlt : k < p.bs.length
  · simp (disch := ((try simp only [List.length_set, List.length_replicate, List.length_append, List.length_cons, List.length_nil]); omega)) only [aW, aX, aV, aB, aN, aL, aP, aH, aM]
    refine (belt_vr (w := w) (v := v) p (p.bs.getD k b0)).same (by unfold plA plC btA btC; simp (disch := first | omega | simp (disch := omega) only [aF, aL, aN, aM]) only [aW, aX, aV, aB, aN, aL, aP, aH, aM, aF, Int.natCast_add, Int.natCast_mul, Int.add_sub_cancel, List.length_nil, Int.cast_ofNat_Int, and_true, true_and]) rfl (aret_of ?_)
    simp (disch := ((try simp only [List.length_set, List.length_replicate, List.length_append, List.length_cons, List.length_nil]); omega)) only [aW, aX, aV, aB, aN, aL, aP, aH, aM]
    refine ib_intro (fun h3 => ?_) (fun h3 => ?_)
    · simp (disch := ((try simp only [List.length_set, List.length_replicate, List.length_append, List.length_cons, List.length_nil]); omega)) only [aW, aX, aV, aB, aN, aL, aP, aH, aM, r_layout_belts]
      have h4 := beltsE_hit hlt hb h3
      exact post_v ⟨by rw [pbelts_err (by omega), h4], rfl⟩
    · simp (disch := ((try simp only [List.length_set, List.length_replicate, List.length_append, List.length_cons, List.length_nil]); omega)) only [aW, aX, aV, aB, aN, aL, aP, aH, aM]
      refine ⟨k + 1, ⟨by omega, fun i hi => ?_⟩, by omega, (by refine Cut.of' (1) ?_ (by omega) ?_ ?_ <;> simp (disch := first | omega | simp (disch := omega) only [aF, aL, aN, aM]) only [aW, aX, aV, aB, aN, aL, aP, aH, aM, aF, Int.natCast_add, Int.natCast_mul, Int.add_sub_cancel, List.length_nil, Int.cast_ofNat_Int, and_true, true_and])⟩
      rcases Nat.lt_succ_iff_lt_or_eq.1 hi with h | rfl
      · exact hb i h
      · exact Classical.not_not.1 h3
  have hb : ∀ i, i < p.bs.length → beltE p.ms (p.bs.getD i b0) = 0 := fun i hi => hb i (by omega)
  simp (disch := ((try simp only [List.length_set, List.length_replicate, List.length_append, List.length_cons, List.length_nil]); omega)) only [aW, aX, aV, aB, aN, aL, aP, aH, aM]
  refine AWP.loopP g_layout_belts_1 (fun k : Nat => k ≤ p.bs.length ∧ ∀ i, i < k → findB p.bs (p.bs.getD i b0).fr (p.bs.getD i b0).ot = i) (fun k => [(1, .v (.int .i64 0)), (9, .v (.int .i64 k))]) (fun _ => []) (fun k => p.bs.length - k) 0 ⟨by omega, fun i hi => by omega⟩ (by refine Cut.of' (1) ?_ (by omega) ?_ ?_ <;> simp (disch := first | omega | simp (disch := omega) only [aF, aL, aN, aM]) only [aW, aX, aV, aB, aN, aL, aP, aH, aM, aF, Int.natCast_add, Int.natCast_mul, Int.add_sub_cancel, List.length_nil, Int.cast_ofNat_Int, and_true, true_and]) ?_
  rintro k ⟨hk, hu⟩
  by_cases hlt : k < p.bs.length
  · simp (disch := ((try simp only [List.length_set, List.length_replicate, List.length_append, List.length_cons, List.length_nil]); omega)) only [aW, aX, aV, aB, aN, aL, aP, aH, aM]
    refine (find_vr (w := w) (v := v) p (by omega) (p.bs.getD k b0).fr (p.bs.getD k b0).ot).same (by unfold plA plC; simp (disch := first | omega | simp (disch := omega) only [aF, aL, aN, aM]) only [aW, aX, aV, aB, aN, aL, aP, aH, aM, aF, Int.natCast_add, Int.natCast_mul, Int.add_sub_cancel, List.length_nil, Int.cast_ofNat_Int, and_true, true_and]) rfl (aret_of ?_)
    simp (disch := ((try simp only [List.length_set, List.length_replicate, List.length_append, List.length_cons, List.length_nil]); omega)) only [aW, aX, aV, aB, aN, aL, aP, aH, aM]
    refine ib_intro (fun h3 => ?_) (fun h3 => ?_)
    · simp (disch := ((try simp only [List.length_set, List.length_replicate, List.length_append, List.length_cons, List.length_nil]); omega)) only [aW, aX, aV, aB, aN, aL, aP, aH, aM, r_layout_belts]
      have h4 := beltsE_twice hb ⟨k, hlt, h3⟩
      exact post_v ⟨by rw [pbelts_err (by omega), h4], rfl⟩
    · simp (disch := ((try simp only [List.length_set, List.length_replicate, List.length_append, List.length_cons, List.length_nil]); omega)) only [aW, aX, aV, aB, aN, aL, aP, aH, aM]
      refine ⟨k + 1, ⟨by omega, fun i hi => ?_⟩, by omega, (by refine Cut.of' (1) ?_ (by omega) ?_ ?_ <;> simp (disch := first | omega | simp (disch := omega) only [aF, aL, aN, aM]) only [aW, aX, aV, aB, aN, aL, aP, aH, aM, aF, Int.natCast_add, Int.natCast_mul, Int.add_sub_cancel, List.length_nil, Int.cast_ofNat_Int, and_true, true_and])⟩
      rcases Nat.lt_succ_iff_lt_or_eq.1 hi with h | rfl
      · exact hu i h
      · exact Classical.not_not.1 h3
  have hf := beltsE_fine hb fun ⟨i, h1, h2⟩ => h2 (hu i (by omega))
  simp (disch := ((try simp only [List.length_set, List.length_replicate, List.length_append, List.length_cons, List.length_nil]); omega)) only [aW, aX, aV, aB, aN, aL, aP, aH, aM]
  refine AWP.loopP g_layout_belts_2 (fun k : Nat => k ≤ p.ms.length ∧ ∀ i, i < k → ∀ o, o < outsN (p.ms.getD i []) → 0 ≤ findB p.bs i o) (fun k => [(1, .v (.int .i64 0)), (15, .v (.int .i64 k))]) (fun _ => []) (fun k => p.ms.length - k) 0 ⟨by omega, fun i hi => by omega⟩ (by refine Cut.of' (1) ?_ (by omega) ?_ ?_ <;> simp (disch := first | omega | simp (disch := omega) only [aF, aL, aN, aM]) only [aW, aX, aV, aB, aN, aL, aP, aH, aM, aF, Int.natCast_add, Int.natCast_mul, Int.add_sub_cancel, List.length_nil, Int.cast_ofNat_Int, and_true, true_and]) ?_
  rintro k ⟨hk, hu2⟩
  by_cases hlt : k < p.ms.length
  · have hk4 := h4 k hlt
    simp (disch := ((try simp only [List.length_set, List.length_replicate, List.length_append, List.length_cons, List.length_nil]); omega)) only [aW, aX, aV, aB, aN, aL, aP, aH, aM]
    refine (machineOuts_vr (w := w) (p.ms.getD k [])).same (by unfold mcA mcC; simp (disch := first | omega | simp (disch := omega) only [aF, aL, aN, aM]) only [aW, aX, aV, aB, aN, aL, aP, aH, aM, aF, Int.natCast_add, Int.natCast_mul, Int.add_sub_cancel, List.length_nil, Int.cast_ofNat_Int, and_true, true_and]) rfl (aret_of ?_)
    simp (disch := ((try simp only [List.length_set, List.length_replicate, List.length_append, List.length_cons, List.length_nil]); omega)) only [aW, aX, aV, aB, aN, aL, aP, aH, aM]
    refine AWP.loopP g_layout_belts_3 (fun o : Nat => o ≤ outsN (p.ms.getD k []) ∧ ∀ i, i < o → 0 ≤ findB p.bs k i) (fun o => [(1, .v (.int .i64 0)), (21, .v (.int .i64 o))]) (fun _ => []) (fun o => outsN (p.ms.getD k []) - o) 0 ⟨by omega, fun i hi => by omega⟩ (by refine Cut.of' (2) ?_ (by omega) ?_ ?_ <;> simp (disch := first | omega | simp (disch := omega) only [aF, aL, aN, aM]) only [aW, aX, aV, aB, aN, aL, aP, aH, aM, aF, Int.natCast_add, Int.natCast_mul, Int.add_sub_cancel, List.length_nil, Int.cast_ofNat_Int, and_true, true_and]) ?_
    rintro o ⟨ho, hv⟩
    by_cases hol : o < outsN (p.ms.getD k [])
    · simp (disch := ((try simp only [List.length_set, List.length_replicate, List.length_append, List.length_cons, List.length_nil]); omega)) only [aW, aX, aV, aB, aN, aL, aP, aH, aM]
      refine (find_vr (w := w) (v := v) p (by omega) k o).same (by unfold plA plC; simp (disch := first | omega | simp (disch := omega) only [aF, aL, aN, aM]) only [aW, aX, aV, aB, aN, aL, aP, aH, aM, aF, Int.natCast_add, Int.natCast_mul, Int.add_sub_cancel, List.length_nil, Int.cast_ofNat_Int, and_true, true_and]) rfl (aret_of ?_)
      simp (disch := ((try simp only [List.length_set, List.length_replicate, List.length_append, List.length_cons, List.length_nil]); omega)) only [aW, aX, aV, aB, aN, aL, aP, aH, aM]
      refine ib_intro (fun h3 => ?_) (fun h3 => ?_)
      · simp (disch := ((try simp only [List.length_set, List.length_replicate, List.length_append, List.length_cons, List.length_nil]); omega)) only [aW, aX, aV, aB, aN, aL, aP, aH, aM, r_layout_belts]
        exact post_v ⟨by rw [pbelts_open hf ⟨k, hlt, o, hol, h3⟩], rfl⟩
      · simp (disch := ((try simp only [List.length_set, List.length_replicate, List.length_append, List.length_cons, List.length_nil]); omega)) only [aW, aX, aV, aB, aN, aL, aP, aH, aM]
        refine ⟨o + 1, ⟨by omega, fun i hi => ?_⟩, by omega, (by refine Cut.of' (2) ?_ (by omega) ?_ ?_ <;> simp (disch := first | omega | simp (disch := omega) only [aF, aL, aN, aM]) only [aW, aX, aV, aB, aN, aL, aP, aH, aM, aF, Int.natCast_add, Int.natCast_mul, Int.add_sub_cancel, List.length_nil, Int.cast_ofNat_Int, and_true, true_and])⟩
        rcases Nat.lt_succ_iff_lt_or_eq.1 hi with h | rfl
        · exact hv i h
        · omega
    · simp (disch := ((try simp only [List.length_set, List.length_replicate, List.length_append, List.length_cons, List.length_nil]); omega)) only [aW, aX, aV, aB, aN, aL, aP, aH, aM]
      refine ⟨k + 1, ⟨by omega, fun i hi => ?_⟩, by omega, (by refine Cut.of' (1) ?_ (by omega) ?_ ?_ <;> simp (disch := first | omega | simp (disch := omega) only [aF, aL, aN, aM]) only [aW, aX, aV, aB, aN, aL, aP, aH, aM, aF, Int.natCast_add, Int.natCast_mul, Int.add_sub_cancel, List.length_nil, Int.cast_ofNat_Int, and_true, true_and])⟩
      rcases Nat.lt_succ_iff_lt_or_eq.1 hi with h | rfl
      · exact hu2 i h
      · intro o' ho'; exact hv o' (by omega)
  · simp (disch := ((try simp only [List.length_set, List.length_replicate, List.length_append, List.length_cons, List.length_nil]); omega)) only [aW, aX, aV, aB, aN, aL, aP, aH, aM, r_layout_belts]
    refine post_v ⟨?_, rfl⟩
    rw [pbelts_fine hf]
    rintro ⟨i, h1, o, h2, h3⟩
    have := hu2 i (by omega) o h2
    omega

/-! ### Check -/
theorem pc_range {p : Pl} (h : p.mat < 1 ∨ 16 < p.mat) : pcheck p = 1 := by unfold pcheck; rw [if_pos h]
theorem pc_empty {p : Pl} (h : ¬ (p.mat < 1 ∨ 16 < p.mat)) (h2 : p.ms.length = 0) : pcheck p = 10 := by unfold pcheck; rw [if_neg h, if_pos h2]
theorem pc_full {p : Pl} (h : ¬ (p.mat < 1 ∨ 16 < p.mat)) (h2 : ¬ p.ms.length = 0) (h3 : 24 < p.ms.length ∨ 48 < p.bs.length) : pcheck p = 8 := by unfold pcheck; rw [if_neg h, if_neg h2, if_pos h3]
theorem pc_mc {p : Pl} (h : ¬ (p.mat < 1 ∨ 16 < p.mat)) (h2 : ¬ p.ms.length = 0) (h3 : ¬ (24 < p.ms.length ∨ 48 < p.bs.length)) {k : Nat} (hk : k < p.ms.length) (hb : ∀ i, i < k → mcheck (p.ms.getD i []) p.mat = 0) (hn : mcheck (p.ms.getD k []) p.mat ≠ 0) : pcheck p = mcheck (p.ms.getD k []) p.mat := by
  have := firstE_hit (f := fun m => mcheck m p.mat) [] hk hb hn
  unfold pcheck; rw [if_neg h, if_neg h2, if_neg h3, this, if_pos hn]
theorem pc_belts {p : Pl} (h : ¬ (p.mat < 1 ∨ 16 < p.mat)) (h2 : ¬ p.ms.length = 0) (h3 : ¬ (24 < p.ms.length ∨ 48 < p.bs.length)) (hb : ∀ i, i < p.ms.length → mcheck (p.ms.getD i []) p.mat = 0) (hn : beltsE p.ms p.bs ≠ 0) : pcheck p = beltsE p.ms p.bs := by
  have := firstE_none (f := fun m => mcheck m p.mat) [] hb
  unfold pcheck; rw [if_neg h, if_neg h2, if_neg h3, this, if_neg (by omega), if_pos hn]
theorem pc_open {p : Pl} (h : ¬ (p.mat < 1 ∨ 16 < p.mat)) (h2 : ¬ p.ms.length = 0) (h3 : ¬ (24 < p.ms.length ∨ 48 < p.bs.length)) (hb : ∀ i, i < p.ms.length → mcheck (p.ms.getD i []) p.mat = 0) (hn : beltsE p.ms p.bs = 0) (ho : openO p.ms p.bs) : pcheck p = 3 := by
  have := firstE_none (f := fun m => mcheck m p.mat) [] hb
  unfold pcheck; rw [if_neg h, if_neg h2, if_neg h3, this, if_neg (by omega), if_neg (by omega), if_pos ho]
theorem pc_feed {p : Pl} (h : ¬ (p.mat < 1 ∨ 16 < p.mat)) (h2 : ¬ p.ms.length = 0) (h3 : ¬ (24 < p.ms.length ∨ 48 < p.bs.length)) (hb : ∀ i, i < p.ms.length → mcheck (p.ms.getD i []) p.mat = 0) (hn : beltsE p.ms p.bs = 0) (ho : ¬ openO p.ms p.bs) :
    pcheck p = if p.fd < 0 ∨ (p.ms.length : Int) ≤ p.fd then 7 else if outsN (p.ms.getD p.fd.toNat []) = 0 then 13 else 0 := by
  have := firstE_none (f := fun m => mcheck m p.mat) [] hb
  unfold pcheck; rw [if_neg h, if_neg h2, if_neg h3, this, if_neg (by omega), if_neg (by omega), if_neg ho]
theorem layoutCheck_vr {w v : Bool} (p : Pl) : VR P false n_layout_Check [plA w v p] [] (isR (.v (.int .i64 (pcheck p)))) := by
  refine vr_layout_Check (by simp) (.inr rfl) fun _ _ => ?_
  unfold plA plC
  simp (disch := ((try simp only [List.length_set, List.length_replicate, List.length_append, List.length_cons, List.length_nil]); omega)) only [aW, aX, aV, aB, aN, aL, aP, aH, aM, s_layout_Check, v_layout_Check]
  refine ib_intro (fun h1 => ?_) (fun h1 => ?_)
  · simp (disch := ((try simp only [List.length_set, List.length_replicate, List.length_append, List.length_cons, List.length_nil]); omega)) only [aW, aX, aV, aB, aN, aL, aP, aH, aM, r_layout_Check]
    exact post_v ⟨by rw [pc_range h1], rfl⟩
  simp (disch := ((try simp only [List.length_set, List.length_replicate, List.length_append, List.length_cons, List.length_nil]); omega)) only [aW, aX, aV, aB, aN, aL, aP, aH, aM]
  refine ib_intro (fun h2 => ?_) (fun h2 => ?_)
  · simp (disch := ((try simp only [List.length_set, List.length_replicate, List.length_append, List.length_cons, List.length_nil]); omega)) only [aW, aX, aV, aB, aN, aL, aP, aH, aM, r_layout_Check]
    exact post_v ⟨by rw [pc_empty h1 (by omega)], rfl⟩
  have h2 : ¬ p.ms.length = 0 := by omega
  simp (disch := ((try simp only [List.length_set, List.length_replicate, List.length_append, List.length_cons, List.length_nil]); omega)) only [aW, aX, aV, aB, aN, aL, aP, aH, aM]
  refine ib_intro (fun h3 => ?_) (fun h3 => ?_)
  · simp (disch := ((try simp only [List.length_set, List.length_replicate, List.length_append, List.length_cons, List.length_nil]); omega)) only [aW, aX, aV, aB, aN, aL, aP, aH, aM, r_layout_Check]
    exact post_v ⟨by rw [pc_full h1 h2 (by omega)], rfl⟩
  have h3 : ¬ (24 < p.ms.length ∨ 48 < p.bs.length) := by omega
  simp (disch := ((try simp only [List.length_set, List.length_replicate, List.length_append, List.length_cons, List.length_nil]); omega)) only [aW, aX, aV, aB, aN, aL, aP, aH, aM]
  refine AWP.loopP g_layout_Check_0 (fun k : Nat => k ≤ p.ms.length ∧ ∀ i, i < k → mcheck (p.ms.getD i []) p.mat = 0) (fun k => [(1, .v (.int .i64 0)), (6, .v (.int .i64 k))]) (fun _ => []) (fun k => p.ms.length - k) 0 ⟨by omega, fun i hi => by omega⟩ (by refine Cut.of' (1) ?_ (by omega) ?_ ?_ <;> simp (disch := first | omega | simp (disch := omega) only [aF, aL, aN, aM]) only [aW, aX, aV, aB, aN, aL, aP, aH, aM, aF, Int.natCast_add, Int.natCast_mul, Int.add_sub_cancel, List.length_nil, Int.cast_ofNat_Int, and_true, true_and]) ?_
  rintro k ⟨hk, hb⟩
  by_cases hlt : k < p.ms.length
  · simp (disch := ((try simp only [List.length_set, List.length_replicate, List.length_append, List.length_cons, List.length_nil]); omega)) only [aW, aX, aV, aB, aN, aL, aP, aH, aM]
    refine (machineCheck_vr (w := w) (p.ms.getD k []) p.mat).same (by unfold mcA mcC; simp (disch := first | omega | simp (disch := omega) only [aF, aL, aN, aM]) only [aW, aX, aV, aB, aN, aL, aP, aH, aM, aF, Int.natCast_add, Int.natCast_mul, Int.add_sub_cancel, List.length_nil, Int.cast_ofNat_Int, and_true, true_and]) rfl (aret_of ?_)
    simp (disch := ((try simp only [List.length_set, List.length_replicate, List.length_append, List.length_cons, List.length_nil]); omega)) only [aW, aX, aV, aB, aN, aL, aP, aH, aM]
    refine ib_intro (fun h4 => ?_) (fun h4 => ?_)
    · simp (disch := ((try simp only [List.length_set, List.length_replicate, List.length_append, List.length_cons, List.length_nil]); omega)) only [aW, aX, aV, aB, aN, aL, aP, aH, aM, r_layout_Check]
      exact post_v ⟨by rw [pc_mc h1 h2 h3 hlt hb h4], rfl⟩
    · simp (disch := ((try simp only [List.length_set, List.length_replicate, List.length_append, List.length_cons, List.length_nil]); omega)) only [aW, aX, aV, aB, aN, aL, aP, aH, aM]
      refine ⟨k + 1, ⟨by omega, fun i hi => ?_⟩, by omega, (by refine Cut.of' (1) ?_ (by omega) ?_ ?_ <;> simp (disch := first | omega | simp (disch := omega) only [aF, aL, aN, aM]) only [aW, aX, aV, aB, aN, aL, aP, aH, aM, aF, Int.natCast_add, Int.natCast_mul, Int.add_sub_cancel, List.length_nil, Int.cast_ofNat_Int, and_true, true_and])⟩
      rcases Nat.lt_succ_iff_lt_or_eq.1 hi with h | rfl
      · exact hb i h
      · exact Classical.not_not.1 h4
  have hb : ∀ i, i < p.ms.length → mcheck (p.ms.getD i []) p.mat = 0 := fun i hi => hb i (by omega)
  simp (disch := ((try simp only [List.length_set, List.length_replicate, List.length_append, List.length_cons, List.length_nil]); omega)) only [aW, aX, aV, aB, aN, aL, aP, aH, aM]
  refine (belts_vr (w := w) (v := v) p (by omega) (by omega) fun i hi => outs4 (hb i hi)).same (by unfold plA plC; simp (disch := first | omega | simp (disch := omega) only [aF, aL, aN, aM]) only [aW, aX, aV, aB, aN, aL, aP, aH, aM, aF, Int.natCast_add, Int.natCast_mul, Int.add_sub_cancel, List.length_nil, Int.cast_ofNat_Int, and_true, true_and]) rfl (aret_of ?_)
  by_cases h4 : beltsE p.ms p.bs = 0
  · by_cases h5 : openO p.ms p.bs
    · simp (disch := ((try simp only [List.length_set, List.length_replicate, List.length_append, List.length_cons, List.length_nil]); omega)) only [aW, aX, aV, aB, aN, aL, aP, aH, aM, pbelts_open h4 h5, r_layout_Check]
      exact post_v ⟨by rw [pc_open h1 h2 h3 hb h4 h5], rfl⟩
    · have hf := pc_feed h1 h2 h3 hb h4 h5
      simp (disch := ((try simp only [List.length_set, List.length_replicate, List.length_append, List.length_cons, List.length_nil]); omega)) only [aW, aX, aV, aB, aN, aL, aP, aH, aM, pbelts_fine h4 h5]
      refine (has_vr (w := w) (v := v) p p.fd).same (by unfold plA plC; simp (disch := first | omega | simp (disch := omega) only [aF, aL, aN, aM]) only [aW, aX, aV, aB, aN, aL, aP, aH, aM, aF, Int.natCast_add, Int.natCast_mul, Int.add_sub_cancel, List.length_nil, Int.cast_ofNat_Int, and_true, true_and]) rfl (aret_of ?_)
      by_cases h6 : 0 ≤ p.fd ∧ p.fd < p.ms.length
      · rw [if_neg (by omega)] at hf
        simp (disch := ((try simp only [List.length_set, List.length_replicate, List.length_append, List.length_cons, List.length_nil]); omega)) only [aW, aX, aV, aB, aN, aL, aP, aH, aM, decide_eq_true h6]
        refine (bin_vr (w := w) (v := v) p p.fd h6.1 h6.2).same (by unfold plA plC; simp (disch := first | omega | simp (disch := omega) only [aF, aL, aN, aM]) only [aW, aX, aV, aB, aN, aL, aP, aH, aM, aF, Int.natCast_add, Int.natCast_mul, Int.add_sub_cancel, List.length_nil, Int.cast_ofNat_Int, and_true, true_and]) rfl (aret_of ?_)
        simp (disch := ((try simp only [List.length_set, List.length_replicate, List.length_append, List.length_cons, List.length_nil]); omega)) only [aW, aX, aV, aB, aN, aL, aP, aH, aM]
        refine ib_intro (fun h7 => ?_) (fun h7 => ?_)
        · have h7 : outsN (p.ms.getD p.fd.toNat []) = 0 := h7
          rw [if_pos h7] at hf
          simp (disch := ((try simp only [List.length_set, List.length_replicate, List.length_append, List.length_cons, List.length_nil]); omega)) only [aW, aX, aV, aB, aN, aL, aP, aH, aM, r_layout_Check]
          exact post_v ⟨by rw [hf], rfl⟩
        · have h7 : ¬ outsN (p.ms.getD p.fd.toNat []) = 0 := h7
          rw [if_neg h7] at hf
          simp (disch := ((try simp only [List.length_set, List.length_replicate, List.length_append, List.length_cons, List.length_nil]); omega)) only [aW, aX, aV, aB, aN, aL, aP, aH, aM, r_layout_Check]
          exact post_v ⟨by rw [hf], rfl⟩
      · rw [if_pos (by omega)] at hf
        simp (disch := ((try simp only [List.length_set, List.length_replicate, List.length_append, List.length_cons, List.length_nil]); omega)) only [aW, aX, aV, aB, aN, aL, aP, aH, aM, decide_eq_false h6, r_layout_Check]
        exact post_v ⟨by rw [hf], rfl⟩
  · simp (disch := ((try simp only [List.length_set, List.length_replicate, List.length_append, List.length_cons, List.length_nil]); omega)) only [aW, aX, aV, aB, aN, aL, aP, aH, aM, pbelts_err h4, r_layout_Check]
    exact post_v ⟨by rw [pc_belts h1 h2 h3 hb h4], rfl⟩

end Go.Proofs.Ytfnghkmchlfooaa
namespace Go.Proofs.Ytfnghkmchlfooaa
open Go Go.Lft
set_option linter.unusedSimpArgs false
attribute [local congr] ob_congr bw_congr ib_congr ck_congr iwA_congr itA_congr aw_congr awp_congr sqA_congr bkA_congr vr_congr gd_congr

abbrev Arcs := List (Int × Int)
def arcBad (n : Int) (a : Int × Int) : Prop := ((a.1 < 0 ∨ n ≤ a.1) ∨ a.2 < 0) ∨ n ≤ a.2
instance (n : Int) (a : Int × Int) : Decidable (arcBad n a) := inferInstanceAs (Decidable (((a.1 < 0 ∨ n ≤ a.1) ∨ a.2 < 0) ∨ n ≤ a.2))
/-- The error of a graph. -/
def gcheck (n : Int) (l : Arcs) : Int := if n < 0 ∨ 64 < n then 1 else if 512 < l.length then 8 else if ∃ i, i < l.length ∧ arcBad n (l.getD i (0, 0)) then 7 else 0
def graphA (w : Bool) (n : Int) (l : Arcs) : A := .agg [.v (.int .i64 n), .fs w (pairs l)]

theorem check_vr {w : Bool} (n : Int) (l : Arcs) : VR P false n_graph_Check [graphA w n l] [] (isR (.v (.int .i64 (gcheck n l)))) := by
  refine vr_graph_Check (by simp) (.inr rfl) fun _ _ => ?_
  unfold graphA
  simp (disch := ((try simp only [List.length_set, List.length_replicate, List.length_append, List.length_cons, List.length_nil]); omega)) only [aW, aX, aV, aB, aN, aL, aP, aH, s_graph_Check, v_graph_Check]
  refine ib_intro (fun h1 => ?_) (fun h1 => ?_)
  · simp (disch := ((try simp only [List.length_set, List.length_replicate, List.length_append, List.length_cons, List.length_nil]); omega)) only [aW, aX, aV, aB, aN, aL, aP, aH, r_graph_Check]
    exact post_v ⟨by simp [gcheck, h1], rfl⟩
  simp (disch := ((try simp only [List.length_set, List.length_replicate, List.length_append, List.length_cons, List.length_nil]); omega)) only [aW, aX, aV, aB, aN, aL, aP, aH]
  refine ib_intro (fun h2 => ?_) (fun h2 => ?_)
  · simp (disch := ((try simp only [List.length_set, List.length_replicate, List.length_append, List.length_cons, List.length_nil]); omega)) only [aW, aX, aV, aB, aN, aL, aP, aH, r_graph_Check]
    exact post_v ⟨by unfold gcheck; rw [if_neg h1, if_pos (by omega)], rfl⟩
  simp (disch := ((try simp only [List.length_set, List.length_replicate, List.length_append, List.length_cons, List.length_nil]); omega)) only [aW, aX, aV, aB, aN, aL, aP, aH]
  refine AWP.loopP g_graph_Check_0 (fun k : Nat => k ≤ l.length ∧ ∀ i, i < k → ¬ arcBad n (l.getD i (0, 0))) (fun k => [(1, .v (.int .i64 0)), (3, .v (.int .i64 k))]) (fun _ => []) (fun k => l.length - k) 0 ⟨by omega, fun i hi => by omega⟩ (by refine Cut.of' (1) ?_ (by omega) ?_ ?_ <;> simp (disch := first | omega | simp (disch := omega) only [aF, aL, aN]) only [aW, aX, aV, aB, aN, aL, aP, aH, aF, Int.natCast_add, Int.natCast_mul, Int.add_sub_cancel, List.length_nil, Int.cast_ofNat_Int, and_true, true_and]) ?_
  rintro k ⟨hk, hg⟩
  by_cases hlt : k < l.length
  · simp (disch := ((try simp only [List.length_set, List.length_replicate, List.length_append, List.length_cons, List.length_nil]); omega)) only [aW, aX, aV, aB, aN, aL, aP, aH]
    refine ib_intro (fun h3 => ?_) (fun h3 => ?_)
    · simp (disch := ((try simp only [List.length_set, List.length_replicate, List.length_append, List.length_cons, List.length_nil]); omega)) only [aW, aX, aV, aB, aN, aL, aP, aH, r_graph_Check]
      refine post_v ⟨?_, rfl⟩
      unfold gcheck; rw [if_neg h1, if_neg (by omega), if_pos ⟨k, hlt, h3⟩]
    · simp (disch := ((try simp only [List.length_set, List.length_replicate, List.length_append, List.length_cons, List.length_nil]); omega)) only [aW, aX, aV, aB, aN, aL, aP, aH]
      refine ⟨k + 1, ⟨by omega, fun i hi => ?_⟩, by omega, ?_⟩
      · rcases Nat.lt_succ_iff_lt_or_eq.1 hi with h | rfl
        · exact hg i h
        · exact h3
      · exact (by refine Cut.of' (1) ?_ (by omega) ?_ ?_ <;> simp (disch := first | omega | simp (disch := omega) only [aF, aL, aN]) only [aW, aX, aV, aB, aN, aL, aP, aH, aF, Int.natCast_add, Int.natCast_mul, Int.add_sub_cancel, List.length_nil, Int.cast_ofNat_Int, and_true, true_and])
  · simp (disch := ((try simp only [List.length_set, List.length_replicate, List.length_append, List.length_cons, List.length_nil]); omega)) only [aW, aX, aV, aB, aN, aL, aP, aH, r_graph_Check]
    refine post_v ⟨?_, rfl⟩
    unfold gcheck; rw [if_neg h1, if_neg (by omega), if_neg]
    rintro ⟨i, hi, hb⟩; exact hg i (by omega) hb

end Go.Proofs.Ytfnghkmchlfooaa
namespace Go.Proofs.Ytfnghkmchlfooaa
open Go Go.Lft
set_option linter.unusedSimpArgs false
set_option linter.unusedVariables false
attribute [local congr] ob_congr bw_congr ib_congr ck_congr iwA_congr itA_congr aw_congr awp_congr sqA_congr bkA_congr vr_congr gd_congr

theorem eq_of_get {α : Type} {a b : List α} (d : α) (hl : a.length = b.length) (h : ∀ i, i < a.length → a.getD i d = b.getD i d) : a = b := by
  apply List.ext_getElem hl
  intro i h1 h2
  have := h i h1
  simpa [List.getD_eq_getElem?_getD, h1, h2] using this

theorem refInts_vr {w v : Bool} (a b : List Int) (ha : a.length < 1000000000) : VR P false n_ref09_Ints [.fs w (ints a), .fs v (ints b)] [] (isR (.v (.bool (decide (a = b))))) := by
  refine vr_ref09_Ints (by simp) (.inr rfl) fun _ _ => ?_
  simp (disch := ((try simp only [List.length_set, List.length_replicate, List.length_append, List.length_cons, List.length_nil]); omega)) only [aW, aX, aV, aB, aN, aL, aP, aH, s_ref09_Ints, v_ref09_Ints]
  refine ib_intro (fun h1 => ?_) (fun h1 => ?_)
  · simp (disch := ((try simp only [List.length_set, List.length_replicate, List.length_append, List.length_cons, List.length_nil]); omega)) only [aW, aX, aV, aB, aN, aL, aP, aH, r_ref09_Ints]
    exact post_v ⟨vfalse (fun h => h1 (by rw [h])), rfl⟩
  have hl : a.length = b.length := by omega
  simp (disch := ((try simp only [List.length_set, List.length_replicate, List.length_append, List.length_cons, List.length_nil]); omega)) only [aW, aX, aV, aB, aN, aL, aP, aH]
  refine AWP.loopP g_ref09_Ints_0 (fun k : Nat => k ≤ a.length ∧ ∀ i, i < k → a.getD i 0 = b.getD i 0) (fun k => [(2, .v (.bool false)), (3, .v (.int .i64 k))]) (fun _ => []) (fun k => a.length - k) 0 ⟨by omega, fun i hi => by omega⟩ (by refine Cut.of' (0) ?_ (by omega) ?_ ?_ <;> simp (disch := first | omega | simp (disch := omega) only [aF, aL, aN]) only [aW, aX, aV, aB, aN, aL, aP, aH, aF, Int.natCast_add, Int.natCast_mul, Int.add_sub_cancel, List.length_nil, Int.cast_ofNat_Int, and_true, true_and]) ?_
  rintro k ⟨hk, hg⟩
  by_cases hlt : k < a.length
  · simp (disch := ((try simp only [List.length_set, List.length_replicate, List.length_append, List.length_cons, List.length_nil]); omega)) only [aW, aX, aV, aB, aN, aL, aP, aH]
    refine ib_split (fun h3 => ?_) (fun h3 => ?_)
    · simp (disch := ((try simp only [List.length_set, List.length_replicate, List.length_append, List.length_cons, List.length_nil]); omega)) only [aW, aX, aV, aB, aN, aL, aP, aH, r_ref09_Ints]
      refine post_v ⟨vfalse (fun h => ?_), rfl⟩
      subst h; simp at h3
    · simp (disch := ((try simp only [List.length_set, List.length_replicate, List.length_append, List.length_cons, List.length_nil]); omega)) only [aW, aX, aV, aB, aN, aL, aP, aH]
      refine ⟨k + 1, ⟨by omega, fun i hi => ?_⟩, by omega, (by refine Cut.of' (0) ?_ (by omega) ?_ ?_ <;> simp (disch := first | omega | simp (disch := omega) only [aF, aL, aN]) only [aW, aX, aV, aB, aN, aL, aP, aH, aF, Int.natCast_add, Int.natCast_mul, Int.add_sub_cancel, List.length_nil, Int.cast_ofNat_Int, and_true, true_and])⟩
      rcases Nat.lt_succ_iff_lt_or_eq.1 hi with h | rfl
      · exact hg i h
      · simpa using h3
  · simp (disch := ((try simp only [List.length_set, List.length_replicate, List.length_append, List.length_cons, List.length_nil]); omega)) only [aW, aX, aV, aB, aN, aL, aP, aH, r_ref09_Ints]
    exact post_v ⟨vtrue (eq_of_get 0 hl (fun i hi => hg i (by omega))), rfl⟩

theorem refLists_vr {w v w' v' : Bool} (a b : List (List Int)) (ha : a.length < 1000000000) (hs : ∀ r ∈ a, r.length < 1000000000) : VR P false n_ref09_Lists [.fs w (rows w' a), .fs v (rows v' b)] [] (isR (.v (.bool (decide (a = b))))) := by
  refine vr_ref09_Lists (by simp) (.inr rfl) fun _ _ => ?_
  simp (disch := ((try simp only [List.length_set, List.length_replicate, List.length_append, List.length_cons, List.length_nil]); omega)) only [aW, aX, aV, aB, aN, aL, aP, aH, s_ref09_Lists, v_ref09_Lists]
  refine ib_intro (fun h1 => ?_) (fun h1 => ?_)
  · simp (disch := ((try simp only [List.length_set, List.length_replicate, List.length_append, List.length_cons, List.length_nil]); omega)) only [aW, aX, aV, aB, aN, aL, aP, aH, r_ref09_Lists]
    exact post_v ⟨vfalse (fun h => h1 (by rw [h])), rfl⟩
  have hl : a.length = b.length := by omega
  simp (disch := ((try simp only [List.length_set, List.length_replicate, List.length_append, List.length_cons, List.length_nil]); omega)) only [aW, aX, aV, aB, aN, aL, aP, aH]
  refine AWP.loopP g_ref09_Lists_0 (fun k : Nat => k ≤ a.length ∧ ∀ i, i < k → a.getD i [] = b.getD i []) (fun k => [(2, .v (.bool false)), (3, .v (.int .i64 k))]) (fun _ => []) (fun k => a.length - k) 0 ⟨by omega, fun i hi => by omega⟩ (by refine Cut.of' (0) ?_ (by omega) ?_ ?_ <;> simp (disch := first | omega | simp (disch := omega) only [aF, aL, aN]) only [aW, aX, aV, aB, aN, aL, aP, aH, aF, Int.natCast_add, Int.natCast_mul, Int.add_sub_cancel, List.length_nil, Int.cast_ofNat_Int, and_true, true_and]) ?_
  rintro k ⟨hk, hg⟩
  by_cases hlt : k < a.length
  · simp (disch := ((try simp only [List.length_set, List.length_replicate, List.length_append, List.length_cons, List.length_nil]); omega)) only [aW, aX, aV, aB, aN, aL, aP, aH]
    refine (refInts_vr (a.getD k []) (b.getD k []) (hs _ (by simp [List.getD_eq_getElem?_getD, hlt]))).same (by simp (disch := first | omega | simp (disch := omega) only [aF, aL, aN]) only [aW, aX, aV, aB, aN, aL, aP, aH, aF, Int.natCast_add, Int.natCast_mul, Int.add_sub_cancel, List.length_nil, Int.cast_ofNat_Int, and_true, true_and]) rfl (aret_of ?_)
    simp (disch := ((try simp only [List.length_set, List.length_replicate, List.length_append, List.length_cons, List.length_nil]); omega)) only [aW, aX, aV, aB, aN, aL, aP, aH]
    refine ib_intro (fun h3 => ?_) (fun h3 => ?_)
    · simp (disch := ((try simp only [List.length_set, List.length_replicate, List.length_append, List.length_cons, List.length_nil]); omega)) only [aW, aX, aV, aB, aN, aL, aP, aH, r_ref09_Lists]
      exact post_v ⟨vfalse (fun h => h3 (by rw [h])), rfl⟩
    · simp (disch := ((try simp only [List.length_set, List.length_replicate, List.length_append, List.length_cons, List.length_nil]); omega)) only [aW, aX, aV, aB, aN, aL, aP, aH]
      refine ⟨k + 1, ⟨by omega, fun i hi => ?_⟩, by omega, (by refine Cut.of' (0) ?_ (by omega) ?_ ?_ <;> simp (disch := first | omega | simp (disch := omega) only [aF, aL, aN]) only [aW, aX, aV, aB, aN, aL, aP, aH, aF, Int.natCast_add, Int.natCast_mul, Int.add_sub_cancel, List.length_nil, Int.cast_ofNat_Int, and_true, true_and])⟩
      rcases Nat.lt_succ_iff_lt_or_eq.1 hi with h | rfl
      · exact hg i h
      · exact Classical.not_not.1 h3
  · simp (disch := ((try simp only [List.length_set, List.length_replicate, List.length_append, List.length_cons, List.length_nil]); omega)) only [aW, aX, aV, aB, aN, aL, aP, aH, r_ref09_Lists]
    exact post_v ⟨vtrue (eq_of_get [] hl (fun i hi => hg i (by omega))), rfl⟩
end Go.Proofs.Ytfnghkmchlfooaa
namespace Go.Proofs.Ytfnghkmchlfooaa
open Go Go.Lft
set_option linter.unusedSimpArgs false
set_option linter.unusedVariables false
attribute [local congr] ob_congr bw_congr ib_congr ck_congr iwA_congr itA_congr aw_congr awp_congr sqA_congr bkA_congr vr_congr gd_congr

def vis (S : List Bool) (w : Int) : Prop := S.getD w.toNat false = true
instance (S : List Bool) (w : Int) : Decidable (vis S w) := inferInstanceAs (Decidable (S.getD w.toNat false = true))
theorem vis_set (S : List Bool) (v w : Int) (hv0 : 0 ≤ v) (hv : v.toNat < S.length) (hw : 0 ≤ w) : vis (S.set v.toNat true) w ↔ w = v ∨ vis S w := by
  unfold vis
  simp only [List.getD_eq_getElem?_getD, List.getElem?_set]
  by_cases h : v.toNat = w.toNat
  · rw [if_pos h]
    have : w = v := by omega
    subst this
    simp [hv]
  · rw [if_neg h]
    have : w ≠ v := fun hh => h (by rw [hh])
    simp [this]
/-- There is a way from u to w over es. -/
inductive Path (es : Arcs) : Int → Int → Prop
  | refl (u : Int) : Path es u u
  | step {u v w : Int} (h : (u, v) ∈ es) (p : Path es v w) : Path es u w
theorem Path.trans {es : Arcs} {u v w : Int} (p : Path es u v) (q : Path es v w) : Path es u w := by
  induction p with
  | refl u => exact q
  | step h _ ih => exact .step h (ih q)
theorem Path.snoc {es : Arcs} {u v w : Int} (p : Path es u v) (h : (v, w) ∈ es) : Path es u w := p.trans (.step h (.refl w))

/-- What a call turns S into. -/
structure Seen (es : Arcs) (S S' : List Bool) (v : Int) : Prop where
  len : S'.length = S.length
  mono : ∀ w, vis S w → vis S' w
  new : ∀ w, 0 ≤ w → vis S' w → vis S w ∨ Path es v w
  clo : ∀ w x, 0 ≤ w → vis S' w → ¬ vis S w → (w, x) ∈ es → vis S' x
  self : vis S' v
def inR (n : Int) (es : Arcs) : Prop := ∀ a ∈ es, (0 ≤ a.1 ∧ a.1 < n) ∧ 0 ≤ a.2 ∧ a.2 < n

theorem count_set (S : List Bool) (i : Nat) (h : i < S.length) (hf : S.getD i false = false) : (S.set i true).count false + 1 = S.count false := by
  induction S generalizing i with
  | nil => simp at h
  | cons a r ih =>
    cases i with
    | zero => simp at hf; subst hf; simp
    | succ i =>
      simp only [List.set_cons_succ, List.count_cons]
      have := ih i (by simpa using h) (by simpa using hf)
      omega
theorem count_mono {S S' : List Bool} (hl : S'.length = S.length) (h : ∀ i, S.getD i false = true → S'.getD i false = true) : S'.count false ≤ S.count false := by
  induction S generalizing S' with
  | nil => simp at hl; subst hl; simp
  | cons a r ih =>
    cases S' with
    | nil => simp at hl
    | cons b q =>
      have h1 := ih (S' := q) (by simpa using hl) fun i hi => by have := h (i + 1) (by simpa using hi); simpa using this
      have h0 := h 0
      simp only [List.count_cons]
      cases a <;> cases b <;> simp at h0 ⊢ <;> omega

/-- The function gives the two ends of an arc. -/
def IsEnds (f : Nat) (e : Int × Int → Int × Int) : Prop := bodied P f = true ∧ ∀ a : Int × Int, VR P false f [.agg [.v (.int .i64 a.1), .v (.int .i64 a.2)]] [] (isR (.tup [.v (.int .i64 (e a).1), .v (.int .i64 (e a).2)]))
theorem ends1 : IsEnds n_graph_Reach_1 id := ⟨by kernel_rfl, fun a => by
  refine vr_graph_Reach_1 (by simp) (.inr rfl) fun _ _ => ?_
  simp (disch := ((try simp only [List.length_set, List.length_replicate, List.length_append, List.length_cons, List.length_nil]); omega)) only [aW, aX, aV, aB, aN, aL, aP, aH, s_graph_Reach_1, v_graph_Reach_1, r_graph_Reach_1]
  exact post0 (Fz.refl rfl) ⟨rfl, rfl⟩⟩
theorem ends2 : IsEnds n_graph_Back_1 Prod.swap := ⟨by kernel_rfl, fun a => by
  refine vr_graph_Back_1 (by simp) (.inr rfl) fun _ _ => ?_
  simp (disch := ((try simp only [List.length_set, List.length_replicate, List.length_append, List.length_cons, List.length_nil]); omega)) only [aW, aX, aV, aB, aN, aL, aP, aH, s_graph_Back_1, v_graph_Back_1, r_graph_Back_1]
  exact post0 (Fz.refl rfl) ⟨rfl, rfl⟩⟩

/-- The memory of visit. -/
abbrev vmem (w : Bool) (n : Int) (l : Arcs) (f N : Nat) (S : List Bool) (T : List Blk) : List Blk :=
  ⟨0, [.v (.int .i64 n), .fs w (pairs l)]⟩ :: ⟨0, [.fn f []]⟩ :: ⟨0, bools S⟩ :: ⟨0, [.sl 2 0 1 0 N]⟩ :: ⟨0, [.fn n_graph_visit_1 [.lp 3 0 0, .lp 0 0 0, .lp 1 0 0, .lp 4 0 0]]⟩ :: T

theorem vm_ok {w : Bool} {n : Int} {l : Arcs} {f N : Nat} {S : List Bool} {T : List Blk} {k : Nat} (hk : 5 ≤ k) (hb : okB k (vmem w n l f N S T)) (S' : List Bool) : okB k (vmem w n l f N S' T) := fun B hB => by
  rcases List.mem_cons.1 hB with rfl | hB
  · simp (disch := first | omega | simp (disch := omega) only [aF, aL, aN]) only [aW, aX, aV, aB, aN, aL, aP, aH, aF, Int.natCast_add, Int.natCast_mul, Int.add_sub_cancel, List.length_nil, Int.cast_ofNat_Int, and_true, true_and]
  rcases List.mem_cons.1 hB with rfl | hB
  · simp (disch := first | omega | simp (disch := omega) only [aF, aL, aN]) only [aW, aX, aV, aB, aN, aL, aP, aH, aF, Int.natCast_add, Int.natCast_mul, Int.add_sub_cancel, List.length_nil, Int.cast_ofNat_Int, and_true, true_and]
  rcases List.mem_cons.1 hB with rfl | hB
  · simp (disch := first | omega | simp (disch := omega) only [aF, aL, aN]) only [aW, aX, aV, aB, aN, aL, aP, aH, aF, Int.natCast_add, Int.natCast_mul, Int.add_sub_cancel, List.length_nil, Int.cast_ofNat_Int, and_true, true_and]
  rcases List.mem_cons.1 hB with rfl | hB
  · simp (disch := first | omega | simp (disch := omega) only [aF, aL, aN]) only [aW, aX, aV, aB, aN, aL, aP, aH, aF, Int.natCast_add, Int.natCast_mul, Int.add_sub_cancel, List.length_nil, Int.cast_ofNat_Int, and_true, true_and]
  rcases List.mem_cons.1 hB with rfl | hB
  · simp (disch := first | omega | simp (disch := omega) only [aF, aL, aN]) only [aW, aX, aV, aB, aN, aL, aP, aH, aF, Int.natCast_add, Int.natCast_mul, Int.add_sub_cancel, List.length_nil, Int.cast_ofNat_Int, and_true, true_and]
  exact hb B (by simp [hB])

theorem visit1_vr {w : Bool} {n : Int} {l : Arcs} {f N : Nat} {e : Int × Int → Int × Int} (he : IsEnds f e) (hl : l.length < 1000000000) (hn : n < 1000000000) (hr : inR n (l.map e)) (hN : (N : Int) = n) :
    ∀ (m : Nat) (S : List Bool) (T : List Blk) (v : Int), S.count false ≤ m → S.length = N → 0 ≤ v → v < n →
    VR P false n_graph_visit_1 [.v (.int .i64 v), .lp 3 0 0, .lp 0 0 0, .lp 1 0 0, .lp 4 0 0] (vmem w n l f N S T) (fun r H' => ∃ S', Seen (l.map e) S S' v ∧ H' = vmem w n l f N S' T) := by
  intro m
  induction m with
  | zero =>
    intro S T v hm hs h0 h1
    refine vr_graph_visit_1 (by simp) (.inl rfl) fun hb _ => ?_
    have hv : S.getD v.toNat false = true := by
      cases hh : S.getD v.toNat false with
      | true => rfl
      | false =>
        have := count_set S v.toNat (by omega) hh
        omega
    simp (disch := ((try simp only [List.length_set, List.length_replicate, List.length_append, List.length_cons, List.length_nil]); omega)) only [aW, aX, aV, aB, aN, aL, aP, aH, s_graph_visit_1, v_graph_visit_1, r_graph_visit_1, vmem, hv]
    exact post2 (R := fun r H' => _) ⟨S, ⟨rfl, fun _ h => h, fun _ _ h => .inl h, fun w x _ h1 h2 => absurd h1 h2, hv⟩, rfl⟩
  | succ m ih =>
    intro S T v hm hs h0 h1
    refine vr_graph_visit_1 (by simp) (.inl rfl) fun hb _ => ?_
    cases hv : S.getD v.toNat false with
    | true =>
      simp (disch := ((try simp only [List.length_set, List.length_replicate, List.length_append, List.length_cons, List.length_nil]); omega)) only [aW, aX, aV, aB, aN, aL, aP, aH, s_graph_visit_1, v_graph_visit_1, r_graph_visit_1, vmem, hv]
      exact post2 (R := fun r H' => _) ⟨S, ⟨rfl, fun _ h => h, fun _ _ h => .inl h, fun w x _ h1 h2 => absurd h1 h2, hv⟩, rfl⟩
    | false =>
      have hS1 : (S.set v.toNat true).length = S.length := List.length_set
      simp (disch := ((try simp only [List.length_set, List.length_replicate, List.length_append, List.length_cons, List.length_nil]); omega)) only [aW, aX, aV, aB, aN, aL, aP, aH, s_graph_visit_1, v_graph_visit_1, vmem, hv]
      have okm := vm_ok (k := T.length + 1 + 1 + 1 + 1 + 1) (by omega) hb
      have hvl : v.toNat < S.length := by omega
      have vset := fun w (hw : 0 ≤ w) => vis_set S v w h0 hvl hw
      refine AWP.loopP (α := Nat × List Bool) g_graph_visit_1_0 (fun p => p.1 ≤ l.length ∧ p.2.length = S.length ∧ (∀ w, vis (S.set v.toNat true) w → vis p.2 w) ∧ (∀ w, 0 ≤ w → vis p.2 w → vis (S.set v.toNat true) w ∨ Path (l.map e) v w) ∧
          (∀ w x, 0 ≤ w → vis p.2 w → ¬ vis (S.set v.toNat true) w → (w, x) ∈ l.map e → vis p.2 x) ∧ ∀ i, i < p.1 → (e (l.getD i (0, 0))).1 = v → vis p.2 (e (l.getD i (0, 0))).2)
        (fun p => [(5, .v (.int .i64 p.1))]) (fun p => [(2, ⟨0, bools p.2⟩)]) (fun p => l.length - p.1) (0, S.set v.toNat true)
        ⟨by simp only; omega, hS1, fun _ h => h, fun _ _ h => .inl h, fun w x _ h1 h2 => absurd h1 h2, fun i hi => by simp only at hi; omega⟩ ?_ ?_
      · simp (disch := ((try simp only [List.length_set, List.length_replicate, List.length_append, List.length_cons, List.length_nil]); omega)) only [aW, aX, aV, aB, aN, aL, aP, aH]
        exact Cut.same (H := vmem w n l f N (S.set v.toNat true) T) (by simp) (by have := okm (S.set v.toNat true); simpa using this) (by simp (disch := first | omega | simp (disch := omega) only [aF, aL, aN]) only [aW, aX, aV, aB, aN, aL, aP, aH, aF, Int.natCast_add, Int.natCast_mul, Int.add_sub_cancel, List.length_nil, Int.cast_ofNat_Int, and_true, true_and])
      rintro ⟨k, Sk⟩ ⟨k1, k2, k3, k4, k5, k6⟩
      simp only at k1 k2 k3 k4 k5 k6
      by_cases hlt : k < l.length
      · have hmem : e (l.getD k (0, 0)) ∈ l.map e := by
          refine List.mem_map.2 ⟨l.getD k (0, 0), ?_, rfl⟩
          simp [List.getD_eq_getElem?_getD, hlt]
        obtain ⟨⟨r1, r2⟩, r3, r4⟩ := hr _ hmem
        have step : ∀ S', (∀ w, vis (S.set v.toNat true) w → vis S' w) → (∀ w, 0 ≤ w → vis S' w → vis (S.set v.toNat true) w ∨ Path (l.map e) v w) → (∀ w x, 0 ≤ w → vis S' w → ¬ vis (S.set v.toNat true) w → (w, x) ∈ l.map e → vis S' x) → S'.length = S.length →
            (∀ w, vis Sk w → vis S' w) → ((e (l.getD k (0, 0))).1 = v → vis S' (e (l.getD k (0, 0))).2) →
            (fun p : Nat × List Bool => p.1 ≤ l.length ∧ p.2.length = S.length ∧ (∀ w, vis (S.set v.toNat true) w → vis p.2 w) ∧ (∀ w, 0 ≤ w → vis p.2 w → vis (S.set v.toNat true) w ∨ Path (l.map e) v w) ∧
              (∀ w x, 0 ≤ w → vis p.2 w → ¬ vis (S.set v.toNat true) w → (w, x) ∈ l.map e → vis p.2 x) ∧ ∀ i, i < p.1 → (e (l.getD i (0, 0))).1 = v → vis p.2 (e (l.getD i (0, 0))).2) (k + 1, S') := by
          intro S' g1 g2 g3 g4 g5 g6
          refine ⟨by simp only; omega, g4, g1, g2, g3, fun i hi hiv => ?_⟩
          simp only at hi
          by_cases hik : i = k
          · subst hik; exact g6 hiv
          · exact g5 _ (k6 i (by omega) hiv)
        simp (disch := ((try simp only [List.length_set, List.length_replicate, List.length_append, List.length_cons, List.length_nil]); omega)) only [aW, aX, aV, aB, aN, aL, aP, aH]
        refine ⟨he.1, (he.2 (l.getD k (0, 0))).same (by simp (disch := first | omega | simp (disch := omega) only [aF, aL, aN]) only [aW, aX, aV, aB, aN, aL, aP, aH, aF, Int.natCast_add, Int.natCast_mul, Int.add_sub_cancel, List.length_nil, Int.cast_ofNat_Int, and_true, true_and]) rfl (aret_of ?_)⟩
        simp (disch := ((try simp only [List.length_set, List.length_replicate, List.length_append, List.length_cons, List.length_nil]); omega)) only [aW, aX, aV, aB, aN, aL, aP, aH]
        refine ib_intro (fun h3 => ?_) (fun h3 => ?_)
        · simp (disch := ((try simp only [List.length_set, List.length_replicate, List.length_append, List.length_cons, List.length_nil]); omega)) only [aW, aX, aV, aB, aN, aL, aP, aH]
          have hcnt : Sk.count false ≤ m := by
            have h4 := count_set S v.toNat hvl hv
            have h5 := count_mono (S := S.set v.toNat true) (S' := Sk) (by rw [k2, hS1]) (fun i hi => k3 i hi)
            omega
          refine ⟨by kernel_rfl, (ih Sk (T ++ [⟨0, [.v (.int .i64 (l.getD k (0, 0)).1), .v (.int .i64 (l.getD k (0, 0)).2)]⟩]) (e (l.getD k (0, 0))).2 hcnt (by omega) r3 r4).mono ?_⟩
          rintro r H' ⟨S', q, rfl⟩
          refine aret_of ?_
          have ql : S'.length = S.length := q.len.trans k2
          simp (disch := ((try simp only [List.length_set, List.length_replicate, List.length_append, List.length_cons, List.length_nil]); omega)) only [aW, aX, aV, aB, aN, aL, aP, aH, vmem]
          refine ⟨(k + 1, S'), step S' (fun w hw => q.mono w (k3 w hw)) (fun w hw0 hw => ?_) (fun w x hw0 hw hnw hwx => ?_) ql q.mono (fun _ => q.self), by simp only; omega, ?_⟩
          · rcases q.new w hw0 hw with h6 | h6
            · exact k4 w hw0 h6
            · exact .inr (.step (by rw [← h3]; exact hmem) h6)
          · by_cases h6 : vis Sk w
            · exact q.mono x (k5 w x hw0 h6 hnw hwx)
            · exact q.clo w x hw0 hw h6 hwx
          · simp (disch := ((try simp only [List.length_set, List.length_replicate, List.length_append, List.length_cons, List.length_nil]); omega)) only [aW, aX, aV, aB, aN, aL, aP, aH]
            exact Cut.app (H := vmem w n l f N S' T) (by simp) (by have := okm S'; simpa using this) (by simp (disch := first | omega | simp (disch := omega) only [aF, aL, aN]) only [aW, aX, aV, aB, aN, aL, aP, aH, aF, Int.natCast_add, Int.natCast_mul, Int.add_sub_cancel, List.length_nil, Int.cast_ofNat_Int, and_true, true_and])
        · simp (disch := ((try simp only [List.length_set, List.length_replicate, List.length_append, List.length_cons, List.length_nil]); omega)) only [aW, aX, aV, aB, aN, aL, aP, aH]
          refine ⟨(k + 1, Sk), step Sk k3 k4 k5 k2 (fun _ h => h) (fun hh => absurd hh h3), by simp only; omega, ?_⟩
          simp (disch := ((try simp only [List.length_set, List.length_replicate, List.length_append, List.length_cons, List.length_nil]); omega)) only [aW, aX, aV, aB, aN, aL, aP, aH]
          exact Cut.app (H := vmem w n l f N Sk T) (by simp) (by have := okm Sk; simpa using this) (by simp (disch := first | omega | simp (disch := omega) only [aF, aL, aN]) only [aW, aX, aV, aB, aN, aL, aP, aH, aF, Int.natCast_add, Int.natCast_mul, Int.add_sub_cancel, List.length_nil, Int.cast_ofNat_Int, and_true, true_and])
      · simp (disch := ((try simp only [List.length_set, List.length_replicate, List.length_append, List.length_cons, List.length_nil]); omega)) only [aW, aX, aV, aB, aN, aL, aP, aH, r_graph_visit_1]
        refine post2 (R := fun r H' => _) ⟨Sk, ⟨k2, fun w hw => k3 w (by
            unfold vis at hw ⊢
            simp only [List.getD_eq_getElem?_getD, List.getElem?_set] at hw ⊢
            split
            · simp [hvl]
            · exact hw), fun w hw0 hw => ?_, fun w x hw0 hw hnw hwx => ?_, k3 v ((vset v h0).2 (.inl rfl))⟩, rfl⟩
        · rcases k4 w hw0 hw with h6 | h6
          · rcases (vset w hw0).1 h6 with rfl | h7
            · exact .inr (.refl _)
            · exact .inl h7
          · exact .inr h6
        · by_cases h6 : w = v
          · subst h6
            obtain ⟨a, ha, hax⟩ := List.mem_map.1 hwx
            obtain ⟨i, hi, rfl⟩ := List.mem_iff_getElem.1 ha
            have hg : l.getD i (0, 0) = l[i] := by simp [List.getD_eq_getElem?_getD, hi]
            have := k6 i (by omega) (by rw [hg, hax])
            rw [hg, hax] at this; exact this
          · exact k5 w x hw0 hw (fun h7 => ((vset w hw0).1 h7).elim h6 hnw) hwx
end Go.Proofs.Ytfnghkmchlfooaa
namespace Go.Proofs.Ytfnghkmchlfooaa
open Go Go.Lft
set_option linter.unusedSimpArgs false
set_option linter.unusedVariables false
attribute [local congr] ob_congr bw_congr ib_congr ck_congr iwA_congr itA_congr aw_congr awp_congr sqA_congr bkA_congr vr_congr gd_congr

def iterN {α : Type} (f : α → α) : Nat → α → α
  | 0, x => x
  | k + 1, x => f (iterN f k x)
def relax1 (S : List Bool) (a : Int × Int) : List Bool := S.set a.2.toNat (S.getD a.2.toNat false || S.getD a.1.toNat false)
def relaxAll (es : Arcs) (S : List Bool) : List Bool := es.foldl relax1 S
def start0 (n from0 : Int) : List Bool := (List.replicate n.toNat false).set from0.toNat true
def reachL (n : Int) (es : Arcs) (from0 : Int) : List Bool := iterN (relaxAll es) n.toNat (start0 n from0)

theorem relax1_len (S : List Bool) (a : Int × Int) : (relax1 S a).length = S.length := List.length_set
theorem relaxAll_len (es : Arcs) (S : List Bool) : (relaxAll es S).length = S.length := by
  unfold relaxAll
  induction es generalizing S with
  | nil => rfl
  | cons a r ih => rw [List.foldl_cons, ih, relax1_len]
theorem iter_len (es : Arcs) (k : Nat) (S : List Bool) : (iterN (relaxAll es) k S).length = S.length := by
  induction k with
  | zero => rfl
  | succ k ih => simp only [iterN]; rw [relaxAll_len, ih]
theorem start_len (n v : Int) : (start0 n v).length = n.toNat := by simp [start0]
theorem reachL_len (n : Int) (es : Arcs) (v : Int) : (reachL n es v).length = n.toNat := by unfold reachL; rw [iter_len, start_len]

theorem relax1_get (S : List Bool) (a : Int × Int) (i : Nat) : (relax1 S a).getD i false = if a.2.toNat = i then (S.getD a.2.toNat false || S.getD a.1.toNat false) && decide (i < S.length) else S.getD i false := by
  unfold relax1
  simp only [List.getD_eq_getElem?_getD, List.getElem?_set]
  split
  · rename_i h; subst h
    by_cases hl : a.2.toNat < S.length <;> simp [hl]
  · rfl
theorem relax1_mono (S : List Bool) (a : Int × Int) (i : Nat) (h : S.getD i false = true) : (relax1 S a).getD i false = true := by
  rw [relax1_get]
  split
  · rename_i hi; subst hi
    have : a.2.toNat < S.length := by
      apply Nat.lt_of_not_le; intro hle
      rw [List.getD_eq_getElem?_getD, List.getElem?_eq_none hle] at h; cases h
    rw [h]; simp [this]
  · exact h
theorem relaxAll_mono (es : Arcs) (S : List Bool) (i : Nat) (h : S.getD i false = true) : (relaxAll es S).getD i false = true := by
  unfold relaxAll
  induction es generalizing S with
  | nil => exact h
  | cons a r ih => rw [List.foldl_cons]; exact ih _ (relax1_mono S a i h)
theorem iter_mono (es : Arcs) (k : Nat) (S : List Bool) (i : Nat) (h : S.getD i false = true) : (iterN (relaxAll es) k S).getD i false = true := by
  induction k with
  | zero => exact h
  | succ k ih => exact relaxAll_mono es _ i ih
/-- Nothing is reached but over ways. -/
theorem relaxAll_sound (n : Int) (es all : Arcs) (hsub : ∀ a ∈ es, a ∈ all) (hr : inR n all) (v : Int) (S : List Bool) (h : ∀ w, 0 ≤ w → vis S w → Path all v w) : ∀ w, 0 ≤ w → vis (relaxAll es S) w → Path all v w := by
  unfold relaxAll
  induction es generalizing S with
  | nil => exact h
  | cons a r ih =>
    rw [List.foldl_cons]
    refine ih (fun b hb => hsub b (by simp [hb])) _ (fun w hw hv => ?_)
    have ha := hsub a (by simp)
    obtain ⟨⟨r1, r2⟩, r3, r4⟩ := hr a ha
    unfold vis at hv
    rw [relax1_get] at hv
    split at hv
    · rename_i hi
      have hwa : w = a.2 := by omega
      subst hwa
      simp only [Bool.and_eq_true, Bool.or_eq_true] at hv
      rcases hv.1 with h1 | h1
      · exact h _ hw h1
      · exact (h a.1 r1 h1).snoc ha
    · exact h w hw hv
theorem iter_sound (n : Int) (es : Arcs) (hr : inR n es) (v : Int) (k : Nat) (S : List Bool) (h : ∀ w, 0 ≤ w → vis S w → Path es v w) : ∀ w, 0 ≤ w → vis (iterN (relaxAll es) k S) w → Path es v w := by
  induction k with
  | zero => exact h
  | succ k ih => exact relaxAll_sound n es es (fun _ h => h) hr v _ ih
/-- The number of those that are reached. -/
theorem count_le {S S' : List Bool} (hl : S'.length = S.length) (h : ∀ i, S.getD i false = true → S'.getD i false = true) : S.count true ≤ S'.count true ∧ (S.count true = S'.count true → S = S') := by
  induction S generalizing S' with
  | nil => simp at hl; subst hl; simp
  | cons a r ih =>
    cases S' with
    | nil => simp at hl
    | cons b q =>
      obtain ⟨h1, h2⟩ := ih (S' := q) (by simpa using hl) fun i hi => by have := h (i + 1) (by simpa using hi); simpa using this
      have h0 := h 0
      simp only [List.count_cons]
      cases a <;> cases b <;> simp at h0 ⊢
      · exact ⟨by omega, fun hc => h2 hc⟩
      · exact ⟨by omega, fun hc => by omega⟩
      · exact ⟨by omega, fun hc => h2 hc⟩
theorem iter_fix (es : Arcs) (S : List Bool) (h0 : 1 ≤ S.count true) (k : Nat) : relaxAll es (iterN (relaxAll es) k S) = iterN (relaxAll es) k S ∨ k + 1 ≤ (iterN (relaxAll es) k S).count true := by
  induction k with
  | zero => exact .inr (by simpa [iterN] using h0)
  | succ k ih =>
    simp only [iterN]
    rcases ih with h | h
    · rw [h]; exact .inl h
    · obtain ⟨h1, h2⟩ := count_le (S := iterN (relaxAll es) k S) (S' := relaxAll es (iterN (relaxAll es) k S)) (relaxAll_len _ _) (fun i hi => relaxAll_mono es _ i hi)
      by_cases hc : (iterN (relaxAll es) k S).count true = (relaxAll es (iterN (relaxAll es) k S)).count true
      · have := h2 hc
        rw [← this]; exact .inl this.symm
      · exact .inr (by omega)
/-- Where a round changes nothing, every arc leads from what is reached to what is. -/
theorem fix_clo (n : Int) (es : Arcs) (hr : inR n es) (S : List Bool) (hl : S.length = n.toNat) (hf : relaxAll es S = S) : ∀ a ∈ es, vis S a.1 → vis S a.2 := by
  have key : ∀ (l : Arcs) (T : List Bool), T.length = n.toNat → (∀ i, S.getD i false = true → T.getD i false = true) → (∀ a ∈ l, a ∈ es) → ∀ a ∈ l, vis S a.1 → vis (l.foldl relax1 T) a.2 := by
    intro l
    induction l with
    | nil => intro T _ _ _ a ha; cases ha
    | cons b r ih =>
      intro T hT hm hs a ha hv
      rw [List.foldl_cons]
      rcases List.mem_cons.1 ha with rfl | ha
      · obtain ⟨⟨r1, r2⟩, r3, r4⟩ := hr a (hs a (by simp))
        have h1 : (relax1 T a).getD a.2.toNat false = true := by
          rw [relax1_get, if_pos rfl, hm _ hv]
          simp; omega
        exact relaxAll_mono r _ _ h1
      · exact ih _ (by rw [relax1_len, hT]) (fun i hi => relax1_mono T b i (hm i hi)) (fun c hc => hs c (by simp [hc])) a ha hv
  intro a ha hv
  have := key es S hl (fun _ h => h) (fun _ h => h) a ha hv
  unfold relaxAll at hf
  rw [hf] at this; exact this
theorem vis_start (n v w : Int) (h0 : 0 ≤ v) (h1 : v < n) (hw : 0 ≤ w) : vis (start0 n v) w ↔ w = v := by
  unfold start0
  rw [vis_set _ _ _ h0 (by simp; omega) hw]
  have : ¬ vis (List.replicate n.toNat false) w := by
    unfold vis
    simp [List.getD_eq_getElem?_getD, List.getElem?_replicate]
    split <;> simp
  simp [this]
theorem reachL_iff {n : Int} {es : Arcs} (hr : inR n es) {v : Int} (h0 : 0 ≤ v) (h1 : v < n) {w : Int} (hw : 0 ≤ w) : vis (reachL n es v) w ↔ Path es v w := by
  constructor
  · refine iter_sound n es hr v _ _ (fun u hu hv => ?_) w hw
    rw [(vis_start n v u h0 h1 hu).1 hv]; exact .refl v
  · have hfix : relaxAll es (reachL n es v) = reachL n es v := by
      have hc : 1 ≤ (start0 n v).count true := by
        apply List.one_le_count_iff.2
        unfold start0
        exact List.mem_set (by simp; omega) _
      rcases iter_fix es (start0 n v) hc n.toNat with h | h
      · exact h
      · exfalso
        have := List.count_le_length (a := true) (l := iterN (relaxAll es) n.toNat (start0 n v))
        rw [iter_len, start_len] at this; omega
    have hclo := fix_clo n es hr (reachL n es v) (reachL_len n es v) hfix
    have hv : vis (reachL n es v) v := iter_mono es _ _ _ ((vis_start n v v h0 h1 h0).2 rfl)
    intro hp
    clear hw
    revert hv
    clear h0 h1
    generalize reachL n es v = S at *
    intro hv
    induction hp with
    | refl u => exact hv
    | step h p ih => exact ih (hclo _ h hv)
theorem bools_ext {S T : List Bool} {n : Int} (h1 : S.length = n.toNat) (h2 : T.length = n.toNat) (h : ∀ w, 0 ≤ w → w < n → (vis S w ↔ vis T w)) : S = T := by
  refine eq_of_get false (by omega) fun i hi => ?_
  have := h i (by omega) (by omega)
  unfold vis at this
  simp only [Int.toNat_natCast] at this
  cases ha : S.getD i false <;> cases hb : T.getD i false <;> rw [ha, hb] at this <;> simp at this ⊢

/-- What visit returns. -/
def visitR (n : Int) (l es : Arcs) (v : Int) : List Bool × Int := if gcheck n l ≠ 0 then ([], gcheck n l) else if v < 0 ∨ n ≤ v then ([], 7) else (reachL n es v, 0)
theorem gcheck_ok {n : Int} {l : Arcs} (h : gcheck n l = 0) : 0 ≤ n ∧ n ≤ 64 ∧ l.length ≤ 512 ∧ inR n l := by
  unfold gcheck at h
  split at h
  · cases h
  · split at h
    · cases h
    · split at h
      · cases h
      · rename_i h1 h2 h3
        refine ⟨by omega, by omega, by omega, fun a ha => ?_⟩
        obtain ⟨i, hi, rfl⟩ := List.mem_iff_getElem.1 ha
        have : ¬ arcBad n (l.getD i (0, 0)) := fun hb => h3 ⟨i, hi, hb⟩
        simp only [arcBad, List.getD_eq_getElem?_getD, List.getElem?_eq_getElem hi, Option.getD_some] at this
        omega
theorem inR_swap {n : Int} {l : Arcs} (h : inR n l) : inR n (l.map Prod.swap) := fun a ha => by
  obtain ⟨b, hb, rfl⟩ := List.mem_map.1 ha
  have := h b hb
  exact ⟨this.2, this.1⟩

theorem visit_vr {w : Bool} {n : Int} {l : Arcs} {f : Nat} {e : Int × Int → Int × Int} (he : IsEnds f e) (hin : inR n l → inR n (l.map e)) (v : Int) :
    VR P false n_graph_visit [graphA w n l, .v (.int .i64 v), .fn f []] [] (isR (.tup [.fs true (bools (visitR n l (l.map e) v).1), .v (.int .i64 (visitR n l (l.map e) v).2)])) := by
  refine vr_graph_visit (by simp) (.inr rfl) fun _ _ => ?_
  unfold graphA
  simp (disch := ((try simp only [List.length_set, List.length_replicate, List.length_append, List.length_cons, List.length_nil]); omega)) only [aW, aX, aV, aB, aN, aL, aP, aH, s_graph_visit, v_graph_visit]
  refine (check_vr (w := w) n l).same (by unfold graphA; simp (disch := first | omega | simp (disch := omega) only [aF, aL, aN]) only [aW, aX, aV, aB, aN, aL, aP, aH, aF, Int.natCast_add, Int.natCast_mul, Int.add_sub_cancel, List.length_nil, Int.cast_ofNat_Int, and_true, true_and]) rfl (aret_of ?_)
  simp (disch := ((try simp only [List.length_set, List.length_replicate, List.length_append, List.length_cons, List.length_nil]); omega)) only [aW, aX, aV, aB, aN, aL, aP, aH]
  refine ib_intro (fun h1 => ?_) (fun h1 => ?_)
  · simp (disch := ((try simp only [List.length_set, List.length_replicate, List.length_append, List.length_cons, List.length_nil]); omega)) only [aW, aX, aV, aB, aN, aL, aP, aH, r_graph_visit]
    refine post_err ⟨?_, rfl⟩
    unfold visitR; rw [if_pos h1]; rfl
  have h1 : gcheck n l = 0 := Classical.not_not.1 h1
  obtain ⟨c1, c2, c3, c4⟩ := gcheck_ok h1
  simp (disch := ((try simp only [List.length_set, List.length_replicate, List.length_append, List.length_cons, List.length_nil]); omega)) only [aW, aX, aV, aB, aN, aL, aP, aH]
  refine ib_intro (fun h2 => ?_) (fun h2 => ?_)
  · simp (disch := ((try simp only [List.length_set, List.length_replicate, List.length_append, List.length_cons, List.length_nil]); omega)) only [aW, aX, aV, aB, aN, aL, aP, aH, r_graph_visit]
    refine post_err ⟨?_, rfl⟩
    unfold visitR; rw [if_neg (by simp [h1]), if_pos h2]; rfl
  simp (disch := ((try simp only [List.length_set, List.length_replicate, List.length_append, List.length_cons, List.length_nil]); omega)) only [aW, aX, aV, aB, aN, aL, aP, aH]
  refine ⟨by kernel_rfl, (visit1_vr (N := n.toNat) he (by omega) (by omega) (hin c4) (by omega) _ (List.replicate n.toNat false) [] v (Nat.le_refl _) (by simp) (by omega) (by omega)).mono ?_⟩
  rintro r H' ⟨S', q, rfl⟩
  refine aret_of ?_
  have ql : S'.length = n.toNat := by rw [q.len]; simp
  simp (disch := ((try simp only [List.length_set, List.length_replicate, List.length_append, List.length_cons, List.length_nil]); omega)) only [aW, aX, aV, aB, aN, aL, aP, aH, vmem, r_graph_visit]
  refine post0 (r := .tup [.fs true (bools S'), .v (.int .i64 0)]) (Fz.tup ⟨fz_slB _ _ _ _ _ _ (by omega) ql.symm rfl, Fz.refl rfl, trivial⟩) ⟨?_, rfl⟩
  have hS : S' = reachL n (l.map e) v := by
    have hno : ∀ u, ¬ vis (List.replicate n.toNat false) u := fun u => by
      unfold vis; simp [List.getD_eq_getElem?_getD, List.getElem?_replicate]; split <;> simp
    refine bools_ext ql (reachL_len _ _ _) fun u u0 u1 => ?_
    rw [reachL_iff (hin c4) (by omega) (by omega) u0]
    constructor
    · intro hu
      rcases q.new u u0 hu with h3 | h3
      · exact absurd h3 (hno u)
      · exact h3
    · intro hp
      have key : ∀ a b, Path (l.map e) a b → 0 ≤ a → vis S' a → vis S' b := by
        intro a b hp
        induction hp with
        | refl a => exact fun _ h => h
        | step h p ih => exact fun ha hva => ih (hin c4 _ h).2.1 (q.clo _ _ ha hva (hno _) h)
      exact key v u hp (by omega) q.self
  unfold visitR; rw [if_neg (by simp [h1]), if_neg (by omega), hS]

def backL (l : Arcs) : Arcs := l.map Prod.swap
theorem reach_vr {w : Bool} (n : Int) (l : Arcs) (v : Int) : VR P false n_graph_Reach [graphA w n l, .v (.int .i64 v)] [] (isR (.tup [.fs true (bools (visitR n l l v).1), .v (.int .i64 (visitR n l l v).2)])) := by
  refine vr_graph_Reach (by simp) (.inr rfl) fun _ _ => ?_
  unfold graphA
  have hv := visit_vr (w := w) (n := n) (l := l) ends1 (fun h => by simpa using h) v
  simp only [List.map_id_fun, id_eq] at hv
  simp (disch := ((try simp only [List.length_set, List.length_replicate, List.length_append, List.length_cons, List.length_nil]); omega)) only [aW, aX, aV, aB, aN, aL, aP, aH, s_graph_Reach, v_graph_Reach]
  refine hv.same (by unfold graphA; simp (disch := first | omega | simp (disch := omega) only [aF, aL, aN]) only [aW, aX, aV, aB, aN, aL, aP, aH, aF, Int.natCast_add, Int.natCast_mul, Int.add_sub_cancel, List.length_nil, Int.cast_ofNat_Int, and_true, true_and]) (by simp (disch := first | omega | simp (disch := omega) only [aF, aL, aN]) only [aW, aX, aV, aB, aN, aL, aP, aH, aF, Int.natCast_add, Int.natCast_mul, Int.add_sub_cancel, List.length_nil, Int.cast_ofNat_Int, and_true, true_and]) (aret_of ?_)
  simp (disch := ((try simp only [List.length_set, List.length_replicate, List.length_append, List.length_cons, List.length_nil]); omega)) only [aW, aX, aV, aB, aN, aL, aP, aH, r_graph_Reach]
  exact post0 (Fz.refl (by simp (disch := first | omega | simp (disch := omega) only [aF, aL, aN]) only [aW, aX, aV, aB, aN, aL, aP, aH, aF, Int.natCast_add, Int.natCast_mul, Int.add_sub_cancel, List.length_nil, Int.cast_ofNat_Int, and_true, true_and])) ⟨rfl, rfl⟩
theorem back_vr {w : Bool} (n : Int) (l : Arcs) (v : Int) : VR P false n_graph_Back [graphA w n l, .v (.int .i64 v)] [] (isR (.tup [.fs true (bools (visitR n l (backL l) v).1), .v (.int .i64 (visitR n l (backL l) v).2)])) := by
  refine vr_graph_Back (by simp) (.inr rfl) fun _ _ => ?_
  unfold graphA
  have hv := visit_vr (w := w) (n := n) (l := l) ends2 (fun h => inR_swap h) v
  simp (disch := ((try simp only [List.length_set, List.length_replicate, List.length_append, List.length_cons, List.length_nil]); omega)) only [aW, aX, aV, aB, aN, aL, aP, aH, s_graph_Back, v_graph_Back]
  refine hv.same (by unfold graphA; simp (disch := first | omega | simp (disch := omega) only [aF, aL, aN]) only [aW, aX, aV, aB, aN, aL, aP, aH, aF, Int.natCast_add, Int.natCast_mul, Int.add_sub_cancel, List.length_nil, Int.cast_ofNat_Int, and_true, true_and]) (by simp (disch := first | omega | simp (disch := omega) only [aF, aL, aN]) only [aW, aX, aV, aB, aN, aL, aP, aH, aF, Int.natCast_add, Int.natCast_mul, Int.add_sub_cancel, List.length_nil, Int.cast_ofNat_Int, and_true, true_and]) (aret_of ?_)
  simp (disch := ((try simp only [List.length_set, List.length_replicate, List.length_append, List.length_cons, List.length_nil]); omega)) only [aW, aX, aV, aB, aN, aL, aP, aH, r_graph_Back]
  exact post0 (Fz.refl (by simp (disch := first | omega | simp (disch := omega) only [aF, aL, aN]) only [aW, aX, aV, aB, aN, aL, aP, aH, aF, Int.natCast_add, Int.natCast_mul, Int.add_sub_cancel, List.length_nil, Int.cast_ofNat_Int, and_true, true_and])) ⟨rfl, rfl⟩
end Go.Proofs.Ytfnghkmchlfooaa
namespace Go.Proofs.Ytfnghkmchlfooaa
open Go Go.Lft
set_option linter.unusedSimpArgs false
set_option linter.unusedVariables false
attribute [local congr] ob_congr bw_congr ib_congr ck_congr iwA_congr itA_congr aw_congr awp_congr sqA_congr bkA_congr vr_congr gd_congr

theorem take_succ_get {α : Type} (l : List α) (k : Nat) (d : α) (h : k < l.length) : l.take (k + 1) = l.take k ++ [l.getD k d] := by
  rw [List.take_succ_eq_append_getElem h]; simp [List.getD_eq_getElem?_getD, h]

end Go.Proofs.Ytfnghkmchlfooaa
namespace Go.Proofs.Ytfnghkmchlfooaa
open Go Go.Lft
set_option linter.unusedSimpArgs false
set_option linter.unusedVariables false
attribute [local congr] ob_congr bw_congr ib_congr ck_congr iwA_congr itA_congr aw_congr awp_congr sqA_congr bkA_congr vr_congr gd_congr

theorem FzL.app {m : Nat} {H : List Blk} : ∀ {l r l' r' : List A}, FzL m H l l' → FzL m H r r' → FzL m H (l ++ r) (l' ++ r')
  | [], r, [], r', _, h => h
  | a :: l, r, b :: l', r', h, k => ⟨h.1, FzL.app h.2 k⟩
  | [], _, _ :: _, _, h, _ => h.elim
  | _ :: _, _, [], _, h, _ => h.elim

/-- Truth values by number. -/
def tab (N : Nat) (D : Nat → Bool) : List Bool := (List.range N).map D
theorem tab_len (N : Nat) (D : Nat → Bool) : (tab N D).length = N := by simp [tab]
theorem tab_get (N : Nat) (D : Nat → Bool) (k : Nat) (h : k < N) : (tab N D).getD k false = D k := by simp [tab, List.getD_eq_getElem?_getD, h]
theorem tab_ext {N : Nat} {D E : Nat → Bool} (h : ∀ k, k < N → D k = E k) : tab N D = tab N E := by
  unfold tab; exact List.map_congr_left fun k hk => h k (List.mem_range.1 hk)
theorem tab_set (N : Nat) (D : Nat → Bool) (k : Nat) (h : k < N) : (tab N D).set k true = tab N (fun j => D j || j == k) := by
  apply List.ext_getElem (by simp [tab])
  intro i h1 h2
  simp only [tab, List.length_set, List.length_map, List.length_range] at h1
  rw [List.getElem_set]
  by_cases hk : k = i
  · subst hk; simp [tab]
  · have : (i == k) = false := by simpa using Ne.symm hk
    simp [tab, hk, this]
theorem tab_rep (N : Nat) : List.replicate N false = tab N fun _ => false := by
  apply List.ext_getElem (by simp [tab])
  intro i h1 h2
  simp [tab]

/-- Both ways lead. -/
def both (n : Int) (l : Arcs) (v k : Nat) : Bool := (reachL n l v).getD k false && (reachL n (backL l) v).getD k false
/-- The nodes from a to b - 1 that go with v. -/
def memb (n : Int) (l : Arcs) (v a b : Nat) : List Int := ((List.range b).filter fun j => decide (a ≤ j) && both n l v j).map Int.ofNat
theorem memb_succ (n : Int) (l : Arcs) (v a b : Nat) : memb n l v a (b + 1) = if a ≤ b ∧ both n l v b = true then memb n l v a b ++ [(b : Int)] else memb n l v a b := by
  unfold memb
  rw [List.range_succ, List.filter_append]
  by_cases h : a ≤ b ∧ both n l v b = true
  · simp [h]
  · rw [if_neg h]
    by_cases h1 : a ≤ b
    · have h2 : both n l v b = false := by simpa [h1] using h
      simp [h2]
    · simp [h1]
/-- What was done, and the groups, before node v. -/
def gst (n : Int) (l : Arcs) : Nat → (Nat → Bool) × List (List Int)
  | 0 => (fun _ => false, [])
  | v + 1 => if (gst n l v).1 v then gst n l v else (fun j => (gst n l v).1 j || both n l v j, (gst n l v).2 ++ [memb n l v 0 n.toNat])
def groupsR (n : Int) (l : Arcs) : List (List Int) × Int := if gcheck n l ≠ 0 then ([], gcheck n l) else ((gst n l n.toNat).2, 0)

theorem memb_len (n : Int) (l : Arcs) (v a b : Nat) : (memb n l v a b).length ≤ b := by
  unfold memb
  have := List.length_filter_le (fun j => decide (a ≤ j) && both n l v j) (List.range b)
  simpa using this
theorem gst_len (n : Int) (l : Arcs) (v : Nat) : (gst n l v).2.length ≤ v := by
  induction v with
  | zero => simp [gst]
  | succ v ih => simp only [gst]; split
                 · omega
                 · simp; omega

theorem path_swap {l : Arcs} {u v : Int} (h : Path l u v) : Path (backL l) v u := by
  induction h with
  | refl u => exact .refl u
  | step h p ih => exact ih.snoc (List.mem_map.2 ⟨_, h, rfl⟩)
theorem backL_back (l : Arcs) : backL (backL l) = l := by simp [backL]
theorem path_back {l : Arcs} {u v : Int} : Path (backL l) u v ↔ Path l v u :=
  ⟨fun h => by have := path_swap h; rwa [backL_back] at this, path_swap⟩
theorem both_iff {n : Int} {l : Arcs} (hr : inR n l) {v k : Nat} (hv : v < n.toNat) (hk : k < n.toNat) : both n l v k = true ↔ Path l v k ∧ Path l k v := by
  unfold both
  rw [Bool.and_eq_true]
  have h1 := reachL_iff hr (v := v) (by omega) (by omega) (w := k) (by omega)
  have h2 := reachL_iff (inR_swap hr) (v := v) (by omega) (by omega) (w := k) (by omega)
  unfold vis at h1 h2
  rw [Int.toNat_natCast] at h1 h2
  rw [h1, show (reachL n (backL l) v).getD k false = true ↔ Path (backL l) v k from h2, path_back]
theorem gst_done {n : Int} {l : Arcs} (hr : inR n l) : ∀ (v : Nat), v ≤ n.toNat → ∀ k, k < n.toNat → ((gst n l v).1 k = true ↔ ∃ u, u < v ∧ both n l u k = true)
  | 0, _, k, _ => by simp [gst]
  | v + 1, hv, k, hk => by
    have ih := gst_done hr v (by omega)
    simp only [gst]
    split
    · rename_i hd
      rw [ih k hk]
      constructor
      · rintro ⟨u, h1, h2⟩; exact ⟨u, by omega, h2⟩
      · rintro ⟨u, h1, h2⟩
        by_cases huv : u = v
        · subst huv
          obtain ⟨x, h3, h4⟩ := (ih u (by omega)).1 hd
          refine ⟨x, h3, ?_⟩
          rw [both_iff hr (by omega) (by omega)] at h2 h4 ⊢
          exact ⟨h4.1.trans h2.1, h2.2.trans h4.2⟩
        · exact ⟨u, by omega, h2⟩
    · simp only [Bool.or_eq_true, ih k hk]
      constructor
      · rintro (⟨u, h1, h2⟩ | h2)
        · exact ⟨u, by omega, h2⟩
        · exact ⟨v, by omega, h2⟩
      · rintro ⟨u, h1, h2⟩
        by_cases huv : u = v
        · subst huv; exact .inr h2
        · exact .inl ⟨u, by omega, h2⟩
theorem groups_vr {w : Bool} (n : Int) (l : Arcs) : VR P false n_graph_Groups [graphA w n l] [] (isR (.tup [.fs true (rows true (groupsR n l).1), .v (.int .i64 (groupsR n l).2)])) := by
  refine vr_graph_Groups (by simp) (.inr rfl) fun _ _ => ?_
  unfold graphA
  simp (disch := ((try simp only [List.length_set, List.length_replicate, List.length_append, List.length_cons, List.length_nil]); omega)) only [aW, aX, aV, aB, aN, aL, aP, aH, s_graph_Groups, v_graph_Groups]
  refine (check_vr (w := w) n l).same (by unfold graphA; simp (disch := first | omega | simp (disch := omega) only [aF, aL, aN]) only [aW, aX, aV, aB, aN, aL, aP, aH, aF, Int.natCast_add, Int.natCast_mul, Int.add_sub_cancel, List.length_nil, Int.cast_ofNat_Int, and_true, true_and]) rfl (aret_of ?_)
  simp (disch := ((try simp only [List.length_set, List.length_replicate, List.length_append, List.length_cons, List.length_nil]); omega)) only [aW, aX, aV, aB, aN, aL, aP, aH]
  refine ib_intro (fun h1 => ?_) (fun h1 => ?_)
  · simp (disch := ((try simp only [List.length_set, List.length_replicate, List.length_append, List.length_cons, List.length_nil]); omega)) only [aW, aX, aV, aB, aN, aL, aP, aH, r_graph_Groups]
    refine post_err ⟨?_, rfl⟩
    unfold groupsR; rw [if_pos h1]; rfl
  have h1 : gcheck n l = 0 := Classical.not_not.1 h1
  obtain ⟨c1, c2, c3, c4⟩ := gcheck_ok h1
  simp (disch := ((try simp only [List.length_set, List.length_replicate, List.length_append, List.length_cons, List.length_nil]); omega)) only [aW, aX, aV, aB, aN, aL, aP, aH]
  refine AWP.cut (Cut.virt 5 1 rfl) ?_
  refine AWP.loopP (α := Nat × Nat) g_graph_Groups_0 (fun p => p.1 ≤ n.toNat) (fun p => [(5, .vs 2 p.2 1 (gst n l p.1).2.length), (7, .v (.int .i64 p.1))]) (fun p => [(1, ⟨0, bools (tab n.toNat (gst n l p.1).1)⟩), (2, ⟨p.2, rows true (gst n l p.1).2⟩)]) (fun p => n.toNat - p.1) (0, 0) (by simp) ?_ ?_
  · simp (disch := ((try simp only [List.length_set, List.length_replicate, List.length_append, List.length_cons, List.length_nil]); omega)) only [aW, aX, aV, aB, aN, aL, aP, aH, tab_rep, gst]
    exact Cut.of' 3 rfl (by omega) (by simp (disch := first | omega | simp (disch := omega) only [aF, aL, aN]) only [aW, aX, aV, aB, aN, aL, aP, aH, aF, Int.natCast_add, Int.natCast_mul, Int.add_sub_cancel, List.length_nil, Int.cast_ofNat_Int, and_true, true_and, r_nil]) (by simp (disch := first | omega | simp (disch := omega) only [aF, aL, aN]) only [aW, aX, aV, aB, aN, aL, aP, aH, aF, Int.natCast_add, Int.natCast_mul, Int.add_sub_cancel, List.length_nil, Int.cast_ofNat_Int, and_true, true_and])
  rintro ⟨v, ver⟩ hv
  simp only at hv
  have hol := gst_len n l v
  have htl := tab_len n.toNat (gst n l v).1
  by_cases hlt : v < n.toNat
  · have hg := tab_get n.toNat (gst n l v).1 v hlt
    cases hd : (gst n l v).1 v with
    | true =>
      simp (disch := ((try simp only [List.length_set, List.length_replicate, List.length_append, List.length_cons, List.length_nil]); omega)) only [aW, aX, aV, aB, aN, aL, aP, aH, hg, hd]
      refine ⟨(v + 1, ver), by simp only; omega, by simp only; omega, ?_⟩
      simp only [gst, hd, if_true]
      exact Cut.of' 3 rfl (by omega) (by simp (disch := first | omega | simp (disch := omega) only [aF, aL, aN]) only [aW, aX, aV, aB, aN, aL, aP, aH, aF, Int.natCast_add, Int.natCast_mul, Int.add_sub_cancel, List.length_nil, Int.cast_ofNat_Int, and_true, true_and]) (by simp (disch := first | omega | simp (disch := omega) only [aF, aL, aN]) only [aW, aX, aV, aB, aN, aL, aP, aH, aF, Int.natCast_add, Int.natCast_mul, Int.add_sub_cancel, List.length_nil, Int.cast_ofNat_Int, and_true, true_and])
    | false =>
      have vr : ∀ es, visitR n l es v = (reachL n es v, 0) := fun es => by unfold visitR; rw [if_neg (by simp [h1]), if_neg (by omega)]
      have hv1 := reach_vr (w := w) n l v
      have hv2 := back_vr (w := w) n l v
      rw [vr] at hv1 hv2
      have rl1 := reachL_len n l v
      have rl2 := reachL_len n (backL l) v
      simp (disch := ((try simp only [List.length_set, List.length_replicate, List.length_append, List.length_cons, List.length_nil]); omega)) only [aW, aX, aV, aB, aN, aL, aP, aH, hg, hd]
      refine hv1.same (by unfold graphA; simp (disch := first | omega | simp (disch := omega) only [aF, aL, aN]) only [aW, aX, aV, aB, aN, aL, aP, aH, aF, Int.natCast_add, Int.natCast_mul, Int.add_sub_cancel, List.length_nil, Int.cast_ofNat_Int, and_true, true_and]) (by simp (disch := first | omega | simp (disch := omega) only [aF, aL, aN]) only [aW, aX, aV, aB, aN, aL, aP, aH, aF, Int.natCast_add, Int.natCast_mul, Int.add_sub_cancel, List.length_nil, Int.cast_ofNat_Int, and_true, true_and]) (aret_of ?_)
      simp (disch := ((try simp only [List.length_set, List.length_replicate, List.length_append, List.length_cons, List.length_nil]); omega)) only [aW, aX, aV, aB, aN, aL, aP, aH]
      refine hv2.same (by unfold graphA; simp (disch := first | omega | simp (disch := omega) only [aF, aL, aN]) only [aW, aX, aV, aB, aN, aL, aP, aH, aF, Int.natCast_add, Int.natCast_mul, Int.add_sub_cancel, List.length_nil, Int.cast_ofNat_Int, and_true, true_and]) (by simp (disch := first | omega | simp (disch := omega) only [aF, aL, aN]) only [aW, aX, aV, aB, aN, aL, aP, aH, aF, Int.natCast_add, Int.natCast_mul, Int.add_sub_cancel, List.length_nil, Int.cast_ofNat_Int, and_true, true_and]) (aret_of ?_)
      simp (disch := ((try simp only [List.length_set, List.length_replicate, List.length_append, List.length_cons, List.length_nil]); omega)) only [aW, aX, aV, aB, aN, aL, aP, aH]
      refine AWP.cut (Cut.virt 15 1 rfl) ?_
      refine AWP.loopP (α := Nat × Nat) g_graph_Groups_1 (fun p => p.1 ≤ n.toNat) (fun p => [(15, .vs 3 p.2 1 (memb n l v 0 p.1).length), (16, .v (.int .i64 p.1))]) (fun p => [(1, ⟨0, bools (tab n.toNat (fun j => (gst n l v).1 j || (decide (j < p.1) && both n l v j)))⟩), (3, ⟨p.2, ints (memb n l v 0 p.1)⟩)]) (fun p => n.toNat - p.1) (0, 0) (by simp) ?_ ?_
      · have e0 : (fun j => (gst n l v).1 j || (decide (j < 0) && both n l v j)) = (gst n l v).1 := by funext j; simp
        have e1 : memb n l v 0 0 = [] := rfl
        simp (disch := ((try simp only [List.length_set, List.length_replicate, List.length_append, List.length_cons, List.length_nil]); omega)) only [aW, aX, aV, aB, aN, aL, aP, aH]
        exact Cut.of' 4 rfl (by omega) (by simp (disch := first | omega | simp (disch := omega) only [aF, aL, aN]) only [aW, aX, aV, aB, aN, aL, aP, aH, aF, Int.natCast_add, Int.natCast_mul, Int.add_sub_cancel, List.length_nil, Int.cast_ofNat_Int, and_true, true_and, e0, e1, ii_nil]) (by simp (disch := first | omega | simp (disch := omega) only [aF, aL, aN]) only [aW, aX, aV, aB, aN, aL, aP, aH, aF, Int.natCast_add, Int.natCast_mul, Int.add_sub_cancel, List.length_nil, Int.cast_ofNat_Int, and_true, true_and, e1])
      rintro ⟨k, vk⟩ hk
      simp only at hk
      have hml := memb_len n l v 0 k
      have htk := tab_len n.toNat (fun j => (gst n l v).1 j || (decide (j < k) && both n l v j))
      by_cases hkt : k < n.toNat
      · simp (disch := ((try simp only [List.length_set, List.length_replicate, List.length_append, List.length_cons, List.length_nil]); omega)) only [aW, aX, aV, aB, aN, aL, aP, aH]
        refine ib_split (fun h3 => ?_) (fun h3 => ?_)
        · have h3' : both n l v k = true := h3
          simp (disch := ((try simp only [List.length_set, List.length_replicate, List.length_append, List.length_cons, List.length_nil]); omega)) only [aW, aX, aV, aB, aN, aL, aP, aH]
          refine ⟨(k + 1, vk + 1), by simp only; omega, by simp only; omega, ?_⟩
          have e1 : memb n l v 0 (k + 1) = memb n l v 0 k ++ [(k : Int)] := by rw [memb_succ, if_pos ⟨by omega, h3'⟩]
          have e2 : tab n.toNat (fun j => (gst n l v).1 j || (decide (j < k + 1) && both n l v j)) = (tab n.toNat (fun j => (gst n l v).1 j || (decide (j < k) && both n l v j))).set k true := by
            rw [tab_set _ _ _ hkt]
            refine tab_ext fun j _ => ?_
            by_cases hjk : j = k
            · subst hjk; simp [h3']
            · simp only [show (decide (j < k + 1)) = decide (j < k) by simp; omega, show (j == k) = false by simpa using hjk, Bool.or_false]
          simp only [e1, e2]
          try simp (disch := ((try simp only [List.length_set, List.length_replicate, List.length_append, List.length_cons, List.length_nil]); omega)) only [aW, aX, aV, aB, aN, aL, aP, aH]
          exact Cut.of' 4 rfl (by omega) (by simp (disch := first | omega | simp (disch := omega) only [aF, aL, aN]) only [aW, aX, aV, aB, aN, aL, aP, aH, aF, Int.natCast_add, Int.natCast_mul, Int.add_sub_cancel, List.length_nil, Int.cast_ofNat_Int, and_true, true_and]) (by simp (disch := first | omega | simp (disch := omega) only [aF, aL, aN]) only [aW, aX, aV, aB, aN, aL, aP, aH, aF, Int.natCast_add, Int.natCast_mul, Int.add_sub_cancel, List.length_nil, Int.cast_ofNat_Int, and_true, true_and])
        · have h3' : both n l v k = false := h3
          simp (disch := ((try simp only [List.length_set, List.length_replicate, List.length_append, List.length_cons, List.length_nil]); omega)) only [aW, aX, aV, aB, aN, aL, aP, aH]
          refine ⟨(k + 1, vk), by simp only; omega, by simp only; omega, ?_⟩
          have e1 : memb n l v 0 (k + 1) = memb n l v 0 k := by rw [memb_succ, if_neg (by simp [h3'])]
          have e2 : tab n.toNat (fun j => (gst n l v).1 j || (decide (j < k + 1) && both n l v j)) = tab n.toNat (fun j => (gst n l v).1 j || (decide (j < k) && both n l v j)) := by
            refine tab_ext fun j _ => ?_
            by_cases hjk : j = k
            · subst hjk; simp [h3']
            · simp only [show (decide (j < k + 1)) = decide (j < k) by simp; omega]
          simp only [e1, e2]
          try simp (disch := ((try simp only [List.length_set, List.length_replicate, List.length_append, List.length_cons, List.length_nil]); omega)) only [aW, aX, aV, aB, aN, aL, aP, aH]
          exact Cut.of' 4 rfl (by omega) (by simp (disch := first | omega | simp (disch := omega) only [aF, aL, aN]) only [aW, aX, aV, aB, aN, aL, aP, aH, aF, Int.natCast_add, Int.natCast_mul, Int.add_sub_cancel, List.length_nil, Int.cast_ofNat_Int, and_true, true_and]) (by simp (disch := first | omega | simp (disch := omega) only [aF, aL, aN]) only [aW, aX, aV, aB, aN, aL, aP, aH, aF, Int.natCast_add, Int.natCast_mul, Int.add_sub_cancel, List.length_nil, Int.cast_ofNat_Int, and_true, true_and])
      · have hkn : k = n.toNat := by omega
        subst hkn
        simp (disch := ((try simp only [List.length_set, List.length_replicate, List.length_append, List.length_cons, List.length_nil]); omega)) only [aW, aX, aV, aB, aN, aL, aP, aH]
        refine ⟨(v + 1, ver + 1), by simp only; omega, by simp only; omega, ?_⟩
        have e1 : gst n l (v + 1) = (fun j => (gst n l v).1 j || both n l v j, (gst n l v).2 ++ [memb n l v 0 n.toNat]) := by simp [gst, hd]
        have e2 : tab n.toNat (fun j => (gst n l v).1 j || both n l v j) = tab n.toNat (fun j => (gst n l v).1 j || (decide (j < n.toNat) && both n l v j)) := tab_ext fun j hj => by simp [hj]
        simp only [e1, e2]
        try simp (disch := ((try simp only [List.length_set, List.length_replicate, List.length_append, List.length_cons, List.length_nil]); omega)) only [aW, aX, aV, aB, aN, aL, aP, aH]
        have z : ∀ H : List Blk, blkAt H 3 vk = some (ints (memb n l v 0 n.toNat)) → FzL 3 H (rows true (gst n l v).2 ++ [.vs 3 vk 1 (memb n l v 0 n.toNat).length]) (rows true ((gst n l v).2 ++ [memb n l v 0 n.toNat])) := fun H hH => by
          rw [← r_app1]; exact FzL.app (FzL.refl (r_bd _ _ _)) ⟨fz_vsI _ _ _ _ _ _ (by omega) rfl hH, trivial⟩
        refine Cut.of' 3 rfl (by omega) ⟨rfl, by simp (disch := first | omega | simp (disch := omega) only [aF, aL, aN]) only [aW, aX, aV, aB, aN, aL, aP, aH, aF, Int.natCast_add, Int.natCast_mul, Int.add_sub_cancel, List.length_nil, Int.cast_ofNat_Int, and_true, true_and], rfl, by simp (disch := first | omega | simp (disch := omega) only [aF, aL, aN]) only [aW, aX, aV, aB, aN, aL, aP, aH, aF, Int.natCast_add, Int.natCast_mul, Int.add_sub_cancel, List.length_nil, Int.cast_ofNat_Int, and_true, true_and], rfl, z _ (by simp (disch := ((try simp only [List.length_set, List.length_replicate, List.length_append, List.length_cons, List.length_nil]); omega)) only [aW, aX, aV, aB, aN, aL, aP, aH]), trivial⟩ (by simp (disch := first | omega | simp (disch := omega) only [aF, aL, aN]) only [aW, aX, aV, aB, aN, aL, aP, aH, aF, Int.natCast_add, Int.natCast_mul, Int.add_sub_cancel, List.length_nil, Int.cast_ofNat_Int, and_true, true_and])
  · have hvn : v = n.toNat := by omega
    subst hvn
    simp (disch := ((try simp only [List.length_set, List.length_replicate, List.length_append, List.length_cons, List.length_nil]); omega)) only [aW, aX, aV, aB, aN, aL, aP, aH, r_graph_Groups]
    refine post0 (r := .tup [.fs true (rows true (gst n l n.toNat).2), .v (.int .i64 0)]) (Fz.tup ⟨fz_vsR _ _ _ _ _ _ (by omega) rfl (by simp (disch := ((try simp only [List.length_set, List.length_replicate, List.length_append, List.length_cons, List.length_nil]); omega)) only [aW, aX, aV, aB, aN, aL, aP, aH]), Fz.refl rfl, trivial⟩) ⟨?_, rfl⟩
    unfold groupsR; rw [if_neg (by simp [h1])]
/-! ### What stands for a group -/
def reps (n : Int) (l : Arcs) : Nat → List Nat
  | 0 => []
  | v + 1 => if (gst n l v).1 v then reps n l v else reps n l v ++ [v]
theorem gst_reps (n : Int) (l : Arcs) : ∀ v, (gst n l v).2 = (reps n l v).map fun r => memb n l r 0 n.toNat
  | 0 => rfl
  | v + 1 => by
    simp only [gst, reps]
    split
    · exact gst_reps n l v
    · simp only [gst_reps n l v, List.map_append, List.map_cons, List.map_nil]
theorem reps_lt (n : Int) (l : Arcs) : ∀ v, ∀ r ∈ reps n l v, r < v
  | 0, r, h => by simp [reps] at h
  | v + 1, r, h => by
    simp only [reps] at h
    split at h
    · have := reps_lt n l v r h; omega
    · simp only [List.mem_append, List.mem_singleton] at h
      rcases h with h | rfl
      · have := reps_lt n l v r h; omega
      · omega
theorem b_refl {n : Int} {l : Arcs} (hr : inR n l) {u : Nat} (hu : u < n.toNat) : both n l u u = true := (both_iff hr hu hu).2 ⟨.refl _, .refl _⟩
theorem b_symm {n : Int} {l : Arcs} (hr : inR n l) {u v : Nat} (hu : u < n.toNat) (hv : v < n.toNat) (h : both n l u v = true) : both n l v u = true := by
  have := (both_iff hr hu hv).1 h
  exact (both_iff hr hv hu).2 ⟨this.2, this.1⟩
theorem b_trans {n : Int} {l : Arcs} (hr : inR n l) {u v w : Nat} (hu : u < n.toNat) (hv : v < n.toNat) (hw : w < n.toNat) (h : both n l u v = true) (k : both n l v w = true) : both n l u w = true := by
  have h1 := (both_iff hr hu hv).1 h
  have h2 := (both_iff hr hv hw).1 k
  exact (both_iff hr hu hw).2 ⟨h1.1.trans h2.1, h2.2.trans h1.2⟩
theorem reps_apart {n : Int} {l : Arcs} (hr : inR n l) : ∀ v, v ≤ n.toNat → (reps n l v).Pairwise fun a b => both n l a b = false
  | 0, _ => by simp [reps]
  | v + 1, hv => by
    simp only [reps]
    split
    · exact reps_apart hr v (by omega)
    · rename_i hd
      rw [List.pairwise_append]
      refine ⟨reps_apart hr v (by omega), by simp, fun a ha b hb => ?_⟩
      simp only [List.mem_singleton] at hb
      subst hb
      rw [← Bool.not_eq_true]; intro hc
      exact hd ((gst_done hr b (by omega) b (by omega)).2 ⟨a, reps_lt n l b a ha, hc⟩)
theorem reps_cover {n : Int} {l : Arcs} (hr : inR n l) : ∀ v, v ≤ n.toNat → ∀ u, u < v → ∃ r ∈ reps n l v, both n l r u = true
  | 0, _, u, hu => by omega
  | v + 1, hv, u, hu => by
    have ih := reps_cover hr v (by omega)
    simp only [reps]
    by_cases huv : u < v
    · obtain ⟨r, h1, h2⟩ := ih u huv
      refine ⟨r, ?_, h2⟩
      split
      · exact h1
      · exact List.mem_append.2 (.inl h1)
    · have : u = v := by omega
      subst this
      split
      · rename_i hd
        obtain ⟨x, h1, h2⟩ := (gst_done hr u (by omega) u (by omega)).1 hd
        obtain ⟨r, h3, h4⟩ := ih x h1
        have := reps_lt n l u r h3
        exact ⟨r, h3, b_trans hr (by omega) (by omega) (by omega) h4 h2⟩
      · exact ⟨u, by simp, b_refl hr (by omega)⟩
theorem memb_mem {n : Int} {l : Arcs} {r b : Nat} {x : Int} : x ∈ memb n l r 0 b ↔ 0 ≤ x ∧ x < b ∧ both n l r x.toNat = true := by
  unfold memb
  simp only [List.mem_map, List.mem_filter, List.mem_range, Bool.and_eq_true, decide_eq_true_eq]
  constructor
  · rintro ⟨a, ⟨h1, _, h2⟩, rfl⟩
    refine ⟨Int.natCast_nonneg a, ?_, h2⟩
    show (a : Int) < b
    omega
  · rintro ⟨h1, h2, h3⟩
    exact ⟨x.toNat, ⟨by omega, by omega, h3⟩, Int.toNat_of_nonneg h1⟩
theorem memb_lt (n : Int) (l : Arcs) (r a b : Nat) : (memb n l r a b).Pairwise (· < ·) := by
  unfold memb
  refine List.Pairwise.map (R := (· < ·)) _ (fun a b h => ?_) (List.pairwise_lt_range.filter _)
  show (a : Int) < b
  omega

end Go.Proofs.Ytfnghkmchlfooaa
namespace Go.Proofs.Ytfnghkmchlfooaa
open Go Go.Lft
set_option linter.unusedSimpArgs false
set_option linter.unusedVariables false
attribute [local congr] ob_congr bw_congr ib_congr ck_congr iwA_congr itA_congr aw_congr awp_congr sqA_congr bkA_congr vr_congr gd_congr

def arcsR (p : Pl) : Arcs := p.bs.map fun b => (b.fr, b.to)
theorem arcsR_len (p : Pl) : (arcsR p).length = p.bs.length := by simp [arcsR]
theorem arcsR_get (p : Pl) (k : Nat) (h : k < p.bs.length) : (arcsR p).getD k (0, 0) = ((p.bs.getD k b0).fr, (p.bs.getD k b0).to) := by
  simp [arcsR, List.getD_eq_getElem?_getD, h]
def pgraph (p : Pl) : (Int × Arcs) × Int := if pcheck p ≠ 0 then ((0, []), pcheck p) else ((p.ms.length, arcsR p), 0)
theorem pgraph_err {p : Pl} (h : pcheck p ≠ 0) : pgraph p = ((0, []), pcheck p) := by unfold pgraph; rw [if_pos h]
theorem pgraph_ok {p : Pl} (h : pcheck p = 0) : pgraph p = (((p.ms.length : Int), arcsR p), 0) := by unfold pgraph; rw [if_neg (by omega)]
def graphT (g : (Int × Arcs) × Int) : A := .tup [graphA true g.1.1 g.1.2, .v (.int .i64 g.2)]

theorem layoutGraph_vr {w v : Bool} (p : Pl) : VR P false n_layout_Graph [plA w v p] [] (isR (graphT (pgraph p))) := by
  refine vr_layout_Graph (by simp) (.inr rfl) fun _ _ => ?_
  unfold plA plC
  simp (disch := ((try simp only [List.length_set, List.length_replicate, List.length_append, List.length_cons, List.length_nil]); omega)) only [aW, aX, aV, aB, aN, aL, aP, aH, aM, s_layout_Graph, v_layout_Graph]
  refine (layoutCheck_vr (w := w) (v := v) p).same (by unfold plA plC; simp (disch := first | omega | simp (disch := omega) only [aF, aL, aN, aM]) only [aW, aX, aV, aB, aN, aL, aP, aH, aM, aF, Int.natCast_add, Int.natCast_mul, Int.add_sub_cancel, List.length_nil, Int.cast_ofNat_Int, and_true, true_and]) rfl (aret_of ?_)
  simp (disch := ((try simp only [List.length_set, List.length_replicate, List.length_append, List.length_cons, List.length_nil]); omega)) only [aW, aX, aV, aB, aN, aL, aP, aH, aM]
  refine ib_intro (fun h1 => ?_) (fun h1 => ?_)
  · rw [pgraph_err h1]
    simp (disch := ((try simp only [List.length_set, List.length_replicate, List.length_append, List.length_cons, List.length_nil]); omega)) only [aW, aX, aV, aB, aN, aL, aP, aH, aM, r_layout_Graph]
    exact post0 (r := graphT ((0, []), pcheck p)) (Fz.tup ⟨Fz.agg ⟨Fz.refl rfl, fz_nil _ _, trivial⟩, Fz.refl rfl, trivial⟩) ⟨rfl, rfl⟩
  have h1 := Classical.not_not.1 h1
  have ok := pcheck_ok h1
  have hb2 := ok.b2
  rw [pgraph_ok h1]
  simp (disch := ((try simp only [List.length_set, List.length_replicate, List.length_append, List.length_cons, List.length_nil]); omega)) only [aW, aX, aV, aB, aN, aL, aP, aH, aM]
  refine AWP.cut (Cut.virtB 2 0 1 2 rfl rfl) ?_
  refine AWP.loopP (α := Nat × Nat) g_layout_Graph_0 (fun q => q.1 ≤ p.bs.length) (fun q => [(5, .v (.int .i64 q.1))]) (fun q => [(2, ⟨0, [.v (.int .i64 p.ms.length), .vs 3 q.2 2 q.1]⟩), (3, ⟨q.2, pcells ((arcsR p).take q.1)⟩)]) (fun q => p.bs.length - q.1) (0, 0) (by simp) ?_ ?_
  · simp (disch := ((try simp only [List.length_set, List.length_replicate, List.length_append, List.length_cons, List.length_nil]); omega)) only [aW, aX, aV, aB, aN, aL, aP, aH, aM]
    exact Cut.of' 4 rfl (by omega) (by simp (disch := first | omega | simp (disch := omega) only [aF, aL, aN, aM]) only [aW, aX, aV, aB, aN, aL, aP, aH, aM, aF, Int.natCast_add, Int.natCast_mul, Int.add_sub_cancel, List.length_nil, Int.cast_ofNat_Int, and_true, true_and, pc_nil, List.take_zero]) (by simp (disch := first | omega | simp (disch := omega) only [aF, aL, aN, aM]) only [aW, aX, aV, aB, aN, aL, aP, aH, aM, aF, Int.natCast_add, Int.natCast_mul, Int.add_sub_cancel, List.length_nil, Int.cast_ofNat_Int, and_true, true_and])
  rintro ⟨k, ver⟩ hk
  simp only at hk
  have hal := arcsR_len p
  have hbk : ((arcsR p).take k).length = k := by simp; omega
  by_cases hlt : k < p.bs.length
  · have hg := arcsR_get p k hlt
    simp (disch := ((try simp only [List.length_set, List.length_replicate, List.length_append, List.length_cons, List.length_nil]); omega)) only [aW, aX, aV, aB, aN, aL, aP, aH, aM]
    refine ⟨(k + 1, ver + 1), by simp only; omega, by simp only; omega, ?_⟩
    rw [take_succ_get (arcsR p) k (0, 0) (by omega), hg]
    simp (disch := ((try simp only [List.length_set, List.length_replicate, List.length_append, List.length_cons, List.length_nil]); omega)) only [aW, aX, aV, aB, aN, aL, aP, aH, aM]
    have e1 : List.take k (List.take k (arcsR p)) = List.take k (arcsR p) := by rw [List.take_take, Nat.min_self]
    exact Cut.of' 4 rfl (by omega) (by simp (disch := first | omega | simp (disch := omega) only [aF, aL, aN, aM]) only [aW, aX, aV, aB, aN, aL, aP, aH, aM, aF, Int.natCast_add, Int.natCast_mul, Int.add_sub_cancel, List.length_nil, Int.cast_ofNat_Int, and_true, true_and, e1]) (by simp (disch := first | omega | simp (disch := omega) only [aF, aL, aN, aM]) only [aW, aX, aV, aB, aN, aL, aP, aH, aM, aF, Int.natCast_add, Int.natCast_mul, Int.add_sub_cancel, List.length_nil, Int.cast_ofNat_Int, and_true, true_and])
  · have hkl : k = p.bs.length := by omega
    subst hkl
    have e1 : (arcsR p).take p.bs.length = arcsR p := List.take_of_length_le (by omega)
    simp (disch := ((try simp only [List.length_set, List.length_replicate, List.length_append, List.length_cons, List.length_nil]); omega)) only [aW, aX, aV, aB, aN, aL, aP, aH, aM, r_layout_Graph]
    refine post0 (r := graphT (((p.ms.length : Int), arcsR p), 0)) (Fz.tup ⟨Fz.agg ⟨Fz.refl rfl, ?_, trivial⟩, Fz.refl rfl, trivial⟩) ⟨rfl, rfl⟩
    exact fz_vsP 0 _ 3 ver p.bs.length (arcsR p) (by omega) hal.symm (by simp [blkAt, e1])

end Go.Proofs.Ytfnghkmchlfooaa
namespace Go.Proofs.Ytfnghkmchlfooaa
open Go Go.Lft
set_option linter.unusedSimpArgs false
set_option linter.unusedVariables false
attribute [local congr] ob_congr bw_congr ib_congr ck_congr iwA_congr itA_congr aw_congr awp_congr sqA_congr bkA_congr vr_congr gd_congr

end Go.Proofs.Ytfnghkmchlfooaa
namespace Go.Proofs.Ytfnghkmchlfooaa
open Go Go.Lft
set_option linter.unusedSimpArgs false
set_option linter.unusedVariables false
attribute [local congr] ob_congr bw_congr ib_congr ck_congr iwA_congr itA_congr aw_congr awp_congr sqA_congr bkA_congr vr_congr gd_congr

end Go.Proofs.Ytfnghkmchlfooaa
namespace Go.Proofs.Ytfnghkmchlfooaa
open Go Go.Lft
set_option linter.unusedSimpArgs false
set_option linter.unusedVariables false
attribute [local congr] ob_congr bw_congr ib_congr ck_congr iwA_congr itA_congr aw_congr awp_congr sqA_congr bkA_congr vr_congr gd_congr

theorem idxE_mem {α : Type} {p : α → Prop} [DecidablePred p] {l : List α} : 0 ≤ idxE p l ↔ ∃ x ∈ l, p x := by
  constructor
  · intro h
    have h1 := idxE_ge p l
    cases l with
    | nil => simp [idxE] at h
    | cons d r => exact ⟨_, mem_get d (by omega), idxE_at (p := p) d h⟩
  · rintro ⟨x, h1, h2⟩
    apply Classical.byContradiction; intro hc
    exact idxE_neg (p := p) (l := l) (by omega) x h1 h2
/-- The group is no loop. -/
def delG (l : Arcs) (r : List Int) : Prop := r.length = 1 ∧ ¬ (r.getD 0 0, r.getD 0 0) ∈ l
instance (l : Arcs) : DecidablePred (delG l) := fun r => by unfold delG; infer_instance

end Go.Proofs.Ytfnghkmchlfooaa
