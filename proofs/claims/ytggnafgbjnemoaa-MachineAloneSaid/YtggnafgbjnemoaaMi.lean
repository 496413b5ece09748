/- The walk of MachineAlone. -/
import Derived.Test.YtggnafgbjnemoaaMh
namespace Go.Proofs.Ytggnafgbjnemoaa
open Go Go.Lft
set_option linter.unusedSimpArgs false
set_option linter.unusedVariables false
attribute [local congr] ob_congr bw_congr ib_congr ck_congr iwA_congr itA_congr aw_congr awp_congr sqA_congr bkA_congr vr_congr gd_congr

theorem one_mcheck {m : Mc} {n : Int} (h : mcheck m n = 0) {i : Nat} (hi : i < m.length) : mcheck [m.getD i []] 1 = 0 := by
  have ok := mcheck_ok h
  have hr := (ok.row _ (mem_get [] hi)).1
  have h1 : firstE (rowE (outsN m)) m = 0 := by
    unfold mcheck at h
    split at h
    · cases h
    split at h
    · cases h
    exact h
  have h2 := firstE_all h1 _ (mem_get [] hi)
  have h3 : outsN [m.getD i []] = outsN m := hr
  unfold mcheck
  rw [if_neg (by omega), if_neg (by simp), h3]
  unfold firstE
  rw [if_neg (fun hc => hc h2)]; rfl
theorem one_divM (m : Mc) {i : Nat} (hi : i < m.length) (t : Int) : divM [m.getD i []] 0 t = divM m i t := by
  have h1 : mainN [m.getD i []] (0 : Nat) = mainN m i := by
    unfold mainN
    rw [if_neg (by simp), if_neg (by omega), Int.toNat_natCast, Int.toNat_natCast]; rfl
  unfold divM
  rw [h1]; rfl
theorem one_msE {m : Mc} {xs : List Int} (h : msE m xs = 0) {i : Nat} (hi : i < xs.length) : msE [m.getD i []] [xs.getD i 0] = 0 := by
  obtain ⟨ok, ho, hb⟩ := msE_zero h
  have h1 : mcheck m xs.length = 0 := by
    apply Classical.byContradiction; intro hc; unfold msE at h; rw [if_pos hc] at h; exact hc h
  have hl := ok.len
  have h2 := one_mcheck h1 (i := i) (by omega)
  have h3 : outsN [m.getD i []] = outsN m := (ok.row _ (mem_get [] (by omega))).1
  have := hb i hi
  unfold msE
  rw [if_neg (fun hc => hc h2), if_neg (fun hc => hc (by unfold firstE; rw [if_neg (fun hc => hc (badE_ok (by omega)))]; rfl)), if_neg (by omega)]
theorem one_at {m : Mc} {xs : List Int} (h : msE m xs = 0) {i o : Nat} (hi : i < xs.length) (ho : o < outsN m) : ((msM [m.getD i []] [xs.getD i 0]).getD o []).getD 0 0 = (divM m i (xs.getD i 0)).getD o 0 ∧ ((msM [m.getD i []] [xs.getD i 0]).getD o []).length = 1 := by
  obtain ⟨ok, ho', hb⟩ := msE_zero h
  have hl := ok.len
  have h3 : outsN [m.getD i []] = outsN m := (ok.row _ (mem_get [] (by omega))).1
  refine ⟨?_, msM_rl _ _ (by omega)⟩
  rw [msM_at _ _ (by omega) (by simp)]
  rw [one_divM m (by omega)]; rfl
theorem drop_one {α : Type} (d : α) : ∀ (l : List α) (i : Nat), i < l.length → (l.take (i + 1)).drop i = [l.getD i d]
  | [], i, h => by simp at h
  | a :: l, 0, _ => by simp
  | a :: l, i + 1, h => by
    have := drop_one d l i (by simpa using h)
    simpa using this

theorem machineAlone_vr (m : Mc) (xs : List Int) (hx : xs.length ≤ maxLen) (hf : ∀ x ∈ xs, fit x) : VR P false n_law33_MachineAlone [mcA true m, .fs true (ints xs)] [] (isR (.v (.bool true))) := by
  refine vr_law33_MachineAlone (by simp) (.inr rfl) fun _ _ => ?_
  unfold mcA mcC
  simp (disch := ((try simp only [List.length_set, List.length_replicate, List.length_append, List.length_cons, List.length_nil]); omega)) only [aW, aX, aV, aB, aN, aL, aP, aH, aM, s_law33_MachineAlone, v_law33_MachineAlone]
  refine (light_vr (w := true) m).useE (LdL.refl (by simp (disch := first | omega | simp (disch := omega) only [aF, aL, aN, aM]) only [aW, aX, aV, aB, aN, aL, aP, aH, aM, aF, Int.natCast_add, Int.natCast_mul, Int.add_sub_cancel, List.length_nil, Int.cast_ofNat_Int, and_true, true_and])) light_c ?_
  rintro r ⟨_, b, rfl, hb⟩
  refine aret_of ?_
  by_cases hg : b = false ∨ 100 < xs.length
  · rcases hg with rfl | hl
    · simp (disch := ((try simp only [List.length_set, List.length_replicate, List.length_append, List.length_cons, List.length_nil]); omega)) only [aW, aX, aV, aB, aN, aL, aP, aH, aM]
      refine awake33_vr.same (by simp (disch := first | omega | simp (disch := omega) only [aF, aL, aN, aM]) only [aW, aX, aV, aB, aN, aL, aP, aH, aM, aF, Int.natCast_add, Int.natCast_mul, Int.add_sub_cancel, List.length_nil, Int.cast_ofNat_Int, and_true, true_and]) rfl (aret_of ?_)
      simp (disch := ((try simp only [List.length_set, List.length_replicate, List.length_append, List.length_cons, List.length_nil]); omega)) only [aW, aX, aV, aB, aN, aL, aP, aH, aM, r_law33_MachineAlone]
      exact post_v ⟨rfl, rfl⟩
    · cases b <;> simp (disch := ((try simp only [List.length_set, List.length_replicate, List.length_append, List.length_cons, List.length_nil]); omega)) only [aW, aX, aV, aB, aN, aL, aP, aH, aM]
      all_goals
        refine awake33_vr.same (by simp (disch := first | omega | simp (disch := omega) only [aF, aL, aN, aM]) only [aW, aX, aV, aB, aN, aL, aP, aH, aM, aF, Int.natCast_add, Int.natCast_mul, Int.add_sub_cancel, List.length_nil, Int.cast_ofNat_Int, and_true, true_and]) rfl (aret_of ?_)
        simp (disch := ((try simp only [List.length_set, List.length_replicate, List.length_append, List.length_cons, List.length_nil]); omega)) only [aW, aX, aV, aB, aN, aL, aP, aH, aM, r_law33_MachineAlone]
        exact post_v ⟨rfl, rfl⟩
  obtain rfl : b = true := by cases b with
    | true => rfl
    | false => exact (hg (.inl rfl)).elim
  simp (disch := ((try simp only [List.length_set, List.length_replicate, List.length_append, List.length_cons, List.length_nil]); omega)) only [aW, aX, aV, aB, aN, aL, aP, aH, aM]
  refine (machineSplit_vr (w := true) (v := true) m xs).same (by unfold mcA mcC; simp (disch := first | omega | simp (disch := omega) only [aF, aL, aN, aM]) only [aW, aX, aV, aB, aN, aL, aP, aH, aM, aF, Int.natCast_add, Int.natCast_mul, Int.add_sub_cancel, List.length_nil, Int.cast_ofNat_Int, and_true, true_and]) (splitA_bd m xs) (aret_of ?_)
  by_cases he : msE m xs = 0
  case neg =>
    rw [splitA_bad he]
    simp (disch := ((try simp only [List.length_set, List.length_replicate, List.length_append, List.length_cons, List.length_nil]); omega)) only [aW, aX, aV, aB, aN, aL, aP, aH, aM]
    refine awake33_vr.same (by simp (disch := first | omega | simp (disch := omega) only [aF, aL, aN, aM]) only [aW, aX, aV, aB, aN, aL, aP, aH, aM, aF, Int.natCast_add, Int.natCast_mul, Int.add_sub_cancel, List.length_nil, Int.cast_ofNat_Int, and_true, true_and]) rfl (aret_of ?_)
    simp (disch := ((try simp only [List.length_set, List.length_replicate, List.length_append, List.length_cons, List.length_nil]); omega)) only [aW, aX, aV, aB, aN, aL, aP, aH, aM, r_law33_MachineAlone]
    exact post_v ⟨rfl, rfl⟩
  obtain ⟨ok, ho, hbd⟩ := msE_zero he
  have hlen := ok.len
  have hm1 := ok.m1
  have hm2 := ok.m2
  have hml := msM_len m xs
  have ho4 : outsN m ≤ 4 := by
    have := (row_split ok ho (k := 0) (by omega) (t := 0) (by omega)).2.2.2.1; exact this
  rw [splitA_ok he]
  simp (disch := ((try simp only [List.length_set, List.length_replicate, List.length_append, List.length_cons, List.length_nil]); omega)) only [aW, aX, aV, aB, aN, aL, aP, aH, aM]
  refine AWP.loopP g_law33_MachineAlone_0 (fun i : Nat => i ≤ xs.length) (fun i => [(6, .v (.int .i64 i))]) (fun _ => []) (fun i => xs.length - i) 0 (by omega) ?_ ?_
  · exact Cut.of' 1 rfl (by omega) (by simp (disch := first | omega | simp (disch := omega) only [aF, aL, aN, aM]) only [aW, aX, aV, aB, aN, aL, aP, aH, aM, aF, Int.natCast_add, Int.natCast_mul, Int.add_sub_cancel, List.length_nil, Int.cast_ofNat_Int, and_true, true_and]) (by simp (disch := first | omega | simp (disch := omega) only [aF, aL, aN, aM]) only [aW, aX, aV, aB, aN, aL, aP, aH, aM, aF, Int.natCast_add, Int.natCast_mul, Int.add_sub_cancel, List.length_nil, Int.cast_ofNat_Int, and_true, true_and])
  rintro i hi
  by_cases hlt : i < xs.length
  · have hbi := hbd i hlt
    have hat := fun o ho => msM_at m xs (o := o) (i := i) ho hlt
    have hrl := fun o ho => msM_rl m xs (o := o) ho
    have hone := fun o ho => one_at he (o := o) hlt ho
    have h3 : outsN [m.getD i []] = outsN m := (ok.row _ (mem_get [] (by omega))).1
    have h4 := msM_len [m.getD i []] [xs.getD i 0]
    have d1 := drop_one [] m i (by omega)
    have d2 := drop_one 0 xs i hlt
    have hs := machineSplit_vr (w := true) (v := true) [m.getD i []] [xs.getD i 0]
    have hsb := splitA_bd [m.getD i []] [xs.getD i 0]
    rw [splitA_ok (one_msE he hlt)] at hs hsb
    have z : ((i : Int) + 1).toNat = i + 1 := by omega
    simp (disch := ((try simp only [List.length_set, List.length_replicate, List.length_append, List.length_cons, List.length_nil]); omega)) only [aW, aX, aV, aB, aN, aL, aP, aH, aM, z, d1, d2]
    refine hs.same (by unfold mcA mcC; simp (disch := first | omega | simp (disch := omega) only [aF, aL, aN, aM]) only [aW, aX, aV, aB, aN, aL, aP, aH, aM, aF, Int.natCast_add, Int.natCast_mul, Int.add_sub_cancel, List.length_nil, Int.cast_ofNat_Int, and_true, true_and]) hsb (aret_of ?_)
    simp (disch := ((try simp only [List.length_set, List.length_replicate, List.length_append, List.length_cons, List.length_nil]); omega)) only [aW, aX, aV, aB, aN, aL, aP, aH, aM]
    refine AWP.loopP g_law33_MachineAlone_1 (fun o : Nat => o ≤ outsN m) (fun o => [(9, .v (.int .i64 o))]) (fun _ => []) (fun o => outsN m - o) 0 (by omega) ?_ ?_
    · exact Cut.of' 1 rfl (by omega) (by simp (disch := first | omega | simp (disch := omega) only [aF, aL, aN, aM]) only [aW, aX, aV, aB, aN, aL, aP, aH, aM, aF, Int.natCast_add, Int.natCast_mul, Int.add_sub_cancel, List.length_nil, Int.cast_ofNat_Int, and_true, true_and]) (by simp (disch := first | omega | simp (disch := omega) only [aF, aL, aN, aM]) only [aW, aX, aV, aB, aN, aL, aP, aH, aM, aF, Int.natCast_add, Int.natCast_mul, Int.add_sub_cancel, List.length_nil, Int.cast_ofNat_Int, and_true, true_and])
    rintro o ho2
    by_cases hlo : o < outsN m
    · have k1 := hat o hlo
      have k2 := hrl o hlo
      obtain ⟨k3, k4⟩ := hone o hlo
      simp (disch := ((try simp only [List.length_set, List.length_replicate, List.length_append, List.length_cons, List.length_nil]); omega)) only [aW, aX, aV, aB, aN, aL, aP, aH, aM, k1, k2, k3, k4]
      refine ⟨o + 1, by omega, by omega, ?_⟩
      exact Cut.of' 1 rfl (by omega) (by simp (disch := first | omega | simp (disch := omega) only [aF, aL, aN, aM]) only [aW, aX, aV, aB, aN, aL, aP, aH, aM, aF, Int.natCast_add, Int.natCast_mul, Int.add_sub_cancel, List.length_nil, Int.cast_ofNat_Int, and_true, true_and]) (by simp (disch := first | omega | simp (disch := omega) only [aF, aL, aN, aM]) only [aW, aX, aV, aB, aN, aL, aP, aH, aM, aF, Int.natCast_add, Int.natCast_mul, Int.add_sub_cancel, List.length_nil, Int.cast_ofNat_Int, and_true, true_and])
    · have hoe : o = outsN m := by omega
      subst hoe
      simp (disch := ((try simp only [List.length_set, List.length_replicate, List.length_append, List.length_cons, List.length_nil]); omega)) only [aW, aX, aV, aB, aN, aL, aP, aH, aM]
      refine ⟨i + 1, by omega, by omega, ?_⟩
      exact Cut.of' 1 rfl (by omega) (by simp (disch := first | omega | simp (disch := omega) only [aF, aL, aN, aM]) only [aW, aX, aV, aB, aN, aL, aP, aH, aM, aF, Int.natCast_add, Int.natCast_mul, Int.add_sub_cancel, List.length_nil, Int.cast_ofNat_Int, and_true, true_and]) (by simp (disch := first | omega | simp (disch := omega) only [aF, aL, aN, aM]) only [aW, aX, aV, aB, aN, aL, aP, aH, aM, aF, Int.natCast_add, Int.natCast_mul, Int.add_sub_cancel, List.length_nil, Int.cast_ofNat_Int, and_true, true_and])
  · have hie : i = xs.length := by omega
    subst hie
    simp (disch := ((try simp only [List.length_set, List.length_replicate, List.length_append, List.length_cons, List.length_nil]); omega)) only [aW, aX, aV, aB, aN, aL, aP, aH, aM]
    refine awake33_vr.same (by simp (disch := first | omega | simp (disch := omega) only [aF, aL, aN, aM]) only [aW, aX, aV, aB, aN, aL, aP, aH, aM, aF, Int.natCast_add, Int.natCast_mul, Int.add_sub_cancel, List.length_nil, Int.cast_ofNat_Int, and_true, true_and]) rfl (aret_of ?_)
    simp (disch := ((try simp only [List.length_set, List.length_replicate, List.length_append, List.length_cons, List.length_nil]); omega)) only [aW, aX, aV, aB, aN, aL, aP, aH, aM, r_law33_MachineAlone]
    exact post_v ⟨rfl, rfl⟩
end Go.Proofs.Ytggnafgbjnemoaa
