/- The walks of MachineConserves and MachineThousands. -/
import Derived.Test.YtggnafgbjnemoaaMf
import Derived.Test.YtggnafgbjnemoaaMg
namespace Go.Proofs.Ytggnafgbjnemoaa
open Go Go.Lft
set_option linter.unusedSimpArgs false
set_option linter.unusedVariables false
attribute [local congr] ob_congr bw_congr ib_congr ck_congr iwA_congr itA_congr aw_congr awp_congr sqA_congr bkA_congr vr_congr gd_congr

theorem msE_zero {m : Mc} {xs : List Int} (h : msE m xs = 0) : MOk m xs.length ∧ outsN m ≠ 0 ∧ ∀ i, i < xs.length → 0 ≤ xs.getD i 0 ∧ xs.getD i 0 ≤ 1073741824 := by
  unfold msE at h
  split at h
  · contradiction
  rename_i h1
  split at h
  · cases h
  rename_i h2
  split at h
  · cases h
  rename_i h3
  exact ⟨mcheck_ok (Classical.not_not.1 h1), h3, fun i hi => badE_zero (firstE_all (Classical.not_not.1 h2) _ (mem_getD hi))⟩
theorem msM_at (m : Mc) (xs : List Int) {o i : Nat} (ho : o < outsN m) (hi : i < xs.length) : ((msM m xs).getD o []).getD i 0 = (divM m i (xs.getD i 0)).getD o 0 := by
  unfold msM
  rw [mtx_get _ _ _ _ ho, mtx_row _ _ _ hi]
theorem msM_rl (m : Mc) (xs : List Int) {o : Nat} (ho : o < outsN m) : ((msM m xs).getD o []).length = xs.length := by
  unfold msM
  rw [mtx_get _ _ _ _ ho, mtx_rl]
theorem splitA_ok {m : Mc} {xs : List Int} (h : msE m xs = 0) : splitA m xs = .tup [.fs true (rows true (msM m xs)), .v (.int .i64 0)] := by unfold splitA; rw [if_neg (by omega), h]
theorem splitA_bad {m : Mc} {xs : List Int} (h : msE m xs ≠ 0) : splitA m xs = .tup [.v (.slice none 0 0), .v (.int .i64 (msE m xs))] := by unfold splitA; rw [if_pos h]

/-- How far the search for the main output has come. -/
def FirstI (r : List Int) (j : Nat) (s : Int) : Prop := (s = -1 ∧ ∀ i, j ≤ i → i < r.length → ¬ 0 < r.getD i 0) ∨ (∃ f : Nat, s = f ∧ j ≤ f ∧ f < r.length ∧ 0 < r.getD f 0 ∧ ∀ i, j ≤ i → i < f → ¬ 0 < r.getD i 0)
theorem FirstI.hit {r : List Int} {j : Nat} {s : Int} (hj : j < r.length) (h : 0 < r.getD j 0) : FirstI r j j := .inr ⟨j, rfl, Nat.le_refl _, hj, h, by omega⟩
theorem FirstI.miss {r : List Int} {j : Nat} {s : Int} (hi : FirstI r (j + 1) s) (h : ¬ 0 < r.getD j 0) : FirstI r j s := by
  rcases hi with ⟨h1, h2⟩ | ⟨f, h1, h2, h3, h4, h5⟩
  · refine .inl ⟨h1, fun i h3 h4 => ?_⟩
    by_cases h5 : i = j
    · subst h5; exact h
    · exact h2 i (by omega) h4
  · refine .inr ⟨f, h1, by omega, h3, h4, fun i h6 h7 => ?_⟩
    by_cases h8 : i = j
    · subst h8; exact h
    · exact h5 i (by omega) h7
theorem FirstI.done {r : List Int} {s : Int} (h : FirstI r 0 s) : s = idxE (fun r : Int => 0 < r) r := by
  rcases h with ⟨h1, h2⟩ | ⟨f, h1, h2, h3, h4, h5⟩
  · rw [h1]
    have h3 := idxE_ge (fun r : Int => 0 < r) r
    apply Classical.byContradiction; intro hc
    have h4 := idxE_at (p := fun r : Int => 0 < r) (l := r) 0 (by omega)
    exact h2 _ (by omega) (by omega) h4
  · rw [h1]
    exact (idxE_hit (p := fun r : Int => 0 < r) 0 h3 (fun i hi => h5 i (by omega) hi) h4).symm

theorem machineConserves_vr (m : Mc) (xs : List Int) (hx : xs.length ≤ maxLen) (hf : ∀ x ∈ xs, fit x) : VR P false n_law33_MachineConserves [mcA true m, .fs true (ints xs)] [] (isR (.v (.bool true))) := by
  refine vr_law33_MachineConserves (by simp) (.inr rfl) fun _ _ => ?_
  unfold mcA mcC
  simp (disch := ((try simp only [List.length_set, List.length_replicate, List.length_append, List.length_cons, List.length_nil]); omega)) only [aW, aX, aV, aB, aN, aL, aP, aH, aM, s_law33_MachineConserves, v_law33_MachineConserves]
  refine (light_vr (w := true) m).useE (LdL.refl (by simp (disch := first | omega | simp (disch := omega) only [aF, aL, aN, aM]) only [aW, aX, aV, aB, aN, aL, aP, aH, aM, aF, Int.natCast_add, Int.natCast_mul, Int.add_sub_cancel, List.length_nil, Int.cast_ofNat_Int, and_true, true_and])) light_c ?_
  rintro r ⟨_, b, rfl, hb⟩
  refine aret_of ?_
  by_cases hg : b = false ∨ 100 < xs.length
  · rcases hg with rfl | hl
    · simp (disch := ((try simp only [List.length_set, List.length_replicate, List.length_append, List.length_cons, List.length_nil]); omega)) only [aW, aX, aV, aB, aN, aL, aP, aH, aM]
      refine awake33_vr.same (by simp (disch := first | omega | simp (disch := omega) only [aF, aL, aN, aM]) only [aW, aX, aV, aB, aN, aL, aP, aH, aM, aF, Int.natCast_add, Int.natCast_mul, Int.add_sub_cancel, List.length_nil, Int.cast_ofNat_Int, and_true, true_and]) rfl (aret_of ?_)
      simp (disch := ((try simp only [List.length_set, List.length_replicate, List.length_append, List.length_cons, List.length_nil]); omega)) only [aW, aX, aV, aB, aN, aL, aP, aH, aM, r_law33_MachineConserves]
      exact post_v ⟨rfl, rfl⟩
    · cases b <;> simp (disch := ((try simp only [List.length_set, List.length_replicate, List.length_append, List.length_cons, List.length_nil]); omega)) only [aW, aX, aV, aB, aN, aL, aP, aH, aM]
      all_goals
        refine awake33_vr.same (by simp (disch := first | omega | simp (disch := omega) only [aF, aL, aN, aM]) only [aW, aX, aV, aB, aN, aL, aP, aH, aM, aF, Int.natCast_add, Int.natCast_mul, Int.add_sub_cancel, List.length_nil, Int.cast_ofNat_Int, and_true, true_and]) rfl (aret_of ?_)
        simp (disch := ((try simp only [List.length_set, List.length_replicate, List.length_append, List.length_cons, List.length_nil]); omega)) only [aW, aX, aV, aB, aN, aL, aP, aH, aM, r_law33_MachineConserves]
        exact post_v ⟨rfl, rfl⟩
  obtain rfl : b = true := by cases b with
    | true => rfl
    | false => exact (hg (.inl rfl)).elim
  simp (disch := ((try simp only [List.length_set, List.length_replicate, List.length_append, List.length_cons, List.length_nil]); omega)) only [aW, aX, aV, aB, aN, aL, aP, aH, aM]
  refine (machineSplit_vr (w := true) (v := true) m xs).same (by unfold mcA mcC; simp (disch := first | omega | simp (disch := omega) only [aF, aL, aN, aM]) only [aW, aX, aV, aB, aN, aL, aP, aH, aM, aF, Int.natCast_add, Int.natCast_mul, Int.add_sub_cancel, List.length_nil, Int.cast_ofNat_Int, and_true, true_and]) (splitA_bd m xs) (aret_of ?_)
  by_cases he : msE m xs = 0
  case neg =>
    rw [splitA_bad he]
    simp (disch := ((try simp only [List.length_set, List.length_replicate, List.length_append, List.length_cons, List.length_nil]); omega)) only [aW, aX, aV, aB, aN, aL, aP, aH, aM]
    refine awake33_vr.same (by simp (disch := first | omega | simp (disch := omega) only [aF, aL, aN, aM]) only [aW, aX, aV, aB, aN, aL, aP, aH, aM, aF, Int.natCast_add, Int.natCast_mul, Int.add_sub_cancel, List.length_nil, Int.cast_ofNat_Int, and_true, true_and]) rfl (aret_of ?_)
    simp (disch := ((try simp only [List.length_set, List.length_replicate, List.length_append, List.length_cons, List.length_nil]); omega)) only [aW, aX, aV, aB, aN, aL, aP, aH, aM, r_law33_MachineConserves]
    exact post_v ⟨rfl, rfl⟩
  obtain ⟨ok, ho, hbd⟩ := msE_zero he
  have hlen := ok.len
  have hm1 := ok.m1
  have hm2 := ok.m2
  have h00 : (m.getD 0 []).length = outsN m := rfl
  have hml := msM_len m xs
  have ho4 : outsN m ≤ 4 := by
    have := (row_split ok ho (k := 0) (by omega) (t := 0) (by omega)).2.2.2.1; exact this
  rw [splitA_ok he]
  simp (disch := ((try simp only [List.length_set, List.length_replicate, List.length_append, List.length_cons, List.length_nil]); omega)) only [aW, aX, aV, aB, aN, aL, aP, aH, aM]
  refine AWP.loopP g_law33_MachineConserves_0 (fun i : Nat => i ≤ xs.length) (fun i => [(6, .v (.int .i64 i))]) (fun _ => []) (fun i => xs.length - i) 0 (by omega) ?_ ?_
  · exact Cut.of' 1 rfl (by omega) (by simp (disch := first | omega | simp (disch := omega) only [aF, aL, aN, aM]) only [aW, aX, aV, aB, aN, aL, aP, aH, aM, aF, Int.natCast_add, Int.natCast_mul, Int.add_sub_cancel, List.length_nil, Int.cast_ofNat_Int, and_true, true_and]) (by simp (disch := first | omega | simp (disch := omega) only [aF, aL, aN, aM]) only [aW, aX, aV, aB, aN, aL, aP, aH, aM, aF, Int.natCast_add, Int.natCast_mul, Int.add_sub_cancel, List.length_nil, Int.cast_ofNat_Int, and_true, true_and])
  rintro i hi
  by_cases hlt : i < xs.length
  · have hbi := hbd i hlt
    have d := divM_ok ok ho (k := i) (by omega) hbi
    obtain ⟨e1, e2, e3, e4, e5⟩ := row_split ok ho (k := i) (by omega) hbi
    obtain ⟨g1, g2, g3⟩ := mainN_ok ok ho (k := i) (by omega) (by omega)
    rw [Int.toNat_natCast] at g3
    have hmn : mainN m i = idxE (fun r : Int => 0 < r) (m.getD i []) := by
      unfold mainN; rw [if_neg (by omega), Int.toNat_natCast]
    have hat := fun o ho => msM_at m xs (o := o) (i := i) ho hlt
    have hrl := fun o ho => msM_rl m xs (o := o) ho
    have hrg := fun o => restN_ge (D := divM m i (xs.getD i 0)) (t := xs.getD i 0) (fun j hj => d.nn j (by rw [← d.len]; exact hj)) d.sum o
    have hle := fun o => restN_le (D := divM m i (xs.getD i 0)) (t := xs.getD i 0) (fun j hj => d.nn j (by rw [← d.len]; exact hj)) o
    have hrs := fun o ho => restN_succ (D := divM m i (xs.getD i 0)) (t := xs.getD i 0) (o := o) ho
    have hre := restN_end (D := divM m i (xs.getD i 0)) (t := xs.getD i 0) d.sum
    have hr0 := restN_zero (divM m i (xs.getD i 0)) (xs.getD i 0)
    obtain ⟨dlen, dsum, dnn, dzero, dfirst, dnear, _⟩ := d
    have hmb : ∀ o, o < outsN m → 0 ≤ xs.getD i 0 * (m.getD i []).getD o 0 ∧ xs.getD i 0 * (m.getD i []).getD o 0 ≤ 1073741824 * 1000 := fun o ho => by
      have := e5 o (by omega)
      exact ⟨Int.mul_nonneg hbi.1 this.1, Int.mul_le_mul hbi.2 this.2 this.1 (by omega)⟩
    obtain ⟨f, hf⟩ : ∃ f : Nat, mainN m i = f := ⟨(mainN m i).toNat, by omega⟩
    rw [hf, Int.toNat_natCast] at g3 dfirst dnear
    rw [hf] at g1 g2 hmn
    have hfl : f < outsN m := by omega
    generalize hD : divM m i (xs.getD i 0) = D at *
    simp (disch := ((try simp only [List.length_set, List.length_replicate, List.length_append, List.length_cons, List.length_nil]); omega)) only [aW, aX, aV, aB, aN, aL, aP, aH, aM]
    refine AWP.loopP (α := Nat × Int) g_law33_MachineConserves_1 (fun p => p.1 ≤ outsN m ∧ FirstI (m.getD i []) p.1 p.2) (fun p => [(7, .v (.int .i64 p.2)), (8, .v (.int .i64 ((p.1 : Int) - 1)))]) (fun _ => []) (fun p => p.1) (outsN m, -1) ⟨Nat.le_refl _, .inl ⟨rfl, fun j h1 h2 => by omega⟩⟩ ?_ ?_
    · exact Cut.of' 1 rfl (by omega) (by simp (disch := first | omega | simp (disch := omega) only [aF, aL, aN, aM]) only [aW, aX, aV, aB, aN, aL, aP, aH, aM, aF, Int.natCast_add, Int.natCast_mul, Int.add_sub_cancel, List.length_nil, Int.cast_ofNat_Int, and_true, true_and]) (by simp (disch := first | omega | simp (disch := omega) only [aF, aL, aN, aM]) only [aW, aX, aV, aB, aN, aL, aP, aH, aM, aF, Int.natCast_add, Int.natCast_mul, Int.add_sub_cancel, List.length_nil, Int.cast_ofNat_Int, and_true, true_and, hml])
    rintro ⟨j, s⟩ ⟨hj, hs⟩
    simp only at hj hs
    match j, hj, hs with
    | j + 1, hj, hs =>
      have z : (((j + 1 : Nat) : Int) - 1) = j := by omega
      simp only [z]
      simp (disch := ((try simp only [List.length_set, List.length_replicate, List.length_append, List.length_cons, List.length_nil]); omega)) only [aW, aX, aV, aB, aN, aL, aP, aH, aM]
      refine ib_intro (fun h1 => ?_) (fun h1 => ?_)
      · simp (disch := ((try simp only [List.length_set, List.length_replicate, List.length_append, List.length_cons, List.length_nil]); omega)) only [aW, aX, aV, aB, aN, aL, aP, aH, aM]
        refine ⟨(j, j), ⟨by simp only; omega, FirstI.hit (s := s) (by omega) h1⟩, by simp only; omega, ?_⟩
        exact Cut.of' 1 rfl (by omega) (by simp (disch := first | omega | simp (disch := omega) only [aF, aL, aN, aM]) only [aW, aX, aV, aB, aN, aL, aP, aH, aM, aF, Int.natCast_add, Int.natCast_mul, Int.add_sub_cancel, List.length_nil, Int.cast_ofNat_Int, and_true, true_and]) (by simp (disch := first | omega | simp (disch := omega) only [aF, aL, aN, aM]) only [aW, aX, aV, aB, aN, aL, aP, aH, aM, aF, Int.natCast_add, Int.natCast_mul, Int.add_sub_cancel, List.length_nil, Int.cast_ofNat_Int, and_true, true_and])
      · simp (disch := ((try simp only [List.length_set, List.length_replicate, List.length_append, List.length_cons, List.length_nil]); omega)) only [aW, aX, aV, aB, aN, aL, aP, aH, aM]
        refine ⟨(j, s), ⟨by simp only; omega, hs.miss h1⟩, by simp only; omega, ?_⟩
        exact Cut.of' 1 rfl (by omega) (by simp (disch := first | omega | simp (disch := omega) only [aF, aL, aN, aM]) only [aW, aX, aV, aB, aN, aL, aP, aH, aM, aF, Int.natCast_add, Int.natCast_mul, Int.add_sub_cancel, List.length_nil, Int.cast_ofNat_Int, and_true, true_and]) (by simp (disch := first | omega | simp (disch := omega) only [aF, aL, aN, aM]) only [aW, aX, aV, aB, aN, aL, aP, aH, aM, aF, Int.natCast_add, Int.natCast_mul, Int.add_sub_cancel, List.length_nil, Int.cast_ofNat_Int, and_true, true_and])
    | 0, hj, hs =>
    obtain rfl : s = (f : Int) := by rw [hs.done, ← hmn]
    have kf := hmb f hfl
    simp (disch := ((try simp only [List.length_set, List.length_replicate, List.length_append, List.length_cons, List.length_nil]); omega)) only [aW, aX, aV, aB, aN, aL, aP, aH, aM]
    refine ib_intro (fun h6 => ?_) (fun h6 => ?_)
    all_goals
      first | simp only [if_pos h6] at dnear | simp only [if_neg h6] at dnear
      simp (disch := ((try simp only [List.length_set, List.length_replicate, List.length_append, List.length_cons, List.length_nil]); omega)) only [aW, aX, aV, aB, aN, aL, aP, aH, aM]
      refine AWP.loopP g_law33_MachineConserves_2 (fun o : Nat => o ≤ outsN m) (fun o => [(10, .v (.int .i64 (restN D (xs.getD i 0) o))), (11, .v (.int .i64 o))]) (fun _ => []) (fun o => outsN m - o) 0 (by omega) ?_ ?_
      · rw [hr0]
        exact Cut.of' 1 rfl (by omega) (by simp (disch := first | omega | simp (disch := omega) only [aF, aL, aN, aM]) only [aW, aX, aV, aB, aN, aL, aP, aH, aM, aF, Int.natCast_add, Int.natCast_mul, Int.add_sub_cancel, List.length_nil, Int.cast_ofNat_Int, and_true, true_and]) (by simp (disch := first | omega | simp (disch := omega) only [aF, aL, aN, aM]) only [aW, aX, aV, aB, aN, aL, aP, aH, aM, aF, Int.natCast_add, Int.natCast_mul, Int.add_sub_cancel, List.length_nil, Int.cast_ofNat_Int, and_true, true_and])
      rintro o ho2
      by_cases hlo : o < outsN m
      · have k1 := hat o hlo
        have k2 := hrl o hlo
        have k3 := hmb o hlo
        have k4 := dnear o (by omega)
        have k5 := dnn o (by omega)
        have k6 := hrs o (by omega)
        have k7 := hrg (o + 1)
        have k8 := dzero o (by omega)
        have k9 := hrg o
        have k10 := hle o
        simp (disch := ((try simp only [List.length_set, List.length_replicate, List.length_append, List.length_cons, List.length_nil]); omega)) only [aW, aX, aV, aB, aN, aL, aP, aH, aM, k1, k2]
        refine ⟨o + 1, by omega, by omega, ?_⟩
        rw [k6]
        exact Cut.of' 1 rfl (by omega) (by simp (disch := first | omega | simp (disch := omega) only [aF, aL, aN, aM]) only [aW, aX, aV, aB, aN, aL, aP, aH, aM, aF, Int.natCast_add, Int.natCast_mul, Int.add_sub_cancel, List.length_nil, Int.cast_ofNat_Int, and_true, true_and]) (by simp (disch := first | omega | simp (disch := omega) only [aF, aL, aN, aM]) only [aW, aX, aV, aB, aN, aL, aP, aH, aM, aF, Int.natCast_add, Int.natCast_mul, Int.add_sub_cancel, List.length_nil, Int.cast_ofNat_Int, and_true, true_and])
      · have hoe : o = outsN m := by omega
        subst hoe
        have k1 := hat f hfl
        have k0 := hrl f hfl
        have k2 : restN D (xs.getD i 0) (outsN m) = 0 := by
          have e : D.length = outsN m := by omega
          rw [← e]; exact hre
        by_cases hp : 0 < xs.getD i 0
        all_goals
          try have k3 := dfirst hp
          simp (disch := ((try simp only [List.length_set, List.length_replicate, List.length_append, List.length_cons, List.length_nil]); omega)) only [aW, aX, aV, aB, aN, aL, aP, aH, aM, k1, k2]
          refine ⟨i + 1, by omega, by omega, ?_⟩
          exact Cut.of' 1 rfl (by omega) (by simp (disch := first | omega | simp (disch := omega) only [aF, aL, aN, aM]) only [aW, aX, aV, aB, aN, aL, aP, aH, aM, aF, Int.natCast_add, Int.natCast_mul, Int.add_sub_cancel, List.length_nil, Int.cast_ofNat_Int, and_true, true_and]) (by simp (disch := first | omega | simp (disch := omega) only [aF, aL, aN, aM]) only [aW, aX, aV, aB, aN, aL, aP, aH, aM, aF, Int.natCast_add, Int.natCast_mul, Int.add_sub_cancel, List.length_nil, Int.cast_ofNat_Int, and_true, true_and])
  · have hie : i = xs.length := by omega
    subst hie
    simp (disch := ((try simp only [List.length_set, List.length_replicate, List.length_append, List.length_cons, List.length_nil]); omega)) only [aW, aX, aV, aB, aN, aL, aP, aH, aM]
    refine awake33_vr.same (by simp (disch := first | omega | simp (disch := omega) only [aF, aL, aN, aM]) only [aW, aX, aV, aB, aN, aL, aP, aH, aM, aF, Int.natCast_add, Int.natCast_mul, Int.add_sub_cancel, List.length_nil, Int.cast_ofNat_Int, and_true, true_and]) rfl (aret_of ?_)
    simp (disch := ((try simp only [List.length_set, List.length_replicate, List.length_append, List.length_cons, List.length_nil]); omega)) only [aW, aX, aV, aB, aN, aL, aP, aH, aM, r_law33_MachineConserves]
    exact post_v ⟨rfl, rfl⟩
theorem machineThousands_vr (m : Mc) (xs : List Int) (hx : xs.length ≤ maxLen) (hf : ∀ x ∈ xs, fit x) : VR P false n_law33_MachineThousands [mcA true m, .fs true (ints xs)] [] (isR (.v (.bool true))) := by
  refine vr_law33_MachineThousands (by simp) (.inr rfl) fun _ _ => ?_
  unfold mcA mcC
  simp (disch := ((try simp only [List.length_set, List.length_replicate, List.length_append, List.length_cons, List.length_nil]); omega)) only [aW, aX, aV, aB, aN, aL, aP, aH, aM, s_law33_MachineThousands, v_law33_MachineThousands]
  refine (light_vr (w := true) m).useE (LdL.refl (by simp (disch := first | omega | simp (disch := omega) only [aF, aL, aN, aM]) only [aW, aX, aV, aB, aN, aL, aP, aH, aM, aF, Int.natCast_add, Int.natCast_mul, Int.add_sub_cancel, List.length_nil, Int.cast_ofNat_Int, and_true, true_and])) light_c ?_
  rintro r ⟨_, b, rfl, hb⟩
  refine aret_of ?_
  by_cases hg : b = false ∨ 100 < xs.length
  · rcases hg with rfl | hl
    · simp (disch := ((try simp only [List.length_set, List.length_replicate, List.length_append, List.length_cons, List.length_nil]); omega)) only [aW, aX, aV, aB, aN, aL, aP, aH, aM]
      refine awake33_vr.same (by simp (disch := first | omega | simp (disch := omega) only [aF, aL, aN, aM]) only [aW, aX, aV, aB, aN, aL, aP, aH, aM, aF, Int.natCast_add, Int.natCast_mul, Int.add_sub_cancel, List.length_nil, Int.cast_ofNat_Int, and_true, true_and]) rfl (aret_of ?_)
      simp (disch := ((try simp only [List.length_set, List.length_replicate, List.length_append, List.length_cons, List.length_nil]); omega)) only [aW, aX, aV, aB, aN, aL, aP, aH, aM, r_law33_MachineThousands]
      exact post_v ⟨rfl, rfl⟩
    · cases b <;> simp (disch := ((try simp only [List.length_set, List.length_replicate, List.length_append, List.length_cons, List.length_nil]); omega)) only [aW, aX, aV, aB, aN, aL, aP, aH, aM]
      all_goals
        refine awake33_vr.same (by simp (disch := first | omega | simp (disch := omega) only [aF, aL, aN, aM]) only [aW, aX, aV, aB, aN, aL, aP, aH, aM, aF, Int.natCast_add, Int.natCast_mul, Int.add_sub_cancel, List.length_nil, Int.cast_ofNat_Int, and_true, true_and]) rfl (aret_of ?_)
        simp (disch := ((try simp only [List.length_set, List.length_replicate, List.length_append, List.length_cons, List.length_nil]); omega)) only [aW, aX, aV, aB, aN, aL, aP, aH, aM, r_law33_MachineThousands]
        exact post_v ⟨rfl, rfl⟩
  obtain rfl : b = true := by cases b with
    | true => rfl
    | false => exact (hg (.inl rfl)).elim
  simp (disch := ((try simp only [List.length_set, List.length_replicate, List.length_append, List.length_cons, List.length_nil]); omega)) only [aW, aX, aV, aB, aN, aL, aP, aH, aM]
  refine (machineSplit_vr (w := true) (v := true) m xs).same (by unfold mcA mcC; simp (disch := first | omega | simp (disch := omega) only [aF, aL, aN, aM]) only [aW, aX, aV, aB, aN, aL, aP, aH, aM, aF, Int.natCast_add, Int.natCast_mul, Int.add_sub_cancel, List.length_nil, Int.cast_ofNat_Int, and_true, true_and]) (splitA_bd m xs) (aret_of ?_)
  by_cases he : msE m xs = 0
  case neg =>
    rw [splitA_bad he]
    simp (disch := ((try simp only [List.length_set, List.length_replicate, List.length_append, List.length_cons, List.length_nil]); omega)) only [aW, aX, aV, aB, aN, aL, aP, aH, aM]
    refine awake33_vr.same (by simp (disch := first | omega | simp (disch := omega) only [aF, aL, aN, aM]) only [aW, aX, aV, aB, aN, aL, aP, aH, aM, aF, Int.natCast_add, Int.natCast_mul, Int.add_sub_cancel, List.length_nil, Int.cast_ofNat_Int, and_true, true_and]) rfl (aret_of ?_)
    simp (disch := ((try simp only [List.length_set, List.length_replicate, List.length_append, List.length_cons, List.length_nil]); omega)) only [aW, aX, aV, aB, aN, aL, aP, aH, aM, r_law33_MachineThousands]
    exact post_v ⟨rfl, rfl⟩
  obtain ⟨ok, ho, hbd⟩ := msE_zero he
  have hlen := ok.len
  have hm1 := ok.m1
  have hm2 := ok.m2
  have h00 : (m.getD 0 []).length = outsN m := rfl
  have hml := msM_len m xs
  have ho4 : outsN m ≤ 4 := by
    have := (row_split ok ho (k := 0) (by omega) (t := 0) (by omega)).2.2.2.1; exact this
  rw [splitA_ok he]
  simp (disch := ((try simp only [List.length_set, List.length_replicate, List.length_append, List.length_cons, List.length_nil]); omega)) only [aW, aX, aV, aB, aN, aL, aP, aH, aM]
  refine AWP.loopP g_law33_MachineThousands_0 (fun i : Nat => i ≤ xs.length) (fun i => [(6, .v (.int .i64 i))]) (fun _ => []) (fun i => xs.length - i) 0 (by omega) ?_ ?_
  · exact Cut.of' 1 rfl (by omega) (by simp (disch := first | omega | simp (disch := omega) only [aF, aL, aN, aM]) only [aW, aX, aV, aB, aN, aL, aP, aH, aM, aF, Int.natCast_add, Int.natCast_mul, Int.add_sub_cancel, List.length_nil, Int.cast_ofNat_Int, and_true, true_and]) (by simp (disch := first | omega | simp (disch := omega) only [aF, aL, aN, aM]) only [aW, aX, aV, aB, aN, aL, aP, aH, aM, aF, Int.natCast_add, Int.natCast_mul, Int.add_sub_cancel, List.length_nil, Int.cast_ofNat_Int, and_true, true_and])
  rintro i hi
  by_cases hlt : i < xs.length
  · have hbi := hbd i hlt
    have d := divM_ok ok ho (k := i) (by omega) hbi
    obtain ⟨e1, e2, e3, e4, e5⟩ := row_split ok ho (k := i) (by omega) hbi
    have hat := fun o ho => msM_at m xs (o := o) (i := i) ho hlt
    have hrl := fun o ho => msM_rl m xs (o := o) ho
    have hdt := d.thou
    have hmb : ∀ o, o < outsN m → 0 ≤ xs.getD i 0 / 1000 * (m.getD i []).getD o 0 ∧ xs.getD i 0 / 1000 * (m.getD i []).getD o 0 ≤ 1073742 * 1000 := fun o ho => by
      have := e5 o (by omega)
      exact ⟨Int.mul_nonneg (by omega) this.1, Int.mul_le_mul (by omega) this.2 this.1 (by omega)⟩
    have t1 : (xs.getD i 0).tmod 1000 = xs.getD i 0 % 1000 := Int.tmod_eq_emod_of_nonneg hbi.1
    have t2 : (xs.getD i 0).tdiv 1000 = xs.getD i 0 / 1000 := Int.tdiv_eq_ediv_of_nonneg hbi.1
    generalize hD : divM m i (xs.getD i 0) = D at *
    simp (disch := ((try simp only [List.length_set, List.length_replicate, List.length_append, List.length_cons, List.length_nil]); omega)) only [aW, aX, aV, aB, aN, aL, aP, aH, aM, t1, t2]
    refine ib_intro (fun h1 => ?_) (fun h1 => ?_)
    · simp (disch := ((try simp only [List.length_set, List.length_replicate, List.length_append, List.length_cons, List.length_nil]); omega)) only [aW, aX, aV, aB, aN, aL, aP, aH, aM]
      refine ⟨i + 1, by omega, by omega, ?_⟩
      exact Cut.of' 1 rfl (by omega) (by simp (disch := first | omega | simp (disch := omega) only [aF, aL, aN, aM]) only [aW, aX, aV, aB, aN, aL, aP, aH, aM, aF, Int.natCast_add, Int.natCast_mul, Int.add_sub_cancel, List.length_nil, Int.cast_ofNat_Int, and_true, true_and]) (by simp (disch := first | omega | simp (disch := omega) only [aF, aL, aN, aM]) only [aW, aX, aV, aB, aN, aL, aP, aH, aM, aF, Int.natCast_add, Int.natCast_mul, Int.add_sub_cancel, List.length_nil, Int.cast_ofNat_Int, and_true, true_and])
    simp (disch := ((try simp only [List.length_set, List.length_replicate, List.length_append, List.length_cons, List.length_nil]); omega)) only [aW, aX, aV, aB, aN, aL, aP, aH, aM]
    refine AWP.loopP g_law33_MachineThousands_1 (fun o : Nat => o ≤ outsN m) (fun o => [(7, .v (.int .i64 o))]) (fun _ => []) (fun o => outsN m - o) 0 (by omega) ?_ ?_
    · exact Cut.of' 1 rfl (by omega) (by simp (disch := first | omega | simp (disch := omega) only [aF, aL, aN, aM]) only [aW, aX, aV, aB, aN, aL, aP, aH, aM, aF, Int.natCast_add, Int.natCast_mul, Int.add_sub_cancel, List.length_nil, Int.cast_ofNat_Int, and_true, true_and]) (by simp (disch := first | omega | simp (disch := omega) only [aF, aL, aN, aM]) only [aW, aX, aV, aB, aN, aL, aP, aH, aM, aF, Int.natCast_add, Int.natCast_mul, Int.add_sub_cancel, List.length_nil, Int.cast_ofNat_Int, and_true, true_and])
    rintro o ho2
    by_cases hlo : o < outsN m
    · have k1 := hat o hlo
      have k2 := hrl o hlo
      have k3 := hmb o hlo
      have k4 := hdt (by omega) o (by omega)
      simp (disch := ((try simp only [List.length_set, List.length_replicate, List.length_append, List.length_cons, List.length_nil]); omega)) only [aW, aX, aV, aB, aN, aL, aP, aH, aM, k1, k2, t1, t2]
      refine ⟨o + 1, by omega, by omega, ?_⟩
      exact Cut.of' 1 rfl (by omega) (by simp (disch := first | omega | simp (disch := omega) only [aF, aL, aN, aM]) only [aW, aX, aV, aB, aN, aL, aP, aH, aM, aF, Int.natCast_add, Int.natCast_mul, Int.add_sub_cancel, List.length_nil, Int.cast_ofNat_Int, and_true, true_and]) (by simp (disch := first | omega | simp (disch := omega) only [aF, aL, aN, aM]) only [aW, aX, aV, aB, aN, aL, aP, aH, aM, aF, Int.natCast_add, Int.natCast_mul, Int.add_sub_cancel, List.length_nil, Int.cast_ofNat_Int, and_true, true_and])
    · have hoe : o = outsN m := by omega
      subst hoe
      simp (disch := ((try simp only [List.length_set, List.length_replicate, List.length_append, List.length_cons, List.length_nil]); omega)) only [aW, aX, aV, aB, aN, aL, aP, aH, aM]
      refine ⟨i + 1, by omega, by omega, ?_⟩
      exact Cut.of' 1 rfl (by omega) (by simp (disch := first | omega | simp (disch := omega) only [aF, aL, aN, aM]) only [aW, aX, aV, aB, aN, aL, aP, aH, aM, aF, Int.natCast_add, Int.natCast_mul, Int.add_sub_cancel, List.length_nil, Int.cast_ofNat_Int, and_true, true_and]) (by simp (disch := first | omega | simp (disch := omega) only [aF, aL, aN, aM]) only [aW, aX, aV, aB, aN, aL, aP, aH, aM, aF, Int.natCast_add, Int.natCast_mul, Int.add_sub_cancel, List.length_nil, Int.cast_ofNat_Int, and_true, true_and])
  · have hie : i = xs.length := by omega
    subst hie
    simp (disch := ((try simp only [List.length_set, List.length_replicate, List.length_append, List.length_cons, List.length_nil]); omega)) only [aW, aX, aV, aB, aN, aL, aP, aH, aM]
    refine awake33_vr.same (by simp (disch := first | omega | simp (disch := omega) only [aF, aL, aN, aM]) only [aW, aX, aV, aB, aN, aL, aP, aH, aM, aF, Int.natCast_add, Int.natCast_mul, Int.add_sub_cancel, List.length_nil, Int.cast_ofNat_Int, and_true, true_and]) rfl (aret_of ?_)
    simp (disch := ((try simp only [List.length_set, List.length_replicate, List.length_append, List.length_cons, List.length_nil]); omega)) only [aW, aX, aV, aB, aN, aL, aP, aH, aM, r_law33_MachineThousands]
    exact post_v ⟨rfl, rfl⟩
end Go.Proofs.Ytggnafgbjnemoaa
