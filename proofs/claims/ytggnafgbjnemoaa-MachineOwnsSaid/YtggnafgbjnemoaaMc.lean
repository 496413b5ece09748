/- Splitting a whole input, in the program. No statement is claimed here. -/
import Derived.Test.YtggnafgbjnemoaaMa
import Derived.Test.YtggnafgbjnemoaaMb
namespace Go.Proofs.Ytggnafgbjnemoaa
open Go Go.Lft
set_option linter.unusedSimpArgs false
set_option linter.unusedVariables false
attribute [local congr] ob_congr bw_congr ib_congr ck_congr iwA_congr itA_congr aw_congr awp_congr sqA_congr bkA_congr vr_congr gd_congr

def badE (x : Int) : Int := if x < 0 ∨ 1073741824 < x then 18 else 0
theorem badE_bad {x : Int} (h : x < 0 ∨ 1073741824 < x) : badE x = 18 := by unfold badE; rw [if_pos h]
theorem badE_ok {x : Int} (h : ¬ (x < 0 ∨ 1073741824 < x)) : badE x = 0 := by unfold badE; rw [if_neg h]
theorem badE_zero {x : Int} (h : badE x = 0) : 0 ≤ x ∧ x ≤ 1073741824 := by unfold badE at h; split at h <;> omega
/-- What Split answers. -/
def msE (m : Mc) (xs : List Int) : Int := if mcheck m xs.length ≠ 0 then mcheck m xs.length else if firstE badE xs ≠ 0 then 18 else if outsN m = 0 then 13 else 0
def msM (m : Mc) (xs : List Int) : List (List Int) := mtx (outsN m) xs.length fun o i => (divM m i (xs.getD i 0)).getD o 0
/-- What is there after x masses and o outputs of the next. -/
def msF (m : Mc) (xs : List Int) (x o : Nat) : Nat → Nat → Int := fun a b => if b < x ∨ (b = x ∧ a < o) then (divM m b (xs.getD b 0)).getD a 0 else 0
def splitS (m : Mc) (xs : List Int) : A → List Blk → Prop := fun r G => (msE m xs ≠ 0 ∧ r = .tup [.v (.slice none 0 0), .v (.int .i64 (msE m xs))] ∧ G = []) ∨ (msE m xs = 0 ∧ r = .tup [.sl 1 0 1 0 (outsN m), .v (.int .i64 0)] ∧ G = hm [.any] 0 (ptrA (outsN m) xs.length) (msM m xs))

theorem msF_zero (m : Mc) (xs : List Int) (n : Nat) : mtx (outsN m) n (msF m xs 0 0) = mtx (outsN m) n fun _ _ => 0 := mtx_ext fun o i _ _ => by unfold msF; rw [if_neg (by omega)]
theorem msF_next (m : Mc) (xs : List Int) (x : Nat) : mtx (outsN m) xs.length (msF m xs x (outsN m)) = mtx (outsN m) xs.length (msF m xs (x + 1) 0) := mtx_ext fun o i ho _ => by
  unfold msF
  by_cases h : i < x ∨ (i = x ∧ o < outsN m)
  · rw [if_pos h, if_pos (by omega)]
  · rw [if_neg h, if_neg (by omega)]
theorem msF_end (m : Mc) (xs : List Int) : mtx (outsN m) xs.length (msF m xs xs.length 0) = msM m xs := mtx_ext fun o i ho hi => by
  unfold msF; rw [if_pos (by omega)]
theorem msF_set (m : Mc) (xs : List Int) {x o : Nat} (ho : o < outsN m) (hx : x < xs.length) : (mtx (outsN m) xs.length (msF m xs x o)).set o (((List.range xs.length).map fun i => msF m xs x o o i).set x ((divM m x (xs.getD x 0)).getD o 0)) = mtx (outsN m) xs.length (msF m xs x (o + 1)) := by
  rw [mtx_set _ o x _ ho hx]
  refine mtx_ext fun a b _ _ => ?_
  by_cases h : a = o ∧ b = x
  · obtain ⟨rfl, rfl⟩ := h
    rw [if_pos ⟨rfl, rfl⟩]; unfold msF; rw [if_pos (by omega)]
  · rw [if_neg h]; unfold msF
    by_cases h2 : b < x ∨ (b = x ∧ a < o)
    · rw [if_pos h2, if_pos (by omega)]
    · rw [if_neg h2, if_neg (by omega)]

theorem divM_len {m : Mc} {mat : Int} (h : MOk m mat) (ho : outsN m ≠ 0) {k : Nat} (hk : k < m.length) {t : Int} (ht : 0 ≤ t ∧ t ≤ 1073741824) : (divM m k t).length = outsN m := by
  obtain ⟨h1, h2, h3, h4, h5⟩ := row_split h ho hk ht
  unfold divM
  rw [divR_len, (partsR_ok (splitE_ok h1).sp).len, h3]

theorem machineSplitO_vr {w v : Bool} (m : Mc) (xs : List Int) : VR P false n_machine_Split [mcA w m, .fs v (ints xs)] [] (splitS m xs) := by
  refine vr_machine_Split (by simp) (.inr rfl) fun _ _ => ?_
  unfold mcA mcC
  simp (disch := ((try simp only [List.length_set, List.length_replicate, List.length_append, List.length_cons, List.length_nil]); omega)) only [aW, aX, aV, aB, aN, aL, aP, aH, aM, aQ, s_machine_Split, v_machine_Split]
  refine (machineCheck_vr (w := w) m xs.length).same (by unfold mcA mcC; simp (disch := first | omega | simp (disch := omega) only [aF, aL, aN, aM, aQ]) only [aW, aX, aV, aB, aN, aL, aP, aH, aM, aQ, aF, Int.natCast_add, Int.natCast_mul, Int.add_sub_cancel, List.length_nil, Int.cast_ofNat_Int, and_true, true_and]) rfl (aret_of ?_)
  simp (disch := ((try simp only [List.length_set, List.length_replicate, List.length_append, List.length_cons, List.length_nil]); omega)) only [aW, aX, aV, aB, aN, aL, aP, aH, aM, aQ]
  refine ib_intro (fun h1 => ?_) (fun h1 => ?_)
  · have he : msE m xs = mcheck m xs.length := by unfold msE; rw [if_pos h1]
    simp (disch := ((try simp only [List.length_set, List.length_replicate, List.length_append, List.length_cons, List.length_nil]); omega)) only [aW, aX, aV, aB, aN, aL, aP, aH, aM, aQ, r_machine_Split]
    exact post0 (r := .tup [.v (.slice none 0 0), .v (.int .i64 (mcheck m xs.length))]) (Fz.refl rfl) (.inl ⟨by omega, by rw [he], rfl⟩)
  have h1' : mcheck m xs.length = 0 := Classical.not_not.1 h1
  have ok := mcheck_ok h1'
  have k1 := ok.m1
  have k2 := ok.m2
  have k3 := ok.len
  simp (disch := ((try simp only [List.length_set, List.length_replicate, List.length_append, List.length_cons, List.length_nil]); omega)) only [aW, aX, aV, aB, aN, aL, aP, aH, aM, aQ]
  refine AWP.loopP g_machine_Split_0 (fun i : Nat => i ≤ xs.length ∧ ∀ j, j < i → badE (xs.getD j 0) = 0) (fun i => [(6, .v (.int .i64 i))]) (fun _ => []) (fun i => xs.length - i) 0 ⟨by omega, by omega⟩ ?_ ?_
  · exact Cut.of' 1 rfl (by omega) (by simp (disch := first | omega | simp (disch := omega) only [aF, aL, aN, aM, aQ]) only [aW, aX, aV, aB, aN, aL, aP, aH, aM, aQ, aF, Int.natCast_add, Int.natCast_mul, Int.add_sub_cancel, List.length_nil, Int.cast_ofNat_Int, and_true, true_and]) (by simp (disch := first | omega | simp (disch := omega) only [aF, aL, aN, aM, aQ]) only [aW, aX, aV, aB, aN, aL, aP, aH, aM, aQ, aF, Int.natCast_add, Int.natCast_mul, Int.add_sub_cancel, List.length_nil, Int.cast_ofNat_Int, and_true, true_and])
  rintro i ⟨hi, hi2⟩
  by_cases hlt : i < xs.length
  · simp (disch := ((try simp only [List.length_set, List.length_replicate, List.length_append, List.length_cons, List.length_nil]); omega)) only [aW, aX, aV, aB, aN, aL, aP, aH, aM, aQ]
    refine ib_intro (fun h2 => ?_) (fun h2 => ?_)
    · have he : msE m xs = 18 := by
        unfold msE; rw [if_neg h1, if_pos]
        rw [firstE_hit 0 hlt hi2 (by rw [badE_bad (by omega)]; omega), badE_bad (by omega)]; omega
      simp (disch := ((try simp only [List.length_set, List.length_replicate, List.length_append, List.length_cons, List.length_nil]); omega)) only [aW, aX, aV, aB, aN, aL, aP, aH, aM, aQ, r_machine_Split]
      exact post0 (r := .tup [.v (.slice none 0 0), .v (.int .i64 18)]) (Fz.refl rfl) (.inl ⟨by omega, by rw [he], rfl⟩)
    · simp (disch := ((try simp only [List.length_set, List.length_replicate, List.length_append, List.length_cons, List.length_nil]); omega)) only [aW, aX, aV, aB, aN, aL, aP, aH, aM, aQ]
      refine ⟨i + 1, ⟨by omega, fun j hj => ?_⟩, by omega, ?_⟩
      · by_cases hji : j = i
        · subst hji; exact badE_ok (by omega)
        · exact hi2 j (by omega)
      · exact Cut.of' 1 rfl (by omega) (by simp (disch := first | omega | simp (disch := omega) only [aF, aL, aN, aM, aQ]) only [aW, aX, aV, aB, aN, aL, aP, aH, aM, aQ, aF, Int.natCast_add, Int.natCast_mul, Int.add_sub_cancel, List.length_nil, Int.cast_ofNat_Int, and_true, true_and]) (by simp (disch := first | omega | simp (disch := omega) only [aF, aL, aN, aM, aQ]) only [aW, aX, aV, aB, aN, aL, aP, aH, aM, aQ, aF, Int.natCast_add, Int.natCast_mul, Int.add_sub_cancel, List.length_nil, Int.cast_ofNat_Int, and_true, true_and])
  have hie : i = xs.length := by omega
  subst hie
  have hb : firstE badE xs = 0 := firstE_none 0 hi2
  have hbd : ∀ i, i < xs.length → 0 ≤ xs.getD i 0 ∧ xs.getD i 0 ≤ 1073741824 := fun i hi => badE_zero (hi2 i hi)
  simp (disch := ((try simp only [List.length_set, List.length_replicate, List.length_append, List.length_cons, List.length_nil]); omega)) only [aW, aX, aV, aB, aN, aL, aP, aH, aM, aQ]
  refine (machineOuts_vr (w := w) m).same (by unfold mcA mcC; simp (disch := first | omega | simp (disch := omega) only [aF, aL, aN, aM, aQ]) only [aW, aX, aV, aB, aN, aL, aP, aH, aM, aQ, aF, Int.natCast_add, Int.natCast_mul, Int.add_sub_cancel, List.length_nil, Int.cast_ofNat_Int, and_true, true_and]) rfl (aret_of ?_)
  simp (disch := ((try simp only [List.length_set, List.length_replicate, List.length_append, List.length_cons, List.length_nil]); omega)) only [aW, aX, aV, aB, aN, aL, aP, aH, aM, aQ]
  refine ib_intro (fun h3 => ?_) (fun h3 => ?_)
  · have he : msE m xs = 13 := by
      unfold msE; rw [if_neg h1, if_neg (by omega), if_pos (by omega)]
    simp (disch := ((try simp only [List.length_set, List.length_replicate, List.length_append, List.length_cons, List.length_nil]); omega)) only [aW, aX, aV, aB, aN, aL, aP, aH, aM, aQ, r_machine_Split]
    exact post0 (r := .tup [.v (.slice none 0 0), .v (.int .i64 13)]) (Fz.refl rfl) (.inl ⟨by omega, by rw [he], rfl⟩)
  have he : msE m xs = 0 := by
    unfold msE; rw [if_neg h1, if_neg (by omega), if_neg (by omega)]
  have ho : outsN m ≠ 0 := by omega
  have ho4 : outsN m ≤ 4 := by
    have := (row_split ok ho (k := 0) (by omega) (t := 0) (by omega)).2.2.2.1; exact this
  simp (disch := ((try simp only [List.length_set, List.length_replicate, List.length_append, List.length_cons, List.length_nil]); omega)) only [aW, aX, aV, aB, aN, aL, aP, aH, aM, aQ]
  rw [pad_zero _ xs.length, hm_of]
  refine AWP.loopM g_machine_Split_1 (fun j : Nat => j ≤ outsN m) (fun j => [(13, .v (.int .i64 j))]) (fun j => hm [.fs w (rows w m)] 0 (padA j (outsN m) xs.length) (mtx j xs.length fun _ _ => 0)) (fun j => outsN m - j) 0 (by omega) ?_ ?_
  · rw [mtx_z0]
    exact Cut.same (by omega) (hm_ok (by simp (disch := first | omega | simp (disch := omega) only [aF, aL, aN, aM, aQ]) only [aW, aX, aV, aB, aN, aL, aP, aH, aM, aQ, aF, Int.natCast_add, Int.natCast_mul, Int.add_sub_cancel, List.length_nil, Int.cast_ofNat_Int, and_true, true_and]) (pad_bd _ _ _ _ (by simp (disch := ((try simp only [List.length_set, List.length_replicate, List.length_append, List.length_cons, List.length_nil]); omega)) only [aW, aX, aV, aB, aN, aL, aP, aH, aM, aQ]; omega))) (by simp (disch := first | omega | simp (disch := omega) only [aF, aL, aN, aM, aQ]) only [aW, aX, aV, aB, aN, aL, aP, aH, aM, aQ, aF, Int.natCast_add, Int.natCast_mul, Int.add_sub_cancel, List.length_nil, Int.cast_ofNat_Int, and_true, true_and])
  rintro j hj
  by_cases hlt2 : j < outsN m
  · simp (disch := ((try simp only [List.length_set, List.length_replicate, List.length_append, List.length_cons, List.length_nil]); omega)) only [aW, aX, aV, aB, aN, aL, aP, aH, aM, aQ]
    rw [mtx_zero]
    refine ⟨j + 1, by omega, by omega, ?_⟩
    exact Cut.same (by omega) (hm_ok (by simp (disch := first | omega | simp (disch := omega) only [aF, aL, aN, aM, aQ]) only [aW, aX, aV, aB, aN, aL, aP, aH, aM, aQ, aF, Int.natCast_add, Int.natCast_mul, Int.add_sub_cancel, List.length_nil, Int.cast_ofNat_Int, and_true, true_and]) (pad_bd _ _ _ _ (by simp (disch := ((try simp only [List.length_set, List.length_replicate, List.length_append, List.length_cons, List.length_nil]); omega)) only [aW, aX, aV, aB, aN, aL, aP, aH, aM, aQ]; omega))) (by simp (disch := first | omega | simp (disch := omega) only [aF, aL, aN, aM, aQ]) only [aW, aX, aV, aB, aN, aL, aP, aH, aM, aQ, aF, Int.natCast_add, Int.natCast_mul, Int.add_sub_cancel, List.length_nil, Int.cast_ofNat_Int, and_true, true_and])
  have hje : j = outsN m := by omega
  subst hje
  rw [pad_all, ← msF_zero m xs]
  simp (disch := ((try simp only [List.length_set, List.length_replicate, List.length_append, List.length_cons, List.length_nil]); omega)) only [aW, aX, aV, aB, aN, aL, aP, aH, aM, aQ]
  refine AWP.loopM g_machine_Split_2 (fun x : Nat => x ≤ xs.length) (fun x => [(17, .v (.int .i64 x))]) (fun x => hm [.fs w (rows w m)] 0 (ptrA (outsN m) xs.length) (mtx (outsN m) xs.length (msF m xs x 0))) (fun x => xs.length - x) 0 (by omega) ?_ ?_
  · exact Cut.same (by omega) (hm_ok (by simp (disch := first | omega | simp (disch := omega) only [aF, aL, aN, aM, aQ]) only [aW, aX, aV, aB, aN, aL, aP, aH, aM, aQ, aF, Int.natCast_add, Int.natCast_mul, Int.add_sub_cancel, List.length_nil, Int.cast_ofNat_Int, and_true, true_and]) (ptr_bd _ _ _ (by simp (disch := ((try simp only [List.length_set, List.length_replicate, List.length_append, List.length_cons, List.length_nil]); omega)) only [aW, aX, aV, aB, aN, aL, aP, aH, aM, aQ]; omega))) (by simp (disch := first | omega | simp (disch := omega) only [aF, aL, aN, aM, aQ]) only [aW, aX, aV, aB, aN, aL, aP, aH, aM, aQ, aF, Int.natCast_add, Int.natCast_mul, Int.add_sub_cancel, List.length_nil, Int.cast_ofNat_Int, and_true, true_and])
  rintro x hx
  by_cases hltx : x < xs.length
  · have hbx := hbd x hltx
    have hdl := divM_len ok ho (k := x) (by omega) hbx
    have hms := fun o ho => msF_set m xs (x := x) (o := o) ho hltx
    simp (disch := ((try simp only [List.length_set, List.length_replicate, List.length_append, List.length_cons, List.length_nil]); omega)) only [aW, aX, aV, aB, aN, aL, aP, aH, aM, aQ]
    refine (divided_vr (w := w) m _ ok ho x (by omega) (xs.getD x 0) hbx).same (by unfold mcA mcC; simp (disch := first | omega | simp (disch := omega) only [aF, aL, aN, aM, aQ]) only [aW, aX, aV, aB, aN, aL, aP, aH, aM, aQ, aF, Int.natCast_add, Int.natCast_mul, Int.add_sub_cancel, List.length_nil, Int.cast_ofNat_Int, and_true, true_and]) (by simp (disch := first | omega | simp (disch := omega) only [aF, aL, aN, aM, aQ]) only [aW, aX, aV, aB, aN, aL, aP, aH, aM, aQ, aF, Int.natCast_add, Int.natCast_mul, Int.add_sub_cancel, List.length_nil, Int.cast_ofNat_Int, and_true, true_and]) (aret_of ?_)
    simp (disch := ((try simp only [List.length_set, List.length_replicate, List.length_append, List.length_cons, List.length_nil]); omega)) only [aW, aX, aV, aB, aN, aL, aP, aH, aM, aQ]
    refine AWP.loopM g_machine_Split_3 (fun o : Nat => o ≤ outsN m) (fun o => [(23, .v (.int .i64 o))]) (fun o => hm [.fs w (rows w m)] 0 (ptrA (outsN m) xs.length) (mtx (outsN m) xs.length (msF m xs x o))) (fun o => outsN m - o) 0 (by omega) ?_ ?_
    · exact Cut.same (by omega) (hm_ok (by simp (disch := first | omega | simp (disch := omega) only [aF, aL, aN, aM, aQ]) only [aW, aX, aV, aB, aN, aL, aP, aH, aM, aQ, aF, Int.natCast_add, Int.natCast_mul, Int.add_sub_cancel, List.length_nil, Int.cast_ofNat_Int, and_true, true_and]) (ptr_bd _ _ _ (by simp (disch := ((try simp only [List.length_set, List.length_replicate, List.length_append, List.length_cons, List.length_nil]); omega)) only [aW, aX, aV, aB, aN, aL, aP, aH, aM, aQ]; omega))) (by simp (disch := first | omega | simp (disch := omega) only [aF, aL, aN, aM, aQ]) only [aW, aX, aV, aB, aN, aL, aP, aH, aM, aQ, aF, Int.natCast_add, Int.natCast_mul, Int.add_sub_cancel, List.length_nil, Int.cast_ofNat_Int, and_true, true_and])
    rintro o ho2
    by_cases hlto : o < outsN m
    · simp (disch := ((try simp only [List.length_set, List.length_replicate, List.length_append, List.length_cons, List.length_nil]); omega)) only [aW, aX, aV, aB, aN, aL, aP, aH, aM, aQ]
      rw [hms o hlto]
      refine ⟨o + 1, by omega, by omega, ?_⟩
      exact Cut.same (by omega) (hm_ok (by simp (disch := first | omega | simp (disch := omega) only [aF, aL, aN, aM, aQ]) only [aW, aX, aV, aB, aN, aL, aP, aH, aM, aQ, aF, Int.natCast_add, Int.natCast_mul, Int.add_sub_cancel, List.length_nil, Int.cast_ofNat_Int, and_true, true_and]) (ptr_bd _ _ _ (by simp (disch := ((try simp only [List.length_set, List.length_replicate, List.length_append, List.length_cons, List.length_nil]); omega)) only [aW, aX, aV, aB, aN, aL, aP, aH, aM, aQ]; omega))) (by simp (disch := first | omega | simp (disch := omega) only [aF, aL, aN, aM, aQ]) only [aW, aX, aV, aB, aN, aL, aP, aH, aM, aQ, aF, Int.natCast_add, Int.natCast_mul, Int.add_sub_cancel, List.length_nil, Int.cast_ofNat_Int, and_true, true_and])
    have hoe : o = outsN m := by omega
    subst hoe
    rw [msF_next]
    simp (disch := ((try simp only [List.length_set, List.length_replicate, List.length_append, List.length_cons, List.length_nil]); omega)) only [aW, aX, aV, aB, aN, aL, aP, aH, aM, aQ]
    refine ⟨x + 1, by omega, by omega, ?_⟩
    exact Cut.same (by omega) (hm_ok (by simp (disch := first | omega | simp (disch := omega) only [aF, aL, aN, aM, aQ]) only [aW, aX, aV, aB, aN, aL, aP, aH, aM, aQ, aF, Int.natCast_add, Int.natCast_mul, Int.add_sub_cancel, List.length_nil, Int.cast_ofNat_Int, and_true, true_and]) (ptr_bd _ _ _ (by simp (disch := ((try simp only [List.length_set, List.length_replicate, List.length_append, List.length_cons, List.length_nil]); omega)) only [aW, aX, aV, aB, aN, aL, aP, aH, aM, aQ]; omega))) (by simp (disch := first | omega | simp (disch := omega) only [aF, aL, aN, aM, aQ]) only [aW, aX, aV, aB, aN, aL, aP, aH, aM, aQ, aF, Int.natCast_add, Int.natCast_mul, Int.add_sub_cancel, List.length_nil, Int.cast_ofNat_Int, and_true, true_and])
  have hxe : x = xs.length := by omega
  subst hxe
  rw [msF_end]
  have hml : (msM m xs).length = outsN m := mtx_len _ _ _
  simp (disch := ((try simp only [List.length_set, List.length_replicate, List.length_append, List.length_cons, List.length_nil]); omega)) only [aW, aX, aV, aB, aN, aL, aP, aH, aM, aQ, r_machine_Split]
  refine ⟨_, hm [.any] 0 (ptrA (outsN m) xs.length) (msM m xs), cut_hm (by omega) ⟨Fz.any, trivial⟩ (ptr_bd _ _ _ (by omega)) ?_, .inr ⟨he, rfl, rfl⟩⟩
  exact ⟨Fz.refl (by simp [retA, A.bd, A.bdL, hml]), trivial⟩
theorem msM_rows (m : Mc) (xs : List Int) : ∀ l ∈ msM m xs, l.length = xs.length := mtx_rows
theorem msM_len (m : Mc) (xs : List Int) : (msM m xs).length = outsN m := mtx_len _ _ _
/-- The same, as what it shows. -/
def splitA (m : Mc) (xs : List Int) : A := .tup [if msE m xs ≠ 0 then .v (.slice none 0 0) else .fs true (rows true (msM m xs)), .v (.int .i64 (msE m xs))]
theorem machineSplit_vr {w v : Bool} (m : Mc) (xs : List Int) : VR P false n_machine_Split [mcA w m, .fs v (ints xs)] [] (isR (splitA m xs)) := by
  refine (machineSplitO_vr (w := w) (v := v) m xs).cut ?_
  rintro r G (⟨h1, rfl, rfl⟩ | ⟨h1, rfl, rfl⟩)
  · exact ⟨_, _, Cut.refl _ _ _, by unfold splitA; rw [if_pos h1], rfl⟩
  · refine ⟨splitA m xs, [], Cut.of (Nat.le_refl _) rfl (fun i B' h => by simp at h) ⟨?_, trivial⟩, rfl, rfl⟩
    unfold splitA
    rw [if_neg (by omega), h1]
    exact Fz.tup ⟨fz_mtx (msM_len m xs) (msM_rows m xs), Fz.refl rfl, trivial⟩
end Go.Proofs.Ytggnafgbjnemoaa
