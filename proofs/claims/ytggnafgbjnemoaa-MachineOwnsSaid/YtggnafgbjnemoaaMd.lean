/- Splitting a whole input, in the reference. No statement is claimed here. -/
import Derived.Test.YtggnafgbjnemoaaMc
namespace Go.Proofs.Ytggnafgbjnemoaa
open Go Go.Lft
set_option linter.unusedSimpArgs false
set_option linter.unusedVariables false
attribute [local congr] ob_congr bw_congr ib_congr ck_congr iwA_congr itA_congr aw_congr awp_congr sqA_congr bkA_congr vr_congr gd_congr

theorem hmT_len (b : List A) (v : Nat) (p : List A) (M : List (List Int)) (T : List Blk) : (hm b v p M ++ T).length = M.length + 2 + T.length := by simp [hm_len]
theorem hmT_b (b : List A) (v : Nat) (p : List A) (M : List (List Int)) (T : List Blk) : blkAt (hm b v p M ++ T) 0 0 = some b := by rw [blkAt_app _ _ _ _ (by rw [hm_len]; omega), hm_b]
theorem hmT_p (b : List A) (v : Nat) (p : List A) (M : List (List Int)) (T : List Blk) : blkAt (hm b v p M ++ T) 1 v = some p := by rw [blkAt_app _ _ _ _ (by rw [hm_len]; omega), hm_p]
theorem hmT_r (b : List A) (v : Nat) (p : List A) (k n : Nat) (f : Nat → Nat → Int) (T : List Blk) (o : Nat) (h : o < k) : blkAt (hm b v p (mtx k n f) ++ T) (o + 2) 0 = some (ints ((List.range n).map fun i => f o i)) := by
  rw [blkAt_app _ _ _ _ (by rw [hm_len, mtx_len]; omega), hm_rm _ _ _ _ _ _ _ h]
theorem hmT_t (b : List A) (v : Nat) (p : List A) (k n : Nat) (f : Nat → Nat → Int) (c : List A) : blkAt (hm b v p (mtx k n f) ++ [⟨0, c⟩]) (k + 2) 0 = some c := by
  have : k + 2 = (hm b v p (mtx k n f)).length := by rw [hm_len, mtx_len]
  rw [this, blkAt_new0]; rfl
theorem hmT_sp (b : List A) (v v' : Nat) (p q : List A) (M : List (List Int)) (T : List Blk) : (hm b v p M ++ T).set 1 ⟨v', q⟩ = hm b v' q M ++ T := rfl

theorem ptr_take (k n : Nat) : (ptrA k n).take k = ptrA k n := List.take_of_length_le (by rw [ptr_len]; exact Nat.le_refl _)

theorem aR :
    (∀ (b : List A) (v : Nat) (p : List A) (M : List (List Int)) (T : List Blk), (hm b v p M ++ T).length = M.length + 2 + T.length) ∧
    (∀ (b : List A) (v : Nat) (p : List A) (M : List (List Int)) (T : List Blk), blkAt (hm b v p M ++ T) 0 0 = some b) ∧
    (∀ (b : List A) (v : Nat) (p : List A) (M : List (List Int)) (T : List Blk), blkAt (hm b v p M ++ T) 1 v = some p) ∧
    (∀ (b : List A) (v : Nat) (p : List A) (k n : Nat) (f : Nat → Nat → Int) (T : List Blk) (o : Nat) (h : o < k), blkAt (hm b v p (mtx k n f) ++ T) (o + 2) 0 = some (ints ((List.range n).map fun i => f o i))) ∧
    (∀ (b : List A) (v : Nat) (p : List A) (k n : Nat) (f : Nat → Nat → Int) (c : List A), blkAt (hm b v p (mtx k n f) ++ [⟨0, c⟩]) (k + 2) 0 = some c) ∧
    (∀ (b : List A) (v v' : Nat) (p q : List A) (M : List (List Int)) (T : List Blk), (hm b v p M ++ T).set 1 ⟨v', q⟩ = hm b v' q M ++ T) :=
  ⟨@hmT_len, @hmT_b, @hmT_p, @hmT_r, @hmT_t, @hmT_sp⟩

theorem refSplitO_vr {w v : Bool} (m : Mc) (xs : List Int) : VR P false n_ref33_Split [mcA w m, .fs v (ints xs)] [] (isR (splitA m xs)) := by
  refine vr_ref33_Split (by simp) (.inr rfl) fun _ _ => ?_
  unfold mcA mcC
  simp (disch := ((try simp only [List.length_set, List.length_replicate, List.length_append, List.length_cons, List.length_nil]); omega)) only [aW, aX, aV, aB, aN, aL, aP, aH, aM, aQ, aR, s_ref33_Split, v_ref33_Split]
  refine (ref33Check_vr (w := w) m xs.length).same (by unfold mcA mcC; simp (disch := first | omega | simp (disch := omega) only [aF, aL, aN, aM, aQ, aR]) only [aW, aX, aV, aB, aN, aL, aP, aH, aM, aQ, aR, aF, Int.natCast_add, Int.natCast_mul, Int.add_sub_cancel, List.length_nil, Int.cast_ofNat_Int, and_true, true_and]) rfl (aret_of ?_)
  simp (disch := ((try simp only [List.length_set, List.length_replicate, List.length_append, List.length_cons, List.length_nil]); omega)) only [aW, aX, aV, aB, aN, aL, aP, aH, aM, aQ, aR]
  refine ib_intro (fun h1 => ?_) (fun h1 => ?_)
  · have he : msE m xs = mcheck m xs.length := by unfold msE; rw [if_pos h1]
    simp (disch := ((try simp only [List.length_set, List.length_replicate, List.length_append, List.length_cons, List.length_nil]); omega)) only [aW, aX, aV, aB, aN, aL, aP, aH, aM, aQ, aR, r_ref33_Split]
    exact post0 (r := .tup [.v (.slice none 0 0), .v (.int .i64 (mcheck m xs.length))]) (Fz.refl rfl) ⟨by unfold splitA; rw [if_pos (by omega), he], rfl⟩
  have h1' : mcheck m xs.length = 0 := Classical.not_not.1 h1
  have ok := mcheck_ok h1'
  have k1 := ok.m1
  have k2 := ok.m2
  have k3 := ok.len
  simp (disch := ((try simp only [List.length_set, List.length_replicate, List.length_append, List.length_cons, List.length_nil]); omega)) only [aW, aX, aV, aB, aN, aL, aP, aH, aM, aQ, aR]
  refine AWP.loopP g_ref33_Split_0 (fun i : Nat => i ≤ xs.length ∧ ∀ j, j < i → badE (xs.getD j 0) = 0) (fun i => [(6, .v (.int .i64 i))]) (fun _ => []) (fun i => xs.length - i) 0 ⟨by omega, by omega⟩ ?_ ?_
  · exact Cut.of' 1 rfl (by omega) (by simp (disch := first | omega | simp (disch := omega) only [aF, aL, aN, aM, aQ, aR]) only [aW, aX, aV, aB, aN, aL, aP, aH, aM, aQ, aR, aF, Int.natCast_add, Int.natCast_mul, Int.add_sub_cancel, List.length_nil, Int.cast_ofNat_Int, and_true, true_and]) (by simp (disch := first | omega | simp (disch := omega) only [aF, aL, aN, aM, aQ, aR]) only [aW, aX, aV, aB, aN, aL, aP, aH, aM, aQ, aR, aF, Int.natCast_add, Int.natCast_mul, Int.add_sub_cancel, List.length_nil, Int.cast_ofNat_Int, and_true, true_and])
  rintro i ⟨hi, hi2⟩
  by_cases hlt : i < xs.length
  · simp (disch := ((try simp only [List.length_set, List.length_replicate, List.length_append, List.length_cons, List.length_nil]); omega)) only [aW, aX, aV, aB, aN, aL, aP, aH, aM, aQ, aR]
    refine ib_intro (fun h2 => ?_) (fun h2 => ?_)
    · have he : msE m xs = 18 := by
        unfold msE; rw [if_neg h1, if_pos]
        rw [firstE_hit 0 hlt hi2 (by rw [badE_bad (by omega)]; omega), badE_bad (by omega)]; omega
      simp (disch := ((try simp only [List.length_set, List.length_replicate, List.length_append, List.length_cons, List.length_nil]); omega)) only [aW, aX, aV, aB, aN, aL, aP, aH, aM, aQ, aR, r_ref33_Split]
      exact post0 (r := .tup [.v (.slice none 0 0), .v (.int .i64 18)]) (Fz.refl rfl) ⟨by unfold splitA; rw [if_pos (by omega), he], rfl⟩
    · simp (disch := ((try simp only [List.length_set, List.length_replicate, List.length_append, List.length_cons, List.length_nil]); omega)) only [aW, aX, aV, aB, aN, aL, aP, aH, aM, aQ, aR]
      refine ⟨i + 1, ⟨by omega, fun j hj => ?_⟩, by omega, ?_⟩
      · by_cases hji : j = i
        · subst hji; exact badE_ok (by omega)
        · exact hi2 j (by omega)
      · exact Cut.of' 1 rfl (by omega) (by simp (disch := first | omega | simp (disch := omega) only [aF, aL, aN, aM, aQ, aR]) only [aW, aX, aV, aB, aN, aL, aP, aH, aM, aQ, aR, aF, Int.natCast_add, Int.natCast_mul, Int.add_sub_cancel, List.length_nil, Int.cast_ofNat_Int, and_true, true_and]) (by simp (disch := first | omega | simp (disch := omega) only [aF, aL, aN, aM, aQ, aR]) only [aW, aX, aV, aB, aN, aL, aP, aH, aM, aQ, aR, aF, Int.natCast_add, Int.natCast_mul, Int.add_sub_cancel, List.length_nil, Int.cast_ofNat_Int, and_true, true_and])
  have hie : i = xs.length := by omega
  subst hie
  have hb : firstE badE xs = 0 := firstE_none 0 hi2
  have hbd : ∀ i, i < xs.length → 0 ≤ xs.getD i 0 ∧ xs.getD i 0 ≤ 1073741824 := fun i hi => badE_zero (hi2 i hi)
  simp (disch := ((try simp only [List.length_set, List.length_replicate, List.length_append, List.length_cons, List.length_nil]); omega)) only [aW, aX, aV, aB, aN, aL, aP, aH, aM, aQ, aR]
  refine (refOuts_vr (w := w) m).same (by unfold mcA mcC; simp (disch := first | omega | simp (disch := omega) only [aF, aL, aN, aM, aQ, aR]) only [aW, aX, aV, aB, aN, aL, aP, aH, aM, aQ, aR, aF, Int.natCast_add, Int.natCast_mul, Int.add_sub_cancel, List.length_nil, Int.cast_ofNat_Int, and_true, true_and]) rfl (aret_of ?_)
  simp (disch := ((try simp only [List.length_set, List.length_replicate, List.length_append, List.length_cons, List.length_nil]); omega)) only [aW, aX, aV, aB, aN, aL, aP, aH, aM, aQ, aR]
  refine ib_intro (fun h3 => ?_) (fun h3 => ?_)
  · have he : msE m xs = 13 := by
      unfold msE; rw [if_neg h1, if_neg (by omega), if_pos (by omega)]
    simp (disch := ((try simp only [List.length_set, List.length_replicate, List.length_append, List.length_cons, List.length_nil]); omega)) only [aW, aX, aV, aB, aN, aL, aP, aH, aM, aQ, aR, r_ref33_Split]
    exact post0 (r := .tup [.v (.slice none 0 0), .v (.int .i64 13)]) (Fz.refl rfl) ⟨by unfold splitA; rw [if_pos (by omega), he], rfl⟩
  have he : msE m xs = 0 := by
    unfold msE; rw [if_neg h1, if_neg (by omega), if_neg (by omega)]
  have ho : outsN m ≠ 0 := by omega
  have ho4 : outsN m ≤ 4 := by
    have := (row_split ok ho (k := 0) (by omega) (t := 0) (by omega)).2.2.2.1; exact this
  simp (disch := ((try simp only [List.length_set, List.length_replicate, List.length_append, List.length_cons, List.length_nil]); omega)) only [aW, aX, aV, aB, aN, aL, aP, aH, aM, aQ, aR]
  refine AWP.cut (Cut.virt 7 1 rfl) ?_
  refine AWP.loopM g_ref33_Split_1 (fun j : Nat => j ≤ outsN m) (fun j => [(7, .vs 1 j 1 j), (8, .v (.int .i64 j))]) (fun j => hm [.fs w (rows w m)] j (ptrA j xs.length) (mtx j xs.length fun _ _ => 0)) (fun j => outsN m - j) 0 (by omega) ?_ ?_
  · refine Cut.same (H := hm [.fs w (rows w m)] 0 [] []) (by omega) (hm_ok (by simp (disch := first | omega | simp (disch := omega) only [aF, aL, aN, aM, aQ, aR]) only [aW, aX, aV, aB, aN, aL, aP, aH, aM, aQ, aR, aF, Int.natCast_add, Int.natCast_mul, Int.add_sub_cancel, List.length_nil, Int.cast_ofNat_Int, and_true, true_and]) rfl) ?_
    simp (disch := first | omega | simp (disch := omega) only [aF, aL, aN, aM, aQ, aR]) only [aW, aX, aV, aB, aN, aL, aP, aH, aM, aQ, aR, aF, Int.natCast_add, Int.natCast_mul, Int.add_sub_cancel, List.length_nil, Int.cast_ofNat_Int, and_true, true_and]
  rintro j hj
  simp (disch := ((try simp only [List.length_set, List.length_replicate, List.length_append, List.length_cons, List.length_nil]); omega)) only [aW, aX, aV, aB, aN, aL, aP, aH, aM, aQ, aR]
  refine (refOuts_vr (w := w) m).same (by unfold mcA mcC; simp (disch := first | omega | simp (disch := omega) only [aF, aL, aN, aM, aQ, aR]) only [aW, aX, aV, aB, aN, aL, aP, aH, aM, aQ, aR, aF, Int.natCast_add, Int.natCast_mul, Int.add_sub_cancel, List.length_nil, Int.cast_ofNat_Int, and_true, true_and]) rfl (aret_of ?_)
  by_cases hlt2 : j < outsN m
  · simp (disch := ((try simp only [List.length_set, List.length_replicate, List.length_append, List.length_cons, List.length_nil]); omega)) only [aW, aX, aV, aB, aN, aL, aP, aH, aM, aQ, aR, mtx_zero, ptr_take, ptr_app]
    refine ⟨j + 1, by omega, by omega, ?_⟩
    exact Cut.app (by omega) (hm_ok (by simp (disch := first | omega | simp (disch := omega) only [aF, aL, aN, aM, aQ, aR]) only [aW, aX, aV, aB, aN, aL, aP, aH, aM, aQ, aR, aF, Int.natCast_add, Int.natCast_mul, Int.add_sub_cancel, List.length_nil, Int.cast_ofNat_Int, and_true, true_and]) (ptr_bd _ _ _ (by simp (disch := ((try simp only [List.length_set, List.length_replicate, List.length_append, List.length_cons, List.length_nil]); omega)) only [aW, aX, aV, aB, aN, aL, aP, aH, aM, aQ, aR]; omega))) (by simp (disch := first | omega | simp (disch := omega) only [aF, aL, aN, aM, aQ, aR]) only [aW, aX, aV, aB, aN, aL, aP, aH, aM, aQ, aR, aF, Int.natCast_add, Int.natCast_mul, Int.add_sub_cancel, List.length_nil, Int.cast_ofNat_Int, and_true, true_and])
  have hje : j = outsN m := by omega
  subst hje
  rw [← msF_zero m xs]
  simp (disch := ((try simp only [List.length_set, List.length_replicate, List.length_append, List.length_cons, List.length_nil]); omega)) only [aW, aX, aV, aB, aN, aL, aP, aH, aM, aQ, aR]
  refine AWP.loopM g_ref33_Split_2 (fun x : Nat => x ≤ xs.length) (fun x => [(9, .v (.int .i64 x))]) (fun x => hm [.fs w (rows w m)] (outsN m) (ptrA (outsN m) xs.length) (mtx (outsN m) xs.length (msF m xs x 0))) (fun x => xs.length - x) 0 (by omega) ?_ ?_
  · exact Cut.same (by omega) (hm_ok (by simp (disch := first | omega | simp (disch := omega) only [aF, aL, aN, aM, aQ, aR]) only [aW, aX, aV, aB, aN, aL, aP, aH, aM, aQ, aR, aF, Int.natCast_add, Int.natCast_mul, Int.add_sub_cancel, List.length_nil, Int.cast_ofNat_Int, and_true, true_and]) (ptr_bd _ _ _ (by simp (disch := ((try simp only [List.length_set, List.length_replicate, List.length_append, List.length_cons, List.length_nil]); omega)) only [aW, aX, aV, aB, aN, aL, aP, aH, aM, aQ, aR]; omega))) (by simp (disch := first | omega | simp (disch := omega) only [aF, aL, aN, aM, aQ, aR]) only [aW, aX, aV, aB, aN, aL, aP, aH, aM, aQ, aR, aF, Int.natCast_add, Int.natCast_mul, Int.add_sub_cancel, List.length_nil, Int.cast_ofNat_Int, and_true, true_and])
  rintro x hx
  by_cases hltx : x < xs.length
  · have hbx := hbd x hltx
    have hdl := divM_len ok ho (k := x) (by omega) hbx
    have hms := fun o ho => msF_set m xs (x := x) (o := o) ho hltx
    simp (disch := ((try simp only [List.length_set, List.length_replicate, List.length_append, List.length_cons, List.length_nil]); omega)) only [aW, aX, aV, aB, aN, aL, aP, aH, aM, aQ, aR]
    refine (refParts_vr (w := w) m _ ok ho x (by omega) (xs.getD x 0) hbx).same (by unfold mcA mcC; simp (disch := first | omega | simp (disch := omega) only [aF, aL, aN, aM, aQ, aR]) only [aW, aX, aV, aB, aN, aL, aP, aH, aM, aQ, aR, aF, Int.natCast_add, Int.natCast_mul, Int.add_sub_cancel, List.length_nil, Int.cast_ofNat_Int, and_true, true_and]) (by simp (disch := first | omega | simp (disch := omega) only [aF, aL, aN, aM, aQ, aR]) only [aW, aX, aV, aB, aN, aL, aP, aH, aM, aQ, aR, aF, Int.natCast_add, Int.natCast_mul, Int.add_sub_cancel, List.length_nil, Int.cast_ofNat_Int, and_true, true_and]) (aret_of ?_)
    simp (disch := ((try simp only [List.length_set, List.length_replicate, List.length_append, List.length_cons, List.length_nil]); omega)) only [aW, aX, aV, aB, aN, aL, aP, aH, aM, aQ, aR]
    refine AWP.loopM g_ref33_Split_3 (fun o : Nat => o ≤ outsN m) (fun o => [(11, .v (.int .i64 o))]) (fun o => hm [.fs w (rows w m)] (outsN m) (ptrA (outsN m) xs.length) (mtx (outsN m) xs.length (msF m xs x o))) (fun o => outsN m - o) 0 (by omega) ?_ ?_
    · exact Cut.same (by omega) (hm_ok (by simp (disch := first | omega | simp (disch := omega) only [aF, aL, aN, aM, aQ, aR]) only [aW, aX, aV, aB, aN, aL, aP, aH, aM, aQ, aR, aF, Int.natCast_add, Int.natCast_mul, Int.add_sub_cancel, List.length_nil, Int.cast_ofNat_Int, and_true, true_and]) (ptr_bd _ _ _ (by simp (disch := ((try simp only [List.length_set, List.length_replicate, List.length_append, List.length_cons, List.length_nil]); omega)) only [aW, aX, aV, aB, aN, aL, aP, aH, aM, aQ, aR]; omega))) (by simp (disch := first | omega | simp (disch := omega) only [aF, aL, aN, aM, aQ, aR]) only [aW, aX, aV, aB, aN, aL, aP, aH, aM, aQ, aR, aF, Int.natCast_add, Int.natCast_mul, Int.add_sub_cancel, List.length_nil, Int.cast_ofNat_Int, and_true, true_and])
    rintro o ho2
    by_cases hlto : o < outsN m
    · simp (disch := ((try simp only [List.length_set, List.length_replicate, List.length_append, List.length_cons, List.length_nil]); omega)) only [aW, aX, aV, aB, aN, aL, aP, aH, aM, aQ, aR]
      rw [hms o hlto]
      refine ⟨o + 1, by omega, by omega, ?_⟩
      exact Cut.same (by omega) (hm_ok (by simp (disch := first | omega | simp (disch := omega) only [aF, aL, aN, aM, aQ, aR]) only [aW, aX, aV, aB, aN, aL, aP, aH, aM, aQ, aR, aF, Int.natCast_add, Int.natCast_mul, Int.add_sub_cancel, List.length_nil, Int.cast_ofNat_Int, and_true, true_and]) (ptr_bd _ _ _ (by simp (disch := ((try simp only [List.length_set, List.length_replicate, List.length_append, List.length_cons, List.length_nil]); omega)) only [aW, aX, aV, aB, aN, aL, aP, aH, aM, aQ, aR]; omega))) (by simp (disch := first | omega | simp (disch := omega) only [aF, aL, aN, aM, aQ, aR]) only [aW, aX, aV, aB, aN, aL, aP, aH, aM, aQ, aR, aF, Int.natCast_add, Int.natCast_mul, Int.add_sub_cancel, List.length_nil, Int.cast_ofNat_Int, and_true, true_and])
    have hoe : o = outsN m := by omega
    subst hoe
    rw [msF_next]
    simp (disch := ((try simp only [List.length_set, List.length_replicate, List.length_append, List.length_cons, List.length_nil]); omega)) only [aW, aX, aV, aB, aN, aL, aP, aH, aM, aQ, aR]
    refine ⟨x + 1, by omega, by omega, ?_⟩
    exact Cut.same (by omega) (hm_ok (by simp (disch := first | omega | simp (disch := omega) only [aF, aL, aN, aM, aQ, aR]) only [aW, aX, aV, aB, aN, aL, aP, aH, aM, aQ, aR, aF, Int.natCast_add, Int.natCast_mul, Int.add_sub_cancel, List.length_nil, Int.cast_ofNat_Int, and_true, true_and]) (ptr_bd _ _ _ (by simp (disch := ((try simp only [List.length_set, List.length_replicate, List.length_append, List.length_cons, List.length_nil]); omega)) only [aW, aX, aV, aB, aN, aL, aP, aH, aM, aQ, aR]; omega))) (by simp (disch := first | omega | simp (disch := omega) only [aF, aL, aN, aM, aQ, aR]) only [aW, aX, aV, aB, aN, aL, aP, aH, aM, aQ, aR, aF, Int.natCast_add, Int.natCast_mul, Int.add_sub_cancel, List.length_nil, Int.cast_ofNat_Int, and_true, true_and])
  have hxe : x = xs.length := by omega
  subst hxe
  rw [msF_end]
  simp (disch := ((try simp only [List.length_set, List.length_replicate, List.length_append, List.length_cons, List.length_nil]); omega)) only [aW, aX, aV, aB, aN, aL, aP, aH, aM, aQ, aR, r_ref33_Split]
  refine post0 (r := splitA m xs) ?_ ⟨rfl, rfl⟩
  unfold splitA
  rw [if_neg (by omega), he]
  exact Fz.tup ⟨fz_mtxV (msM_len m xs) (msM_rows m xs), Fz.refl rfl, trivial⟩
end Go.Proofs.Ytggnafgbjnemoaa
