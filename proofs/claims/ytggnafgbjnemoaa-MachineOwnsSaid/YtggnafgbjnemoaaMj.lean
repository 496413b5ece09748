/- The walk of MachineOwns. -/
import Derived.Test.YtggnafgbjnemoaaMh
namespace Go.Proofs.Ytggnafgbjnemoaa
open Go Go.Lft
set_option linter.unusedSimpArgs false
set_option linter.unusedVariables false
attribute [local congr] ob_congr bw_congr ib_congr ck_congr iwA_congr itA_congr aw_congr awp_congr sqA_congr bkA_congr vr_congr gd_congr

def ptr3 (k n : Nat) : List A := (List.range k).map fun o => .sl (o + 3) 0 1 0 n
def h3 (b a p : List A) (M : List (List Int)) : List Blk := ⟨0, b⟩ :: ⟨0, a⟩ :: ⟨0, p⟩ :: rowB M
theorem ptr3_len (k n : Nat) : (ptr3 k n).length = k := by simp [ptr3]
theorem ptr3_nth (k n o : Nat) (h : o < k) : nthA (ptr3 k n) o = some (.sl (o + 3) 0 1 0 n) := by simp [nthA_get, ptr3, h]
theorem h3_len (b a p : List A) (M : List (List Int)) : (h3 b a p M).length = M.length + 3 := by simp [h3, rowB]
theorem h3_b (b a p : List A) (M : List (List Int)) : blkAt (h3 b a p M) 0 0 = some b := by simp [h3, blkAt]
theorem h3_p (b a p : List A) (M : List (List Int)) : blkAt (h3 b a p M) 2 0 = some p := by simp [h3, blkAt]
theorem h3_r (b a p : List A) (k n : Nat) (f : Nat → Nat → Int) (o : Nat) (h : o < k) : blkAt (h3 b a p (mtx k n f)) (o + 3) 0 = some (ints ((List.range n).map fun i => f o i)) := by
  rw [← mtx_get k n f o h]
  exact rowB_at _ o (by rw [mtx_len]; exact h)
theorem h3_s (b a p : List A) (M : List (List Int)) (o : Nat) (l : List Int) : (h3 b a p M).set (o + 3) ⟨0, ints l⟩ = h3 b a p (M.set o l) := by simp [h3, rowB, List.map_set]
theorem ptr3_bd (k n m : Nat) (h : k + 3 ≤ m) : A.bdL m (ptr3 k n) = true := by
  refine bdL_mem fun a ha => ?_
  obtain ⟨o, ho, rfl⟩ := List.mem_map.1 ha
  have : o < k := by simpa using ho
  simp only [A.bd, decide_eq_true_eq]; omega
theorem h3_ok {b a p : List A} {M : List (List Int)} {n : Nat} (h0 : A.bdL n b = true) (h1 : A.bdL n a = true) (h2 : A.bdL n p = true) : okB n (h3 b a p M) := by
  intro B hB
  rcases List.mem_cons.1 hB with rfl | hB
  · exact h0
  rcases List.mem_cons.1 hB with rfl | hB
  · exact h1
  rcases List.mem_cons.1 hB with rfl | hB
  · exact h2
  obtain ⟨l, _, rfl⟩ := List.mem_map.1 hB
  exact ii_bd n l
theorem hm_cl (k n : Nat) (M : List (List Int)) : ((hm [.any] 0 (ptrA k n) M).all fun B => A.clL B.cells) = true := by
  rw [List.all_eq_true]
  intro B hB
  rcases List.mem_cons.1 hB with rfl | hB
  · rfl
  rcases List.mem_cons.1 hB with rfl | hB
  · refine clL_iff.2 fun a ha => ?_
    obtain ⟨o, _, rfl⟩ := List.mem_map.1 ha
    rfl
  obtain ⟨l, _, rfl⟩ := List.mem_map.1 hB
  exact ii_cl l
theorem hm_sh (b : List A) (k n : Nat) (M : List (List Int)) : (⟨0, b⟩ : Blk) :: (hm [.any] 0 (ptrA k n) M).map (Blk.sh 1) = h3 b [.any] (ptr3 k n) M := by
  have e1 : A.shL 1 (ptrA k n) = ptr3 k n := by
    rw [shL_map, ptrA, ptr3, List.map_map]
    refine List.map_congr_left fun o _ => ?_
    show A.sl (1 + (o + 2)) 0 1 0 n = _
    rw [show 1 + (o + 2) = o + 3 by omega]
  have e2 : (rowB M).map (Blk.sh 1) = rowB M := by
    unfold rowB
    rw [List.map_map]
    refine List.map_congr_left fun l _ => ?_
    show Blk.mk 0 (A.shL 1 (ints l)) = _
    rw [shL_bd _ (ii_bd 0 _)]
  simp only [hm, h3, List.map_cons, e2]
  simp only [Blk.sh, e1]; rfl

theorem aU :
    (∀ (k n : Nat), (ptr3 k n).length = k) ∧
    (∀ (k n o : Nat) (h : o < k), nthA (ptr3 k n) o = some (.sl (o + 3) 0 1 0 n)) ∧
    (∀ (b a p : List A) (M : List (List Int)), (h3 b a p M).length = M.length + 3) ∧
    (∀ (b a p : List A) (M : List (List Int)), blkAt (h3 b a p M) 0 0 = some b) ∧
    (∀ (b a p : List A) (M : List (List Int)), blkAt (h3 b a p M) 2 0 = some p) ∧
    (∀ (b a p : List A) (k n : Nat) (f : Nat → Nat → Int) (o : Nat) (h : o < k), blkAt (h3 b a p (mtx k n f)) (o + 3) 0 = some (ints ((List.range n).map fun i => f o i))) ∧
    (∀ (b a p : List A) (M : List (List Int)) (o : Nat) (l : List Int), (h3 b a p M).set (o + 3) ⟨0, ints l⟩ = h3 b a p (M.set o l)) :=
  ⟨@ptr3_len, @ptr3_nth, @h3_len, @h3_b, @h3_p, @h3_r, @h3_s⟩

/-- The rows when the first ones have been written over. -/
def ownF (F : Nat → Nat → Int) (o i : Nat) : Nat → Nat → Int := fun a b => if a < o ∨ (a = o ∧ b < i) then -1 - (a : Int) else F a b
theorem ownF_zero (F : Nat → Nat → Int) (k n : Nat) : mtx k n (ownF F 0 0) = mtx k n F := mtx_ext fun a b _ _ => by unfold ownF; rw [if_neg (by omega)]
theorem ownF_next (F : Nat → Nat → Int) (k n o : Nat) : mtx k n (ownF F o n) = mtx k n (ownF F (o + 1) 0) := mtx_ext fun a b _ hb => by
  unfold ownF
  by_cases h : a < o ∨ (a = o ∧ b < n)
  · rw [if_pos h, if_pos (by omega)]
  · rw [if_neg h, if_neg (by omega)]
theorem ownF_set (F : Nat → Nat → Int) {k n o i : Nat} (ho : o < k) (hi : i < n) : (mtx k n (ownF F o i)).set o (((List.range n).map fun b => ownF F o i o b).set i (-1 - (o : Int))) = mtx k n (ownF F o (i + 1)) := by
  rw [mtx_set _ o i _ ho hi]
  refine mtx_ext fun a b _ _ => ?_
  by_cases h : a = o ∧ b = i
  · obtain ⟨rfl, rfl⟩ := h
    rw [if_pos ⟨rfl, rfl⟩]; unfold ownF; rw [if_pos (by omega)]
  · rw [if_neg h]; unfold ownF
    by_cases h2 : a < o ∨ (a = o ∧ b < i)
    · rw [if_pos h2, if_pos (by omega)]
    · rw [if_neg h2, if_neg (by omega)]
theorem ownF_row (F : Nat → Nat → Int) (n o : Nat) : ((List.range n).map fun b => ownF F o 0 o b) = (List.range n).map fun b => F o b := by
  refine List.map_congr_left fun b _ => ?_
  unfold ownF; rw [if_neg (by omega)]
theorem ownF_end (F : Nat → Nat → Int) (k n o : Nat) (h : o < k) : ((List.range n).map fun b => ownF F k 0 o b) = (List.range n).map fun _ => -1 - (o : Int) := by
  refine List.map_congr_left fun b _ => ?_
  unfold ownF; rw [if_pos (by omega)]

theorem machineOwns_vr (m : Mc) (xs : List Int) (hx : xs.length ≤ maxLen) (hf : ∀ x ∈ xs, fit x) : VR P false n_law33_MachineOwns [mcA true m, .fs true (ints xs)] [] (isR (.v (.bool true))) := by
  refine vr_law33_MachineOwns (by simp) (.inr rfl) fun _ _ => ?_
  unfold mcA mcC
  simp (disch := ((try simp only [List.length_set, List.length_replicate, List.length_append, List.length_cons, List.length_nil]); omega)) only [aW, aX, aV, aB, aN, aL, aP, aH, aM, aQ, aR, aU, s_law33_MachineOwns, v_law33_MachineOwns]
  refine (light_vr (w := true) m).useE (LdL.refl (by simp (disch := first | omega | simp (disch := omega) only [aF, aL, aN, aM, aQ, aR, aU]) only [aW, aX, aV, aB, aN, aL, aP, aH, aM, aQ, aR, aU, aF, Int.natCast_add, Int.natCast_mul, Int.add_sub_cancel, List.length_nil, Int.cast_ofNat_Int, and_true, true_and])) light_c ?_
  rintro r ⟨_, b, rfl, hb⟩
  refine aret_of ?_
  by_cases hg : b = false ∨ 100 < xs.length
  · rcases hg with rfl | hl
    · simp (disch := ((try simp only [List.length_set, List.length_replicate, List.length_append, List.length_cons, List.length_nil]); omega)) only [aW, aX, aV, aB, aN, aL, aP, aH, aM, aQ, aR, aU]
      refine awake33_vr.same (by simp (disch := first | omega | simp (disch := omega) only [aF, aL, aN, aM, aQ, aR, aU]) only [aW, aX, aV, aB, aN, aL, aP, aH, aM, aQ, aR, aU, aF, Int.natCast_add, Int.natCast_mul, Int.add_sub_cancel, List.length_nil, Int.cast_ofNat_Int, and_true, true_and]) rfl (aret_of ?_)
      simp (disch := ((try simp only [List.length_set, List.length_replicate, List.length_append, List.length_cons, List.length_nil]); omega)) only [aW, aX, aV, aB, aN, aL, aP, aH, aM, aQ, aR, aU, r_law33_MachineOwns]
      exact post_v ⟨rfl, rfl⟩
    · cases b <;> simp (disch := ((try simp only [List.length_set, List.length_replicate, List.length_append, List.length_cons, List.length_nil]); omega)) only [aW, aX, aV, aB, aN, aL, aP, aH, aM, aQ, aR, aU]
      all_goals
        refine awake33_vr.same (by simp (disch := first | omega | simp (disch := omega) only [aF, aL, aN, aM, aQ, aR, aU]) only [aW, aX, aV, aB, aN, aL, aP, aH, aM, aQ, aR, aU, aF, Int.natCast_add, Int.natCast_mul, Int.add_sub_cancel, List.length_nil, Int.cast_ofNat_Int, and_true, true_and]) rfl (aret_of ?_)
        simp (disch := ((try simp only [List.length_set, List.length_replicate, List.length_append, List.length_cons, List.length_nil]); omega)) only [aW, aX, aV, aB, aN, aL, aP, aH, aM, aQ, aR, aU, r_law33_MachineOwns]
        exact post_v ⟨rfl, rfl⟩
  obtain rfl : b = true := by cases b with
    | true => rfl
    | false => exact (hg (.inl rfl)).elim
  simp (disch := ((try simp only [List.length_set, List.length_replicate, List.length_append, List.length_cons, List.length_nil]); omega)) only [aW, aX, aV, aB, aN, aL, aP, aH, aM, aQ, aR, aU]
  refine (machineSplitO_vr (w := true) (v := true) m xs).useS (LdL.refl (by simp (disch := first | omega | simp (disch := omega) only [aF, aL, aN, aM, aQ, aR, aU]) only [aW, aX, aV, aB, aN, aL, aP, aH, aM, aQ, aR, aU, aF, Int.natCast_add, Int.natCast_mul, Int.add_sub_cancel, List.length_nil, Int.cast_ofNat_Int, and_true, true_and])) ?_ ?_
  · rintro r G (⟨_, rfl, rfl⟩ | ⟨_, rfl, rfl⟩)
    · rfl
    · rw [hm_cl]; rfl
  rintro r G (⟨he, rfl, rfl⟩ | ⟨he, rfl, rfl⟩)
  · refine aret_of ?_
    simp (disch := ((try simp only [List.length_set, List.length_replicate, List.length_append, List.length_cons, List.length_nil]); omega)) only [aW, aX, aV, aB, aN, aL, aP, aH, aM, aQ, aR, aU, A.sh, A.shL, List.map_nil, List.append_nil]
    refine awake33_vr.same (by simp (disch := first | omega | simp (disch := omega) only [aF, aL, aN, aM, aQ, aR, aU]) only [aW, aX, aV, aB, aN, aL, aP, aH, aM, aQ, aR, aU, aF, Int.natCast_add, Int.natCast_mul, Int.add_sub_cancel, List.length_nil, Int.cast_ofNat_Int, and_true, true_and]) rfl (aret_of ?_)
    simp (disch := ((try simp only [List.length_set, List.length_replicate, List.length_append, List.length_cons, List.length_nil]); omega)) only [aW, aX, aV, aB, aN, aL, aP, aH, aM, aQ, aR, aU, r_law33_MachineOwns]
    exact post_v ⟨rfl, rfl⟩
  refine aret_of ?_
  obtain ⟨ok, ho, hbd⟩ := msE_zero he
  have hlen := ok.len
  have hm1 := ok.m1
  have hm2 := ok.m2
  have hml := msM_len m xs
  have ho4 : outsN m ≤ 4 := by
    have := (row_split ok ho (k := 0) (by omega) (t := 0) (by omega)).2.2.2.1; exact this
  have hmem : [(⟨0, [.fs true (rows true m)]⟩ : Blk)] ++ (hm [.any] 0 (ptrA (outsN m) xs.length) (msM m xs)).map (Blk.sh ([(⟨0, [.fs true (rows true m)]⟩ : Blk)].length)) = h3 [.fs true (rows true m)] [.any] (ptr3 (outsN m) xs.length) (msM m xs) := hm_sh _ _ _ _
  rw [hmem]
  have hHl := h3_len [.fs true (rows true m)] [.any] (ptr3 (outsN m) xs.length) (msM m xs)
  have hHb := h3_b [.fs true (rows true m)] [.any] (ptr3 (outsN m) xs.length) (msM m xs)
  rw [hml] at hHl
  have hHo : okB (outsN m + 3) (h3 [.fs true (rows true m)] [.any] (ptr3 (outsN m) xs.length) (msM m xs)) := h3_ok (by simp (disch := first | omega | simp (disch := omega) only [aF, aL, aN, aM, aQ, aR, aU]) only [aW, aX, aV, aB, aN, aL, aP, aH, aM, aQ, aR, aU, aF, Int.natCast_add, Int.natCast_mul, Int.add_sub_cancel, List.length_nil, Int.cast_ofNat_Int, and_true, true_and]) rfl (ptr3_bd _ _ _ (by omega))
  have hs := machineSplit_vr (w := true) (v := true) m xs
  have hsb := splitA_bd m xs
  rw [splitA_ok he] at hs hsb
  generalize hH : h3 [.fs true (rows true m)] [.any] (ptr3 (outsN m) xs.length) (msM m xs) = H at *
  have n2 : (1 : Nat) + 1 = 2 := rfl
  simp (disch := ((try simp only [List.length_set, List.length_replicate, List.length_append, List.length_cons, List.length_nil]); omega)) only [aW, aX, aV, aB, aN, aL, aP, aH, aM, aQ, aR, aU, A.sh, A.shL, hHb, n2]
  refine hs.same (by unfold mcA mcC; simp (disch := first | omega | simp (disch := omega) only [aF, aL, aN, aM, aQ, aR, aU]) only [aW, aX, aV, aB, aN, aL, aP, aH, aM, aQ, aR, aU, aF, Int.natCast_add, Int.natCast_mul, Int.add_sub_cancel, List.length_nil, Int.cast_ofNat_Int, and_true, true_and]) hsb (aret_of ?_)
  simp (disch := ((try simp only [List.length_set, List.length_replicate, List.length_append, List.length_cons, List.length_nil]); omega)) only [aW, aX, aV, aB, aN, aL, aP, aH, aM, aQ, aR, aU]
  obtain ⟨F, hF⟩ : ∃ F : Nat → Nat → Int, F = fun o i => (divM m i (xs.getD i 0)).getD o 0 := ⟨_, rfl⟩
  have hM : msM m xs = mtx (outsN m) xs.length F := by rw [hF]; rfl
  have hz : Fz H.length (H ++ [⟨0, ints xs⟩]) (.sl H.length 0 1 0 xs.length) (.fs true (ints xs)) = True := eq_true (fz_slI _ _ _ _ _ _ (Nat.le_refl _) rfl (by rw [blkAt_new0]; rfl))
  have hF0 : ∀ o i, o < outsN m → i < xs.length → 0 ≤ F o i ∧ F o i ≤ 1073741824 := fun o i h1 h2 => by
    have h3 := divM_le ok ho (k := i) (by omega) (hbd i h2) o h1
    have h4 := (hbd i h2).2
    rw [hF]; simp only; omega
  have hxl := mtx_len (outsN m) xs.length F
  refine AWP.loopM g_law33_MachineOwns_0 (fun o : Nat => o ≤ outsN m) (fun o => [(6, .fs true (ints xs)), (9, .v (.int .i64 o)), (17, .any)]) (fun o => h3 [.fs true (rows true m)] [.any] (ptr3 (outsN m) xs.length) (mtx (outsN m) xs.length (ownF F o 0))) (fun o => outsN m - o) 0 (by omega) ?_ ?_
  · rw [ownF_zero, ← hM, hH]
    refine Cut.app (by omega) (hHo.up (by omega)) ?_
    simp (disch := first | omega | simp (disch := omega) only [aF, aL, aN, aM, aQ, aR, aU]) only [aW, aX, aV, aB, aN, aL, aP, aH, aM, aQ, aR, aU, aF, Int.natCast_add, Int.natCast_mul, Int.add_sub_cancel, List.length_nil, Int.cast_ofNat_Int, and_true, true_and, hz]
  rintro o ho2
  by_cases hlo : o < outsN m
  · have hr := ownF_row F xs.length o
    have hsm := same30_vr (w := true) (v := false) ((List.range xs.length).map fun b => F o b) ((List.range xs.length).map fun b => F o b) (by rw [mtx_rl]; omega)
    rw [decide_eq_true rfl] at hsm
    rw [hM]
    simp (disch := ((try simp only [List.length_set, List.length_replicate, List.length_append, List.length_cons, List.length_nil]); omega)) only [aW, aX, aV, aB, aN, aL, aP, aH, aM, aQ, aR, aU, hr]
    refine hsm.use ⟨Ld.refl (by simp (disch := first | omega | simp (disch := omega) only [aF, aL, aN, aM, aQ, aR, aU]) only [aW, aX, aV, aB, aN, aL, aP, aH, aM, aQ, aR, aU, aF, Int.natCast_add, Int.natCast_mul, Int.add_sub_cancel, List.length_nil, Int.cast_ofNat_Int, and_true, true_and]), ld_slI _ (o + 3) 0 _ _ (mtx_rl _ _).symm (by simp (disch := ((try simp only [List.length_set, List.length_replicate, List.length_append, List.length_cons, List.length_nil]); omega)) only [aW, aX, aV, aB, aN, aL, aP, aH, aM, aQ, aR, aU, hr]), trivial⟩ rfl (aret_of ?_)
    simp (disch := ((try simp only [List.length_set, List.length_replicate, List.length_append, List.length_cons, List.length_nil]); omega)) only [aW, aX, aV, aB, aN, aL, aP, aH, aM, aQ, aR, aU]
    refine AWP.loopM g_law33_MachineOwns_1 (fun i : Nat => i ≤ xs.length) (fun i => [(10, .v (.int .i64 i))]) (fun i => h3 [.fs true (rows true m)] [.any] (ptr3 (outsN m) xs.length) (mtx (outsN m) xs.length (ownF F o i))) (fun i => xs.length - i) 0 (by omega) ?_ ?_
    · exact Cut.same (by omega) (h3_ok (by simp (disch := first | omega | simp (disch := omega) only [aF, aL, aN, aM, aQ, aR, aU]) only [aW, aX, aV, aB, aN, aL, aP, aH, aM, aQ, aR, aU, aF, Int.natCast_add, Int.natCast_mul, Int.add_sub_cancel, List.length_nil, Int.cast_ofNat_Int, and_true, true_and]) rfl (ptr3_bd _ _ _ (by simp (disch := ((try simp only [List.length_set, List.length_replicate, List.length_append, List.length_cons, List.length_nil]); omega)) only [aW, aX, aV, aB, aN, aL, aP, aH, aM, aQ, aR, aU]; omega))) (by simp (disch := first | omega | simp (disch := omega) only [aF, aL, aN, aM, aQ, aR, aU]) only [aW, aX, aV, aB, aN, aL, aP, aH, aM, aQ, aR, aU, aF, Int.natCast_add, Int.natCast_mul, Int.add_sub_cancel, List.length_nil, Int.cast_ofNat_Int, and_true, true_and])
    rintro i hi
    by_cases hlt : i < xs.length
    · have hset := ownF_set F (k := outsN m) hlo hlt
      simp (disch := ((try simp only [List.length_set, List.length_replicate, List.length_append, List.length_cons, List.length_nil]); omega)) only [aW, aX, aV, aB, aN, aL, aP, aH, aM, aQ, aR, aU, hset]
      refine ⟨i + 1, by omega, by omega, ?_⟩
      exact Cut.same (by omega) (h3_ok (by simp (disch := first | omega | simp (disch := omega) only [aF, aL, aN, aM, aQ, aR, aU]) only [aW, aX, aV, aB, aN, aL, aP, aH, aM, aQ, aR, aU, aF, Int.natCast_add, Int.natCast_mul, Int.add_sub_cancel, List.length_nil, Int.cast_ofNat_Int, and_true, true_and]) rfl (ptr3_bd _ _ _ (by simp (disch := ((try simp only [List.length_set, List.length_replicate, List.length_append, List.length_cons, List.length_nil]); omega)) only [aW, aX, aV, aB, aN, aL, aP, aH, aM, aQ, aR, aU]; omega))) (by simp (disch := first | omega | simp (disch := omega) only [aF, aL, aN, aM, aQ, aR, aU]) only [aW, aX, aV, aB, aN, aL, aP, aH, aM, aQ, aR, aU, aF, Int.natCast_add, Int.natCast_mul, Int.add_sub_cancel, List.length_nil, Int.cast_ofNat_Int, and_true, true_and])
    · have hie : i = xs.length := by omega
      subst hie
      rw [ownF_next]
      simp (disch := ((try simp only [List.length_set, List.length_replicate, List.length_append, List.length_cons, List.length_nil]); omega)) only [aW, aX, aV, aB, aN, aL, aP, aH, aM, aQ, aR, aU]
      refine ⟨o + 1, by omega, by omega, ?_⟩
      exact Cut.same (by omega) (h3_ok (by simp (disch := first | omega | simp (disch := omega) only [aF, aL, aN, aM, aQ, aR, aU]) only [aW, aX, aV, aB, aN, aL, aP, aH, aM, aQ, aR, aU, aF, Int.natCast_add, Int.natCast_mul, Int.add_sub_cancel, List.length_nil, Int.cast_ofNat_Int, and_true, true_and]) rfl (ptr3_bd _ _ _ (by simp (disch := ((try simp only [List.length_set, List.length_replicate, List.length_append, List.length_cons, List.length_nil]); omega)) only [aW, aX, aV, aB, aN, aL, aP, aH, aM, aQ, aR, aU]; omega))) (by simp (disch := first | omega | simp (disch := omega) only [aF, aL, aN, aM, aQ, aR, aU]) only [aW, aX, aV, aB, aN, aL, aP, aH, aM, aQ, aR, aU, aF, Int.natCast_add, Int.natCast_mul, Int.add_sub_cancel, List.length_nil, Int.cast_ofNat_Int, and_true, true_and])
  · have hoe : o = outsN m := by omega
    subst hoe
    rw [hM]
    simp (disch := ((try simp only [List.length_set, List.length_replicate, List.length_append, List.length_cons, List.length_nil]); omega)) only [aW, aX, aV, aB, aN, aL, aP, aH, aM, aQ, aR, aU]
    refine AWP.loopM g_law33_MachineOwns_2 (fun o : Nat => o ≤ outsN m) (fun o => [(11, .v (.int .i64 o))]) (fun o => h3 [.fs true (rows true m)] [.any] (ptr3 (outsN m) xs.length) (mtx (outsN m) xs.length (ownF F (outsN m) 0))) (fun o => outsN m - o) 0 (by omega) ?_ ?_
    · exact Cut.same (by omega) (h3_ok (by simp (disch := first | omega | simp (disch := omega) only [aF, aL, aN, aM, aQ, aR, aU]) only [aW, aX, aV, aB, aN, aL, aP, aH, aM, aQ, aR, aU, aF, Int.natCast_add, Int.natCast_mul, Int.add_sub_cancel, List.length_nil, Int.cast_ofNat_Int, and_true, true_and]) rfl (ptr3_bd _ _ _ (by simp (disch := ((try simp only [List.length_set, List.length_replicate, List.length_append, List.length_cons, List.length_nil]); omega)) only [aW, aX, aV, aB, aN, aL, aP, aH, aM, aQ, aR, aU]; omega))) (by simp (disch := first | omega | simp (disch := omega) only [aF, aL, aN, aM, aQ, aR, aU]) only [aW, aX, aV, aB, aN, aL, aP, aH, aM, aQ, aR, aU, aF, Int.natCast_add, Int.natCast_mul, Int.add_sub_cancel, List.length_nil, Int.cast_ofNat_Int, and_true, true_and])
    rintro o ho3
    by_cases hlo2 : o < outsN m
    · simp (disch := ((try simp only [List.length_set, List.length_replicate, List.length_append, List.length_cons, List.length_nil]); omega)) only [aW, aX, aV, aB, aN, aL, aP, aH, aM, aQ, aR, aU]
      refine AWP.loopM g_law33_MachineOwns_3 (fun i : Nat => i ≤ xs.length) (fun i => [(12, .v (.int .i64 i))]) (fun i => h3 [.fs true (rows true m)] [.any] (ptr3 (outsN m) xs.length) (mtx (outsN m) xs.length (ownF F (outsN m) 0))) (fun i => xs.length - i) 0 (by omega) ?_ ?_
      · exact Cut.same (by omega) (h3_ok (by simp (disch := first | omega | simp (disch := omega) only [aF, aL, aN, aM, aQ, aR, aU]) only [aW, aX, aV, aB, aN, aL, aP, aH, aM, aQ, aR, aU, aF, Int.natCast_add, Int.natCast_mul, Int.add_sub_cancel, List.length_nil, Int.cast_ofNat_Int, and_true, true_and]) rfl (ptr3_bd _ _ _ (by simp (disch := ((try simp only [List.length_set, List.length_replicate, List.length_append, List.length_cons, List.length_nil]); omega)) only [aW, aX, aV, aB, aN, aL, aP, aH, aM, aQ, aR, aU]; omega))) (by simp (disch := first | omega | simp (disch := omega) only [aF, aL, aN, aM, aQ, aR, aU]) only [aW, aX, aV, aB, aN, aL, aP, aH, aM, aQ, aR, aU, aF, Int.natCast_add, Int.natCast_mul, Int.add_sub_cancel, List.length_nil, Int.cast_ofNat_Int, and_true, true_and])
      rintro i hi
      by_cases hlt : i < xs.length
      · have hend := ownF_end F (outsN m) xs.length o hlo2
        have hFo := hF0 o i hlo2 hlt
        have hl1 := mtx_rl xs.length (fun i => F o i)
        have hl2 := mtx_rl xs.length (fun _ => -1 - (o : Int))
        simp (disch := ((try simp only [List.length_set, List.length_replicate, List.length_append, List.length_cons, List.length_nil]); omega)) only [aW, aX, aV, aB, aN, aL, aP, aH, aM, aQ, aR, aU, hend]
        refine ⟨i + 1, by omega, by omega, ?_⟩
        exact Cut.same (by omega) (h3_ok (by simp (disch := first | omega | simp (disch := omega) only [aF, aL, aN, aM, aQ, aR, aU]) only [aW, aX, aV, aB, aN, aL, aP, aH, aM, aQ, aR, aU, aF, Int.natCast_add, Int.natCast_mul, Int.add_sub_cancel, List.length_nil, Int.cast_ofNat_Int, and_true, true_and]) rfl (ptr3_bd _ _ _ (by simp (disch := ((try simp only [List.length_set, List.length_replicate, List.length_append, List.length_cons, List.length_nil]); omega)) only [aW, aX, aV, aB, aN, aL, aP, aH, aM, aQ, aR, aU]; omega))) (by simp (disch := first | omega | simp (disch := omega) only [aF, aL, aN, aM, aQ, aR, aU]) only [aW, aX, aV, aB, aN, aL, aP, aH, aM, aQ, aR, aU, aF, Int.natCast_add, Int.natCast_mul, Int.add_sub_cancel, List.length_nil, Int.cast_ofNat_Int, and_true, true_and])
      · have hie : i = xs.length := by omega
        subst hie
        simp (disch := ((try simp only [List.length_set, List.length_replicate, List.length_append, List.length_cons, List.length_nil]); omega)) only [aW, aX, aV, aB, aN, aL, aP, aH, aM, aQ, aR, aU]
        refine ⟨o + 1, by omega, by omega, ?_⟩
        exact Cut.same (by omega) (h3_ok (by simp (disch := first | omega | simp (disch := omega) only [aF, aL, aN, aM, aQ, aR, aU]) only [aW, aX, aV, aB, aN, aL, aP, aH, aM, aQ, aR, aU, aF, Int.natCast_add, Int.natCast_mul, Int.add_sub_cancel, List.length_nil, Int.cast_ofNat_Int, and_true, true_and]) rfl (ptr3_bd _ _ _ (by simp (disch := ((try simp only [List.length_set, List.length_replicate, List.length_append, List.length_cons, List.length_nil]); omega)) only [aW, aX, aV, aB, aN, aL, aP, aH, aM, aQ, aR, aU]; omega))) (by simp (disch := first | omega | simp (disch := omega) only [aF, aL, aN, aM, aQ, aR, aU]) only [aW, aX, aV, aB, aN, aL, aP, aH, aM, aQ, aR, aU, aF, Int.natCast_add, Int.natCast_mul, Int.add_sub_cancel, List.length_nil, Int.cast_ofNat_Int, and_true, true_and])
    · have hoe : o = outsN m := by omega
      subst hoe
      have hse := same30_vr (w := true) (v := true) xs xs (by omega)
      rw [decide_eq_true rfl] at hse
      simp (disch := ((try simp only [List.length_set, List.length_replicate, List.length_append, List.length_cons, List.length_nil]); omega)) only [aW, aX, aV, aB, aN, aL, aP, aH, aM, aQ, aR, aU]
      refine hse.same (by simp (disch := first | omega | simp (disch := omega) only [aF, aL, aN, aM, aQ, aR, aU]) only [aW, aX, aV, aB, aN, aL, aP, aH, aM, aQ, aR, aU, aF, Int.natCast_add, Int.natCast_mul, Int.add_sub_cancel, List.length_nil, Int.cast_ofNat_Int, and_true, true_and]) rfl (aret_of ?_)
      simp (disch := ((try simp only [List.length_set, List.length_replicate, List.length_append, List.length_cons, List.length_nil]); omega)) only [aW, aX, aV, aB, aN, aL, aP, aH, aM, aQ, aR, aU]
      refine awake33_vr.same (by simp (disch := first | omega | simp (disch := omega) only [aF, aL, aN, aM, aQ, aR, aU]) only [aW, aX, aV, aB, aN, aL, aP, aH, aM, aQ, aR, aU, aF, Int.natCast_add, Int.natCast_mul, Int.add_sub_cancel, List.length_nil, Int.cast_ofNat_Int, and_true, true_and]) rfl (aret_of ?_)
      simp (disch := ((try simp only [List.length_set, List.length_replicate, List.length_append, List.length_cons, List.length_nil]); omega)) only [aW, aX, aV, aB, aN, aL, aP, aH, aM, aQ, aR, aU, r_law33_MachineOwns]
      exact post_v ⟨rfl, rfl⟩
end Go.Proofs.Ytggnafgbjnemoaa
