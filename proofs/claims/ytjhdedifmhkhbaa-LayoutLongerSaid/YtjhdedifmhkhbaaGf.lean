/- Groups and its reference. No statement is claimed here. -/
import Derived.Test.YtjhdedifmhkhbaaGe
namespace Go.Proofs.Ytjhdedifmhkhbaa
open Go Go.Lft
set_option linter.unusedSimpArgs false
set_option linter.unusedVariables false
attribute [local congr] ob_congr bw_congr ib_congr ck_congr iwA_congr itA_congr aw_congr awp_congr sqA_congr bkA_congr vr_congr gd_congr

theorem FzL.app {m : Nat} {H : List Blk} : ∀ {l r l' r' : List A}, FzL m H l l' → FzL m H r r' → FzL m H (l ++ r) (l' ++ r')
  | [], r, [], r', _, h => h
  | a :: l, r, b :: l', r', h, k => ⟨h.1, FzL.app h.2 k⟩
  | [], _, _ :: _, _, h, _ => h.elim
  | _ :: _, _, [], _, h, _ => h.elim

/-- Truth values by number. -/
def tab (N : Nat) (D : Nat → Bool) : List Bool := (List.range N).map D
theorem tab_len (N : Nat) (D : Nat → Bool) : (tab N D).length = N := by simp [tab]
theorem tab_get (N : Nat) (D : Nat → Bool) (k : Nat) (h : k < N) : (tab N D).getD k false = D k := by simp [tab, List.getD_eq_getElem?_getD, h]
theorem tab_ext {N : Nat} {D E : Nat → Bool} (h : ∀ k, k < N → D k = E k) : tab N D = tab N E := by
  unfold tab; exact List.map_congr_left fun k hk => h k (List.mem_range.1 hk)
theorem tab_set (N : Nat) (D : Nat → Bool) (k : Nat) (h : k < N) : (tab N D).set k true = tab N (fun j => D j || j == k) := by
  apply List.ext_getElem (by simp [tab])
  intro i h1 h2
  simp only [tab, List.length_set, List.length_map, List.length_range] at h1
  rw [List.getElem_set]
  by_cases hk : k = i
  · subst hk; simp [tab]
  · have : (i == k) = false := by simpa using Ne.symm hk
    simp [tab, hk, this]
theorem tab_rep (N : Nat) : List.replicate N false = tab N fun _ => false := by
  apply List.ext_getElem (by simp [tab])
  intro i h1 h2
  simp [tab]

/-- Both ways lead. -/
def both (n : Int) (l : Arcs) (v k : Nat) : Bool := (reachL n l v).getD k false && (reachL n (backL l) v).getD k false
/-- The nodes from a to b - 1 that go with v. -/
def memb (n : Int) (l : Arcs) (v a b : Nat) : List Int := ((List.range b).filter fun j => decide (a ≤ j) && both n l v j).map Int.ofNat
theorem memb_succ (n : Int) (l : Arcs) (v a b : Nat) : memb n l v a (b + 1) = if a ≤ b ∧ both n l v b = true then memb n l v a b ++ [(b : Int)] else memb n l v a b := by
  unfold memb
  rw [List.range_succ, List.filter_append]
  by_cases h : a ≤ b ∧ both n l v b = true
  · simp [h]
  · rw [if_neg h]
    by_cases h1 : a ≤ b
    · have h2 : both n l v b = false := by simpa [h1] using h
      simp [h2]
    · simp [h1]
/-- What was done, and the groups, before node v. -/
def gst (n : Int) (l : Arcs) : Nat → (Nat → Bool) × List (List Int)
  | 0 => (fun _ => false, [])
  | v + 1 => if (gst n l v).1 v then gst n l v else (fun j => (gst n l v).1 j || both n l v j, (gst n l v).2 ++ [memb n l v 0 n.toNat])
def groupsR (n : Int) (l : Arcs) : List (List Int) × Int := if gcheck n l ≠ 0 then ([], gcheck n l) else ((gst n l n.toNat).2, 0)

theorem memb_len (n : Int) (l : Arcs) (v a b : Nat) : (memb n l v a b).length ≤ b := by
  unfold memb
  have := List.length_filter_le (fun j => decide (a ≤ j) && both n l v j) (List.range b)
  simpa using this
theorem gst_len (n : Int) (l : Arcs) (v : Nat) : (gst n l v).2.length ≤ v := by
  induction v with
  | zero => simp [gst]
  | succ v ih => simp only [gst]; split
                 · omega
                 · simp; omega

theorem path_swap {l : Arcs} {u v : Int} (h : Path l u v) : Path (backL l) v u := by
  induction h with
  | refl u => exact .refl u
  | step h p ih => exact ih.snoc (List.mem_map.2 ⟨_, h, rfl⟩)
theorem backL_back (l : Arcs) : backL (backL l) = l := by simp [backL]
theorem path_back {l : Arcs} {u v : Int} : Path (backL l) u v ↔ Path l v u :=
  ⟨fun h => by have := path_swap h; rwa [backL_back] at this, path_swap⟩
theorem both_iff {n : Int} {l : Arcs} (hr : inR n l) {v k : Nat} (hv : v < n.toNat) (hk : k < n.toNat) : both n l v k = true ↔ Path l v k ∧ Path l k v := by
  unfold both
  rw [Bool.and_eq_true]
  have h1 := reachL_iff hr (v := v) (by omega) (by omega) (w := k) (by omega)
  have h2 := reachL_iff (inR_swap hr) (v := v) (by omega) (by omega) (w := k) (by omega)
  unfold vis at h1 h2
  rw [Int.toNat_natCast] at h1 h2
  rw [h1, show (reachL n (backL l) v).getD k false = true ↔ Path (backL l) v k from h2, path_back]
theorem gst_done {n : Int} {l : Arcs} (hr : inR n l) : ∀ (v : Nat), v ≤ n.toNat → ∀ k, k < n.toNat → ((gst n l v).1 k = true ↔ ∃ u, u < v ∧ both n l u k = true)
  | 0, _, k, _ => by simp [gst]
  | v + 1, hv, k, hk => by
    have ih := gst_done hr v (by omega)
    simp only [gst]
    split
    · rename_i hd
      rw [ih k hk]
      constructor
      · rintro ⟨u, h1, h2⟩; exact ⟨u, by omega, h2⟩
      · rintro ⟨u, h1, h2⟩
        by_cases huv : u = v
        · subst huv
          obtain ⟨x, h3, h4⟩ := (ih u (by omega)).1 hd
          refine ⟨x, h3, ?_⟩
          rw [both_iff hr (by omega) (by omega)] at h2 h4 ⊢
          exact ⟨h4.1.trans h2.1, h2.2.trans h4.2⟩
        · exact ⟨u, by omega, h2⟩
    · simp only [Bool.or_eq_true, ih k hk]
      constructor
      · rintro (⟨u, h1, h2⟩ | h2)
        · exact ⟨u, by omega, h2⟩
        · exact ⟨v, by omega, h2⟩
      · rintro ⟨u, h1, h2⟩
        by_cases huv : u = v
        · subst huv; exact .inr h2
        · exact .inl ⟨u, by omega, h2⟩
theorem both_low {n : Int} {l : Arcs} (hr : inR n l) {v : Nat} (hv : v < n.toNat) (hd : (gst n l v).1 v = false) {j : Nat} (hj : j < v) : both n l v j = false := by
  apply Bool.eq_false_iff.2
  intro hb
  have := (gst_done hr v (by omega) v hv).2 ⟨j, by omega, by
    rw [both_iff hr hv (by omega)] at hb
    rw [both_iff hr (by omega) hv]; exact ⟨hb.2, hb.1⟩⟩
  rw [hd] at this; cases this
theorem memb_from {n : Int} {l : Arcs} (hr : inR n l) {v : Nat} (hv : v < n.toNat) (hd : (gst n l v).1 v = false) : memb n l v v n.toNat = memb n l v 0 n.toNat := by
  unfold memb
  congr 1
  apply List.filter_congr
  intro j hj
  have hj := List.mem_range.1 hj
  by_cases h : v ≤ j
  · simp [h]
  · simp [both_low hr hv hd (show j < v by omega)]

theorem groups_vr {w : Bool} (n : Int) (l : Arcs) : VR P false n_graph_Groups [graphA w n l] [] (isR (.tup [.fs true (rows true (groupsR n l).1), .v (.int .i64 (groupsR n l).2)])) := by
  refine vr_graph_Groups (by simp) (.inr rfl) fun _ _ => ?_
  unfold graphA
  simp (disch := ((try simp only [List.length_set, List.length_replicate, List.length_append, List.length_cons, List.length_nil]); omega)) only [aW, aX, aV, aB, aN, aL, aP, aH, s_graph_Groups, v_graph_Groups]
  refine (check_vr (w := w) n l).same (by unfold graphA; simp (disch := first | omega | simp (disch := omega) only [aF, aL, aN]) only [aW, aX, aV, aB, aN, aL, aP, aH, aF, Int.natCast_add, Int.natCast_mul, Int.add_sub_cancel, List.length_nil, Int.cast_ofNat_Int, and_true, true_and]) rfl (aret_of ?_)
  simp (disch := ((try simp only [List.length_set, List.length_replicate, List.length_append, List.length_cons, List.length_nil]); omega)) only [aW, aX, aV, aB, aN, aL, aP, aH]
  refine ib_intro (fun h1 => ?_) (fun h1 => ?_)
  · simp (disch := ((try simp only [List.length_set, List.length_replicate, List.length_append, List.length_cons, List.length_nil]); omega)) only [aW, aX, aV, aB, aN, aL, aP, aH, r_graph_Groups]
    refine post_err ⟨?_, rfl⟩
    unfold groupsR; rw [if_pos h1]; rfl
  have h1 : gcheck n l = 0 := Classical.not_not.1 h1
  obtain ⟨c1, c2, c3, c4⟩ := gcheck_ok h1
  simp (disch := ((try simp only [List.length_set, List.length_replicate, List.length_append, List.length_cons, List.length_nil]); omega)) only [aW, aX, aV, aB, aN, aL, aP, aH]
  refine AWP.cut (Cut.virt 5 1 rfl) ?_
  refine AWP.loopP (α := Nat × Nat) g_graph_Groups_0 (fun p => p.1 ≤ n.toNat) (fun p => [(5, .vs 2 p.2 1 (gst n l p.1).2.length), (7, .v (.int .i64 p.1))]) (fun p => [(1, ⟨0, bools (tab n.toNat (gst n l p.1).1)⟩), (2, ⟨p.2, rows true (gst n l p.1).2⟩)]) (fun p => n.toNat - p.1) (0, 0) (by simp) ?_ ?_
  · simp (disch := ((try simp only [List.length_set, List.length_replicate, List.length_append, List.length_cons, List.length_nil]); omega)) only [aW, aX, aV, aB, aN, aL, aP, aH, tab_rep, gst]
    exact Cut.of' 3 rfl (by omega) (by simp (disch := first | omega | simp (disch := omega) only [aF, aL, aN]) only [aW, aX, aV, aB, aN, aL, aP, aH, aF, Int.natCast_add, Int.natCast_mul, Int.add_sub_cancel, List.length_nil, Int.cast_ofNat_Int, and_true, true_and, r_nil]) (by simp (disch := first | omega | simp (disch := omega) only [aF, aL, aN]) only [aW, aX, aV, aB, aN, aL, aP, aH, aF, Int.natCast_add, Int.natCast_mul, Int.add_sub_cancel, List.length_nil, Int.cast_ofNat_Int, and_true, true_and])
  rintro ⟨v, ver⟩ hv
  simp only at hv
  have hol := gst_len n l v
  have htl := tab_len n.toNat (gst n l v).1
  by_cases hlt : v < n.toNat
  · have hg := tab_get n.toNat (gst n l v).1 v hlt
    cases hd : (gst n l v).1 v with
    | true =>
      simp (disch := ((try simp only [List.length_set, List.length_replicate, List.length_append, List.length_cons, List.length_nil]); omega)) only [aW, aX, aV, aB, aN, aL, aP, aH, hg, hd]
      refine ⟨(v + 1, ver), by simp only; omega, by simp only; omega, ?_⟩
      simp only [gst, hd, if_true]
      exact Cut.of' 3 rfl (by omega) (by simp (disch := first | omega | simp (disch := omega) only [aF, aL, aN]) only [aW, aX, aV, aB, aN, aL, aP, aH, aF, Int.natCast_add, Int.natCast_mul, Int.add_sub_cancel, List.length_nil, Int.cast_ofNat_Int, and_true, true_and]) (by simp (disch := first | omega | simp (disch := omega) only [aF, aL, aN]) only [aW, aX, aV, aB, aN, aL, aP, aH, aF, Int.natCast_add, Int.natCast_mul, Int.add_sub_cancel, List.length_nil, Int.cast_ofNat_Int, and_true, true_and])
    | false =>
      have vr : ∀ es, visitR n l es v = (reachL n es v, 0) := fun es => by unfold visitR; rw [if_neg (by simp [h1]), if_neg (by omega)]
      have hv1 := reach_vr (w := w) n l v
      have hv2 := back_vr (w := w) n l v
      rw [vr] at hv1 hv2
      have rl1 := reachL_len n l v
      have rl2 := reachL_len n (backL l) v
      simp (disch := ((try simp only [List.length_set, List.length_replicate, List.length_append, List.length_cons, List.length_nil]); omega)) only [aW, aX, aV, aB, aN, aL, aP, aH, hg, hd]
      refine hv1.same (by unfold graphA; simp (disch := first | omega | simp (disch := omega) only [aF, aL, aN]) only [aW, aX, aV, aB, aN, aL, aP, aH, aF, Int.natCast_add, Int.natCast_mul, Int.add_sub_cancel, List.length_nil, Int.cast_ofNat_Int, and_true, true_and]) (by simp (disch := first | omega | simp (disch := omega) only [aF, aL, aN]) only [aW, aX, aV, aB, aN, aL, aP, aH, aF, Int.natCast_add, Int.natCast_mul, Int.add_sub_cancel, List.length_nil, Int.cast_ofNat_Int, and_true, true_and]) (aret_of ?_)
      simp (disch := ((try simp only [List.length_set, List.length_replicate, List.length_append, List.length_cons, List.length_nil]); omega)) only [aW, aX, aV, aB, aN, aL, aP, aH]
      refine hv2.same (by unfold graphA; simp (disch := first | omega | simp (disch := omega) only [aF, aL, aN]) only [aW, aX, aV, aB, aN, aL, aP, aH, aF, Int.natCast_add, Int.natCast_mul, Int.add_sub_cancel, List.length_nil, Int.cast_ofNat_Int, and_true, true_and]) (by simp (disch := first | omega | simp (disch := omega) only [aF, aL, aN]) only [aW, aX, aV, aB, aN, aL, aP, aH, aF, Int.natCast_add, Int.natCast_mul, Int.add_sub_cancel, List.length_nil, Int.cast_ofNat_Int, and_true, true_and]) (aret_of ?_)
      simp (disch := ((try simp only [List.length_set, List.length_replicate, List.length_append, List.length_cons, List.length_nil]); omega)) only [aW, aX, aV, aB, aN, aL, aP, aH]
      refine AWP.cut (Cut.virt 15 1 rfl) ?_
      refine AWP.loopP (α := Nat × Nat) g_graph_Groups_1 (fun p => p.1 ≤ n.toNat) (fun p => [(15, .vs 3 p.2 1 (memb n l v 0 p.1).length), (16, .v (.int .i64 p.1))]) (fun p => [(1, ⟨0, bools (tab n.toNat (fun j => (gst n l v).1 j || (decide (j < p.1) && both n l v j)))⟩), (3, ⟨p.2, ints (memb n l v 0 p.1)⟩)]) (fun p => n.toNat - p.1) (0, 0) (by simp) ?_ ?_
      · have e0 : (fun j => (gst n l v).1 j || (decide (j < 0) && both n l v j)) = (gst n l v).1 := by funext j; simp
        have e1 : memb n l v 0 0 = [] := rfl
        simp (disch := ((try simp only [List.length_set, List.length_replicate, List.length_append, List.length_cons, List.length_nil]); omega)) only [aW, aX, aV, aB, aN, aL, aP, aH]
        exact Cut.of' 4 rfl (by omega) (by simp (disch := first | omega | simp (disch := omega) only [aF, aL, aN]) only [aW, aX, aV, aB, aN, aL, aP, aH, aF, Int.natCast_add, Int.natCast_mul, Int.add_sub_cancel, List.length_nil, Int.cast_ofNat_Int, and_true, true_and, e0, e1, ii_nil]) (by simp (disch := first | omega | simp (disch := omega) only [aF, aL, aN]) only [aW, aX, aV, aB, aN, aL, aP, aH, aF, Int.natCast_add, Int.natCast_mul, Int.add_sub_cancel, List.length_nil, Int.cast_ofNat_Int, and_true, true_and, e1])
      rintro ⟨k, vk⟩ hk
      simp only at hk
      have hml := memb_len n l v 0 k
      have htk := tab_len n.toNat (fun j => (gst n l v).1 j || (decide (j < k) && both n l v j))
      by_cases hkt : k < n.toNat
      · simp (disch := ((try simp only [List.length_set, List.length_replicate, List.length_append, List.length_cons, List.length_nil]); omega)) only [aW, aX, aV, aB, aN, aL, aP, aH]
        refine ib_split (fun h3 => ?_) (fun h3 => ?_)
        · have h3' : both n l v k = true := h3
          simp (disch := ((try simp only [List.length_set, List.length_replicate, List.length_append, List.length_cons, List.length_nil]); omega)) only [aW, aX, aV, aB, aN, aL, aP, aH]
          refine ⟨(k + 1, vk + 1), by simp only; omega, by simp only; omega, ?_⟩
          have e1 : memb n l v 0 (k + 1) = memb n l v 0 k ++ [(k : Int)] := by rw [memb_succ, if_pos ⟨by omega, h3'⟩]
          have e2 : tab n.toNat (fun j => (gst n l v).1 j || (decide (j < k + 1) && both n l v j)) = (tab n.toNat (fun j => (gst n l v).1 j || (decide (j < k) && both n l v j))).set k true := by
            rw [tab_set _ _ _ hkt]
            refine tab_ext fun j _ => ?_
            by_cases hjk : j = k
            · subst hjk; simp [h3']
            · simp only [show (decide (j < k + 1)) = decide (j < k) by simp; omega, show (j == k) = false by simpa using hjk, Bool.or_false]
          simp only [e1, e2]
          try simp (disch := ((try simp only [List.length_set, List.length_replicate, List.length_append, List.length_cons, List.length_nil]); omega)) only [aW, aX, aV, aB, aN, aL, aP, aH]
          exact Cut.of' 4 rfl (by omega) (by simp (disch := first | omega | simp (disch := omega) only [aF, aL, aN]) only [aW, aX, aV, aB, aN, aL, aP, aH, aF, Int.natCast_add, Int.natCast_mul, Int.add_sub_cancel, List.length_nil, Int.cast_ofNat_Int, and_true, true_and]) (by simp (disch := first | omega | simp (disch := omega) only [aF, aL, aN]) only [aW, aX, aV, aB, aN, aL, aP, aH, aF, Int.natCast_add, Int.natCast_mul, Int.add_sub_cancel, List.length_nil, Int.cast_ofNat_Int, and_true, true_and])
        · have h3' : both n l v k = false := h3
          simp (disch := ((try simp only [List.length_set, List.length_replicate, List.length_append, List.length_cons, List.length_nil]); omega)) only [aW, aX, aV, aB, aN, aL, aP, aH]
          refine ⟨(k + 1, vk), by simp only; omega, by simp only; omega, ?_⟩
          have e1 : memb n l v 0 (k + 1) = memb n l v 0 k := by rw [memb_succ, if_neg (by simp [h3'])]
          have e2 : tab n.toNat (fun j => (gst n l v).1 j || (decide (j < k + 1) && both n l v j)) = tab n.toNat (fun j => (gst n l v).1 j || (decide (j < k) && both n l v j)) := by
            refine tab_ext fun j _ => ?_
            by_cases hjk : j = k
            · subst hjk; simp [h3']
            · simp only [show (decide (j < k + 1)) = decide (j < k) by simp; omega]
          simp only [e1, e2]
          try simp (disch := ((try simp only [List.length_set, List.length_replicate, List.length_append, List.length_cons, List.length_nil]); omega)) only [aW, aX, aV, aB, aN, aL, aP, aH]
          exact Cut.of' 4 rfl (by omega) (by simp (disch := first | omega | simp (disch := omega) only [aF, aL, aN]) only [aW, aX, aV, aB, aN, aL, aP, aH, aF, Int.natCast_add, Int.natCast_mul, Int.add_sub_cancel, List.length_nil, Int.cast_ofNat_Int, and_true, true_and]) (by simp (disch := first | omega | simp (disch := omega) only [aF, aL, aN]) only [aW, aX, aV, aB, aN, aL, aP, aH, aF, Int.natCast_add, Int.natCast_mul, Int.add_sub_cancel, List.length_nil, Int.cast_ofNat_Int, and_true, true_and])
      · have hkn : k = n.toNat := by omega
        subst hkn
        simp (disch := ((try simp only [List.length_set, List.length_replicate, List.length_append, List.length_cons, List.length_nil]); omega)) only [aW, aX, aV, aB, aN, aL, aP, aH]
        refine ⟨(v + 1, ver + 1), by simp only; omega, by simp only; omega, ?_⟩
        have e1 : gst n l (v + 1) = (fun j => (gst n l v).1 j || both n l v j, (gst n l v).2 ++ [memb n l v 0 n.toNat]) := by simp [gst, hd]
        have e2 : tab n.toNat (fun j => (gst n l v).1 j || both n l v j) = tab n.toNat (fun j => (gst n l v).1 j || (decide (j < n.toNat) && both n l v j)) := tab_ext fun j hj => by simp [hj]
        simp only [e1, e2]
        try simp (disch := ((try simp only [List.length_set, List.length_replicate, List.length_append, List.length_cons, List.length_nil]); omega)) only [aW, aX, aV, aB, aN, aL, aP, aH]
        have z : ∀ H : List Blk, blkAt H 3 vk = some (ints (memb n l v 0 n.toNat)) → FzL 3 H (rows true (gst n l v).2 ++ [.vs 3 vk 1 (memb n l v 0 n.toNat).length]) (rows true ((gst n l v).2 ++ [memb n l v 0 n.toNat])) := fun H hH => by
          rw [← r_app1]; exact FzL.app (FzL.refl (r_bd _ _ _)) ⟨fz_vsI _ _ _ _ _ _ (by omega) rfl hH, trivial⟩
        refine Cut.of' 3 rfl (by omega) ⟨rfl, by simp (disch := first | omega | simp (disch := omega) only [aF, aL, aN]) only [aW, aX, aV, aB, aN, aL, aP, aH, aF, Int.natCast_add, Int.natCast_mul, Int.add_sub_cancel, List.length_nil, Int.cast_ofNat_Int, and_true, true_and], rfl, by simp (disch := first | omega | simp (disch := omega) only [aF, aL, aN]) only [aW, aX, aV, aB, aN, aL, aP, aH, aF, Int.natCast_add, Int.natCast_mul, Int.add_sub_cancel, List.length_nil, Int.cast_ofNat_Int, and_true, true_and], rfl, z _ (by simp (disch := ((try simp only [List.length_set, List.length_replicate, List.length_append, List.length_cons, List.length_nil]); omega)) only [aW, aX, aV, aB, aN, aL, aP, aH]), trivial⟩ (by simp (disch := first | omega | simp (disch := omega) only [aF, aL, aN]) only [aW, aX, aV, aB, aN, aL, aP, aH, aF, Int.natCast_add, Int.natCast_mul, Int.add_sub_cancel, List.length_nil, Int.cast_ofNat_Int, and_true, true_and])
  · have hvn : v = n.toNat := by omega
    subst hvn
    simp (disch := ((try simp only [List.length_set, List.length_replicate, List.length_append, List.length_cons, List.length_nil]); omega)) only [aW, aX, aV, aB, aN, aL, aP, aH, r_graph_Groups]
    refine post0 (r := .tup [.fs true (rows true (gst n l n.toNat).2), .v (.int .i64 0)]) (Fz.tup ⟨fz_vsR _ _ _ _ _ _ (by omega) rfl (by simp (disch := ((try simp only [List.length_set, List.length_replicate, List.length_append, List.length_cons, List.length_nil]); omega)) only [aW, aX, aV, aB, aN, aL, aP, aH]), Fz.refl rfl, trivial⟩) ⟨?_, rfl⟩
    unfold groupsR; rw [if_neg (by simp [h1])]
theorem refGroups_vr {w : Bool} (n : Int) (l : Arcs) : VR P false n_ref09_Groups [graphA w n l] [] (isR (.tup [.fs true (rows true (groupsR n l).1), .v (.int .i64 (groupsR n l).2)])) := by
  refine vr_ref09_Groups (by simp) (.inr rfl) fun _ _ => ?_
  unfold graphA
  simp (disch := ((try simp only [List.length_set, List.length_replicate, List.length_append, List.length_cons, List.length_nil]); omega)) only [aW, aX, aV, aB, aN, aL, aP, aH, s_ref09_Groups, v_ref09_Groups]
  refine (refCheck_vr (w := w) n l).same (by unfold graphA; simp (disch := first | omega | simp (disch := omega) only [aF, aL, aN]) only [aW, aX, aV, aB, aN, aL, aP, aH, aF, Int.natCast_add, Int.natCast_mul, Int.add_sub_cancel, List.length_nil, Int.cast_ofNat_Int, and_true, true_and]) rfl (aret_of ?_)
  simp (disch := ((try simp only [List.length_set, List.length_replicate, List.length_append, List.length_cons, List.length_nil]); omega)) only [aW, aX, aV, aB, aN, aL, aP, aH]
  refine ib_intro (fun h1 => ?_) (fun h1 => ?_)
  · simp (disch := ((try simp only [List.length_set, List.length_replicate, List.length_append, List.length_cons, List.length_nil]); omega)) only [aW, aX, aV, aB, aN, aL, aP, aH, r_ref09_Groups]
    refine post_err ⟨?_, rfl⟩
    unfold groupsR; rw [if_pos h1]; rfl
  have h1 : gcheck n l = 0 := Classical.not_not.1 h1
  obtain ⟨c1, c2, c3, c4⟩ := gcheck_ok h1
  simp (disch := ((try simp only [List.length_set, List.length_replicate, List.length_append, List.length_cons, List.length_nil]); omega)) only [aW, aX, aV, aB, aN, aL, aP, aH]
  refine AWP.cut (Cut.virt 5 1 rfl) ?_
  refine AWP.loopP (α := Nat × Nat) g_ref09_Groups_0 (fun p => p.1 ≤ n.toNat) (fun p => [(5, .vs 2 p.2 1 (gst n l p.1).2.length), (7, .v (.int .i64 p.1))]) (fun p => [(1, ⟨0, bools (tab n.toNat (gst n l p.1).1)⟩), (2, ⟨p.2, rows true (gst n l p.1).2⟩)]) (fun p => n.toNat - p.1) (0, 0) (by simp) ?_ ?_
  · simp (disch := ((try simp only [List.length_set, List.length_replicate, List.length_append, List.length_cons, List.length_nil]); omega)) only [aW, aX, aV, aB, aN, aL, aP, aH, tab_rep, gst]
    exact Cut.of' 3 rfl (by omega) (by simp (disch := first | omega | simp (disch := omega) only [aF, aL, aN]) only [aW, aX, aV, aB, aN, aL, aP, aH, aF, Int.natCast_add, Int.natCast_mul, Int.add_sub_cancel, List.length_nil, Int.cast_ofNat_Int, and_true, true_and, r_nil]) (by simp (disch := first | omega | simp (disch := omega) only [aF, aL, aN]) only [aW, aX, aV, aB, aN, aL, aP, aH, aF, Int.natCast_add, Int.natCast_mul, Int.add_sub_cancel, List.length_nil, Int.cast_ofNat_Int, and_true, true_and])
  rintro ⟨v, ver⟩ hv
  simp only at hv
  have hol := gst_len n l v
  have htl := tab_len n.toNat (gst n l v).1
  by_cases hlt : v < n.toNat
  · have hg := tab_get n.toNat (gst n l v).1 v hlt
    cases hd : (gst n l v).1 v with
    | true =>
      simp (disch := ((try simp only [List.length_set, List.length_replicate, List.length_append, List.length_cons, List.length_nil]); omega)) only [aW, aX, aV, aB, aN, aL, aP, aH, hg, hd]
      refine ⟨(v + 1, ver), by simp only; omega, by simp only; omega, ?_⟩
      simp only [gst, hd, if_true]
      exact Cut.of' 3 rfl (by omega) (by simp (disch := first | omega | simp (disch := omega) only [aF, aL, aN]) only [aW, aX, aV, aB, aN, aL, aP, aH, aF, Int.natCast_add, Int.natCast_mul, Int.add_sub_cancel, List.length_nil, Int.cast_ofNat_Int, and_true, true_and]) (by simp (disch := first | omega | simp (disch := omega) only [aF, aL, aN]) only [aW, aX, aV, aB, aN, aL, aP, aH, aF, Int.natCast_add, Int.natCast_mul, Int.add_sub_cancel, List.length_nil, Int.cast_ofNat_Int, and_true, true_and])
    | false =>
      have vr : ∀ es, visitR n l es v = (reachL n es v, 0) := fun es => by unfold visitR; rw [if_neg (by simp [h1]), if_neg (by omega)]
      have hv1 := refReach_vr (w := w) n l v
      have hv2 := refBack_vr (w := w) n l v
      rw [vr] at hv1 hv2
      have rl1 := reachL_len n l v
      have rl2 := reachL_len n (backL l) v
      simp (disch := ((try simp only [List.length_set, List.length_replicate, List.length_append, List.length_cons, List.length_nil]); omega)) only [aW, aX, aV, aB, aN, aL, aP, aH, hg, hd]
      refine hv1.same (by unfold graphA; simp (disch := first | omega | simp (disch := omega) only [aF, aL, aN]) only [aW, aX, aV, aB, aN, aL, aP, aH, aF, Int.natCast_add, Int.natCast_mul, Int.add_sub_cancel, List.length_nil, Int.cast_ofNat_Int, and_true, true_and]) (by simp (disch := first | omega | simp (disch := omega) only [aF, aL, aN]) only [aW, aX, aV, aB, aN, aL, aP, aH, aF, Int.natCast_add, Int.natCast_mul, Int.add_sub_cancel, List.length_nil, Int.cast_ofNat_Int, and_true, true_and]) (aret_of ?_)
      simp (disch := ((try simp only [List.length_set, List.length_replicate, List.length_append, List.length_cons, List.length_nil]); omega)) only [aW, aX, aV, aB, aN, aL, aP, aH]
      refine hv2.same (by unfold graphA; simp (disch := first | omega | simp (disch := omega) only [aF, aL, aN]) only [aW, aX, aV, aB, aN, aL, aP, aH, aF, Int.natCast_add, Int.natCast_mul, Int.add_sub_cancel, List.length_nil, Int.cast_ofNat_Int, and_true, true_and]) (by simp (disch := first | omega | simp (disch := omega) only [aF, aL, aN]) only [aW, aX, aV, aB, aN, aL, aP, aH, aF, Int.natCast_add, Int.natCast_mul, Int.add_sub_cancel, List.length_nil, Int.cast_ofNat_Int, and_true, true_and]) (aret_of ?_)
      simp (disch := ((try simp only [List.length_set, List.length_replicate, List.length_append, List.length_cons, List.length_nil]); omega)) only [aW, aX, aV, aB, aN, aL, aP, aH]
      refine AWP.cut (Cut.virt 12 1 rfl) ?_
      refine AWP.loopP (α := Nat × Nat) g_ref09_Groups_1 (fun p => v ≤ p.1 ∧ p.1 ≤ n.toNat) (fun p => [(12, .vs 3 p.2 1 (memb n l v v p.1).length), (13, .v (.int .i64 p.1))]) (fun p => [(1, ⟨0, bools (tab n.toNat (fun j => (gst n l v).1 j || (decide (v ≤ j ∧ j < p.1) && both n l v j)))⟩), (3, ⟨p.2, ints (memb n l v v p.1)⟩)]) (fun p => n.toNat - p.1) (v, 0) ⟨Nat.le_refl _, hv⟩ ?_ ?_
      · have e0 : (fun j => (gst n l v).1 j || (decide (v ≤ j ∧ j < v) && both n l v j)) = (gst n l v).1 := by funext j; simp; intros; omega
        have e1 : memb n l v v v = [] := by unfold memb; simp; intros; omega
        simp (disch := ((try simp only [List.length_set, List.length_replicate, List.length_append, List.length_cons, List.length_nil]); omega)) only [aW, aX, aV, aB, aN, aL, aP, aH]
        exact Cut.of' 4 rfl (by omega) (by simp (disch := first | omega | simp (disch := omega) only [aF, aL, aN]) only [aW, aX, aV, aB, aN, aL, aP, aH, aF, Int.natCast_add, Int.natCast_mul, Int.add_sub_cancel, List.length_nil, Int.cast_ofNat_Int, and_true, true_and, e0, e1, ii_nil]) (by simp (disch := first | omega | simp (disch := omega) only [aF, aL, aN]) only [aW, aX, aV, aB, aN, aL, aP, aH, aF, Int.natCast_add, Int.natCast_mul, Int.add_sub_cancel, List.length_nil, Int.cast_ofNat_Int, and_true, true_and, e1])
      rintro ⟨k, vk⟩ hk
      simp only at hk
      obtain ⟨hvk, hk⟩ := hk
      have hml := memb_len n l v v k
      have htk := tab_len n.toNat (fun j => (gst n l v).1 j || (decide (v ≤ j ∧ j < k) && both n l v j))
      by_cases hkt : k < n.toNat
      · simp (disch := ((try simp only [List.length_set, List.length_replicate, List.length_append, List.length_cons, List.length_nil]); omega)) only [aW, aX, aV, aB, aN, aL, aP, aH]
        refine ib_split (fun h3 => ?_) (fun h3 => ?_)
        · have h3' : both n l v k = true := h3
          simp (disch := ((try simp only [List.length_set, List.length_replicate, List.length_append, List.length_cons, List.length_nil]); omega)) only [aW, aX, aV, aB, aN, aL, aP, aH]
          refine ⟨(k + 1, vk + 1), by simp only; omega, by simp only; omega, ?_⟩
          have e1 : memb n l v v (k + 1) = memb n l v v k ++ [(k : Int)] := by rw [memb_succ, if_pos ⟨by omega, h3'⟩]
          have e2 : tab n.toNat (fun j => (gst n l v).1 j || (decide (v ≤ j ∧ j < k + 1) && both n l v j)) = (tab n.toNat (fun j => (gst n l v).1 j || (decide (v ≤ j ∧ j < k) && both n l v j))).set k true := by
            rw [tab_set _ _ _ hkt]
            refine tab_ext fun j _ => ?_
            by_cases hjk : j = k
            · subst hjk; simp [h3', hvk]
            · simp only [show (decide (v ≤ j ∧ j < k + 1)) = decide (v ≤ j ∧ j < k) from decide_eq_decide.2 (by omega), show (j == k) = false by simpa using hjk, Bool.or_false]
          simp only [e1, e2]
          try simp (disch := ((try simp only [List.length_set, List.length_replicate, List.length_append, List.length_cons, List.length_nil]); omega)) only [aW, aX, aV, aB, aN, aL, aP, aH]
          exact Cut.of' 4 rfl (by omega) (by simp (disch := first | omega | simp (disch := omega) only [aF, aL, aN]) only [aW, aX, aV, aB, aN, aL, aP, aH, aF, Int.natCast_add, Int.natCast_mul, Int.add_sub_cancel, List.length_nil, Int.cast_ofNat_Int, and_true, true_and]) (by simp (disch := first | omega | simp (disch := omega) only [aF, aL, aN]) only [aW, aX, aV, aB, aN, aL, aP, aH, aF, Int.natCast_add, Int.natCast_mul, Int.add_sub_cancel, List.length_nil, Int.cast_ofNat_Int, and_true, true_and])
        · have h3' : both n l v k = false := h3
          simp (disch := ((try simp only [List.length_set, List.length_replicate, List.length_append, List.length_cons, List.length_nil]); omega)) only [aW, aX, aV, aB, aN, aL, aP, aH]
          refine ⟨(k + 1, vk), by simp only; omega, by simp only; omega, ?_⟩
          have e1 : memb n l v v (k + 1) = memb n l v v k := by rw [memb_succ, if_neg (by simp [h3'])]
          have e2 : tab n.toNat (fun j => (gst n l v).1 j || (decide (v ≤ j ∧ j < k + 1) && both n l v j)) = tab n.toNat (fun j => (gst n l v).1 j || (decide (v ≤ j ∧ j < k) && both n l v j)) := by
            refine tab_ext fun j _ => ?_
            by_cases hjk : j = k
            · subst hjk; simp [h3']
            · simp only [show (decide (v ≤ j ∧ j < k + 1)) = decide (v ≤ j ∧ j < k) from decide_eq_decide.2 (by omega)]
          simp only [e1, e2]
          try simp (disch := ((try simp only [List.length_set, List.length_replicate, List.length_append, List.length_cons, List.length_nil]); omega)) only [aW, aX, aV, aB, aN, aL, aP, aH]
          exact Cut.of' 4 rfl (by omega) (by simp (disch := first | omega | simp (disch := omega) only [aF, aL, aN]) only [aW, aX, aV, aB, aN, aL, aP, aH, aF, Int.natCast_add, Int.natCast_mul, Int.add_sub_cancel, List.length_nil, Int.cast_ofNat_Int, and_true, true_and]) (by simp (disch := first | omega | simp (disch := omega) only [aF, aL, aN]) only [aW, aX, aV, aB, aN, aL, aP, aH, aF, Int.natCast_add, Int.natCast_mul, Int.add_sub_cancel, List.length_nil, Int.cast_ofNat_Int, and_true, true_and])
      · have hkn : k = n.toNat := by omega
        subst hkn
        simp (disch := ((try simp only [List.length_set, List.length_replicate, List.length_append, List.length_cons, List.length_nil]); omega)) only [aW, aX, aV, aB, aN, aL, aP, aH]
        refine ⟨(v + 1, ver + 1), by simp only; omega, by simp only; omega, ?_⟩
        have e1 : gst n l (v + 1) = (fun j => (gst n l v).1 j || both n l v j, (gst n l v).2 ++ [memb n l v 0 n.toNat]) := by simp [gst, hd]
        have e2 : tab n.toNat (fun j => (gst n l v).1 j || both n l v j) = tab n.toNat (fun j => (gst n l v).1 j || (decide (v ≤ j ∧ j < n.toNat) && both n l v j)) := tab_ext fun j hj => by
          by_cases hjv : v ≤ j
          · simp [hj, hjv]
          · simp [both_low c4 hlt hd (show j < v by omega)]
        have e3 := memb_from c4 hlt hd
        simp only [e1, e2, ← e3]
        try simp (disch := ((try simp only [List.length_set, List.length_replicate, List.length_append, List.length_cons, List.length_nil]); omega)) only [aW, aX, aV, aB, aN, aL, aP, aH]
        have z : ∀ H : List Blk, blkAt H 3 vk = some (ints (memb n l v v n.toNat)) → FzL 3 H (rows true (gst n l v).2 ++ [.vs 3 vk 1 (memb n l v v n.toNat).length]) (rows true ((gst n l v).2 ++ [memb n l v v n.toNat])) := fun H hH => by
          rw [← r_app1]; exact FzL.app (FzL.refl (r_bd _ _ _)) ⟨fz_vsI _ _ _ _ _ _ (by omega) rfl hH, trivial⟩
        refine Cut.of' 3 rfl (by omega) ⟨rfl, by simp (disch := first | omega | simp (disch := omega) only [aF, aL, aN]) only [aW, aX, aV, aB, aN, aL, aP, aH, aF, Int.natCast_add, Int.natCast_mul, Int.add_sub_cancel, List.length_nil, Int.cast_ofNat_Int, and_true, true_and], rfl, by simp (disch := first | omega | simp (disch := omega) only [aF, aL, aN]) only [aW, aX, aV, aB, aN, aL, aP, aH, aF, Int.natCast_add, Int.natCast_mul, Int.add_sub_cancel, List.length_nil, Int.cast_ofNat_Int, and_true, true_and], rfl, z _ (by simp (disch := ((try simp only [List.length_set, List.length_replicate, List.length_append, List.length_cons, List.length_nil]); omega)) only [aW, aX, aV, aB, aN, aL, aP, aH]), trivial⟩ (by simp (disch := first | omega | simp (disch := omega) only [aF, aL, aN]) only [aW, aX, aV, aB, aN, aL, aP, aH, aF, Int.natCast_add, Int.natCast_mul, Int.add_sub_cancel, List.length_nil, Int.cast_ofNat_Int, and_true, true_and])
  · have hvn : v = n.toNat := by omega
    subst hvn
    simp (disch := ((try simp only [List.length_set, List.length_replicate, List.length_append, List.length_cons, List.length_nil]); omega)) only [aW, aX, aV, aB, aN, aL, aP, aH, r_ref09_Groups]
    refine post0 (r := .tup [.fs true (rows true (gst n l n.toNat).2), .v (.int .i64 0)]) (Fz.tup ⟨fz_vsR _ _ _ _ _ _ (by omega) rfl (by simp (disch := ((try simp only [List.length_set, List.length_replicate, List.length_append, List.length_cons, List.length_nil]); omega)) only [aW, aX, aV, aB, aN, aL, aP, aH]), Fz.refl rfl, trivial⟩) ⟨?_, rfl⟩
    unfold groupsR; rw [if_neg (by simp [h1])]
/-! ### What stands for a group -/
def reps (n : Int) (l : Arcs) : Nat → List Nat
  | 0 => []
  | v + 1 => if (gst n l v).1 v then reps n l v else reps n l v ++ [v]
theorem gst_reps (n : Int) (l : Arcs) : ∀ v, (gst n l v).2 = (reps n l v).map fun r => memb n l r 0 n.toNat
  | 0 => rfl
  | v + 1 => by
    simp only [gst, reps]
    split
    · exact gst_reps n l v
    · simp only [gst_reps n l v, List.map_append, List.map_cons, List.map_nil]
theorem reps_lt (n : Int) (l : Arcs) : ∀ v, ∀ r ∈ reps n l v, r < v
  | 0, r, h => by simp [reps] at h
  | v + 1, r, h => by
    simp only [reps] at h
    split at h
    · have := reps_lt n l v r h; omega
    · simp only [List.mem_append, List.mem_singleton] at h
      rcases h with h | rfl
      · have := reps_lt n l v r h; omega
      · omega
theorem b_refl {n : Int} {l : Arcs} (hr : inR n l) {u : Nat} (hu : u < n.toNat) : both n l u u = true := (both_iff hr hu hu).2 ⟨.refl _, .refl _⟩
theorem b_symm {n : Int} {l : Arcs} (hr : inR n l) {u v : Nat} (hu : u < n.toNat) (hv : v < n.toNat) (h : both n l u v = true) : both n l v u = true := by
  have := (both_iff hr hu hv).1 h
  exact (both_iff hr hv hu).2 ⟨this.2, this.1⟩
theorem b_trans {n : Int} {l : Arcs} (hr : inR n l) {u v w : Nat} (hu : u < n.toNat) (hv : v < n.toNat) (hw : w < n.toNat) (h : both n l u v = true) (k : both n l v w = true) : both n l u w = true := by
  have h1 := (both_iff hr hu hv).1 h
  have h2 := (both_iff hr hv hw).1 k
  exact (both_iff hr hu hw).2 ⟨h1.1.trans h2.1, h2.2.trans h1.2⟩
theorem reps_apart {n : Int} {l : Arcs} (hr : inR n l) : ∀ v, v ≤ n.toNat → (reps n l v).Pairwise fun a b => both n l a b = false
  | 0, _ => by simp [reps]
  | v + 1, hv => by
    simp only [reps]
    split
    · exact reps_apart hr v (by omega)
    · rename_i hd
      rw [List.pairwise_append]
      refine ⟨reps_apart hr v (by omega), by simp, fun a ha b hb => ?_⟩
      simp only [List.mem_singleton] at hb
      subst hb
      rw [← Bool.not_eq_true]; intro hc
      exact hd ((gst_done hr b (by omega) b (by omega)).2 ⟨a, reps_lt n l b a ha, hc⟩)
theorem reps_cover {n : Int} {l : Arcs} (hr : inR n l) : ∀ v, v ≤ n.toNat → ∀ u, u < v → ∃ r ∈ reps n l v, both n l r u = true
  | 0, _, u, hu => by omega
  | v + 1, hv, u, hu => by
    have ih := reps_cover hr v (by omega)
    simp only [reps]
    by_cases huv : u < v
    · obtain ⟨r, h1, h2⟩ := ih u huv
      refine ⟨r, ?_, h2⟩
      split
      · exact h1
      · exact List.mem_append.2 (.inl h1)
    · have : u = v := by omega
      subst this
      split
      · rename_i hd
        obtain ⟨x, h1, h2⟩ := (gst_done hr u (by omega) u (by omega)).1 hd
        obtain ⟨r, h3, h4⟩ := ih x h1
        have := reps_lt n l u r h3
        exact ⟨r, h3, b_trans hr (by omega) (by omega) (by omega) h4 h2⟩
      · exact ⟨u, by simp, b_refl hr (by omega)⟩
theorem memb_mem {n : Int} {l : Arcs} {r b : Nat} {x : Int} : x ∈ memb n l r 0 b ↔ 0 ≤ x ∧ x < b ∧ both n l r x.toNat = true := by
  unfold memb
  simp only [List.mem_map, List.mem_filter, List.mem_range, Bool.and_eq_true, decide_eq_true_eq]
  constructor
  · rintro ⟨a, ⟨h1, _, h2⟩, rfl⟩
    refine ⟨Int.natCast_nonneg a, ?_, h2⟩
    show (a : Int) < b
    omega
  · rintro ⟨h1, h2, h3⟩
    exact ⟨x.toNat, ⟨by omega, by omega, h3⟩, Int.toNat_of_nonneg h1⟩
theorem memb_lt (n : Int) (l : Arcs) (r a b : Nat) : (memb n l r a b).Pairwise (· < ·) := by
  unfold memb
  refine List.Pairwise.map (R := (· < ·)) _ (fun a b h => ?_) (List.pairwise_lt_range.filter _)
  show (a : Int) < b
  omega

end Go.Proofs.Ytjhdedifmhkhbaa
