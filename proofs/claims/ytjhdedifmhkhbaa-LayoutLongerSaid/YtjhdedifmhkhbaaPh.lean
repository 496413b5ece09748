/- Loops of a plant, in the program and in the reference. No statement is claimed here. -/
import Derived.Test.YtjhdedifmhkhbaaPg
namespace Go.Proofs.Ytjhdedifmhkhbaa
open Go Go.Lft
set_option linter.unusedSimpArgs false
set_option linter.unusedVariables false
attribute [local congr] ob_congr bw_congr ib_congr ck_congr iwA_congr itA_congr aw_congr awp_congr sqA_congr bkA_congr vr_congr gd_congr

/-- The same where the groups are the caller's own. -/
def groupsG (n : Int) (l : Arcs) : List Blk := [⟨0, [.v (.int .i64 n), .any]⟩, ⟨0, bools (tab n.toNat (gst n l n.toNat).1)⟩, ⟨(gst n l n.toNat).2.length, rows true (gst n l n.toNat).2⟩]
theorem groupsO_vr {w : Bool} (n : Int) (l : Arcs) (h1 : gcheck n l = 0) : VR P false n_graph_Groups [graphA w n l] [] (ownR (.tup [.vs 2 (gst n l n.toNat).2.length 1 (gst n l n.toNat).2.length, .v (.int .i64 0)]) (groupsG n l)) := by
  refine vr_graph_Groups (by simp) (.inr rfl) fun _ _ => ?_
  unfold graphA
  simp (disch := ((try simp only [List.length_set, List.length_replicate, List.length_append, List.length_cons, List.length_nil]); omega)) only [aW, aX, aV, aB, aN, aL, aP, aH, aM, s_graph_Groups, v_graph_Groups]
  refine (check_vr (w := w) n l).same (by unfold graphA; simp (disch := first | omega | simp (disch := omega) only [aF, aL, aN, aM]) only [aW, aX, aV, aB, aN, aL, aP, aH, aM, aF, Int.natCast_add, Int.natCast_mul, Int.add_sub_cancel, List.length_nil, Int.cast_ofNat_Int, and_true, true_and]) rfl (aret_of ?_)
  simp (disch := ((try simp only [List.length_set, List.length_replicate, List.length_append, List.length_cons, List.length_nil]); omega)) only [aW, aX, aV, aB, aN, aL, aP, aH, aM]
  rw [h1]
  obtain ⟨c1, c2, c3, c4⟩ := gcheck_ok h1
  simp (disch := ((try simp only [List.length_set, List.length_replicate, List.length_append, List.length_cons, List.length_nil]); omega)) only [aW, aX, aV, aB, aN, aL, aP, aH, aM]
  refine AWP.cut (Cut.virt 5 1 rfl) ?_
  refine AWP.loopP (α := Nat × Nat) g_graph_Groups_0 (fun p => p.1 ≤ n.toNat ∧ p.2 = (gst n l p.1).2.length) (fun p => [(5, .vs 2 p.2 1 (gst n l p.1).2.length), (7, .v (.int .i64 p.1))]) (fun p => [(1, ⟨0, bools (tab n.toNat (gst n l p.1).1)⟩), (2, ⟨p.2, rows true (gst n l p.1).2⟩)]) (fun p => n.toNat - p.1) (0, 0) ⟨by simp, rfl⟩ ?_ ?_
  · simp (disch := ((try simp only [List.length_set, List.length_replicate, List.length_append, List.length_cons, List.length_nil]); omega)) only [aW, aX, aV, aB, aN, aL, aP, aH, aM, tab_rep, gst]
    exact Cut.of' 3 rfl (by omega) (by simp (disch := first | omega | simp (disch := omega) only [aF, aL, aN, aM]) only [aW, aX, aV, aB, aN, aL, aP, aH, aM, aF, Int.natCast_add, Int.natCast_mul, Int.add_sub_cancel, List.length_nil, Int.cast_ofNat_Int, and_true, true_and, r_nil]) (by simp (disch := first | omega | simp (disch := omega) only [aF, aL, aN, aM]) only [aW, aX, aV, aB, aN, aL, aP, aH, aM, aF, Int.natCast_add, Int.natCast_mul, Int.add_sub_cancel, List.length_nil, Int.cast_ofNat_Int, and_true, true_and])
  rintro ⟨v, ver⟩ ⟨hv, hver⟩
  simp only at hv hver
  have hol := gst_len n l v
  have htl := tab_len n.toNat (gst n l v).1
  by_cases hlt : v < n.toNat
  · have hg := tab_get n.toNat (gst n l v).1 v hlt
    cases hd : (gst n l v).1 v with
    | true =>
      simp (disch := ((try simp only [List.length_set, List.length_replicate, List.length_append, List.length_cons, List.length_nil]); omega)) only [aW, aX, aV, aB, aN, aL, aP, aH, aM, hg, hd]
      refine ⟨(v + 1, ver), ⟨by simp only; omega, by simp only [gst, hd, if_true]; omega⟩, by simp only; omega, ?_⟩
      simp only [gst, hd, if_true]
      exact Cut.of' 3 rfl (by omega) (by simp (disch := first | omega | simp (disch := omega) only [aF, aL, aN, aM]) only [aW, aX, aV, aB, aN, aL, aP, aH, aM, aF, Int.natCast_add, Int.natCast_mul, Int.add_sub_cancel, List.length_nil, Int.cast_ofNat_Int, and_true, true_and]) (by simp (disch := first | omega | simp (disch := omega) only [aF, aL, aN, aM]) only [aW, aX, aV, aB, aN, aL, aP, aH, aM, aF, Int.natCast_add, Int.natCast_mul, Int.add_sub_cancel, List.length_nil, Int.cast_ofNat_Int, and_true, true_and])
    | false =>
      have vr : ∀ es, visitR n l es v = (reachL n es v, 0) := fun es => by unfold visitR; rw [if_neg (by simp [h1]), if_neg (by omega)]
      have hv1 := reach_vr (w := w) n l v
      have hv2 := back_vr (w := w) n l v
      rw [vr] at hv1 hv2
      have rl1 := reachL_len n l v
      have rl2 := reachL_len n (backL l) v
      simp (disch := ((try simp only [List.length_set, List.length_replicate, List.length_append, List.length_cons, List.length_nil]); omega)) only [aW, aX, aV, aB, aN, aL, aP, aH, aM, hg, hd]
      refine hv1.same (by unfold graphA; simp (disch := first | omega | simp (disch := omega) only [aF, aL, aN, aM]) only [aW, aX, aV, aB, aN, aL, aP, aH, aM, aF, Int.natCast_add, Int.natCast_mul, Int.add_sub_cancel, List.length_nil, Int.cast_ofNat_Int, and_true, true_and]) (by simp (disch := first | omega | simp (disch := omega) only [aF, aL, aN, aM]) only [aW, aX, aV, aB, aN, aL, aP, aH, aM, aF, Int.natCast_add, Int.natCast_mul, Int.add_sub_cancel, List.length_nil, Int.cast_ofNat_Int, and_true, true_and]) (aret_of ?_)
      simp (disch := ((try simp only [List.length_set, List.length_replicate, List.length_append, List.length_cons, List.length_nil]); omega)) only [aW, aX, aV, aB, aN, aL, aP, aH, aM]
      refine hv2.same (by unfold graphA; simp (disch := first | omega | simp (disch := omega) only [aF, aL, aN, aM]) only [aW, aX, aV, aB, aN, aL, aP, aH, aM, aF, Int.natCast_add, Int.natCast_mul, Int.add_sub_cancel, List.length_nil, Int.cast_ofNat_Int, and_true, true_and]) (by simp (disch := first | omega | simp (disch := omega) only [aF, aL, aN, aM]) only [aW, aX, aV, aB, aN, aL, aP, aH, aM, aF, Int.natCast_add, Int.natCast_mul, Int.add_sub_cancel, List.length_nil, Int.cast_ofNat_Int, and_true, true_and]) (aret_of ?_)
      simp (disch := ((try simp only [List.length_set, List.length_replicate, List.length_append, List.length_cons, List.length_nil]); omega)) only [aW, aX, aV, aB, aN, aL, aP, aH, aM]
      refine AWP.cut (Cut.virt 15 1 rfl) ?_
      refine AWP.loopP (α := Nat × Nat) g_graph_Groups_1 (fun p => p.1 ≤ n.toNat) (fun p => [(15, .vs 3 p.2 1 (memb n l v 0 p.1).length), (16, .v (.int .i64 p.1))]) (fun p => [(1, ⟨0, bools (tab n.toNat (fun j => (gst n l v).1 j || (decide (j < p.1) && both n l v j)))⟩), (3, ⟨p.2, ints (memb n l v 0 p.1)⟩)]) (fun p => n.toNat - p.1) (0, 0) (by simp) ?_ ?_
      · have e0 : (fun j => (gst n l v).1 j || (decide (j < 0) && both n l v j)) = (gst n l v).1 := by funext j; simp
        have e1 : memb n l v 0 0 = [] := rfl
        simp (disch := ((try simp only [List.length_set, List.length_replicate, List.length_append, List.length_cons, List.length_nil]); omega)) only [aW, aX, aV, aB, aN, aL, aP, aH, aM]
        exact Cut.of' 4 rfl (by omega) (by simp (disch := first | omega | simp (disch := omega) only [aF, aL, aN, aM]) only [aW, aX, aV, aB, aN, aL, aP, aH, aM, aF, Int.natCast_add, Int.natCast_mul, Int.add_sub_cancel, List.length_nil, Int.cast_ofNat_Int, and_true, true_and, e0, e1, ii_nil]) (by simp (disch := first | omega | simp (disch := omega) only [aF, aL, aN, aM]) only [aW, aX, aV, aB, aN, aL, aP, aH, aM, aF, Int.natCast_add, Int.natCast_mul, Int.add_sub_cancel, List.length_nil, Int.cast_ofNat_Int, and_true, true_and, e1])
      rintro ⟨k, vk⟩ hk
      simp only at hk
      have hml := memb_len n l v 0 k
      have htk := tab_len n.toNat (fun j => (gst n l v).1 j || (decide (j < k) && both n l v j))
      by_cases hkt : k < n.toNat
      · simp (disch := ((try simp only [List.length_set, List.length_replicate, List.length_append, List.length_cons, List.length_nil]); omega)) only [aW, aX, aV, aB, aN, aL, aP, aH, aM]
        refine ib_split (fun h3 => ?_) (fun h3 => ?_)
        · have h3' : both n l v k = true := h3
          simp (disch := ((try simp only [List.length_set, List.length_replicate, List.length_append, List.length_cons, List.length_nil]); omega)) only [aW, aX, aV, aB, aN, aL, aP, aH, aM]
          refine ⟨(k + 1, vk + 1), by simp only; omega, by simp only; omega, ?_⟩
          have e1 : memb n l v 0 (k + 1) = memb n l v 0 k ++ [(k : Int)] := by rw [memb_succ, if_pos ⟨by omega, h3'⟩]
          have e2 : tab n.toNat (fun j => (gst n l v).1 j || (decide (j < k + 1) && both n l v j)) = (tab n.toNat (fun j => (gst n l v).1 j || (decide (j < k) && both n l v j))).set k true := by
            rw [tab_set _ _ _ hkt]
            refine tab_ext fun j _ => ?_
            by_cases hjk : j = k
            · subst hjk; simp [h3']
            · simp only [show (decide (j < k + 1)) = decide (j < k) by simp; omega, show (j == k) = false by simpa using hjk, Bool.or_false]
          simp only [e1, e2]
          try simp (disch := ((try simp only [List.length_set, List.length_replicate, List.length_append, List.length_cons, List.length_nil]); omega)) only [aW, aX, aV, aB, aN, aL, aP, aH, aM]
          exact Cut.of' 4 rfl (by omega) (by simp (disch := first | omega | simp (disch := omega) only [aF, aL, aN, aM]) only [aW, aX, aV, aB, aN, aL, aP, aH, aM, aF, Int.natCast_add, Int.natCast_mul, Int.add_sub_cancel, List.length_nil, Int.cast_ofNat_Int, and_true, true_and]) (by simp (disch := first | omega | simp (disch := omega) only [aF, aL, aN, aM]) only [aW, aX, aV, aB, aN, aL, aP, aH, aM, aF, Int.natCast_add, Int.natCast_mul, Int.add_sub_cancel, List.length_nil, Int.cast_ofNat_Int, and_true, true_and])
        · have h3' : both n l v k = false := h3
          simp (disch := ((try simp only [List.length_set, List.length_replicate, List.length_append, List.length_cons, List.length_nil]); omega)) only [aW, aX, aV, aB, aN, aL, aP, aH, aM]
          refine ⟨(k + 1, vk), by simp only; omega, by simp only; omega, ?_⟩
          have e1 : memb n l v 0 (k + 1) = memb n l v 0 k := by rw [memb_succ, if_neg (by simp [h3'])]
          have e2 : tab n.toNat (fun j => (gst n l v).1 j || (decide (j < k + 1) && both n l v j)) = tab n.toNat (fun j => (gst n l v).1 j || (decide (j < k) && both n l v j)) := by
            refine tab_ext fun j _ => ?_
            by_cases hjk : j = k
            · subst hjk; simp [h3']
            · simp only [show (decide (j < k + 1)) = decide (j < k) by simp; omega]
          simp only [e1, e2]
          try simp (disch := ((try simp only [List.length_set, List.length_replicate, List.length_append, List.length_cons, List.length_nil]); omega)) only [aW, aX, aV, aB, aN, aL, aP, aH, aM]
          exact Cut.of' 4 rfl (by omega) (by simp (disch := first | omega | simp (disch := omega) only [aF, aL, aN, aM]) only [aW, aX, aV, aB, aN, aL, aP, aH, aM, aF, Int.natCast_add, Int.natCast_mul, Int.add_sub_cancel, List.length_nil, Int.cast_ofNat_Int, and_true, true_and]) (by simp (disch := first | omega | simp (disch := omega) only [aF, aL, aN, aM]) only [aW, aX, aV, aB, aN, aL, aP, aH, aM, aF, Int.natCast_add, Int.natCast_mul, Int.add_sub_cancel, List.length_nil, Int.cast_ofNat_Int, and_true, true_and])
      · have hkn : k = n.toNat := by omega
        subst hkn
        simp (disch := ((try simp only [List.length_set, List.length_replicate, List.length_append, List.length_cons, List.length_nil]); omega)) only [aW, aX, aV, aB, aN, aL, aP, aH, aM]
        refine ⟨(v + 1, ver + 1), ⟨by simp only; omega, by simp [gst, hd, hver]⟩, by simp only; omega, ?_⟩
        have e1 : gst n l (v + 1) = (fun j => (gst n l v).1 j || both n l v j, (gst n l v).2 ++ [memb n l v 0 n.toNat]) := by simp [gst, hd]
        have e2 : tab n.toNat (fun j => (gst n l v).1 j || both n l v j) = tab n.toNat (fun j => (gst n l v).1 j || (decide (j < n.toNat) && both n l v j)) := tab_ext fun j hj => by simp [hj]
        simp only [e1, e2]
        try simp (disch := ((try simp only [List.length_set, List.length_replicate, List.length_append, List.length_cons, List.length_nil]); omega)) only [aW, aX, aV, aB, aN, aL, aP, aH, aM]
        have z : ∀ H : List Blk, blkAt H 3 vk = some (ints (memb n l v 0 n.toNat)) → FzL 3 H (rows true (gst n l v).2 ++ [.vs 3 vk 1 (memb n l v 0 n.toNat).length]) (rows true ((gst n l v).2 ++ [memb n l v 0 n.toNat])) := fun H hH => by
          rw [← r_app1]; exact FzL.app (FzL.refl (r_bd _ _ _)) ⟨fz_vsI _ _ _ _ _ _ (by omega) rfl hH, trivial⟩
        refine Cut.of' 3 rfl (by omega) ⟨rfl, by simp (disch := first | omega | simp (disch := omega) only [aF, aL, aN, aM]) only [aW, aX, aV, aB, aN, aL, aP, aH, aM, aF, Int.natCast_add, Int.natCast_mul, Int.add_sub_cancel, List.length_nil, Int.cast_ofNat_Int, and_true, true_and], rfl, by simp (disch := first | omega | simp (disch := omega) only [aF, aL, aN, aM]) only [aW, aX, aV, aB, aN, aL, aP, aH, aM, aF, Int.natCast_add, Int.natCast_mul, Int.add_sub_cancel, List.length_nil, Int.cast_ofNat_Int, and_true, true_and], rfl, z _ (by simp (disch := ((try simp only [List.length_set, List.length_replicate, List.length_append, List.length_cons, List.length_nil]); omega)) only [aW, aX, aV, aB, aN, aL, aP, aH, aM]), trivial⟩ (by simp (disch := first | omega | simp (disch := omega) only [aF, aL, aN, aM]) only [aW, aX, aV, aB, aN, aL, aP, aH, aM, aF, Int.natCast_add, Int.natCast_mul, Int.add_sub_cancel, List.length_nil, Int.cast_ofNat_Int, and_true, true_and])
  · have hvn : v = n.toNat := by omega
    subst hvn
    subst hver
    simp (disch := ((try simp only [List.length_set, List.length_replicate, List.length_append, List.length_cons, List.length_nil]); omega)) only [aW, aX, aV, aB, aN, aL, aP, aH, aM, r_graph_Groups]
    refine ⟨_, groupsG n l, Cut.of' 3 rfl (by omega) ⟨rfl, ?_, rfl, FzL.refl (b_bd _ _), rfl, FzL.refl (r_bd _ _ _), trivial⟩ ⟨Fz.refl rfl, trivial⟩, rfl, rfl⟩
    exact ⟨Fz.refl rfl, Fz.any, trivial⟩
end Go.Proofs.Ytjhdedifmhkhbaa
