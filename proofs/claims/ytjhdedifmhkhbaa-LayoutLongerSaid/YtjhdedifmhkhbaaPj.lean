/- The examples of the chapter; what the statements call great. No statement is claimed here. -/
import Derived.Test.YtjhdedifmhkhbaaPi
import Derived.Test.YtjhdedifmhkhbaaVn
namespace Go.Proofs.Ytjhdedifmhkhbaa
open Go Go.Lft
set_option linter.unusedSimpArgs false
set_option linter.unusedVariables false
attribute [local congr] ob_congr bw_congr ib_congr ck_congr iwA_congr itA_congr aw_congr awp_congr sqA_congr bkA_congr vr_congr gd_congr

def exP (a b : Int) : Pl := ⟨1, [[[a, b]], [[]]], [⟨0, 0, 1, 2⟩, ⟨0, 1, 0, 3⟩], 0⟩
theorem example_vr (a b : Int) : VR P false n_law34_example [.v (.int .i64 a), .v (.int .i64 b)] [] (isR (plA true true (exP a b))) := by
  refine vr_law34_example (by simp) (.inr rfl) fun _ _ => ?_
  simp (disch := ((try simp only [List.length_set, List.length_replicate, List.length_append, List.length_cons, List.length_nil]); omega)) only [aW, aX, aV, aB, aN, aL, aP, aH, aM, s_law34_example, v_law34_example, r_law34_example]
  refine post0 (fz_all ?_) ⟨rfl, rfl⟩
  simp [frzL_nil, frzL_cons, fzp_any, fzp_nil, fzp_v, fzp_agg, fzp_tup, fzp_fn, fzp_fs, fzp_fp, fzp_sl, fzp_vs, fzp_lp, ldp_any, ldp_nil, ldp_v, ldp_agg, ldp_fn, ldp_fs, ldp_fp, ldp_sl, ldp_vs, ldp_lp, blkAt, flatA, A.cells, A.one, Lft.one, retA, A.bdL, A.bd, exP, plA, plC, mcs, mcA, mcC, bts, btA, btC, rows, ints]

def loopsR (p : Pl) : List (List Int) × Int := if pcheck p ≠ 0 then ([], pcheck p) else (keepG (arcsR p) (gst p.ms.length (arcsR p) p.ms.length).2, 0)
theorem gcheck_plant {p : Pl} (h : POk p) : gcheck p.ms.length (arcsR p) = 0 := by
  unfold gcheck
  have h1 := h.n1
  have h2 := h.n2
  have h3 := h.b2
  have h4 := arcsR_len p
  rw [if_neg (by omega), if_neg (by omega), if_neg]
  rintro ⟨i, hi, hb⟩
  rw [arcsR_get p i (by omega)] at hb
  have := h.bt _ (mem_get b0 (show i < p.bs.length by omega))
  unfold arcBad at hb
  simp only at hb
  omega
theorem inR_plant {p : Pl} (h : POk p) : inR p.ms.length (arcsR p) := (gcheck_ok (gcheck_plant h)).2.2.2
theorem r_sh (n : Nat) (w : Bool) (l : List (List Int)) : A.shL n (rows w l) = rows w l := shL_bd _ (r_bd 0 w l)
theorem b_sh (n : Nat) (l : List Bool) : A.shL n (bools l) = bools l := shL_bd _ (b_bd 0 l)

theorem VR.vsl {P : Program} {kp : Bool} {f i ver k n : Nat} {l : List A} {H : List Blk} {R : A → List Blk → Prop} (hn : 0 < n) (h : VR P kp f (.sl i ver k 0 n :: l) H R) : VR P kp f (.vs i ver k n :: l) H R := fun c vs hH hs hr => by
  obtain ⟨x, xs, rfl, h1, h2⟩ := hr.uncons
  refine h c (x :: xs) hH hs (RL.cons ?_ h2)
  cases h1 with
  | vs0 => omega
  | vs i ver k n b s o' cp e1 e2 e3 => exact .sl i ver k 0 n b s o' cp e1 e2 fun hc => by have := e3 hc; omega
theorem gst_pos (n : Int) (l : Arcs) : ∀ v, 0 < v → 0 < (gst n l v).2.length
  | 1, _ => by simp [gst]
  | v + 2, _ => by
    have := gst_pos n l (v + 1) (by omega)
    rw [show v + 2 = (v + 1) + 1 from rfl]
    unfold gst
    split
    · exact this
    · simp
/-- The front of a block, frozen. -/
theorem fz_frontR (m : Nat) (H : List Blk) (i ver : Nat) (xs : List (List Int)) (T : List A) (n : Nat) (hi : m ≤ i) (hn : n = xs.length) (hb : blkAt H i ver = some (rows true xs ++ T)) : Fz m H (.sl i ver 1 0 n) (.fs true (rows true xs)) := by
  subst hn
  refine Fz.sl hi hb (FzL.cat (FzL.refl (r_bd m true xs)) (FzL.anys T)) ?_ (r_len _ _) ?_
  · rw [List.drop_zero, Nat.mul_one, List.take_append_of_le_length (by rw [r_len]; exact Nat.le_refl _), List.take_of_length_le (by rw [r_len]; exact Nat.le_refl _)]
    exact r_flat _ _
  · simp [r_len]

theorem layoutLoops_vr {w v : Bool} (p : Pl) : VR P false n_layout_Loops [plA w v p] [] (isR (.tup [.fs true (rows true (loopsR p).1), .v (.int .i64 (loopsR p).2)])) := by
  refine vr_layout_Loops (by simp) (.inr rfl) fun _ _ => ?_
  unfold plA plC loopsR
  simp (disch := ((try simp only [List.length_set, List.length_replicate, List.length_append, List.length_cons, List.length_nil]); omega)) only [aW, aX, aV, aB, aN, aL, aP, aH, aM, s_layout_Loops, v_layout_Loops]
  refine (layoutGraph_vr (w := w) (v := v) p).same (by unfold plA plC; simp (disch := first | omega | simp (disch := omega) only [aF, aL, aN, aM]) only [aW, aX, aV, aB, aN, aL, aP, aH, aM, aF, Int.natCast_add, Int.natCast_mul, Int.add_sub_cancel, List.length_nil, Int.cast_ofNat_Int, and_true, true_and]) (by unfold graphT graphA; simp (disch := first | omega | simp (disch := omega) only [aF, aL, aN, aM]) only [aW, aX, aV, aB, aN, aL, aP, aH, aM, aF, Int.natCast_add, Int.natCast_mul, Int.add_sub_cancel, List.length_nil, Int.cast_ofNat_Int, and_true, true_and]) (aret_of ?_)
  unfold graphT graphA
  by_cases h1 : pcheck p = 0
  · have ok := pcheck_ok h1
    have hn2 := ok.n2
    have hb2 := ok.b2
    have hal := arcsR_len p
    rw [pgraph_ok h1, if_neg (by omega)]
    simp (disch := ((try simp only [List.length_set, List.length_replicate, List.length_append, List.length_cons, List.length_nil]); omega)) only [aW, aX, aV, aB, aN, aL, aP, aH, aM]
    have hg := groupsO_vr (w := true) p.ms.length (arcsR p) (gcheck_plant ok)
    have hgl := gst_len p.ms.length (arcsR p) (p.ms.length : Int).toNat
    rw [show ((p.ms.length : Int)).toNat = p.ms.length from Int.toNat_natCast _] at hg hgl
    have hG : groupsG p.ms.length (arcsR p) = [⟨0, [.v (.int .i64 p.ms.length), .any]⟩, ⟨0, bools (tab p.ms.length (gst p.ms.length (arcsR p) p.ms.length).1)⟩, ⟨(gst p.ms.length (arcsR p) p.ms.length).2.length, rows true (gst p.ms.length (arcsR p) p.ms.length).2⟩] := rfl
    rw [hG] at hg
    have hgp := gst_pos p.ms.length (arcsR p) p.ms.length ok.n1
    generalize (gst p.ms.length (arcsR p) p.ms.length).2 = gs at hg hgl hgp ⊢
    generalize tab p.ms.length (gst p.ms.length (arcsR p) p.ms.length).1 = D at hg ⊢
    refine hg.useO (LdL.refl (by simp (disch := first | omega | simp (disch := omega) only [aF, aL, aN, aM]) only [aW, aX, aV, aB, aN, aL, aP, aH, aM, aF, Int.natCast_add, Int.natCast_mul, Int.add_sub_cancel, List.length_nil, Int.cast_ofNat_Int, and_true, true_and])) (by simp (disch := first | omega | simp (disch := omega) only [aF, aL, aN, aM]) only [aW, aX, aV, aB, aN, aL, aP, aH, aM, aF, Int.natCast_add, Int.natCast_mul, Int.add_sub_cancel, List.length_nil, Int.cast_ofNat_Int, and_true, true_and, List.all_cons, List.all_nil]; rfl) ?_
    refine aret_of ?_
    simp (disch := ((try simp only [List.length_set, List.length_replicate, List.length_append, List.length_cons, List.length_nil]); omega)) only [aW, aX, aV, aB, aN, aL, aP, aH, aM, A.sh, A.shL, Blk.sh, List.map_cons, List.map_nil, r_sh, b_sh]
    refine VR.vsl hgp ?_
    refine (deleteFunc_vr (w := true) p.ms.length (arcsR p) (by omega) gs (by omega) ⟨0, _⟩ ⟨0, _⟩ ⟨0, _⟩ gs.length (by simp (disch := first | omega | simp (disch := omega) only [aF, aL, aN, aM]) only [aW, aX, aV, aB, aN, aL, aP, aH, aM, aF, Int.natCast_add, Int.natCast_mul, Int.add_sub_cancel, List.length_nil, Int.cast_ofNat_Int, and_true, true_and]) (by simp (disch := first | omega | simp (disch := omega) only [aF, aL, aN, aM]) only [aW, aX, aV, aB, aN, aL, aP, aH, aM, aF, Int.natCast_add, Int.natCast_mul, Int.add_sub_cancel, List.length_nil, Int.cast_ofNat_Int, and_true, true_and]) (by simp (disch := first | omega | simp (disch := omega) only [aF, aL, aN, aM]) only [aW, aX, aV, aB, aN, aL, aP, aH, aM, aF, Int.natCast_add, Int.natCast_mul, Int.add_sub_cancel, List.length_nil, Int.cast_ofNat_Int, and_true, true_and])).mono ?_
    rintro r H' ⟨rfl, T, rfl⟩
    refine aret_of ?_
    simp (disch := ((try simp only [List.length_set, List.length_replicate, List.length_append, List.length_cons, List.length_nil]); omega)) only [aW, aX, aV, aB, aN, aL, aP, aH, aM, r_layout_Loops]
    exact post0 (r := .tup [.fs true (rows true (keepG (arcsR p) gs)), .v (.int .i64 0)]) (Fz.tup ⟨fz_frontR 0 _ 4 _ _ T _ (by omega) rfl (by simp (disch := ((try simp only [List.length_set, List.length_replicate, List.length_append, List.length_cons, List.length_nil]); omega)) only [aW, aX, aV, aB, aN, aL, aP, aH, aM]), Fz.refl rfl, trivial⟩) ⟨rfl, rfl⟩
  · rw [pgraph_err h1, if_pos h1]
    simp (disch := ((try simp only [List.length_set, List.length_replicate, List.length_append, List.length_cons, List.length_nil]); omega)) only [aW, aX, aV, aB, aN, aL, aP, aH, aM, r_layout_Loops]
    exact post_err ⟨rfl, rfl⟩

theorem reps_ne {n : Int} {l : Arcs} (hr : inR n l) : ∀ r ∈ (gst n l n.toNat).2, r ≠ [] := by
  rw [gst_reps]
  intro r hr'
  obtain ⟨x, h1, rfl⟩ := List.mem_map.1 hr'
  have hx := reps_lt n l n.toNat x h1
  have : (x : Int) ∈ memb n l x 0 n.toNat := memb_mem.2 ⟨by omega, by omega, by rw [Int.toNat_natCast]; exact b_refl hr hx⟩
  intro hc; rw [hc] at this; cases this

theorem refLoops_vr {w v : Bool} (p : Pl) : VR P false n_ref34_Loops [plA w v p] [] (isR (.tup [.fs true (rows true (loopsR p).1), .v (.int .i64 (loopsR p).2)])) := by
  refine vr_ref34_Loops (by simp) (.inr rfl) fun _ _ => ?_
  unfold plA plC loopsR
  simp (disch := ((try simp only [List.length_set, List.length_replicate, List.length_append, List.length_cons, List.length_nil]); omega)) only [aW, aX, aV, aB, aN, aL, aP, aH, aM, s_ref34_Loops, v_ref34_Loops]
  refine (refGraph_vr (w := w) (v := v) p).same (by unfold plA plC; simp (disch := first | omega | simp (disch := omega) only [aF, aL, aN, aM]) only [aW, aX, aV, aB, aN, aL, aP, aH, aM, aF, Int.natCast_add, Int.natCast_mul, Int.add_sub_cancel, List.length_nil, Int.cast_ofNat_Int, and_true, true_and]) (by unfold graphT graphA; simp (disch := first | omega | simp (disch := omega) only [aF, aL, aN, aM]) only [aW, aX, aV, aB, aN, aL, aP, aH, aM, aF, Int.natCast_add, Int.natCast_mul, Int.add_sub_cancel, List.length_nil, Int.cast_ofNat_Int, and_true, true_and]) (aret_of ?_)
  unfold graphT graphA
  by_cases h1 : pcheck p = 0
  · have ok := pcheck_ok h1
    have hn2 := ok.n2
    have hb2 := ok.b2
    have hal := arcsR_len p
    rw [pgraph_ok h1, if_neg (by omega)]
    simp (disch := ((try simp only [List.length_set, List.length_replicate, List.length_append, List.length_cons, List.length_nil]); omega)) only [aW, aX, aV, aB, aN, aL, aP, aH, aM]
    have hg := refGroups_vr (w := true) p.ms.length (arcsR p)
    have hgl := gst_len p.ms.length (arcsR p) (p.ms.length : Int).toNat
    have hgr : groupsR p.ms.length (arcsR p) = ((gst p.ms.length (arcsR p) p.ms.length).2, 0) := by unfold groupsR; rw [if_neg (by simp [gcheck_plant ok]), Int.toNat_natCast]
    have hgn := reps_ne (inR_plant ok)
    rw [Int.toNat_natCast] at hgl hgn
    rw [hgr] at hg
    generalize (gst p.ms.length (arcsR p) p.ms.length).2 = gs at hg hgl hgn ⊢
    refine hg.same (by unfold graphA; simp (disch := first | omega | simp (disch := omega) only [aF, aL, aN, aM]) only [aW, aX, aV, aB, aN, aL, aP, aH, aM, aF, Int.natCast_add, Int.natCast_mul, Int.add_sub_cancel, List.length_nil, Int.cast_ofNat_Int, and_true, true_and]) (by simp (disch := first | omega | simp (disch := omega) only [aF, aL, aN, aM]) only [aW, aX, aV, aB, aN, aL, aP, aH, aM, aF, Int.natCast_add, Int.natCast_mul, Int.add_sub_cancel, List.length_nil, Int.cast_ofNat_Int, and_true, true_and]) (aret_of ?_)
    simp (disch := ((try simp only [List.length_set, List.length_replicate, List.length_append, List.length_cons, List.length_nil]); omega)) only [aW, aX, aV, aB, aN, aL, aP, aH, aM]
    refine AWP.cut (Cut.virt 8 1 rfl) ?_
    refine AWP.loopP (α := Nat × Nat) g_ref34_Loops_0 (fun q => q.1 ≤ gs.length) (fun q => [(8, .vs 2 q.2 1 (keepG (arcsR p) (gs.take q.1)).length), (9, .v (.int .i64 q.1))]) (fun q => [(2, ⟨q.2, rows true (keepG (arcsR p) (gs.take q.1))⟩)]) (fun q => gs.length - q.1) (0, 0) (by simp) ?_ ?_
    · simp (disch := ((try simp only [List.length_set, List.length_replicate, List.length_append, List.length_cons, List.length_nil]); omega)) only [aW, aX, aV, aB, aN, aL, aP, aH, aM]
      exact Cut.of' 3 rfl (by omega) (by simp (disch := first | omega | simp (disch := omega) only [aF, aL, aN, aM]) only [aW, aX, aV, aB, aN, aL, aP, aH, aM, aF, Int.natCast_add, Int.natCast_mul, Int.add_sub_cancel, List.length_nil, Int.cast_ofNat_Int, and_true, true_and, List.take_zero, keepG, List.filter_nil, r_nil]) (by simp (disch := first | omega | simp (disch := omega) only [aF, aL, aN, aM]) only [aW, aX, aV, aB, aN, aL, aP, aH, aM, aF, Int.natCast_add, Int.natCast_mul, Int.add_sub_cancel, List.length_nil, Int.cast_ofNat_Int, and_true, true_and, List.take_zero, keepG, List.filter_nil, r_nil])
    rintro ⟨k, ver⟩ hk
    simp only at hk
    have hkl := keep_le (arcsR p) gs k
    by_cases hlt : k < gs.length
    · have hne := hgn _ (mem_get [] hlt)
      have hne' : 0 < (gs.getD k []).length := List.length_pos_iff.2 hne
      have hks := keep_succ (arcsR p) gs k hlt
      simp (disch := ((try simp only [List.length_set, List.length_replicate, List.length_append, List.length_cons, List.length_nil]); omega)) only [aW, aX, aV, aB, aN, aL, aP, aH, aM]
      refine AWP.loopP g_ref34_Loops_1 (fun j : Nat => j ≤ p.bs.length) (fun j => [(10, .v (.bool (decide (1 < (gs.getD k []).length ∨ ((gs.getD k []).getD 0 0, (gs.getD k []).getD 0 0) ∈ (arcsR p).take j)))), (11, .v (.int .i64 j))]) (fun _ => []) (fun j => p.bs.length - j) 0 (by omega) ?_ ?_
      · have e0 : decide (1 < (gs.getD k []).length ∨ ((gs.getD k []).getD 0 0, (gs.getD k []).getD 0 0) ∈ (arcsR p).take 0) = decide (1 < ((gs.getD k []).length : Int)) := by
          rw [List.take_zero]; simp; omega
        simp (disch := ((try simp only [List.length_set, List.length_replicate, List.length_append, List.length_cons, List.length_nil]); omega)) only [aW, aX, aV, aB, aN, aL, aP, aH, aM, e0]
        exact Cut.of' 3 rfl (by omega) (by simp (disch := first | omega | simp (disch := omega) only [aF, aL, aN, aM]) only [aW, aX, aV, aB, aN, aL, aP, aH, aM, aF, Int.natCast_add, Int.natCast_mul, Int.add_sub_cancel, List.length_nil, Int.cast_ofNat_Int, and_true, true_and]) (by simp (disch := first | omega | simp (disch := omega) only [aF, aL, aN, aM]) only [aW, aX, aV, aB, aN, aL, aP, aH, aM, aF, Int.natCast_add, Int.natCast_mul, Int.add_sub_cancel, List.length_nil, Int.cast_ofNat_Int, and_true, true_and])
      rintro j hj
      by_cases hjl : j < p.bs.length
      · have hag := arcsR_get p j hjl
        have e1 : (decide (1 < (gs.getD k []).length ∨ ((gs.getD k []).getD 0 0, (gs.getD k []).getD 0 0) ∈ (arcsR p).take j) || (decide ((p.bs.getD j b0).fr = (gs.getD k []).getD 0 0 ∧ (p.bs.getD j b0).to = (gs.getD k []).getD 0 0))) = decide (1 < (gs.getD k []).length ∨ ((gs.getD k []).getD 0 0, (gs.getD k []).getD 0 0) ∈ (arcsR p).take (j + 1)) := by
          rw [take_succ_get (arcsR p) j (0, 0) (by omega), hag, Bool.eq_iff_iff]
          simp only [Bool.or_eq_true, decide_eq_true_eq, List.mem_append, List.mem_singleton, Prod.mk.injEq, or_assoc, eq_comm (a := (gs.getD k []).getD 0 0)]
        simp (disch := ((try simp only [List.length_set, List.length_replicate, List.length_append, List.length_cons, List.length_nil]); omega)) only [aW, aX, aV, aB, aN, aL, aP, aH, aM, e1]
        refine ⟨j + 1, by omega, by omega, ?_⟩
        exact Cut.of' 3 rfl (by omega) (by simp (disch := first | omega | simp (disch := omega) only [aF, aL, aN, aM]) only [aW, aX, aV, aB, aN, aL, aP, aH, aM, aF, Int.natCast_add, Int.natCast_mul, Int.add_sub_cancel, List.length_nil, Int.cast_ofNat_Int, and_true, true_and]) (by simp (disch := first | omega | simp (disch := omega) only [aF, aL, aN, aM]) only [aW, aX, aV, aB, aN, aL, aP, aH, aM, aF, Int.natCast_add, Int.natCast_mul, Int.add_sub_cancel, List.length_nil, Int.cast_ofNat_Int, and_true, true_and])
      · have hje : j = p.bs.length := by omega
        subst hje
        have e2 : decide (1 < (gs.getD k []).length ∨ ((gs.getD k []).getD 0 0, (gs.getD k []).getD 0 0) ∈ (arcsR p).take p.bs.length) = decide (¬ delG (arcsR p) (gs.getD k [])) := by
          rw [List.take_of_length_le (by omega)]
          unfold delG
          apply decide_eq_decide.2
          constructor
          · rintro (h | h) ⟨h2, h3⟩
            · omega
            · exact h3 h
          · intro h
            by_cases h2 : (gs.getD k []).length = 1
            · exact .inr (Classical.byContradiction fun h3 => h ⟨h2, h3⟩)
            · exact .inl (by omega)
        rw [e2]
        simp (disch := ((try simp only [List.length_set, List.length_replicate, List.length_append, List.length_cons, List.length_nil]); omega)) only [aW, aX, aV, aB, aN, aL, aP, aH, aM]
        refine ib_intro (fun h3 => ?_) (fun h3 => ?_)
        · rw [if_neg h3] at hks
          simp (disch := ((try simp only [List.length_set, List.length_replicate, List.length_append, List.length_cons, List.length_nil]); omega)) only [aW, aX, aV, aB, aN, aL, aP, aH, aM]
          refine ⟨(k + 1, ver + 1), by simp only; omega, by simp only; omega, ?_⟩
          simp only [hks]
          try simp (disch := ((try simp only [List.length_set, List.length_replicate, List.length_append, List.length_cons, List.length_nil]); omega)) only [aW, aX, aV, aB, aN, aL, aP, aH, aM]
          exact Cut.of' 3 rfl (by omega) (by simp (disch := first | omega | simp (disch := omega) only [aF, aL, aN, aM]) only [aW, aX, aV, aB, aN, aL, aP, aH, aM, aF, Int.natCast_add, Int.natCast_mul, Int.add_sub_cancel, List.length_nil, Int.cast_ofNat_Int, and_true, true_and]) (by simp (disch := first | omega | simp (disch := omega) only [aF, aL, aN, aM]) only [aW, aX, aV, aB, aN, aL, aP, aH, aM, aF, Int.natCast_add, Int.natCast_mul, Int.add_sub_cancel, List.length_nil, Int.cast_ofNat_Int, and_true, true_and])
        · rw [if_pos (Classical.not_not.1 h3)] at hks
          simp (disch := ((try simp only [List.length_set, List.length_replicate, List.length_append, List.length_cons, List.length_nil]); omega)) only [aW, aX, aV, aB, aN, aL, aP, aH, aM]
          refine ⟨(k + 1, ver), by simp only; omega, by simp only; omega, ?_⟩
          simp only [hks]
          exact Cut.of' 3 rfl (by omega) (by simp (disch := first | omega | simp (disch := omega) only [aF, aL, aN, aM]) only [aW, aX, aV, aB, aN, aL, aP, aH, aM, aF, Int.natCast_add, Int.natCast_mul, Int.add_sub_cancel, List.length_nil, Int.cast_ofNat_Int, and_true, true_and]) (by simp (disch := first | omega | simp (disch := omega) only [aF, aL, aN, aM]) only [aW, aX, aV, aB, aN, aL, aP, aH, aM, aF, Int.natCast_add, Int.natCast_mul, Int.add_sub_cancel, List.length_nil, Int.cast_ofNat_Int, and_true, true_and])
    · have hke : k = gs.length := by omega
      subst hke
      rw [List.take_length]
      simp (disch := ((try simp only [List.length_set, List.length_replicate, List.length_append, List.length_cons, List.length_nil]); omega)) only [aW, aX, aV, aB, aN, aL, aP, aH, aM, r_ref34_Loops]
      exact post0 (r := .tup [.fs true (rows true (keepG (arcsR p) gs)), .v (.int .i64 0)]) (Fz.tup ⟨fz_vsR _ _ _ _ _ _ (by omega) rfl (by simp (disch := ((try simp only [List.length_set, List.length_replicate, List.length_append, List.length_cons, List.length_nil]); omega)) only [aW, aX, aV, aB, aN, aL, aP, aH, aM]), Fz.refl rfl, trivial⟩) ⟨rfl, rfl⟩
  · rw [pgraph_err h1, if_pos h1]
    simp (disch := ((try simp only [List.length_set, List.length_replicate, List.length_append, List.length_cons, List.length_nil]); omega)) only [aW, aX, aV, aB, aN, aL, aP, aH, aM, r_ref34_Loops]
    exact post_err ⟨rfl, rfl⟩
end Go.Proofs.Ytjhdedifmhkhbaa
