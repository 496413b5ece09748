/- Loops of a plant (continued). No statement is claimed here. -/
import Derived.Test.YtjhdedifmhkhbaaPh
namespace Go.Proofs.Ytjhdedifmhkhbaa
open Go Go.Lft
set_option linter.unusedSimpArgs false
set_option linter.unusedVariables false
attribute [local congr] ob_congr bw_congr ib_congr ck_congr iwA_congr itA_congr aw_congr awp_congr sqA_congr bkA_congr vr_congr gd_congr

theorem indexArc_vr {w : Bool} (l : Arcs) (hl : l.length < 1000000000) (x : Int × Int) : VR P false n_slices_Indexapi_Arc_api_Arc [.fs w (pairs l), pairA x] [] (isR (.v (.int .i64 (idxE (fun a : Int × Int => a = x) l)))) := by
  refine vr_slices_Indexapi_Arc_api_Arc (by simp) (.inr rfl) fun _ _ => ?_
  unfold pairA
  simp (disch := ((try simp only [List.length_set, List.length_replicate, List.length_append, List.length_cons, List.length_nil]); omega)) only [aW, aX, aV, aB, aN, aL, aP, aH, aM, s_slices_Indexapi_Arc_api_Arc, v_slices_Indexapi_Arc_api_Arc]
  refine AWP.loopP g_slices_Indexapi_Arc_api_Arc_0 (fun k : Nat => k ≤ l.length ∧ ∀ i, i < k → ¬ (l.getD i (0, 0) = x)) (fun k => [(2, .v (.int .i64 0)), (3, .v (.int .i64 k))]) (fun _ => []) (fun k => l.length - k) 0 ⟨by omega, fun i hi => by omega⟩ (by refine Cut.of' (1) ?_ (by omega) ?_ ?_ <;> simp (disch := first | omega | simp (disch := omega) only [aF, aL, aN, aM]) only [aW, aX, aV, aB, aN, aL, aP, aH, aM, aF, Int.natCast_add, Int.natCast_mul, Int.add_sub_cancel, List.length_nil, Int.cast_ofNat_Int, and_true, true_and]) ?_
  rintro k ⟨hk, hb⟩
  by_cases hlt : k < l.length
  · simp (disch := ((try simp only [List.length_set, List.length_replicate, List.length_append, List.length_cons, List.length_nil]); omega)) only [aW, aX, aV, aB, aN, aL, aP, aH, aM]
    refine ib_split (fun h3 => ?_) (fun h3 => ?_)
    · have h4 : l.getD k (0, 0) = x := by simp at h3; exact (Prod.ext h3.1 h3.2).symm
      have := idxE_hit (p := fun a : Int × Int => a = x) (0, 0) hlt hb h4
      simp (disch := ((try simp only [List.length_set, List.length_replicate, List.length_append, List.length_cons, List.length_nil]); omega)) only [aW, aX, aV, aB, aN, aL, aP, aH, aM, r_slices_Indexapi_Arc_api_Arc]
      exact post_v ⟨by rw [this], rfl⟩
    · have h4 : ¬ l.getD k (0, 0) = x := by rintro rfl; simp at h3
      simp (disch := ((try simp only [List.length_set, List.length_replicate, List.length_append, List.length_cons, List.length_nil]); omega)) only [aW, aX, aV, aB, aN, aL, aP, aH, aM]
      refine ⟨k + 1, ⟨by omega, fun i hi => ?_⟩, by omega, (by refine Cut.of' (1) ?_ (by omega) ?_ ?_ <;> simp (disch := first | omega | simp (disch := omega) only [aF, aL, aN, aM]) only [aW, aX, aV, aB, aN, aL, aP, aH, aM, aF, Int.natCast_add, Int.natCast_mul, Int.add_sub_cancel, List.length_nil, Int.cast_ofNat_Int, and_true, true_and])⟩
      rcases Nat.lt_succ_iff_lt_or_eq.1 hi with h | rfl
      · exact hb i h
      · exact h4
  · have := idxE_none (p := fun a : Int × Int => a = x) (0, 0) (l := l) fun i hi => hb i (by omega)
    simp (disch := ((try simp only [List.length_set, List.length_replicate, List.length_append, List.length_cons, List.length_nil]); omega)) only [aW, aX, aV, aB, aN, aL, aP, aH, aM, r_slices_Indexapi_Arc_api_Arc]
    exact post_v ⟨by rw [this], rfl⟩
theorem idxE_mem {α : Type} {p : α → Prop} [DecidablePred p] {l : List α} : 0 ≤ idxE p l ↔ ∃ x ∈ l, p x := by
  constructor
  · intro h
    have h1 := idxE_ge p l
    cases l with
    | nil => simp [idxE] at h
    | cons d r => exact ⟨_, mem_get d (by omega), idxE_at (p := p) d h⟩
  · rintro ⟨x, h1, h2⟩
    apply Classical.byContradiction; intro hc
    exact idxE_neg (p := p) (l := l) (by omega) x h1 h2
theorem containsArc_vr {w : Bool} (l : Arcs) (hl : l.length < 1000000000) (x : Int × Int) : VR P false n_slices_Containsapi_Arc_api_Arc [.fs w (pairs l), pairA x] [] (isR (.v (.bool (decide (x ∈ l))))) := by
  refine vr_slices_Containsapi_Arc_api_Arc (by simp) (.inr rfl) fun _ _ => ?_
  unfold pairA
  simp (disch := ((try simp only [List.length_set, List.length_replicate, List.length_append, List.length_cons, List.length_nil]); omega)) only [aW, aX, aV, aB, aN, aL, aP, aH, aM, s_slices_Containsapi_Arc_api_Arc, v_slices_Containsapi_Arc_api_Arc]
  refine (indexArc_vr (w := w) l hl x).same (by unfold pairA; simp (disch := first | omega | simp (disch := omega) only [aF, aL, aN, aM]) only [aW, aX, aV, aB, aN, aL, aP, aH, aM, aF, Int.natCast_add, Int.natCast_mul, Int.add_sub_cancel, List.length_nil, Int.cast_ofNat_Int, and_true, true_and]) rfl (aret_of ?_)
  simp (disch := ((try simp only [List.length_set, List.length_replicate, List.length_append, List.length_cons, List.length_nil]); omega)) only [aW, aX, aV, aB, aN, aL, aP, aH, aM, r_slices_Containsapi_Arc_api_Arc]
  refine post_v ⟨vdec ?_, rfl⟩
  rw [show (0 ≤ idxE (fun a => a = x) l) ↔ _ from idxE_mem]
  simp

/-- The group is no loop. -/
def delG (l : Arcs) (r : List Int) : Prop := r.length = 1 ∧ ¬ (r.getD 0 0, r.getD 0 0) ∈ l
instance (l : Arcs) : DecidablePred (delG l) := fun r => by unfold delG; infer_instance

theorem loops1_vr {w v : Bool} (n : Int) (l : Arcs) (hl : l.length < 1000000000) (r : List Int) : VR P false n_layout_Loops_1 [.fs v (ints r), .fp false [.v (.int .i64 n), .fs w (pairs l)]] [] (isR (.v (.bool (decide (delG l r))))) := by
  refine vr_layout_Loops_1 (by simp) (.inr rfl) fun _ _ => ?_
  by_cases h : r.length = 1
  · simp (disch := ((try simp only [List.length_set, List.length_replicate, List.length_append, List.length_cons, List.length_nil]); omega)) only [aW, aX, aV, aB, aN, aL, aP, aH, aM, s_layout_Loops_1, v_layout_Loops_1]
    refine (containsArc_vr (w := w) l hl (r.getD 0 0, r.getD 0 0)).same (by unfold pairA; simp (disch := first | omega | simp (disch := omega) only [aF, aL, aN, aM]) only [aW, aX, aV, aB, aN, aL, aP, aH, aM, aF, Int.natCast_add, Int.natCast_mul, Int.add_sub_cancel, List.length_nil, Int.cast_ofNat_Int, and_true, true_and]) rfl (aret_of ?_)
    simp (disch := ((try simp only [List.length_set, List.length_replicate, List.length_append, List.length_cons, List.length_nil]); omega)) only [aW, aX, aV, aB, aN, aL, aP, aH, aM, r_layout_Loops_1]
    exact post_v ⟨vdec (by unfold delG; simp only [h, true_and]), rfl⟩
  · simp (disch := ((try simp only [List.length_set, List.length_replicate, List.length_append, List.length_cons, List.length_nil]); omega)) only [aW, aX, aV, aB, aN, aL, aP, aH, aM, s_layout_Loops_1, v_layout_Loops_1, r_layout_Loops_1]
    exact post_v ⟨vfalse fun h2 => h h2.1, rfl⟩

theorem indexFuncG_vr {w v : Bool} (n : Int) (l : Arcs) (hl : l.length < 1000000000) (gs : List (List Int)) (hg : gs.length < 1000000000) : VR P false n_slices_IndexFuncint_int [.fs v (rows true gs), .fn n_layout_Loops_1 [.fp false [.v (.int .i64 n), .fs w (pairs l)]]] [] (isR (.v (.int .i64 (idxE (delG l) gs)))) := by
  refine vr_slices_IndexFuncint_int (by simp) (.inr rfl) fun _ _ => ?_
  simp (disch := ((try simp only [List.length_set, List.length_replicate, List.length_append, List.length_cons, List.length_nil]); omega)) only [aW, aX, aV, aB, aN, aL, aP, aH, aM, s_slices_IndexFuncint_int, v_slices_IndexFuncint_int]
  refine AWP.loopP g_slices_IndexFuncint_int_0 (fun k : Nat => k ≤ gs.length ∧ ∀ i, i < k → ¬ delG l (gs.getD i [])) (fun k => [(2, .v (.int .i64 0)), (3, .v (.int .i64 k))]) (fun _ => []) (fun k => gs.length - k) 0 ⟨by omega, fun i hi => by omega⟩ (by refine Cut.of' (0) ?_ (by omega) ?_ ?_ <;> simp (disch := first | omega | simp (disch := omega) only [aF, aL, aN, aM]) only [aW, aX, aV, aB, aN, aL, aP, aH, aM, aF, Int.natCast_add, Int.natCast_mul, Int.add_sub_cancel, List.length_nil, Int.cast_ofNat_Int, and_true, true_and]) ?_
  rintro k ⟨hk, hb⟩
  by_cases hlt : k < gs.length
  · simp (disch := ((try simp only [List.length_set, List.length_replicate, List.length_append, List.length_cons, List.length_nil]); omega)) only [aW, aX, aV, aB, aN, aL, aP, aH, aM]
    refine ⟨by kernel_rfl, ?_⟩
    refine (loops1_vr (w := w) (v := true) n l hl (gs.getD k [])).same (by simp (disch := first | omega | simp (disch := omega) only [aF, aL, aN, aM]) only [aW, aX, aV, aB, aN, aL, aP, aH, aM, aF, Int.natCast_add, Int.natCast_mul, Int.add_sub_cancel, List.length_nil, Int.cast_ofNat_Int, and_true, true_and]) rfl (aret_of ?_)
    simp (disch := ((try simp only [List.length_set, List.length_replicate, List.length_append, List.length_cons, List.length_nil]); omega)) only [aW, aX, aV, aB, aN, aL, aP, aH, aM]
    refine ib_intro (fun h3 => ?_) (fun h3 => ?_)
    · have := idxE_hit (p := delG l) [] hlt hb h3
      simp (disch := ((try simp only [List.length_set, List.length_replicate, List.length_append, List.length_cons, List.length_nil]); omega)) only [aW, aX, aV, aB, aN, aL, aP, aH, aM, r_slices_IndexFuncint_int]
      exact post_v ⟨by rw [this], rfl⟩
    · simp (disch := ((try simp only [List.length_set, List.length_replicate, List.length_append, List.length_cons, List.length_nil]); omega)) only [aW, aX, aV, aB, aN, aL, aP, aH, aM]
      refine ⟨k + 1, ⟨by omega, fun i hi => ?_⟩, by omega, (by refine Cut.of' (0) ?_ (by omega) ?_ ?_ <;> simp (disch := first | omega | simp (disch := omega) only [aF, aL, aN, aM]) only [aW, aX, aV, aB, aN, aL, aP, aH, aM, aF, Int.natCast_add, Int.natCast_mul, Int.add_sub_cancel, List.length_nil, Int.cast_ofNat_Int, and_true, true_and])⟩
      rcases Nat.lt_succ_iff_lt_or_eq.1 hi with h | rfl
      · exact hb i h
      · exact h3
  · have := idxE_none (p := delG l) [] (l := gs) fun i hi => hb i (by omega)
    simp (disch := ((try simp only [List.length_set, List.length_replicate, List.length_append, List.length_cons, List.length_nil]); omega)) only [aW, aX, aV, aB, aN, aL, aP, aH, aM, r_slices_IndexFuncint_int]
    exact post_v ⟨by rw [this], rfl⟩

def keepG (l : Arcs) (gs : List (List Int)) : List (List Int) := gs.filter fun r => decide (¬ delG l r)
theorem keep_succ (l : Arcs) (gs : List (List Int)) (k : Nat) (hk : k < gs.length) : keepG l (gs.take (k + 1)) = if delG l (gs.getD k []) then keepG l (gs.take k) else keepG l (gs.take k) ++ [gs.getD k []] := by
  unfold keepG
  rw [take_succ_get gs k [] hk, List.filter_append]
  by_cases h : delG l (gs.getD k [])
  · rw [if_pos h, List.filter_cons_of_neg (by simpa using h), List.filter_nil, List.append_nil]
  · rw [if_neg h, List.filter_cons_of_pos (by simpa using h), List.filter_nil]
theorem keep_none (l : Arcs) (gs : List (List Int)) (k : Nat) (hk : k ≤ gs.length) (h : ∀ i, i < k → ¬ delG l (gs.getD i [])) : keepG l (gs.take k) = gs.take k := by
  unfold keepG
  rw [List.filter_eq_self]
  intro r hr
  obtain ⟨i, h1, rfl⟩ := get_mem [] hr
  rw [List.length_take] at h1
  have : (gs.take k).getD i [] = gs.getD i [] := by simp [List.getD_eq_getElem?_getD, List.getElem?_take, show i < k by omega]
  rw [this]; simpa using h i (by omega)
theorem keep_le (l : Arcs) (gs : List (List Int)) (k : Nat) : (keepG l (gs.take k)).length ≤ k := by
  unfold keepG
  have := List.length_filter_le (fun r => decide (¬ delG l r)) (gs.take k)
  rw [List.length_take] at this; omega

theorem rows_app (w : Bool) (a b : List (List Int)) : rows w a ++ rows w b = rows w (a ++ b) := by simp [rows]
def nilsA (n : Nat) : List A := List.replicate n (.v (.slice none 0 0))
/-- The groups are freed of those that are no loops. -/
theorem deleteFunc_vr {w : Bool} (n : Int) (l : Arcs) (hl : l.length < 1000000000) (gs : List (List Int)) (hg : gs.length < 1000000000) (B0 B2 B3 : Blk) (V : Nat) (h0 : A.bdL 5 B0.cells = true) (h2 : A.bdL 5 B2.cells = true) (h3 : A.bdL 5 B3.cells = true) :
    VR P false n_slices_DeleteFuncint_int [.sl 4 V 1 0 gs.length, .fn n_layout_Loops_1 [.lp 1 0 0]] [B0, ⟨0, [.v (.int .i64 n), .fs w (pairs l)]⟩, B2, B3, ⟨V, rows true gs⟩] fun r H' =>
      r = .sl 4 V 1 0 (keepG l gs).length ∧ ∃ T, H' = [B0, ⟨0, [.v (.int .i64 n), .fs w (pairs l)]⟩, B2, B3, ⟨V, rows true (keepG l gs) ++ T⟩] := by
  refine vr_slices_DeleteFuncint_int (by simp) (.inl rfl) fun _ _ => ?_
  obtain ⟨v0, c0⟩ := B0
  obtain ⟨v2, c2⟩ := B2
  obtain ⟨v3, c3⟩ := B3
  simp only at h0 h2 h3
  have hx := idxE_ge (delG l) gs
  simp (disch := ((try simp only [List.length_set, List.length_replicate, List.length_append, List.length_cons, List.length_nil]); omega)) only [aW, aX, aV, aB, aN, aL, aP, aH, aM, s_slices_DeleteFuncint_int, v_slices_DeleteFuncint_int]
  refine (indexFuncG_vr (w := w) (v := false) n l hl gs hg).use ⟨ld_slR _ _ _ _ _ _ rfl (by simp (disch := ((try simp only [List.length_set, List.length_replicate, List.length_append, List.length_cons, List.length_nil]); omega)) only [aW, aX, aV, aB, aN, aL, aP, aH, aM]), Ld.fn ⟨Ld.lp (o := 0) rfl (LdL.refl (by simp (disch := first | omega | simp (disch := omega) only [aF, aL, aN, aM]) only [aW, aX, aV, aB, aN, aL, aP, aH, aM, aF, Int.natCast_add, Int.natCast_mul, Int.add_sub_cancel, List.length_nil, Int.cast_ofNat_Int, and_true, true_and])) (by simp), trivial⟩, trivial⟩ rfl (aret_of ?_)
  simp (disch := ((try simp only [List.length_set, List.length_replicate, List.length_append, List.length_cons, List.length_nil]); omega)) only [aW, aX, aV, aB, aN, aL, aP, aH, aM]
  refine ib_intro (fun h4 => ?_) (fun h4 => ?_)
  · have hk : keepG l gs = gs := by
      have := keep_none l gs gs.length (Nat.le_refl _) fun i hi => idxE_neg (p := delG l) (l := gs) (by omega) _ (mem_get [] hi)
      rwa [List.take_length] at this
    simp (disch := ((try simp only [List.length_set, List.length_replicate, List.length_append, List.length_cons, List.length_nil]); omega)) only [aW, aX, aV, aB, aN, aL, aP, aH, aM, r_slices_DeleteFuncint_int]
    refine post2 ⟨by rw [hk]; rfl, [], ?_⟩
    rw [hk, List.append_nil]
  have hd := idxE_at (p := delG l) [] (l := gs) (by omega)
  have hbef : ∀ i, i < (idxE (delG l) gs).toNat → ¬ delG l (gs.getD i []) := fun i hi => idxE_lt (p := delG l) [] (by omega)
  generalize idxE (delG l) gs = x at hx h4 hd hbef ⊢
  have hK0 : keepG l (gs.take (x.toNat + 1)) = gs.take x.toNat := by
    rw [keep_succ _ _ _ (by omega), if_pos hd, keep_none l gs _ (by omega) hbef]
  simp (disch := ((try simp only [List.length_set, List.length_replicate, List.length_append, List.length_cons, List.length_nil]); omega)) only [aW, aX, aV, aB, aN, aL, aP, aH, aM]
  refine AWP.loopP g_slices_DeleteFuncint_int_0 (fun j : Nat => x.toNat + 1 ≤ j ∧ j ≤ gs.length ∧ (keepG l (gs.take j)).length < j) (fun j => [(2, .v (.slice none 0 0)), (3, .v (.int .i64 (keepG l (gs.take j)).length)), (4, .v (.int .i64 j))]) (fun j => [(4, ⟨V, rows true (keepG l (gs.take j) ++ gs.drop (keepG l (gs.take j)).length)⟩)]) (fun j => gs.length - j) (x.toNat + 1) ⟨by omega, by omega, ?_⟩ ?_ ?_
  · rw [hK0, List.length_take]; omega
  · have e1 : keepG l (gs.take (x.toNat + 1)) ++ gs.drop (keepG l (gs.take (x.toNat + 1))).length = gs := by
      rw [hK0, List.length_take, Nat.min_eq_left (by omega), List.take_append_drop]
    have e2 : ((keepG l (gs.take (x.toNat + 1))).length : Int) = x := by rw [hK0, List.length_take]; omega
    have e3 : ((x.toNat + 1 : Nat) : Int) = x + 1 := by omega
    simp only [e1, e2, e3]
    try simp (disch := ((try simp only [List.length_set, List.length_replicate, List.length_append, List.length_cons, List.length_nil]); omega)) only [aW, aX, aV, aB, aN, aL, aP, aH, aM]
    exact Cut.of' 5 rfl (by omega) (by simp (disch := first | omega | simp (disch := omega) only [aF, aL, aN, aM]) only [aW, aX, aV, aB, aN, aL, aP, aH, aM, aF, Int.natCast_add, Int.natCast_mul, Int.add_sub_cancel, List.length_nil, Int.cast_ofNat_Int, and_true, true_and, h0, h2, h3, fzl_refl]) (by simp (disch := first | omega | simp (disch := omega) only [aF, aL, aN, aM]) only [aW, aX, aV, aB, aN, aL, aP, aH, aM, aF, Int.natCast_add, Int.natCast_mul, Int.add_sub_cancel, List.length_nil, Int.cast_ofNat_Int, and_true, true_and])
  rintro j ⟨hj1, hj2, hj3⟩
  have hkl := keep_le l gs j
  have hnext := fun hlt => keep_succ l gs j hlt
  generalize hK : keepG l (gs.take j) = K at hj3 hkl hnext ⊢
  have hlen : (K ++ gs.drop K.length).length = gs.length := by simp; omega
  by_cases hlt : j < gs.length
  · have hnext := hnext hlt
    have hg : (K ++ gs.drop K.length).getD j [] = gs.getD j [] := by
      simp only [List.getD_eq_getElem?_getD]
      rw [List.getElem?_append_right (by omega), List.getElem?_drop]
      congr 2; omega
    have hnth := r_nth true (K ++ gs.drop K.length) j (by omega)
    simp (disch := ((try simp only [List.length_set, List.length_replicate, List.length_append, List.length_cons, List.length_nil]); omega)) only [aW, aX, aV, aB, aN, aL, aP, aH, aM, hnth, hg]
    refine ⟨by kernel_rfl, ?_⟩
    refine (loops1_vr (w := w) (v := true) n l hl (gs.getD j [])).use ⟨Ld.refl (by simp (disch := first | omega | simp (disch := omega) only [aF, aL, aN, aM]) only [aW, aX, aV, aB, aN, aL, aP, aH, aM, aF, Int.natCast_add, Int.natCast_mul, Int.add_sub_cancel, List.length_nil, Int.cast_ofNat_Int, and_true, true_and]), Ld.lp (o := 0) rfl (LdL.refl (by simp (disch := first | omega | simp (disch := omega) only [aF, aL, aN, aM]) only [aW, aX, aV, aB, aN, aL, aP, aH, aM, aF, Int.natCast_add, Int.natCast_mul, Int.add_sub_cancel, List.length_nil, Int.cast_ofNat_Int, and_true, true_and])) (by simp), trivial⟩ rfl (aret_of ?_)
    simp (disch := ((try simp only [List.length_set, List.length_replicate, List.length_append, List.length_cons, List.length_nil]); omega)) only [aW, aX, aV, aB, aN, aL, aP, aH, aM]
    refine ib_intro (fun h5 => ?_) (fun h5 => ?_)
    · have h5 : ¬ delG l (gs.getD j []) := by simpa using h5
      rw [if_neg h5] at hnext
      have e4 : (K ++ gs.drop K.length).set K.length (gs.getD j []) = (K ++ [gs.getD j []]) ++ gs.drop (K ++ [gs.getD j []]).length := by
        rw [List.set_append_right _ _ (Nat.le_refl _), Nat.sub_self, List.length_append, List.append_assoc]
        congr 1
        rw [List.drop_eq_getElem_cons (show K.length < gs.length by omega)]; rfl
      have hst := r_spl true (K ++ gs.drop K.length) K.length (gs.getD j []) (by omega)
      have hle : K.length + 1 ≤ (K ++ gs.drop K.length).length := by omega
      simp (disch := ((try simp only [List.length_set, List.length_replicate, List.length_append, List.length_cons, List.length_nil]); omega)) only [aW, aX, aV, aB, aN, aL, aP, aH, aM, hst, e4, eq_true hle]
      refine ⟨j + 1, ⟨by omega, by omega, by rw [hnext]; simp; omega⟩, by omega, ?_⟩
      rw [hnext]
      exact Cut.of' 5 rfl (by omega) (by simp (disch := first | omega | simp (disch := omega) only [aF, aL, aN, aM]) only [aW, aX, aV, aB, aN, aL, aP, aH, aM, aF, Int.natCast_add, Int.natCast_mul, Int.add_sub_cancel, List.length_nil, Int.cast_ofNat_Int, and_true, true_and, h0, h2, h3, fzl_refl]) (by simp (disch := first | omega | simp (disch := omega) only [aF, aL, aN, aM]) only [aW, aX, aV, aB, aN, aL, aP, aH, aM, aF, Int.natCast_add, Int.natCast_mul, Int.add_sub_cancel, List.length_nil, Int.cast_ofNat_Int, and_true, true_and])
    · have h5 : delG l (gs.getD j []) := by simpa using h5
      rw [if_pos h5] at hnext
      simp (disch := ((try simp only [List.length_set, List.length_replicate, List.length_append, List.length_cons, List.length_nil]); omega)) only [aW, aX, aV, aB, aN, aL, aP, aH, aM]
      refine ⟨j + 1, ⟨by omega, by omega, by rw [hnext]; omega⟩, by omega, ?_⟩
      rw [hnext]
      exact Cut.of' 5 rfl (by omega) (by simp (disch := first | omega | simp (disch := omega) only [aF, aL, aN, aM]) only [aW, aX, aV, aB, aN, aL, aP, aH, aM, aF, Int.natCast_add, Int.natCast_mul, Int.add_sub_cancel, List.length_nil, Int.cast_ofNat_Int, and_true, true_and, h0, h2, h3, fzl_refl]) (by simp (disch := first | omega | simp (disch := omega) only [aF, aL, aN, aM]) only [aW, aX, aV, aB, aN, aL, aP, aH, aM, aF, Int.natCast_add, Int.natCast_mul, Int.add_sub_cancel, List.length_nil, Int.cast_ofNat_Int, and_true, true_and])
  · have hje : j = gs.length := by omega
    subst hje
    rw [List.take_length] at hK
    have e5 : splA (rows true (K ++ gs.drop K.length)) K.length (repL (gs.length - K.length) [.v (.slice none 0 0)]) = rows true K ++ nilsA (gs.length - K.length) := by
      have e6 : repL (gs.length - K.length) [A.v (.slice none 0 0)] = nilsA (gs.length - K.length) := rep_one _ _
      unfold splA
      rw [e6, ← rows_app, List.take_append_of_le_length (by rw [r_len]; exact Nat.le_refl _), List.take_of_length_le (by rw [r_len]; exact Nat.le_refl _), List.drop_of_length_le, List.append_nil]
      simp [nilsA, r_len]
    simp (disch := ((try simp only [List.length_set, List.length_replicate, List.length_append, List.length_cons, List.length_nil]); omega)) only [aW, aX, aV, aB, aN, aL, aP, aH, aM, r_slices_DeleteFuncint_int, hlen, e5]
    refine post2 ⟨?_, nilsA (gs.length - K.length), ?_⟩
    · rw [hK]; rfl
    · rw [hK]
end Go.Proofs.Ytjhdedifmhkhbaa
