/- Lemmas and walks that the proof of ControlRuns uses. No statement is claimed here. -/
import Derived.Test.YtfnghkmchlfooaaControlRunsZaj
namespace Go.Proofs.Ytfnghkmchlfooaa
open Go Go.Lft
set_option linter.unusedSimpArgs false
set_option linter.unusedVariables false
attribute [local congr] ob_congr bw_congr ib_congr ck_congr iwA_congr itA_congr aw_congr awp_congr sqA_congr bkA_congr vr_congr gd_congr

def iterN {α : Type} (f : α → α) : Nat → α → α
  | 0, x => x
  | k + 1, x => f (iterN f k x)
def relax1 (S : List Bool) (a : Int × Int) : List Bool := S.set a.2.toNat (S.getD a.2.toNat false || S.getD a.1.toNat false)
def relaxAll (es : Arcs) (S : List Bool) : List Bool := es.foldl relax1 S
def start0 (n from0 : Int) : List Bool := (List.replicate n.toNat false).set from0.toNat true
def reachL (n : Int) (es : Arcs) (from0 : Int) : List Bool := iterN (relaxAll es) n.toNat (start0 n from0)

theorem relax1_len (S : List Bool) (a : Int × Int) : (relax1 S a).length = S.length := List.length_set
theorem relaxAll_len (es : Arcs) (S : List Bool) : (relaxAll es S).length = S.length := by
  unfold relaxAll
  induction es generalizing S with
  | nil => rfl
  | cons a r ih => rw [List.foldl_cons, ih, relax1_len]
theorem iter_len (es : Arcs) (k : Nat) (S : List Bool) : (iterN (relaxAll es) k S).length = S.length := by
  induction k with
  | zero => rfl
  | succ k ih => simp only [iterN]; rw [relaxAll_len, ih]
theorem start_len (n v : Int) : (start0 n v).length = n.toNat := by simp [start0]
theorem reachL_len (n : Int) (es : Arcs) (v : Int) : (reachL n es v).length = n.toNat := by unfold reachL; rw [iter_len, start_len]

theorem relax1_get (S : List Bool) (a : Int × Int) (i : Nat) : (relax1 S a).getD i false = if a.2.toNat = i then (S.getD a.2.toNat false || S.getD a.1.toNat false) && decide (i < S.length) else S.getD i false := by
  unfold relax1
  simp only [List.getD_eq_getElem?_getD, List.getElem?_set]
  split
  · rename_i h; subst h
    by_cases hl : a.2.toNat < S.length <;> simp [hl]
  · rfl
theorem relax1_mono (S : List Bool) (a : Int × Int) (i : Nat) (h : S.getD i false = true) : (relax1 S a).getD i false = true := by
  rw [relax1_get]
  split
  · rename_i hi; subst hi
    have : a.2.toNat < S.length := by
      apply Nat.lt_of_not_le; intro hle
      rw [List.getD_eq_getElem?_getD, List.getElem?_eq_none hle] at h; cases h
    rw [h]; simp [this]
  · exact h
theorem relaxAll_mono (es : Arcs) (S : List Bool) (i : Nat) (h : S.getD i false = true) : (relaxAll es S).getD i false = true := by
  unfold relaxAll
  induction es generalizing S with
  | nil => exact h
  | cons a r ih => rw [List.foldl_cons]; exact ih _ (relax1_mono S a i h)
theorem iter_mono (es : Arcs) (k : Nat) (S : List Bool) (i : Nat) (h : S.getD i false = true) : (iterN (relaxAll es) k S).getD i false = true := by
  induction k with
  | zero => exact h
  | succ k ih => exact relaxAll_mono es _ i ih
/-- Nothing is reached but over ways. -/
theorem relaxAll_sound (n : Int) (es all : Arcs) (hsub : ∀ a ∈ es, a ∈ all) (hr : inR n all) (v : Int) (S : List Bool) (h : ∀ w, 0 ≤ w → vis S w → Path all v w) : ∀ w, 0 ≤ w → vis (relaxAll es S) w → Path all v w := by
  unfold relaxAll
  induction es generalizing S with
  | nil => exact h
  | cons a r ih =>
    rw [List.foldl_cons]
    refine ih (fun b hb => hsub b (by simp [hb])) _ (fun w hw hv => ?_)
    have ha := hsub a (by simp)
    obtain ⟨⟨r1, r2⟩, r3, r4⟩ := hr a ha
    unfold vis at hv
    rw [relax1_get] at hv
    split at hv
    · rename_i hi
      have hwa : w = a.2 := by omega
      subst hwa
      simp only [Bool.and_eq_true, Bool.or_eq_true] at hv
      rcases hv.1 with h1 | h1
      · exact h _ hw h1
      · exact (h a.1 r1 h1).snoc ha
    · exact h w hw hv
theorem iter_sound (n : Int) (es : Arcs) (hr : inR n es) (v : Int) (k : Nat) (S : List Bool) (h : ∀ w, 0 ≤ w → vis S w → Path es v w) : ∀ w, 0 ≤ w → vis (iterN (relaxAll es) k S) w → Path es v w := by
  induction k with
  | zero => exact h
  | succ k ih => exact relaxAll_sound n es es (fun _ h => h) hr v _ ih
/-- The number of those that are reached. -/
theorem count_le {S S' : List Bool} (hl : S'.length = S.length) (h : ∀ i, S.getD i false = true → S'.getD i false = true) : S.count true ≤ S'.count true ∧ (S.count true = S'.count true → S = S') := by
  induction S generalizing S' with
  | nil => simp at hl; subst hl; simp
  | cons a r ih =>
    cases S' with
    | nil => simp at hl
    | cons b q =>
      obtain ⟨h1, h2⟩ := ih (S' := q) (by simpa using hl) fun i hi => by have := h (i + 1) (by simpa using hi); simpa using this
      have h0 := h 0
      simp only [List.count_cons]
      cases a <;> cases b <;> simp at h0 ⊢
      · exact ⟨by omega, fun hc => h2 hc⟩
      · exact ⟨by omega, fun hc => by omega⟩
      · exact ⟨by omega, fun hc => h2 hc⟩
theorem iter_fix (es : Arcs) (S : List Bool) (h0 : 1 ≤ S.count true) (k : Nat) : relaxAll es (iterN (relaxAll es) k S) = iterN (relaxAll es) k S ∨ k + 1 ≤ (iterN (relaxAll es) k S).count true := by
  induction k with
  | zero => exact .inr (by simpa [iterN] using h0)
  | succ k ih =>
    simp only [iterN]
    rcases ih with h | h
    · rw [h]; exact .inl h
    · obtain ⟨h1, h2⟩ := count_le (S := iterN (relaxAll es) k S) (S' := relaxAll es (iterN (relaxAll es) k S)) (relaxAll_len _ _) (fun i hi => relaxAll_mono es _ i hi)
      by_cases hc : (iterN (relaxAll es) k S).count true = (relaxAll es (iterN (relaxAll es) k S)).count true
      · have := h2 hc
        rw [← this]; exact .inl this.symm
      · exact .inr (by omega)
/-- Where a round changes nothing, every arc leads from what is reached to what is. -/
theorem fix_clo (n : Int) (es : Arcs) (hr : inR n es) (S : List Bool) (hl : S.length = n.toNat) (hf : relaxAll es S = S) : ∀ a ∈ es, vis S a.1 → vis S a.2 := by
  have key : ∀ (l : Arcs) (T : List Bool), T.length = n.toNat → (∀ i, S.getD i false = true → T.getD i false = true) → (∀ a ∈ l, a ∈ es) → ∀ a ∈ l, vis S a.1 → vis (l.foldl relax1 T) a.2 := by
    intro l
    induction l with
    | nil => intro T _ _ _ a ha; cases ha
    | cons b r ih =>
      intro T hT hm hs a ha hv
      rw [List.foldl_cons]
      rcases List.mem_cons.1 ha with rfl | ha
      · obtain ⟨⟨r1, r2⟩, r3, r4⟩ := hr a (hs a (by simp))
        have h1 : (relax1 T a).getD a.2.toNat false = true := by
          rw [relax1_get, if_pos rfl, hm _ hv]
          simp; omega
        exact relaxAll_mono r _ _ h1
      · exact ih _ (by rw [relax1_len, hT]) (fun i hi => relax1_mono T b i (hm i hi)) (fun c hc => hs c (by simp [hc])) a ha hv
  intro a ha hv
  have := key es S hl (fun _ h => h) (fun _ h => h) a ha hv
  unfold relaxAll at hf
  rw [hf] at this; exact this
theorem vis_start (n v w : Int) (h0 : 0 ≤ v) (h1 : v < n) (hw : 0 ≤ w) : vis (start0 n v) w ↔ w = v := by
  unfold start0
  rw [vis_set _ _ _ h0 (by simp; omega) hw]
  have : ¬ vis (List.replicate n.toNat false) w := by
    unfold vis
    simp [List.getD_eq_getElem?_getD, List.getElem?_replicate]
    split <;> simp
  simp [this]
theorem reachL_iff {n : Int} {es : Arcs} (hr : inR n es) {v : Int} (h0 : 0 ≤ v) (h1 : v < n) {w : Int} (hw : 0 ≤ w) : vis (reachL n es v) w ↔ Path es v w := by
  constructor
  · refine iter_sound n es hr v _ _ (fun u hu hv => ?_) w hw
    rw [(vis_start n v u h0 h1 hu).1 hv]; exact .refl v
  · have hfix : relaxAll es (reachL n es v) = reachL n es v := by
      have hc : 1 ≤ (start0 n v).count true := by
        apply List.one_le_count_iff.2
        unfold start0
        exact List.mem_set (by simp; omega) _
      rcases iter_fix es (start0 n v) hc n.toNat with h | h
      · exact h
      · exfalso
        have := List.count_le_length (a := true) (l := iterN (relaxAll es) n.toNat (start0 n v))
        rw [iter_len, start_len] at this; omega
    have hclo := fix_clo n es hr (reachL n es v) (reachL_len n es v) hfix
    have hv : vis (reachL n es v) v := iter_mono es _ _ _ ((vis_start n v v h0 h1 h0).2 rfl)
    intro hp
    clear hw
    revert hv
    clear h0 h1
    generalize reachL n es v = S at *
    intro hv
    induction hp with
    | refl u => exact hv
    | step h p ih => exact ih (hclo _ h hv)
theorem bools_ext {S T : List Bool} {n : Int} (h1 : S.length = n.toNat) (h2 : T.length = n.toNat) (h : ∀ w, 0 ≤ w → w < n → (vis S w ↔ vis T w)) : S = T := by
  refine eq_of_get false (by omega) fun i hi => ?_
  have := h i (by omega) (by omega)
  unfold vis at this
  simp only [Int.toNat_natCast] at this
  cases ha : S.getD i false <;> cases hb : T.getD i false <;> rw [ha, hb] at this <;> simp at this ⊢

/-- What visit returns. -/
def visitR (n : Int) (l es : Arcs) (v : Int) : List Bool × Int := if gcheck n l ≠ 0 then ([], gcheck n l) else if v < 0 ∨ n ≤ v then ([], 7) else (reachL n es v, 0)
theorem gcheck_ok {n : Int} {l : Arcs} (h : gcheck n l = 0) : 0 ≤ n ∧ n ≤ 64 ∧ l.length ≤ 512 ∧ inR n l := by
  unfold gcheck at h
  split at h
  · cases h
  · split at h
    · cases h
    · split at h
      · cases h
      · rename_i h1 h2 h3
        refine ⟨by omega, by omega, by omega, fun a ha => ?_⟩
        obtain ⟨i, hi, rfl⟩ := List.mem_iff_getElem.1 ha
        have : ¬ arcBad n (l.getD i (0, 0)) := fun hb => h3 ⟨i, hi, hb⟩
        simp only [arcBad, List.getD_eq_getElem?_getD, List.getElem?_eq_getElem hi, Option.getD_some] at this
        omega
theorem inR_swap {n : Int} {l : Arcs} (h : inR n l) : inR n (l.map Prod.swap) := fun a ha => by
  obtain ⟨b, hb, rfl⟩ := List.mem_map.1 ha
  have := h b hb
  exact ⟨this.2, this.1⟩

theorem visit_vr {w : Bool} {n : Int} {l : Arcs} {f : Nat} {e : Int × Int → Int × Int} (he : IsEnds f e) (hin : inR n l → inR n (l.map e)) (v : Int) :
    VR P false n_graph_visit [graphA w n l, .v (.int .i64 v), .fn f []] [] (isR (.tup [.fs true (bools (visitR n l (l.map e) v).1), .v (.int .i64 (visitR n l (l.map e) v).2)])) := by
  refine vr_graph_visit (by simp) (.inr rfl) fun _ _ => ?_
  unfold graphA
  simp (disch := ((try simp only [List.length_set, List.length_replicate, List.length_append, List.length_cons, List.length_nil]); omega)) only [aW, aX, aV, aB, aN, aL, aP, aH, s_graph_visit, v_graph_visit]
  refine (check_vr (w := w) n l).same (by unfold graphA; simp (disch := first | omega | simp (disch := omega) only [aF, aL, aN]) only [aW, aX, aV, aB, aN, aL, aP, aH, aF, Int.natCast_add, Int.natCast_mul, Int.add_sub_cancel, List.length_nil, Int.cast_ofNat_Int, and_true, true_and]) rfl (aret_of ?_)
  simp (disch := ((try simp only [List.length_set, List.length_replicate, List.length_append, List.length_cons, List.length_nil]); omega)) only [aW, aX, aV, aB, aN, aL, aP, aH]
  refine ib_intro (fun h1 => ?_) (fun h1 => ?_)
  · simp (disch := ((try simp only [List.length_set, List.length_replicate, List.length_append, List.length_cons, List.length_nil]); omega)) only [aW, aX, aV, aB, aN, aL, aP, aH, r_graph_visit]
    refine post_err ⟨?_, rfl⟩
    unfold visitR; rw [if_pos h1]; rfl
  have h1 : gcheck n l = 0 := Classical.not_not.1 h1
  obtain ⟨c1, c2, c3, c4⟩ := gcheck_ok h1
  simp (disch := ((try simp only [List.length_set, List.length_replicate, List.length_append, List.length_cons, List.length_nil]); omega)) only [aW, aX, aV, aB, aN, aL, aP, aH]
  refine ib_intro (fun h2 => ?_) (fun h2 => ?_)
  · simp (disch := ((try simp only [List.length_set, List.length_replicate, List.length_append, List.length_cons, List.length_nil]); omega)) only [aW, aX, aV, aB, aN, aL, aP, aH, r_graph_visit]
    refine post_err ⟨?_, rfl⟩
    unfold visitR; rw [if_neg (by simp [h1]), if_pos h2]; rfl
  simp (disch := ((try simp only [List.length_set, List.length_replicate, List.length_append, List.length_cons, List.length_nil]); omega)) only [aW, aX, aV, aB, aN, aL, aP, aH]
  refine ⟨by kernel_rfl, (visit1_vr (N := n.toNat) he (by omega) (by omega) (hin c4) (by omega) _ (List.replicate n.toNat false) [] v (Nat.le_refl _) (by simp) (by omega) (by omega)).mono ?_⟩
  rintro r H' ⟨S', q, rfl⟩
  refine aret_of ?_
  have ql : S'.length = n.toNat := by rw [q.len]; simp
  simp (disch := ((try simp only [List.length_set, List.length_replicate, List.length_append, List.length_cons, List.length_nil]); omega)) only [aW, aX, aV, aB, aN, aL, aP, aH, vmem, r_graph_visit]
  refine post0 (r := .tup [.fs true (bools S'), .v (.int .i64 0)]) (Fz.tup ⟨fz_slB _ _ _ _ _ _ (by omega) ql.symm rfl, Fz.refl rfl, trivial⟩) ⟨?_, rfl⟩
  have hS : S' = reachL n (l.map e) v := by
    have hno : ∀ u, ¬ vis (List.replicate n.toNat false) u := fun u => by
      unfold vis; simp [List.getD_eq_getElem?_getD, List.getElem?_replicate]; split <;> simp
    refine bools_ext ql (reachL_len _ _ _) fun u u0 u1 => ?_
    rw [reachL_iff (hin c4) (by omega) (by omega) u0]
    constructor
    · intro hu
      rcases q.new u u0 hu with h3 | h3
      · exact absurd h3 (hno u)
      · exact h3
    · intro hp
      have key : ∀ a b, Path (l.map e) a b → 0 ≤ a → vis S' a → vis S' b := by
        intro a b hp
        induction hp with
        | refl a => exact fun _ h => h
        | step h p ih => exact fun ha hva => ih (hin c4 _ h).2.1 (q.clo _ _ ha hva (hno _) h)
      exact key v u hp (by omega) q.self
  unfold visitR; rw [if_neg (by simp [h1]), if_neg (by omega), hS]

def backL (l : Arcs) : Arcs := l.map Prod.swap
theorem reach_vr {w : Bool} (n : Int) (l : Arcs) (v : Int) : VR P false n_graph_Reach [graphA w n l, .v (.int .i64 v)] [] (isR (.tup [.fs true (bools (visitR n l l v).1), .v (.int .i64 (visitR n l l v).2)])) := by
  refine vr_graph_Reach (by simp) (.inr rfl) fun _ _ => ?_
  unfold graphA
  have hv := visit_vr (w := w) (n := n) (l := l) ends1 (fun h => by simpa using h) v
  simp only [List.map_id_fun, id_eq] at hv
  simp (disch := ((try simp only [List.length_set, List.length_replicate, List.length_append, List.length_cons, List.length_nil]); omega)) only [aW, aX, aV, aB, aN, aL, aP, aH, s_graph_Reach, v_graph_Reach]
  refine hv.same (by unfold graphA; simp (disch := first | omega | simp (disch := omega) only [aF, aL, aN]) only [aW, aX, aV, aB, aN, aL, aP, aH, aF, Int.natCast_add, Int.natCast_mul, Int.add_sub_cancel, List.length_nil, Int.cast_ofNat_Int, and_true, true_and]) (by simp (disch := first | omega | simp (disch := omega) only [aF, aL, aN]) only [aW, aX, aV, aB, aN, aL, aP, aH, aF, Int.natCast_add, Int.natCast_mul, Int.add_sub_cancel, List.length_nil, Int.cast_ofNat_Int, and_true, true_and]) (aret_of ?_)
  simp (disch := ((try simp only [List.length_set, List.length_replicate, List.length_append, List.length_cons, List.length_nil]); omega)) only [aW, aX, aV, aB, aN, aL, aP, aH, r_graph_Reach]
  exact post0 (Fz.refl (by simp (disch := first | omega | simp (disch := omega) only [aF, aL, aN]) only [aW, aX, aV, aB, aN, aL, aP, aH, aF, Int.natCast_add, Int.natCast_mul, Int.add_sub_cancel, List.length_nil, Int.cast_ofNat_Int, and_true, true_and])) ⟨rfl, rfl⟩
theorem back_vr {w : Bool} (n : Int) (l : Arcs) (v : Int) : VR P false n_graph_Back [graphA w n l, .v (.int .i64 v)] [] (isR (.tup [.fs true (bools (visitR n l (backL l) v).1), .v (.int .i64 (visitR n l (backL l) v).2)])) := by
  refine vr_graph_Back (by simp) (.inr rfl) fun _ _ => ?_
  unfold graphA
  have hv := visit_vr (w := w) (n := n) (l := l) ends2 (fun h => inR_swap h) v
  simp (disch := ((try simp only [List.length_set, List.length_replicate, List.length_append, List.length_cons, List.length_nil]); omega)) only [aW, aX, aV, aB, aN, aL, aP, aH, s_graph_Back, v_graph_Back]
  refine hv.same (by unfold graphA; simp (disch := first | omega | simp (disch := omega) only [aF, aL, aN]) only [aW, aX, aV, aB, aN, aL, aP, aH, aF, Int.natCast_add, Int.natCast_mul, Int.add_sub_cancel, List.length_nil, Int.cast_ofNat_Int, and_true, true_and]) (by simp (disch := first | omega | simp (disch := omega) only [aF, aL, aN]) only [aW, aX, aV, aB, aN, aL, aP, aH, aF, Int.natCast_add, Int.natCast_mul, Int.add_sub_cancel, List.length_nil, Int.cast_ofNat_Int, and_true, true_and]) (aret_of ?_)
  simp (disch := ((try simp only [List.length_set, List.length_replicate, List.length_append, List.length_cons, List.length_nil]); omega)) only [aW, aX, aV, aB, aN, aL, aP, aH, r_graph_Back]
  exact post0 (Fz.refl (by simp (disch := first | omega | simp (disch := omega) only [aF, aL, aN]) only [aW, aX, aV, aB, aN, aL, aP, aH, aF, Int.natCast_add, Int.natCast_mul, Int.add_sub_cancel, List.length_nil, Int.cast_ofNat_Int, and_true, true_and])) ⟨rfl, rfl⟩
end Go.Proofs.Ytfnghkmchlfooaa
namespace Go.Proofs.Ytfnghkmchlfooaa
open Go Go.Lft
set_option linter.unusedSimpArgs false
set_option linter.unusedVariables false
attribute [local congr] ob_congr bw_congr ib_congr ck_congr iwA_congr itA_congr aw_congr awp_congr sqA_congr bkA_congr vr_congr gd_congr

theorem take_succ_get {α : Type} (l : List α) (k : Nat) (d : α) (h : k < l.length) : l.take (k + 1) = l.take k ++ [l.getD k d] := by
  rw [List.take_succ_eq_append_getElem h]; simp [List.getD_eq_getElem?_getD, h]

theorem refReversed_vr {w : Bool} (n : Int) (l : Arcs) (hl : l.length < 1000000) : VR P false n_ref09_Reversed [graphA w n l] [] (isR (graphA true n (backL l))) := by
  refine vr_ref09_Reversed (by simp) (.inr rfl) fun _ _ => ?_
  unfold graphA
  simp (disch := ((try simp only [List.length_set, List.length_replicate, List.length_append, List.length_cons, List.length_nil]); omega)) only [aW, aX, aV, aB, aN, aL, aP, aH, s_ref09_Reversed, v_ref09_Reversed]
  refine AWP.cut (Cut.virtB 2 0 1 2 rfl rfl) ?_
  refine AWP.loopP (α := Nat × Nat) g_ref09_Reversed_0 (fun p => p.1 ≤ l.length) (fun p => [(3, .v (.int .i64 p.1))]) (fun p => [(2, ⟨0, [.v (.int .i64 n), .vs 3 p.2 2 p.1]⟩), (3, ⟨p.2, pcells ((backL l).take p.1)⟩)]) (fun p => l.length - p.1) (0, 0) (by simp) ?_ ?_
  · simp (disch := ((try simp only [List.length_set, List.length_replicate, List.length_append, List.length_cons, List.length_nil]); omega)) only [aW, aX, aV, aB, aN, aL, aP, aH]
    exact Cut.of' 4 rfl (by omega) (by simp (disch := first | omega | simp (disch := omega) only [aF, aL, aN]) only [aW, aX, aV, aB, aN, aL, aP, aH, aF, Int.natCast_add, Int.natCast_mul, Int.add_sub_cancel, List.length_nil, Int.cast_ofNat_Int, and_true, true_and, pc_nil, List.take_zero]) (by simp (disch := first | omega | simp (disch := omega) only [aF, aL, aN]) only [aW, aX, aV, aB, aN, aL, aP, aH, aF, Int.natCast_add, Int.natCast_mul, Int.add_sub_cancel, List.length_nil, Int.cast_ofNat_Int, and_true, true_and])
  rintro ⟨k, ver⟩ hk
  simp only at hk
  have hbl : (backL l).length = l.length := by simp [backL]
  have hbk : ((backL l).take k).length = k := by simp; omega
  by_cases hlt : k < l.length
  · have hg : (backL l).getD k (0, 0) = ((l.getD k (0, 0)).2, (l.getD k (0, 0)).1) := by simp [backL, List.getD_eq_getElem?_getD, hlt, Prod.swap]
    simp (disch := ((try simp only [List.length_set, List.length_replicate, List.length_append, List.length_cons, List.length_nil]); omega)) only [aW, aX, aV, aB, aN, aL, aP, aH]
    refine ⟨(k + 1, ver + 1), by simp only; omega, by simp only; omega, ?_⟩
    rw [take_succ_get (backL l) k (0, 0) (by omega), hg]
    simp (disch := ((try simp only [List.length_set, List.length_replicate, List.length_append, List.length_cons, List.length_nil]); omega)) only [aW, aX, aV, aB, aN, aL, aP, aH]
    have e1 : List.take k (List.take k (backL l)) = List.take k (backL l) := by rw [List.take_take, Nat.min_self]
    exact Cut.of' 4 rfl (by omega) (by simp (disch := first | omega | simp (disch := omega) only [aF, aL, aN]) only [aW, aX, aV, aB, aN, aL, aP, aH, aF, Int.natCast_add, Int.natCast_mul, Int.add_sub_cancel, List.length_nil, Int.cast_ofNat_Int, and_true, true_and, e1]) (by simp (disch := first | omega | simp (disch := omega) only [aF, aL, aN]) only [aW, aX, aV, aB, aN, aL, aP, aH, aF, Int.natCast_add, Int.natCast_mul, Int.add_sub_cancel, List.length_nil, Int.cast_ofNat_Int, and_true, true_and])
  · have hkl : k = l.length := by omega
    subst hkl
    simp (disch := ((try simp only [List.length_set, List.length_replicate, List.length_append, List.length_cons, List.length_nil]); omega)) only [aW, aX, aV, aB, aN, aL, aP, aH, r_ref09_Reversed]
    have e1 : (backL l).take l.length = backL l := List.take_of_length_le (by omega)
    refine post0 (r := .agg [.v (.int .i64 n), .fs true (pairs (backL l))]) (Fz.agg ⟨Fz.refl rfl, ?_, trivial⟩) ⟨rfl, rfl⟩
    exact fz_vsP 0 _ 3 ver l.length (backL l) (by omega) hbl.symm (by simp [blkAt, e1])

/-- The round of the reference. -/
theorem refReach_vr {w : Bool} (n : Int) (l : Arcs) (v : Int) : VR P false n_ref09_Reach [graphA w n l, .v (.int .i64 v)] [] (isR (.tup [.fs true (bools (visitR n l l v).1), .v (.int .i64 (visitR n l l v).2)])) := by
  refine vr_ref09_Reach (by simp) (.inr rfl) fun _ _ => ?_
  unfold graphA
  simp (disch := ((try simp only [List.length_set, List.length_replicate, List.length_append, List.length_cons, List.length_nil]); omega)) only [aW, aX, aV, aB, aN, aL, aP, aH, s_ref09_Reach, v_ref09_Reach]
  refine (refCheck_vr (w := w) n l).same (by unfold graphA; simp (disch := first | omega | simp (disch := omega) only [aF, aL, aN]) only [aW, aX, aV, aB, aN, aL, aP, aH, aF, Int.natCast_add, Int.natCast_mul, Int.add_sub_cancel, List.length_nil, Int.cast_ofNat_Int, and_true, true_and]) rfl (aret_of ?_)
  simp (disch := ((try simp only [List.length_set, List.length_replicate, List.length_append, List.length_cons, List.length_nil]); omega)) only [aW, aX, aV, aB, aN, aL, aP, aH]
  refine ib_intro (fun h1 => ?_) (fun h1 => ?_)
  · simp (disch := ((try simp only [List.length_set, List.length_replicate, List.length_append, List.length_cons, List.length_nil]); omega)) only [aW, aX, aV, aB, aN, aL, aP, aH, r_ref09_Reach]
    refine post_err ⟨?_, rfl⟩
    unfold visitR; rw [if_pos h1]; rfl
  have h1 : gcheck n l = 0 := Classical.not_not.1 h1
  obtain ⟨c1, c2, c3, c4⟩ := gcheck_ok h1
  simp (disch := ((try simp only [List.length_set, List.length_replicate, List.length_append, List.length_cons, List.length_nil]); omega)) only [aW, aX, aV, aB, aN, aL, aP, aH]
  refine ib_intro (fun h2 => ?_) (fun h2 => ?_)
  · simp (disch := ((try simp only [List.length_set, List.length_replicate, List.length_append, List.length_cons, List.length_nil]); omega)) only [aW, aX, aV, aB, aN, aL, aP, aH, r_ref09_Reach]
    refine post_err ⟨?_, rfl⟩
    unfold visitR; rw [if_neg (by simp [h1]), if_pos h2]; rfl
  have hst : (List.replicate n.toNat false).set v.toNat true = start0 n v := rfl
  have hsl := start_len n v
  simp (disch := ((try simp only [List.length_set, List.length_replicate, List.length_append, List.length_cons, List.length_nil]); omega)) only [aW, aX, aV, aB, aN, aL, aP, aH, hst]
  refine AWP.loopP g_ref09_Reach_0 (fun k : Nat => k ≤ n.toNat) (fun k => [(7, .v (.int .i64 k))]) (fun k => [(1, ⟨0, bools (iterN (relaxAll l) k (start0 n v))⟩)]) (fun k => n.toNat - k) 0 (by omega) ?_ ?_
  · simp (disch := ((try simp only [List.length_set, List.length_replicate, List.length_append, List.length_cons, List.length_nil]); omega)) only [aW, aX, aV, aB, aN, aL, aP, aH]
    exact Cut.of' 2 rfl (by omega) (by simp (disch := first | omega | simp (disch := omega) only [aF, aL, aN]) only [aW, aX, aV, aB, aN, aL, aP, aH, aF, Int.natCast_add, Int.natCast_mul, Int.add_sub_cancel, List.length_nil, Int.cast_ofNat_Int, and_true, true_and, iterN]) (by simp (disch := first | omega | simp (disch := omega) only [aF, aL, aN]) only [aW, aX, aV, aB, aN, aL, aP, aH, aF, Int.natCast_add, Int.natCast_mul, Int.add_sub_cancel, List.length_nil, Int.cast_ofNat_Int, and_true, true_and])
  rintro k hk
  have hil := (iter_len l k (start0 n v)).trans hsl
  by_cases hlt : k < n.toNat
  · simp (disch := ((try simp only [List.length_set, List.length_replicate, List.length_append, List.length_cons, List.length_nil]); omega)) only [aW, aX, aV, aB, aN, aL, aP, aH]
    refine AWP.loopP g_ref09_Reach_1 (fun i : Nat => i ≤ l.length) (fun i => [(8, .v (.int .i64 i))]) (fun i => [(1, ⟨0, bools ((l.take i).foldl relax1 (iterN (relaxAll l) k (start0 n v)))⟩)]) (fun i => l.length - i) 0 (by omega) ?_ ?_
    · simp (disch := ((try simp only [List.length_set, List.length_replicate, List.length_append, List.length_cons, List.length_nil]); omega)) only [aW, aX, aV, aB, aN, aL, aP, aH]
      exact Cut.of' 2 rfl (by omega) (by simp (disch := first | omega | simp (disch := omega) only [aF, aL, aN]) only [aW, aX, aV, aB, aN, aL, aP, aH, aF, Int.natCast_add, Int.natCast_mul, Int.add_sub_cancel, List.length_nil, Int.cast_ofNat_Int, and_true, true_and, List.take_zero, List.foldl_nil]) (by simp (disch := first | omega | simp (disch := omega) only [aF, aL, aN]) only [aW, aX, aV, aB, aN, aL, aP, aH, aF, Int.natCast_add, Int.natCast_mul, Int.add_sub_cancel, List.length_nil, Int.cast_ofNat_Int, and_true, true_and])
    rintro i hi
    have hfl : ((l.take i).foldl relax1 (iterN (relaxAll l) k (start0 n v))).length = n.toNat := (relaxAll_len (l.take i) _).trans hil
    by_cases hlt2 : i < l.length
    · have hmem : l.getD i (0, 0) ∈ l := by simp [List.getD_eq_getElem?_getD, hlt2]
      obtain ⟨⟨r1, r2⟩, r3, r4⟩ := c4 _ hmem
      simp (disch := ((try simp only [List.length_set, List.length_replicate, List.length_append, List.length_cons, List.length_nil]); omega)) only [aW, aX, aV, aB, aN, aL, aP, aH]
      refine ⟨i + 1, by omega, by omega, ?_⟩
      rw [take_succ_get l i (0, 0) hlt2, List.foldl_append]
      exact Cut.of' 2 rfl (by omega) (by simp (disch := first | omega | simp (disch := omega) only [aF, aL, aN]) only [aW, aX, aV, aB, aN, aL, aP, aH, aF, Int.natCast_add, Int.natCast_mul, Int.add_sub_cancel, List.length_nil, Int.cast_ofNat_Int, and_true, true_and, setB_cons, setB_nil, List.foldl_cons, List.foldl_nil, relax1]) (by simp (disch := first | omega | simp (disch := omega) only [aF, aL, aN]) only [aW, aX, aV, aB, aN, aL, aP, aH, aF, Int.natCast_add, Int.natCast_mul, Int.add_sub_cancel, List.length_nil, Int.cast_ofNat_Int, and_true, true_and])
    · have hil2 : i = l.length := by omega
      subst hil2
      simp (disch := ((try simp only [List.length_set, List.length_replicate, List.length_append, List.length_cons, List.length_nil]); omega)) only [aW, aX, aV, aB, aN, aL, aP, aH]
      refine ⟨k + 1, by omega, by omega, ?_⟩
      rw [List.take_length]
      exact Cut.of' 2 rfl (by omega) (by simp (disch := first | omega | simp (disch := omega) only [aF, aL, aN]) only [aW, aX, aV, aB, aN, aL, aP, aH, aF, Int.natCast_add, Int.natCast_mul, Int.add_sub_cancel, List.length_nil, Int.cast_ofNat_Int, and_true, true_and, setB_cons, setB_nil, iterN, relaxAll]) (by simp (disch := first | omega | simp (disch := omega) only [aF, aL, aN]) only [aW, aX, aV, aB, aN, aL, aP, aH, aF, Int.natCast_add, Int.natCast_mul, Int.add_sub_cancel, List.length_nil, Int.cast_ofNat_Int, and_true, true_and])
  · have hkn : k = n.toNat := by omega
    subst hkn
    simp (disch := ((try simp only [List.length_set, List.length_replicate, List.length_append, List.length_cons, List.length_nil]); omega)) only [aW, aX, aV, aB, aN, aL, aP, aH, r_ref09_Reach]
    refine post0 (r := .tup [.fs true (bools (reachL n l v)), .v (.int .i64 0)]) (Fz.tup ⟨fz_slB _ _ _ _ _ _ (by omega) (reachL_len n l v).symm rfl, Fz.refl rfl, trivial⟩) ⟨?_, rfl⟩
    unfold visitR; rw [if_neg (by simp [h1]), if_neg h2]

theorem arcBad_swap (n : Int) (a : Int × Int) : arcBad n a.swap ↔ arcBad n a := by unfold arcBad Prod.swap; simp only; omega
theorem gcheck_back (n : Int) (l : Arcs) : gcheck n (backL l) = gcheck n l := by
  unfold gcheck
  have h1 : (backL l).length = l.length := by simp [backL]
  have h2 : (∃ i, i < l.length ∧ arcBad n ((backL l).getD i (0, 0))) ↔ ∃ i, i < l.length ∧ arcBad n (l.getD i (0, 0)) := by
    refine exists_congr fun i => and_congr_right fun hi => ?_
    rw [← arcBad_swap]
    simp [backL, List.getD_eq_getElem?_getD, hi]
  simp only [h1, h2]
theorem visitR_back (n : Int) (l : Arcs) (v : Int) : visitR n (backL l) (backL l) v = visitR n l (backL l) v := by unfold visitR; rw [gcheck_back]

theorem refBack_vr {w : Bool} (n : Int) (l : Arcs) (v : Int) : VR P false n_ref09_Back [graphA w n l, .v (.int .i64 v)] [] (isR (.tup [.fs true (bools (visitR n l (backL l) v).1), .v (.int .i64 (visitR n l (backL l) v).2)])) := by
  refine vr_ref09_Back (by simp) (.inr rfl) fun _ _ => ?_
  unfold graphA
  simp (disch := ((try simp only [List.length_set, List.length_replicate, List.length_append, List.length_cons, List.length_nil]); omega)) only [aW, aX, aV, aB, aN, aL, aP, aH, s_ref09_Back, v_ref09_Back]
  refine (refCheck_vr (w := w) n l).same (by unfold graphA; simp (disch := first | omega | simp (disch := omega) only [aF, aL, aN]) only [aW, aX, aV, aB, aN, aL, aP, aH, aF, Int.natCast_add, Int.natCast_mul, Int.add_sub_cancel, List.length_nil, Int.cast_ofNat_Int, and_true, true_and]) rfl (aret_of ?_)
  simp (disch := ((try simp only [List.length_set, List.length_replicate, List.length_append, List.length_cons, List.length_nil]); omega)) only [aW, aX, aV, aB, aN, aL, aP, aH]
  refine ib_intro (fun h1 => ?_) (fun h1 => ?_)
  · simp (disch := ((try simp only [List.length_set, List.length_replicate, List.length_append, List.length_cons, List.length_nil]); omega)) only [aW, aX, aV, aB, aN, aL, aP, aH, r_ref09_Back]
    refine post_err ⟨?_, rfl⟩
    unfold visitR; rw [if_pos h1]; rfl
  have h1 : gcheck n l = 0 := Classical.not_not.1 h1
  obtain ⟨c1, c2, c3, c4⟩ := gcheck_ok h1
  simp (disch := ((try simp only [List.length_set, List.length_replicate, List.length_append, List.length_cons, List.length_nil]); omega)) only [aW, aX, aV, aB, aN, aL, aP, aH]
  refine (refReversed_vr (w := w) n l (by omega)).same (by unfold graphA; simp (disch := first | omega | simp (disch := omega) only [aF, aL, aN]) only [aW, aX, aV, aB, aN, aL, aP, aH, aF, Int.natCast_add, Int.natCast_mul, Int.add_sub_cancel, List.length_nil, Int.cast_ofNat_Int, and_true, true_and]) (by unfold graphA; simp (disch := first | omega | simp (disch := omega) only [aF, aL, aN]) only [aW, aX, aV, aB, aN, aL, aP, aH, aF, Int.natCast_add, Int.natCast_mul, Int.add_sub_cancel, List.length_nil, Int.cast_ofNat_Int, and_true, true_and]) (aret_of ?_)
  unfold graphA
  simp (disch := ((try simp only [List.length_set, List.length_replicate, List.length_append, List.length_cons, List.length_nil]); omega)) only [aW, aX, aV, aB, aN, aL, aP, aH]
  have hv := refReach_vr (w := true) n (backL l) v
  rw [visitR_back] at hv
  refine hv.same (by unfold graphA; simp (disch := first | omega | simp (disch := omega) only [aF, aL, aN]) only [aW, aX, aV, aB, aN, aL, aP, aH, aF, Int.natCast_add, Int.natCast_mul, Int.add_sub_cancel, List.length_nil, Int.cast_ofNat_Int, and_true, true_and]) (by simp (disch := first | omega | simp (disch := omega) only [aF, aL, aN]) only [aW, aX, aV, aB, aN, aL, aP, aH, aF, Int.natCast_add, Int.natCast_mul, Int.add_sub_cancel, List.length_nil, Int.cast_ofNat_Int, and_true, true_and]) (aret_of ?_)
  simp (disch := ((try simp only [List.length_set, List.length_replicate, List.length_append, List.length_cons, List.length_nil]); omega)) only [aW, aX, aV, aB, aN, aL, aP, aH, r_ref09_Back]
  exact post0 (Fz.refl (by simp (disch := first | omega | simp (disch := omega) only [aF, aL, aN]) only [aW, aX, aV, aB, aN, aL, aP, aH, aF, Int.natCast_add, Int.natCast_mul, Int.add_sub_cancel, List.length_nil, Int.cast_ofNat_Int, and_true, true_and])) ⟨rfl, rfl⟩
end Go.Proofs.Ytfnghkmchlfooaa
namespace Go.Proofs.Ytfnghkmchlfooaa
open Go Go.Lft
set_option linter.unusedSimpArgs false
set_option linter.unusedVariables false
attribute [local congr] ob_congr bw_congr ib_congr ck_congr iwA_congr itA_congr aw_congr awp_congr sqA_congr bkA_congr vr_congr gd_congr

theorem FzL.app {m : Nat} {H : List Blk} : ∀ {l r l' r' : List A}, FzL m H l l' → FzL m H r r' → FzL m H (l ++ r) (l' ++ r')
  | [], r, [], r', _, h => h
  | a :: l, r, b :: l', r', h, k => ⟨h.1, FzL.app h.2 k⟩
  | [], _, _ :: _, _, h, _ => h.elim
  | _ :: _, _, [], _, h, _ => h.elim

/-- Truth values by number. -/
def tab (N : Nat) (D : Nat → Bool) : List Bool := (List.range N).map D
theorem tab_len (N : Nat) (D : Nat → Bool) : (tab N D).length = N := by simp [tab]
theorem tab_get (N : Nat) (D : Nat → Bool) (k : Nat) (h : k < N) : (tab N D).getD k false = D k := by simp [tab, List.getD_eq_getElem?_getD, h]
theorem tab_ext {N : Nat} {D E : Nat → Bool} (h : ∀ k, k < N → D k = E k) : tab N D = tab N E := by
  unfold tab; exact List.map_congr_left fun k hk => h k (List.mem_range.1 hk)
theorem tab_set (N : Nat) (D : Nat → Bool) (k : Nat) (h : k < N) : (tab N D).set k true = tab N (fun j => D j || j == k) := by
  apply List.ext_getElem (by simp [tab])
  intro i h1 h2
  simp only [tab, List.length_set, List.length_map, List.length_range] at h1
  rw [List.getElem_set]
  by_cases hk : k = i
  · subst hk; simp [tab]
  · have : (i == k) = false := by simpa using Ne.symm hk
    simp [tab, hk, this]
theorem tab_rep (N : Nat) : List.replicate N false = tab N fun _ => false := by
  apply List.ext_getElem (by simp [tab])
  intro i h1 h2
  simp [tab]

/-- Both ways lead. -/
def both (n : Int) (l : Arcs) (v k : Nat) : Bool := (reachL n l v).getD k false && (reachL n (backL l) v).getD k false
/-- The nodes from a to b - 1 that go with v. -/
def memb (n : Int) (l : Arcs) (v a b : Nat) : List Int := ((List.range b).filter fun j => decide (a ≤ j) && both n l v j).map Int.ofNat
theorem memb_succ (n : Int) (l : Arcs) (v a b : Nat) : memb n l v a (b + 1) = if a ≤ b ∧ both n l v b = true then memb n l v a b ++ [(b : Int)] else memb n l v a b := by
  unfold memb
  rw [List.range_succ, List.filter_append]
  by_cases h : a ≤ b ∧ both n l v b = true
  · simp [h]
  · rw [if_neg h]
    by_cases h1 : a ≤ b
    · have h2 : both n l v b = false := by simpa [h1] using h
      simp [h2]
    · simp [h1]
/-- What was done, and the groups, before node v. -/
def gst (n : Int) (l : Arcs) : Nat → (Nat → Bool) × List (List Int)
  | 0 => (fun _ => false, [])
  | v + 1 => if (gst n l v).1 v then gst n l v else (fun j => (gst n l v).1 j || both n l v j, (gst n l v).2 ++ [memb n l v 0 n.toNat])
def groupsR (n : Int) (l : Arcs) : List (List Int) × Int := if gcheck n l ≠ 0 then ([], gcheck n l) else ((gst n l n.toNat).2, 0)

theorem memb_len (n : Int) (l : Arcs) (v a b : Nat) : (memb n l v a b).length ≤ b := by
  unfold memb
  have := List.length_filter_le (fun j => decide (a ≤ j) && both n l v j) (List.range b)
  simpa using this
theorem gst_len (n : Int) (l : Arcs) (v : Nat) : (gst n l v).2.length ≤ v := by
  induction v with
  | zero => simp [gst]
  | succ v ih => simp only [gst]; split
                 · omega
                 · simp; omega

theorem path_swap {l : Arcs} {u v : Int} (h : Path l u v) : Path (backL l) v u := by
  induction h with
  | refl u => exact .refl u
  | step h p ih => exact ih.snoc (List.mem_map.2 ⟨_, h, rfl⟩)
theorem backL_back (l : Arcs) : backL (backL l) = l := by simp [backL]
theorem path_back {l : Arcs} {u v : Int} : Path (backL l) u v ↔ Path l v u :=
  ⟨fun h => by have := path_swap h; rwa [backL_back] at this, path_swap⟩
theorem both_iff {n : Int} {l : Arcs} (hr : inR n l) {v k : Nat} (hv : v < n.toNat) (hk : k < n.toNat) : both n l v k = true ↔ Path l v k ∧ Path l k v := by
  unfold both
  rw [Bool.and_eq_true]
  have h1 := reachL_iff hr (v := v) (by omega) (by omega) (w := k) (by omega)
  have h2 := reachL_iff (inR_swap hr) (v := v) (by omega) (by omega) (w := k) (by omega)
  unfold vis at h1 h2
  rw [Int.toNat_natCast] at h1 h2
  rw [h1, show (reachL n (backL l) v).getD k false = true ↔ Path (backL l) v k from h2, path_back]
theorem gst_done {n : Int} {l : Arcs} (hr : inR n l) : ∀ (v : Nat), v ≤ n.toNat → ∀ k, k < n.toNat → ((gst n l v).1 k = true ↔ ∃ u, u < v ∧ both n l u k = true)
  | 0, _, k, _ => by simp [gst]
  | v + 1, hv, k, hk => by
    have ih := gst_done hr v (by omega)
    simp only [gst]
    split
    · rename_i hd
      rw [ih k hk]
      constructor
      · rintro ⟨u, h1, h2⟩; exact ⟨u, by omega, h2⟩
      · rintro ⟨u, h1, h2⟩
        by_cases huv : u = v
        · subst huv
          obtain ⟨x, h3, h4⟩ := (ih u (by omega)).1 hd
          refine ⟨x, h3, ?_⟩
          rw [both_iff hr (by omega) (by omega)] at h2 h4 ⊢
          exact ⟨h4.1.trans h2.1, h2.2.trans h4.2⟩
        · exact ⟨u, by omega, h2⟩
    · simp only [Bool.or_eq_true, ih k hk]
      constructor
      · rintro (⟨u, h1, h2⟩ | h2)
        · exact ⟨u, by omega, h2⟩
        · exact ⟨v, by omega, h2⟩
      · rintro ⟨u, h1, h2⟩
        by_cases huv : u = v
        · subst huv; exact .inr h2
        · exact .inl ⟨u, by omega, h2⟩
theorem both_low {n : Int} {l : Arcs} (hr : inR n l) {v : Nat} (hv : v < n.toNat) (hd : (gst n l v).1 v = false) {j : Nat} (hj : j < v) : both n l v j = false := by
  apply Bool.eq_false_iff.2
  intro hb
  have := (gst_done hr v (by omega) v hv).2 ⟨j, by omega, by
    rw [both_iff hr hv (by omega)] at hb
    rw [both_iff hr (by omega) hv]; exact ⟨hb.2, hb.1⟩⟩
  rw [hd] at this; cases this
theorem memb_from {n : Int} {l : Arcs} (hr : inR n l) {v : Nat} (hv : v < n.toNat) (hd : (gst n l v).1 v = false) : memb n l v v n.toNat = memb n l v 0 n.toNat := by
  unfold memb
  congr 1
  apply List.filter_congr
  intro j hj
  have hj := List.mem_range.1 hj
  by_cases h : v ≤ j
  · simp [h]
  · simp [both_low hr hv hd (show j < v by omega)]

theorem groups_vr {w : Bool} (n : Int) (l : Arcs) : VR P false n_graph_Groups [graphA w n l] [] (isR (.tup [.fs true (rows true (groupsR n l).1), .v (.int .i64 (groupsR n l).2)])) := by
  refine vr_graph_Groups (by simp) (.inr rfl) fun _ _ => ?_
  unfold graphA
  simp (disch := ((try simp only [List.length_set, List.length_replicate, List.length_append, List.length_cons, List.length_nil]); omega)) only [aW, aX, aV, aB, aN, aL, aP, aH, s_graph_Groups, v_graph_Groups]
  refine (check_vr (w := w) n l).same (by unfold graphA; simp (disch := first | omega | simp (disch := omega) only [aF, aL, aN]) only [aW, aX, aV, aB, aN, aL, aP, aH, aF, Int.natCast_add, Int.natCast_mul, Int.add_sub_cancel, List.length_nil, Int.cast_ofNat_Int, and_true, true_and]) rfl (aret_of ?_)
  simp (disch := ((try simp only [List.length_set, List.length_replicate, List.length_append, List.length_cons, List.length_nil]); omega)) only [aW, aX, aV, aB, aN, aL, aP, aH]
  refine ib_intro (fun h1 => ?_) (fun h1 => ?_)
  · simp (disch := ((try simp only [List.length_set, List.length_replicate, List.length_append, List.length_cons, List.length_nil]); omega)) only [aW, aX, aV, aB, aN, aL, aP, aH, r_graph_Groups]
    refine post_err ⟨?_, rfl⟩
    unfold groupsR; rw [if_pos h1]; rfl
  have h1 : gcheck n l = 0 := Classical.not_not.1 h1
  obtain ⟨c1, c2, c3, c4⟩ := gcheck_ok h1
  simp (disch := ((try simp only [List.length_set, List.length_replicate, List.length_append, List.length_cons, List.length_nil]); omega)) only [aW, aX, aV, aB, aN, aL, aP, aH]
  refine AWP.cut (Cut.virt 5 1 rfl) ?_
  refine AWP.loopP (α := Nat × Nat) g_graph_Groups_0 (fun p => p.1 ≤ n.toNat) (fun p => [(5, .vs 2 p.2 1 (gst n l p.1).2.length), (7, .v (.int .i64 p.1))]) (fun p => [(1, ⟨0, bools (tab n.toNat (gst n l p.1).1)⟩), (2, ⟨p.2, rows true (gst n l p.1).2⟩)]) (fun p => n.toNat - p.1) (0, 0) (by simp) ?_ ?_
  · simp (disch := ((try simp only [List.length_set, List.length_replicate, List.length_append, List.length_cons, List.length_nil]); omega)) only [aW, aX, aV, aB, aN, aL, aP, aH, tab_rep, gst]
    exact Cut.of' 3 rfl (by omega) (by simp (disch := first | omega | simp (disch := omega) only [aF, aL, aN]) only [aW, aX, aV, aB, aN, aL, aP, aH, aF, Int.natCast_add, Int.natCast_mul, Int.add_sub_cancel, List.length_nil, Int.cast_ofNat_Int, and_true, true_and, r_nil]) (by simp (disch := first | omega | simp (disch := omega) only [aF, aL, aN]) only [aW, aX, aV, aB, aN, aL, aP, aH, aF, Int.natCast_add, Int.natCast_mul, Int.add_sub_cancel, List.length_nil, Int.cast_ofNat_Int, and_true, true_and])
  rintro ⟨v, ver⟩ hv
  simp only at hv
  have hol := gst_len n l v
  have htl := tab_len n.toNat (gst n l v).1
  by_cases hlt : v < n.toNat
  · have hg := tab_get n.toNat (gst n l v).1 v hlt
    cases hd : (gst n l v).1 v with
    | true =>
      simp (disch := ((try simp only [List.length_set, List.length_replicate, List.length_append, List.length_cons, List.length_nil]); omega)) only [aW, aX, aV, aB, aN, aL, aP, aH, hg, hd]
      refine ⟨(v + 1, ver), by simp only; omega, by simp only; omega, ?_⟩
      simp only [gst, hd, if_true]
      exact Cut.of' 3 rfl (by omega) (by simp (disch := first | omega | simp (disch := omega) only [aF, aL, aN]) only [aW, aX, aV, aB, aN, aL, aP, aH, aF, Int.natCast_add, Int.natCast_mul, Int.add_sub_cancel, List.length_nil, Int.cast_ofNat_Int, and_true, true_and]) (by simp (disch := first | omega | simp (disch := omega) only [aF, aL, aN]) only [aW, aX, aV, aB, aN, aL, aP, aH, aF, Int.natCast_add, Int.natCast_mul, Int.add_sub_cancel, List.length_nil, Int.cast_ofNat_Int, and_true, true_and])
    | false =>
      have vr : ∀ es, visitR n l es v = (reachL n es v, 0) := fun es => by unfold visitR; rw [if_neg (by simp [h1]), if_neg (by omega)]
      have hv1 := reach_vr (w := w) n l v
      have hv2 := back_vr (w := w) n l v
      rw [vr] at hv1 hv2
      have rl1 := reachL_len n l v
      have rl2 := reachL_len n (backL l) v
      simp (disch := ((try simp only [List.length_set, List.length_replicate, List.length_append, List.length_cons, List.length_nil]); omega)) only [aW, aX, aV, aB, aN, aL, aP, aH, hg, hd]
      refine hv1.same (by unfold graphA; simp (disch := first | omega | simp (disch := omega) only [aF, aL, aN]) only [aW, aX, aV, aB, aN, aL, aP, aH, aF, Int.natCast_add, Int.natCast_mul, Int.add_sub_cancel, List.length_nil, Int.cast_ofNat_Int, and_true, true_and]) (by simp (disch := first | omega | simp (disch := omega) only [aF, aL, aN]) only [aW, aX, aV, aB, aN, aL, aP, aH, aF, Int.natCast_add, Int.natCast_mul, Int.add_sub_cancel, List.length_nil, Int.cast_ofNat_Int, and_true, true_and]) (aret_of ?_)
      simp (disch := ((try simp only [List.length_set, List.length_replicate, List.length_append, List.length_cons, List.length_nil]); omega)) only [aW, aX, aV, aB, aN, aL, aP, aH]
      refine hv2.same (by unfold graphA; simp (disch := first | omega | simp (disch := omega) only [aF, aL, aN]) only [aW, aX, aV, aB, aN, aL, aP, aH, aF, Int.natCast_add, Int.natCast_mul, Int.add_sub_cancel, List.length_nil, Int.cast_ofNat_Int, and_true, true_and]) (by simp (disch := first | omega | simp (disch := omega) only [aF, aL, aN]) only [aW, aX, aV, aB, aN, aL, aP, aH, aF, Int.natCast_add, Int.natCast_mul, Int.add_sub_cancel, List.length_nil, Int.cast_ofNat_Int, and_true, true_and]) (aret_of ?_)
      simp (disch := ((try simp only [List.length_set, List.length_replicate, List.length_append, List.length_cons, List.length_nil]); omega)) only [aW, aX, aV, aB, aN, aL, aP, aH]
      refine AWP.cut (Cut.virt 15 1 rfl) ?_
      refine AWP.loopP (α := Nat × Nat) g_graph_Groups_1 (fun p => p.1 ≤ n.toNat) (fun p => [(15, .vs 3 p.2 1 (memb n l v 0 p.1).length), (16, .v (.int .i64 p.1))]) (fun p => [(1, ⟨0, bools (tab n.toNat (fun j => (gst n l v).1 j || (decide (j < p.1) && both n l v j)))⟩), (3, ⟨p.2, ints (memb n l v 0 p.1)⟩)]) (fun p => n.toNat - p.1) (0, 0) (by simp) ?_ ?_
      · have e0 : (fun j => (gst n l v).1 j || (decide (j < 0) && both n l v j)) = (gst n l v).1 := by funext j; simp
        have e1 : memb n l v 0 0 = [] := rfl
        simp (disch := ((try simp only [List.length_set, List.length_replicate, List.length_append, List.length_cons, List.length_nil]); omega)) only [aW, aX, aV, aB, aN, aL, aP, aH]
        exact Cut.of' 4 rfl (by omega) (by simp (disch := first | omega | simp (disch := omega) only [aF, aL, aN]) only [aW, aX, aV, aB, aN, aL, aP, aH, aF, Int.natCast_add, Int.natCast_mul, Int.add_sub_cancel, List.length_nil, Int.cast_ofNat_Int, and_true, true_and, e0, e1, ii_nil]) (by simp (disch := first | omega | simp (disch := omega) only [aF, aL, aN]) only [aW, aX, aV, aB, aN, aL, aP, aH, aF, Int.natCast_add, Int.natCast_mul, Int.add_sub_cancel, List.length_nil, Int.cast_ofNat_Int, and_true, true_and, e1])
      rintro ⟨k, vk⟩ hk
      simp only at hk
      have hml := memb_len n l v 0 k
      have htk := tab_len n.toNat (fun j => (gst n l v).1 j || (decide (j < k) && both n l v j))
      by_cases hkt : k < n.toNat
      · simp (disch := ((try simp only [List.length_set, List.length_replicate, List.length_append, List.length_cons, List.length_nil]); omega)) only [aW, aX, aV, aB, aN, aL, aP, aH]
        refine ib_split (fun h3 => ?_) (fun h3 => ?_)
        · have h3' : both n l v k = true := h3
          simp (disch := ((try simp only [List.length_set, List.length_replicate, List.length_append, List.length_cons, List.length_nil]); omega)) only [aW, aX, aV, aB, aN, aL, aP, aH]
          refine ⟨(k + 1, vk + 1), by simp only; omega, by simp only; omega, ?_⟩
          have e1 : memb n l v 0 (k + 1) = memb n l v 0 k ++ [(k : Int)] := by rw [memb_succ, if_pos ⟨by omega, h3'⟩]
          have e2 : tab n.toNat (fun j => (gst n l v).1 j || (decide (j < k + 1) && both n l v j)) = (tab n.toNat (fun j => (gst n l v).1 j || (decide (j < k) && both n l v j))).set k true := by
            rw [tab_set _ _ _ hkt]
            refine tab_ext fun j _ => ?_
            by_cases hjk : j = k
            · subst hjk; simp [h3']
            · simp only [show (decide (j < k + 1)) = decide (j < k) by simp; omega, show (j == k) = false by simpa using hjk, Bool.or_false]
          simp only [e1, e2]
          try simp (disch := ((try simp only [List.length_set, List.length_replicate, List.length_append, List.length_cons, List.length_nil]); omega)) only [aW, aX, aV, aB, aN, aL, aP, aH]
          exact Cut.of' 4 rfl (by omega) (by simp (disch := first | omega | simp (disch := omega) only [aF, aL, aN]) only [aW, aX, aV, aB, aN, aL, aP, aH, aF, Int.natCast_add, Int.natCast_mul, Int.add_sub_cancel, List.length_nil, Int.cast_ofNat_Int, and_true, true_and]) (by simp (disch := first | omega | simp (disch := omega) only [aF, aL, aN]) only [aW, aX, aV, aB, aN, aL, aP, aH, aF, Int.natCast_add, Int.natCast_mul, Int.add_sub_cancel, List.length_nil, Int.cast_ofNat_Int, and_true, true_and])
        · have h3' : both n l v k = false := h3
          simp (disch := ((try simp only [List.length_set, List.length_replicate, List.length_append, List.length_cons, List.length_nil]); omega)) only [aW, aX, aV, aB, aN, aL, aP, aH]
          refine ⟨(k + 1, vk), by simp only; omega, by simp only; omega, ?_⟩
          have e1 : memb n l v 0 (k + 1) = memb n l v 0 k := by rw [memb_succ, if_neg (by simp [h3'])]
          have e2 : tab n.toNat (fun j => (gst n l v).1 j || (decide (j < k + 1) && both n l v j)) = tab n.toNat (fun j => (gst n l v).1 j || (decide (j < k) && both n l v j)) := by
            refine tab_ext fun j _ => ?_
            by_cases hjk : j = k
            · subst hjk; simp [h3']
            · simp only [show (decide (j < k + 1)) = decide (j < k) by simp; omega]
          simp only [e1, e2]
          try simp (disch := ((try simp only [List.length_set, List.length_replicate, List.length_append, List.length_cons, List.length_nil]); omega)) only [aW, aX, aV, aB, aN, aL, aP, aH]
          exact Cut.of' 4 rfl (by omega) (by simp (disch := first | omega | simp (disch := omega) only [aF, aL, aN]) only [aW, aX, aV, aB, aN, aL, aP, aH, aF, Int.natCast_add, Int.natCast_mul, Int.add_sub_cancel, List.length_nil, Int.cast_ofNat_Int, and_true, true_and]) (by simp (disch := first | omega | simp (disch := omega) only [aF, aL, aN]) only [aW, aX, aV, aB, aN, aL, aP, aH, aF, Int.natCast_add, Int.natCast_mul, Int.add_sub_cancel, List.length_nil, Int.cast_ofNat_Int, and_true, true_and])
      · have hkn : k = n.toNat := by omega
        subst hkn
        simp (disch := ((try simp only [List.length_set, List.length_replicate, List.length_append, List.length_cons, List.length_nil]); omega)) only [aW, aX, aV, aB, aN, aL, aP, aH]
        refine ⟨(v + 1, ver + 1), by simp only; omega, by simp only; omega, ?_⟩
        have e1 : gst n l (v + 1) = (fun j => (gst n l v).1 j || both n l v j, (gst n l v).2 ++ [memb n l v 0 n.toNat]) := by simp [gst, hd]
        have e2 : tab n.toNat (fun j => (gst n l v).1 j || both n l v j) = tab n.toNat (fun j => (gst n l v).1 j || (decide (j < n.toNat) && both n l v j)) := tab_ext fun j hj => by simp [hj]
        simp only [e1, e2]
        try simp (disch := ((try simp only [List.length_set, List.length_replicate, List.length_append, List.length_cons, List.length_nil]); omega)) only [aW, aX, aV, aB, aN, aL, aP, aH]
        have z : ∀ H : List Blk, blkAt H 3 vk = some (ints (memb n l v 0 n.toNat)) → FzL 3 H (rows true (gst n l v).2 ++ [.vs 3 vk 1 (memb n l v 0 n.toNat).length]) (rows true ((gst n l v).2 ++ [memb n l v 0 n.toNat])) := fun H hH => by
          rw [← r_app1]; exact FzL.app (FzL.refl (r_bd _ _ _)) ⟨fz_vsI _ _ _ _ _ _ (by omega) rfl hH, trivial⟩
        refine Cut.of' 3 rfl (by omega) ⟨rfl, by simp (disch := first | omega | simp (disch := omega) only [aF, aL, aN]) only [aW, aX, aV, aB, aN, aL, aP, aH, aF, Int.natCast_add, Int.natCast_mul, Int.add_sub_cancel, List.length_nil, Int.cast_ofNat_Int, and_true, true_and], rfl, by simp (disch := first | omega | simp (disch := omega) only [aF, aL, aN]) only [aW, aX, aV, aB, aN, aL, aP, aH, aF, Int.natCast_add, Int.natCast_mul, Int.add_sub_cancel, List.length_nil, Int.cast_ofNat_Int, and_true, true_and], rfl, z _ (by simp (disch := ((try simp only [List.length_set, List.length_replicate, List.length_append, List.length_cons, List.length_nil]); omega)) only [aW, aX, aV, aB, aN, aL, aP, aH]), trivial⟩ (by simp (disch := first | omega | simp (disch := omega) only [aF, aL, aN]) only [aW, aX, aV, aB, aN, aL, aP, aH, aF, Int.natCast_add, Int.natCast_mul, Int.add_sub_cancel, List.length_nil, Int.cast_ofNat_Int, and_true, true_and])
  · have hvn : v = n.toNat := by omega
    subst hvn
    simp (disch := ((try simp only [List.length_set, List.length_replicate, List.length_append, List.length_cons, List.length_nil]); omega)) only [aW, aX, aV, aB, aN, aL, aP, aH, r_graph_Groups]
    refine post0 (r := .tup [.fs true (rows true (gst n l n.toNat).2), .v (.int .i64 0)]) (Fz.tup ⟨fz_vsR _ _ _ _ _ _ (by omega) rfl (by simp (disch := ((try simp only [List.length_set, List.length_replicate, List.length_append, List.length_cons, List.length_nil]); omega)) only [aW, aX, aV, aB, aN, aL, aP, aH]), Fz.refl rfl, trivial⟩) ⟨?_, rfl⟩
    unfold groupsR; rw [if_neg (by simp [h1])]
theorem refGroups_vr {w : Bool} (n : Int) (l : Arcs) : VR P false n_ref09_Groups [graphA w n l] [] (isR (.tup [.fs true (rows true (groupsR n l).1), .v (.int .i64 (groupsR n l).2)])) := by
  refine vr_ref09_Groups (by simp) (.inr rfl) fun _ _ => ?_
  unfold graphA
  simp (disch := ((try simp only [List.length_set, List.length_replicate, List.length_append, List.length_cons, List.length_nil]); omega)) only [aW, aX, aV, aB, aN, aL, aP, aH, s_ref09_Groups, v_ref09_Groups]
  refine (refCheck_vr (w := w) n l).same (by unfold graphA; simp (disch := first | omega | simp (disch := omega) only [aF, aL, aN]) only [aW, aX, aV, aB, aN, aL, aP, aH, aF, Int.natCast_add, Int.natCast_mul, Int.add_sub_cancel, List.length_nil, Int.cast_ofNat_Int, and_true, true_and]) rfl (aret_of ?_)
  simp (disch := ((try simp only [List.length_set, List.length_replicate, List.length_append, List.length_cons, List.length_nil]); omega)) only [aW, aX, aV, aB, aN, aL, aP, aH]
  refine ib_intro (fun h1 => ?_) (fun h1 => ?_)
  · simp (disch := ((try simp only [List.length_set, List.length_replicate, List.length_append, List.length_cons, List.length_nil]); omega)) only [aW, aX, aV, aB, aN, aL, aP, aH, r_ref09_Groups]
    refine post_err ⟨?_, rfl⟩
    unfold groupsR; rw [if_pos h1]; rfl
  have h1 : gcheck n l = 0 := Classical.not_not.1 h1
  obtain ⟨c1, c2, c3, c4⟩ := gcheck_ok h1
  simp (disch := ((try simp only [List.length_set, List.length_replicate, List.length_append, List.length_cons, List.length_nil]); omega)) only [aW, aX, aV, aB, aN, aL, aP, aH]
  refine AWP.cut (Cut.virt 5 1 rfl) ?_
  refine AWP.loopP (α := Nat × Nat) g_ref09_Groups_0 (fun p => p.1 ≤ n.toNat) (fun p => [(5, .vs 2 p.2 1 (gst n l p.1).2.length), (7, .v (.int .i64 p.1))]) (fun p => [(1, ⟨0, bools (tab n.toNat (gst n l p.1).1)⟩), (2, ⟨p.2, rows true (gst n l p.1).2⟩)]) (fun p => n.toNat - p.1) (0, 0) (by simp) ?_ ?_
  · simp (disch := ((try simp only [List.length_set, List.length_replicate, List.length_append, List.length_cons, List.length_nil]); omega)) only [aW, aX, aV, aB, aN, aL, aP, aH, tab_rep, gst]
    exact Cut.of' 3 rfl (by omega) (by simp (disch := first | omega | simp (disch := omega) only [aF, aL, aN]) only [aW, aX, aV, aB, aN, aL, aP, aH, aF, Int.natCast_add, Int.natCast_mul, Int.add_sub_cancel, List.length_nil, Int.cast_ofNat_Int, and_true, true_and, r_nil]) (by simp (disch := first | omega | simp (disch := omega) only [aF, aL, aN]) only [aW, aX, aV, aB, aN, aL, aP, aH, aF, Int.natCast_add, Int.natCast_mul, Int.add_sub_cancel, List.length_nil, Int.cast_ofNat_Int, and_true, true_and])
  rintro ⟨v, ver⟩ hv
  simp only at hv
  have hol := gst_len n l v
  have htl := tab_len n.toNat (gst n l v).1
  by_cases hlt : v < n.toNat
  · have hg := tab_get n.toNat (gst n l v).1 v hlt
    cases hd : (gst n l v).1 v with
    | true =>
      simp (disch := ((try simp only [List.length_set, List.length_replicate, List.length_append, List.length_cons, List.length_nil]); omega)) only [aW, aX, aV, aB, aN, aL, aP, aH, hg, hd]
      refine ⟨(v + 1, ver), by simp only; omega, by simp only; omega, ?_⟩
      simp only [gst, hd, if_true]
      exact Cut.of' 3 rfl (by omega) (by simp (disch := first | omega | simp (disch := omega) only [aF, aL, aN]) only [aW, aX, aV, aB, aN, aL, aP, aH, aF, Int.natCast_add, Int.natCast_mul, Int.add_sub_cancel, List.length_nil, Int.cast_ofNat_Int, and_true, true_and]) (by simp (disch := first | omega | simp (disch := omega) only [aF, aL, aN]) only [aW, aX, aV, aB, aN, aL, aP, aH, aF, Int.natCast_add, Int.natCast_mul, Int.add_sub_cancel, List.length_nil, Int.cast_ofNat_Int, and_true, true_and])
    | false =>
      have vr : ∀ es, visitR n l es v = (reachL n es v, 0) := fun es => by unfold visitR; rw [if_neg (by simp [h1]), if_neg (by omega)]
      have hv1 := refReach_vr (w := w) n l v
      have hv2 := refBack_vr (w := w) n l v
      rw [vr] at hv1 hv2
      have rl1 := reachL_len n l v
      have rl2 := reachL_len n (backL l) v
      simp (disch := ((try simp only [List.length_set, List.length_replicate, List.length_append, List.length_cons, List.length_nil]); omega)) only [aW, aX, aV, aB, aN, aL, aP, aH, hg, hd]
      refine hv1.same (by unfold graphA; simp (disch := first | omega | simp (disch := omega) only [aF, aL, aN]) only [aW, aX, aV, aB, aN, aL, aP, aH, aF, Int.natCast_add, Int.natCast_mul, Int.add_sub_cancel, List.length_nil, Int.cast_ofNat_Int, and_true, true_and]) (by simp (disch := first | omega | simp (disch := omega) only [aF, aL, aN]) only [aW, aX, aV, aB, aN, aL, aP, aH, aF, Int.natCast_add, Int.natCast_mul, Int.add_sub_cancel, List.length_nil, Int.cast_ofNat_Int, and_true, true_and]) (aret_of ?_)
      simp (disch := ((try simp only [List.length_set, List.length_replicate, List.length_append, List.length_cons, List.length_nil]); omega)) only [aW, aX, aV, aB, aN, aL, aP, aH]
      refine hv2.same (by unfold graphA; simp (disch := first | omega | simp (disch := omega) only [aF, aL, aN]) only [aW, aX, aV, aB, aN, aL, aP, aH, aF, Int.natCast_add, Int.natCast_mul, Int.add_sub_cancel, List.length_nil, Int.cast_ofNat_Int, and_true, true_and]) (by simp (disch := first | omega | simp (disch := omega) only [aF, aL, aN]) only [aW, aX, aV, aB, aN, aL, aP, aH, aF, Int.natCast_add, Int.natCast_mul, Int.add_sub_cancel, List.length_nil, Int.cast_ofNat_Int, and_true, true_and]) (aret_of ?_)
      simp (disch := ((try simp only [List.length_set, List.length_replicate, List.length_append, List.length_cons, List.length_nil]); omega)) only [aW, aX, aV, aB, aN, aL, aP, aH]
      refine AWP.cut (Cut.virt 12 1 rfl) ?_
      refine AWP.loopP (α := Nat × Nat) g_ref09_Groups_1 (fun p => v ≤ p.1 ∧ p.1 ≤ n.toNat) (fun p => [(12, .vs 3 p.2 1 (memb n l v v p.1).length), (13, .v (.int .i64 p.1))]) (fun p => [(1, ⟨0, bools (tab n.toNat (fun j => (gst n l v).1 j || (decide (v ≤ j ∧ j < p.1) && both n l v j)))⟩), (3, ⟨p.2, ints (memb n l v v p.1)⟩)]) (fun p => n.toNat - p.1) (v, 0) ⟨Nat.le_refl _, hv⟩ ?_ ?_
      · have e0 : (fun j => (gst n l v).1 j || (decide (v ≤ j ∧ j < v) && both n l v j)) = (gst n l v).1 := by funext j; simp; intros; omega
        have e1 : memb n l v v v = [] := by unfold memb; simp; intros; omega
        simp (disch := ((try simp only [List.length_set, List.length_replicate, List.length_append, List.length_cons, List.length_nil]); omega)) only [aW, aX, aV, aB, aN, aL, aP, aH]
        exact Cut.of' 4 rfl (by omega) (by simp (disch := first | omega | simp (disch := omega) only [aF, aL, aN]) only [aW, aX, aV, aB, aN, aL, aP, aH, aF, Int.natCast_add, Int.natCast_mul, Int.add_sub_cancel, List.length_nil, Int.cast_ofNat_Int, and_true, true_and, e0, e1, ii_nil]) (by simp (disch := first | omega | simp (disch := omega) only [aF, aL, aN]) only [aW, aX, aV, aB, aN, aL, aP, aH, aF, Int.natCast_add, Int.natCast_mul, Int.add_sub_cancel, List.length_nil, Int.cast_ofNat_Int, and_true, true_and, e1])
      rintro ⟨k, vk⟩ hk
      simp only at hk
      obtain ⟨hvk, hk⟩ := hk
      have hml := memb_len n l v v k
      have htk := tab_len n.toNat (fun j => (gst n l v).1 j || (decide (v ≤ j ∧ j < k) && both n l v j))
      by_cases hkt : k < n.toNat
      · simp (disch := ((try simp only [List.length_set, List.length_replicate, List.length_append, List.length_cons, List.length_nil]); omega)) only [aW, aX, aV, aB, aN, aL, aP, aH]
        refine ib_split (fun h3 => ?_) (fun h3 => ?_)
        · have h3' : both n l v k = true := h3
          simp (disch := ((try simp only [List.length_set, List.length_replicate, List.length_append, List.length_cons, List.length_nil]); omega)) only [aW, aX, aV, aB, aN, aL, aP, aH]
          refine ⟨(k + 1, vk + 1), by simp only; omega, by simp only; omega, ?_⟩
          have e1 : memb n l v v (k + 1) = memb n l v v k ++ [(k : Int)] := by rw [memb_succ, if_pos ⟨by omega, h3'⟩]
          have e2 : tab n.toNat (fun j => (gst n l v).1 j || (decide (v ≤ j ∧ j < k + 1) && both n l v j)) = (tab n.toNat (fun j => (gst n l v).1 j || (decide (v ≤ j ∧ j < k) && both n l v j))).set k true := by
            rw [tab_set _ _ _ hkt]
            refine tab_ext fun j _ => ?_
            by_cases hjk : j = k
            · subst hjk; simp [h3', hvk]
            · simp only [show (decide (v ≤ j ∧ j < k + 1)) = decide (v ≤ j ∧ j < k) from decide_eq_decide.2 (by omega), show (j == k) = false by simpa using hjk, Bool.or_false]
          simp only [e1, e2]
          try simp (disch := ((try simp only [List.length_set, List.length_replicate, List.length_append, List.length_cons, List.length_nil]); omega)) only [aW, aX, aV, aB, aN, aL, aP, aH]
          exact Cut.of' 4 rfl (by omega) (by simp (disch := first | omega | simp (disch := omega) only [aF, aL, aN]) only [aW, aX, aV, aB, aN, aL, aP, aH, aF, Int.natCast_add, Int.natCast_mul, Int.add_sub_cancel, List.length_nil, Int.cast_ofNat_Int, and_true, true_and]) (by simp (disch := first | omega | simp (disch := omega) only [aF, aL, aN]) only [aW, aX, aV, aB, aN, aL, aP, aH, aF, Int.natCast_add, Int.natCast_mul, Int.add_sub_cancel, List.length_nil, Int.cast_ofNat_Int, and_true, true_and])
        · have h3' : both n l v k = false := h3
          simp (disch := ((try simp only [List.length_set, List.length_replicate, List.length_append, List.length_cons, List.length_nil]); omega)) only [aW, aX, aV, aB, aN, aL, aP, aH]
          refine ⟨(k + 1, vk), by simp only; omega, by simp only; omega, ?_⟩
          have e1 : memb n l v v (k + 1) = memb n l v v k := by rw [memb_succ, if_neg (by simp [h3'])]
          have e2 : tab n.toNat (fun j => (gst n l v).1 j || (decide (v ≤ j ∧ j < k + 1) && both n l v j)) = tab n.toNat (fun j => (gst n l v).1 j || (decide (v ≤ j ∧ j < k) && both n l v j)) := by
            refine tab_ext fun j _ => ?_
            by_cases hjk : j = k
            · subst hjk; simp [h3']
            · simp only [show (decide (v ≤ j ∧ j < k + 1)) = decide (v ≤ j ∧ j < k) from decide_eq_decide.2 (by omega)]
          simp only [e1, e2]
          try simp (disch := ((try simp only [List.length_set, List.length_replicate, List.length_append, List.length_cons, List.length_nil]); omega)) only [aW, aX, aV, aB, aN, aL, aP, aH]
          exact Cut.of' 4 rfl (by omega) (by simp (disch := first | omega | simp (disch := omega) only [aF, aL, aN]) only [aW, aX, aV, aB, aN, aL, aP, aH, aF, Int.natCast_add, Int.natCast_mul, Int.add_sub_cancel, List.length_nil, Int.cast_ofNat_Int, and_true, true_and]) (by simp (disch := first | omega | simp (disch := omega) only [aF, aL, aN]) only [aW, aX, aV, aB, aN, aL, aP, aH, aF, Int.natCast_add, Int.natCast_mul, Int.add_sub_cancel, List.length_nil, Int.cast_ofNat_Int, and_true, true_and])
      · have hkn : k = n.toNat := by omega
        subst hkn
        simp (disch := ((try simp only [List.length_set, List.length_replicate, List.length_append, List.length_cons, List.length_nil]); omega)) only [aW, aX, aV, aB, aN, aL, aP, aH]
        refine ⟨(v + 1, ver + 1), by simp only; omega, by simp only; omega, ?_⟩
        have e1 : gst n l (v + 1) = (fun j => (gst n l v).1 j || both n l v j, (gst n l v).2 ++ [memb n l v 0 n.toNat]) := by simp [gst, hd]
        have e2 : tab n.toNat (fun j => (gst n l v).1 j || both n l v j) = tab n.toNat (fun j => (gst n l v).1 j || (decide (v ≤ j ∧ j < n.toNat) && both n l v j)) := tab_ext fun j hj => by
          by_cases hjv : v ≤ j
          · simp [hj, hjv]
          · simp [both_low c4 hlt hd (show j < v by omega)]
        have e3 := memb_from c4 hlt hd
        simp only [e1, e2, ← e3]
        try simp (disch := ((try simp only [List.length_set, List.length_replicate, List.length_append, List.length_cons, List.length_nil]); omega)) only [aW, aX, aV, aB, aN, aL, aP, aH]
        have z : ∀ H : List Blk, blkAt H 3 vk = some (ints (memb n l v v n.toNat)) → FzL 3 H (rows true (gst n l v).2 ++ [.vs 3 vk 1 (memb n l v v n.toNat).length]) (rows true ((gst n l v).2 ++ [memb n l v v n.toNat])) := fun H hH => by
          rw [← r_app1]; exact FzL.app (FzL.refl (r_bd _ _ _)) ⟨fz_vsI _ _ _ _ _ _ (by omega) rfl hH, trivial⟩
        refine Cut.of' 3 rfl (by omega) ⟨rfl, by simp (disch := first | omega | simp (disch := omega) only [aF, aL, aN]) only [aW, aX, aV, aB, aN, aL, aP, aH, aF, Int.natCast_add, Int.natCast_mul, Int.add_sub_cancel, List.length_nil, Int.cast_ofNat_Int, and_true, true_and], rfl, by simp (disch := first | omega | simp (disch := omega) only [aF, aL, aN]) only [aW, aX, aV, aB, aN, aL, aP, aH, aF, Int.natCast_add, Int.natCast_mul, Int.add_sub_cancel, List.length_nil, Int.cast_ofNat_Int, and_true, true_and], rfl, z _ (by simp (disch := ((try simp only [List.length_set, List.length_replicate, List.length_append, List.length_cons, List.length_nil]); omega)) only [aW, aX, aV, aB, aN, aL, aP, aH]), trivial⟩ (by simp (disch := first | omega | simp (disch := omega) only [aF, aL, aN]) only [aW, aX, aV, aB, aN, aL, aP, aH, aF, Int.natCast_add, Int.natCast_mul, Int.add_sub_cancel, List.length_nil, Int.cast_ofNat_Int, and_true, true_and])
  · have hvn : v = n.toNat := by omega
    subst hvn
    simp (disch := ((try simp only [List.length_set, List.length_replicate, List.length_append, List.length_cons, List.length_nil]); omega)) only [aW, aX, aV, aB, aN, aL, aP, aH, r_ref09_Groups]
    refine post0 (r := .tup [.fs true (rows true (gst n l n.toNat).2), .v (.int .i64 0)]) (Fz.tup ⟨fz_vsR _ _ _ _ _ _ (by omega) rfl (by simp (disch := ((try simp only [List.length_set, List.length_replicate, List.length_append, List.length_cons, List.length_nil]); omega)) only [aW, aX, aV, aB, aN, aL, aP, aH]), Fz.refl rfl, trivial⟩) ⟨?_, rfl⟩
    unfold groupsR; rw [if_neg (by simp [h1])]
/-! ### What stands for a group -/
def reps (n : Int) (l : Arcs) : Nat → List Nat
  | 0 => []
  | v + 1 => if (gst n l v).1 v then reps n l v else reps n l v ++ [v]
theorem gst_reps (n : Int) (l : Arcs) : ∀ v, (gst n l v).2 = (reps n l v).map fun r => memb n l r 0 n.toNat
  | 0 => rfl
  | v + 1 => by
    simp only [gst, reps]
    split
    · exact gst_reps n l v
    · simp only [gst_reps n l v, List.map_append, List.map_cons, List.map_nil]
theorem reps_lt (n : Int) (l : Arcs) : ∀ v, ∀ r ∈ reps n l v, r < v
  | 0, r, h => by simp [reps] at h
  | v + 1, r, h => by
    simp only [reps] at h
    split at h
    · have := reps_lt n l v r h; omega
    · simp only [List.mem_append, List.mem_singleton] at h
      rcases h with h | rfl
      · have := reps_lt n l v r h; omega
      · omega
theorem b_refl {n : Int} {l : Arcs} (hr : inR n l) {u : Nat} (hu : u < n.toNat) : both n l u u = true := (both_iff hr hu hu).2 ⟨.refl _, .refl _⟩
theorem b_symm {n : Int} {l : Arcs} (hr : inR n l) {u v : Nat} (hu : u < n.toNat) (hv : v < n.toNat) (h : both n l u v = true) : both n l v u = true := by
  have := (both_iff hr hu hv).1 h
  exact (both_iff hr hv hu).2 ⟨this.2, this.1⟩
theorem b_trans {n : Int} {l : Arcs} (hr : inR n l) {u v w : Nat} (hu : u < n.toNat) (hv : v < n.toNat) (hw : w < n.toNat) (h : both n l u v = true) (k : both n l v w = true) : both n l u w = true := by
  have h1 := (both_iff hr hu hv).1 h
  have h2 := (both_iff hr hv hw).1 k
  exact (both_iff hr hu hw).2 ⟨h1.1.trans h2.1, h2.2.trans h1.2⟩
theorem reps_apart {n : Int} {l : Arcs} (hr : inR n l) : ∀ v, v ≤ n.toNat → (reps n l v).Pairwise fun a b => both n l a b = false
  | 0, _ => by simp [reps]
  | v + 1, hv => by
    simp only [reps]
    split
    · exact reps_apart hr v (by omega)
    · rename_i hd
      rw [List.pairwise_append]
      refine ⟨reps_apart hr v (by omega), by simp, fun a ha b hb => ?_⟩
      simp only [List.mem_singleton] at hb
      subst hb
      rw [← Bool.not_eq_true]; intro hc
      exact hd ((gst_done hr b (by omega) b (by omega)).2 ⟨a, reps_lt n l b a ha, hc⟩)
theorem reps_cover {n : Int} {l : Arcs} (hr : inR n l) : ∀ v, v ≤ n.toNat → ∀ u, u < v → ∃ r ∈ reps n l v, both n l r u = true
  | 0, _, u, hu => by omega
  | v + 1, hv, u, hu => by
    have ih := reps_cover hr v (by omega)
    simp only [reps]
    by_cases huv : u < v
    · obtain ⟨r, h1, h2⟩ := ih u huv
      refine ⟨r, ?_, h2⟩
      split
      · exact h1
      · exact List.mem_append.2 (.inl h1)
    · have : u = v := by omega
      subst this
      split
      · rename_i hd
        obtain ⟨x, h1, h2⟩ := (gst_done hr u (by omega) u (by omega)).1 hd
        obtain ⟨r, h3, h4⟩ := ih x h1
        have := reps_lt n l u r h3
        exact ⟨r, h3, b_trans hr (by omega) (by omega) (by omega) h4 h2⟩
      · exact ⟨u, by simp, b_refl hr (by omega)⟩
theorem memb_mem {n : Int} {l : Arcs} {r b : Nat} {x : Int} : x ∈ memb n l r 0 b ↔ 0 ≤ x ∧ x < b ∧ both n l r x.toNat = true := by
  unfold memb
  simp only [List.mem_map, List.mem_filter, List.mem_range, Bool.and_eq_true, decide_eq_true_eq]
  constructor
  · rintro ⟨a, ⟨h1, _, h2⟩, rfl⟩
    refine ⟨Int.natCast_nonneg a, ?_, h2⟩
    show (a : Int) < b
    omega
  · rintro ⟨h1, h2, h3⟩
    exact ⟨x.toNat, ⟨by omega, by omega, h3⟩, Int.toNat_of_nonneg h1⟩
theorem memb_lt (n : Int) (l : Arcs) (r a b : Nat) : (memb n l r a b).Pairwise (· < ·) := by
  unfold memb
  refine List.Pairwise.map (R := (· < ·)) _ (fun a b h => ?_) (List.pairwise_lt_range.filter _)
  show (a : Int) < b
  omega

end Go.Proofs.Ytfnghkmchlfooaa
namespace Go.Proofs.Ytfnghkmchlfooaa
open Go Go.Lft
set_option linter.unusedSimpArgs false
set_option linter.unusedVariables false
attribute [local congr] ob_congr bw_congr ib_congr ck_congr iwA_congr itA_congr aw_congr awp_congr sqA_congr bkA_congr vr_congr gd_congr

def arcsR (p : Pl) : Arcs := p.bs.map fun b => (b.fr, b.to)
theorem arcsR_len (p : Pl) : (arcsR p).length = p.bs.length := by simp [arcsR]
theorem arcsR_get (p : Pl) (k : Nat) (h : k < p.bs.length) : (arcsR p).getD k (0, 0) = ((p.bs.getD k b0).fr, (p.bs.getD k b0).to) := by
  simp [arcsR, List.getD_eq_getElem?_getD, h]
def pgraph (p : Pl) : (Int × Arcs) × Int := if pcheck p ≠ 0 then ((0, []), pcheck p) else ((p.ms.length, arcsR p), 0)
theorem pgraph_err {p : Pl} (h : pcheck p ≠ 0) : pgraph p = ((0, []), pcheck p) := by unfold pgraph; rw [if_pos h]
theorem pgraph_ok {p : Pl} (h : pcheck p = 0) : pgraph p = (((p.ms.length : Int), arcsR p), 0) := by unfold pgraph; rw [if_neg (by omega)]
def graphT (g : (Int × Arcs) × Int) : A := .tup [graphA true g.1.1 g.1.2, .v (.int .i64 g.2)]

theorem layoutGraph_vr {w v : Bool} (p : Pl) : VR P false n_layout_Graph [plA w v p] [] (isR (graphT (pgraph p))) := by
  refine vr_layout_Graph (by simp) (.inr rfl) fun _ _ => ?_
  unfold plA plC
  simp (disch := ((try simp only [List.length_set, List.length_replicate, List.length_append, List.length_cons, List.length_nil]); omega)) only [aW, aX, aV, aB, aN, aL, aP, aH, aM, s_layout_Graph, v_layout_Graph]
  refine (layoutCheck_vr (w := w) (v := v) p).same (by unfold plA plC; simp (disch := first | omega | simp (disch := omega) only [aF, aL, aN, aM]) only [aW, aX, aV, aB, aN, aL, aP, aH, aM, aF, Int.natCast_add, Int.natCast_mul, Int.add_sub_cancel, List.length_nil, Int.cast_ofNat_Int, and_true, true_and]) rfl (aret_of ?_)
  simp (disch := ((try simp only [List.length_set, List.length_replicate, List.length_append, List.length_cons, List.length_nil]); omega)) only [aW, aX, aV, aB, aN, aL, aP, aH, aM]
  refine ib_intro (fun h1 => ?_) (fun h1 => ?_)
  · rw [pgraph_err h1]
    simp (disch := ((try simp only [List.length_set, List.length_replicate, List.length_append, List.length_cons, List.length_nil]); omega)) only [aW, aX, aV, aB, aN, aL, aP, aH, aM, r_layout_Graph]
    exact post0 (r := graphT ((0, []), pcheck p)) (Fz.tup ⟨Fz.agg ⟨Fz.refl rfl, fz_nil _ _, trivial⟩, Fz.refl rfl, trivial⟩) ⟨rfl, rfl⟩
  have h1 := Classical.not_not.1 h1
  have ok := pcheck_ok h1
  have hb2 := ok.b2
  rw [pgraph_ok h1]
  simp (disch := ((try simp only [List.length_set, List.length_replicate, List.length_append, List.length_cons, List.length_nil]); omega)) only [aW, aX, aV, aB, aN, aL, aP, aH, aM]
  refine AWP.cut (Cut.virtB 2 0 1 2 rfl rfl) ?_
  refine AWP.loopP (α := Nat × Nat) g_layout_Graph_0 (fun q => q.1 ≤ p.bs.length) (fun q => [(5, .v (.int .i64 q.1))]) (fun q => [(2, ⟨0, [.v (.int .i64 p.ms.length), .vs 3 q.2 2 q.1]⟩), (3, ⟨q.2, pcells ((arcsR p).take q.1)⟩)]) (fun q => p.bs.length - q.1) (0, 0) (by simp) ?_ ?_
  · simp (disch := ((try simp only [List.length_set, List.length_replicate, List.length_append, List.length_cons, List.length_nil]); omega)) only [aW, aX, aV, aB, aN, aL, aP, aH, aM]
    exact Cut.of' 4 rfl (by omega) (by simp (disch := first | omega | simp (disch := omega) only [aF, aL, aN, aM]) only [aW, aX, aV, aB, aN, aL, aP, aH, aM, aF, Int.natCast_add, Int.natCast_mul, Int.add_sub_cancel, List.length_nil, Int.cast_ofNat_Int, and_true, true_and, pc_nil, List.take_zero]) (by simp (disch := first | omega | simp (disch := omega) only [aF, aL, aN, aM]) only [aW, aX, aV, aB, aN, aL, aP, aH, aM, aF, Int.natCast_add, Int.natCast_mul, Int.add_sub_cancel, List.length_nil, Int.cast_ofNat_Int, and_true, true_and])
  rintro ⟨k, ver⟩ hk
  simp only at hk
  have hal := arcsR_len p
  have hbk : ((arcsR p).take k).length = k := by simp; omega
  by_cases hlt : k < p.bs.length
  · have hg := arcsR_get p k hlt
    simp (disch := ((try simp only [List.length_set, List.length_replicate, List.length_append, List.length_cons, List.length_nil]); omega)) only [aW, aX, aV, aB, aN, aL, aP, aH, aM]
    refine ⟨(k + 1, ver + 1), by simp only; omega, by simp only; omega, ?_⟩
    rw [take_succ_get (arcsR p) k (0, 0) (by omega), hg]
    simp (disch := ((try simp only [List.length_set, List.length_replicate, List.length_append, List.length_cons, List.length_nil]); omega)) only [aW, aX, aV, aB, aN, aL, aP, aH, aM]
    have e1 : List.take k (List.take k (arcsR p)) = List.take k (arcsR p) := by rw [List.take_take, Nat.min_self]
    exact Cut.of' 4 rfl (by omega) (by simp (disch := first | omega | simp (disch := omega) only [aF, aL, aN, aM]) only [aW, aX, aV, aB, aN, aL, aP, aH, aM, aF, Int.natCast_add, Int.natCast_mul, Int.add_sub_cancel, List.length_nil, Int.cast_ofNat_Int, and_true, true_and, e1]) (by simp (disch := first | omega | simp (disch := omega) only [aF, aL, aN, aM]) only [aW, aX, aV, aB, aN, aL, aP, aH, aM, aF, Int.natCast_add, Int.natCast_mul, Int.add_sub_cancel, List.length_nil, Int.cast_ofNat_Int, and_true, true_and])
  · have hkl : k = p.bs.length := by omega
    subst hkl
    have e1 : (arcsR p).take p.bs.length = arcsR p := List.take_of_length_le (by omega)
    simp (disch := ((try simp only [List.length_set, List.length_replicate, List.length_append, List.length_cons, List.length_nil]); omega)) only [aW, aX, aV, aB, aN, aL, aP, aH, aM, r_layout_Graph]
    refine post0 (r := graphT (((p.ms.length : Int), arcsR p), 0)) (Fz.tup ⟨Fz.agg ⟨Fz.refl rfl, ?_, trivial⟩, Fz.refl rfl, trivial⟩) ⟨rfl, rfl⟩
    exact fz_vsP 0 _ 3 ver p.bs.length (arcsR p) (by omega) hal.symm (by simp [blkAt, e1])

theorem refGraph_vr {w v : Bool} (p : Pl) : VR P false n_ref34_Graph [plA w v p] [] (isR (graphT (pgraph p))) := by
  refine vr_ref34_Graph (by simp) (.inr rfl) fun _ _ => ?_
  unfold plA plC
  simp (disch := ((try simp only [List.length_set, List.length_replicate, List.length_append, List.length_cons, List.length_nil]); omega)) only [aW, aX, aV, aB, aN, aL, aP, aH, aM, s_ref34_Graph, v_ref34_Graph]
  refine (ref34Check_vr (w := w) (v := v) p).same (by unfold plA plC; simp (disch := first | omega | simp (disch := omega) only [aF, aL, aN, aM]) only [aW, aX, aV, aB, aN, aL, aP, aH, aM, aF, Int.natCast_add, Int.natCast_mul, Int.add_sub_cancel, List.length_nil, Int.cast_ofNat_Int, and_true, true_and]) rfl (aret_of ?_)
  simp (disch := ((try simp only [List.length_set, List.length_replicate, List.length_append, List.length_cons, List.length_nil]); omega)) only [aW, aX, aV, aB, aN, aL, aP, aH, aM]
  refine ib_intro (fun h1 => ?_) (fun h1 => ?_)
  · rw [pgraph_err h1]
    simp (disch := ((try simp only [List.length_set, List.length_replicate, List.length_append, List.length_cons, List.length_nil]); omega)) only [aW, aX, aV, aB, aN, aL, aP, aH, aM, r_ref34_Graph]
    exact post0 (r := graphT ((0, []), pcheck p)) (Fz.tup ⟨Fz.agg ⟨Fz.refl rfl, fz_nil _ _, trivial⟩, Fz.refl rfl, trivial⟩) ⟨rfl, rfl⟩
  have h1 := Classical.not_not.1 h1
  have ok := pcheck_ok h1
  have hb2 := ok.b2
  rw [pgraph_ok h1]
  simp (disch := ((try simp only [List.length_set, List.length_replicate, List.length_append, List.length_cons, List.length_nil]); omega)) only [aW, aX, aV, aB, aN, aL, aP, aH, aM]
  refine AWP.cut (Cut.virtB 2 0 1 2 rfl rfl) ?_
  refine AWP.loopP (α := Nat × Nat) g_ref34_Graph_0 (fun q => q.1 ≤ p.bs.length) (fun q => [(5, .v (.int .i64 q.1))]) (fun q => [(2, ⟨0, [.v (.int .i64 p.ms.length), .vs 3 q.2 2 q.1]⟩), (3, ⟨q.2, pcells ((arcsR p).take q.1)⟩)]) (fun q => p.bs.length - q.1) (0, 0) (by simp) ?_ ?_
  · simp (disch := ((try simp only [List.length_set, List.length_replicate, List.length_append, List.length_cons, List.length_nil]); omega)) only [aW, aX, aV, aB, aN, aL, aP, aH, aM]
    exact Cut.of' 4 rfl (by omega) (by simp (disch := first | omega | simp (disch := omega) only [aF, aL, aN, aM]) only [aW, aX, aV, aB, aN, aL, aP, aH, aM, aF, Int.natCast_add, Int.natCast_mul, Int.add_sub_cancel, List.length_nil, Int.cast_ofNat_Int, and_true, true_and, pc_nil, List.take_zero]) (by simp (disch := first | omega | simp (disch := omega) only [aF, aL, aN, aM]) only [aW, aX, aV, aB, aN, aL, aP, aH, aM, aF, Int.natCast_add, Int.natCast_mul, Int.add_sub_cancel, List.length_nil, Int.cast_ofNat_Int, and_true, true_and])
  rintro ⟨k, ver⟩ hk
  simp only at hk
  have hal := arcsR_len p
  have hbk : ((arcsR p).take k).length = k := by simp; omega
  by_cases hlt : k < p.bs.length
  · have hg := arcsR_get p k hlt
    simp (disch := ((try simp only [List.length_set, List.length_replicate, List.length_append, List.length_cons, List.length_nil]); omega)) only [aW, aX, aV, aB, aN, aL, aP, aH, aM]
    refine ⟨(k + 1, ver + 1), by simp only; omega, by simp only; omega, ?_⟩
    rw [take_succ_get (arcsR p) k (0, 0) (by omega), hg]
    simp (disch := ((try simp only [List.length_set, List.length_replicate, List.length_append, List.length_cons, List.length_nil]); omega)) only [aW, aX, aV, aB, aN, aL, aP, aH, aM]
    have e1 : List.take k (List.take k (arcsR p)) = List.take k (arcsR p) := by rw [List.take_take, Nat.min_self]
    exact Cut.of' 4 rfl (by omega) (by simp (disch := first | omega | simp (disch := omega) only [aF, aL, aN, aM]) only [aW, aX, aV, aB, aN, aL, aP, aH, aM, aF, Int.natCast_add, Int.natCast_mul, Int.add_sub_cancel, List.length_nil, Int.cast_ofNat_Int, and_true, true_and, e1]) (by simp (disch := first | omega | simp (disch := omega) only [aF, aL, aN, aM]) only [aW, aX, aV, aB, aN, aL, aP, aH, aM, aF, Int.natCast_add, Int.natCast_mul, Int.add_sub_cancel, List.length_nil, Int.cast_ofNat_Int, and_true, true_and])
  · have hkl : k = p.bs.length := by omega
    subst hkl
    have e1 : (arcsR p).take p.bs.length = arcsR p := List.take_of_length_le (by omega)
    simp (disch := ((try simp only [List.length_set, List.length_replicate, List.length_append, List.length_cons, List.length_nil]); omega)) only [aW, aX, aV, aB, aN, aL, aP, aH, aM, r_ref34_Graph]
    refine post0 (r := graphT (((p.ms.length : Int), arcsR p), 0)) (Fz.tup ⟨Fz.agg ⟨Fz.refl rfl, ?_, trivial⟩, Fz.refl rfl, trivial⟩) ⟨rfl, rfl⟩
    exact fz_vsP 0 _ 3 ver p.bs.length (arcsR p) (by omega) hal.symm (by simp [blkAt, e1])

end Go.Proofs.Ytfnghkmchlfooaa
namespace Go.Proofs.Ytfnghkmchlfooaa
open Go Go.Lft
set_option linter.unusedSimpArgs false
set_option linter.unusedVariables false
attribute [local congr] ob_congr bw_congr ib_congr ck_congr iwA_congr itA_congr aw_congr awp_congr sqA_congr bkA_congr vr_congr gd_congr

end Go.Proofs.Ytfnghkmchlfooaa
namespace Go.Proofs.Ytfnghkmchlfooaa
open Go Go.Lft
set_option linter.unusedSimpArgs false
set_option linter.unusedVariables false
attribute [local congr] ob_congr bw_congr ib_congr ck_congr iwA_congr itA_congr aw_congr awp_congr sqA_congr bkA_congr vr_congr gd_congr

end Go.Proofs.Ytfnghkmchlfooaa
namespace Go.Proofs.Ytfnghkmchlfooaa
open Go Go.Lft
set_option linter.unusedSimpArgs false
set_option linter.unusedVariables false
attribute [local congr] ob_congr bw_congr ib_congr ck_congr iwA_congr itA_congr aw_congr awp_congr sqA_congr bkA_congr vr_congr gd_congr

theorem idxE_mem {α : Type} {p : α → Prop} [DecidablePred p] {l : List α} : 0 ≤ idxE p l ↔ ∃ x ∈ l, p x := by
  constructor
  · intro h
    have h1 := idxE_ge p l
    cases l with
    | nil => simp [idxE] at h
    | cons d r => exact ⟨_, mem_get d (by omega), idxE_at (p := p) d h⟩
  · rintro ⟨x, h1, h2⟩
    apply Classical.byContradiction; intro hc
    exact idxE_neg (p := p) (l := l) (by omega) x h1 h2
/-- The group is no loop. -/
def delG (l : Arcs) (r : List Int) : Prop := r.length = 1 ∧ ¬ (r.getD 0 0, r.getD 0 0) ∈ l
instance (l : Arcs) : DecidablePred (delG l) := fun r => by unfold delG; infer_instance

end Go.Proofs.Ytfnghkmchlfooaa
