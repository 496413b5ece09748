/- Reach and Back, and their references. No statement is claimed here. -/
import Derived.Test.YtjhdedifmhkhbaaGc
namespace Go.Proofs.Ytjhdedifmhkhbaa
open Go Go.Lft
set_option linter.unusedSimpArgs false
set_option linter.unusedVariables false
attribute [local congr] ob_congr bw_congr ib_congr ck_congr iwA_congr itA_congr aw_congr awp_congr sqA_congr bkA_congr vr_congr gd_congr

def iterN {α : Type} (f : α → α) : Nat → α → α
  | 0, x => x
  | k + 1, x => f (iterN f k x)
def relax1 (S : List Bool) (a : Int × Int) : List Bool := S.set a.2.toNat (S.getD a.2.toNat false || S.getD a.1.toNat false)
def relaxAll (es : Arcs) (S : List Bool) : List Bool := es.foldl relax1 S
def start0 (n from0 : Int) : List Bool := (List.replicate n.toNat false).set from0.toNat true
def reachL (n : Int) (es : Arcs) (from0 : Int) : List Bool := iterN (relaxAll es) n.toNat (start0 n from0)

theorem relax1_len (S : List Bool) (a : Int × Int) : (relax1 S a).length = S.length := List.length_set
theorem relaxAll_len (es : Arcs) (S : List Bool) : (relaxAll es S).length = S.length := by
  unfold relaxAll
  induction es generalizing S with
  | nil => rfl
  | cons a r ih => rw [List.foldl_cons, ih, relax1_len]
theorem iter_len (es : Arcs) (k : Nat) (S : List Bool) : (iterN (relaxAll es) k S).length = S.length := by
  induction k with
  | zero => rfl
  | succ k ih => simp only [iterN]; rw [relaxAll_len, ih]
theorem start_len (n v : Int) : (start0 n v).length = n.toNat := by simp [start0]
theorem reachL_len (n : Int) (es : Arcs) (v : Int) : (reachL n es v).length = n.toNat := by unfold reachL; rw [iter_len, start_len]

theorem relax1_get (S : List Bool) (a : Int × Int) (i : Nat) : (relax1 S a).getD i false = if a.2.toNat = i then (S.getD a.2.toNat false || S.getD a.1.toNat false) && decide (i < S.length) else S.getD i false := by
  unfold relax1
  simp only [List.getD_eq_getElem?_getD, List.getElem?_set]
  split
  · rename_i h; subst h
    by_cases hl : a.2.toNat < S.length <;> simp [hl]
  · rfl
theorem relax1_mono (S : List Bool) (a : Int × Int) (i : Nat) (h : S.getD i false = true) : (relax1 S a).getD i false = true := by
  rw [relax1_get]
  split
  · rename_i hi; subst hi
    have : a.2.toNat < S.length := by
      apply Nat.lt_of_not_le; intro hle
      rw [List.getD_eq_getElem?_getD, List.getElem?_eq_none hle] at h; cases h
    rw [h]; simp [this]
  · exact h
theorem relaxAll_mono (es : Arcs) (S : List Bool) (i : Nat) (h : S.getD i false = true) : (relaxAll es S).getD i false = true := by
  unfold relaxAll
  induction es generalizing S with
  | nil => exact h
  | cons a r ih => rw [List.foldl_cons]; exact ih _ (relax1_mono S a i h)
theorem iter_mono (es : Arcs) (k : Nat) (S : List Bool) (i : Nat) (h : S.getD i false = true) : (iterN (relaxAll es) k S).getD i false = true := by
  induction k with
  | zero => exact h
  | succ k ih => exact relaxAll_mono es _ i ih
/-- Nothing is reached but over ways. -/
theorem relaxAll_sound (n : Int) (es all : Arcs) (hsub : ∀ a ∈ es, a ∈ all) (hr : inR n all) (v : Int) (S : List Bool) (h : ∀ w, 0 ≤ w → vis S w → Path all v w) : ∀ w, 0 ≤ w → vis (relaxAll es S) w → Path all v w := by
  unfold relaxAll
  induction es generalizing S with
  | nil => exact h
  | cons a r ih =>
    rw [List.foldl_cons]
    refine ih (fun b hb => hsub b (by simp [hb])) _ (fun w hw hv => ?_)
    have ha := hsub a (by simp)
    obtain ⟨⟨r1, r2⟩, r3, r4⟩ := hr a ha
    unfold vis at hv
    rw [relax1_get] at hv
    split at hv
    · rename_i hi
      have hwa : w = a.2 := by omega
      subst hwa
      simp only [Bool.and_eq_true, Bool.or_eq_true] at hv
      rcases hv.1 with h1 | h1
      · exact h _ hw h1
      · exact (h a.1 r1 h1).snoc ha
    · exact h w hw hv
theorem iter_sound (n : Int) (es : Arcs) (hr : inR n es) (v : Int) (k : Nat) (S : List Bool) (h : ∀ w, 0 ≤ w → vis S w → Path es v w) : ∀ w, 0 ≤ w → vis (iterN (relaxAll es) k S) w → Path es v w := by
  induction k with
  | zero => exact h
  | succ k ih => exact relaxAll_sound n es es (fun _ h => h) hr v _ ih
/-- The number of those that are reached. -/
theorem count_le {S S' : List Bool} (hl : S'.length = S.length) (h : ∀ i, S.getD i false = true → S'.getD i false = true) : S.count true ≤ S'.count true ∧ (S.count true = S'.count true → S = S') := by
  induction S generalizing S' with
  | nil => simp at hl; subst hl; simp
  | cons a r ih =>
    cases S' with
    | nil => simp at hl
    | cons b q =>
      obtain ⟨h1, h2⟩ := ih (S' := q) (by simpa using hl) fun i hi => by have := h (i + 1) (by simpa using hi); simpa using this
      have h0 := h 0
      simp only [List.count_cons]
      cases a <;> cases b <;> simp at h0 ⊢
      · exact ⟨by omega, fun hc => h2 hc⟩
      · exact ⟨by omega, fun hc => by omega⟩
      · exact ⟨by omega, fun hc => h2 hc⟩
theorem iter_fix (es : Arcs) (S : List Bool) (h0 : 1 ≤ S.count true) (k : Nat) : relaxAll es (iterN (relaxAll es) k S) = iterN (relaxAll es) k S ∨ k + 1 ≤ (iterN (relaxAll es) k S).count true := by
  induction k with
  | zero => exact .inr (by simpa [iterN] using h0)
  | succ k ih =>
    simp only [iterN]
    rcases ih with h | h
    · rw [h]; exact .inl h
    · obtain ⟨h1, h2⟩ := count_le (S := iterN (relaxAll es) k S) (S' := relaxAll es (iterN (relaxAll es) k S)) (relaxAll_len _ _) (fun i hi => relaxAll_mono es _ i hi)
      by_cases hc : (iterN (relaxAll es) k S).count true = (relaxAll es (iterN (relaxAll es) k S)).count true
      · have := h2 hc
        rw [← this]; exact .inl this.symm
      · exact .inr (by omega)
/-- Where a round changes nothing, every arc leads from what is reached to what is. -/
theorem fix_clo (n : Int) (es : Arcs) (hr : inR n es) (S : List Bool) (hl : S.length = n.toNat) (hf : relaxAll es S = S) : ∀ a ∈ es, vis S a.1 → vis S a.2 := by
  have key : ∀ (l : Arcs) (T : List Bool), T.length = n.toNat → (∀ i, S.getD i false = true → T.getD i false = true) → (∀ a ∈ l, a ∈ es) → ∀ a ∈ l, vis S a.1 → vis (l.foldl relax1 T) a.2 := by
    intro l
    induction l with
    | nil => intro T _ _ _ a ha; cases ha
    | cons b r ih =>
      intro T hT hm hs a ha hv
      rw [List.foldl_cons]
      rcases List.mem_cons.1 ha with rfl | ha
      · obtain ⟨⟨r1, r2⟩, r3, r4⟩ := hr a (hs a (by simp))
        have h1 : (relax1 T a).getD a.2.toNat false = true := by
          rw [relax1_get, if_pos rfl, hm _ hv]
          simp; omega
        exact relaxAll_mono r _ _ h1
      · exact ih _ (by rw [relax1_len, hT]) (fun i hi => relax1_mono T b i (hm i hi)) (fun c hc => hs c (by simp [hc])) a ha hv
  intro a ha hv
  have := key es S hl (fun _ h => h) (fun _ h => h) a ha hv
  unfold relaxAll at hf
  rw [hf] at this; exact this
theorem vis_start (n v w : Int) (h0 : 0 ≤ v) (h1 : v < n) (hw : 0 ≤ w) : vis (start0 n v) w ↔ w = v := by
  unfold start0
  rw [vis_set _ _ _ h0 (by simp; omega) hw]
  have : ¬ vis (List.replicate n.toNat false) w := by
    unfold vis
    simp [List.getD_eq_getElem?_getD, List.getElem?_replicate]
    split <;> simp
  simp [this]
theorem reachL_iff {n : Int} {es : Arcs} (hr : inR n es) {v : Int} (h0 : 0 ≤ v) (h1 : v < n) {w : Int} (hw : 0 ≤ w) : vis (reachL n es v) w ↔ Path es v w := by
  constructor
  · refine iter_sound n es hr v _ _ (fun u hu hv => ?_) w hw
    rw [(vis_start n v u h0 h1 hu).1 hv]; exact .refl v
  · have hfix : relaxAll es (reachL n es v) = reachL n es v := by
      have hc : 1 ≤ (start0 n v).count true := by
        apply List.one_le_count_iff.2
        unfold start0
        exact List.mem_set (by simp; omega) _
      rcases iter_fix es (start0 n v) hc n.toNat with h | h
      · exact h
      · exfalso
        have := List.count_le_length (a := true) (l := iterN (relaxAll es) n.toNat (start0 n v))
        rw [iter_len, start_len] at this; omega
    have hclo := fix_clo n es hr (reachL n es v) (reachL_len n es v) hfix
    have hv : vis (reachL n es v) v := iter_mono es _ _ _ ((vis_start n v v h0 h1 h0).2 rfl)
    intro hp
    clear hw
    revert hv
    clear h0 h1
    generalize reachL n es v = S at *
    intro hv
    induction hp with
    | refl u => exact hv
    | step h p ih => exact ih (hclo _ h hv)
theorem bools_ext {S T : List Bool} {n : Int} (h1 : S.length = n.toNat) (h2 : T.length = n.toNat) (h : ∀ w, 0 ≤ w → w < n → (vis S w ↔ vis T w)) : S = T := by
  refine eq_of_get false (by omega) fun i hi => ?_
  have := h i (by omega) (by omega)
  unfold vis at this
  simp only [Int.toNat_natCast] at this
  cases ha : S.getD i false <;> cases hb : T.getD i false <;> rw [ha, hb] at this <;> simp at this ⊢

/-- What visit returns. -/
def visitR (n : Int) (l es : Arcs) (v : Int) : List Bool × Int := if gcheck n l ≠ 0 then ([], gcheck n l) else if v < 0 ∨ n ≤ v then ([], 7) else (reachL n es v, 0)
theorem gcheck_ok {n : Int} {l : Arcs} (h : gcheck n l = 0) : 0 ≤ n ∧ n ≤ 64 ∧ l.length ≤ 512 ∧ inR n l := by
  unfold gcheck at h
  split at h
  · cases h
  · split at h
    · cases h
    · split at h
      · cases h
      · rename_i h1 h2 h3
        refine ⟨by omega, by omega, by omega, fun a ha => ?_⟩
        obtain ⟨i, hi, rfl⟩ := List.mem_iff_getElem.1 ha
        have : ¬ arcBad n (l.getD i (0, 0)) := fun hb => h3 ⟨i, hi, hb⟩
        simp only [arcBad, List.getD_eq_getElem?_getD, List.getElem?_eq_getElem hi, Option.getD_some] at this
        omega
theorem inR_swap {n : Int} {l : Arcs} (h : inR n l) : inR n (l.map Prod.swap) := fun a ha => by
  obtain ⟨b, hb, rfl⟩ := List.mem_map.1 ha
  have := h b hb
  exact ⟨this.2, this.1⟩

theorem visit_vr {w : Bool} {n : Int} {l : Arcs} {f : Nat} {e : Int × Int → Int × Int} (he : IsEnds f e) (hin : inR n l → inR n (l.map e)) (v : Int) :
    VR P false n_graph_visit [graphA w n l, .v (.int .i64 v), .fn f []] [] (isR (.tup [.fs true (bools (visitR n l (l.map e) v).1), .v (.int .i64 (visitR n l (l.map e) v).2)])) := by
  refine vr_graph_visit (by simp) (.inr rfl) fun _ _ => ?_
  unfold graphA
  simp (disch := ((try simp only [List.length_set, List.length_replicate, List.length_append, List.length_cons, List.length_nil]); omega)) only [aW, aX, aV, aB, aN, aL, aP, aH, s_graph_visit, v_graph_visit]
  refine (check_vr (w := w) n l).same (by unfold graphA; simp (disch := first | omega | simp (disch := omega) only [aF, aL, aN]) only [aW, aX, aV, aB, aN, aL, aP, aH, aF, Int.natCast_add, Int.natCast_mul, Int.add_sub_cancel, List.length_nil, Int.cast_ofNat_Int, and_true, true_and]) rfl (aret_of ?_)
  simp (disch := ((try simp only [List.length_set, List.length_replicate, List.length_append, List.length_cons, List.length_nil]); omega)) only [aW, aX, aV, aB, aN, aL, aP, aH]
  refine ib_intro (fun h1 => ?_) (fun h1 => ?_)
  · simp (disch := ((try simp only [List.length_set, List.length_replicate, List.length_append, List.length_cons, List.length_nil]); omega)) only [aW, aX, aV, aB, aN, aL, aP, aH, r_graph_visit]
    refine post_err ⟨?_, rfl⟩
    unfold visitR; rw [if_pos h1]; rfl
  have h1 : gcheck n l = 0 := Classical.not_not.1 h1
  obtain ⟨c1, c2, c3, c4⟩ := gcheck_ok h1
  simp (disch := ((try simp only [List.length_set, List.length_replicate, List.length_append, List.length_cons, List.length_nil]); omega)) only [aW, aX, aV, aB, aN, aL, aP, aH]
  refine ib_intro (fun h2 => ?_) (fun h2 => ?_)
  · simp (disch := ((try simp only [List.length_set, List.length_replicate, List.length_append, List.length_cons, List.length_nil]); omega)) only [aW, aX, aV, aB, aN, aL, aP, aH, r_graph_visit]
    refine post_err ⟨?_, rfl⟩
    unfold visitR; rw [if_neg (by simp [h1]), if_pos h2]; rfl
  simp (disch := ((try simp only [List.length_set, List.length_replicate, List.length_append, List.length_cons, List.length_nil]); omega)) only [aW, aX, aV, aB, aN, aL, aP, aH]
  refine ⟨by kernel_rfl, (visit1_vr (N := n.toNat) he (by omega) (by omega) (hin c4) (by omega) _ (List.replicate n.toNat false) [] v (Nat.le_refl _) (by simp) (by omega) (by omega)).mono ?_⟩
  rintro r H' ⟨S', q, rfl⟩
  refine aret_of ?_
  have ql : S'.length = n.toNat := by rw [q.len]; simp
  simp (disch := ((try simp only [List.length_set, List.length_replicate, List.length_append, List.length_cons, List.length_nil]); omega)) only [aW, aX, aV, aB, aN, aL, aP, aH, vmem, r_graph_visit]
  refine post0 (r := .tup [.fs true (bools S'), .v (.int .i64 0)]) (Fz.tup ⟨fz_slB _ _ _ _ _ _ (by omega) ql.symm rfl, Fz.refl rfl, trivial⟩) ⟨?_, rfl⟩
  have hS : S' = reachL n (l.map e) v := by
    have hno : ∀ u, ¬ vis (List.replicate n.toNat false) u := fun u => by
      unfold vis; simp [List.getD_eq_getElem?_getD, List.getElem?_replicate]; split <;> simp
    refine bools_ext ql (reachL_len _ _ _) fun u u0 u1 => ?_
    rw [reachL_iff (hin c4) (by omega) (by omega) u0]
    constructor
    · intro hu
      rcases q.new u u0 hu with h3 | h3
      · exact absurd h3 (hno u)
      · exact h3
    · intro hp
      have key : ∀ a b, Path (l.map e) a b → 0 ≤ a → vis S' a → vis S' b := by
        intro a b hp
        induction hp with
        | refl a => exact fun _ h => h
        | step h p ih => exact fun ha hva => ih (hin c4 _ h).2.1 (q.clo _ _ ha hva (hno _) h)
      exact key v u hp (by omega) q.self
  unfold visitR; rw [if_neg (by simp [h1]), if_neg (by omega), hS]

def backL (l : Arcs) : Arcs := l.map Prod.swap
theorem reach_vr {w : Bool} (n : Int) (l : Arcs) (v : Int) : VR P false n_graph_Reach [graphA w n l, .v (.int .i64 v)] [] (isR (.tup [.fs true (bools (visitR n l l v).1), .v (.int .i64 (visitR n l l v).2)])) := by
  refine vr_graph_Reach (by simp) (.inr rfl) fun _ _ => ?_
  unfold graphA
  have hv := visit_vr (w := w) (n := n) (l := l) ends1 (fun h => by simpa using h) v
  simp only [List.map_id_fun, id_eq] at hv
  simp (disch := ((try simp only [List.length_set, List.length_replicate, List.length_append, List.length_cons, List.length_nil]); omega)) only [aW, aX, aV, aB, aN, aL, aP, aH, s_graph_Reach, v_graph_Reach]
  refine hv.same (by unfold graphA; simp (disch := first | omega | simp (disch := omega) only [aF, aL, aN]) only [aW, aX, aV, aB, aN, aL, aP, aH, aF, Int.natCast_add, Int.natCast_mul, Int.add_sub_cancel, List.length_nil, Int.cast_ofNat_Int, and_true, true_and]) (by simp (disch := first | omega | simp (disch := omega) only [aF, aL, aN]) only [aW, aX, aV, aB, aN, aL, aP, aH, aF, Int.natCast_add, Int.natCast_mul, Int.add_sub_cancel, List.length_nil, Int.cast_ofNat_Int, and_true, true_and]) (aret_of ?_)
  simp (disch := ((try simp only [List.length_set, List.length_replicate, List.length_append, List.length_cons, List.length_nil]); omega)) only [aW, aX, aV, aB, aN, aL, aP, aH, r_graph_Reach]
  exact post0 (Fz.refl (by simp (disch := first | omega | simp (disch := omega) only [aF, aL, aN]) only [aW, aX, aV, aB, aN, aL, aP, aH, aF, Int.natCast_add, Int.natCast_mul, Int.add_sub_cancel, List.length_nil, Int.cast_ofNat_Int, and_true, true_and])) ⟨rfl, rfl⟩
theorem back_vr {w : Bool} (n : Int) (l : Arcs) (v : Int) : VR P false n_graph_Back [graphA w n l, .v (.int .i64 v)] [] (isR (.tup [.fs true (bools (visitR n l (backL l) v).1), .v (.int .i64 (visitR n l (backL l) v).2)])) := by
  refine vr_graph_Back (by simp) (.inr rfl) fun _ _ => ?_
  unfold graphA
  have hv := visit_vr (w := w) (n := n) (l := l) ends2 (fun h => inR_swap h) v
  simp (disch := ((try simp only [List.length_set, List.length_replicate, List.length_append, List.length_cons, List.length_nil]); omega)) only [aW, aX, aV, aB, aN, aL, aP, aH, s_graph_Back, v_graph_Back]
  refine hv.same (by unfold graphA; simp (disch := first | omega | simp (disch := omega) only [aF, aL, aN]) only [aW, aX, aV, aB, aN, aL, aP, aH, aF, Int.natCast_add, Int.natCast_mul, Int.add_sub_cancel, List.length_nil, Int.cast_ofNat_Int, and_true, true_and]) (by simp (disch := first | omega | simp (disch := omega) only [aF, aL, aN]) only [aW, aX, aV, aB, aN, aL, aP, aH, aF, Int.natCast_add, Int.natCast_mul, Int.add_sub_cancel, List.length_nil, Int.cast_ofNat_Int, and_true, true_and]) (aret_of ?_)
  simp (disch := ((try simp only [List.length_set, List.length_replicate, List.length_append, List.length_cons, List.length_nil]); omega)) only [aW, aX, aV, aB, aN, aL, aP, aH, r_graph_Back]
  exact post0 (Fz.refl (by simp (disch := first | omega | simp (disch := omega) only [aF, aL, aN]) only [aW, aX, aV, aB, aN, aL, aP, aH, aF, Int.natCast_add, Int.natCast_mul, Int.add_sub_cancel, List.length_nil, Int.cast_ofNat_Int, and_true, true_and])) ⟨rfl, rfl⟩
end Go.Proofs.Ytjhdedifmhkhbaa
