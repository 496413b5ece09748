/- graph.visit: the walk through a graph in depth. No statement is claimed here. -/
import Derived.Test.YtjhdedifmhkhbaaGb
namespace Go.Proofs.Ytjhdedifmhkhbaa
open Go Go.Lft
set_option linter.unusedSimpArgs false
set_option linter.unusedVariables false
attribute [local congr] ob_congr bw_congr ib_congr ck_congr iwA_congr itA_congr aw_congr awp_congr sqA_congr bkA_congr vr_congr gd_congr

def vis (S : List Bool) (w : Int) : Prop := S.getD w.toNat false = true
instance (S : List Bool) (w : Int) : Decidable (vis S w) := inferInstanceAs (Decidable (S.getD w.toNat false = true))
theorem vis_set (S : List Bool) (v w : Int) (hv0 : 0 ≤ v) (hv : v.toNat < S.length) (hw : 0 ≤ w) : vis (S.set v.toNat true) w ↔ w = v ∨ vis S w := by
  unfold vis
  simp only [List.getD_eq_getElem?_getD, List.getElem?_set]
  by_cases h : v.toNat = w.toNat
  · rw [if_pos h]
    have : w = v := by omega
    subst this
    simp [hv]
  · rw [if_neg h]
    have : w ≠ v := fun hh => h (by rw [hh])
    simp [this]
/-- There is a way from u to w over es. -/
inductive Path (es : Arcs) : Int → Int → Prop
  | refl (u : Int) : Path es u u
  | step {u v w : Int} (h : (u, v) ∈ es) (p : Path es v w) : Path es u w
theorem Path.trans {es : Arcs} {u v w : Int} (p : Path es u v) (q : Path es v w) : Path es u w := by
  induction p with
  | refl u => exact q
  | step h _ ih => exact .step h (ih q)
theorem Path.snoc {es : Arcs} {u v w : Int} (p : Path es u v) (h : (v, w) ∈ es) : Path es u w := p.trans (.step h (.refl w))

/-- What a call turns S into. -/
structure Seen (es : Arcs) (S S' : List Bool) (v : Int) : Prop where
  len : S'.length = S.length
  mono : ∀ w, vis S w → vis S' w
  new : ∀ w, 0 ≤ w → vis S' w → vis S w ∨ Path es v w
  clo : ∀ w x, 0 ≤ w → vis S' w → ¬ vis S w → (w, x) ∈ es → vis S' x
  self : vis S' v
def inR (n : Int) (es : Arcs) : Prop := ∀ a ∈ es, (0 ≤ a.1 ∧ a.1 < n) ∧ 0 ≤ a.2 ∧ a.2 < n

theorem count_set (S : List Bool) (i : Nat) (h : i < S.length) (hf : S.getD i false = false) : (S.set i true).count false + 1 = S.count false := by
  induction S generalizing i with
  | nil => simp at h
  | cons a r ih =>
    cases i with
    | zero => simp at hf; subst hf; simp
    | succ i =>
      simp only [List.set_cons_succ, List.count_cons]
      have := ih i (by simpa using h) (by simpa using hf)
      omega
theorem count_mono {S S' : List Bool} (hl : S'.length = S.length) (h : ∀ i, S.getD i false = true → S'.getD i false = true) : S'.count false ≤ S.count false := by
  induction S generalizing S' with
  | nil => simp at hl; subst hl; simp
  | cons a r ih =>
    cases S' with
    | nil => simp at hl
    | cons b q =>
      have h1 := ih (S' := q) (by simpa using hl) fun i hi => by have := h (i + 1) (by simpa using hi); simpa using this
      have h0 := h 0
      simp only [List.count_cons]
      cases a <;> cases b <;> simp at h0 ⊢ <;> omega

/-- The function gives the two ends of an arc. -/
def IsEnds (f : Nat) (e : Int × Int → Int × Int) : Prop := bodied P f = true ∧ ∀ a : Int × Int, VR P false f [.agg [.v (.int .i64 a.1), .v (.int .i64 a.2)]] [] (isR (.tup [.v (.int .i64 (e a).1), .v (.int .i64 (e a).2)]))
theorem ends1 : IsEnds n_graph_Reach_1 id := ⟨by kernel_rfl, fun a => by
  refine vr_graph_Reach_1 (by simp) (.inr rfl) fun _ _ => ?_
  simp (disch := ((try simp only [List.length_set, List.length_replicate, List.length_append, List.length_cons, List.length_nil]); omega)) only [aW, aX, aV, aB, aN, aL, aP, aH, s_graph_Reach_1, v_graph_Reach_1, r_graph_Reach_1]
  exact post0 (Fz.refl rfl) ⟨rfl, rfl⟩⟩
theorem ends2 : IsEnds n_graph_Back_1 Prod.swap := ⟨by kernel_rfl, fun a => by
  refine vr_graph_Back_1 (by simp) (.inr rfl) fun _ _ => ?_
  simp (disch := ((try simp only [List.length_set, List.length_replicate, List.length_append, List.length_cons, List.length_nil]); omega)) only [aW, aX, aV, aB, aN, aL, aP, aH, s_graph_Back_1, v_graph_Back_1, r_graph_Back_1]
  exact post0 (Fz.refl rfl) ⟨rfl, rfl⟩⟩

/-- The memory of visit. -/
abbrev vmem (w : Bool) (n : Int) (l : Arcs) (f N : Nat) (S : List Bool) (T : List Blk) : List Blk :=
  ⟨0, [.v (.int .i64 n), .fs w (pairs l)]⟩ :: ⟨0, [.fn f []]⟩ :: ⟨0, bools S⟩ :: ⟨0, [.sl 2 0 1 0 N]⟩ :: ⟨0, [.fn n_graph_visit_1 [.lp 3 0 0, .lp 0 0 0, .lp 1 0 0, .lp 4 0 0]]⟩ :: T

theorem vm_ok {w : Bool} {n : Int} {l : Arcs} {f N : Nat} {S : List Bool} {T : List Blk} {k : Nat} (hk : 5 ≤ k) (hb : okB k (vmem w n l f N S T)) (S' : List Bool) : okB k (vmem w n l f N S' T) := fun B hB => by
  rcases List.mem_cons.1 hB with rfl | hB
  · simp (disch := first | omega | simp (disch := omega) only [aF, aL, aN]) only [aW, aX, aV, aB, aN, aL, aP, aH, aF, Int.natCast_add, Int.natCast_mul, Int.add_sub_cancel, List.length_nil, Int.cast_ofNat_Int, and_true, true_and]
  rcases List.mem_cons.1 hB with rfl | hB
  · simp (disch := first | omega | simp (disch := omega) only [aF, aL, aN]) only [aW, aX, aV, aB, aN, aL, aP, aH, aF, Int.natCast_add, Int.natCast_mul, Int.add_sub_cancel, List.length_nil, Int.cast_ofNat_Int, and_true, true_and]
  rcases List.mem_cons.1 hB with rfl | hB
  · simp (disch := first | omega | simp (disch := omega) only [aF, aL, aN]) only [aW, aX, aV, aB, aN, aL, aP, aH, aF, Int.natCast_add, Int.natCast_mul, Int.add_sub_cancel, List.length_nil, Int.cast_ofNat_Int, and_true, true_and]
  rcases List.mem_cons.1 hB with rfl | hB
  · simp (disch := first | omega | simp (disch := omega) only [aF, aL, aN]) only [aW, aX, aV, aB, aN, aL, aP, aH, aF, Int.natCast_add, Int.natCast_mul, Int.add_sub_cancel, List.length_nil, Int.cast_ofNat_Int, and_true, true_and]
  rcases List.mem_cons.1 hB with rfl | hB
  · simp (disch := first | omega | simp (disch := omega) only [aF, aL, aN]) only [aW, aX, aV, aB, aN, aL, aP, aH, aF, Int.natCast_add, Int.natCast_mul, Int.add_sub_cancel, List.length_nil, Int.cast_ofNat_Int, and_true, true_and]
  exact hb B (by simp [hB])

theorem visit1_vr {w : Bool} {n : Int} {l : Arcs} {f N : Nat} {e : Int × Int → Int × Int} (he : IsEnds f e) (hl : l.length < 1000000000) (hn : n < 1000000000) (hr : inR n (l.map e)) (hN : (N : Int) = n) :
    ∀ (m : Nat) (S : List Bool) (T : List Blk) (v : Int), S.count false ≤ m → S.length = N → 0 ≤ v → v < n →
    VR P false n_graph_visit_1 [.v (.int .i64 v), .lp 3 0 0, .lp 0 0 0, .lp 1 0 0, .lp 4 0 0] (vmem w n l f N S T) (fun r H' => ∃ S', Seen (l.map e) S S' v ∧ H' = vmem w n l f N S' T) := by
  intro m
  induction m with
  | zero =>
    intro S T v hm hs h0 h1
    refine vr_graph_visit_1 (by simp) (.inl rfl) fun hb _ => ?_
    have hv : S.getD v.toNat false = true := by
      cases hh : S.getD v.toNat false with
      | true => rfl
      | false =>
        have := count_set S v.toNat (by omega) hh
        omega
    simp (disch := ((try simp only [List.length_set, List.length_replicate, List.length_append, List.length_cons, List.length_nil]); omega)) only [aW, aX, aV, aB, aN, aL, aP, aH, s_graph_visit_1, v_graph_visit_1, r_graph_visit_1, vmem, hv]
    exact post2 (R := fun r H' => _) ⟨S, ⟨rfl, fun _ h => h, fun _ _ h => .inl h, fun w x _ h1 h2 => absurd h1 h2, hv⟩, rfl⟩
  | succ m ih =>
    intro S T v hm hs h0 h1
    refine vr_graph_visit_1 (by simp) (.inl rfl) fun hb _ => ?_
    cases hv : S.getD v.toNat false with
    | true =>
      simp (disch := ((try simp only [List.length_set, List.length_replicate, List.length_append, List.length_cons, List.length_nil]); omega)) only [aW, aX, aV, aB, aN, aL, aP, aH, s_graph_visit_1, v_graph_visit_1, r_graph_visit_1, vmem, hv]
      exact post2 (R := fun r H' => _) ⟨S, ⟨rfl, fun _ h => h, fun _ _ h => .inl h, fun w x _ h1 h2 => absurd h1 h2, hv⟩, rfl⟩
    | false =>
      have hS1 : (S.set v.toNat true).length = S.length := List.length_set
      simp (disch := ((try simp only [List.length_set, List.length_replicate, List.length_append, List.length_cons, List.length_nil]); omega)) only [aW, aX, aV, aB, aN, aL, aP, aH, s_graph_visit_1, v_graph_visit_1, vmem, hv]
      have okm := vm_ok (k := T.length + 1 + 1 + 1 + 1 + 1) (by omega) hb
      have hvl : v.toNat < S.length := by omega
      have vset := fun w (hw : 0 ≤ w) => vis_set S v w h0 hvl hw
      refine AWP.loopP (α := Nat × List Bool) g_graph_visit_1_0 (fun p => p.1 ≤ l.length ∧ p.2.length = S.length ∧ (∀ w, vis (S.set v.toNat true) w → vis p.2 w) ∧ (∀ w, 0 ≤ w → vis p.2 w → vis (S.set v.toNat true) w ∨ Path (l.map e) v w) ∧
          (∀ w x, 0 ≤ w → vis p.2 w → ¬ vis (S.set v.toNat true) w → (w, x) ∈ l.map e → vis p.2 x) ∧ ∀ i, i < p.1 → (e (l.getD i (0, 0))).1 = v → vis p.2 (e (l.getD i (0, 0))).2)
        (fun p => [(5, .v (.int .i64 p.1))]) (fun p => [(2, ⟨0, bools p.2⟩)]) (fun p => l.length - p.1) (0, S.set v.toNat true)
        ⟨by simp only; omega, hS1, fun _ h => h, fun _ _ h => .inl h, fun w x _ h1 h2 => absurd h1 h2, fun i hi => by simp only at hi; omega⟩ ?_ ?_
      · simp (disch := ((try simp only [List.length_set, List.length_replicate, List.length_append, List.length_cons, List.length_nil]); omega)) only [aW, aX, aV, aB, aN, aL, aP, aH]
        exact Cut.same (H := vmem w n l f N (S.set v.toNat true) T) (by simp) (by have := okm (S.set v.toNat true); simpa using this) (by simp (disch := first | omega | simp (disch := omega) only [aF, aL, aN]) only [aW, aX, aV, aB, aN, aL, aP, aH, aF, Int.natCast_add, Int.natCast_mul, Int.add_sub_cancel, List.length_nil, Int.cast_ofNat_Int, and_true, true_and])
      rintro ⟨k, Sk⟩ ⟨k1, k2, k3, k4, k5, k6⟩
      simp only at k1 k2 k3 k4 k5 k6
      by_cases hlt : k < l.length
      · have hmem : e (l.getD k (0, 0)) ∈ l.map e := by
          refine List.mem_map.2 ⟨l.getD k (0, 0), ?_, rfl⟩
          simp [List.getD_eq_getElem?_getD, hlt]
        obtain ⟨⟨r1, r2⟩, r3, r4⟩ := hr _ hmem
        have step : ∀ S', (∀ w, vis (S.set v.toNat true) w → vis S' w) → (∀ w, 0 ≤ w → vis S' w → vis (S.set v.toNat true) w ∨ Path (l.map e) v w) → (∀ w x, 0 ≤ w → vis S' w → ¬ vis (S.set v.toNat true) w → (w, x) ∈ l.map e → vis S' x) → S'.length = S.length →
            (∀ w, vis Sk w → vis S' w) → ((e (l.getD k (0, 0))).1 = v → vis S' (e (l.getD k (0, 0))).2) →
            (fun p : Nat × List Bool => p.1 ≤ l.length ∧ p.2.length = S.length ∧ (∀ w, vis (S.set v.toNat true) w → vis p.2 w) ∧ (∀ w, 0 ≤ w → vis p.2 w → vis (S.set v.toNat true) w ∨ Path (l.map e) v w) ∧
              (∀ w x, 0 ≤ w → vis p.2 w → ¬ vis (S.set v.toNat true) w → (w, x) ∈ l.map e → vis p.2 x) ∧ ∀ i, i < p.1 → (e (l.getD i (0, 0))).1 = v → vis p.2 (e (l.getD i (0, 0))).2) (k + 1, S') := by
          intro S' g1 g2 g3 g4 g5 g6
          refine ⟨by simp only; omega, g4, g1, g2, g3, fun i hi hiv => ?_⟩
          simp only at hi
          by_cases hik : i = k
          · subst hik; exact g6 hiv
          · exact g5 _ (k6 i (by omega) hiv)
        simp (disch := ((try simp only [List.length_set, List.length_replicate, List.length_append, List.length_cons, List.length_nil]); omega)) only [aW, aX, aV, aB, aN, aL, aP, aH]
        refine ⟨he.1, (he.2 (l.getD k (0, 0))).same (by simp (disch := first | omega | simp (disch := omega) only [aF, aL, aN]) only [aW, aX, aV, aB, aN, aL, aP, aH, aF, Int.natCast_add, Int.natCast_mul, Int.add_sub_cancel, List.length_nil, Int.cast_ofNat_Int, and_true, true_and]) rfl (aret_of ?_)⟩
        simp (disch := ((try simp only [List.length_set, List.length_replicate, List.length_append, List.length_cons, List.length_nil]); omega)) only [aW, aX, aV, aB, aN, aL, aP, aH]
        refine ib_intro (fun h3 => ?_) (fun h3 => ?_)
        · simp (disch := ((try simp only [List.length_set, List.length_replicate, List.length_append, List.length_cons, List.length_nil]); omega)) only [aW, aX, aV, aB, aN, aL, aP, aH]
          have hcnt : Sk.count false ≤ m := by
            have h4 := count_set S v.toNat hvl hv
            have h5 := count_mono (S := S.set v.toNat true) (S' := Sk) (by rw [k2, hS1]) (fun i hi => k3 i hi)
            omega
          refine ⟨by kernel_rfl, (ih Sk (T ++ [⟨0, [.v (.int .i64 (l.getD k (0, 0)).1), .v (.int .i64 (l.getD k (0, 0)).2)]⟩]) (e (l.getD k (0, 0))).2 hcnt (by omega) r3 r4).mono ?_⟩
          rintro r H' ⟨S', q, rfl⟩
          refine aret_of ?_
          have ql : S'.length = S.length := q.len.trans k2
          simp (disch := ((try simp only [List.length_set, List.length_replicate, List.length_append, List.length_cons, List.length_nil]); omega)) only [aW, aX, aV, aB, aN, aL, aP, aH, vmem]
          refine ⟨(k + 1, S'), step S' (fun w hw => q.mono w (k3 w hw)) (fun w hw0 hw => ?_) (fun w x hw0 hw hnw hwx => ?_) ql q.mono (fun _ => q.self), by simp only; omega, ?_⟩
          · rcases q.new w hw0 hw with h6 | h6
            · exact k4 w hw0 h6
            · exact .inr (.step (by rw [← h3]; exact hmem) h6)
          · by_cases h6 : vis Sk w
            · exact q.mono x (k5 w x hw0 h6 hnw hwx)
            · exact q.clo w x hw0 hw h6 hwx
          · simp (disch := ((try simp only [List.length_set, List.length_replicate, List.length_append, List.length_cons, List.length_nil]); omega)) only [aW, aX, aV, aB, aN, aL, aP, aH]
            exact Cut.app (H := vmem w n l f N S' T) (by simp) (by have := okm S'; simpa using this) (by simp (disch := first | omega | simp (disch := omega) only [aF, aL, aN]) only [aW, aX, aV, aB, aN, aL, aP, aH, aF, Int.natCast_add, Int.natCast_mul, Int.add_sub_cancel, List.length_nil, Int.cast_ofNat_Int, and_true, true_and])
        · simp (disch := ((try simp only [List.length_set, List.length_replicate, List.length_append, List.length_cons, List.length_nil]); omega)) only [aW, aX, aV, aB, aN, aL, aP, aH]
          refine ⟨(k + 1, Sk), step Sk k3 k4 k5 k2 (fun _ h => h) (fun hh => absurd hh h3), by simp only; omega, ?_⟩
          simp (disch := ((try simp only [List.length_set, List.length_replicate, List.length_append, List.length_cons, List.length_nil]); omega)) only [aW, aX, aV, aB, aN, aL, aP, aH]
          exact Cut.app (H := vmem w n l f N Sk T) (by simp) (by have := okm Sk; simpa using this) (by simp (disch := first | omega | simp (disch := omega) only [aF, aL, aN]) only [aW, aX, aV, aB, aN, aL, aP, aH, aF, Int.natCast_add, Int.natCast_mul, Int.add_sub_cancel, List.length_nil, Int.cast_ofNat_Int, and_true, true_and])
      · simp (disch := ((try simp only [List.length_set, List.length_replicate, List.length_append, List.length_cons, List.length_nil]); omega)) only [aW, aX, aV, aB, aN, aL, aP, aH, r_graph_visit_1]
        refine post2 (R := fun r H' => _) ⟨Sk, ⟨k2, fun w hw => k3 w (by
            unfold vis at hw ⊢
            simp only [List.getD_eq_getElem?_getD, List.getElem?_set] at hw ⊢
            split
            · simp [hvl]
            · exact hw), fun w hw0 hw => ?_, fun w x hw0 hw hnw hwx => ?_, k3 v ((vset v h0).2 (.inl rfl))⟩, rfl⟩
        · rcases k4 w hw0 hw with h6 | h6
          · rcases (vset w hw0).1 h6 with rfl | h7
            · exact .inr (.refl _)
            · exact .inl h7
          · exact .inr h6
        · by_cases h6 : w = v
          · subst h6
            obtain ⟨a, ha, hax⟩ := List.mem_map.1 hwx
            obtain ⟨i, hi, rfl⟩ := List.mem_iff_getElem.1 ha
            have hg : l.getD i (0, 0) = l[i] := by simp [List.getD_eq_getElem?_getD, hi]
            have := k6 i (by omega) (by rw [hg, hax])
            rw [hg, hax] at this; exact this
          · exact k5 w x hw0 hw (fun h7 => ((vset w hw0).1 h7).elim h6 hnw) hwx
end Go.Proofs.Ytjhdedifmhkhbaa
