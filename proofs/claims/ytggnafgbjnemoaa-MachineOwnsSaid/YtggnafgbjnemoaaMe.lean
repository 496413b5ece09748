/- Comparing lists; the law's size limit and its examples. No statement is claimed here. -/
import Derived.Test.YtggnafgbjnemoaaMd
namespace Go.Proofs.Ytggnafgbjnemoaa
open Go Go.Lft
set_option linter.unusedSimpArgs false
set_option linter.unusedVariables false
attribute [local congr] ob_congr bw_congr ib_congr ck_congr iwA_congr itA_congr aw_congr awp_congr sqA_congr bkA_congr vr_congr gd_congr

theorem eq_of_get3 {α : Type} {a b : List α} (d : α) (hl : a.length = b.length) (h : ∀ i, i < a.length → a.getD i d = b.getD i d) : a = b := by
  apply List.ext_getElem hl
  intro i h1 h2
  have := h i h1
  simpa [List.getD_eq_getElem?_getD, h1, h2] using this
theorem same30_vr {w v : Bool} (a b : List Int) (ha : a.length < 1000000000) : VR P false n_ref30_Same [.fs w (ints a), .fs v (ints b)] [] (isR (.v (.bool (decide (a = b))))) := by
  refine vr_ref30_Same (by simp) (.inr rfl) fun _ _ => ?_
  simp (disch := ((try simp only [List.length_set, List.length_replicate, List.length_append, List.length_cons, List.length_nil]); omega)) only [aW, aX, aV, aB, aN, aL, aP, aH, aM, s_ref30_Same, v_ref30_Same]
  refine ib_intro (fun h1 => ?_) (fun h1 => ?_)
  · simp (disch := ((try simp only [List.length_set, List.length_replicate, List.length_append, List.length_cons, List.length_nil]); omega)) only [aW, aX, aV, aB, aN, aL, aP, aH, aM, r_ref30_Same]
    exact post_v ⟨vfalse (fun h => h1 (by rw [h])), rfl⟩
  have hl : a.length = b.length := by omega
  simp (disch := ((try simp only [List.length_set, List.length_replicate, List.length_append, List.length_cons, List.length_nil]); omega)) only [aW, aX, aV, aB, aN, aL, aP, aH, aM]
  refine AWP.loopP g_ref30_Same_0 (fun k : Nat => k ≤ a.length ∧ ∀ i, i < k → a.getD i 0 = b.getD i 0) (fun k => [(2, .v (.bool false)), (3, .v (.int .i64 k))]) (fun _ => []) (fun k => a.length - k) 0 ⟨by omega, fun i hi => by omega⟩ (by refine Cut.of' (0) ?_ (by omega) ?_ ?_ <;> simp (disch := first | omega | simp (disch := omega) only [aF, aL, aN, aM]) only [aW, aX, aV, aB, aN, aL, aP, aH, aM, aF, Int.natCast_add, Int.natCast_mul, Int.add_sub_cancel, List.length_nil, Int.cast_ofNat_Int, and_true, true_and]) ?_
  rintro k ⟨hk, hg⟩
  by_cases hlt : k < a.length
  · simp (disch := ((try simp only [List.length_set, List.length_replicate, List.length_append, List.length_cons, List.length_nil]); omega)) only [aW, aX, aV, aB, aN, aL, aP, aH, aM]
    refine ib_split (fun h3 => ?_) (fun h3 => ?_)
    · simp (disch := ((try simp only [List.length_set, List.length_replicate, List.length_append, List.length_cons, List.length_nil]); omega)) only [aW, aX, aV, aB, aN, aL, aP, aH, aM, r_ref30_Same]
      refine post_v ⟨vfalse (fun h => ?_), rfl⟩
      subst h; simp at h3
    · simp (disch := ((try simp only [List.length_set, List.length_replicate, List.length_append, List.length_cons, List.length_nil]); omega)) only [aW, aX, aV, aB, aN, aL, aP, aH, aM]
      refine ⟨k + 1, ⟨by omega, fun i hi => ?_⟩, by omega, (by refine Cut.of' (0) ?_ (by omega) ?_ ?_ <;> simp (disch := first | omega | simp (disch := omega) only [aF, aL, aN, aM]) only [aW, aX, aV, aB, aN, aL, aP, aH, aM, aF, Int.natCast_add, Int.natCast_mul, Int.add_sub_cancel, List.length_nil, Int.cast_ofNat_Int, and_true, true_and])⟩
      rcases Nat.lt_succ_iff_lt_or_eq.1 hi with h | rfl
      · exact hg i h
      · simpa using h3
  · simp (disch := ((try simp only [List.length_set, List.length_replicate, List.length_append, List.length_cons, List.length_nil]); omega)) only [aW, aX, aV, aB, aN, aL, aP, aH, aM, r_ref30_Same]
    exact post_v ⟨vtrue (eq_of_get3 0 hl (fun i hi => hg i (by omega))), rfl⟩
theorem sameList_vr {w v w' v' : Bool} (a b : List (List Int)) (ha : a.length < 1000000000) (hs : ∀ r ∈ a, r.length < 1000000000) : VR P false n_ref30_SameList [.fs w (rows w' a), .fs v (rows v' b)] [] (isR (.v (.bool (decide (a = b))))) := by
  refine vr_ref30_SameList (by simp) (.inr rfl) fun _ _ => ?_
  simp (disch := ((try simp only [List.length_set, List.length_replicate, List.length_append, List.length_cons, List.length_nil]); omega)) only [aW, aX, aV, aB, aN, aL, aP, aH, aM, s_ref30_SameList, v_ref30_SameList]
  refine ib_intro (fun h1 => ?_) (fun h1 => ?_)
  · simp (disch := ((try simp only [List.length_set, List.length_replicate, List.length_append, List.length_cons, List.length_nil]); omega)) only [aW, aX, aV, aB, aN, aL, aP, aH, aM, r_ref30_SameList]
    exact post_v ⟨vfalse (fun h => h1 (by rw [h])), rfl⟩
  have hl : a.length = b.length := by omega
  simp (disch := ((try simp only [List.length_set, List.length_replicate, List.length_append, List.length_cons, List.length_nil]); omega)) only [aW, aX, aV, aB, aN, aL, aP, aH, aM]
  refine AWP.loopP g_ref30_SameList_0 (fun k : Nat => k ≤ a.length ∧ ∀ i, i < k → a.getD i [] = b.getD i []) (fun k => [(2, .v (.bool false)), (3, .v (.int .i64 k))]) (fun _ => []) (fun k => a.length - k) 0 ⟨by omega, fun i hi => by omega⟩ (by refine Cut.of' (0) ?_ (by omega) ?_ ?_ <;> simp (disch := first | omega | simp (disch := omega) only [aF, aL, aN, aM]) only [aW, aX, aV, aB, aN, aL, aP, aH, aM, aF, Int.natCast_add, Int.natCast_mul, Int.add_sub_cancel, List.length_nil, Int.cast_ofNat_Int, and_true, true_and]) ?_
  rintro k ⟨hk, hg⟩
  by_cases hlt : k < a.length
  · simp (disch := ((try simp only [List.length_set, List.length_replicate, List.length_append, List.length_cons, List.length_nil]); omega)) only [aW, aX, aV, aB, aN, aL, aP, aH, aM]
    refine (same30_vr (a.getD k []) (b.getD k []) (hs _ (by simp [List.getD_eq_getElem?_getD, hlt]))).same (by simp (disch := first | omega | simp (disch := omega) only [aF, aL, aN, aM]) only [aW, aX, aV, aB, aN, aL, aP, aH, aM, aF, Int.natCast_add, Int.natCast_mul, Int.add_sub_cancel, List.length_nil, Int.cast_ofNat_Int, and_true, true_and]) rfl (aret_of ?_)
    simp (disch := ((try simp only [List.length_set, List.length_replicate, List.length_append, List.length_cons, List.length_nil]); omega)) only [aW, aX, aV, aB, aN, aL, aP, aH, aM]
    refine ib_intro (fun h3 => ?_) (fun h3 => ?_)
    · simp (disch := ((try simp only [List.length_set, List.length_replicate, List.length_append, List.length_cons, List.length_nil]); omega)) only [aW, aX, aV, aB, aN, aL, aP, aH, aM, r_ref30_SameList]
      exact post_v ⟨vfalse (fun h => h3 (by rw [h])), rfl⟩
    · simp (disch := ((try simp only [List.length_set, List.length_replicate, List.length_append, List.length_cons, List.length_nil]); omega)) only [aW, aX, aV, aB, aN, aL, aP, aH, aM]
      refine ⟨k + 1, ⟨by omega, fun i hi => ?_⟩, by omega, (by refine Cut.of' (0) ?_ (by omega) ?_ ?_ <;> simp (disch := first | omega | simp (disch := omega) only [aF, aL, aN, aM]) only [aW, aX, aV, aB, aN, aL, aP, aH, aM, aF, Int.natCast_add, Int.natCast_mul, Int.add_sub_cancel, List.length_nil, Int.cast_ofNat_Int, and_true, true_and])⟩
      rcases Nat.lt_succ_iff_lt_or_eq.1 hi with h | rfl
      · exact hg i h
      · exact Classical.not_not.1 h3
  · simp (disch := ((try simp only [List.length_set, List.length_replicate, List.length_append, List.length_cons, List.length_nil]); omega)) only [aW, aX, aV, aB, aN, aL, aP, aH, aM, r_ref30_SameList]
    exact post_v ⟨vtrue (eq_of_get3 [] hl (fun i hi => hg i (by omega))), rfl⟩

def expE (m : Mc) (a b : Int) : Int × Int := if a < 0 ∨ m.length ≤ a ∨ b < 0 ∨ (m.getD a.toNat []).length ≤ b then (0, 7) else ((m.getD a.toNat []).getD b.toNat 0, 0)
theorem machineExpected_vr {w : Bool} (m : Mc) (a b : Int) : VR P false n_machine_Expected [mcA w m, .v (.int .i64 a), .v (.int .i64 b)] [] (isR (.tup [.v (.int .i64 (expE m a b).1), .v (.int .i64 (expE m a b).2)])) := by
  refine vr_machine_Expected (by simp) (.inr rfl) fun _ _ => ?_
  unfold mcA mcC
  by_cases h1 : a < 0
  · have he : expE m a b = (0, 7) := by unfold expE; rw [if_pos (.inl h1)]
    simp (disch := ((try simp only [List.length_set, List.length_replicate, List.length_append, List.length_cons, List.length_nil]); omega)) only [aW, aX, aV, aB, aN, aL, aP, aH, aM, s_machine_Expected, v_machine_Expected, r_machine_Expected, he]
    exact post0 (r := .tup [.v (.int .i64 0), .v (.int .i64 7)]) (Fz.refl rfl) ⟨rfl, rfl⟩
  by_cases h2 : (m.length : Int) ≤ a
  · have he : expE m a b = (0, 7) := by unfold expE; rw [if_pos (.inr (.inl h2))]
    simp (disch := ((try simp only [List.length_set, List.length_replicate, List.length_append, List.length_cons, List.length_nil]); omega)) only [aW, aX, aV, aB, aN, aL, aP, aH, aM, s_machine_Expected, v_machine_Expected, r_machine_Expected, he]
    exact post0 (r := .tup [.v (.int .i64 0), .v (.int .i64 7)]) (Fz.refl rfl) ⟨rfl, rfl⟩
  by_cases h3 : b < 0
  · have he : expE m a b = (0, 7) := by unfold expE; rw [if_pos (.inr (.inr (.inl h3)))]
    simp (disch := ((try simp only [List.length_set, List.length_replicate, List.length_append, List.length_cons, List.length_nil]); omega)) only [aW, aX, aV, aB, aN, aL, aP, aH, aM, s_machine_Expected, v_machine_Expected, r_machine_Expected, he]
    exact post0 (r := .tup [.v (.int .i64 0), .v (.int .i64 7)]) (Fz.refl rfl) ⟨rfl, rfl⟩
  by_cases h4 : ((m.getD a.toNat []).length : Int) ≤ b
  · have he : expE m a b = (0, 7) := by unfold expE; rw [if_pos (.inr (.inr (.inr h4)))]
    simp (disch := ((try simp only [List.length_set, List.length_replicate, List.length_append, List.length_cons, List.length_nil]); omega)) only [aW, aX, aV, aB, aN, aL, aP, aH, aM, s_machine_Expected, v_machine_Expected, r_machine_Expected, he]
    exact post0 (r := .tup [.v (.int .i64 0), .v (.int .i64 7)]) (Fz.refl rfl) ⟨rfl, rfl⟩
  · have he : expE m a b = ((m.getD a.toNat []).getD b.toNat 0, 0) := by unfold expE; rw [if_neg (by omega)]
    simp (disch := ((try simp only [List.length_set, List.length_replicate, List.length_append, List.length_cons, List.length_nil]); omega)) only [aW, aX, aV, aB, aN, aL, aP, aH, aM, s_machine_Expected, v_machine_Expected, r_machine_Expected, he]
    exact post0 (r := .tup [.v (.int .i64 ((m.getD a.toNat []).getD b.toNat 0)), .v (.int .i64 0)]) (Fz.refl rfl) ⟨rfl, rfl⟩

theorem refExpected_vr {w : Bool} (m : Mc) (a b : Int) : VR P false n_ref33_Expected [mcA w m, .v (.int .i64 a), .v (.int .i64 b)] [] (isR (.tup [.v (.int .i64 (expE m a b).1), .v (.int .i64 (expE m a b).2)])) := by
  refine vr_ref33_Expected (by simp) (.inr rfl) fun _ _ => ?_
  unfold mcA mcC
  by_cases h1 : a < 0
  · have he : expE m a b = (0, 7) := by unfold expE; rw [if_pos (.inl h1)]
    simp (disch := ((try simp only [List.length_set, List.length_replicate, List.length_append, List.length_cons, List.length_nil]); omega)) only [aW, aX, aV, aB, aN, aL, aP, aH, aM, s_ref33_Expected, v_ref33_Expected, r_ref33_Expected, he]
    exact post0 (r := .tup [.v (.int .i64 0), .v (.int .i64 7)]) (Fz.refl rfl) ⟨rfl, rfl⟩
  by_cases h2 : (m.length : Int) ≤ a
  · have he : expE m a b = (0, 7) := by unfold expE; rw [if_pos (.inr (.inl h2))]
    simp (disch := ((try simp only [List.length_set, List.length_replicate, List.length_append, List.length_cons, List.length_nil]); omega)) only [aW, aX, aV, aB, aN, aL, aP, aH, aM, s_ref33_Expected, v_ref33_Expected, r_ref33_Expected, he]
    exact post0 (r := .tup [.v (.int .i64 0), .v (.int .i64 7)]) (Fz.refl rfl) ⟨rfl, rfl⟩
  by_cases h3 : b < 0
  · have he : expE m a b = (0, 7) := by unfold expE; rw [if_pos (.inr (.inr (.inl h3)))]
    simp (disch := ((try simp only [List.length_set, List.length_replicate, List.length_append, List.length_cons, List.length_nil]); omega)) only [aW, aX, aV, aB, aN, aL, aP, aH, aM, s_ref33_Expected, v_ref33_Expected, r_ref33_Expected, he]
    exact post0 (r := .tup [.v (.int .i64 0), .v (.int .i64 7)]) (Fz.refl rfl) ⟨rfl, rfl⟩
  by_cases h4 : ((m.getD a.toNat []).length : Int) ≤ b
  · have he : expE m a b = (0, 7) := by unfold expE; rw [if_pos (.inr (.inr (.inr h4)))]
    simp (disch := ((try simp only [List.length_set, List.length_replicate, List.length_append, List.length_cons, List.length_nil]); omega)) only [aW, aX, aV, aB, aN, aL, aP, aH, aM, s_ref33_Expected, v_ref33_Expected, r_ref33_Expected, he]
    exact post0 (r := .tup [.v (.int .i64 0), .v (.int .i64 7)]) (Fz.refl rfl) ⟨rfl, rfl⟩
  · have he : expE m a b = ((m.getD a.toNat []).getD b.toNat 0, 0) := by unfold expE; rw [if_neg (by omega)]
    simp (disch := ((try simp only [List.length_set, List.length_replicate, List.length_append, List.length_cons, List.length_nil]); omega)) only [aW, aX, aV, aB, aN, aL, aP, aH, aM, s_ref33_Expected, v_ref33_Expected, r_ref33_Expected, he]
    exact post0 (r := .tup [.v (.int .i64 ((m.getD a.toNat []).getD b.toNat 0)), .v (.int .i64 0)]) (Fz.refl rfl) ⟨rfl, rfl⟩

theorem light_vr {w : Bool} (m : Mc) : VR P false n_law33_light [mcA w m] [] (fun r G => G = [] ∧ ∃ b : Bool, r = .v (.bool b) ∧ (b = true → m.length ≤ 100 ∧ ∀ i, i < m.length → (m.getD i []).length ≤ 100)) := by
  refine vr_law33_light (by simp) (.inr rfl) fun _ _ => ?_
  unfold mcA mcC
  simp (disch := ((try simp only [List.length_set, List.length_replicate, List.length_append, List.length_cons, List.length_nil]); omega)) only [aW, aX, aV, aB, aN, aL, aP, aH, aM, s_law33_light, v_law33_light]
  refine ib_intro (fun h1 => ?_) (fun h1 => ?_)
  · simp (disch := ((try simp only [List.length_set, List.length_replicate, List.length_append, List.length_cons, List.length_nil]); omega)) only [aW, aX, aV, aB, aN, aL, aP, aH, aM, r_law33_light]
    exact post_v ⟨rfl, _, rfl, by simp⟩
  simp (disch := ((try simp only [List.length_set, List.length_replicate, List.length_append, List.length_cons, List.length_nil]); omega)) only [aW, aX, aV, aB, aN, aL, aP, aH, aM]
  refine AWP.loopP g_law33_light_0 (fun k : Nat => k ≤ m.length ∧ ∀ i, i < k → (m.getD i []).length ≤ 100) (fun k => [(1, .v (.bool false)), (3, .v (.int .i64 k))]) (fun _ => []) (fun k => m.length - k) 0 ⟨by omega, by omega⟩ (by refine Cut.of' (1) ?_ (by omega) ?_ ?_ <;> simp (disch := first | omega | simp (disch := omega) only [aF, aL, aN, aM]) only [aW, aX, aV, aB, aN, aL, aP, aH, aM, aF, Int.natCast_add, Int.natCast_mul, Int.add_sub_cancel, List.length_nil, Int.cast_ofNat_Int, and_true, true_and]) ?_
  rintro k ⟨hk, hk2⟩
  by_cases hlt : k < m.length
  · simp (disch := ((try simp only [List.length_set, List.length_replicate, List.length_append, List.length_cons, List.length_nil]); omega)) only [aW, aX, aV, aB, aN, aL, aP, aH, aM]
    refine ib_intro (fun h2 => ?_) (fun h2 => ?_)
    · simp (disch := ((try simp only [List.length_set, List.length_replicate, List.length_append, List.length_cons, List.length_nil]); omega)) only [aW, aX, aV, aB, aN, aL, aP, aH, aM, r_law33_light]
      exact post_v ⟨rfl, _, rfl, by simp⟩
    · simp (disch := ((try simp only [List.length_set, List.length_replicate, List.length_append, List.length_cons, List.length_nil]); omega)) only [aW, aX, aV, aB, aN, aL, aP, aH, aM]
      refine ⟨k + 1, ⟨by omega, fun i hi => ?_⟩, by omega, (by refine Cut.of' (1) ?_ (by omega) ?_ ?_ <;> simp (disch := first | omega | simp (disch := omega) only [aF, aL, aN, aM]) only [aW, aX, aV, aB, aN, aL, aP, aH, aM, aF, Int.natCast_add, Int.natCast_mul, Int.add_sub_cancel, List.length_nil, Int.cast_ofNat_Int, and_true, true_and])⟩
      by_cases hik : i = k
      · subst hik; omega
      · exact hk2 i (by omega)
  · simp (disch := ((try simp only [List.length_set, List.length_replicate, List.length_append, List.length_cons, List.length_nil]); omega)) only [aW, aX, aV, aB, aN, aL, aP, aH, aM, r_law33_light]
    exact post_v ⟨rfl, _, rfl, fun _ => ⟨by omega, fun i hi => hk2 i (by omega)⟩⟩
theorem light_c {m : Mc} (r : A) (G : List Blk) (h : G = [] ∧ ∃ b : Bool, r = .v (.bool b) ∧ (b = true → m.length ≤ 100 ∧ ∀ i, i < m.length → (m.getD i []).length ≤ 100)) : G = [] ∧ (r.cl && r.bd 0) = true := by
  obtain ⟨h1, b, rfl, _⟩ := h; exact ⟨h1, rfl⟩

theorem awake33_vr : VR P false n_law33_awake [] [] (isR (.v (.bool true))) := by
  refine vr_law33_awake (by simp) (.inr rfl) fun _ _ => ?_
  obtain ⟨p, hp⟩ : ∃ p : Mc, p = [[300, 700], [1000, 0]] := ⟨_, rfl⟩
  obtain ⟨q, hq⟩ : ∃ q : Mc, q = [[], []] := ⟨_, rfl⟩
  have a1 : splitA p [1, 4] = .tup [.fs true (rows true [[1, 4], [0, 0]]), .v (.int .i64 0)] := by
    have z : msE p [1, 4] = 0 ∧ msM p [1, 4] = [[1, 4], [0, 0]] := by rw [hp]; decide +kernel
    unfold splitA; rw [z.1, z.2]; rfl
  have a2 : splitA p [10, 0] = .tup [.fs true (rows true [[3, 0], [7, 0]]), .v (.int .i64 0)] := by
    have z : msE p [10, 0] = 0 ∧ msM p [10, 0] = [[3, 0], [7, 0]] := by rw [hp]; decide +kernel
    unfold splitA; rw [z.1, z.2]; rfl
  have a3 : splitA q [1, 4] = .tup [.v (.slice none 0 0), .v (.int .i64 13)] := by
    have z : msE q [1, 4] = 13 := by rw [hq]; decide +kernel
    unfold splitA; rw [z]; rfl
  have a4 : expE p 0 1 = (700, 0) := by rw [hp]; decide +kernel
  have a5 : mcheck p 2 = 0 := by rw [hp]; decide +kernel
  have a6 : mcheck p 3 = 18 := by rw [hp]; decide +kernel
  have a7 : mcheck q 2 = 0 := by rw [hq]; decide +kernel
  have a8 : outsN p = 2 := by rw [hp]; decide +kernel
  have a9 : mainN p 0 = 0 := by rw [hp]; decide +kernel
  have a10 : mainN q 0 = -1 := by rw [hq]; decide +kernel
  have b1 := machineSplit_vr (w := false) (v := false) p [1, 4]
  have b2 := machineSplit_vr (w := false) (v := false) p [10, 0]
  have b3 := machineSplit_vr (w := false) (v := false) q [1, 4]
  have b4 := machineExpected_vr (w := false) p 0 1
  have b5 := machineCheck_vr (w := false) p 2
  have b6 := machineCheck_vr (w := false) p 3
  have b7 := machineCheck_vr (w := false) q 2
  have b8 := machineOuts_vr (w := false) p
  have b9 := machineMain_vr (w := false) p 0 (by rw [hp]; decide)
  have b10 := machineMain_vr (w := false) q 0 (by rw [hq]; decide)
  rw [a1] at b1
  rw [a2] at b2
  rw [a3] at b3
  rw [a4] at b4
  rw [a5] at b5
  rw [a6] at b6
  rw [a7] at b7
  rw [a8] at b8
  rw [a9] at b9
  rw [a10] at b10
  subst hp; subst hq
  have d1 := sameList_vr (w := true) (v := false) (w' := true) (v' := false) [[1, 4], [0, 0]] [[1, 4], [0, 0]] (by decide) (by decide)
  have d2 := sameList_vr (w := true) (v := false) (w' := true) (v' := false) [[3, 0], [7, 0]] [[3, 0], [7, 0]] (by decide) (by decide)
  rw [decide_eq_true rfl] at d1 d2
  unfold mcA mcC at *
  simp (disch := ((try simp only [List.length_set, List.length_replicate, List.length_append, List.length_cons, List.length_nil]); omega)) only [aW, aX, aV, aB, aN, aL, aP, aH, aM, s_law33_awake, v_law33_awake]
  refine b1.use (ld_all (by simp [frzL_nil, frzL_cons, fzp_any, fzp_nil, fzp_v, fzp_agg, fzp_tup, fzp_fn, fzp_fs, fzp_fp, fzp_sl, fzp_vs, fzp_lp, ldp_any, ldp_nil, ldp_v, ldp_agg, ldp_fn, ldp_fs, ldp_fp, ldp_sl, ldp_vs, ldp_lp, blkAt, flatA, A.cells, A.one, Lft.one, retA, A.bdL, A.bd, rows, ints])) rfl (aret_of ?_)
  simp (disch := ((try simp only [List.length_set, List.length_replicate, List.length_append, List.length_cons, List.length_nil]); omega)) only [aW, aX, aV, aB, aN, aL, aP, aH, aM]
  refine b2.use (ld_all (by simp [frzL_nil, frzL_cons, fzp_any, fzp_nil, fzp_v, fzp_agg, fzp_tup, fzp_fn, fzp_fs, fzp_fp, fzp_sl, fzp_vs, fzp_lp, ldp_any, ldp_nil, ldp_v, ldp_agg, ldp_fn, ldp_fs, ldp_fp, ldp_sl, ldp_vs, ldp_lp, blkAt, flatA, A.cells, A.one, Lft.one, retA, A.bdL, A.bd, rows, ints])) rfl (aret_of ?_)
  simp (disch := ((try simp only [List.length_set, List.length_replicate, List.length_append, List.length_cons, List.length_nil]); omega)) only [aW, aX, aV, aB, aN, aL, aP, aH, aM]
  refine b3.use (ld_all (by simp [frzL_nil, frzL_cons, fzp_any, fzp_nil, fzp_v, fzp_agg, fzp_tup, fzp_fn, fzp_fs, fzp_fp, fzp_sl, fzp_vs, fzp_lp, ldp_any, ldp_nil, ldp_v, ldp_agg, ldp_fn, ldp_fs, ldp_fp, ldp_sl, ldp_vs, ldp_lp, blkAt, flatA, A.cells, A.one, Lft.one, retA, A.bdL, A.bd, rows, ints])) rfl (aret_of ?_)
  simp (disch := ((try simp only [List.length_set, List.length_replicate, List.length_append, List.length_cons, List.length_nil]); omega)) only [aW, aX, aV, aB, aN, aL, aP, aH, aM]
  refine b4.use (ld_all (by simp [frzL_nil, frzL_cons, fzp_any, fzp_nil, fzp_v, fzp_agg, fzp_tup, fzp_fn, fzp_fs, fzp_fp, fzp_sl, fzp_vs, fzp_lp, ldp_any, ldp_nil, ldp_v, ldp_agg, ldp_fn, ldp_fs, ldp_fp, ldp_sl, ldp_vs, ldp_lp, blkAt, flatA, A.cells, A.one, Lft.one, retA, A.bdL, A.bd, rows, ints])) rfl (aret_of ?_)
  simp (disch := ((try simp only [List.length_set, List.length_replicate, List.length_append, List.length_cons, List.length_nil]); omega)) only [aW, aX, aV, aB, aN, aL, aP, aH, aM]
  refine b5.use (ld_all (by simp [frzL_nil, frzL_cons, fzp_any, fzp_nil, fzp_v, fzp_agg, fzp_tup, fzp_fn, fzp_fs, fzp_fp, fzp_sl, fzp_vs, fzp_lp, ldp_any, ldp_nil, ldp_v, ldp_agg, ldp_fn, ldp_fs, ldp_fp, ldp_sl, ldp_vs, ldp_lp, blkAt, flatA, A.cells, A.one, Lft.one, retA, A.bdL, A.bd, rows, ints])) rfl (aret_of ?_)
  simp (disch := ((try simp only [List.length_set, List.length_replicate, List.length_append, List.length_cons, List.length_nil]); omega)) only [aW, aX, aV, aB, aN, aL, aP, aH, aM]
  refine b6.use (ld_all (by simp [frzL_nil, frzL_cons, fzp_any, fzp_nil, fzp_v, fzp_agg, fzp_tup, fzp_fn, fzp_fs, fzp_fp, fzp_sl, fzp_vs, fzp_lp, ldp_any, ldp_nil, ldp_v, ldp_agg, ldp_fn, ldp_fs, ldp_fp, ldp_sl, ldp_vs, ldp_lp, blkAt, flatA, A.cells, A.one, Lft.one, retA, A.bdL, A.bd, rows, ints])) rfl (aret_of ?_)
  simp (disch := ((try simp only [List.length_set, List.length_replicate, List.length_append, List.length_cons, List.length_nil]); omega)) only [aW, aX, aV, aB, aN, aL, aP, aH, aM]
  refine b7.use (ld_all (by simp [frzL_nil, frzL_cons, fzp_any, fzp_nil, fzp_v, fzp_agg, fzp_tup, fzp_fn, fzp_fs, fzp_fp, fzp_sl, fzp_vs, fzp_lp, ldp_any, ldp_nil, ldp_v, ldp_agg, ldp_fn, ldp_fs, ldp_fp, ldp_sl, ldp_vs, ldp_lp, blkAt, flatA, A.cells, A.one, Lft.one, retA, A.bdL, A.bd, rows, ints])) rfl (aret_of ?_)
  simp (disch := ((try simp only [List.length_set, List.length_replicate, List.length_append, List.length_cons, List.length_nil]); omega)) only [aW, aX, aV, aB, aN, aL, aP, aH, aM]
  refine d1.use (ld_all (by simp [frzL_nil, frzL_cons, fzp_any, fzp_nil, fzp_v, fzp_agg, fzp_tup, fzp_fn, fzp_fs, fzp_fp, fzp_sl, fzp_vs, fzp_lp, ldp_any, ldp_nil, ldp_v, ldp_agg, ldp_fn, ldp_fs, ldp_fp, ldp_sl, ldp_vs, ldp_lp, blkAt, flatA, A.cells, A.one, Lft.one, retA, A.bdL, A.bd, rows, ints])) rfl (aret_of ?_)
  simp (disch := ((try simp only [List.length_set, List.length_replicate, List.length_append, List.length_cons, List.length_nil]); omega)) only [aW, aX, aV, aB, aN, aL, aP, aH, aM]
  refine d2.use (ld_all (by simp [frzL_nil, frzL_cons, fzp_any, fzp_nil, fzp_v, fzp_agg, fzp_tup, fzp_fn, fzp_fs, fzp_fp, fzp_sl, fzp_vs, fzp_lp, ldp_any, ldp_nil, ldp_v, ldp_agg, ldp_fn, ldp_fs, ldp_fp, ldp_sl, ldp_vs, ldp_lp, blkAt, flatA, A.cells, A.one, Lft.one, retA, A.bdL, A.bd, rows, ints])) rfl (aret_of ?_)
  simp (disch := ((try simp only [List.length_set, List.length_replicate, List.length_append, List.length_cons, List.length_nil]); omega)) only [aW, aX, aV, aB, aN, aL, aP, aH, aM]
  refine b8.use (ld_all (by simp [frzL_nil, frzL_cons, fzp_any, fzp_nil, fzp_v, fzp_agg, fzp_tup, fzp_fn, fzp_fs, fzp_fp, fzp_sl, fzp_vs, fzp_lp, ldp_any, ldp_nil, ldp_v, ldp_agg, ldp_fn, ldp_fs, ldp_fp, ldp_sl, ldp_vs, ldp_lp, blkAt, flatA, A.cells, A.one, Lft.one, retA, A.bdL, A.bd, rows, ints])) rfl (aret_of ?_)
  simp (disch := ((try simp only [List.length_set, List.length_replicate, List.length_append, List.length_cons, List.length_nil]); omega)) only [aW, aX, aV, aB, aN, aL, aP, aH, aM]
  refine b9.use (ld_all (by simp [frzL_nil, frzL_cons, fzp_any, fzp_nil, fzp_v, fzp_agg, fzp_tup, fzp_fn, fzp_fs, fzp_fp, fzp_sl, fzp_vs, fzp_lp, ldp_any, ldp_nil, ldp_v, ldp_agg, ldp_fn, ldp_fs, ldp_fp, ldp_sl, ldp_vs, ldp_lp, blkAt, flatA, A.cells, A.one, Lft.one, retA, A.bdL, A.bd, rows, ints])) rfl (aret_of ?_)
  simp (disch := ((try simp only [List.length_set, List.length_replicate, List.length_append, List.length_cons, List.length_nil]); omega)) only [aW, aX, aV, aB, aN, aL, aP, aH, aM]
  refine b10.use (ld_all (by simp [frzL_nil, frzL_cons, fzp_any, fzp_nil, fzp_v, fzp_agg, fzp_tup, fzp_fn, fzp_fs, fzp_fp, fzp_sl, fzp_vs, fzp_lp, ldp_any, ldp_nil, ldp_v, ldp_agg, ldp_fn, ldp_fs, ldp_fp, ldp_sl, ldp_vs, ldp_lp, blkAt, flatA, A.cells, A.one, Lft.one, retA, A.bdL, A.bd, rows, ints])) rfl (aret_of ?_)
  simp (disch := ((try simp only [List.length_set, List.length_replicate, List.length_append, List.length_cons, List.length_nil]); omega)) only [aW, aX, aV, aB, aN, aL, aP, aH, aM, r_law33_awake]
  exact post_v ⟨rfl, rfl⟩
end Go.Proofs.Ytggnafgbjnemoaa
