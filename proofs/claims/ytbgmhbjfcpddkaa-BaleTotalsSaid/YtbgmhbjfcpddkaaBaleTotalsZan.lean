/- Lemmas and walks that the proof of BaleTotals uses. No statement is claimed here. -/
import Derived.Test.YtbgmhbjfcpddkaaBaleTotalsZam
namespace Go.Proofs.Ytbgmhbjfcpddkaa
open Go Go.Lft
set_option linter.unusedSimpArgs false
set_option linter.unusedVariables false

def subM (a b : List Int) : List Int := (List.range a.length).map fun i => a.getD i 0 - b.getD i 0
theorem subM_len (a b : List Int) : (subM a b).length = a.length := by simp [subM]
theorem subM_get (a b : List Int) (i : Nat) (h : i < a.length) : (subM a b).getD i 0 = a.getD i 0 - b.getD i 0 := by simp [subM, List.getD_eq_getElem?_getD, h]
theorem sum_subM : ∀ (a b : List Int), a.length = b.length → (subM a b).sum = a.sum - b.sum
  | [], [], _ => by simp [subM]
  | x :: a, y :: b, h => by
    have ih := sum_subM a b (by simpa using h)
    have e : subM (x :: a) (y :: b) = (x - y) :: subM a b := by
      simp [subM, List.range_succ_eq_map]
    rw [e, List.sum_cons, ih, List.sum_cons, List.sum_cons]; omega
  | [], _ :: _, h => by simp at h
  | _ :: _, [], h => by simp at h
theorem splitE_mix {t : Int} {ws : List Int} (h : mixE ws = 0) (ht : 0 < t ∧ t ≤ ws.sum) : splitE t ws = 0 := by
  have h1 := sum_mix h
  have hl := (mixE_ok.1 h).1
  have hne : ws.length ≠ 0 := fun hc => by
    rw [List.eq_nil_of_length_eq_zero hc] at ht; simp at ht; omega
  have h2 : weighE ws = (ws.sum, 0) := by
    rw [weigh_sum (by omega) (by
      rintro ⟨i, hi, h2⟩
      have := mixE_get h i hi
      unfold badW at h2; omega), if_pos (by omega)]
  unfold splitE
  rw [h2, if_neg (by omega), if_neg (by simp), if_neg (by simp; omega)]
/-- A part of a mix is no more than what is there. -/
theorem parts_le {t : Int} {ws p : List Int} (h : SpR t ws p) (hw : ∀ i, i < ws.length → 0 ≤ ws.getD i 0) (ht : 0 < t ∧ t ≤ ws.sum) {i : Nat} (hi : i < ws.length) : 0 ≤ p.getD i 0 ∧ p.getD i 0 ≤ ws.getD i 0 := by
  have h0 := hw i hi
  have hW : 0 < ws.sum := by omega
  have h1 : 0 ≤ t * ws.getD i 0 := Int.mul_nonneg (by omega) h0
  have h2 : t * ws.getD i 0 ≤ ws.sum * ws.getD i 0 := Int.mul_le_mul_of_nonneg_right ht.2 h0
  have h3 := Int.mul_ediv_add_emod (t * ws.getD i 0) ws.sum
  have h4 := Int.emod_nonneg (t * ws.getD i 0) (show ws.sum ≠ 0 by omega)
  have h5 : 0 ≤ t * ws.getD i 0 / ws.sum := Int.ediv_nonneg h1 (by omega)
  have h8 := h.two i hi
  generalize t * ws.getD i 0 / ws.sum = q at *
  generalize t * ws.getD i 0 % ws.sum = r at *
  generalize t * ws.getD i 0 = m at *
  rcases h8 with h6 | ⟨h6, h7⟩
  · refine ⟨by omega, ?_⟩
    rw [h6]
    exact Int.le_of_mul_le_mul_left (a := ws.sum) (by omega) hW
  · refine ⟨by omega, ?_⟩
    have : q < ws.getD i 0 := Int.lt_of_mul_lt_mul_left (a := ws.sum) (by omega) (by omega)
    omega

/-- What is left before each bale. -/
def leftP (xs : List Int) (size : Int) : Nat → List Int
  | 0 => xs
  | k + 1 => subM (leftP xs size k) (partsR size (leftP xs size k))
structure LeftI (xs : List Int) (size : Int) (k : Nat) : Prop where
  mix : mixE (leftP xs size k) = 0
  len : (leftP xs size k).length = xs.length
  sum : (leftP xs size k).sum = xs.sum - k * size
theorem left_parts {xs : List Int} {size : Int} {k : Nat} (h : LeftI xs size k) (hs : 1 ≤ size) (hk : (k + 1) * size ≤ xs.sum) :
    splitE size (leftP xs size k) = 0 ∧ SpR size (leftP xs size k) (partsR size (leftP xs size k)) ∧ ∀ i, i < xs.length → 0 ≤ (partsR size (leftP xs size k)).getD i 0 ∧ (partsR size (leftP xs size k)).getD i 0 ≤ (leftP xs size k).getD i 0 := by
  have h1 := h.sum
  have h2 : ((k : Int) + 1) * size = k * size + size := by rw [Int.add_mul, Int.one_mul]
  have ht : 0 < size ∧ size ≤ (leftP xs size k).sum := by omega
  have e := splitE_mix h.mix ht
  have sp := partsR_ok (splitE_ok e).sp
  exact ⟨e, sp, fun i hi => parts_le sp (fun i hi => (mixE_get h.mix i hi).1) ht (by rw [h.len]; exact hi)⟩
theorem left_inv {xs : List Int} {size : Int} (hm : mixE xs = 0) (hs : 1 ≤ size) : ∀ k : Nat, k * size ≤ xs.sum → LeftI xs size k
  | 0, _ => ⟨hm, rfl, by simp [leftP]⟩
  | k + 1, hk => by
    have hk' : ((k : Int) + 1) * size ≤ xs.sum := by simpa using hk
    have h2 : ((k : Int) + 1) * size = k * size + size := by rw [Int.add_mul, Int.one_mul]
    have ih := left_inv hm hs k (by omega)
    obtain ⟨e, sp, hp⟩ := left_parts ih hs hk'
    have hl := ih.len
    have hpl := sp.len
    have hps := sp.sum
    have hg := mixE_get ih.mix
    have hle := (mixE_ok.1 ih.mix).1
    have hsum := ih.sum
    refine ⟨mixE_ok.2 ⟨?_, fun x hx => ?_⟩, ?_, ?_⟩
    · show (subM _ _).length ≤ 16
      rw [subM_len]; exact hle
    · obtain ⟨i, hi, rfl⟩ := get_mem 0 (show x ∈ subM (leftP xs size k) (partsR size (leftP xs size k)) from hx)
      rw [subM_len] at hi
      have h3 := hp i (by omega)
      have h4 := hg i hi
      rw [subM_get _ _ _ hi]; omega
    · show (subM _ _).length = _
      rw [subM_len]; exact hl
    · show (subM _ _).sum = _
      rw [sum_subM _ _ hpl.symm, hsum, hps]
      push_cast; omega
def baleP (xs : List Int) (size kind first tm : Int) (i : Nat) : Bl := ⟨first + i, kind, tm, partsR size (leftP xs size i)⟩
def balesP (xs : List Int) (size kind first tm : Int) (n : Nat) : List Bl := (List.range n).map (baleP xs size kind first tm)
theorem balesP_len (xs : List Int) (size kind first tm : Int) (n : Nat) : (balesP xs size kind first tm n).length = n := by simp [balesP]
theorem balesP_succ (xs : List Int) (size kind first tm : Int) (n : Nat) : balesP xs size kind first tm (n + 1) = balesP xs size kind first tm n ++ [baleP xs size kind first tm n] := by simp [balesP, List.range_succ]
def pressN (xs : List Int) (size : Int) : Nat := (xs.sum / size).toNat
def pressE (xs : List Int) (size kind first tm : Int) : Int :=
  if mixE xs ≠ 0 then mixE xs else if size < 1 ∨ 1073741824 < size ∨ kind < 0 ∨ (xs.length : Int) ≤ kind ∨ first < 1 ∨ 1000000 < first ∨ tm < 0 ∨ 3155759999 < tm then 1
  else if 64 < xs.sum / size then 8 else if 0 < xs.sum / size ∧ 1000000 < first + xs.sum / size - 1 then 2 else 0
def pressV (xs : List Int) (size kind first tm : Int) : List Bl × List Int × Int :=
  if pressE xs size kind first tm ≠ 0 then ([], [], pressE xs size kind first tm) else (balesP xs size kind first tm (pressN xs size), leftP xs size (pressN xs size), 0)
structure PressOk (xs : List Int) (size kind first tm : Int) : Prop where
  mix : mixE xs = 0
  s1 : 1 ≤ size
  s2 : size ≤ 1073741824
  k1 : 0 ≤ kind
  k2 : kind < xs.length
  f1 : 1 ≤ first
  f2 : first ≤ 1000000
  t1 : 0 ≤ tm
  t2 : tm ≤ 3155759999
  n1 : xs.sum / size = pressN xs size
  n2 : pressN xs size ≤ 64
  n3 : first + pressN xs size ≤ 1000001
  n4 : pressN xs size * size ≤ xs.sum
  n5 : xs.sum < (pressN xs size + 1) * size
theorem div_facts {s z : Int} (h : 0 ≤ s) (hz : 1 ≤ z) : 0 ≤ s / z ∧ s / z * z ≤ s ∧ s < (s / z + 1) * z := by
  have h3 := Int.mul_ediv_add_emod s z
  have h4 := Int.emod_nonneg s (show z ≠ 0 by omega)
  have h5 := Int.emod_lt_of_pos s (show 0 < z by omega)
  have e : z * (s / z) = s / z * z := Int.mul_comm _ _
  refine ⟨Int.ediv_nonneg h (by omega), by omega, by rw [Int.add_mul, Int.one_mul]; omega⟩
theorem press_ok {xs : List Int} {size kind first tm : Int} (h1 : mixE xs = 0) (h2 : ¬ (size < 1 ∨ 1073741824 < size ∨ kind < 0 ∨ (xs.length : Int) ≤ kind ∨ first < 1 ∨ 1000000 < first ∨ tm < 0 ∨ 3155759999 < tm)) (h3 : ¬ 64 < xs.sum / size) (h4 : ¬ 1000000 < first + xs.sum / size - 1) : pressE xs size kind first tm = 0 ∧ PressOk xs size kind first tm := by
  have hs := sum_mix h1
  obtain ⟨d1, d2, d3⟩ := div_facts hs.1 (show 1 ≤ size by omega)
  have hn : xs.sum / size = pressN xs size := by unfold pressN; omega
  rw [hn] at d2 d3 h3 h4
  refine ⟨?_, ⟨h1, by omega, by omega, by omega, by omega, by omega, by omega, by omega, by omega, hn, by omega, by omega, d2, d3⟩⟩
  unfold pressE
  rw [if_neg (by omega), if_neg h2, if_neg (by omega), if_neg (by omega)]
theorem press_e1 {xs : List Int} {size kind first tm : Int} (h1 : mixE xs ≠ 0) : pressV xs size kind first tm = ([], [], mixE xs) := by
  have e : pressE xs size kind first tm = mixE xs := by unfold pressE; rw [if_pos h1]
  unfold pressV; rw [e, if_pos h1]
theorem press_e2 {xs : List Int} {size kind first tm : Int} (h1 : mixE xs = 0) (h2 : size < 1 ∨ 1073741824 < size ∨ kind < 0 ∨ (xs.length : Int) ≤ kind ∨ first < 1 ∨ 1000000 < first ∨ tm < 0 ∨ 3155759999 < tm) : pressV xs size kind first tm = ([], [], 1) := by
  have e : pressE xs size kind first tm = 1 := by unfold pressE; rw [if_neg (by omega), if_pos h2]
  unfold pressV; rw [e, if_pos (by omega)]
theorem press_e3 {xs : List Int} {size kind first tm : Int} (h1 : mixE xs = 0) (h2 : ¬ (size < 1 ∨ 1073741824 < size ∨ kind < 0 ∨ (xs.length : Int) ≤ kind ∨ first < 1 ∨ 1000000 < first ∨ tm < 0 ∨ 3155759999 < tm)) (h3 : 64 < xs.sum / size) : pressV xs size kind first tm = ([], [], 8) := by
  have e : pressE xs size kind first tm = 8 := by unfold pressE; rw [if_neg (by omega), if_neg h2, if_pos h3]
  unfold pressV; rw [e, if_pos (by omega)]
theorem press_e4 {xs : List Int} {size kind first tm : Int} (h1 : mixE xs = 0) (h2 : ¬ (size < 1 ∨ 1073741824 < size ∨ kind < 0 ∨ (xs.length : Int) ≤ kind ∨ first < 1 ∨ 1000000 < first ∨ tm < 0 ∨ 3155759999 < tm)) (h3 : ¬ 64 < xs.sum / size) (h4 : 1000000 < first + xs.sum / size - 1) : pressV xs size kind first tm = ([], [], 2) := by
  have hs := sum_mix h1
  obtain ⟨d1, d2, d3⟩ := div_facts hs.1 (show 1 ≤ size by omega)
  have e : pressE xs size kind first tm = 2 := by unfold pressE; rw [if_neg (by omega), if_neg h2, if_neg h3, if_pos ⟨by omega, h4⟩]
  unfold pressV; rw [e, if_pos (by omega)]
theorem press_v {xs : List Int} {size kind first tm : Int} (h : pressE xs size kind first tm = 0) : pressV xs size kind first tm = (balesP xs size kind first tm (pressN xs size), leftP xs size (pressN xs size), 0) := by
  unfold pressV; rw [if_neg (by omega)]
theorem PressOk.left {xs : List Int} {size kind first tm : Int} (h : PressOk xs size kind first tm) {k : Nat} (hk : k ≤ pressN xs size) : LeftI xs size k := by
  refine left_inv h.mix h.s1 k ?_
  have h1 : (k : Int) * size ≤ pressN xs size * size := Int.mul_le_mul_of_nonneg_right (by omega) (by have := h.s1; omega)
  have := h.n4; omega
theorem PressOk.parts {xs : List Int} {size kind first tm : Int} (h : PressOk xs size kind first tm) {k : Nat} (hk : k < pressN xs size) :
    splitE size (leftP xs size k) = 0 ∧ SpR size (leftP xs size k) (partsR size (leftP xs size k)) ∧ ∀ i, i < xs.length → 0 ≤ (partsR size (leftP xs size k)).getD i 0 ∧ (partsR size (leftP xs size k)).getD i 0 ≤ (leftP xs size k).getD i 0 := by
  refine left_parts (h.left (by omega)) h.s1 ?_
  have h1 : ((k : Int) + 1) * size ≤ pressN xs size * size := Int.mul_le_mul_of_nonneg_right (by omega) (by have := h.s1; omega)
  have := h.n4; omega

def pressT (r : List Bl × List Int × Int) : A := .tup [.fs true (bls true r.1), .fs true (ints r.2.1), .v (.int .i64 r.2.2)]
theorem post_err2 {H : List Blk} {R : A → List Blk → Prop} {x : Value} (h : R (.tup [.fs true [], .fs true [], .v x]) []) : apost 0 H R [.v (.slice none 0 0), .v (.slice none 0 0), .v x] :=
  post0 (Fz.tup (l := [.v (.slice none 0 0), .v (.slice none 0 0), .v x]) (r := [.fs true [], .fs true [], .v x]) ⟨fz_nil _ _, fz_nil _ _, Fz.refl rfl, trivial⟩) h
/-- The front of a difference. -/
def frontS (a b : List Int) (k : Nat) : List Int := (subM a b).take k ++ a.drop k
theorem frontS_len (a b : List Int) (k : Nat) (h : k ≤ a.length) : (frontS a b k).length = a.length := by simp [frontS, subM_len]; omega
theorem frontS_zero (a b : List Int) : frontS a b 0 = a := by simp [frontS]
theorem frontS_all (a b : List Int) : frontS a b a.length = subM a b := by
  unfold frontS; rw [List.take_of_length_le (by rw [subM_len]; exact Nat.le_refl _)]; simp
theorem frontS_get (a b : List Int) (k : Nat) (h : k < a.length) : (frontS a b k).getD k 0 = a.getD k 0 := by
  have hl := subM_len a b
  unfold frontS
  rw [List.getD_eq_getElem?_getD, List.getElem?_append_right (by simp; omega)]
  have : k - (List.take k (subM a b)).length = 0 := by simp; omega
  rw [this, List.getElem?_drop, List.getD_eq_getElem?_getD]; simp
theorem frontS_set (a b : List Int) (k : Nat) (h : k < a.length) : (frontS a b k).set k (a.getD k 0 - b.getD k 0) = frontS a b (k + 1) := by
  have hl := subM_len a b
  have hg := subM_get a b k h
  unfold frontS
  rw [List.set_append_right _ _ (by simp; omega), take_succ_get' _ k 0 (by omega), hg, List.append_assoc]
  congr 1
  rw [show k - (List.take k (subM a b)).length = 0 by simp; omega, List.drop_eq_getElem_cons h]
  rfl
end Go.Proofs.Ytbgmhbjfcpddkaa
namespace Go.Proofs.Ytbgmhbjfcpddkaa
open Go Go.Lft
set_option linter.unusedSimpArgs false
set_option linter.unusedVariables false
attribute [local congr] ob_congr bw_congr ib_congr ck_congr iwA_congr itA_congr aw_congr awp_congr sqA_congr bkA_congr vr_congr gd_congr

/-- Splitting what is left, in the program. -/
theorem splitMix_vr {w : Bool} {t : Int} {ws : List Int} (h : mixE ws = 0) (ht : 0 < t ∧ t ≤ 1073741824) (he : splitE t ws = 0) : VR P false n_share_Split [.v (.int .i64 t), .fs w (ints ws)] [] (isR (.tup [.fs true (ints (partsR t ws)), .v (.int .i64 0)])) := by
  have h1 := shareSplit_vr (w := w) t ws fun _ => divOk_small (splitE_ok he) fun i hi => by
    have h2 := mixE_get h i hi
    have h3 : t * ws.getD i 0 ≤ 1073741824 * 1073741824 := Int.mul_le_mul ht.2 h2.2 h2.1 (by omega)
    omega
  have e : splitV t ws = (partsR t ws, 0) := by unfold splitV; rw [if_neg (by omega)]
  rw [e] at h1
  exact h1
theorem balePress_vr {w : Bool} (xs : List Int) (size kind first tm : Int) : VR P false n_bale_Press [.fs w (ints xs), .v (.int .i64 size), .v (.int .i64 kind), .v (.int .i64 first), .v (.int .i64 tm)] [] (isR (pressT (pressV xs size kind first tm))) := by
  refine vr_bale_Press (by simp) (.inr rfl) fun _ _ => ?_
  have ht := materialTotal_vr (w := w) xs
  unfold pairT at ht
  unfold pressT
  by_cases h1 : mixE xs = 0
  case neg =>
    rw [totM_err h1] at ht
    rw [press_e1 h1]
    simp (disch := ((try simp only [List.length_set, List.length_replicate, List.length_append, List.length_cons, List.length_nil]); omega)) only [aW, aX, aV, aB, aN, aL, aP, aH, aM, aBl, s_bale_Press, v_bale_Press]
    refine ht.same (by simp (disch := first | omega | simp (disch := omega) only [aF, aL, aN, aM, aBl]) only [aW, aX, aV, aB, aN, aL, aP, aH, aM, aBl, aF, Int.natCast_add, Int.natCast_mul, Int.add_sub_cancel, List.length_nil, Int.cast_ofNat_Int, and_true, true_and]) (by simp (disch := first | omega | simp (disch := omega) only [aF, aL, aN, aM, aBl]) only [aW, aX, aV, aB, aN, aL, aP, aH, aM, aBl, aF, Int.natCast_add, Int.natCast_mul, Int.add_sub_cancel, List.length_nil, Int.cast_ofNat_Int, and_true, true_and]) (aret_of ?_)
    simp (disch := ((try simp only [List.length_set, List.length_replicate, List.length_append, List.length_cons, List.length_nil]); omega)) only [aW, aX, aV, aB, aN, aL, aP, aH, aM, aBl, r_bale_Press]
    exact post_err2 ⟨rfl, rfl⟩
  rw [totM_ok h1] at ht
  have hs := sum_mix h1
  have hl := (mixE_ok.1 h1).1
  simp (disch := ((try simp only [List.length_set, List.length_replicate, List.length_append, List.length_cons, List.length_nil]); omega)) only [aW, aX, aV, aB, aN, aL, aP, aH, aM, aBl, s_bale_Press, v_bale_Press]
  refine ht.same (by simp (disch := first | omega | simp (disch := omega) only [aF, aL, aN, aM, aBl]) only [aW, aX, aV, aB, aN, aL, aP, aH, aM, aBl, aF, Int.natCast_add, Int.natCast_mul, Int.add_sub_cancel, List.length_nil, Int.cast_ofNat_Int, and_true, true_and]) (by simp (disch := first | omega | simp (disch := omega) only [aF, aL, aN, aM, aBl]) only [aW, aX, aV, aB, aN, aL, aP, aH, aM, aBl, aF, Int.natCast_add, Int.natCast_mul, Int.add_sub_cancel, List.length_nil, Int.cast_ofNat_Int, and_true, true_and]) (aret_of ?_)
  by_cases h2 : size < 1 ∨ 1073741824 < size ∨ kind < 0 ∨ (xs.length : Int) ≤ kind ∨ first < 1 ∨ 1000000 < first
  · rw [press_e2 h1 (by omega)]
    simp (disch := ((try simp only [List.length_set, List.length_replicate, List.length_append, List.length_cons, List.length_nil]); omega)) only [aW, aX, aV, aB, aN, aL, aP, aH, aM, aBl, r_bale_Press]
    exact post_err2 ⟨rfl, rfl⟩
  simp (disch := ((try simp only [List.length_set, List.length_replicate, List.length_append, List.length_cons, List.length_nil]); omega)) only [aW, aX, aV, aB, aN, aL, aP, aH, aM, aBl]
  refine (moment_vr tm).same (by simp (disch := first | omega | simp (disch := omega) only [aF, aL, aN, aM, aBl]) only [aW, aX, aV, aB, aN, aL, aP, aH, aM, aBl, aF, Int.natCast_add, Int.natCast_mul, Int.add_sub_cancel, List.length_nil, Int.cast_ofNat_Int, and_true, true_and]) rfl (aret_of ?_)
  by_cases h3 : 0 ≤ tm ∧ tm ≤ 3155759999
  case neg =>
    rw [press_e2 h1 (by omega), decide_eq_false h3]
    simp (disch := ((try simp only [List.length_set, List.length_replicate, List.length_append, List.length_cons, List.length_nil]); omega)) only [aW, aX, aV, aB, aN, aL, aP, aH, aM, aBl, r_bale_Press]
    exact post_err2 ⟨rfl, rfl⟩
  rw [decide_eq_true h3]
  have h4 : ¬ (size < 1 ∨ 1073741824 < size ∨ kind < 0 ∨ (xs.length : Int) ≤ kind ∨ first < 1 ∨ 1000000 < first ∨ tm < 0 ∨ 3155759999 < tm) := by omega
  obtain ⟨d1, d2, d3⟩ := div_facts hs.1 (show 1 ≤ size by omega)
  have d4 : xs.sum / size ≤ xs.sum := Int.ediv_le_self _ hs.1
  simp (disch := ((try simp only [List.length_set, List.length_replicate, List.length_append, List.length_cons, List.length_nil]); omega)) only [aW, aX, aV, aB, aN, aL, aP, aH, aM, aBl]
  refine ib_intro (fun h5 => ?_) (fun h5 => ?_)
  · rw [press_e3 h1 h4 h5]
    simp (disch := ((try simp only [List.length_set, List.length_replicate, List.length_append, List.length_cons, List.length_nil]); omega)) only [aW, aX, aV, aB, aN, aL, aP, aH, aM, aBl, r_bale_Press]
    exact post_err2 ⟨rfl, rfl⟩
  simp (disch := ((try simp only [List.length_set, List.length_replicate, List.length_append, List.length_cons, List.length_nil]); omega)) only [aW, aX, aV, aB, aN, aL, aP, aH, aM, aBl]
  refine ib_intro (fun h6 => ?_) (fun h6 => ?_)
  · rw [press_e4 h1 h4 h5 h6]
    simp (disch := ((try simp only [List.length_set, List.length_replicate, List.length_append, List.length_cons, List.length_nil]); omega)) only [aW, aX, aV, aB, aN, aL, aP, aH, aM, aBl, r_bale_Press]
    exact post_err2 ⟨rfl, rfl⟩
  obtain ⟨e0, ok⟩ := press_ok h1 h4 h5 h6
  rw [press_v e0, ok.n1]
  have hn2 := ok.n2
  have hn3 := ok.n3
  have hbl := fun k => balesP_len xs size kind first tm k
  simp (disch := ((try simp only [List.length_set, List.length_replicate, List.length_append, List.length_cons, List.length_nil]); omega)) only [aW, aX, aV, aB, aN, aL, aP, aH, aM, aBl, Int.toNat_natCast]
  refine AWP.cut (Cut.virt 12 4 rfl) ?_
  refine AWP.loopP (α := Nat × Nat) g_bale_Press_0 (fun q => q.1 ≤ pressN xs size) (fun q => [(5, .v (.slice none 0 0)), (6, .v (.slice none 0 0)), (7, .v (.int .i64 0)), (12, .vs 1 q.2 4 q.1), (13, .v (.int .i64 q.1))]) (fun q => [(0, ⟨0, ints (leftP xs size q.1)⟩), (1, ⟨q.2, blcs true (balesP xs size kind first tm q.1)⟩)]) (fun q => pressN xs size - q.1) (0, 0) (by simp) ?_ ?_
  · have z1 : leftP xs size 0 = xs := rfl
    have z2 : blcs true (balesP xs size kind first tm 0) = [] := rfl
    have z3 : splA (ints (List.replicate xs.length 0)) 0 (ints xs) = ints xs := spl_zero _ _ (by simp [ii_len])
    simp only [z1, z2]
    try simp (disch := ((try simp only [List.length_set, List.length_replicate, List.length_append, List.length_cons, List.length_nil]); omega)) only [aW, aX, aV, aB, aN, aL, aP, aH, aM, aBl]
    exact Cut.of' 2 rfl (by omega) (by simp (disch := first | omega | simp (disch := omega) only [aF, aL, aN, aM, aBl]) only [aW, aX, aV, aB, aN, aL, aP, aH, aM, aBl, aF, Int.natCast_add, Int.natCast_mul, Int.add_sub_cancel, List.length_nil, Int.cast_ofNat_Int, and_true, true_and, z3]) (by simp (disch := first | omega | simp (disch := omega) only [aF, aL, aN, aM, aBl]) only [aW, aX, aV, aB, aN, aL, aP, aH, aM, aBl, aF, Int.natCast_add, Int.natCast_mul, Int.add_sub_cancel, List.length_nil, Int.cast_ofNat_Int, and_true, true_and])
  rintro ⟨k, ver⟩ hk
  simp only at hk
  have hL := ok.left hk
  have hLl := hL.len
  by_cases hlt : k < pressN xs size
  · obtain ⟨p1, p2, p3⟩ := ok.parts hlt
    have hpl := p2.len
    have hv := splitMix_vr (w := false) hL.mix (t := size) (by omega) p1
    have hsucc := balesP_succ xs size kind first tm k
    have hsl : leftP xs size (k + 1) = subM (leftP xs size k) (partsR size (leftP xs size k)) := rfl
    have hbp : baleP xs size kind first tm k = ⟨first + k, kind, tm, partsR size (leftP xs size k)⟩ := rfl
    have hkl := hbl k
    generalize partsR size (leftP xs size k) = p at *
    have hmx := mixE_get hL.mix
    generalize hW : leftP xs size k = W at *
    simp (disch := ((try simp only [List.length_set, List.length_replicate, List.length_append, List.length_cons, List.length_nil]); omega)) only [aW, aX, aV, aB, aN, aL, aP, aH, aM, aBl]
    refine hv.use ⟨Ld.refl rfl, ld_slI _ 0 0 _ W hLl.symm rfl, trivial⟩ (by simp (disch := first | omega | simp (disch := omega) only [aF, aL, aN, aM, aBl]) only [aW, aX, aV, aB, aN, aL, aP, aH, aM, aBl, aF, Int.natCast_add, Int.natCast_mul, Int.add_sub_cancel, List.length_nil, Int.cast_ofNat_Int, and_true, true_and]) (aret_of ?_)
    simp (disch := ((try simp only [List.length_set, List.length_replicate, List.length_append, List.length_cons, List.length_nil]); omega)) only [aW, aX, aV, aB, aN, aL, aP, aH, aM, aBl]
    refine AWP.loopP g_bale_Press_1 (fun j : Nat => j ≤ W.length) (fun j => [(19, .v (.int .i64 j))]) (fun j => [(0, ⟨0, ints (frontS W p j)⟩)]) (fun j => W.length - j) 0 (by omega) ?_ ?_
    · rw [frontS_zero]
      try simp (disch := ((try simp only [List.length_set, List.length_replicate, List.length_append, List.length_cons, List.length_nil]); omega)) only [aW, aX, aV, aB, aN, aL, aP, aH, aM, aBl]
      exact Cut.of' 2 rfl (by omega) (by simp (disch := first | omega | simp (disch := omega) only [aF, aL, aN, aM, aBl]) only [aW, aX, aV, aB, aN, aL, aP, aH, aM, aBl, aF, Int.natCast_add, Int.natCast_mul, Int.add_sub_cancel, List.length_nil, Int.cast_ofNat_Int, and_true, true_and]) (by simp (disch := first | omega | simp (disch := omega) only [aF, aL, aN, aM, aBl]) only [aW, aX, aV, aB, aN, aL, aP, aH, aM, aBl, aF, Int.natCast_add, Int.natCast_mul, Int.add_sub_cancel, List.length_nil, Int.cast_ofNat_Int, and_true, true_and])
    rintro j hj
    have fl := frontS_len W p j hj
    by_cases hjl : j < W.length
    · have q1 := p3 j (by omega)
      have q2 := hmx j hjl
      have q3 := frontS_get W p j hjl
      have q4 := frontS_set W p j hjl
      simp (disch := ((try simp only [List.length_set, List.length_replicate, List.length_append, List.length_cons, List.length_nil]); omega)) only [aW, aX, aV, aB, aN, aL, aP, aH, aM, aBl, q3, q4]
      refine ⟨j + 1, by omega, by omega, ?_⟩
      exact Cut.of' 2 rfl (by omega) (by simp (disch := first | omega | simp (disch := omega) only [aF, aL, aN, aM, aBl]) only [aW, aX, aV, aB, aN, aL, aP, aH, aM, aBl, aF, Int.natCast_add, Int.natCast_mul, Int.add_sub_cancel, List.length_nil, Int.cast_ofNat_Int, and_true, true_and]) (by simp (disch := first | omega | simp (disch := omega) only [aF, aL, aN, aM, aBl]) only [aW, aX, aV, aB, aN, aL, aP, aH, aM, aBl, aF, Int.natCast_add, Int.natCast_mul, Int.add_sub_cancel, List.length_nil, Int.cast_ofNat_Int, and_true, true_and])
    have hje : j = W.length := by omega
    subst hje
    rw [frontS_all, ← hsl]
    simp (disch := ((try simp only [List.length_set, List.length_replicate, List.length_append, List.length_cons, List.length_nil]); omega)) only [aW, aX, aV, aB, aN, aL, aP, aH, aM, aBl, ← hbp]
    refine ⟨(k + 1, ver + 1), by simp only; omega, by simp only; omega, ?_⟩
    simp only
    rw [hsucc, hbp]
    exact Cut.of' 2 rfl (by omega) (by simp (disch := first | omega | simp (disch := omega) only [aF, aL, aN, aM, aBl]) only [aW, aX, aV, aB, aN, aL, aP, aH, aM, aBl, aF, Int.natCast_add, Int.natCast_mul, Int.add_sub_cancel, List.length_nil, Int.cast_ofNat_Int, and_true, true_and]) (by simp (disch := first | omega | simp (disch := omega) only [aF, aL, aN, aM, aBl]) only [aW, aX, aV, aB, aN, aL, aP, aH, aM, aBl, aF, Int.natCast_add, Int.natCast_mul, Int.add_sub_cancel, List.length_nil, Int.cast_ofNat_Int, and_true, true_and])
  have hke : k = pressN xs size := by omega
  subst hke
  simp (disch := ((try simp only [List.length_set, List.length_replicate, List.length_append, List.length_cons, List.length_nil]); omega)) only [aW, aX, aV, aB, aN, aL, aP, aH, aM, aBl, r_bale_Press]
  exact post0 (r := .tup [.fs true (bls true (balesP xs size kind first tm (pressN xs size))), .fs true (ints (leftP xs size (pressN xs size))), .v (.int .i64 0)]) (Fz.tup ⟨fz_vsBl 0 _ 1 ver _ _ (by omega) (hbl _).symm (by simp [blkAt]), fz_slI 0 _ 0 0 _ _ (by omega) hLl.symm rfl, Fz.refl rfl, trivial⟩) ⟨rfl, rfl⟩

end Go.Proofs.Ytbgmhbjfcpddkaa
namespace Go.Proofs.Ytbgmhbjfcpddkaa
open Go Go.Lft
set_option linter.unusedSimpArgs false
set_option linter.unusedVariables false

def isB (m o : Int) (b : Bt) : Prop := b.fr = m ∧ b.ot = o
instance (m o : Int) : DecidablePred (isB m o) := fun b => by unfold isB; infer_instance
def findB (bs : List Bt) (m o : Int) : Int := idxE (isB m o) bs
def beltE (ms : List Mc) (b : Bt) : Int :=
  if b.fr < 0 ∨ (ms.length : Int) ≤ b.fr ∨ b.ot < 0 ∨ (outsN (ms.getD b.fr.toNat []) : Int) ≤ b.ot ∨ b.to < 0 ∨ (ms.length : Int) ≤ b.to then 7
  else if b.ln < 1 ∨ 16 < b.ln then 1 else 0
def twice (bs : List Bt) : Prop := ∃ k, k < bs.length ∧ findB bs (bs.getD k b0).fr (bs.getD k b0).ot ≠ k
def openO (ms : List Mc) (bs : List Bt) : Prop := ∃ i, i < ms.length ∧ ∃ o, o < outsN (ms.getD i []) ∧ findB bs i o < 0
instance (bs : List Bt) : Decidable (twice bs) := by unfold twice; infer_instance
instance (ms : List Mc) (bs : List Bt) : Decidable (openO ms bs) := by unfold openO; infer_instance
def beltsE (ms : List Mc) (bs : List Bt) : Int :=
  if firstE (beltE ms) bs ≠ 0 then firstE (beltE ms) bs else if twice bs then 6 else 0
def pcheck (p : Pl) : Int :=
  if p.mat < 1 ∨ 16 < p.mat then 1 else if p.ms.length = 0 then 10 else if 24 < p.ms.length ∨ 48 < p.bs.length then 8
  else if firstE (fun m => mcheck m p.mat) p.ms ≠ 0 then firstE (fun m => mcheck m p.mat) p.ms
  else if beltsE p.ms p.bs ≠ 0 then beltsE p.ms p.bs
  else if openO p.ms p.bs then 3
  else if p.fd < 0 ∨ (p.ms.length : Int) ≤ p.fd then 7
  else if outsN (p.ms.getD p.fd.toNat []) = 0 then 13 else 0

/-! ### Ways -/
/-- The number of the belt on which a material leaves a machine. -/
def outB (p : Pl) (mt : Int) (at0 : Nat) : Nat := (findB p.bs at0 (mainN (p.ms.getD at0 []) mt)).toNat
def lx (p : Pl) (mt : Int) (at0 : Nat) : Int := (p.bs.getD (outB p mt at0) b0).ln
def binN (p : Pl) (at0 : Nat) : Prop := outsN (p.ms.getD at0 []) = 0
instance (p : Pl) : DecidablePred (binN p) := fun i => by unfold binN; infer_instance
theorem t1 : pcheck ⟨1, [[[900, 100]], [[]]], [⟨0, 0, 1, 2⟩, ⟨0, 1, 0, 3⟩], 0⟩ = 0 := by decide +kernel
end Go.Proofs.Ytbgmhbjfcpddkaa
namespace Go.Proofs.Ytbgmhbjfcpddkaa
open Go Go.Lft
set_option linter.unusedSimpArgs false
set_option linter.unusedVariables false

def tyInt : Ty := (.int .i64)
theorem tyInt_is : tyInt.Is Try.prog 3 := by
  unfold tyInt
  simp only [Ty.Is]
  exact Try.underlying3
theorem list_of {α : Type} {w : Bool} (t : Ty) (f : α → A) (Q : α → Prop) (h1 : ∀ ce, t.Sh w ce → ∃ x, t.pk ce = f x ∧ Q x) : ∀ (L : List (List A)), (∀ ce ∈ L, t.Sh w ce) → ∃ l : List α, L.map t.pk = l.map f ∧ L.length = l.length ∧ ∀ x ∈ l, Q x
  | [], _ => ⟨[], rfl, rfl, by simp⟩
  | ce :: L, h => by
    obtain ⟨l, hl, hn, hq⟩ := list_of t f Q h1 L fun x hx => h x (by simp [hx])
    obtain ⟨x, hx, hqx⟩ := h1 ce (h ce (by simp))
    exact ⟨x :: l, by rw [List.map_cons, hl, hx]; rfl, by simp [hn], fun y hy => by
      rcases List.mem_cons.1 hy with rfl | hy
      · exact hqx
      · exact hq y hy⟩
theorem i64_of {w : Bool} {ce : List A} (h : (Ty.int .i64).Sh w ce) : ∃ n : Int, (Ty.int .i64).pk ce = .v (.int .i64 n) ∧ (Lit.int .i64 n).wf = true := by
  simp only [Ty.Sh] at h
  obtain ⟨n, rfl, h⟩ := h; exact ⟨n, rfl, h⟩
theorem wf_i64 {n : Int} (h : (Lit.int .i64 n).wf = true) : -9223372036854775808 ≤ n ∧ n ≤ 9223372036854775807 := by
  simp only [Lit.wf, Bool.and_eq_true, decide_eq_true_eq] at h
  have h1 : IntKind.i64.max = 9223372036854775807 := rfl
  have h2 : IntKind.i64.min = -9223372036854775808 := rfl
  omega
/-- A row of numbers; all are numbers of the kind. -/
def fit (n : Int) : Prop := -9223372036854775808 ≤ n ∧ n ≤ 9223372036854775807
theorem ints_of {w : Bool} {ce : List A} (h : (Ty.sl (.int .i64)).Sh w ce) : ∃ l : List Int, (Ty.sl (.int .i64)).pk ce = .fs w (ints l) ∧ l.length ≤ maxLen ∧ ∀ x ∈ l, fit x := by
  simp only [Ty.Sh] at h
  obtain ⟨L, rfl, hn, h⟩ := h
  obtain ⟨l, h1, h2, h3⟩ := list_of (w := w) (.int .i64) (fun n => A.v (.int .i64 n)) fit (fun ce hce => by
    obtain ⟨n, e1, e2⟩ := i64_of hce; exact ⟨n, e1, wf_i64 e2⟩) L (fun ce hce => by simp only [Ty.Sh]; exact h ce hce)
  exact ⟨l, by show A.fs w _ = _; rw [h1]; rfl, by omega, h3⟩
theorem int_of {cl : List A} (h : tyInt.Sh true cl) : ∃ n, tyInt.pk cl = .v (.int .i64 n) ∧ fit n := by
  obtain ⟨n, h1, h2⟩ := i64_of (w := true) h; exact ⟨n, h1, wf_i64 h2⟩
end Go.Proofs.Ytbgmhbjfcpddkaa
namespace Go.Proofs.Ytbgmhbjfcpddkaa
open Go Go.Lft
set_option linter.unusedSimpArgs false
set_option linter.unusedVariables false
attribute [local congr] ob_congr bw_congr ib_congr ck_congr iwA_congr itA_congr aw_congr awp_congr sqA_congr bkA_congr vr_congr gd_congr

def tyBale : Ty := (.st [(.int .i64), (.int .i64), (.int .i64), (.sl (.int .i64))])
def tyBales : Ty := (.sl (.st [(.int .i64), (.int .i64), (.int .i64), (.sl (.int .i64))]))
theorem tyBales_is : tyBales.Is Try.prog 27 := by
  unfold tyBales
  simp only [Ty.Is]
  refine ⟨39, Try.underlying27, by kernel_rfl, by decide, ?_⟩
  refine ⟨_, Try.underlying39, by kernel_rfl, ?_⟩
  simp only [Ty.IsL, Ty.Is]
  refine ⟨by first | rfl | trivial, by kernel_rfl, ?_, ?_⟩
  ·
    exact Try.underlying3
  refine ⟨by first | rfl | trivial, by kernel_rfl, ?_, ?_⟩
  ·
    exact Try.underlying3
  refine ⟨by first | rfl | trivial, by kernel_rfl, ?_, ?_⟩
  ·
    exact Try.underlying3
  refine ⟨by first | rfl | trivial, by kernel_rfl, ?_, ?_⟩
  ·
    refine ⟨3, Try.underlying23, by kernel_rfl, by decide, ?_⟩
    exact Try.underlying3
  trivial

theorem grams_vr {w : Bool} (b : Bl) : VR P false n_bale_Grams [blA w b] [] (isR (pairT (totM b.mix))) := by
  refine vr_bale_Grams (by simp) (.inr rfl) fun _ _ => ?_
  have h := materialTotal_vr (w := w) b.mix
  unfold pairT at h ⊢
  unfold blA blC
  generalize totM b.mix = r at *
  simp (disch := ((try simp only [List.length_set, List.length_replicate, List.length_append, List.length_cons, List.length_nil]); omega)) only [aW, aX, aV, aB, aN, aL, aP, aH, aM, aBl, s_bale_Grams, v_bale_Grams]
  refine h.same (by simp (disch := first | omega | simp (disch := omega) only [aF, aL, aN, aM, aBl]) only [aW, aX, aV, aB, aN, aL, aP, aH, aM, aBl, aF, Int.natCast_add, Int.natCast_mul, Int.add_sub_cancel, List.length_nil, Int.cast_ofNat_Int, and_true, true_and]) (by simp (disch := first | omega | simp (disch := omega) only [aF, aL, aN, aM, aBl]) only [aW, aX, aV, aB, aN, aL, aP, aH, aM, aBl, aF, Int.natCast_add, Int.natCast_mul, Int.add_sub_cancel, List.length_nil, Int.cast_ofNat_Int, and_true, true_and]) (aret_of ?_)
  simp (disch := ((try simp only [List.length_set, List.length_replicate, List.length_append, List.length_cons, List.length_nil]); omega)) only [aW, aX, aV, aB, aN, aL, aP, aH, aM, aBl, r_bale_Grams]
  exact post0 (Fz.refl rfl) ⟨rfl, rfl⟩
theorem balePurity_vr {w : Bool} (b : Bl) : VR P false n_bale_Purity [blA w b] [] (isR (pairT (purM b.mix b.mt))) := by
  refine vr_bale_Purity (by simp) (.inr rfl) fun _ _ => ?_
  have h := materialPurity_vr (w := w) b.mix b.mt
  unfold pairT at h ⊢
  unfold blA blC
  generalize purM b.mix b.mt = r at *
  simp (disch := ((try simp only [List.length_set, List.length_replicate, List.length_append, List.length_cons, List.length_nil]); omega)) only [aW, aX, aV, aB, aN, aL, aP, aH, aM, aBl, s_bale_Purity, v_bale_Purity]
  refine h.same (by simp (disch := first | omega | simp (disch := omega) only [aF, aL, aN, aM, aBl]) only [aW, aX, aV, aB, aN, aL, aP, aH, aM, aBl, aF, Int.natCast_add, Int.natCast_mul, Int.add_sub_cancel, List.length_nil, Int.cast_ofNat_Int, and_true, true_and]) (by simp (disch := first | omega | simp (disch := omega) only [aF, aL, aN, aM, aBl]) only [aW, aX, aV, aB, aN, aL, aP, aH, aM, aBl, aF, Int.natCast_add, Int.natCast_mul, Int.add_sub_cancel, List.length_nil, Int.cast_ofNat_Int, and_true, true_and]) (aret_of ?_)
  simp (disch := ((try simp only [List.length_set, List.length_replicate, List.length_append, List.length_cons, List.length_nil]); omega)) only [aW, aX, aV, aB, aN, aL, aP, aH, aM, aBl, r_bale_Purity]
  exact post0 (Fz.refl rfl) ⟨rfl, rfl⟩
theorem same38_vr {w v : Bool} (a b : List Bl) (hl : a.length < 1000000000) (hm : ∀ x ∈ a, x.mix.length < 1000000000) : VR P false n_ref38_Same [.fs w (bls w a), .fs v (bls v b)] [] (isR (.v (.bool (decide (a = b))))) := by
  refine vr_ref38_Same (by simp) (.inr rfl) fun _ _ => ?_
  simp (disch := ((try simp only [List.length_set, List.length_replicate, List.length_append, List.length_cons, List.length_nil]); omega)) only [aW, aX, aV, aB, aN, aL, aP, aH, aM, aBl, s_ref38_Same, v_ref38_Same]
  refine ib_intro (fun h1 => ?_) (fun h1 => ?_)
  · simp (disch := ((try simp only [List.length_set, List.length_replicate, List.length_append, List.length_cons, List.length_nil]); omega)) only [aW, aX, aV, aB, aN, aL, aP, aH, aM, aBl, r_ref38_Same]
    refine post_v ⟨vfalse ?_, rfl⟩
    rintro rfl; omega
  have hlen : a.length = b.length := by omega
  simp (disch := ((try simp only [List.length_set, List.length_replicate, List.length_append, List.length_cons, List.length_nil]); omega)) only [aW, aX, aV, aB, aN, aL, aP, aH, aM, aBl]
  refine AWP.loopP g_ref38_Same_0 (fun k : Nat => k ≤ a.length ∧ ∀ i, i < k → a.getD i bl0 = b.getD i bl0) (fun k => [(2, .v (.bool false)), (3, .v (.int .i64 k))]) (fun _ => []) (fun k => a.length - k) 0 ⟨by omega, fun i hi => by omega⟩ (by refine Cut.of' (0) ?_ (by omega) ?_ ?_ <;> simp (disch := first | omega | simp (disch := omega) only [aF, aL, aN, aM, aBl]) only [aW, aX, aV, aB, aN, aL, aP, aH, aM, aBl, aF, Int.natCast_add, Int.natCast_mul, Int.add_sub_cancel, List.length_nil, Int.cast_ofNat_Int, and_true, true_and]) ?_
  rintro k ⟨hk, hg⟩
  by_cases hlt : k < a.length
  · have hv := same12_vr (w := w) (v := v) (a.getD k bl0).mix (b.getD k bl0).mix (hm _ (mem_get bl0 hlt))
    by_cases h3 : (a.getD k bl0).id = (b.getD k bl0).id ∧ (a.getD k bl0).mt = (b.getD k bl0).mt ∧ (a.getD k bl0).tm = (b.getD k bl0).tm
    case neg =>
      have h4 : ((a.getD k bl0).id ≠ (b.getD k bl0).id ∨ (a.getD k bl0).mt ≠ (b.getD k bl0).mt) ∨ (a.getD k bl0).tm ≠ (b.getD k bl0).tm := by omega
      simp (disch := ((try simp only [List.length_set, List.length_replicate, List.length_append, List.length_cons, List.length_nil]); omega)) only [aW, aX, aV, aB, aN, aL, aP, aH, aM, aBl, decide_eq_true h4, r_ref38_Same]
      refine post_v ⟨vfalse ?_, rfl⟩
      rintro rfl; exact h3 ⟨rfl, rfl, rfl⟩
    have h4 : ¬ (((a.getD k bl0).id ≠ (b.getD k bl0).id ∨ (a.getD k bl0).mt ≠ (b.getD k bl0).mt) ∨ (a.getD k bl0).tm ≠ (b.getD k bl0).tm) := by omega
    simp (disch := ((try simp only [List.length_set, List.length_replicate, List.length_append, List.length_cons, List.length_nil]); omega)) only [aW, aX, aV, aB, aN, aL, aP, aH, aM, aBl, decide_eq_false h4]
    refine hv.same (by simp (disch := first | omega | simp (disch := omega) only [aF, aL, aN, aM, aBl]) only [aW, aX, aV, aB, aN, aL, aP, aH, aM, aBl, aF, Int.natCast_add, Int.natCast_mul, Int.add_sub_cancel, List.length_nil, Int.cast_ofNat_Int, and_true, true_and]) rfl (aret_of ?_)
    by_cases h5 : (a.getD k bl0).mix = (b.getD k bl0).mix
    case neg =>
      rw [decide_eq_false h5]
      simp (disch := ((try simp only [List.length_set, List.length_replicate, List.length_append, List.length_cons, List.length_nil]); omega)) only [aW, aX, aV, aB, aN, aL, aP, aH, aM, aBl, r_ref38_Same]
      refine post_v ⟨vfalse ?_, rfl⟩
      rintro rfl; exact h5 rfl
    rw [decide_eq_true h5]
    simp (disch := ((try simp only [List.length_set, List.length_replicate, List.length_append, List.length_cons, List.length_nil]); omega)) only [aW, aX, aV, aB, aN, aL, aP, aH, aM, aBl]
    refine ⟨k + 1, ⟨by omega, fun i hi => ?_⟩, by omega, (by refine Cut.of' (0) ?_ (by omega) ?_ ?_ <;> simp (disch := first | omega | simp (disch := omega) only [aF, aL, aN, aM, aBl]) only [aW, aX, aV, aB, aN, aL, aP, aH, aM, aBl, aF, Int.natCast_add, Int.natCast_mul, Int.add_sub_cancel, List.length_nil, Int.cast_ofNat_Int, and_true, true_and])⟩
    rcases Nat.lt_succ_iff_lt_or_eq.1 hi with h | rfl
    · exact hg i h
    · generalize a.getD i bl0 = x at *
      generalize b.getD i bl0 = y at *
      cases x; cases y; simp only at h3 h5
      obtain ⟨rfl, rfl, rfl⟩ := h3
      subst h5; rfl
  · simp (disch := ((try simp only [List.length_set, List.length_replicate, List.length_append, List.length_cons, List.length_nil]); omega)) only [aW, aX, aV, aB, aN, aL, aP, aH, aM, aBl, r_ref38_Same]
    exact post_v ⟨vtrue (eq_of_getB bl0 hlen fun i hi => hg i (by omega)), rfl⟩

theorem awake38_vr : VR P false n_law38_awake [] [] (isR (.v (.bool true))) := by
  refine vr_law38_awake (by simp) (.inr rfl) fun _ _ => ?_
  have a1 : pressV [7, 5] 4 1 10 99 = ([⟨10, 1, 99, [2, 2]⟩, ⟨11, 1, 99, [3, 1]⟩, ⟨12, 1, 99, [2, 2]⟩], [0, 0], 0) := by decide +kernel
  have a2 : totB [⟨10, 1, 99, [2, 2]⟩, ⟨11, 1, 99, [3, 1]⟩, ⟨12, 1, 99, [2, 2]⟩] 2 = ([7, 5], 0) := by decide +kernel
  have a3 : blsE [⟨10, 1, 99, [2, 2]⟩, ⟨11, 1, 99, [3, 1]⟩, ⟨12, 1, 99, [2, 2]⟩] 2 = 0 := by decide +kernel
  have a4 : totM [2, 2] = (4, 0) := by decide +kernel
  have a5 : purM [3, 1] 1 = (250, 0) := by decide +kernel
  have b1 := balePress_vr (w := false) [7, 5] 4 1 10 99
  rw [a1] at b1
  unfold pressT at b1
  have s1 := same38_vr (w := true) (v := false) [⟨10, 1, 99, [2, 2]⟩, ⟨11, 1, 99, [3, 1]⟩, ⟨12, 1, 99, [2, 2]⟩] [⟨10, 1, 99, [2, 2]⟩, ⟨11, 1, 99, [3, 1]⟩, ⟨12, 1, 99, [2, 2]⟩] (by decide) (by decide)
  have s2 := same12_vr (w := true) (v := false) [0, 0] [0, 0] (by decide)
  have s3 := same12_vr (w := true) (v := false) [7, 5] [7, 5] (by decide)
  rw [decide_eq_true rfl] at s1 s2 s3
  have b2 := grams_vr (w := true) ⟨10, 1, 99, [2, 2]⟩
  have b3 := balePurity_vr (w := true) ⟨11, 1, 99, [3, 1]⟩
  have b4 := baleTotal_vr (w := true) [⟨10, 1, 99, [2, 2]⟩, ⟨11, 1, 99, [3, 1]⟩, ⟨12, 1, 99, [2, 2]⟩] 2
  have b5 := baleCheck_vr (w := true) [⟨10, 1, 99, [2, 2]⟩, ⟨11, 1, 99, [3, 1]⟩, ⟨12, 1, 99, [2, 2]⟩] 2
  simp only at b2 b3
  rw [a4] at b2
  rw [a5] at b3
  rw [a2] at b4
  rw [a3] at b5
  unfold pairT at b2 b3
  unfold listT at b4
  unfold blA blC at b2 b3
  have l3 : ([⟨10, 1, 99, [2, 2]⟩, ⟨11, 1, 99, [3, 1]⟩, ⟨12, 1, 99, [2, 2]⟩] : List Bl).length = 3 := rfl
  have g0 : ([⟨10, 1, 99, [2, 2]⟩, ⟨11, 1, 99, [3, 1]⟩, ⟨12, 1, 99, [2, 2]⟩] : List Bl).getD 0 bl0 = ⟨10, 1, 99, [2, 2]⟩ := rfl
  have g1 : ([⟨10, 1, 99, [2, 2]⟩, ⟨11, 1, 99, [3, 1]⟩, ⟨12, 1, 99, [2, 2]⟩] : List Bl).getD 1 bl0 = ⟨11, 1, 99, [3, 1]⟩ := rfl
  have s1' : ∀ L0, L0 = ([⟨10, 1, 99, [2, 2]⟩, ⟨11, 1, 99, [3, 1]⟩, ⟨12, 1, 99, [2, 2]⟩] : List Bl) → VR P false n_ref38_Same [.fs true (bls true L0), .fs false (bls false ([⟨10, 1, 99, [2, 2]⟩, ⟨11, 1, 99, [3, 1]⟩, ⟨12, 1, 99, [2, 2]⟩] : List Bl))] [] (isR (.v (.bool true))) := fun L0 h => by rw [h]; exact s1
  clear s1
  obtain ⟨L, hL⟩ : ∃ L, L = ([⟨10, 1, 99, [2, 2]⟩, ⟨11, 1, 99, [3, 1]⟩, ⟨12, 1, 99, [2, 2]⟩] : List Bl) := ⟨_, rfl⟩
  rw [← hL] at a1 a2 a3 b1 b4 b5 l3 g0 g1
  have s4 := s1' L hL
  simp (disch := ((try simp only [List.length_set, List.length_replicate, List.length_append, List.length_cons, List.length_nil]); omega)) only [aW, aX, aV, aB, aN, aL, aP, aH, aM, aBl, s_law38_awake, v_law38_awake]
  refine b1.use (ld_all (by simp [frzL_nil, frzL_cons, fzp_any, fzp_nil, fzp_v, fzp_agg, fzp_tup, fzp_fn, fzp_fs, fzp_fp, fzp_sl, fzp_vs, fzp_lp, ldp_any, ldp_nil, ldp_v, ldp_agg, ldp_fn, ldp_fs, ldp_fp, ldp_sl, ldp_vs, ldp_lp, blkAt, flatA, A.cells, A.one, Lft.one, retA, A.bdL, A.bd, ints])) (by simp (disch := first | omega | simp (disch := omega) only [aF, aL, aN, aM, aBl]) only [aW, aX, aV, aB, aN, aL, aP, aH, aM, aBl, aF, Int.natCast_add, Int.natCast_mul, Int.add_sub_cancel, List.length_nil, Int.cast_ofNat_Int, and_true, true_and]) (aret_of ?_)
  simp (disch := ((try simp only [List.length_set, List.length_replicate, List.length_append, List.length_cons, List.length_nil]); omega)) only [aW, aX, aV, aB, aN, aL, aP, aH, aM, aBl, Int.toNat_zero, Int.toNat_one, g0, g1]
  refine b2.same (by simp (disch := first | omega | simp (disch := omega) only [aF, aL, aN, aM, aBl]) only [aW, aX, aV, aB, aN, aL, aP, aH, aM, aBl, aF, Int.natCast_add, Int.natCast_mul, Int.add_sub_cancel, List.length_nil, Int.cast_ofNat_Int, and_true, true_and]) rfl (aret_of ?_)
  simp (disch := ((try simp only [List.length_set, List.length_replicate, List.length_append, List.length_cons, List.length_nil]); omega)) only [aW, aX, aV, aB, aN, aL, aP, aH, aM, aBl, Int.toNat_zero, Int.toNat_one, g0, g1]
  refine b3.same (by simp (disch := first | omega | simp (disch := omega) only [aF, aL, aN, aM, aBl]) only [aW, aX, aV, aB, aN, aL, aP, aH, aM, aBl, aF, Int.natCast_add, Int.natCast_mul, Int.add_sub_cancel, List.length_nil, Int.cast_ofNat_Int, and_true, true_and]) rfl (aret_of ?_)
  simp (disch := ((try simp only [List.length_set, List.length_replicate, List.length_append, List.length_cons, List.length_nil]); omega)) only [aW, aX, aV, aB, aN, aL, aP, aH, aM, aBl, Int.toNat_zero, Int.toNat_one, g0, g1]
  refine b4.same (by simp (disch := first | omega | simp (disch := omega) only [aF, aL, aN, aM, aBl]) only [aW, aX, aV, aB, aN, aL, aP, aH, aM, aBl, aF, Int.natCast_add, Int.natCast_mul, Int.add_sub_cancel, List.length_nil, Int.cast_ofNat_Int, and_true, true_and]) (by simp (disch := first | omega | simp (disch := omega) only [aF, aL, aN, aM, aBl]) only [aW, aX, aV, aB, aN, aL, aP, aH, aM, aBl, aF, Int.natCast_add, Int.natCast_mul, Int.add_sub_cancel, List.length_nil, Int.cast_ofNat_Int, and_true, true_and]) (aret_of ?_)
  simp (disch := ((try simp only [List.length_set, List.length_replicate, List.length_append, List.length_cons, List.length_nil]); omega)) only [aW, aX, aV, aB, aN, aL, aP, aH, aM, aBl]
  refine s4.use ⟨Ld.refl (by simp [A.bd, bl_bd]), (ld_all (l := [_]) (r := [_]) (by simp [frzL_nil, frzL_cons, fzp_any, fzp_nil, fzp_v, fzp_agg, fzp_tup, fzp_fn, fzp_fs, fzp_fp, fzp_sl, fzp_vs, fzp_lp, ldp_any, ldp_nil, ldp_v, ldp_agg, ldp_fn, ldp_fs, ldp_fp, ldp_sl, ldp_vs, ldp_lp, blkAt, flatA, A.cells, A.one, Lft.one, retA, A.bdL, A.bd, ints, bls, blA, blC, flc])).1, trivial⟩ rfl (aret_of ?_)
  simp (disch := ((try simp only [List.length_set, List.length_replicate, List.length_append, List.length_cons, List.length_nil]); omega)) only [aW, aX, aV, aB, aN, aL, aP, aH, aM, aBl]
  refine s2.use (ld_all (by simp [frzL_nil, frzL_cons, fzp_any, fzp_nil, fzp_v, fzp_agg, fzp_tup, fzp_fn, fzp_fs, fzp_fp, fzp_sl, fzp_vs, fzp_lp, ldp_any, ldp_nil, ldp_v, ldp_agg, ldp_fn, ldp_fs, ldp_fp, ldp_sl, ldp_vs, ldp_lp, blkAt, flatA, A.cells, A.one, Lft.one, retA, A.bdL, A.bd, ints])) rfl (aret_of ?_)
  simp (disch := ((try simp only [List.length_set, List.length_replicate, List.length_append, List.length_cons, List.length_nil]); omega)) only [aW, aX, aV, aB, aN, aL, aP, aH, aM, aBl]
  refine s3.use (ld_all (by simp [frzL_nil, frzL_cons, fzp_any, fzp_nil, fzp_v, fzp_agg, fzp_tup, fzp_fn, fzp_fs, fzp_fp, fzp_sl, fzp_vs, fzp_lp, ldp_any, ldp_nil, ldp_v, ldp_agg, ldp_fn, ldp_fs, ldp_fp, ldp_sl, ldp_vs, ldp_lp, blkAt, flatA, A.cells, A.one, Lft.one, retA, A.bdL, A.bd, ints])) rfl (aret_of ?_)
  simp (disch := ((try simp only [List.length_set, List.length_replicate, List.length_append, List.length_cons, List.length_nil]); omega)) only [aW, aX, aV, aB, aN, aL, aP, aH, aM, aBl]
  refine b5.same (by simp (disch := first | omega | simp (disch := omega) only [aF, aL, aN, aM, aBl]) only [aW, aX, aV, aB, aN, aL, aP, aH, aM, aBl, aF, Int.natCast_add, Int.natCast_mul, Int.add_sub_cancel, List.length_nil, Int.cast_ofNat_Int, and_true, true_and]) rfl (aret_of ?_)
  simp (disch := ((try simp only [List.length_set, List.length_replicate, List.length_append, List.length_cons, List.length_nil]); omega)) only [aW, aX, aV, aB, aN, aL, aP, aH, aM, aBl, r_law38_awake]
  exact post_v ⟨rfl, rfl⟩
end Go.Proofs.Ytbgmhbjfcpddkaa
namespace Go.Proofs.Ytbgmhbjfcpddkaa
open Go Go.Lft
set_option linter.unusedSimpArgs false
set_option linter.unusedVariables false
attribute [local congr] ob_congr bw_congr ib_congr ck_congr iwA_congr itA_congr aw_congr awp_congr sqA_congr bkA_congr vr_congr gd_congr

theorem bl_of {es : List A} (h : tyBale.Sh true es) : ∃ x : Bl, tyBale.pk es = blA true x ∧ x.mix.length ≤ maxLen := by
  unfold tyBale at h ⊢
  simp only [Ty.Sh, Ty.ShL] at h
  obtain ⟨_, _, rfl, ⟨y, rfl, hy⟩, _, _, rfl, ⟨z, rfl, hz⟩, _, _, rfl, ⟨u, rfl, hu⟩, a, _, rfl, h0, rfl⟩ := h
  obtain ⟨l, h1, h2, h3⟩ := ints_of (w := true) (ce := a) (by simp only [Ty.Sh]; exact h0)
  obtain ⟨L, rfl, _⟩ := h0
  refine ⟨⟨y, z, u, l⟩, ?_, h2⟩
  have h4 : A.fs true (L.map (Ty.int .i64).pk) = .fs true (ints l) := h1
  show A.agg _ = A.agg _
  simp [h4, blC]
theorem bls_of {es : List A} (h : tyBales.Sh true es) : ∃ l : List Bl, tyBales.pk es = .fs true (bls true l) ∧ l.length ≤ maxLen ∧ ∀ b ∈ l, b.mix.length ≤ maxLen := by
  unfold tyBales at h ⊢
  simp only [Ty.Sh] at h
  obtain ⟨L, rfl, hn, h⟩ := h
  obtain ⟨l, h1, h2, h3⟩ := list_of (w := true) tyBale (blA true) (fun b => b.mix.length ≤ maxLen) (fun ce hce => bl_of hce) L (fun ce hce => by unfold tyBale; simp only [Ty.Sh]; exact h ce hce)
  exact ⟨l, by show A.fs true _ = _; unfold tyBale at h1; rw [h1]; rfl, by omega, h3⟩

def Light (l : List Bl) : Prop := l.length ≤ 70 ∧ ∀ i, i < l.length → (l.getD i bl0).mix.length ≤ 30
theorem great38_vr {w : Bool} (l : List Bl) : VR P false n_law38_great [.fs w (bls w l)] [] (fun r G => G = [] ∧ ∃ b : Bool, r = .v (.bool b) ∧ (b = false → Light l)) := by
  refine vr_law38_great (by simp) (.inr rfl) fun _ _ => ?_
  simp (disch := ((try simp only [List.length_set, List.length_replicate, List.length_append, List.length_cons, List.length_nil]); omega)) only [aW, aX, aV, aB, aN, aL, aP, aH, aM, aBl, s_law38_great, v_law38_great]
  refine ib_intro (fun h1 => ?_) (fun h1 => ?_)
  · simp (disch := ((try simp only [List.length_set, List.length_replicate, List.length_append, List.length_cons, List.length_nil]); omega)) only [aW, aX, aV, aB, aN, aL, aP, aH, aM, aBl, r_law38_great]
    exact post_v ⟨rfl, _, rfl, by simp⟩
  simp (disch := ((try simp only [List.length_set, List.length_replicate, List.length_append, List.length_cons, List.length_nil]); omega)) only [aW, aX, aV, aB, aN, aL, aP, aH, aM, aBl]
  refine AWP.loopP g_law38_great_0 (fun k : Nat => k ≤ l.length ∧ ∀ i, i < k → (l.getD i bl0).mix.length ≤ 30) (fun k => [(1, .v (.bool false)), (2, .v (.int .i64 k))]) (fun _ => []) (fun k => l.length - k) 0 ⟨by omega, by omega⟩ (by refine Cut.of' (0) ?_ (by omega) ?_ ?_ <;> simp (disch := first | omega | simp (disch := omega) only [aF, aL, aN, aM, aBl]) only [aW, aX, aV, aB, aN, aL, aP, aH, aM, aBl, aF, Int.natCast_add, Int.natCast_mul, Int.add_sub_cancel, List.length_nil, Int.cast_ofNat_Int, and_true, true_and]) ?_
  rintro k ⟨hk, hk2⟩
  by_cases hlt : k < l.length
  · simp (disch := ((try simp only [List.length_set, List.length_replicate, List.length_append, List.length_cons, List.length_nil]); omega)) only [aW, aX, aV, aB, aN, aL, aP, aH, aM, aBl]
    refine ib_intro (fun h3 => ?_) (fun h3 => ?_)
    · simp (disch := ((try simp only [List.length_set, List.length_replicate, List.length_append, List.length_cons, List.length_nil]); omega)) only [aW, aX, aV, aB, aN, aL, aP, aH, aM, aBl, r_law38_great]
      exact post_v ⟨rfl, _, rfl, by simp⟩
    · simp (disch := ((try simp only [List.length_set, List.length_replicate, List.length_append, List.length_cons, List.length_nil]); omega)) only [aW, aX, aV, aB, aN, aL, aP, aH, aM, aBl]
      refine ⟨k + 1, ⟨by omega, fun i hi => ?_⟩, by omega, (by refine Cut.of' (0) ?_ (by omega) ?_ ?_ <;> simp (disch := first | omega | simp (disch := omega) only [aF, aL, aN, aM, aBl]) only [aW, aX, aV, aB, aN, aL, aP, aH, aM, aBl, aF, Int.natCast_add, Int.natCast_mul, Int.add_sub_cancel, List.length_nil, Int.cast_ofNat_Int, and_true, true_and])⟩
      rcases Nat.lt_succ_iff_lt_or_eq.1 hi with h | rfl
      · exact hk2 i h
      · omega
  · simp (disch := ((try simp only [List.length_set, List.length_replicate, List.length_append, List.length_cons, List.length_nil]); omega)) only [aW, aX, aV, aB, aN, aL, aP, aH, aM, aBl, r_law38_great]
    exact post_v ⟨rfl, _, rfl, fun _ => ⟨by omega, fun i hi => hk2 i (by omega)⟩⟩
theorem great38_c {l : List Bl} (r : A) (G : List Blk) (h : G = [] ∧ ∃ b : Bool, r = .v (.bool b) ∧ (b = false → Light l)) : G = [] ∧ (r.cl && r.bd 0) = true := by
  obtain ⟨h1, b, rfl, _⟩ := h; exact ⟨h1, rfl⟩

theorem tot_bd (l : List Bl) (mat : Int) : (totB l mat).1.length ≤ 16 := by
  unfold totB
  split
  · simp
  rename_i h1
  split
  · simp
  have key : ∀ k, k ≤ l.length → (accB l mat.toNat k).1.length ≤ 16 := by
    intro k
    induction k with
    | zero => intro _; rw [accB_zero]; simp; omega
    | succ k ih =>
      intro hk
      rw [accB_succ _ _ _ (by omega)]
      split
      · exact ih (by omega)
      · unfold addM
        split
        · simp
        split
        · simp
        split
        · simp
        split
        · simp
        · rw [plusM_len]; exact ih (by omega)
  exact key _ (Nat.le_refl _)
theorem baleTotals_vr (l : List Bl) (mat : Int) : VR P false n_law38_BaleTotals [.fs true (bls true l), .v (.int .i64 mat)] [] (isR (.v (.bool true))) := by
  refine vr_law38_BaleTotals (by simp) (.inr rfl) fun _ _ => ?_
  have h1 := baleTotal_vr (w := true) l mat
  have h2 := refBaleTotal_vr (w := true) l mat
  have h3 := same12_vr (w := true) (v := true) (totB l mat).1 (totB l mat).1 (by have := tot_bd l mat; omega)
  rw [decide_eq_true rfl] at h3
  unfold listT at h1 h2
  generalize totB l mat = r at *
  simp (disch := ((try simp only [List.length_set, List.length_replicate, List.length_append, List.length_cons, List.length_nil]); omega)) only [aW, aX, aV, aB, aN, aL, aP, aH, aM, aBl, s_law38_BaleTotals, v_law38_BaleTotals]
  refine (great38_vr (w := true) l).useE (LdL.refl (by simp (disch := first | omega | simp (disch := omega) only [aF, aL, aN, aM, aBl]) only [aW, aX, aV, aB, aN, aL, aP, aH, aM, aBl, aF, Int.natCast_add, Int.natCast_mul, Int.add_sub_cancel, List.length_nil, Int.cast_ofNat_Int, and_true, true_and])) great38_c ?_
  rintro r0 ⟨_, b, rfl, hb⟩
  refine aret_of ?_
  cases b with
  | true =>
    simp (disch := ((try simp only [List.length_set, List.length_replicate, List.length_append, List.length_cons, List.length_nil]); omega)) only [aW, aX, aV, aB, aN, aL, aP, aH, aM, aBl]
    refine awake38_vr.same (by simp (disch := first | omega | simp (disch := omega) only [aF, aL, aN, aM, aBl]) only [aW, aX, aV, aB, aN, aL, aP, aH, aM, aBl, aF, Int.natCast_add, Int.natCast_mul, Int.add_sub_cancel, List.length_nil, Int.cast_ofNat_Int, and_true, true_and]) rfl (aret_of ?_)
    simp (disch := ((try simp only [List.length_set, List.length_replicate, List.length_append, List.length_cons, List.length_nil]); omega)) only [aW, aX, aV, aB, aN, aL, aP, aH, aM, aBl, r_law38_BaleTotals]
    exact post_v ⟨rfl, rfl⟩
  | false =>
    simp (disch := ((try simp only [List.length_set, List.length_replicate, List.length_append, List.length_cons, List.length_nil]); omega)) only [aW, aX, aV, aB, aN, aL, aP, aH, aM, aBl]
    refine h1.same (by simp (disch := first | omega | simp (disch := omega) only [aF, aL, aN, aM, aBl]) only [aW, aX, aV, aB, aN, aL, aP, aH, aM, aBl, aF, Int.natCast_add, Int.natCast_mul, Int.add_sub_cancel, List.length_nil, Int.cast_ofNat_Int, and_true, true_and]) (by simp (disch := first | omega | simp (disch := omega) only [aF, aL, aN, aM, aBl]) only [aW, aX, aV, aB, aN, aL, aP, aH, aM, aBl, aF, Int.natCast_add, Int.natCast_mul, Int.add_sub_cancel, List.length_nil, Int.cast_ofNat_Int, and_true, true_and]) (aret_of ?_)
    simp (disch := ((try simp only [List.length_set, List.length_replicate, List.length_append, List.length_cons, List.length_nil]); omega)) only [aW, aX, aV, aB, aN, aL, aP, aH, aM, aBl]
    refine h2.same (by simp (disch := first | omega | simp (disch := omega) only [aF, aL, aN, aM, aBl]) only [aW, aX, aV, aB, aN, aL, aP, aH, aM, aBl, aF, Int.natCast_add, Int.natCast_mul, Int.add_sub_cancel, List.length_nil, Int.cast_ofNat_Int, and_true, true_and]) (by simp (disch := first | omega | simp (disch := omega) only [aF, aL, aN, aM, aBl]) only [aW, aX, aV, aB, aN, aL, aP, aH, aM, aBl, aF, Int.natCast_add, Int.natCast_mul, Int.add_sub_cancel, List.length_nil, Int.cast_ofNat_Int, and_true, true_and]) (aret_of ?_)
    simp (disch := ((try simp only [List.length_set, List.length_replicate, List.length_append, List.length_cons, List.length_nil]); omega)) only [aW, aX, aV, aB, aN, aL, aP, aH, aM, aBl]
    refine h3.same (by simp (disch := first | omega | simp (disch := omega) only [aF, aL, aN, aM, aBl]) only [aW, aX, aV, aB, aN, aL, aP, aH, aM, aBl, aF, Int.natCast_add, Int.natCast_mul, Int.add_sub_cancel, List.length_nil, Int.cast_ofNat_Int, and_true, true_and]) rfl (aret_of ?_)
    simp (disch := ((try simp only [List.length_set, List.length_replicate, List.length_append, List.length_cons, List.length_nil]); omega)) only [aW, aX, aV, aB, aN, aL, aP, aH, aM, aBl]
    refine awake38_vr.same (by simp (disch := first | omega | simp (disch := omega) only [aF, aL, aN, aM, aBl]) only [aW, aX, aV, aB, aN, aL, aP, aH, aM, aBl, aF, Int.natCast_add, Int.natCast_mul, Int.add_sub_cancel, List.length_nil, Int.cast_ofNat_Int, and_true, true_and]) rfl (aret_of ?_)
    simp (disch := ((try simp only [List.length_set, List.length_replicate, List.length_append, List.length_cons, List.length_nil]); omega)) only [aW, aX, aV, aB, aN, aL, aP, aH, aM, aBl, r_law38_BaleTotals]
    exact post_v ⟨rfl, rfl⟩

end Go.Proofs.Ytbgmhbjfcpddkaa
