/- Lemmas and walks that the proof of BaleValid uses. No statement is claimed here. -/
import Derived.Test.YtbgmhbjfcpddkaaBaleValidZam
namespace Go.Proofs.Ytbgmhbjfcpddkaa
open Go Go.Lft
set_option linter.unusedSimpArgs false
set_option linter.unusedVariables false
attribute [local congr] ob_congr bw_congr ib_congr ck_congr iwA_congr itA_congr aw_congr awp_congr sqA_congr bkA_congr vr_congr gd_congr

/-- Splitting what is left, in the program. -/
theorem splitMix_vr {w : Bool} {t : Int} {ws : List Int} (h : mixE ws = 0) (ht : 0 < t ∧ t ≤ 1073741824) (he : splitE t ws = 0) : VR P false n_share_Split [.v (.int .i64 t), .fs w (ints ws)] [] (isR (.tup [.fs true (ints (partsR t ws)), .v (.int .i64 0)])) := by
  have h1 := shareSplit_vr (w := w) t ws fun _ => divOk_small (splitE_ok he) fun i hi => by
    have h2 := mixE_get h i hi
    have h3 : t * ws.getD i 0 ≤ 1073741824 * 1073741824 := Int.mul_le_mul ht.2 h2.2 h2.1 (by omega)
    omega
  have e : splitV t ws = (partsR t ws, 0) := by unfold splitV; rw [if_neg (by omega)]
  rw [e] at h1
  exact h1
theorem balePress_vr {w : Bool} (xs : List Int) (size kind first tm : Int) : VR P false n_bale_Press [.fs w (ints xs), .v (.int .i64 size), .v (.int .i64 kind), .v (.int .i64 first), .v (.int .i64 tm)] [] (isR (pressT (pressV xs size kind first tm))) := by
  refine vr_bale_Press (by simp) (.inr rfl) fun _ _ => ?_
  have ht := materialTotal_vr (w := w) xs
  unfold pairT at ht
  unfold pressT
  by_cases h1 : mixE xs = 0
  case neg =>
    rw [totM_err h1] at ht
    rw [press_e1 h1]
    simp (disch := ((try simp only [List.length_set, List.length_replicate, List.length_append, List.length_cons, List.length_nil]); omega)) only [aW, aX, aV, aB, aN, aL, aP, aH, aM, aBl, s_bale_Press, v_bale_Press]
    refine ht.same (by simp (disch := first | omega | simp (disch := omega) only [aF, aL, aN, aM, aBl]) only [aW, aX, aV, aB, aN, aL, aP, aH, aM, aBl, aF, Int.natCast_add, Int.natCast_mul, Int.add_sub_cancel, List.length_nil, Int.cast_ofNat_Int, and_true, true_and]) (by simp (disch := first | omega | simp (disch := omega) only [aF, aL, aN, aM, aBl]) only [aW, aX, aV, aB, aN, aL, aP, aH, aM, aBl, aF, Int.natCast_add, Int.natCast_mul, Int.add_sub_cancel, List.length_nil, Int.cast_ofNat_Int, and_true, true_and]) (aret_of ?_)
    simp (disch := ((try simp only [List.length_set, List.length_replicate, List.length_append, List.length_cons, List.length_nil]); omega)) only [aW, aX, aV, aB, aN, aL, aP, aH, aM, aBl, r_bale_Press]
    exact post_err2 ⟨rfl, rfl⟩
  rw [totM_ok h1] at ht
  have hs := sum_mix h1
  have hl := (mixE_ok.1 h1).1
  simp (disch := ((try simp only [List.length_set, List.length_replicate, List.length_append, List.length_cons, List.length_nil]); omega)) only [aW, aX, aV, aB, aN, aL, aP, aH, aM, aBl, s_bale_Press, v_bale_Press]
  refine ht.same (by simp (disch := first | omega | simp (disch := omega) only [aF, aL, aN, aM, aBl]) only [aW, aX, aV, aB, aN, aL, aP, aH, aM, aBl, aF, Int.natCast_add, Int.natCast_mul, Int.add_sub_cancel, List.length_nil, Int.cast_ofNat_Int, and_true, true_and]) (by simp (disch := first | omega | simp (disch := omega) only [aF, aL, aN, aM, aBl]) only [aW, aX, aV, aB, aN, aL, aP, aH, aM, aBl, aF, Int.natCast_add, Int.natCast_mul, Int.add_sub_cancel, List.length_nil, Int.cast_ofNat_Int, and_true, true_and]) (aret_of ?_)
  by_cases h2 : size < 1 ∨ 1073741824 < size ∨ kind < 0 ∨ (xs.length : Int) ≤ kind ∨ first < 1 ∨ 1000000 < first
  · rw [press_e2 h1 (by omega)]
    simp (disch := ((try simp only [List.length_set, List.length_replicate, List.length_append, List.length_cons, List.length_nil]); omega)) only [aW, aX, aV, aB, aN, aL, aP, aH, aM, aBl, r_bale_Press]
    exact post_err2 ⟨rfl, rfl⟩
  simp (disch := ((try simp only [List.length_set, List.length_replicate, List.length_append, List.length_cons, List.length_nil]); omega)) only [aW, aX, aV, aB, aN, aL, aP, aH, aM, aBl]
  refine (moment_vr tm).same (by simp (disch := first | omega | simp (disch := omega) only [aF, aL, aN, aM, aBl]) only [aW, aX, aV, aB, aN, aL, aP, aH, aM, aBl, aF, Int.natCast_add, Int.natCast_mul, Int.add_sub_cancel, List.length_nil, Int.cast_ofNat_Int, and_true, true_and]) rfl (aret_of ?_)
  by_cases h3 : 0 ≤ tm ∧ tm ≤ 3155759999
  case neg =>
    rw [press_e2 h1 (by omega), decide_eq_false h3]
    simp (disch := ((try simp only [List.length_set, List.length_replicate, List.length_append, List.length_cons, List.length_nil]); omega)) only [aW, aX, aV, aB, aN, aL, aP, aH, aM, aBl, r_bale_Press]
    exact post_err2 ⟨rfl, rfl⟩
  rw [decide_eq_true h3]
  have h4 : ¬ (size < 1 ∨ 1073741824 < size ∨ kind < 0 ∨ (xs.length : Int) ≤ kind ∨ first < 1 ∨ 1000000 < first ∨ tm < 0 ∨ 3155759999 < tm) := by omega
  obtain ⟨d1, d2, d3⟩ := div_facts hs.1 (show 1 ≤ size by omega)
  have d4 : xs.sum / size ≤ xs.sum := Int.ediv_le_self _ hs.1
  simp (disch := ((try simp only [List.length_set, List.length_replicate, List.length_append, List.length_cons, List.length_nil]); omega)) only [aW, aX, aV, aB, aN, aL, aP, aH, aM, aBl]
  refine ib_intro (fun h5 => ?_) (fun h5 => ?_)
  · rw [press_e3 h1 h4 h5]
    simp (disch := ((try simp only [List.length_set, List.length_replicate, List.length_append, List.length_cons, List.length_nil]); omega)) only [aW, aX, aV, aB, aN, aL, aP, aH, aM, aBl, r_bale_Press]
    exact post_err2 ⟨rfl, rfl⟩
  simp (disch := ((try simp only [List.length_set, List.length_replicate, List.length_append, List.length_cons, List.length_nil]); omega)) only [aW, aX, aV, aB, aN, aL, aP, aH, aM, aBl]
  refine ib_intro (fun h6 => ?_) (fun h6 => ?_)
  · rw [press_e4 h1 h4 h5 h6]
    simp (disch := ((try simp only [List.length_set, List.length_replicate, List.length_append, List.length_cons, List.length_nil]); omega)) only [aW, aX, aV, aB, aN, aL, aP, aH, aM, aBl, r_bale_Press]
    exact post_err2 ⟨rfl, rfl⟩
  obtain ⟨e0, ok⟩ := press_ok h1 h4 h5 h6
  rw [press_v e0, ok.n1]
  have hn2 := ok.n2
  have hn3 := ok.n3
  have hbl := fun k => balesP_len xs size kind first tm k
  simp (disch := ((try simp only [List.length_set, List.length_replicate, List.length_append, List.length_cons, List.length_nil]); omega)) only [aW, aX, aV, aB, aN, aL, aP, aH, aM, aBl, Int.toNat_natCast]
  refine AWP.cut (Cut.virt 12 4 rfl) ?_
  refine AWP.loopP (α := Nat × Nat) g_bale_Press_0 (fun q => q.1 ≤ pressN xs size) (fun q => [(5, .v (.slice none 0 0)), (6, .v (.slice none 0 0)), (7, .v (.int .i64 0)), (12, .vs 1 q.2 4 q.1), (13, .v (.int .i64 q.1))]) (fun q => [(0, ⟨0, ints (leftP xs size q.1)⟩), (1, ⟨q.2, blcs true (balesP xs size kind first tm q.1)⟩)]) (fun q => pressN xs size - q.1) (0, 0) (by simp) ?_ ?_
  · have z1 : leftP xs size 0 = xs := rfl
    have z2 : blcs true (balesP xs size kind first tm 0) = [] := rfl
    have z3 : splA (ints (List.replicate xs.length 0)) 0 (ints xs) = ints xs := spl_zero _ _ (by simp [ii_len])
    simp only [z1, z2]
    try simp (disch := ((try simp only [List.length_set, List.length_replicate, List.length_append, List.length_cons, List.length_nil]); omega)) only [aW, aX, aV, aB, aN, aL, aP, aH, aM, aBl]
    exact Cut.of' 2 rfl (by omega) (by simp (disch := first | omega | simp (disch := omega) only [aF, aL, aN, aM, aBl]) only [aW, aX, aV, aB, aN, aL, aP, aH, aM, aBl, aF, Int.natCast_add, Int.natCast_mul, Int.add_sub_cancel, List.length_nil, Int.cast_ofNat_Int, and_true, true_and, z3]) (by simp (disch := first | omega | simp (disch := omega) only [aF, aL, aN, aM, aBl]) only [aW, aX, aV, aB, aN, aL, aP, aH, aM, aBl, aF, Int.natCast_add, Int.natCast_mul, Int.add_sub_cancel, List.length_nil, Int.cast_ofNat_Int, and_true, true_and])
  rintro ⟨k, ver⟩ hk
  simp only at hk
  have hL := ok.left hk
  have hLl := hL.len
  by_cases hlt : k < pressN xs size
  · obtain ⟨p1, p2, p3⟩ := ok.parts hlt
    have hpl := p2.len
    have hv := splitMix_vr (w := false) hL.mix (t := size) (by omega) p1
    have hsucc := balesP_succ xs size kind first tm k
    have hsl : leftP xs size (k + 1) = subM (leftP xs size k) (partsR size (leftP xs size k)) := rfl
    have hbp : baleP xs size kind first tm k = ⟨first + k, kind, tm, partsR size (leftP xs size k)⟩ := rfl
    have hkl := hbl k
    generalize partsR size (leftP xs size k) = p at *
    have hmx := mixE_get hL.mix
    generalize hW : leftP xs size k = W at *
    simp (disch := ((try simp only [List.length_set, List.length_replicate, List.length_append, List.length_cons, List.length_nil]); omega)) only [aW, aX, aV, aB, aN, aL, aP, aH, aM, aBl]
    refine hv.use ⟨Ld.refl rfl, ld_slI _ 0 0 _ W hLl.symm rfl, trivial⟩ (by simp (disch := first | omega | simp (disch := omega) only [aF, aL, aN, aM, aBl]) only [aW, aX, aV, aB, aN, aL, aP, aH, aM, aBl, aF, Int.natCast_add, Int.natCast_mul, Int.add_sub_cancel, List.length_nil, Int.cast_ofNat_Int, and_true, true_and]) (aret_of ?_)
    simp (disch := ((try simp only [List.length_set, List.length_replicate, List.length_append, List.length_cons, List.length_nil]); omega)) only [aW, aX, aV, aB, aN, aL, aP, aH, aM, aBl]
    refine AWP.loopP g_bale_Press_1 (fun j : Nat => j ≤ W.length) (fun j => [(19, .v (.int .i64 j))]) (fun j => [(0, ⟨0, ints (frontS W p j)⟩)]) (fun j => W.length - j) 0 (by omega) ?_ ?_
    · rw [frontS_zero]
      try simp (disch := ((try simp only [List.length_set, List.length_replicate, List.length_append, List.length_cons, List.length_nil]); omega)) only [aW, aX, aV, aB, aN, aL, aP, aH, aM, aBl]
      exact Cut.of' 2 rfl (by omega) (by simp (disch := first | omega | simp (disch := omega) only [aF, aL, aN, aM, aBl]) only [aW, aX, aV, aB, aN, aL, aP, aH, aM, aBl, aF, Int.natCast_add, Int.natCast_mul, Int.add_sub_cancel, List.length_nil, Int.cast_ofNat_Int, and_true, true_and]) (by simp (disch := first | omega | simp (disch := omega) only [aF, aL, aN, aM, aBl]) only [aW, aX, aV, aB, aN, aL, aP, aH, aM, aBl, aF, Int.natCast_add, Int.natCast_mul, Int.add_sub_cancel, List.length_nil, Int.cast_ofNat_Int, and_true, true_and])
    rintro j hj
    have fl := frontS_len W p j hj
    by_cases hjl : j < W.length
    · have q1 := p3 j (by omega)
      have q2 := hmx j hjl
      have q3 := frontS_get W p j hjl
      have q4 := frontS_set W p j hjl
      simp (disch := ((try simp only [List.length_set, List.length_replicate, List.length_append, List.length_cons, List.length_nil]); omega)) only [aW, aX, aV, aB, aN, aL, aP, aH, aM, aBl, q3, q4]
      refine ⟨j + 1, by omega, by omega, ?_⟩
      exact Cut.of' 2 rfl (by omega) (by simp (disch := first | omega | simp (disch := omega) only [aF, aL, aN, aM, aBl]) only [aW, aX, aV, aB, aN, aL, aP, aH, aM, aBl, aF, Int.natCast_add, Int.natCast_mul, Int.add_sub_cancel, List.length_nil, Int.cast_ofNat_Int, and_true, true_and]) (by simp (disch := first | omega | simp (disch := omega) only [aF, aL, aN, aM, aBl]) only [aW, aX, aV, aB, aN, aL, aP, aH, aM, aBl, aF, Int.natCast_add, Int.natCast_mul, Int.add_sub_cancel, List.length_nil, Int.cast_ofNat_Int, and_true, true_and])
    have hje : j = W.length := by omega
    subst hje
    rw [frontS_all, ← hsl]
    simp (disch := ((try simp only [List.length_set, List.length_replicate, List.length_append, List.length_cons, List.length_nil]); omega)) only [aW, aX, aV, aB, aN, aL, aP, aH, aM, aBl, ← hbp]
    refine ⟨(k + 1, ver + 1), by simp only; omega, by simp only; omega, ?_⟩
    simp only
    rw [hsucc, hbp]
    exact Cut.of' 2 rfl (by omega) (by simp (disch := first | omega | simp (disch := omega) only [aF, aL, aN, aM, aBl]) only [aW, aX, aV, aB, aN, aL, aP, aH, aM, aBl, aF, Int.natCast_add, Int.natCast_mul, Int.add_sub_cancel, List.length_nil, Int.cast_ofNat_Int, and_true, true_and]) (by simp (disch := first | omega | simp (disch := omega) only [aF, aL, aN, aM, aBl]) only [aW, aX, aV, aB, aN, aL, aP, aH, aM, aBl, aF, Int.natCast_add, Int.natCast_mul, Int.add_sub_cancel, List.length_nil, Int.cast_ofNat_Int, and_true, true_and])
  have hke : k = pressN xs size := by omega
  subst hke
  simp (disch := ((try simp only [List.length_set, List.length_replicate, List.length_append, List.length_cons, List.length_nil]); omega)) only [aW, aX, aV, aB, aN, aL, aP, aH, aM, aBl, r_bale_Press]
  exact post0 (r := .tup [.fs true (bls true (balesP xs size kind first tm (pressN xs size))), .fs true (ints (leftP xs size (pressN xs size))), .v (.int .i64 0)]) (Fz.tup ⟨fz_vsBl 0 _ 1 ver _ _ (by omega) (hbl _).symm (by simp [blkAt]), fz_slI 0 _ 0 0 _ _ (by omega) hLl.symm rfl, Fz.refl rfl, trivial⟩) ⟨rfl, rfl⟩

end Go.Proofs.Ytbgmhbjfcpddkaa
namespace Go.Proofs.Ytbgmhbjfcpddkaa
open Go Go.Lft
set_option linter.unusedSimpArgs false
set_option linter.unusedVariables false

def isB (m o : Int) (b : Bt) : Prop := b.fr = m ∧ b.ot = o
instance (m o : Int) : DecidablePred (isB m o) := fun b => by unfold isB; infer_instance
def findB (bs : List Bt) (m o : Int) : Int := idxE (isB m o) bs
def beltE (ms : List Mc) (b : Bt) : Int :=
  if b.fr < 0 ∨ (ms.length : Int) ≤ b.fr ∨ b.ot < 0 ∨ (outsN (ms.getD b.fr.toNat []) : Int) ≤ b.ot ∨ b.to < 0 ∨ (ms.length : Int) ≤ b.to then 7
  else if b.ln < 1 ∨ 16 < b.ln then 1 else 0
def twice (bs : List Bt) : Prop := ∃ k, k < bs.length ∧ findB bs (bs.getD k b0).fr (bs.getD k b0).ot ≠ k
def openO (ms : List Mc) (bs : List Bt) : Prop := ∃ i, i < ms.length ∧ ∃ o, o < outsN (ms.getD i []) ∧ findB bs i o < 0
instance (bs : List Bt) : Decidable (twice bs) := by unfold twice; infer_instance
instance (ms : List Mc) (bs : List Bt) : Decidable (openO ms bs) := by unfold openO; infer_instance
def beltsE (ms : List Mc) (bs : List Bt) : Int :=
  if firstE (beltE ms) bs ≠ 0 then firstE (beltE ms) bs else if twice bs then 6 else 0
def pcheck (p : Pl) : Int :=
  if p.mat < 1 ∨ 16 < p.mat then 1 else if p.ms.length = 0 then 10 else if 24 < p.ms.length ∨ 48 < p.bs.length then 8
  else if firstE (fun m => mcheck m p.mat) p.ms ≠ 0 then firstE (fun m => mcheck m p.mat) p.ms
  else if beltsE p.ms p.bs ≠ 0 then beltsE p.ms p.bs
  else if openO p.ms p.bs then 3
  else if p.fd < 0 ∨ (p.ms.length : Int) ≤ p.fd then 7
  else if outsN (p.ms.getD p.fd.toNat []) = 0 then 13 else 0

/-! ### Ways -/
/-- The number of the belt on which a material leaves a machine. -/
def outB (p : Pl) (mt : Int) (at0 : Nat) : Nat := (findB p.bs at0 (mainN (p.ms.getD at0 []) mt)).toNat
def lx (p : Pl) (mt : Int) (at0 : Nat) : Int := (p.bs.getD (outB p mt at0) b0).ln
def binN (p : Pl) (at0 : Nat) : Prop := outsN (p.ms.getD at0 []) = 0
instance (p : Pl) : DecidablePred (binN p) := fun i => by unfold binN; infer_instance
theorem t1 : pcheck ⟨1, [[[900, 100]], [[]]], [⟨0, 0, 1, 2⟩, ⟨0, 1, 0, 3⟩], 0⟩ = 0 := by decide +kernel
end Go.Proofs.Ytbgmhbjfcpddkaa
namespace Go.Proofs.Ytbgmhbjfcpddkaa
open Go Go.Lft
set_option linter.unusedSimpArgs false
set_option linter.unusedVariables false

theorem list_of {α : Type} {w : Bool} (t : Ty) (f : α → A) (Q : α → Prop) (h1 : ∀ ce, t.Sh w ce → ∃ x, t.pk ce = f x ∧ Q x) : ∀ (L : List (List A)), (∀ ce ∈ L, t.Sh w ce) → ∃ l : List α, L.map t.pk = l.map f ∧ L.length = l.length ∧ ∀ x ∈ l, Q x
  | [], _ => ⟨[], rfl, rfl, by simp⟩
  | ce :: L, h => by
    obtain ⟨l, hl, hn, hq⟩ := list_of t f Q h1 L fun x hx => h x (by simp [hx])
    obtain ⟨x, hx, hqx⟩ := h1 ce (h ce (by simp))
    exact ⟨x :: l, by rw [List.map_cons, hl, hx]; rfl, by simp [hn], fun y hy => by
      rcases List.mem_cons.1 hy with rfl | hy
      · exact hqx
      · exact hq y hy⟩
theorem i64_of {w : Bool} {ce : List A} (h : (Ty.int .i64).Sh w ce) : ∃ n : Int, (Ty.int .i64).pk ce = .v (.int .i64 n) ∧ (Lit.int .i64 n).wf = true := by
  simp only [Ty.Sh] at h
  obtain ⟨n, rfl, h⟩ := h; exact ⟨n, rfl, h⟩
theorem wf_i64 {n : Int} (h : (Lit.int .i64 n).wf = true) : -9223372036854775808 ≤ n ∧ n ≤ 9223372036854775807 := by
  simp only [Lit.wf, Bool.and_eq_true, decide_eq_true_eq] at h
  have h1 : IntKind.i64.max = 9223372036854775807 := rfl
  have h2 : IntKind.i64.min = -9223372036854775808 := rfl
  omega
/-- A row of numbers; all are numbers of the kind. -/
def fit (n : Int) : Prop := -9223372036854775808 ≤ n ∧ n ≤ 9223372036854775807
theorem ints_of {w : Bool} {ce : List A} (h : (Ty.sl (.int .i64)).Sh w ce) : ∃ l : List Int, (Ty.sl (.int .i64)).pk ce = .fs w (ints l) ∧ l.length ≤ maxLen ∧ ∀ x ∈ l, fit x := by
  simp only [Ty.Sh] at h
  obtain ⟨L, rfl, hn, h⟩ := h
  obtain ⟨l, h1, h2, h3⟩ := list_of (w := w) (.int .i64) (fun n => A.v (.int .i64 n)) fit (fun ce hce => by
    obtain ⟨n, e1, e2⟩ := i64_of hce; exact ⟨n, e1, wf_i64 e2⟩) L (fun ce hce => by simp only [Ty.Sh]; exact h ce hce)
  exact ⟨l, by show A.fs w _ = _; rw [h1]; rfl, by omega, h3⟩
end Go.Proofs.Ytbgmhbjfcpddkaa
namespace Go.Proofs.Ytbgmhbjfcpddkaa
open Go Go.Lft
set_option linter.unusedSimpArgs false
set_option linter.unusedVariables false
attribute [local congr] ob_congr bw_congr ib_congr ck_congr iwA_congr itA_congr aw_congr awp_congr sqA_congr bkA_congr vr_congr gd_congr

def tyAsk : Ty := (.st [(.sl (.int .i64)), (.int .i64), (.int .i64), (.int .i64), (.int .i64)])
theorem tyAsk_is : tyAsk.Is Try.prog 25 := by
  unfold tyAsk
  simp only [Ty.Is]
  refine ⟨_, Try.underlying25, by kernel_rfl, ?_⟩
  simp only [Ty.IsL, Ty.Is]
  refine ⟨by first | rfl | trivial, by kernel_rfl, ?_, ?_⟩
  ·
    refine ⟨3, Try.underlying23, by kernel_rfl, by decide, ?_⟩
    exact Try.underlying3
  refine ⟨by first | rfl | trivial, by kernel_rfl, ?_, ?_⟩
  ·
    exact Try.underlying3
  refine ⟨by first | rfl | trivial, by kernel_rfl, ?_, ?_⟩
  ·
    exact Try.underlying3
  refine ⟨by first | rfl | trivial, by kernel_rfl, ?_, ?_⟩
  ·
    exact Try.underlying3
  refine ⟨by first | rfl | trivial, by kernel_rfl, ?_, ?_⟩
  ·
    exact Try.underlying3
  trivial
theorem grams_vr {w : Bool} (b : Bl) : VR P false n_bale_Grams [blA w b] [] (isR (pairT (totM b.mix))) := by
  refine vr_bale_Grams (by simp) (.inr rfl) fun _ _ => ?_
  have h := materialTotal_vr (w := w) b.mix
  unfold pairT at h ⊢
  unfold blA blC
  generalize totM b.mix = r at *
  simp (disch := ((try simp only [List.length_set, List.length_replicate, List.length_append, List.length_cons, List.length_nil]); omega)) only [aW, aX, aV, aB, aN, aL, aP, aH, aM, aBl, s_bale_Grams, v_bale_Grams]
  refine h.same (by simp (disch := first | omega | simp (disch := omega) only [aF, aL, aN, aM, aBl]) only [aW, aX, aV, aB, aN, aL, aP, aH, aM, aBl, aF, Int.natCast_add, Int.natCast_mul, Int.add_sub_cancel, List.length_nil, Int.cast_ofNat_Int, and_true, true_and]) (by simp (disch := first | omega | simp (disch := omega) only [aF, aL, aN, aM, aBl]) only [aW, aX, aV, aB, aN, aL, aP, aH, aM, aBl, aF, Int.natCast_add, Int.natCast_mul, Int.add_sub_cancel, List.length_nil, Int.cast_ofNat_Int, and_true, true_and]) (aret_of ?_)
  simp (disch := ((try simp only [List.length_set, List.length_replicate, List.length_append, List.length_cons, List.length_nil]); omega)) only [aW, aX, aV, aB, aN, aL, aP, aH, aM, aBl, r_bale_Grams]
  exact post0 (Fz.refl rfl) ⟨rfl, rfl⟩
theorem balePurity_vr {w : Bool} (b : Bl) : VR P false n_bale_Purity [blA w b] [] (isR (pairT (purM b.mix b.mt))) := by
  refine vr_bale_Purity (by simp) (.inr rfl) fun _ _ => ?_
  have h := materialPurity_vr (w := w) b.mix b.mt
  unfold pairT at h ⊢
  unfold blA blC
  generalize purM b.mix b.mt = r at *
  simp (disch := ((try simp only [List.length_set, List.length_replicate, List.length_append, List.length_cons, List.length_nil]); omega)) only [aW, aX, aV, aB, aN, aL, aP, aH, aM, aBl, s_bale_Purity, v_bale_Purity]
  refine h.same (by simp (disch := first | omega | simp (disch := omega) only [aF, aL, aN, aM, aBl]) only [aW, aX, aV, aB, aN, aL, aP, aH, aM, aBl, aF, Int.natCast_add, Int.natCast_mul, Int.add_sub_cancel, List.length_nil, Int.cast_ofNat_Int, and_true, true_and]) (by simp (disch := first | omega | simp (disch := omega) only [aF, aL, aN, aM, aBl]) only [aW, aX, aV, aB, aN, aL, aP, aH, aM, aBl, aF, Int.natCast_add, Int.natCast_mul, Int.add_sub_cancel, List.length_nil, Int.cast_ofNat_Int, and_true, true_and]) (aret_of ?_)
  simp (disch := ((try simp only [List.length_set, List.length_replicate, List.length_append, List.length_cons, List.length_nil]); omega)) only [aW, aX, aV, aB, aN, aL, aP, aH, aM, aBl, r_bale_Purity]
  exact post0 (Fz.refl rfl) ⟨rfl, rfl⟩
theorem same38_vr {w v : Bool} (a b : List Bl) (hl : a.length < 1000000000) (hm : ∀ x ∈ a, x.mix.length < 1000000000) : VR P false n_ref38_Same [.fs w (bls w a), .fs v (bls v b)] [] (isR (.v (.bool (decide (a = b))))) := by
  refine vr_ref38_Same (by simp) (.inr rfl) fun _ _ => ?_
  simp (disch := ((try simp only [List.length_set, List.length_replicate, List.length_append, List.length_cons, List.length_nil]); omega)) only [aW, aX, aV, aB, aN, aL, aP, aH, aM, aBl, s_ref38_Same, v_ref38_Same]
  refine ib_intro (fun h1 => ?_) (fun h1 => ?_)
  · simp (disch := ((try simp only [List.length_set, List.length_replicate, List.length_append, List.length_cons, List.length_nil]); omega)) only [aW, aX, aV, aB, aN, aL, aP, aH, aM, aBl, r_ref38_Same]
    refine post_v ⟨vfalse ?_, rfl⟩
    rintro rfl; omega
  have hlen : a.length = b.length := by omega
  simp (disch := ((try simp only [List.length_set, List.length_replicate, List.length_append, List.length_cons, List.length_nil]); omega)) only [aW, aX, aV, aB, aN, aL, aP, aH, aM, aBl]
  refine AWP.loopP g_ref38_Same_0 (fun k : Nat => k ≤ a.length ∧ ∀ i, i < k → a.getD i bl0 = b.getD i bl0) (fun k => [(2, .v (.bool false)), (3, .v (.int .i64 k))]) (fun _ => []) (fun k => a.length - k) 0 ⟨by omega, fun i hi => by omega⟩ (by refine Cut.of' (0) ?_ (by omega) ?_ ?_ <;> simp (disch := first | omega | simp (disch := omega) only [aF, aL, aN, aM, aBl]) only [aW, aX, aV, aB, aN, aL, aP, aH, aM, aBl, aF, Int.natCast_add, Int.natCast_mul, Int.add_sub_cancel, List.length_nil, Int.cast_ofNat_Int, and_true, true_and]) ?_
  rintro k ⟨hk, hg⟩
  by_cases hlt : k < a.length
  · have hv := same12_vr (w := w) (v := v) (a.getD k bl0).mix (b.getD k bl0).mix (hm _ (mem_get bl0 hlt))
    by_cases h3 : (a.getD k bl0).id = (b.getD k bl0).id ∧ (a.getD k bl0).mt = (b.getD k bl0).mt ∧ (a.getD k bl0).tm = (b.getD k bl0).tm
    case neg =>
      have h4 : ((a.getD k bl0).id ≠ (b.getD k bl0).id ∨ (a.getD k bl0).mt ≠ (b.getD k bl0).mt) ∨ (a.getD k bl0).tm ≠ (b.getD k bl0).tm := by omega
      simp (disch := ((try simp only [List.length_set, List.length_replicate, List.length_append, List.length_cons, List.length_nil]); omega)) only [aW, aX, aV, aB, aN, aL, aP, aH, aM, aBl, decide_eq_true h4, r_ref38_Same]
      refine post_v ⟨vfalse ?_, rfl⟩
      rintro rfl; exact h3 ⟨rfl, rfl, rfl⟩
    have h4 : ¬ (((a.getD k bl0).id ≠ (b.getD k bl0).id ∨ (a.getD k bl0).mt ≠ (b.getD k bl0).mt) ∨ (a.getD k bl0).tm ≠ (b.getD k bl0).tm) := by omega
    simp (disch := ((try simp only [List.length_set, List.length_replicate, List.length_append, List.length_cons, List.length_nil]); omega)) only [aW, aX, aV, aB, aN, aL, aP, aH, aM, aBl, decide_eq_false h4]
    refine hv.same (by simp (disch := first | omega | simp (disch := omega) only [aF, aL, aN, aM, aBl]) only [aW, aX, aV, aB, aN, aL, aP, aH, aM, aBl, aF, Int.natCast_add, Int.natCast_mul, Int.add_sub_cancel, List.length_nil, Int.cast_ofNat_Int, and_true, true_and]) rfl (aret_of ?_)
    by_cases h5 : (a.getD k bl0).mix = (b.getD k bl0).mix
    case neg =>
      rw [decide_eq_false h5]
      simp (disch := ((try simp only [List.length_set, List.length_replicate, List.length_append, List.length_cons, List.length_nil]); omega)) only [aW, aX, aV, aB, aN, aL, aP, aH, aM, aBl, r_ref38_Same]
      refine post_v ⟨vfalse ?_, rfl⟩
      rintro rfl; exact h5 rfl
    rw [decide_eq_true h5]
    simp (disch := ((try simp only [List.length_set, List.length_replicate, List.length_append, List.length_cons, List.length_nil]); omega)) only [aW, aX, aV, aB, aN, aL, aP, aH, aM, aBl]
    refine ⟨k + 1, ⟨by omega, fun i hi => ?_⟩, by omega, (by refine Cut.of' (0) ?_ (by omega) ?_ ?_ <;> simp (disch := first | omega | simp (disch := omega) only [aF, aL, aN, aM, aBl]) only [aW, aX, aV, aB, aN, aL, aP, aH, aM, aBl, aF, Int.natCast_add, Int.natCast_mul, Int.add_sub_cancel, List.length_nil, Int.cast_ofNat_Int, and_true, true_and])⟩
    rcases Nat.lt_succ_iff_lt_or_eq.1 hi with h | rfl
    · exact hg i h
    · generalize a.getD i bl0 = x at *
      generalize b.getD i bl0 = y at *
      cases x; cases y; simp only at h3 h5
      obtain ⟨rfl, rfl, rfl⟩ := h3
      subst h5; rfl
  · simp (disch := ((try simp only [List.length_set, List.length_replicate, List.length_append, List.length_cons, List.length_nil]); omega)) only [aW, aX, aV, aB, aN, aL, aP, aH, aM, aBl, r_ref38_Same]
    exact post_v ⟨vtrue (eq_of_getB bl0 hlen fun i hi => hg i (by omega)), rfl⟩

theorem awake38_vr : VR P false n_law38_awake [] [] (isR (.v (.bool true))) := by
  refine vr_law38_awake (by simp) (.inr rfl) fun _ _ => ?_
  have a1 : pressV [7, 5] 4 1 10 99 = ([⟨10, 1, 99, [2, 2]⟩, ⟨11, 1, 99, [3, 1]⟩, ⟨12, 1, 99, [2, 2]⟩], [0, 0], 0) := by decide +kernel
  have a2 : totB [⟨10, 1, 99, [2, 2]⟩, ⟨11, 1, 99, [3, 1]⟩, ⟨12, 1, 99, [2, 2]⟩] 2 = ([7, 5], 0) := by decide +kernel
  have a3 : blsE [⟨10, 1, 99, [2, 2]⟩, ⟨11, 1, 99, [3, 1]⟩, ⟨12, 1, 99, [2, 2]⟩] 2 = 0 := by decide +kernel
  have a4 : totM [2, 2] = (4, 0) := by decide +kernel
  have a5 : purM [3, 1] 1 = (250, 0) := by decide +kernel
  have b1 := balePress_vr (w := false) [7, 5] 4 1 10 99
  rw [a1] at b1
  unfold pressT at b1
  have s1 := same38_vr (w := true) (v := false) [⟨10, 1, 99, [2, 2]⟩, ⟨11, 1, 99, [3, 1]⟩, ⟨12, 1, 99, [2, 2]⟩] [⟨10, 1, 99, [2, 2]⟩, ⟨11, 1, 99, [3, 1]⟩, ⟨12, 1, 99, [2, 2]⟩] (by decide) (by decide)
  have s2 := same12_vr (w := true) (v := false) [0, 0] [0, 0] (by decide)
  have s3 := same12_vr (w := true) (v := false) [7, 5] [7, 5] (by decide)
  rw [decide_eq_true rfl] at s1 s2 s3
  have b2 := grams_vr (w := true) ⟨10, 1, 99, [2, 2]⟩
  have b3 := balePurity_vr (w := true) ⟨11, 1, 99, [3, 1]⟩
  have b4 := baleTotal_vr (w := true) [⟨10, 1, 99, [2, 2]⟩, ⟨11, 1, 99, [3, 1]⟩, ⟨12, 1, 99, [2, 2]⟩] 2
  have b5 := baleCheck_vr (w := true) [⟨10, 1, 99, [2, 2]⟩, ⟨11, 1, 99, [3, 1]⟩, ⟨12, 1, 99, [2, 2]⟩] 2
  simp only at b2 b3
  rw [a4] at b2
  rw [a5] at b3
  rw [a2] at b4
  rw [a3] at b5
  unfold pairT at b2 b3
  unfold listT at b4
  unfold blA blC at b2 b3
  have l3 : ([⟨10, 1, 99, [2, 2]⟩, ⟨11, 1, 99, [3, 1]⟩, ⟨12, 1, 99, [2, 2]⟩] : List Bl).length = 3 := rfl
  have g0 : ([⟨10, 1, 99, [2, 2]⟩, ⟨11, 1, 99, [3, 1]⟩, ⟨12, 1, 99, [2, 2]⟩] : List Bl).getD 0 bl0 = ⟨10, 1, 99, [2, 2]⟩ := rfl
  have g1 : ([⟨10, 1, 99, [2, 2]⟩, ⟨11, 1, 99, [3, 1]⟩, ⟨12, 1, 99, [2, 2]⟩] : List Bl).getD 1 bl0 = ⟨11, 1, 99, [3, 1]⟩ := rfl
  have s1' : ∀ L0, L0 = ([⟨10, 1, 99, [2, 2]⟩, ⟨11, 1, 99, [3, 1]⟩, ⟨12, 1, 99, [2, 2]⟩] : List Bl) → VR P false n_ref38_Same [.fs true (bls true L0), .fs false (bls false ([⟨10, 1, 99, [2, 2]⟩, ⟨11, 1, 99, [3, 1]⟩, ⟨12, 1, 99, [2, 2]⟩] : List Bl))] [] (isR (.v (.bool true))) := fun L0 h => by rw [h]; exact s1
  clear s1
  obtain ⟨L, hL⟩ : ∃ L, L = ([⟨10, 1, 99, [2, 2]⟩, ⟨11, 1, 99, [3, 1]⟩, ⟨12, 1, 99, [2, 2]⟩] : List Bl) := ⟨_, rfl⟩
  rw [← hL] at a1 a2 a3 b1 b4 b5 l3 g0 g1
  have s4 := s1' L hL
  simp (disch := ((try simp only [List.length_set, List.length_replicate, List.length_append, List.length_cons, List.length_nil]); omega)) only [aW, aX, aV, aB, aN, aL, aP, aH, aM, aBl, s_law38_awake, v_law38_awake]
  refine b1.use (ld_all (by simp [frzL_nil, frzL_cons, fzp_any, fzp_nil, fzp_v, fzp_agg, fzp_tup, fzp_fn, fzp_fs, fzp_fp, fzp_sl, fzp_vs, fzp_lp, ldp_any, ldp_nil, ldp_v, ldp_agg, ldp_fn, ldp_fs, ldp_fp, ldp_sl, ldp_vs, ldp_lp, blkAt, flatA, A.cells, A.one, Lft.one, retA, A.bdL, A.bd, ints])) (by simp (disch := first | omega | simp (disch := omega) only [aF, aL, aN, aM, aBl]) only [aW, aX, aV, aB, aN, aL, aP, aH, aM, aBl, aF, Int.natCast_add, Int.natCast_mul, Int.add_sub_cancel, List.length_nil, Int.cast_ofNat_Int, and_true, true_and]) (aret_of ?_)
  simp (disch := ((try simp only [List.length_set, List.length_replicate, List.length_append, List.length_cons, List.length_nil]); omega)) only [aW, aX, aV, aB, aN, aL, aP, aH, aM, aBl, Int.toNat_zero, Int.toNat_one, g0, g1]
  refine b2.same (by simp (disch := first | omega | simp (disch := omega) only [aF, aL, aN, aM, aBl]) only [aW, aX, aV, aB, aN, aL, aP, aH, aM, aBl, aF, Int.natCast_add, Int.natCast_mul, Int.add_sub_cancel, List.length_nil, Int.cast_ofNat_Int, and_true, true_and]) rfl (aret_of ?_)
  simp (disch := ((try simp only [List.length_set, List.length_replicate, List.length_append, List.length_cons, List.length_nil]); omega)) only [aW, aX, aV, aB, aN, aL, aP, aH, aM, aBl, Int.toNat_zero, Int.toNat_one, g0, g1]
  refine b3.same (by simp (disch := first | omega | simp (disch := omega) only [aF, aL, aN, aM, aBl]) only [aW, aX, aV, aB, aN, aL, aP, aH, aM, aBl, aF, Int.natCast_add, Int.natCast_mul, Int.add_sub_cancel, List.length_nil, Int.cast_ofNat_Int, and_true, true_and]) rfl (aret_of ?_)
  simp (disch := ((try simp only [List.length_set, List.length_replicate, List.length_append, List.length_cons, List.length_nil]); omega)) only [aW, aX, aV, aB, aN, aL, aP, aH, aM, aBl, Int.toNat_zero, Int.toNat_one, g0, g1]
  refine b4.same (by simp (disch := first | omega | simp (disch := omega) only [aF, aL, aN, aM, aBl]) only [aW, aX, aV, aB, aN, aL, aP, aH, aM, aBl, aF, Int.natCast_add, Int.natCast_mul, Int.add_sub_cancel, List.length_nil, Int.cast_ofNat_Int, and_true, true_and]) (by simp (disch := first | omega | simp (disch := omega) only [aF, aL, aN, aM, aBl]) only [aW, aX, aV, aB, aN, aL, aP, aH, aM, aBl, aF, Int.natCast_add, Int.natCast_mul, Int.add_sub_cancel, List.length_nil, Int.cast_ofNat_Int, and_true, true_and]) (aret_of ?_)
  simp (disch := ((try simp only [List.length_set, List.length_replicate, List.length_append, List.length_cons, List.length_nil]); omega)) only [aW, aX, aV, aB, aN, aL, aP, aH, aM, aBl]
  refine s4.use ⟨Ld.refl (by simp [A.bd, bl_bd]), (ld_all (l := [_]) (r := [_]) (by simp [frzL_nil, frzL_cons, fzp_any, fzp_nil, fzp_v, fzp_agg, fzp_tup, fzp_fn, fzp_fs, fzp_fp, fzp_sl, fzp_vs, fzp_lp, ldp_any, ldp_nil, ldp_v, ldp_agg, ldp_fn, ldp_fs, ldp_fp, ldp_sl, ldp_vs, ldp_lp, blkAt, flatA, A.cells, A.one, Lft.one, retA, A.bdL, A.bd, ints, bls, blA, blC, flc])).1, trivial⟩ rfl (aret_of ?_)
  simp (disch := ((try simp only [List.length_set, List.length_replicate, List.length_append, List.length_cons, List.length_nil]); omega)) only [aW, aX, aV, aB, aN, aL, aP, aH, aM, aBl]
  refine s2.use (ld_all (by simp [frzL_nil, frzL_cons, fzp_any, fzp_nil, fzp_v, fzp_agg, fzp_tup, fzp_fn, fzp_fs, fzp_fp, fzp_sl, fzp_vs, fzp_lp, ldp_any, ldp_nil, ldp_v, ldp_agg, ldp_fn, ldp_fs, ldp_fp, ldp_sl, ldp_vs, ldp_lp, blkAt, flatA, A.cells, A.one, Lft.one, retA, A.bdL, A.bd, ints])) rfl (aret_of ?_)
  simp (disch := ((try simp only [List.length_set, List.length_replicate, List.length_append, List.length_cons, List.length_nil]); omega)) only [aW, aX, aV, aB, aN, aL, aP, aH, aM, aBl]
  refine s3.use (ld_all (by simp [frzL_nil, frzL_cons, fzp_any, fzp_nil, fzp_v, fzp_agg, fzp_tup, fzp_fn, fzp_fs, fzp_fp, fzp_sl, fzp_vs, fzp_lp, ldp_any, ldp_nil, ldp_v, ldp_agg, ldp_fn, ldp_fs, ldp_fp, ldp_sl, ldp_vs, ldp_lp, blkAt, flatA, A.cells, A.one, Lft.one, retA, A.bdL, A.bd, ints])) rfl (aret_of ?_)
  simp (disch := ((try simp only [List.length_set, List.length_replicate, List.length_append, List.length_cons, List.length_nil]); omega)) only [aW, aX, aV, aB, aN, aL, aP, aH, aM, aBl]
  refine b5.same (by simp (disch := first | omega | simp (disch := omega) only [aF, aL, aN, aM, aBl]) only [aW, aX, aV, aB, aN, aL, aP, aH, aM, aBl, aF, Int.natCast_add, Int.natCast_mul, Int.add_sub_cancel, List.length_nil, Int.cast_ofNat_Int, and_true, true_and]) rfl (aret_of ?_)
  simp (disch := ((try simp only [List.length_set, List.length_replicate, List.length_append, List.length_cons, List.length_nil]); omega)) only [aW, aX, aV, aB, aN, aL, aP, aH, aM, aBl, r_law38_awake]
  exact post_v ⟨rfl, rfl⟩
end Go.Proofs.Ytbgmhbjfcpddkaa
namespace Go.Proofs.Ytbgmhbjfcpddkaa
open Go Go.Lft
set_option linter.unusedSimpArgs false
set_option linter.unusedVariables false
attribute [local congr] ob_congr bw_congr ib_congr ck_congr iwA_congr itA_congr aw_congr awp_congr sqA_congr bkA_congr vr_congr gd_congr

structure Ask where
  xs : List Int
  sz : Int
  kd : Int
  fi : Int
  tm : Int
def askA (w : Bool) (x : Ask) : A := .agg [.fs w (ints x.xs), .v (.int .i64 x.sz), .v (.int .i64 x.kd), .v (.int .i64 x.fi), .v (.int .i64 x.tm)]
abbrev pressA (x : Ask) : List Bl × List Int × Int := pressV x.xs x.sz x.kd x.fi x.tm
theorem lawPress_vr {w : Bool} (x : Ask) : VR P false n_law38_press [askA w x] [] (isR (pressT (pressA x))) := by
  refine vr_law38_press (by simp) (.inr rfl) fun _ _ => ?_
  have h := balePress_vr (w := w) x.xs x.sz x.kd x.fi x.tm
  unfold pressT at h ⊢
  unfold askA pressA
  generalize pressV x.xs x.sz x.kd x.fi x.tm = r at *
  simp (disch := ((try simp only [List.length_set, List.length_replicate, List.length_append, List.length_cons, List.length_nil]); omega)) only [aW, aX, aV, aB, aN, aL, aP, aH, aM, aBl, s_law38_press, v_law38_press]
  refine h.same (by simp (disch := first | omega | simp (disch := omega) only [aF, aL, aN, aM, aBl]) only [aW, aX, aV, aB, aN, aL, aP, aH, aM, aBl, aF, Int.natCast_add, Int.natCast_mul, Int.add_sub_cancel, List.length_nil, Int.cast_ofNat_Int, and_true, true_and]) (by simp (disch := first | omega | simp (disch := omega) only [aF, aL, aN, aM, aBl]) only [aW, aX, aV, aB, aN, aL, aP, aH, aM, aBl, aF, Int.natCast_add, Int.natCast_mul, Int.add_sub_cancel, List.length_nil, Int.cast_ofNat_Int, and_true, true_and]) (aret_of ?_)
  simp (disch := ((try simp only [List.length_set, List.length_replicate, List.length_append, List.length_cons, List.length_nil]); omega)) only [aW, aX, aV, aB, aN, aL, aP, aH, aM, aBl, r_law38_press]
  exact post0 (Fz.refl (by simp (disch := first | omega | simp (disch := omega) only [aF, aL, aN, aM, aBl]) only [aW, aX, aV, aB, aN, aL, aP, aH, aM, aBl, aF, Int.natCast_add, Int.natCast_mul, Int.add_sub_cancel, List.length_nil, Int.cast_ofNat_Int, and_true, true_and])) ⟨rfl, rfl⟩

theorem ask_of {v : A} {es : List A} (h : tyAsk.Sh true es) : ∃ x : Ask, tyAsk.pk es = askA true x ∧ x.xs.length ≤ maxLen ∧ fit x.sz ∧ fit x.kd ∧ fit x.fi ∧ fit x.tm := by
  unfold tyAsk at h ⊢
  simp only [Ty.Sh, Ty.ShL] at h
  obtain ⟨a, _, rfl, h0, _, _, rfl, ⟨y, rfl, hy⟩, _, _, rfl, ⟨z, rfl, hz⟩, _, _, rfl, ⟨u, rfl, hu⟩, _, _, rfl, ⟨q, rfl, hq⟩, rfl⟩ := h
  obtain ⟨l, h1, h2, h3⟩ := ints_of (w := true) (ce := a) (by simp only [Ty.Sh]; exact h0)
  obtain ⟨L, rfl, _⟩ := h0
  refine ⟨⟨l, y, z, u, q⟩, ?_, h2, wf_i64 hy, wf_i64 hz, wf_i64 hu, wf_i64 hq⟩
  have h4 : A.fs true (L.map (Ty.int .i64).pk) = .fs true (ints l) := h1
  show A.agg _ = A.agg _
  simp [h4]
end Go.Proofs.Ytbgmhbjfcpddkaa
namespace Go.Proofs.Ytbgmhbjfcpddkaa
open Go Go.Lft
set_option linter.unusedSimpArgs false
set_option linter.unusedVariables false
attribute [local congr] ob_congr bw_congr ib_congr ck_congr iwA_congr itA_congr aw_congr awp_congr sqA_congr bkA_congr vr_congr gd_congr

theorem plus_sub {a b : List Int} (h : a.length = b.length) : plusM (subM a b) b = a := eq_getD (by rw [plusM_len, subM_len]) fun i hi => by
  rw [plusM_len, subM_len] at hi
  rw [plusM_get _ _ _ (by rw [subM_len]; exact hi), subM_get _ _ _ hi]; omega
theorem plus_comm {a b : List Int} (h : a.length = b.length) : plusM a b = plusM b a := eq_getD (by rw [plusM_len, plusM_len, h]) fun i hi => by
  rw [plusM_len] at hi
  rw [plusM_get _ _ _ hi, plusM_get _ _ _ (by omega)]; omega
theorem plus_assoc {a b c : List Int} (h : a.length = b.length) (h2 : b.length = c.length) : plusM (plusM a b) c = plusM a (plusM b c) := eq_getD (by simp [plusM_len]) fun i hi => by
  rw [plusM_len, plusM_len] at hi
  rw [plusM_get _ _ _ (by rw [plusM_len]; exact hi), plusM_get _ _ _ hi, plusM_get _ _ _ hi, plusM_get _ _ _ (by omega)]; omega
theorem plus_zero {a : List Int} {n : Nat} (h : a.length = n) : plusM (List.replicate n 0) a = a := eq_getD (by simp [plusM_len, h]) fun i hi => by
  simp only [plusM_len, List.length_replicate] at hi
  rw [plusM_get _ _ _ (by simpa using hi)]
  simp [List.getD_eq_getElem?_getD, hi]
/-- What the first k bales contain. -/
def gotP (xs : List Int) (size : Int) : Nat → List Int
  | 0 => List.replicate xs.length 0
  | k + 1 => plusM (gotP xs size k) (partsR size (leftP xs size k))
theorem gotP_len (xs : List Int) (size : Int) : ∀ k, (gotP xs size k).length = xs.length
  | 0 => by simp [gotP]
  | k + 1 => by simp only [gotP, plusM_len]; exact gotP_len xs size k
section
variable {xs : List Int} {size kind first tm : Int} (ok : PressOk xs size kind first tm)
include ok
theorem got_left : ∀ k, k ≤ pressN xs size → plusM (gotP xs size k) (leftP xs size k) = xs
  | 0, _ => by show plusM (List.replicate _ 0) xs = xs; exact plus_zero rfl
  | k + 1, hk => by
    have ih := got_left k (by omega)
    have hp := (ok.parts (k := k) (by omega)).2.1.len
    have hl := (ok.left (k := k) (by omega)).len
    have hg := gotP_len xs size k
    show plusM (plusM _ _) (subM _ _) = xs
    rw [plus_assoc (by omega) (by rw [subM_len]; exact hp), plus_comm (a := partsR size (leftP xs size k)) (by rw [subM_len]; exact hp), plus_sub hp.symm]
    exact ih
theorem part_mix {k : Nat} (hk : k < pressN xs size) : mixE (partsR size (leftP xs size k)) = 0 := by
  obtain ⟨p1, p2, p3⟩ := ok.parts hk
  have hl := ok.left (k := k) (by omega)
  have hm := mixE_ok.1 hl.mix
  refine mixE_ok.2 ⟨by rw [p2.len]; exact hm.1, fun x hx => ?_⟩
  obtain ⟨i, hi, rfl⟩ := get_mem 0 hx
  rw [p2.len, hl.len] at hi
  have h1 := p3 i hi
  have h2 := mixE_get0 hl.mix i
  omega
theorem got_bd {k : Nat} (hk : k ≤ pressN xs size) (i : Nat) : 0 ≤ (gotP xs size k).getD i 0 ∧ (gotP xs size k).getD i 0 ≤ xs.getD i 0 := by
  induction k generalizing i with
  | zero =>
    have := mixE_get0 ok.mix i
    simp only [gotP]
    by_cases hi : i < xs.length
    · simp [List.getD_eq_getElem?_getD, hi]; simpa [List.getD_eq_getElem?_getD, hi] using this.1
    · simp [List.getD_eq_getElem?_getD, hi]
  | succ k ih =>
    have hgl := got_left ok (k + 1) hk
    have hml := mixE_get0 (ok.left hk).mix i
    have h1 := ih (by omega) i
    by_cases hi : i < xs.length
    · have h2 := (ok.parts (k := k) (by omega)).2.2 i hi
      have e : (gotP xs size (k + 1)).getD i 0 = (gotP xs size k).getD i 0 + (partsR size (leftP xs size k)).getD i 0 := plusM_get _ _ _ (by rw [gotP_len]; exact hi)
      have e2 := plusM_get (gotP xs size (k + 1)) (leftP xs size (k + 1)) i (by rw [gotP_len]; exact hi)
      rw [hgl] at e2
      omega
    · have e : (gotP xs size (k + 1)).getD i 0 = 0 := by rw [List.getD_eq_getElem?_getD, List.getElem?_eq_none (by rw [gotP_len]; omega)]; rfl
      have e2 : xs.getD i 0 = 0 := by rw [List.getD_eq_getElem?_getD, List.getElem?_eq_none (by omega)]; rfl
      omega
theorem got_mix {k : Nat} (hk : k ≤ pressN xs size) : mixE (gotP xs size k) = 0 := by
  refine mixE_ok.2 ⟨by rw [gotP_len]; exact (mixE_ok.1 ok.mix).1, fun x hx => ?_⟩
  obtain ⟨i, hi, rfl⟩ := get_mem 0 hx
  have h1 := got_bd ok hk i
  have h2 := mixE_get0 ok.mix i
  omega
/-- The bales are valid. -/
theorem press_valid : blsE (balesP xs size kind first tm (pressN xs size)) xs.length = 0 := by
  have hb : ∀ i, i < (balesP xs size kind first tm (pressN xs size)).length → blE ((balesP xs size kind first tm (pressN xs size)).getD i bl0) xs.length = 0 := fun i hi => by
    rw [balesP_len] at hi
    rw [balesP_get _ _ _ _ _ _ _ hi]
    have hp := (ok.parts hi).2.1
    have := ok.f1
    have := ok.n3
    have := ok.k1
    have := ok.k2
    have := ok.t1
    have := ok.t2
    have := ok.s1
    refine blE_r5 ?_ (part_mix ok hi) ?_ ?_
    · simp only [baleP]; omega
    · simp only [baleP]; rw [hp.len, (ok.left (k := i) (by omega)).len]
    · simp only [baleP]; rw [hp.sum]; omega
  refine blsE_ok (by rw [balesP_len]; have := ok.n2; omega) (firstE_none bl0 hb) (dupB_none fun i hi k hk => ?_)
  rw [balesP_len] at hi
  rw [balesP_get _ _ _ _ _ _ _ hi, balesP_get _ _ _ _ _ _ _ (by omega)]
  simp only [baleP]; omega
theorem press_acc : ∀ k, k ≤ pressN xs size → accB (balesP xs size kind first tm (pressN xs size)) xs.length k = (gotP xs size k, 0)
  | 0, _ => rfl
  | k + 1, hk => by
    rw [accB_succ _ _ _ (by rw [balesP_len]; exact hk), press_acc k (by omega), if_neg (by simp), balesP_get _ _ _ _ _ _ _ hk]
    have hp := (ok.parts (k := k) hk).2.1.len
    have hlk := (ok.left (k := k) (by omega)).len
    exact addM_ok (got_mix ok (by omega)) (part_mix ok hk) (by simp only [baleP]; rw [gotP_len, hp, hlk]) (got_mix ok hk)
theorem press_tot : totB (balesP xs size kind first tm (pressN xs size)) xs.length = (gotP xs size (pressN xs size), 0) := by
  unfold totB
  have := (mixE_ok.1 ok.mix).1
  rw [if_neg (by omega), if_neg (by rw [press_valid ok]; simp), balesP_len]
  exact press_acc ok _ (Nat.le_refl _)
end

theorem baleValid_vr (x : Ask) : VR P false n_law38_BaleValid [askA true x] [] (isR (.v (.bool true))) := by
  refine vr_law38_BaleValid (by simp) (.inr rfl) fun _ _ => ?_
  have h1 := lawPress_vr (w := true) x
  unfold pressT pressA at h1
  unfold askA at h1 ⊢
  simp (disch := ((try simp only [List.length_set, List.length_replicate, List.length_append, List.length_cons, List.length_nil]); omega)) only [aW, aX, aV, aB, aN, aL, aP, aH, aM, aBl, s_law38_BaleValid, v_law38_BaleValid]
  refine ib_intro (fun h5 => ?_) (fun h5 => ?_)
  · simp (disch := ((try simp only [List.length_set, List.length_replicate, List.length_append, List.length_cons, List.length_nil]); omega)) only [aW, aX, aV, aB, aN, aL, aP, aH, aM, aBl]
    refine awake38_vr.same (by simp (disch := first | omega | simp (disch := omega) only [aF, aL, aN, aM, aBl]) only [aW, aX, aV, aB, aN, aL, aP, aH, aM, aBl, aF, Int.natCast_add, Int.natCast_mul, Int.add_sub_cancel, List.length_nil, Int.cast_ofNat_Int, and_true, true_and]) rfl (aret_of ?_)
    simp (disch := ((try simp only [List.length_set, List.length_replicate, List.length_append, List.length_cons, List.length_nil]); omega)) only [aW, aX, aV, aB, aN, aL, aP, aH, aM, aBl, r_law38_BaleValid]
    exact post_v ⟨rfl, rfl⟩
  simp (disch := ((try simp only [List.length_set, List.length_replicate, List.length_append, List.length_cons, List.length_nil]); omega)) only [aW, aX, aV, aB, aN, aL, aP, aH, aM, aBl]
  refine h1.same (by simp (disch := first | omega | simp (disch := omega) only [aF, aL, aN, aM, aBl]) only [aW, aX, aV, aB, aN, aL, aP, aH, aM, aBl, aF, Int.natCast_add, Int.natCast_mul, Int.add_sub_cancel, List.length_nil, Int.cast_ofNat_Int, and_true, true_and]) (by simp (disch := first | omega | simp (disch := omega) only [aF, aL, aN, aM, aBl]) only [aW, aX, aV, aB, aN, aL, aP, aH, aM, aBl, aF, Int.natCast_add, Int.natCast_mul, Int.add_sub_cancel, List.length_nil, Int.cast_ofNat_Int, and_true, true_and]) (aret_of ?_)
  by_cases hE : pressE x.xs x.sz x.kd x.fi x.tm = 0
  case neg =>
    have e : pressV x.xs x.sz x.kd x.fi x.tm = ([], [], pressE x.xs x.sz x.kd x.fi x.tm) := by unfold pressV; rw [if_pos hE]
    rw [e]
    simp (disch := ((try simp only [List.length_set, List.length_replicate, List.length_append, List.length_cons, List.length_nil]); omega)) only [aW, aX, aV, aB, aN, aL, aP, aH, aM, aBl]
    refine awake38_vr.same (by simp (disch := first | omega | simp (disch := omega) only [aF, aL, aN, aM, aBl]) only [aW, aX, aV, aB, aN, aL, aP, aH, aM, aBl, aF, Int.natCast_add, Int.natCast_mul, Int.add_sub_cancel, List.length_nil, Int.cast_ofNat_Int, and_true, true_and]) rfl (aret_of ?_)
    simp (disch := ((try simp only [List.length_set, List.length_replicate, List.length_append, List.length_cons, List.length_nil]); omega)) only [aW, aX, aV, aB, aN, aL, aP, aH, aM, aBl, r_law38_BaleValid]
    exact post_v ⟨rfl, rfl⟩
  have ok := pressE_ok hE
  rw [press_v hE]
  have hlen := (mixE_ok.1 ok.mix).1
  have h2 := baleTotal_vr (w := true) (balesP x.xs x.sz x.kd x.fi x.tm (pressN x.xs x.sz)) x.xs.length
  rw [press_tot ok] at h2
  have h3 := refAdd_vr (w := true) (v := true) (gotP x.xs x.sz (pressN x.xs x.sz)) (leftP x.xs x.sz (pressN x.xs x.sz))
  have hL := ok.left (Nat.le_refl _)
  rw [addM_ok (got_mix ok (Nat.le_refl _)) hL.mix (by rw [gotP_len, hL.len]) (by rw [got_left ok _ (Nat.le_refl _)]; exact ok.mix), got_left ok _ (Nat.le_refl _)] at h3
  have h4 := baleCheck_vr (w := true) (balesP x.xs x.sz x.kd x.fi x.tm (pressN x.xs x.sz)) x.xs.length
  rw [press_valid ok] at h4
  have h6 := same12_vr (w := true) (v := true) x.xs x.xs (by omega)
  rw [decide_eq_true rfl] at h6
  unfold listT at h2 h3
  generalize balesP x.xs x.sz x.kd x.fi x.tm (pressN x.xs x.sz) = B at *
  simp (disch := ((try simp only [List.length_set, List.length_replicate, List.length_append, List.length_cons, List.length_nil]); omega)) only [aW, aX, aV, aB, aN, aL, aP, aH, aM, aBl]
  refine h2.same (by simp (disch := first | omega | simp (disch := omega) only [aF, aL, aN, aM, aBl]) only [aW, aX, aV, aB, aN, aL, aP, aH, aM, aBl, aF, Int.natCast_add, Int.natCast_mul, Int.add_sub_cancel, List.length_nil, Int.cast_ofNat_Int, and_true, true_and]) (by simp (disch := first | omega | simp (disch := omega) only [aF, aL, aN, aM, aBl]) only [aW, aX, aV, aB, aN, aL, aP, aH, aM, aBl, aF, Int.natCast_add, Int.natCast_mul, Int.add_sub_cancel, List.length_nil, Int.cast_ofNat_Int, and_true, true_and]) (aret_of ?_)
  simp (disch := ((try simp only [List.length_set, List.length_replicate, List.length_append, List.length_cons, List.length_nil]); omega)) only [aW, aX, aV, aB, aN, aL, aP, aH, aM, aBl]
  refine h3.same (by simp (disch := first | omega | simp (disch := omega) only [aF, aL, aN, aM, aBl]) only [aW, aX, aV, aB, aN, aL, aP, aH, aM, aBl, aF, Int.natCast_add, Int.natCast_mul, Int.add_sub_cancel, List.length_nil, Int.cast_ofNat_Int, and_true, true_and]) (by simp (disch := first | omega | simp (disch := omega) only [aF, aL, aN, aM, aBl]) only [aW, aX, aV, aB, aN, aL, aP, aH, aM, aBl, aF, Int.natCast_add, Int.natCast_mul, Int.add_sub_cancel, List.length_nil, Int.cast_ofNat_Int, and_true, true_and]) (aret_of ?_)
  simp (disch := ((try simp only [List.length_set, List.length_replicate, List.length_append, List.length_cons, List.length_nil]); omega)) only [aW, aX, aV, aB, aN, aL, aP, aH, aM, aBl]
  refine h4.same (by simp (disch := first | omega | simp (disch := omega) only [aF, aL, aN, aM, aBl]) only [aW, aX, aV, aB, aN, aL, aP, aH, aM, aBl, aF, Int.natCast_add, Int.natCast_mul, Int.add_sub_cancel, List.length_nil, Int.cast_ofNat_Int, and_true, true_and]) rfl (aret_of ?_)
  simp (disch := ((try simp only [List.length_set, List.length_replicate, List.length_append, List.length_cons, List.length_nil]); omega)) only [aW, aX, aV, aB, aN, aL, aP, aH, aM, aBl]
  refine h6.same (by simp (disch := first | omega | simp (disch := omega) only [aF, aL, aN, aM, aBl]) only [aW, aX, aV, aB, aN, aL, aP, aH, aM, aBl, aF, Int.natCast_add, Int.natCast_mul, Int.add_sub_cancel, List.length_nil, Int.cast_ofNat_Int, and_true, true_and]) rfl (aret_of ?_)
  simp (disch := ((try simp only [List.length_set, List.length_replicate, List.length_append, List.length_cons, List.length_nil]); omega)) only [aW, aX, aV, aB, aN, aL, aP, aH, aM, aBl]
  refine awake38_vr.same (by simp (disch := first | omega | simp (disch := omega) only [aF, aL, aN, aM, aBl]) only [aW, aX, aV, aB, aN, aL, aP, aH, aM, aBl, aF, Int.natCast_add, Int.natCast_mul, Int.add_sub_cancel, List.length_nil, Int.cast_ofNat_Int, and_true, true_and]) rfl (aret_of ?_)
  simp (disch := ((try simp only [List.length_set, List.length_replicate, List.length_append, List.length_cons, List.length_nil]); omega)) only [aW, aX, aV, aB, aN, aL, aP, aH, aM, aBl, r_law38_BaleValid]
  exact post_v ⟨rfl, rfl⟩

end Go.Proofs.Ytbgmhbjfcpddkaa
