/- Lemmas and walks that the proof of ControlRuns uses. No statement is claimed here. -/
import Derived.Test.YtfnghkmchlfooaaControlRunsZai
namespace Go.Proofs.Ytfnghkmchlfooaa
open Go Go.Lft
set_option linter.unusedSimpArgs false
set_option linter.unusedVariables false

/-- The first error in a list. -/
def firstE {α : Type} (f : α → Int) : List α → Int
  | [] => 0
  | x :: r => if f x ≠ 0 then f x else firstE f r
theorem firstE_hit {α : Type} {f : α → Int} (d : α) : ∀ {l : List α} {k : Nat}, k < l.length → (∀ i, i < k → f (l.getD i d) = 0) → f (l.getD k d) ≠ 0 → firstE f l = f (l.getD k d)
  | [], k, hk, _, _ => by simp at hk
  | x :: r, 0, _, _, hn => by simp only [List.getD_cons_zero] at hn ⊢; simp [firstE, hn]
  | x :: r, k + 1, hk, h, hn => by
    have h0 := h 0 (by omega)
    simp only [List.getD_cons_zero] at h0
    simp only [List.getD_cons_succ] at hn ⊢
    rw [← firstE_hit d (by simpa using hk) (fun i hi => by have := h (i + 1) (by omega); simpa using this) hn]
    simp [firstE, h0]
theorem firstE_none {α : Type} {f : α → Int} (d : α) : ∀ {l : List α}, (∀ i, i < l.length → f (l.getD i d) = 0) → firstE f l = 0
  | [], _ => rfl
  | x :: r, h => by
    have h0 := h 0 (by simp)
    simp only [List.getD_cons_zero] at h0
    simp only [firstE, h0]
    exact firstE_none d (l := r) fun i hi => by have := h (i + 1) (by simpa using hi); simpa using this
theorem firstE_all {α : Type} {f : α → Int} : ∀ {l : List α}, firstE f l = 0 → ∀ x ∈ l, f x = 0
  | [], _, x, hx => by simp at hx
  | y :: r, h, x, hx => by
    unfold firstE at h
    split at h
    · contradiction
    · rename_i h0
      rcases List.mem_cons.1 hx with rfl | hx
      · exact Classical.not_not.1 h0
      · exact firstE_all h x hx

/-- The first place at which p holds, or -1. -/
def idxE {α : Type} (p : α → Prop) [DecidablePred p] : List α → Int
  | [] => -1
  | x :: r => if p x then 0 else if idxE p r < 0 then -1 else idxE p r + 1
theorem idxE_ge {α : Type} (p : α → Prop) [DecidablePred p] : ∀ (l : List α), -1 ≤ idxE p l ∧ idxE p l < l.length
  | [] => by simp [idxE]
  | x :: r => by
    have := idxE_ge p r
    simp only [idxE, List.length_cons]
    split
    · omega
    · split <;> omega
theorem idxE_hit {α : Type} {p : α → Prop} [DecidablePred p] (d : α) : ∀ {l : List α} {k : Nat}, k < l.length → (∀ i, i < k → ¬ p (l.getD i d)) → p (l.getD k d) → idxE p l = k
  | [], k, hk, _, _ => by simp at hk
  | x :: r, 0, _, _, hn => by simp only [List.getD_cons_zero] at hn; simp [idxE, hn]
  | x :: r, k + 1, hk, h, hn => by
    have h0 := h 0 (by omega)
    simp only [List.getD_cons_zero] at h0
    simp only [List.getD_cons_succ] at hn
    have := idxE_hit d (p := p) (l := r) (by simpa using hk) (fun i hi => by have := h (i + 1) (by omega); simpa using this) hn
    simp only [idxE, this, h0, if_false]
    rw [if_neg (by omega)]; omega
theorem idxE_none {α : Type} {p : α → Prop} [DecidablePred p] (d : α) : ∀ {l : List α}, (∀ i, i < l.length → ¬ p (l.getD i d)) → idxE p l = -1
  | [], _ => rfl
  | x :: r, h => by
    have h0 := h 0 (by simp)
    simp only [List.getD_cons_zero] at h0
    have := idxE_none d (p := p) (l := r) fun i hi => by have := h (i + 1) (by simpa using hi); simpa using this
    simp [idxE, h0, this]
theorem idxE_at {α : Type} {p : α → Prop} [DecidablePred p] (d : α) : ∀ {l : List α}, 0 ≤ idxE p l → p (l.getD (idxE p l).toNat d)
  | [], h => by simp [idxE] at h
  | x :: r, h => by
    unfold idxE at h ⊢
    by_cases hx : p x
    · simp [hx]
    · simp only [hx, if_false] at h ⊢
      by_cases h2 : idxE p r < 0
      · rw [if_pos h2] at h; omega
      · rw [if_neg h2] at h ⊢
        have := idxE_at d (p := p) (l := r) (by omega)
        rw [show (idxE p r + 1).toNat = (idxE p r).toNat + 1 by omega]
        simpa using this
theorem idxE_neg {α : Type} {p : α → Prop} [DecidablePred p] {l : List α} (h : idxE p l < 0) : ∀ x ∈ l, ¬ p x := by
  induction l with
  | nil => intro x hx; simp at hx
  | cons y r ih =>
    intro x hx
    unfold idxE at h
    by_cases hy : p y
    · simp [hy] at h
    · simp only [hy, if_false] at h
      by_cases h2 : idxE p r < 0
      · rcases List.mem_cons.1 hx with rfl | hx
        · exact hy
        · exact ih h2 x hx
      · rw [if_neg h2] at h; omega
theorem mem_get {α : Type} (d : α) {l : List α} {k : Nat} (h : k < l.length) : l.getD k d ∈ l := by
  simp [List.getD_eq_getElem?_getD, h]
theorem get_mem {α : Type} (d : α) {l : List α} {x : α} (h : x ∈ l) : ∃ k, k < l.length ∧ l.getD k d = x := by
  obtain ⟨k, hk, rfl⟩ := List.mem_iff_getElem.1 h
  exact ⟨k, hk, by simp [List.getD_eq_getElem?_getD, hk]⟩
theorem take_succ_get' {α : Type} (l : List α) (k : Nat) (d : α) (h : k < l.length) : l.take (k + 1) = l.take k ++ [l.getD k d] := by
  rw [List.take_succ_eq_append_getElem h]; simp [List.getD_eq_getElem?_getD, h]

/-- Sums of the first numbers of a list. -/
def sumT (l : List Int) (k : Nat) : Int := (l.take k).sum
theorem sumT_zero (l : List Int) : sumT l 0 = 0 := by simp [sumT]
theorem sumT_succ (l : List Int) (k : Nat) (h : k < l.length) : sumT l (k + 1) = sumT l k + l.getD k 0 := by
  unfold sumT; rw [take_succ_get' l k 0 h]; simp
theorem sumT_all (l : List Int) : sumT l l.length = l.sum := by simp [sumT]
theorem sumT_bd (l : List Int) (a b : Int) : ∀ (k : Nat), k ≤ l.length → (∀ i, i < k → a ≤ l.getD i 0 ∧ l.getD i 0 ≤ b) → a * k ≤ sumT l k ∧ sumT l k ≤ b * k
  | 0, _, _ => by simp [sumT_zero]
  | k + 1, hk, h => by
    have h1 := sumT_bd l a b k (by omega) fun i hi => h i (by omega)
    have h2 := h k (by omega)
    rw [sumT_succ l k (by omega), show ((k + 1 : Nat) : Int) = (k : Int) + 1 by omega, Int.mul_add, Int.mul_add]
    omega

/-! ### Machines, belts, plants -/
structure Bt where
  fr : Int
  ot : Int
  to : Int
  ln : Int
def b0 : Bt := ⟨0, 0, 0, 0⟩
def btC (b : Bt) : List A := [.v (.int .i64 b.fr), .v (.int .i64 b.ot), .v (.int .i64 b.to), .v (.int .i64 b.ln)]
def btA (b : Bt) : A := .agg (btC b)
def bts (l : List Bt) : List A := l.map btA
abbrev Mc := List (List Int)
def mcC (w : Bool) (m : Mc) : List A := [.fs w (rows w m)]
def mcA (w : Bool) (m : Mc) : A := .agg (mcC w m)
def mcs (w : Bool) (l : List Mc) : List A := l.map (mcA w)
structure Pl where
  mat : Int
  ms : List Mc
  bs : List Bt
  fd : Int
def plC (w v : Bool) (p : Pl) : List A := [.v (.int .i64 p.mat), .fs w (mcs w p.ms), .fs v (bts p.bs), .v (.int .i64 p.fd)]
def plA (w v : Bool) (p : Pl) : A := .agg (plC w v p)

theorem bt_len (l : List Bt) : (bts l).length = l.length := by simp [bts]
theorem bt_idx (w : Bool) (l : List Bt) (kk : IntKind) (j : Int) (h1 : 0 ≤ j) (h2 : j < l.length) : idxA 4 (.fs w (bts l)) (.v (.int kk j)) = some (.fp w [.v (.int .i64 (l.getD j.toNat b0).fr), .v (.int .i64 (l.getD j.toNat b0).ot), .v (.int .i64 (l.getD j.toNat b0).to), .v (.int .i64 (l.getD j.toNat b0).ln)]) :=
  map_idx 4 w l b0 kk j btC (fun _ => rfl) (fun _ => rfl) h1 h2
theorem bt_bd (n : Nat) (l : List Bt) : A.bdL n (bts l) = true := map_bd n l fun _ => rfl
theorem bt_cl (l : List Bt) : A.clL (bts l) = true := map_cl l fun _ => rfl
theorem mc_len (w : Bool) (l : List Mc) : (mcs w l).length = l.length := by simp [mcs]
theorem mc_idx (w v : Bool) (l : List Mc) (kk : IntKind) (j : Int) (h1 : 0 ≤ j) (h2 : j < l.length) : idxA 1 (.fs w (mcs v l)) (.v (.int kk j)) = some (.fp w [.fs v (rows v (l.getD j.toNat []))]) :=
  map_idx 1 w l [] kk j (mcC v) (fun _ => rfl) (fun _ => rfl) h1 h2
theorem mcA_bd (n : Nat) (w : Bool) (m : Mc) : A.bd n (mcA w m) = true := by simp [mcA, mcC, A.bd, A.bdL, r_bd]
theorem mc_bd (n : Nat) (w : Bool) (l : List Mc) : A.bdL n (mcs w l) = true := map_bd n l fun m => mcA_bd n w m
theorem mc_cl (l : List Mc) : A.clL (mcs true l) = true := map_cl l fun m => by simp [mcA, mcC, A.cl, A.clL, r_cl]
theorem plC_bd (n : Nat) (w v : Bool) (p : Pl) : A.bdL n (plC w v p) = true := by simp [plC, A.bdL, A.bd, mc_bd, bt_bd]
theorem plA_bd (n : Nat) (w v : Bool) (p : Pl) : A.bd n (plA w v p) = true := plC_bd n w v p
theorem aM :
    (∀ (l : List Bt), (bts l).length = l.length) ∧
    (∀ (w : Bool) (l : List Bt) (kk : IntKind) (j : Int) (h1 : 0 ≤ j) (h2 : j < l.length), idxA 4 (.fs w (bts l)) (.v (.int kk j)) = some (.fp w [.v (.int .i64 (l.getD j.toNat b0).fr), .v (.int .i64 (l.getD j.toNat b0).ot), .v (.int .i64 (l.getD j.toNat b0).to), .v (.int .i64 (l.getD j.toNat b0).ln)])) ∧
    (∀ (n : Nat) (l : List Bt), A.bdL n (bts l) = true) ∧
    (∀ (l : List Bt), A.clL (bts l) = true) ∧
    (∀ (w : Bool) (l : List Mc), (mcs w l).length = l.length) ∧
    (∀ (w v : Bool) (l : List Mc) (kk : IntKind) (j : Int) (h1 : 0 ≤ j) (h2 : j < l.length), idxA 1 (.fs w (mcs v l)) (.v (.int kk j)) = some (.fp w [.fs v (rows v (l.getD j.toNat []))])) ∧
    (∀ (n : Nat) (w : Bool) (m : Mc), A.bd n (mcA w m) = true) ∧
    (∀ (n : Nat) (w : Bool) (l : List Mc), A.bdL n (mcs w l) = true) ∧
    (∀ (l : List Mc), A.clL (mcs true l) = true) ∧
    (∀ (n : Nat) (w v : Bool) (p : Pl), A.bdL n (plC w v p) = true) ∧
    (∀ (n : Nat) (w v : Bool) (p : Pl), A.bd n (plA w v p) = true) :=
  ⟨@bt_len, @bt_idx, @bt_bd, @bt_cl, @mc_len, @mc_idx, @mcA_bd, @mc_bd, @mc_cl, @plC_bd, @plA_bd⟩

/-! ### What the document says of machines -/
def rangeE (r : Int) : Int := if r < 0 ∨ 1000 < r then 1 else 0
def rowE (outs : Nat) (r : List Int) : Int :=
  if 4 < r.length then 8 else if r.length ≠ outs then 3 else if firstE rangeE r ≠ 0 then firstE rangeE r else if 0 < r.length ∧ r.sum ≠ 1000 then 17 else 0
def outsN (m : Mc) : Nat := (m.getD 0 []).length
def mcheck (m : Mc) (mat : Int) : Int :=
  if mat < 1 ∨ 16 < mat then 1 else if (m.length : Int) ≠ mat then 18 else firstE (rowE (outsN m)) m
def mainN (m : Mc) (mat : Int) : Int := if mat < 0 ∨ (m.length : Int) ≤ mat then -1 else idxE (fun r : Int => 0 < r) (m.getD mat.toNat [])

theorem rangeE_zero {r : Int} (h : rangeE r = 0) : 0 ≤ r ∧ r ≤ 1000 := by unfold rangeE at h; split at h <;> omega
theorem rangeE_bad {r : Int} (h : r < 0 ∨ 1000 < r) : rangeE r = 1 := by unfold rangeE; rw [if_pos h]
theorem rangeE_ok {r : Int} (h : ¬ (r < 0 ∨ 1000 < r)) : rangeE r = 0 := by unfold rangeE; rw [if_neg h]
theorem outsN_le {m : Mc} : outsN m = 0 ∨ 0 < m.length := by
  cases m with
  | nil => exact .inl rfl
  | cons a r => exact .inr (by simp)
/-- What a machine without errors is. -/
structure MOk (m : Mc) (mat : Int) : Prop where
  m1 : 1 ≤ mat
  m2 : mat ≤ 16
  len : (m.length : Int) = mat
  row : ∀ r ∈ m, r.length = outsN m ∧ r.length ≤ 4 ∧ (∀ x ∈ r, 0 ≤ x ∧ x ≤ 1000) ∧ (0 < r.length → r.sum = 1000)
theorem mcheck_ok {m : Mc} {mat : Int} (h : mcheck m mat = 0) : MOk m mat := by
  unfold mcheck at h
  split at h
  · cases h
  rename_i h1
  split at h
  · cases h
  rename_i h2
  refine ⟨by omega, by omega, by omega, fun r hr => ?_⟩
  have hr' := firstE_all h r hr
  unfold rowE at hr'
  split at hr'
  · cases hr'
  rename_i h3
  split at hr'
  · cases hr'
  rename_i h4
  split at hr'
  · contradiction
  rename_i h5
  split at hr'
  · cases hr'
  rename_i h6
  refine ⟨by omega, by omega, fun x hx => rangeE_zero (firstE_all (Classical.not_not.1 h5) x hx), fun h7 => ?_⟩
  apply Classical.byContradiction; intro h8; exact h6 ⟨h7, h8⟩
end Go.Proofs.Ytfnghkmchlfooaa
namespace Go.Proofs.Ytfnghkmchlfooaa
open Go Go.Lft
set_option linter.unusedSimpArgs false
set_option linter.unusedVariables false

def isB (m o : Int) (b : Bt) : Prop := b.fr = m ∧ b.ot = o
instance (m o : Int) : DecidablePred (isB m o) := fun b => by unfold isB; infer_instance
def findB (bs : List Bt) (m o : Int) : Int := idxE (isB m o) bs
def beltE (ms : List Mc) (b : Bt) : Int :=
  if b.fr < 0 ∨ (ms.length : Int) ≤ b.fr ∨ b.ot < 0 ∨ (outsN (ms.getD b.fr.toNat []) : Int) ≤ b.ot ∨ b.to < 0 ∨ (ms.length : Int) ≤ b.to then 7
  else if b.ln < 1 ∨ 16 < b.ln then 1 else 0
def twice (bs : List Bt) : Prop := ∃ k, k < bs.length ∧ findB bs (bs.getD k b0).fr (bs.getD k b0).ot ≠ k
def openO (ms : List Mc) (bs : List Bt) : Prop := ∃ i, i < ms.length ∧ ∃ o, o < outsN (ms.getD i []) ∧ findB bs i o < 0
instance (bs : List Bt) : Decidable (twice bs) := by unfold twice; infer_instance
instance (ms : List Mc) (bs : List Bt) : Decidable (openO ms bs) := by unfold openO; infer_instance
def beltsE (ms : List Mc) (bs : List Bt) : Int :=
  if firstE (beltE ms) bs ≠ 0 then firstE (beltE ms) bs else if twice bs then 6 else 0
def pcheck (p : Pl) : Int :=
  if p.mat < 1 ∨ 16 < p.mat then 1 else if p.ms.length = 0 then 10 else if 24 < p.ms.length ∨ 48 < p.bs.length then 8
  else if firstE (fun m => mcheck m p.mat) p.ms ≠ 0 then firstE (fun m => mcheck m p.mat) p.ms
  else if beltsE p.ms p.bs ≠ 0 then beltsE p.ms p.bs
  else if openO p.ms p.bs then 3
  else if p.fd < 0 ∨ (p.ms.length : Int) ≤ p.fd then 7
  else if outsN (p.ms.getD p.fd.toNat []) = 0 then 13 else 0

/-- What a plant without errors is. -/
structure POk (p : Pl) : Prop where
  m1 : 1 ≤ p.mat
  m2 : p.mat ≤ 16
  n1 : 1 ≤ p.ms.length
  n2 : p.ms.length ≤ 24
  b2 : p.bs.length ≤ 48
  mc : ∀ m ∈ p.ms, MOk m p.mat
  bt : ∀ b ∈ p.bs, 0 ≤ b.fr ∧ b.fr < p.ms.length ∧ 0 ≤ b.ot ∧ b.ot < outsN (p.ms.getD b.fr.toNat []) ∧ 0 ≤ b.to ∧ b.to < p.ms.length ∧ 1 ≤ b.ln ∧ b.ln ≤ 16
  un : ∀ k, k < p.bs.length → findB p.bs (p.bs.getD k b0).fr (p.bs.getD k b0).ot = k
  op : ∀ i, i < p.ms.length → ∀ o, o < outsN (p.ms.getD i []) → 0 ≤ findB p.bs i o
  fd : 0 ≤ p.fd ∧ p.fd < p.ms.length
  fo : outsN (p.ms.getD p.fd.toNat []) ≠ 0
theorem beltE_ok {ms : List Mc} {b : Bt} (h : beltE ms b = 0) : 0 ≤ b.fr ∧ b.fr < ms.length ∧ 0 ≤ b.ot ∧ b.ot < outsN (ms.getD b.fr.toNat []) ∧ 0 ≤ b.to ∧ b.to < ms.length ∧ 1 ≤ b.ln ∧ b.ln ≤ 16 := by
  unfold beltE at h
  split at h
  · cases h
  · split at h
    · cases h
    · omega
theorem pcheck_ok {p : Pl} (h : pcheck p = 0) : POk p := by
  unfold pcheck at h
  split at h
  · cases h
  rename_i h1
  split at h
  · cases h
  rename_i h2
  split at h
  · cases h
  rename_i h3
  split at h
  · contradiction
  rename_i h4
  split at h
  · contradiction
  rename_i h5
  split at h
  · cases h
  rename_i h6
  split at h
  · cases h
  rename_i h7
  split at h
  · cases h
  rename_i h8
  have h5 := Classical.not_not.1 h5
  unfold beltsE at h5
  split at h5
  · contradiction
  rename_i h9
  split at h5
  · cases h5
  rename_i h10
  refine ⟨by omega, by omega, by omega, by omega, by omega, fun m hm => mcheck_ok (firstE_all (Classical.not_not.1 h4) m hm), fun b hb => beltE_ok (firstE_all (Classical.not_not.1 h9) b hb), fun k hk => ?_, fun i hi o ho => ?_, by omega, h8⟩
  · apply Classical.byContradiction; intro hc; exact h10 ⟨k, hk, hc⟩
  · apply Classical.byContradiction; intro hc; exact h6 ⟨i, hi, o, ho, by omega⟩

/-! ### Ways -/
/-- The number of the belt on which a material leaves a machine. -/
def outB (p : Pl) (mt : Int) (at0 : Nat) : Nat := (findB p.bs at0 (mainN (p.ms.getD at0 []) mt)).toNat
def lx (p : Pl) (mt : Int) (at0 : Nat) : Int := (p.bs.getD (outB p mt at0) b0).ln
def binN (p : Pl) (at0 : Nat) : Prop := outsN (p.ms.getD at0 []) = 0
instance (p : Pl) : DecidablePred (binN p) := fun i => by unfold binN; infer_instance
theorem t1 : pcheck ⟨1, [[[900, 100]], [[]]], [⟨0, 0, 1, 2⟩, ⟨0, 1, 0, 3⟩], 0⟩ = 0 := by decide +kernel
end Go.Proofs.Ytfnghkmchlfooaa
namespace Go.Proofs.Ytfnghkmchlfooaa
open Go Go.Lft
set_option linter.unusedSimpArgs false
set_option linter.unusedVariables false
attribute [local congr] ob_congr bw_congr ib_congr ck_congr iwA_congr itA_congr aw_congr awp_congr sqA_congr bkA_congr vr_congr gd_congr

theorem machineOuts_vr {w : Bool} (m : Mc) : VR P false n_machine_Outs [mcA w m] [] (isR (.v (.int .i64 (outsN m)))) := by
  refine vr_machine_Outs (by simp) (.inr rfl) fun _ _ => ?_
  unfold mcA mcC
  simp (disch := ((try simp only [List.length_set, List.length_replicate, List.length_append, List.length_cons, List.length_nil]); omega)) only [aW, aX, aV, aB, aN, aL, aP, aH, aM, s_machine_Outs, v_machine_Outs]
  refine ib_intro (fun h1 => ?_) (fun h1 => ?_)
  · simp (disch := ((try simp only [List.length_set, List.length_replicate, List.length_append, List.length_cons, List.length_nil]); omega)) only [aW, aX, aV, aB, aN, aL, aP, aH, aM, r_machine_Outs]
    refine post_v ⟨?_, rfl⟩
    have : m = [] := List.eq_nil_of_length_eq_zero (by omega)
    subst this; rfl
  · simp (disch := ((try simp only [List.length_set, List.length_replicate, List.length_append, List.length_cons, List.length_nil]); omega)) only [aW, aX, aV, aB, aN, aL, aP, aH, aM, r_machine_Outs]
    exact post_v ⟨rfl, rfl⟩

theorem refOuts_vr {w : Bool} (m : Mc) : VR P false n_ref33_Outs [mcA w m] [] (isR (.v (.int .i64 (outsN m)))) := by
  refine vr_ref33_Outs (by simp) (.inr rfl) fun _ _ => ?_
  unfold mcA mcC
  simp (disch := ((try simp only [List.length_set, List.length_replicate, List.length_append, List.length_cons, List.length_nil]); omega)) only [aW, aX, aV, aB, aN, aL, aP, aH, aM, s_ref33_Outs, v_ref33_Outs]
  refine ib_intro (fun h1 => ?_) (fun h1 => ?_)
  · simp (disch := ((try simp only [List.length_set, List.length_replicate, List.length_append, List.length_cons, List.length_nil]); omega)) only [aW, aX, aV, aB, aN, aL, aP, aH, aM, r_ref33_Outs]
    refine post_v ⟨?_, rfl⟩
    have : m = [] := List.eq_nil_of_length_eq_zero (by omega)
    subst this; rfl
  · simp (disch := ((try simp only [List.length_set, List.length_replicate, List.length_append, List.length_cons, List.length_nil]); omega)) only [aW, aX, aV, aB, aN, aL, aP, aH, aM, r_ref33_Outs]
    exact post_v ⟨rfl, rfl⟩

theorem row_full {outs : Nat} {r : List Int} (h : 4 < r.length) : rowE outs r = 8 := by unfold rowE; rw [if_pos h]
theorem row_form {outs : Nat} {r : List Int} (h : ¬ 4 < r.length) (h2 : r.length ≠ outs) : rowE outs r = 3 := by unfold rowE; rw [if_neg h, if_pos h2]
theorem row_range {outs : Nat} {r : List Int} (h : ¬ 4 < r.length) (h2 : r.length = outs) {k : Nat} (hk : k < r.length) (hb : ∀ i, i < k → rangeE (r.getD i 0) = 0) (hn : r.getD k 0 < 0 ∨ 1000 < r.getD k 0) : rowE outs r = 1 := by
  unfold rowE
  have h3 := firstE_hit (f := rangeE) 0 hk hb (by rw [rangeE_bad hn]; omega)
  rw [rangeE_bad hn] at h3
  rw [if_neg h, if_neg (by omega), h3]; rfl
theorem row_sum {outs : Nat} {r : List Int} (h : ¬ 4 < r.length) (h2 : r.length = outs) (hb : ∀ i, i < r.length → rangeE (r.getD i 0) = 0) (hs : 0 < r.length ∧ r.sum ≠ 1000) : rowE outs r = 17 := by
  unfold rowE
  have h3 := firstE_none (f := rangeE) 0 hb
  rw [if_neg h, if_neg (by omega), h3, if_neg (by omega), if_pos hs]
theorem row_ok {outs : Nat} {r : List Int} (h : ¬ 4 < r.length) (h2 : r.length = outs) (hb : ∀ i, i < r.length → rangeE (r.getD i 0) = 0) (hs : ¬ (0 < r.length ∧ r.sum ≠ 1000)) : rowE outs r = 0 := by
  unfold rowE
  have h3 := firstE_none (f := rangeE) 0 hb
  rw [if_neg h, if_neg (by omega), h3, if_neg (by omega), if_neg hs]
theorem sum_le {r : List Int} {k : Nat} (hk : k ≤ r.length) (h4 : ¬ 4 < r.length) (hb : ∀ i, i < k → rangeE (r.getD i 0) = 0) : 0 ≤ sumT r k ∧ sumT r k ≤ 4000 := by
  have := sumT_bd r 0 1000 k hk fun i hi => rangeE_zero (hb i hi)
  omega

theorem refRow_vr {w : Bool} (r : List Int) (outs : Nat) : VR P false n_ref33_row [.fs w (ints r), .v (.int .i64 outs)] [] (isR (.v (.int .i64 (rowE outs r)))) := by
  refine vr_ref33_row (by simp) (.inr rfl) fun _ _ => ?_
  simp (disch := ((try simp only [List.length_set, List.length_replicate, List.length_append, List.length_cons, List.length_nil]); omega)) only [aW, aX, aV, aB, aN, aL, aP, aH, aM, s_ref33_row, v_ref33_row]
  refine ib_intro (fun h1 => ?_) (fun h1 => ?_)
  · simp (disch := ((try simp only [List.length_set, List.length_replicate, List.length_append, List.length_cons, List.length_nil]); omega)) only [aW, aX, aV, aB, aN, aL, aP, aH, aM, r_ref33_row]
    exact post_v ⟨by rw [row_full (by omega)], rfl⟩
  have h1 : ¬ 4 < r.length := by omega
  simp (disch := ((try simp only [List.length_set, List.length_replicate, List.length_append, List.length_cons, List.length_nil]); omega)) only [aW, aX, aV, aB, aN, aL, aP, aH, aM]
  refine ib_intro (fun h2 => ?_) (fun h2 => ?_)
  · simp (disch := ((try simp only [List.length_set, List.length_replicate, List.length_append, List.length_cons, List.length_nil]); omega)) only [aW, aX, aV, aB, aN, aL, aP, aH, aM, r_ref33_row]
    exact post_v ⟨by rw [row_form h1 (by omega)], rfl⟩
  have h2 : r.length = outs := by omega
  simp (disch := ((try simp only [List.length_set, List.length_replicate, List.length_append, List.length_cons, List.length_nil]); omega)) only [aW, aX, aV, aB, aN, aL, aP, aH, aM]
  refine AWP.loopP g_ref33_row_0 (fun k : Nat => k ≤ r.length ∧ ∀ i, i < k → rangeE (r.getD i 0) = 0) (fun k => [(2, .v (.int .i64 0)), (3, .v (.int .i64 (sumT r k))), (4, .v (.int .i64 k))]) (fun _ => []) (fun k => r.length - k) 0 ⟨by omega, fun i hi => by omega⟩ (by refine Cut.of' (0) ?_ (by omega) ?_ ?_ <;> simp (disch := first | omega | simp (disch := omega) only [aF, aL, aN, aM]) only [aW, aX, aV, aB, aN, aL, aP, aH, aM, aF, Int.natCast_add, Int.natCast_mul, Int.add_sub_cancel, List.length_nil, Int.cast_ofNat_Int, and_true, true_and, sumT_zero]) ?_
  rintro k ⟨hk, hb⟩
  have hs := sum_le hk h1 hb
  by_cases hlt : k < r.length
  · simp (disch := ((try simp only [List.length_set, List.length_replicate, List.length_append, List.length_cons, List.length_nil]); omega)) only [aW, aX, aV, aB, aN, aL, aP, aH, aM]
    refine ib_intro (fun h3 => ?_) (fun h3 => ?_)
    · simp (disch := ((try simp only [List.length_set, List.length_replicate, List.length_append, List.length_cons, List.length_nil]); omega)) only [aW, aX, aV, aB, aN, aL, aP, aH, aM, r_ref33_row]
      exact post_v ⟨by rw [row_range h1 h2 hlt hb h3], rfl⟩
    · simp (disch := ((try simp only [List.length_set, List.length_replicate, List.length_append, List.length_cons, List.length_nil]); omega)) only [aW, aX, aV, aB, aN, aL, aP, aH, aM]
      refine ⟨k + 1, ⟨by omega, fun i hi => ?_⟩, by omega, (by refine Cut.of' (0) ?_ (by omega) ?_ ?_ <;> simp (disch := first | omega | simp (disch := omega) only [aF, aL, aN, aM]) only [aW, aX, aV, aB, aN, aL, aP, aH, aM, aF, Int.natCast_add, Int.natCast_mul, Int.add_sub_cancel, List.length_nil, Int.cast_ofNat_Int, and_true, true_and, sumT_succ r k hlt])⟩
      rcases Nat.lt_succ_iff_lt_or_eq.1 hi with h | rfl
      · exact hb i h
      · exact rangeE_ok h3
  · have hkl : k = r.length := by omega
    subst hkl
    rw [sumT_all]
    simp (disch := ((try simp only [List.length_set, List.length_replicate, List.length_append, List.length_cons, List.length_nil]); omega)) only [aW, aX, aV, aB, aN, aL, aP, aH, aM]
    refine ib_intro (fun h3 => ?_) (fun h3 => ?_)
    · simp (disch := ((try simp only [List.length_set, List.length_replicate, List.length_append, List.length_cons, List.length_nil]); omega)) only [aW, aX, aV, aB, aN, aL, aP, aH, aM, r_ref33_row]
      exact post_v ⟨by rw [row_sum h1 h2 hb (by omega)], rfl⟩
    · simp (disch := ((try simp only [List.length_set, List.length_replicate, List.length_append, List.length_cons, List.length_nil]); omega)) only [aW, aX, aV, aB, aN, aL, aP, aH, aM, r_ref33_row]
      exact post_v ⟨by rw [row_ok h1 h2 hb (by omega)], rfl⟩

theorem mcheck_range {m : Mc} {mat : Int} (h : mat < 1 ∨ 16 < mat) : mcheck m mat = 1 := by unfold mcheck; rw [if_pos h]
theorem mcheck_len {m : Mc} {mat : Int} (h : ¬ (mat < 1 ∨ 16 < mat)) (h2 : (m.length : Int) ≠ mat) : mcheck m mat = 18 := by unfold mcheck; rw [if_neg h, if_pos h2]
theorem mcheck_hit {m : Mc} {mat : Int} (h : ¬ (mat < 1 ∨ 16 < mat)) (h2 : (m.length : Int) = mat) {k : Nat} (hk : k < m.length) (hb : ∀ i, i < k → rowE (outsN m) (m.getD i []) = 0) (hn : rowE (outsN m) (m.getD k []) ≠ 0) : mcheck m mat = rowE (outsN m) (m.getD k []) := by
  unfold mcheck; rw [if_neg h, if_neg (by omega)]
  exact firstE_hit [] hk hb hn
theorem mcheck_none {m : Mc} {mat : Int} (h : ¬ (mat < 1 ∨ 16 < mat)) (h2 : (m.length : Int) = mat) (hb : ∀ i, i < m.length → rowE (outsN m) (m.getD i []) = 0) : mcheck m mat = 0 := by
  unfold mcheck; rw [if_neg h, if_neg (by omega)]
  exact firstE_none [] hb
theorem outs_get (m : Mc) : (m.getD 0 []).length = outsN m := rfl

theorem ref33Check_vr {w : Bool} (m : Mc) (mat : Int) : VR P false n_ref33_Check [mcA w m, .v (.int .i64 mat)] [] (isR (.v (.int .i64 (mcheck m mat)))) := by
  refine vr_ref33_Check (by simp) (.inr rfl) fun _ _ => ?_
  unfold mcA mcC
  simp (disch := ((try simp only [List.length_set, List.length_replicate, List.length_append, List.length_cons, List.length_nil]); omega)) only [aW, aX, aV, aB, aN, aL, aP, aH, aM, s_ref33_Check, v_ref33_Check]
  refine ib_intro (fun h1 => ?_) (fun h1 => ?_)
  · simp (disch := ((try simp only [List.length_set, List.length_replicate, List.length_append, List.length_cons, List.length_nil]); omega)) only [aW, aX, aV, aB, aN, aL, aP, aH, aM, r_ref33_Check]
    exact post_v ⟨by rw [mcheck_range h1], rfl⟩
  simp (disch := ((try simp only [List.length_set, List.length_replicate, List.length_append, List.length_cons, List.length_nil]); omega)) only [aW, aX, aV, aB, aN, aL, aP, aH, aM]
  refine ib_intro (fun h2 => ?_) (fun h2 => ?_)
  · simp (disch := ((try simp only [List.length_set, List.length_replicate, List.length_append, List.length_cons, List.length_nil]); omega)) only [aW, aX, aV, aB, aN, aL, aP, aH, aM, r_ref33_Check]
    exact post_v ⟨by rw [mcheck_len h1 h2], rfl⟩
  have h2 : (m.length : Int) = mat := by omega
  subst h2
  simp (disch := ((try simp only [List.length_set, List.length_replicate, List.length_append, List.length_cons, List.length_nil]); omega)) only [aW, aX, aV, aB, aN, aL, aP, aH, aM]
  refine AWP.loopP g_ref33_Check_0 (fun k : Nat => k ≤ m.length ∧ ∀ i, i < k → rowE (outsN m) (m.getD i []) = 0) (fun k => [(2, .v (.int .i64 0)), (4, .v (.int .i64 k))]) (fun _ => []) (fun k => m.length - k) 0 ⟨by omega, fun i hi => by omega⟩ (by refine Cut.of' (1) ?_ (by omega) ?_ ?_ <;> simp (disch := first | omega | simp (disch := omega) only [aF, aL, aN, aM]) only [aW, aX, aV, aB, aN, aL, aP, aH, aM, aF, Int.natCast_add, Int.natCast_mul, Int.add_sub_cancel, List.length_nil, Int.cast_ofNat_Int, and_true, true_and]) ?_
  rintro k ⟨hk, hb⟩
  by_cases hlt : k < m.length
  · simp (disch := ((try simp only [List.length_set, List.length_replicate, List.length_append, List.length_cons, List.length_nil]); omega)) only [aW, aX, aV, aB, aN, aL, aP, aH, aM, outs_get]
    refine (refRow_vr (w := w) (m.getD k []) (outsN m)).same (by simp (disch := first | omega | simp (disch := omega) only [aF, aL, aN, aM]) only [aW, aX, aV, aB, aN, aL, aP, aH, aM, aF, Int.natCast_add, Int.natCast_mul, Int.add_sub_cancel, List.length_nil, Int.cast_ofNat_Int, and_true, true_and]) rfl (aret_of ?_)
    simp (disch := ((try simp only [List.length_set, List.length_replicate, List.length_append, List.length_cons, List.length_nil]); omega)) only [aW, aX, aV, aB, aN, aL, aP, aH, aM]
    refine ib_intro (fun h3 => ?_) (fun h3 => ?_)
    · simp (disch := ((try simp only [List.length_set, List.length_replicate, List.length_append, List.length_cons, List.length_nil]); omega)) only [aW, aX, aV, aB, aN, aL, aP, aH, aM, r_ref33_Check]
      exact post_v ⟨by rw [mcheck_hit h1 rfl hlt hb h3], rfl⟩
    · simp (disch := ((try simp only [List.length_set, List.length_replicate, List.length_append, List.length_cons, List.length_nil]); omega)) only [aW, aX, aV, aB, aN, aL, aP, aH, aM]
      refine ⟨k + 1, ⟨by omega, fun i hi => ?_⟩, by omega, (by refine Cut.of' (1) ?_ (by omega) ?_ ?_ <;> simp (disch := first | omega | simp (disch := omega) only [aF, aL, aN, aM]) only [aW, aX, aV, aB, aN, aL, aP, aH, aM, aF, Int.natCast_add, Int.natCast_mul, Int.add_sub_cancel, List.length_nil, Int.cast_ofNat_Int, and_true, true_and])⟩
      rcases Nat.lt_succ_iff_lt_or_eq.1 hi with h | rfl
      · exact hb i h
      · exact Classical.not_not.1 h3
  · have hkl : k = m.length := by omega
    subst hkl
    simp (disch := ((try simp only [List.length_set, List.length_replicate, List.length_append, List.length_cons, List.length_nil]); omega)) only [aW, aX, aV, aB, aN, aL, aP, aH, aM, r_ref33_Check]
    exact post_v ⟨by rw [mcheck_none h1 rfl hb], rfl⟩

theorem machineCheck_vr {w : Bool} (m : Mc) (mat : Int) : VR P false n_machine_Check [mcA w m, .v (.int .i64 mat)] [] (isR (.v (.int .i64 (mcheck m mat)))) := by
  have hou := outs_get m
  refine vr_machine_Check (by simp) (.inr rfl) fun _ _ => ?_
  unfold mcA mcC
  simp (disch := ((try simp only [List.length_set, List.length_replicate, List.length_append, List.length_cons, List.length_nil]); omega)) only [aW, aX, aV, aB, aN, aL, aP, aH, aM, s_machine_Check, v_machine_Check]
  refine ib_intro (fun h1 => ?_) (fun h1 => ?_)
  · simp (disch := ((try simp only [List.length_set, List.length_replicate, List.length_append, List.length_cons, List.length_nil]); omega)) only [aW, aX, aV, aB, aN, aL, aP, aH, aM, r_machine_Check]
    exact post_v ⟨by rw [mcheck_range h1], rfl⟩
  simp (disch := ((try simp only [List.length_set, List.length_replicate, List.length_append, List.length_cons, List.length_nil]); omega)) only [aW, aX, aV, aB, aN, aL, aP, aH, aM]
  refine ib_intro (fun h2 => ?_) (fun h2 => ?_)
  · simp (disch := ((try simp only [List.length_set, List.length_replicate, List.length_append, List.length_cons, List.length_nil]); omega)) only [aW, aX, aV, aB, aN, aL, aP, aH, aM, r_machine_Check]
    exact post_v ⟨by rw [mcheck_len h1 h2], rfl⟩
  have h2 : (m.length : Int) = mat := by omega
  subst h2
  simp (disch := ((try simp only [List.length_set, List.length_replicate, List.length_append, List.length_cons, List.length_nil]); omega)) only [aW, aX, aV, aB, aN, aL, aP, aH, aM]
  refine AWP.loopP g_machine_Check_0 (fun k : Nat => k ≤ m.length ∧ ∀ i, i < k → rowE (outsN m) (m.getD i []) = 0) (fun k => [(4, .v (.int .i64 0)), (5, .v (.int .i64 k))]) (fun _ => []) (fun k => m.length - k) 0 ⟨by omega, fun i hi => by omega⟩ (by refine Cut.of' (1) ?_ (by omega) ?_ ?_ <;> simp (disch := first | omega | simp (disch := omega) only [aF, aL, aN, aM]) only [aW, aX, aV, aB, aN, aL, aP, aH, aM, aF, Int.natCast_add, Int.natCast_mul, Int.add_sub_cancel, List.length_nil, Int.cast_ofNat_Int, and_true, true_and]) ?_
  rintro k ⟨hk, hb⟩
  by_cases hlt : k < m.length
  · simp (disch := ((try simp only [List.length_set, List.length_replicate, List.length_append, List.length_cons, List.length_nil]); omega)) only [aW, aX, aV, aB, aN, aL, aP, aH, aM, outs_get]
    refine ib_intro (fun h3 => ?_) (fun h3 => ?_)
    · have hr : rowE (outsN m) (m.getD k []) = 8 := row_full (by omega)
      simp (disch := ((try simp only [List.length_set, List.length_replicate, List.length_append, List.length_cons, List.length_nil]); omega)) only [aW, aX, aV, aB, aN, aL, aP, aH, aM, r_machine_Check]
      exact post_v ⟨by rw [mcheck_hit h1 rfl hlt hb (by omega), hr], rfl⟩
    have h3 : ¬ 4 < (m.getD k []).length := by omega
    simp (disch := ((try simp only [List.length_set, List.length_replicate, List.length_append, List.length_cons, List.length_nil]); omega)) only [aW, aX, aV, aB, aN, aL, aP, aH, aM]
    refine ib_intro (fun h4 => ?_) (fun h4 => ?_)
    · have hr : rowE (outsN m) (m.getD k []) = 3 := row_form h3 (by omega)
      simp (disch := ((try simp only [List.length_set, List.length_replicate, List.length_append, List.length_cons, List.length_nil]); omega)) only [aW, aX, aV, aB, aN, aL, aP, aH, aM, r_machine_Check]
      exact post_v ⟨by rw [mcheck_hit h1 rfl hlt hb (by omega), hr], rfl⟩
    have h4 : (m.getD k []).length = outsN m := by omega
    simp (disch := ((try simp only [List.length_set, List.length_replicate, List.length_append, List.length_cons, List.length_nil]); omega)) only [aW, aX, aV, aB, aN, aL, aP, aH, aM]
    refine AWP.loopP g_machine_Check_1 (fun j : Nat => j ≤ (m.getD k []).length ∧ ∀ i, i < j → rangeE ((m.getD k []).getD i 0) = 0) (fun j => [(4, .v (.int .i64 0)), (10, .v (.int .i64 (sumT (m.getD k []) j))), (11, .v (.int .i64 j))]) (fun _ => []) (fun j => (m.getD k []).length - j) 0 ⟨by omega, fun i hi => by omega⟩ (by refine Cut.of' (1) ?_ (by omega) ?_ ?_ <;> simp (disch := first | omega | simp (disch := omega) only [aF, aL, aN, aM]) only [aW, aX, aV, aB, aN, aL, aP, aH, aM, aF, Int.natCast_add, Int.natCast_mul, Int.add_sub_cancel, List.length_nil, Int.cast_ofNat_Int, and_true, true_and, sumT_zero]) ?_
    rintro j ⟨hj, hc⟩
    have hs := sum_le hj h3 hc
    by_cases hjl : j < (m.getD k []).length
    · simp (disch := ((try simp only [List.length_set, List.length_replicate, List.length_append, List.length_cons, List.length_nil]); omega)) only [aW, aX, aV, aB, aN, aL, aP, aH, aM]
      refine ib_intro (fun h5 => ?_) (fun h5 => ?_)
      · have hr := row_range h3 h4 hjl hc h5
        simp (disch := ((try simp only [List.length_set, List.length_replicate, List.length_append, List.length_cons, List.length_nil]); omega)) only [aW, aX, aV, aB, aN, aL, aP, aH, aM, r_machine_Check]
        exact post_v ⟨by rw [mcheck_hit h1 rfl hlt hb (by omega), hr], rfl⟩
      · simp (disch := ((try simp only [List.length_set, List.length_replicate, List.length_append, List.length_cons, List.length_nil]); omega)) only [aW, aX, aV, aB, aN, aL, aP, aH, aM]
        refine ⟨j + 1, ⟨by omega, fun i hi => ?_⟩, by omega, (by refine Cut.of' (1) ?_ (by omega) ?_ ?_ <;> simp (disch := first | omega | simp (disch := omega) only [aF, aL, aN, aM]) only [aW, aX, aV, aB, aN, aL, aP, aH, aM, aF, Int.natCast_add, Int.natCast_mul, Int.add_sub_cancel, List.length_nil, Int.cast_ofNat_Int, and_true, true_and, sumT_succ _ j hjl])⟩
        rcases Nat.lt_succ_iff_lt_or_eq.1 hi with h | rfl
        · exact hc i h
        · exact rangeE_ok h5
    · have hje : j = (m.getD k []).length := by omega
      subst hje
      rw [sumT_all]
      rw [sumT_all] at hs
      simp (disch := ((try simp only [List.length_set, List.length_replicate, List.length_append, List.length_cons, List.length_nil]); omega)) only [aW, aX, aV, aB, aN, aL, aP, aH, aM]
      refine ib_intro (fun h5 => ?_) (fun h5 => ?_)
      · have hr := row_sum h3 h4 hc (by omega)
        simp (disch := ((try simp only [List.length_set, List.length_replicate, List.length_append, List.length_cons, List.length_nil]); omega)) only [aW, aX, aV, aB, aN, aL, aP, aH, aM, r_machine_Check]
        exact post_v ⟨by rw [mcheck_hit h1 rfl hlt hb (by omega), hr], rfl⟩
      · have hr := row_ok h3 h4 hc (by omega)
        simp (disch := ((try simp only [List.length_set, List.length_replicate, List.length_append, List.length_cons, List.length_nil]); omega)) only [aW, aX, aV, aB, aN, aL, aP, aH, aM]
        refine ⟨k + 1, ⟨by omega, fun i hi => ?_⟩, by omega, (by refine Cut.of' (1) ?_ (by omega) ?_ ?_ <;> simp (disch := first | omega | simp (disch := omega) only [aF, aL, aN, aM]) only [aW, aX, aV, aB, aN, aL, aP, aH, aM, aF, Int.natCast_add, Int.natCast_mul, Int.add_sub_cancel, List.length_nil, Int.cast_ofNat_Int, and_true, true_and])⟩
        rcases Nat.lt_succ_iff_lt_or_eq.1 hi with h | rfl
        · exact hb i h
        · exact hr
  · have hkl : k = m.length := by omega
    subst hkl
    simp (disch := ((try simp only [List.length_set, List.length_replicate, List.length_append, List.length_cons, List.length_nil]); omega)) only [aW, aX, aV, aB, aN, aL, aP, aH, aM, r_machine_Check]
    exact post_v ⟨by rw [mcheck_none h1 rfl hb], rfl⟩
end Go.Proofs.Ytfnghkmchlfooaa
namespace Go.Proofs.Ytfnghkmchlfooaa
open Go Go.Lft
set_option linter.unusedSimpArgs false
set_option linter.unusedVariables false
attribute [local congr] ob_congr bw_congr ib_congr ck_congr iwA_congr itA_congr aw_congr awp_congr sqA_congr bkA_congr vr_congr gd_congr

theorem has_vr {w v : Bool} (p : Pl) (m : Int) : VR P false n_layout_has [plA w v p, .v (.int .i64 m)] [] (isR (.v (.bool (decide (0 ≤ m ∧ m < p.ms.length))))) := by
  refine vr_layout_has (by simp) (.inr rfl) fun _ _ => ?_
  unfold plA plC
  simp (disch := ((try simp only [List.length_set, List.length_replicate, List.length_append, List.length_cons, List.length_nil]); omega)) only [aW, aX, aV, aB, aN, aL, aP, aH, aM, s_layout_has, v_layout_has, r_layout_has]
  exact post_v ⟨rfl, rfl⟩

theorem bin_vr {w v : Bool} (p : Pl) (m : Int) (h0 : 0 ≤ m) (h1 : m < p.ms.length) : VR P false n_layout_bin [plA w v p, .v (.int .i64 m)] [] (isR (.v (.bool (decide (binN p m.toNat))))) := by
  refine vr_layout_bin (by simp) (.inr rfl) fun _ _ => ?_
  unfold plA plC
  simp (disch := ((try simp only [List.length_set, List.length_replicate, List.length_append, List.length_cons, List.length_nil]); omega)) only [aW, aX, aV, aB, aN, aL, aP, aH, aM, s_layout_bin, v_layout_bin]
  refine (machineOuts_vr (w := w) (p.ms.getD m.toNat [])).same (by simp (disch := first | omega | simp (disch := omega) only [aF, aL, aN, aM]) only [aW, aX, aV, aB, aN, aL, aP, aH, aM, aF, Int.natCast_add, Int.natCast_mul, Int.add_sub_cancel, List.length_nil, Int.cast_ofNat_Int, and_true, true_and]) rfl (aret_of ?_)
  simp (disch := ((try simp only [List.length_set, List.length_replicate, List.length_append, List.length_cons, List.length_nil]); omega)) only [aW, aX, aV, aB, aN, aL, aP, aH, aM, r_layout_bin]
  exact post_v ⟨vdec (by unfold binN; omega), rfl⟩

theorem find1_vr (b : Bt) (m o : Int) : VR P false n_layout_find_1 [btA b, .fp false [.v (.int .i64 m)], .fp false [.v (.int .i64 o)]] [] (isR (.v (.bool (decide (isB m o b))))) := by
  refine vr_layout_find_1 (by simp) (.inr rfl) fun _ _ => ?_
  unfold btA btC
  simp (disch := ((try simp only [List.length_set, List.length_replicate, List.length_append, List.length_cons, List.length_nil]); omega)) only [aW, aX, aV, aB, aN, aL, aP, aH, aM, s_layout_find_1, v_layout_find_1, r_layout_find_1]
  exact post_v ⟨vdec (by unfold isB; exact Iff.rfl), rfl⟩

theorem findB_hit {bs : List Bt} {m o : Int} {k : Nat} (hk : k < bs.length) (hb : ∀ i, i < k → ¬ isB m o (bs.getD i b0)) (hp : isB m o (bs.getD k b0)) : findB bs m o = k := idxE_hit (p := isB m o) b0 hk hb hp
theorem findB_none {bs : List Bt} {m o : Int} (hb : ∀ i, i < bs.length → ¬ isB m o (bs.getD i b0)) : findB bs m o = -1 := idxE_none (p := isB m o) b0 hb

theorem indexFuncB_vr {v : Bool} (bs : List Bt) (hl : bs.length < 1000000000) (m o : Int) : VR P false n_slices_IndexFuncapi_Belt_api_Belt [.fs v (bts bs), .fn n_layout_find_1 [.fp false [.v (.int .i64 m)], .fp false [.v (.int .i64 o)]]] [] (isR (.v (.int .i64 (findB bs m o)))) := by
  refine vr_slices_IndexFuncapi_Belt_api_Belt (by simp) (.inr rfl) fun _ _ => ?_
  simp (disch := ((try simp only [List.length_set, List.length_replicate, List.length_append, List.length_cons, List.length_nil]); omega)) only [aW, aX, aV, aB, aN, aL, aP, aH, aM, s_slices_IndexFuncapi_Belt_api_Belt, v_slices_IndexFuncapi_Belt_api_Belt]
  refine AWP.loopP g_slices_IndexFuncapi_Belt_api_Belt_0 (fun k : Nat => k ≤ bs.length ∧ ∀ i, i < k → ¬ isB m o (bs.getD i b0)) (fun k => [(2, .v (.int .i64 0)), (3, .v (.int .i64 k))]) (fun _ => []) (fun k => bs.length - k) 0 ⟨by omega, fun i hi => by omega⟩ (by refine Cut.of' (0) ?_ (by omega) ?_ ?_ <;> simp (disch := first | omega | simp (disch := omega) only [aF, aL, aN, aM]) only [aW, aX, aV, aB, aN, aL, aP, aH, aM, aF, Int.natCast_add, Int.natCast_mul, Int.add_sub_cancel, List.length_nil, Int.cast_ofNat_Int, and_true, true_and]) ?_
  rintro k ⟨hk, hb⟩
  by_cases hlt : k < bs.length
  · simp (disch := ((try simp only [List.length_set, List.length_replicate, List.length_append, List.length_cons, List.length_nil]); omega)) only [aW, aX, aV, aB, aN, aL, aP, aH, aM]
    refine ⟨by kernel_rfl, ?_⟩
    refine (find1_vr (bs.getD k b0) m o).same (by unfold btA btC; simp (disch := first | omega | simp (disch := omega) only [aF, aL, aN, aM]) only [aW, aX, aV, aB, aN, aL, aP, aH, aM, aF, Int.natCast_add, Int.natCast_mul, Int.add_sub_cancel, List.length_nil, Int.cast_ofNat_Int, and_true, true_and]) rfl (aret_of ?_)
    simp (disch := ((try simp only [List.length_set, List.length_replicate, List.length_append, List.length_cons, List.length_nil]); omega)) only [aW, aX, aV, aB, aN, aL, aP, aH, aM]
    refine ib_intro (fun h3 => ?_) (fun h3 => ?_)
    · simp (disch := ((try simp only [List.length_set, List.length_replicate, List.length_append, List.length_cons, List.length_nil]); omega)) only [aW, aX, aV, aB, aN, aL, aP, aH, aM, r_slices_IndexFuncapi_Belt_api_Belt]
      exact post_v ⟨by rw [findB_hit hlt hb h3], rfl⟩
    · simp (disch := ((try simp only [List.length_set, List.length_replicate, List.length_append, List.length_cons, List.length_nil]); omega)) only [aW, aX, aV, aB, aN, aL, aP, aH, aM]
      refine ⟨k + 1, ⟨by omega, fun i hi => ?_⟩, by omega, (by refine Cut.of' (0) ?_ (by omega) ?_ ?_ <;> simp (disch := first | omega | simp (disch := omega) only [aF, aL, aN, aM]) only [aW, aX, aV, aB, aN, aL, aP, aH, aM, aF, Int.natCast_add, Int.natCast_mul, Int.add_sub_cancel, List.length_nil, Int.cast_ofNat_Int, and_true, true_and])⟩
      rcases Nat.lt_succ_iff_lt_or_eq.1 hi with h | rfl
      · exact hb i h
      · exact h3
  · simp (disch := ((try simp only [List.length_set, List.length_replicate, List.length_append, List.length_cons, List.length_nil]); omega)) only [aW, aX, aV, aB, aN, aL, aP, aH, aM, r_slices_IndexFuncapi_Belt_api_Belt]
    exact post_v ⟨by rw [findB_none fun i hi => hb i (by omega)], rfl⟩

theorem find_vr {w v : Bool} (p : Pl) (hl : p.bs.length < 1000000000) (m o : Int) : VR P false n_layout_find [plA w v p, .v (.int .i64 m), .v (.int .i64 o)] [] (isR (.v (.int .i64 (findB p.bs m o)))) := by
  refine vr_layout_find (by simp) (.inr rfl) fun _ _ => ?_
  unfold plA plC
  simp (disch := ((try simp only [List.length_set, List.length_replicate, List.length_append, List.length_cons, List.length_nil]); omega)) only [aW, aX, aV, aB, aN, aL, aP, aH, aM, s_layout_find, v_layout_find]
  refine (indexFuncB_vr (v := v) p.bs hl m o).use ⟨Ld.refl (by simp (disch := first | omega | simp (disch := omega) only [aF, aL, aN, aM]) only [aW, aX, aV, aB, aN, aL, aP, aH, aM, aF, Int.natCast_add, Int.natCast_mul, Int.add_sub_cancel, List.length_nil, Int.cast_ofNat_Int, and_true, true_and]), Ld.fn ⟨Ld.lp (o := 0) rfl (LdL.refl rfl) (by simp), Ld.lp (o := 0) rfl (LdL.refl rfl) (by simp), trivial⟩, trivial⟩ rfl (aret_of ?_)
  simp (disch := ((try simp only [List.length_set, List.length_replicate, List.length_append, List.length_cons, List.length_nil]); omega)) only [aW, aX, aV, aB, aN, aL, aP, aH, aM, r_layout_find]
  exact post_v ⟨rfl, rfl⟩

theorem place_vr {w v : Bool} (p : Pl) (hl : p.bs.length < 1000000000) (m o : Int) : VR P false n_ref34_place [plA w v p, .v (.int .i64 m), .v (.int .i64 o)] [] (isR (.v (.int .i64 (findB p.bs m o)))) := by
  refine vr_ref34_place (by simp) (.inr rfl) fun _ _ => ?_
  unfold plA plC
  simp (disch := ((try simp only [List.length_set, List.length_replicate, List.length_append, List.length_cons, List.length_nil]); omega)) only [aW, aX, aV, aB, aN, aL, aP, aH, aM, s_ref34_place, v_ref34_place]
  refine AWP.loopP g_ref34_place_0 (fun k : Nat => k ≤ p.bs.length ∧ ∀ i, i < k → ¬ isB m o (p.bs.getD i b0)) (fun k => [(3, .v (.int .i64 0)), (4, .v (.int .i64 k))]) (fun _ => []) (fun k => p.bs.length - k) 0 ⟨by omega, fun i hi => by omega⟩ (by refine Cut.of' (1) ?_ (by omega) ?_ ?_ <;> simp (disch := first | omega | simp (disch := omega) only [aF, aL, aN, aM]) only [aW, aX, aV, aB, aN, aL, aP, aH, aM, aF, Int.natCast_add, Int.natCast_mul, Int.add_sub_cancel, List.length_nil, Int.cast_ofNat_Int, and_true, true_and]) ?_
  rintro k ⟨hk, hb⟩
  by_cases hlt : k < p.bs.length
  · simp (disch := ((try simp only [List.length_set, List.length_replicate, List.length_append, List.length_cons, List.length_nil]); omega)) only [aW, aX, aV, aB, aN, aL, aP, aH, aM]
    refine ib_intro (fun h3 => ?_) (fun h3 => ?_)
    · simp (disch := ((try simp only [List.length_set, List.length_replicate, List.length_append, List.length_cons, List.length_nil]); omega)) only [aW, aX, aV, aB, aN, aL, aP, aH, aM, r_ref34_place]
      exact post_v ⟨by rw [findB_hit hlt hb h3], rfl⟩
    · simp (disch := ((try simp only [List.length_set, List.length_replicate, List.length_append, List.length_cons, List.length_nil]); omega)) only [aW, aX, aV, aB, aN, aL, aP, aH, aM]
      refine ⟨k + 1, ⟨by omega, fun i hi => ?_⟩, by omega, (by refine Cut.of' (1) ?_ (by omega) ?_ ?_ <;> simp (disch := first | omega | simp (disch := omega) only [aF, aL, aN, aM]) only [aW, aX, aV, aB, aN, aL, aP, aH, aM, aF, Int.natCast_add, Int.natCast_mul, Int.add_sub_cancel, List.length_nil, Int.cast_ofNat_Int, and_true, true_and])⟩
      rcases Nat.lt_succ_iff_lt_or_eq.1 hi with h | rfl
      · exact hb i h
      · exact h3
  · simp (disch := ((try simp only [List.length_set, List.length_replicate, List.length_append, List.length_cons, List.length_nil]); omega)) only [aW, aX, aV, aB, aN, aL, aP, aH, aM, r_ref34_place]
    exact post_v ⟨by rw [findB_none fun i hi => hb i (by omega)], rfl⟩

theorem beltE_none {ms : List Mc} {b : Bt} (h : b.fr < 0 ∨ (ms.length : Int) ≤ b.fr ∨ b.ot < 0 ∨ (outsN (ms.getD b.fr.toNat []) : Int) ≤ b.ot ∨ b.to < 0 ∨ (ms.length : Int) ≤ b.to) : beltE ms b = 7 := by unfold beltE; rw [if_pos h]
theorem beltE_range {ms : List Mc} {b : Bt} (h : ¬ (b.fr < 0 ∨ (ms.length : Int) ≤ b.fr ∨ b.ot < 0 ∨ (outsN (ms.getD b.fr.toNat []) : Int) ≤ b.ot ∨ b.to < 0 ∨ (ms.length : Int) ≤ b.to)) (h2 : b.ln < 1 ∨ 16 < b.ln) : beltE ms b = 1 := by unfold beltE; rw [if_neg h, if_pos h2]
theorem beltE_fine {ms : List Mc} {b : Bt} (h : ¬ (b.fr < 0 ∨ (ms.length : Int) ≤ b.fr ∨ b.ot < 0 ∨ (outsN (ms.getD b.fr.toNat []) : Int) ≤ b.ot ∨ b.to < 0 ∨ (ms.length : Int) ≤ b.to)) (h2 : ¬ (b.ln < 1 ∨ 16 < b.ln)) : beltE ms b = 0 := by unfold beltE; rw [if_neg h, if_neg h2]

theorem belt_vr {w v : Bool} (p : Pl) (b : Bt) : VR P false n_layout_belt [plA w v p, btA b] [] (isR (.v (.int .i64 (beltE p.ms b)))) := by
  refine vr_layout_belt (by simp) (.inr rfl) fun _ _ => ?_
  unfold btA btC plA plC
  simp (disch := ((try simp only [List.length_set, List.length_replicate, List.length_append, List.length_cons, List.length_nil]); omega)) only [aW, aX, aV, aB, aN, aL, aP, aH, aM, s_layout_belt, v_layout_belt]
  refine (has_vr (w := w) (v := v) p b.fr).same (by simp (disch := first | omega | simp (disch := omega) only [aF, aL, aN, aM]) only [aW, aX, aV, aB, aN, aL, aP, aH, aM, aF, Int.natCast_add, Int.natCast_mul, Int.add_sub_cancel, List.length_nil, Int.cast_ofNat_Int, and_true, true_and]) rfl (aret_of ?_)
  by_cases h1 : 0 ≤ b.fr ∧ b.fr < p.ms.length
  · simp (disch := ((try simp only [List.length_set, List.length_replicate, List.length_append, List.length_cons, List.length_nil]); omega)) only [aW, aX, aV, aB, aN, aL, aP, aH, aM, decide_eq_true h1]
    by_cases h2 : b.ot < 0
    · simp (disch := ((try simp only [List.length_set, List.length_replicate, List.length_append, List.length_cons, List.length_nil]); omega)) only [aW, aX, aV, aB, aN, aL, aP, aH, aM, r_layout_belt]
      exact post_v ⟨by rw [beltE_none (by omega)], rfl⟩
    · simp (disch := ((try simp only [List.length_set, List.length_replicate, List.length_append, List.length_cons, List.length_nil]); omega)) only [aW, aX, aV, aB, aN, aL, aP, aH, aM]
      refine (machineOuts_vr (w := w) (p.ms.getD b.fr.toNat [])).same (by simp (disch := first | omega | simp (disch := omega) only [aF, aL, aN, aM]) only [aW, aX, aV, aB, aN, aL, aP, aH, aM, aF, Int.natCast_add, Int.natCast_mul, Int.add_sub_cancel, List.length_nil, Int.cast_ofNat_Int, and_true, true_and]) rfl (aret_of ?_)
      simp (disch := ((try simp only [List.length_set, List.length_replicate, List.length_append, List.length_cons, List.length_nil]); omega)) only [aW, aX, aV, aB, aN, aL, aP, aH, aM]
      by_cases h3 : (outsN (p.ms.getD b.fr.toNat []) : Int) ≤ b.ot
      · simp (disch := ((try simp only [List.length_set, List.length_replicate, List.length_append, List.length_cons, List.length_nil]); omega)) only [aW, aX, aV, aB, aN, aL, aP, aH, aM, r_layout_belt]
        exact post_v ⟨by rw [beltE_none (by omega)], rfl⟩
      · simp (disch := ((try simp only [List.length_set, List.length_replicate, List.length_append, List.length_cons, List.length_nil]); omega)) only [aW, aX, aV, aB, aN, aL, aP, aH, aM]
        refine (has_vr (w := w) (v := v) p b.to).same (by simp (disch := first | omega | simp (disch := omega) only [aF, aL, aN, aM]) only [aW, aX, aV, aB, aN, aL, aP, aH, aM, aF, Int.natCast_add, Int.natCast_mul, Int.add_sub_cancel, List.length_nil, Int.cast_ofNat_Int, and_true, true_and]) rfl (aret_of ?_)
        by_cases h4 : 0 ≤ b.to ∧ b.to < p.ms.length
        · have hn : ¬ (b.fr < 0 ∨ (p.ms.length : Int) ≤ b.fr ∨ b.ot < 0 ∨ (outsN (p.ms.getD b.fr.toNat []) : Int) ≤ b.ot ∨ b.to < 0 ∨ (p.ms.length : Int) ≤ b.to) := by omega
          simp (disch := ((try simp only [List.length_set, List.length_replicate, List.length_append, List.length_cons, List.length_nil]); omega)) only [aW, aX, aV, aB, aN, aL, aP, aH, aM, decide_eq_true h4]
          refine ib_intro (fun h5 => ?_) (fun h5 => ?_)
          · simp (disch := ((try simp only [List.length_set, List.length_replicate, List.length_append, List.length_cons, List.length_nil]); omega)) only [aW, aX, aV, aB, aN, aL, aP, aH, aM, r_layout_belt]
            exact post_v ⟨by rw [beltE_range hn h5], rfl⟩
          · simp (disch := ((try simp only [List.length_set, List.length_replicate, List.length_append, List.length_cons, List.length_nil]); omega)) only [aW, aX, aV, aB, aN, aL, aP, aH, aM, r_layout_belt]
            exact post_v ⟨by rw [beltE_fine hn h5], rfl⟩
        · simp (disch := ((try simp only [List.length_set, List.length_replicate, List.length_append, List.length_cons, List.length_nil]); omega)) only [aW, aX, aV, aB, aN, aL, aP, aH, aM, decide_eq_false h4, r_layout_belt]
          exact post_v ⟨by rw [beltE_none (by omega)], rfl⟩
  · simp (disch := ((try simp only [List.length_set, List.length_replicate, List.length_append, List.length_cons, List.length_nil]); omega)) only [aW, aX, aV, aB, aN, aL, aP, aH, aM, decide_eq_false h1, r_layout_belt]
    exact post_v ⟨by rw [beltE_none (by omega)], rfl⟩
end Go.Proofs.Ytfnghkmchlfooaa
namespace Go.Proofs.Ytfnghkmchlfooaa
open Go Go.Lft
set_option linter.unusedSimpArgs false
set_option linter.unusedVariables false
attribute [local congr] ob_congr bw_congr ib_congr ck_congr iwA_congr itA_congr aw_congr awp_congr sqA_congr bkA_congr vr_congr gd_congr

def pbelts (ms : List Mc) (bs : List Bt) : Int := if beltsE ms bs ≠ 0 then beltsE ms bs else if openO ms bs then 3 else 0
theorem beltsE_hit {ms : List Mc} {bs : List Bt} {k : Nat} (hk : k < bs.length) (hb : ∀ i, i < k → beltE ms (bs.getD i b0) = 0) (hn : beltE ms (bs.getD k b0) ≠ 0) : beltsE ms bs = beltE ms (bs.getD k b0) := by
  have := firstE_hit (f := beltE ms) b0 hk hb hn
  unfold beltsE; rw [this, if_pos hn]
theorem beltsE_twice {ms : List Mc} {bs : List Bt} (hb : ∀ i, i < bs.length → beltE ms (bs.getD i b0) = 0) (ht : twice bs) : beltsE ms bs = 6 := by
  have := firstE_none (f := beltE ms) b0 hb
  unfold beltsE; rw [this, if_neg (by omega), if_pos ht]
theorem beltsE_fine {ms : List Mc} {bs : List Bt} (hb : ∀ i, i < bs.length → beltE ms (bs.getD i b0) = 0) (ht : ¬ twice bs) : beltsE ms bs = 0 := by
  have := firstE_none (f := beltE ms) b0 hb
  unfold beltsE; rw [this, if_neg (by omega), if_neg ht]
theorem pbelts_err {ms : List Mc} {bs : List Bt} (h : beltsE ms bs ≠ 0) : pbelts ms bs = beltsE ms bs := by unfold pbelts; rw [if_pos h]
theorem pbelts_open {ms : List Mc} {bs : List Bt} (h : beltsE ms bs = 0) (h2 : openO ms bs) : pbelts ms bs = 3 := by unfold pbelts; rw [if_neg (by omega), if_pos h2]
theorem pbelts_fine {ms : List Mc} {bs : List Bt} (h : beltsE ms bs = 0) (h2 : ¬ openO ms bs) : pbelts ms bs = 0 := by unfold pbelts; rw [if_neg (by omega), if_neg h2]

theorem outs4 {m : Mc} {mat : Int} (h : mcheck m mat = 0) : outsN m ≤ 4 := by
  have hmk := mcheck_ok h
  rcases outsN_le (m := m) with h | h
  · omega
  · exact (hmk.row _ (mem_get [] h)).2.1
theorem belts_vr {w v : Bool} (p : Pl) (hl : p.bs.length ≤ 48) (hm : p.ms.length ≤ 24) (h4 : ∀ i, i < p.ms.length → outsN (p.ms.getD i []) ≤ 4) : VR P false n_layout_belts [plA w v p] [] (isR (.v (.int .i64 (pbelts p.ms p.bs)))) := by
  refine vr_layout_belts (by simp) (.inr rfl) fun _ _ => ?_
  unfold plA plC
  simp (disch := ((try simp only [List.length_set, List.length_replicate, List.length_append, List.length_cons, List.length_nil]); omega)) only [aW, aX, aV, aB, aN, aL, aP, aH, aM, s_layout_belts, v_layout_belts]
  refine AWP.loopP g_layout_belts_0 (fun k : Nat => k ≤ p.bs.length ∧ ∀ i, i < k → beltE p.ms (p.bs.getD i b0) = 0) (fun k => [(1, .v (.int .i64 0)), (3, .v (.int .i64 k))]) (fun _ => []) (fun k => p.bs.length - k) 0 ⟨by omega, fun i hi => by omega⟩ (by refine Cut.of' (1) ?_ (by omega) ?_ ?_ <;> simp (disch := first | omega | simp (disch := omega) only [aF, aL, aN, aM]) only [aW, aX, aV, aB, aN, aL, aP, aH, aM, aF, Int.natCast_add, Int.natCast_mul, Int.add_sub_cancel, List.length_nil, Int.cast_ofNat_Int, and_true, true_and]) ?_
  rintro k ⟨hk, hb⟩
  by_cases hlt : k < p.bs.length
  · simp (disch := ((try simp only [List.length_set, List.length_replicate, List.length_append, List.length_cons, List.length_nil]); omega)) only [aW, aX, aV, aB, aN, aL, aP, aH, aM]
    refine (belt_vr (w := w) (v := v) p (p.bs.getD k b0)).same (by unfold plA plC btA btC; simp (disch := first | omega | simp (disch := omega) only [aF, aL, aN, aM]) only [aW, aX, aV, aB, aN, aL, aP, aH, aM, aF, Int.natCast_add, Int.natCast_mul, Int.add_sub_cancel, List.length_nil, Int.cast_ofNat_Int, and_true, true_and]) rfl (aret_of ?_)
    simp (disch := ((try simp only [List.length_set, List.length_replicate, List.length_append, List.length_cons, List.length_nil]); omega)) only [aW, aX, aV, aB, aN, aL, aP, aH, aM]
    refine ib_intro (fun h3 => ?_) (fun h3 => ?_)
    · simp (disch := ((try simp only [List.length_set, List.length_replicate, List.length_append, List.length_cons, List.length_nil]); omega)) only [aW, aX, aV, aB, aN, aL, aP, aH, aM, r_layout_belts]
      have h4 := beltsE_hit hlt hb h3
      exact post_v ⟨by rw [pbelts_err (by omega), h4], rfl⟩
    · simp (disch := ((try simp only [List.length_set, List.length_replicate, List.length_append, List.length_cons, List.length_nil]); omega)) only [aW, aX, aV, aB, aN, aL, aP, aH, aM]
      refine ⟨k + 1, ⟨by omega, fun i hi => ?_⟩, by omega, (by refine Cut.of' (1) ?_ (by omega) ?_ ?_ <;> simp (disch := first | omega | simp (disch := omega) only [aF, aL, aN, aM]) only [aW, aX, aV, aB, aN, aL, aP, aH, aM, aF, Int.natCast_add, Int.natCast_mul, Int.add_sub_cancel, List.length_nil, Int.cast_ofNat_Int, and_true, true_and])⟩
      rcases Nat.lt_succ_iff_lt_or_eq.1 hi with h | rfl
      · exact hb i h
      · exact Classical.not_not.1 h3
  have hb : ∀ i, i < p.bs.length → beltE p.ms (p.bs.getD i b0) = 0 := fun i hi => hb i (by omega)
  simp (disch := ((try simp only [List.length_set, List.length_replicate, List.length_append, List.length_cons, List.length_nil]); omega)) only [aW, aX, aV, aB, aN, aL, aP, aH, aM]
  refine AWP.loopP g_layout_belts_1 (fun k : Nat => k ≤ p.bs.length ∧ ∀ i, i < k → findB p.bs (p.bs.getD i b0).fr (p.bs.getD i b0).ot = i) (fun k => [(1, .v (.int .i64 0)), (9, .v (.int .i64 k))]) (fun _ => []) (fun k => p.bs.length - k) 0 ⟨by omega, fun i hi => by omega⟩ (by refine Cut.of' (1) ?_ (by omega) ?_ ?_ <;> simp (disch := first | omega | simp (disch := omega) only [aF, aL, aN, aM]) only [aW, aX, aV, aB, aN, aL, aP, aH, aM, aF, Int.natCast_add, Int.natCast_mul, Int.add_sub_cancel, List.length_nil, Int.cast_ofNat_Int, and_true, true_and]) ?_
  rintro k ⟨hk, hu⟩
  by_cases hlt : k < p.bs.length
  · simp (disch := ((try simp only [List.length_set, List.length_replicate, List.length_append, List.length_cons, List.length_nil]); omega)) only [aW, aX, aV, aB, aN, aL, aP, aH, aM]
    refine (find_vr (w := w) (v := v) p (by omega) (p.bs.getD k b0).fr (p.bs.getD k b0).ot).same (by unfold plA plC; simp (disch := first | omega | simp (disch := omega) only [aF, aL, aN, aM]) only [aW, aX, aV, aB, aN, aL, aP, aH, aM, aF, Int.natCast_add, Int.natCast_mul, Int.add_sub_cancel, List.length_nil, Int.cast_ofNat_Int, and_true, true_and]) rfl (aret_of ?_)
    simp (disch := ((try simp only [List.length_set, List.length_replicate, List.length_append, List.length_cons, List.length_nil]); omega)) only [aW, aX, aV, aB, aN, aL, aP, aH, aM]
    refine ib_intro (fun h3 => ?_) (fun h3 => ?_)
    · simp (disch := ((try simp only [List.length_set, List.length_replicate, List.length_append, List.length_cons, List.length_nil]); omega)) only [aW, aX, aV, aB, aN, aL, aP, aH, aM, r_layout_belts]
      have h4 := beltsE_twice hb ⟨k, hlt, h3⟩
      exact post_v ⟨by rw [pbelts_err (by omega), h4], rfl⟩
    · simp (disch := ((try simp only [List.length_set, List.length_replicate, List.length_append, List.length_cons, List.length_nil]); omega)) only [aW, aX, aV, aB, aN, aL, aP, aH, aM]
      refine ⟨k + 1, ⟨by omega, fun i hi => ?_⟩, by omega, (by refine Cut.of' (1) ?_ (by omega) ?_ ?_ <;> simp (disch := first | omega | simp (disch := omega) only [aF, aL, aN, aM]) only [aW, aX, aV, aB, aN, aL, aP, aH, aM, aF, Int.natCast_add, Int.natCast_mul, Int.add_sub_cancel, List.length_nil, Int.cast_ofNat_Int, and_true, true_and])⟩
      rcases Nat.lt_succ_iff_lt_or_eq.1 hi with h | rfl
      · exact hu i h
      · exact Classical.not_not.1 h3
  have hf := beltsE_fine hb fun ⟨i, h1, h2⟩ => h2 (hu i (by omega))
  simp (disch := ((try simp only [List.length_set, List.length_replicate, List.length_append, List.length_cons, List.length_nil]); omega)) only [aW, aX, aV, aB, aN, aL, aP, aH, aM]
  refine AWP.loopP g_layout_belts_2 (fun k : Nat => k ≤ p.ms.length ∧ ∀ i, i < k → ∀ o, o < outsN (p.ms.getD i []) → 0 ≤ findB p.bs i o) (fun k => [(1, .v (.int .i64 0)), (15, .v (.int .i64 k))]) (fun _ => []) (fun k => p.ms.length - k) 0 ⟨by omega, fun i hi => by omega⟩ (by refine Cut.of' (1) ?_ (by omega) ?_ ?_ <;> simp (disch := first | omega | simp (disch := omega) only [aF, aL, aN, aM]) only [aW, aX, aV, aB, aN, aL, aP, aH, aM, aF, Int.natCast_add, Int.natCast_mul, Int.add_sub_cancel, List.length_nil, Int.cast_ofNat_Int, and_true, true_and]) ?_
  rintro k ⟨hk, hu2⟩
  by_cases hlt : k < p.ms.length
  · have hk4 := h4 k hlt
    simp (disch := ((try simp only [List.length_set, List.length_replicate, List.length_append, List.length_cons, List.length_nil]); omega)) only [aW, aX, aV, aB, aN, aL, aP, aH, aM]
    refine (machineOuts_vr (w := w) (p.ms.getD k [])).same (by unfold mcA mcC; simp (disch := first | omega | simp (disch := omega) only [aF, aL, aN, aM]) only [aW, aX, aV, aB, aN, aL, aP, aH, aM, aF, Int.natCast_add, Int.natCast_mul, Int.add_sub_cancel, List.length_nil, Int.cast_ofNat_Int, and_true, true_and]) rfl (aret_of ?_)
    simp (disch := ((try simp only [List.length_set, List.length_replicate, List.length_append, List.length_cons, List.length_nil]); omega)) only [aW, aX, aV, aB, aN, aL, aP, aH, aM]
    refine AWP.loopP g_layout_belts_3 (fun o : Nat => o ≤ outsN (p.ms.getD k []) ∧ ∀ i, i < o → 0 ≤ findB p.bs k i) (fun o => [(1, .v (.int .i64 0)), (21, .v (.int .i64 o))]) (fun _ => []) (fun o => outsN (p.ms.getD k []) - o) 0 ⟨by omega, fun i hi => by omega⟩ (by refine Cut.of' (2) ?_ (by omega) ?_ ?_ <;> simp (disch := first | omega | simp (disch := omega) only [aF, aL, aN, aM]) only [aW, aX, aV, aB, aN, aL, aP, aH, aM, aF, Int.natCast_add, Int.natCast_mul, Int.add_sub_cancel, List.length_nil, Int.cast_ofNat_Int, and_true, true_and]) ?_
    rintro o ⟨ho, hv⟩
    by_cases hol : o < outsN (p.ms.getD k [])
    · simp (disch := ((try simp only [List.length_set, List.length_replicate, List.length_append, List.length_cons, List.length_nil]); omega)) only [aW, aX, aV, aB, aN, aL, aP, aH, aM]
      refine (find_vr (w := w) (v := v) p (by omega) k o).same (by unfold plA plC; simp (disch := first | omega | simp (disch := omega) only [aF, aL, aN, aM]) only [aW, aX, aV, aB, aN, aL, aP, aH, aM, aF, Int.natCast_add, Int.natCast_mul, Int.add_sub_cancel, List.length_nil, Int.cast_ofNat_Int, and_true, true_and]) rfl (aret_of ?_)
      simp (disch := ((try simp only [List.length_set, List.length_replicate, List.length_append, List.length_cons, List.length_nil]); omega)) only [aW, aX, aV, aB, aN, aL, aP, aH, aM]
      refine ib_intro (fun h3 => ?_) (fun h3 => ?_)
      · simp (disch := ((try simp only [List.length_set, List.length_replicate, List.length_append, List.length_cons, List.length_nil]); omega)) only [aW, aX, aV, aB, aN, aL, aP, aH, aM, r_layout_belts]
        exact post_v ⟨by rw [pbelts_open hf ⟨k, hlt, o, hol, h3⟩], rfl⟩
      · simp (disch := ((try simp only [List.length_set, List.length_replicate, List.length_append, List.length_cons, List.length_nil]); omega)) only [aW, aX, aV, aB, aN, aL, aP, aH, aM]
        refine ⟨o + 1, ⟨by omega, fun i hi => ?_⟩, by omega, (by refine Cut.of' (2) ?_ (by omega) ?_ ?_ <;> simp (disch := first | omega | simp (disch := omega) only [aF, aL, aN, aM]) only [aW, aX, aV, aB, aN, aL, aP, aH, aM, aF, Int.natCast_add, Int.natCast_mul, Int.add_sub_cancel, List.length_nil, Int.cast_ofNat_Int, and_true, true_and])⟩
        rcases Nat.lt_succ_iff_lt_or_eq.1 hi with h | rfl
        · exact hv i h
        · omega
    · simp (disch := ((try simp only [List.length_set, List.length_replicate, List.length_append, List.length_cons, List.length_nil]); omega)) only [aW, aX, aV, aB, aN, aL, aP, aH, aM]
      refine ⟨k + 1, ⟨by omega, fun i hi => ?_⟩, by omega, (by refine Cut.of' (1) ?_ (by omega) ?_ ?_ <;> simp (disch := first | omega | simp (disch := omega) only [aF, aL, aN, aM]) only [aW, aX, aV, aB, aN, aL, aP, aH, aM, aF, Int.natCast_add, Int.natCast_mul, Int.add_sub_cancel, List.length_nil, Int.cast_ofNat_Int, and_true, true_and])⟩
      rcases Nat.lt_succ_iff_lt_or_eq.1 hi with h | rfl
      · exact hu2 i h
      · intro o' ho'; exact hv o' (by omega)
  · simp (disch := ((try simp only [List.length_set, List.length_replicate, List.length_append, List.length_cons, List.length_nil]); omega)) only [aW, aX, aV, aB, aN, aL, aP, aH, aM, r_layout_belts]
    refine post_v ⟨?_, rfl⟩
    rw [pbelts_fine hf]
    rintro ⟨i, h1, o, h2, h3⟩
    have := hu2 i (by omega) o h2
    omega

theorem refBelts_vr {w v : Bool} (p : Pl) (hl : p.bs.length ≤ 48) (hm : p.ms.length ≤ 24) : VR P false n_ref34_belts [plA w v p] [] (isR (.v (.int .i64 (beltsE p.ms p.bs)))) := by
  refine vr_ref34_belts (by simp) (.inr rfl) fun _ _ => ?_
  unfold plA plC
  simp (disch := ((try simp only [List.length_set, List.length_replicate, List.length_append, List.length_cons, List.length_nil]); omega)) only [aW, aX, aV, aB, aN, aL, aP, aH, aM, s_ref34_belts, v_ref34_belts]
  refine AWP.loopP g_ref34_belts_0 (fun k : Nat => k ≤ p.bs.length ∧ ∀ i, i < k → beltE p.ms (p.bs.getD i b0) = 0) (fun k => [(1, .v (.int .i64 0)), (2, .v (.int .i64 k))]) (fun _ => []) (fun k => p.bs.length - k) 0 ⟨by omega, fun i hi => by omega⟩ (by refine Cut.of' (1) ?_ (by omega) ?_ ?_ <;> simp (disch := first | omega | simp (disch := omega) only [aF, aL, aN, aM]) only [aW, aX, aV, aB, aN, aL, aP, aH, aM, aF, Int.natCast_add, Int.natCast_mul, Int.add_sub_cancel, List.length_nil, Int.cast_ofNat_Int, and_true, true_and]) ?_
  rintro k ⟨hk, hb⟩
  by_cases hlt : k < p.bs.length
  · have next : beltE p.ms (p.bs.getD k b0) = 0 → ∀ i, i < k + 1 → beltE p.ms (p.bs.getD i b0) = 0 := fun h3 i hi => by
      rcases Nat.lt_succ_iff_lt_or_eq.1 hi with h | rfl
      · exact hb i h
      · exact h3
    have hit := beltsE_hit (ms := p.ms) hlt hb
    generalize hbk : p.bs.getD k b0 = b at next hit
    by_cases h1 : (b.fr < 0 ∨ (p.ms.length : Int) ≤ b.fr) ∨ b.ot < 0
    · have h4 := beltE_none (ms := p.ms) (b := b) (by omega)
      simp (disch := ((try simp only [List.length_set, List.length_replicate, List.length_append, List.length_cons, List.length_nil]); omega)) only [aW, aX, aV, aB, aN, aL, aP, aH, aM, hbk, r_ref34_belts]
      exact post_v ⟨by rw [hit (by omega), h4], rfl⟩
    · simp (disch := ((try simp only [List.length_set, List.length_replicate, List.length_append, List.length_cons, List.length_nil]); omega)) only [aW, aX, aV, aB, aN, aL, aP, aH, aM, hbk]
      refine (refOuts_vr (w := w) (p.ms.getD b.fr.toNat [])).same (by unfold mcA mcC; simp (disch := first | omega | simp (disch := omega) only [aF, aL, aN, aM]) only [aW, aX, aV, aB, aN, aL, aP, aH, aM, aF, Int.natCast_add, Int.natCast_mul, Int.add_sub_cancel, List.length_nil, Int.cast_ofNat_Int, and_true, true_and]) rfl (aret_of ?_)
      simp (disch := ((try simp only [List.length_set, List.length_replicate, List.length_append, List.length_cons, List.length_nil]); omega)) only [aW, aX, aV, aB, aN, aL, aP, aH, aM]
      refine ib_intro (fun h2 => ?_) (fun h2 => ?_)
      · have h4 := beltE_none (ms := p.ms) (b := b) (by omega)
        simp (disch := ((try simp only [List.length_set, List.length_replicate, List.length_append, List.length_cons, List.length_nil]); omega)) only [aW, aX, aV, aB, aN, aL, aP, aH, aM, r_ref34_belts]
        exact post_v ⟨by rw [hit (by omega), h4], rfl⟩
      · have hn : ¬ (b.fr < 0 ∨ (p.ms.length : Int) ≤ b.fr ∨ b.ot < 0 ∨ (outsN (p.ms.getD b.fr.toNat []) : Int) ≤ b.ot ∨ b.to < 0 ∨ (p.ms.length : Int) ≤ b.to) := by omega
        simp (disch := ((try simp only [List.length_set, List.length_replicate, List.length_append, List.length_cons, List.length_nil]); omega)) only [aW, aX, aV, aB, aN, aL, aP, aH, aM]
        refine ib_intro (fun h5 => ?_) (fun h5 => ?_)
        · have h4 := beltE_range hn h5
          simp (disch := ((try simp only [List.length_set, List.length_replicate, List.length_append, List.length_cons, List.length_nil]); omega)) only [aW, aX, aV, aB, aN, aL, aP, aH, aM, r_ref34_belts]
          exact post_v ⟨by rw [hit (by omega), h4], rfl⟩
        · simp (disch := ((try simp only [List.length_set, List.length_replicate, List.length_append, List.length_cons, List.length_nil]); omega)) only [aW, aX, aV, aB, aN, aL, aP, aH, aM]
          exact ⟨k + 1, ⟨by omega, next (beltE_fine hn h5)⟩, by omega, (by refine Cut.of' (1) ?_ (by omega) ?_ ?_ <;> simp (disch := first | omega | simp (disch := omega) only [aF, aL, aN, aM]) only [aW, aX, aV, aB, aN, aL, aP, aH, aM, aF, Int.natCast_add, Int.natCast_mul, Int.add_sub_cancel, List.length_nil, Int.cast_ofNat_Int, and_true, true_and])⟩
  have hb : ∀ i, i < p.bs.length → beltE p.ms (p.bs.getD i b0) = 0 := fun i hi => hb i (by omega)
  simp (disch := ((try simp only [List.length_set, List.length_replicate, List.length_append, List.length_cons, List.length_nil]); omega)) only [aW, aX, aV, aB, aN, aL, aP, aH, aM]
  refine AWP.loopP g_ref34_belts_1 (fun k : Nat => k ≤ p.bs.length ∧ ∀ i, i < k → findB p.bs (p.bs.getD i b0).fr (p.bs.getD i b0).ot = i) (fun k => [(1, .v (.int .i64 0)), (5, .v (.int .i64 k))]) (fun _ => []) (fun k => p.bs.length - k) 0 ⟨by omega, fun i hi => by omega⟩ (by refine Cut.of' (1) ?_ (by omega) ?_ ?_ <;> simp (disch := first | omega | simp (disch := omega) only [aF, aL, aN, aM]) only [aW, aX, aV, aB, aN, aL, aP, aH, aM, aF, Int.natCast_add, Int.natCast_mul, Int.add_sub_cancel, List.length_nil, Int.cast_ofNat_Int, and_true, true_and]) ?_
  rintro k ⟨hk, hu⟩
  by_cases hlt : k < p.bs.length
  · simp (disch := ((try simp only [List.length_set, List.length_replicate, List.length_append, List.length_cons, List.length_nil]); omega)) only [aW, aX, aV, aB, aN, aL, aP, aH, aM]
    refine AWP.loopP g_ref34_belts_2 (fun j : Nat => j ≤ k ∧ ∀ i, i < j → ¬ isB (p.bs.getD k b0).fr (p.bs.getD k b0).ot (p.bs.getD i b0)) (fun j => [(1, .v (.int .i64 0)), (6, .v (.int .i64 j))]) (fun _ => []) (fun j => k - j) 0 ⟨by omega, fun i hi => by omega⟩ (by refine Cut.of' (1) ?_ (by omega) ?_ ?_ <;> simp (disch := first | omega | simp (disch := omega) only [aF, aL, aN, aM]) only [aW, aX, aV, aB, aN, aL, aP, aH, aM, aF, Int.natCast_add, Int.natCast_mul, Int.add_sub_cancel, List.length_nil, Int.cast_ofNat_Int, and_true, true_and]) ?_
    rintro j ⟨hj, hv⟩
    by_cases hjl : j < k
    · simp (disch := ((try simp only [List.length_set, List.length_replicate, List.length_append, List.length_cons, List.length_nil]); omega)) only [aW, aX, aV, aB, aN, aL, aP, aH, aM]
      refine ib_intro (fun h3 => ?_) (fun h3 => ?_)
      · have hf : findB p.bs (p.bs.getD k b0).fr (p.bs.getD k b0).ot = j := findB_hit (by omega) hv ⟨h3.1.symm, h3.2.symm⟩
        have ht := beltsE_twice hb ⟨k, hlt, by omega⟩
        simp (disch := ((try simp only [List.length_set, List.length_replicate, List.length_append, List.length_cons, List.length_nil]); omega)) only [aW, aX, aV, aB, aN, aL, aP, aH, aM, r_ref34_belts]
        exact post_v ⟨by rw [ht], rfl⟩
      · simp (disch := ((try simp only [List.length_set, List.length_replicate, List.length_append, List.length_cons, List.length_nil]); omega)) only [aW, aX, aV, aB, aN, aL, aP, aH, aM]
        refine ⟨j + 1, ⟨by omega, fun i hi => ?_⟩, by omega, (by refine Cut.of' (1) ?_ (by omega) ?_ ?_ <;> simp (disch := first | omega | simp (disch := omega) only [aF, aL, aN, aM]) only [aW, aX, aV, aB, aN, aL, aP, aH, aM, aF, Int.natCast_add, Int.natCast_mul, Int.add_sub_cancel, List.length_nil, Int.cast_ofNat_Int, and_true, true_and])⟩
        rcases Nat.lt_succ_iff_lt_or_eq.1 hi with h | rfl
        · exact hv i h
        · exact fun h => h3 ⟨h.1.symm, h.2.symm⟩
    · simp (disch := ((try simp only [List.length_set, List.length_replicate, List.length_append, List.length_cons, List.length_nil]); omega)) only [aW, aX, aV, aB, aN, aL, aP, aH, aM]
      refine ⟨k + 1, ⟨by omega, fun i hi => ?_⟩, by omega, (by refine Cut.of' (1) ?_ (by omega) ?_ ?_ <;> simp (disch := first | omega | simp (disch := omega) only [aF, aL, aN, aM]) only [aW, aX, aV, aB, aN, aL, aP, aH, aM, aF, Int.natCast_add, Int.natCast_mul, Int.add_sub_cancel, List.length_nil, Int.cast_ofNat_Int, and_true, true_and])⟩
      rcases Nat.lt_succ_iff_lt_or_eq.1 hi with h | rfl
      · exact hu i h
      · exact findB_hit hlt (fun l hl => hv l (by omega)) ⟨rfl, rfl⟩
  · have hf := beltsE_fine hb fun ⟨i, h1, h2⟩ => h2 (hu i (by omega))
    simp (disch := ((try simp only [List.length_set, List.length_replicate, List.length_append, List.length_cons, List.length_nil]); omega)) only [aW, aX, aV, aB, aN, aL, aP, aH, aM, r_ref34_belts]
    exact post_v ⟨by rw [hf], rfl⟩

/-! ### Check -/
theorem pc_range {p : Pl} (h : p.mat < 1 ∨ 16 < p.mat) : pcheck p = 1 := by unfold pcheck; rw [if_pos h]
theorem pc_empty {p : Pl} (h : ¬ (p.mat < 1 ∨ 16 < p.mat)) (h2 : p.ms.length = 0) : pcheck p = 10 := by unfold pcheck; rw [if_neg h, if_pos h2]
theorem pc_full {p : Pl} (h : ¬ (p.mat < 1 ∨ 16 < p.mat)) (h2 : ¬ p.ms.length = 0) (h3 : 24 < p.ms.length ∨ 48 < p.bs.length) : pcheck p = 8 := by unfold pcheck; rw [if_neg h, if_neg h2, if_pos h3]
theorem pc_mc {p : Pl} (h : ¬ (p.mat < 1 ∨ 16 < p.mat)) (h2 : ¬ p.ms.length = 0) (h3 : ¬ (24 < p.ms.length ∨ 48 < p.bs.length)) {k : Nat} (hk : k < p.ms.length) (hb : ∀ i, i < k → mcheck (p.ms.getD i []) p.mat = 0) (hn : mcheck (p.ms.getD k []) p.mat ≠ 0) : pcheck p = mcheck (p.ms.getD k []) p.mat := by
  have := firstE_hit (f := fun m => mcheck m p.mat) [] hk hb hn
  unfold pcheck; rw [if_neg h, if_neg h2, if_neg h3, this, if_pos hn]
theorem pc_belts {p : Pl} (h : ¬ (p.mat < 1 ∨ 16 < p.mat)) (h2 : ¬ p.ms.length = 0) (h3 : ¬ (24 < p.ms.length ∨ 48 < p.bs.length)) (hb : ∀ i, i < p.ms.length → mcheck (p.ms.getD i []) p.mat = 0) (hn : beltsE p.ms p.bs ≠ 0) : pcheck p = beltsE p.ms p.bs := by
  have := firstE_none (f := fun m => mcheck m p.mat) [] hb
  unfold pcheck; rw [if_neg h, if_neg h2, if_neg h3, this, if_neg (by omega), if_pos hn]
theorem pc_open {p : Pl} (h : ¬ (p.mat < 1 ∨ 16 < p.mat)) (h2 : ¬ p.ms.length = 0) (h3 : ¬ (24 < p.ms.length ∨ 48 < p.bs.length)) (hb : ∀ i, i < p.ms.length → mcheck (p.ms.getD i []) p.mat = 0) (hn : beltsE p.ms p.bs = 0) (ho : openO p.ms p.bs) : pcheck p = 3 := by
  have := firstE_none (f := fun m => mcheck m p.mat) [] hb
  unfold pcheck; rw [if_neg h, if_neg h2, if_neg h3, this, if_neg (by omega), if_neg (by omega), if_pos ho]
theorem pc_feed {p : Pl} (h : ¬ (p.mat < 1 ∨ 16 < p.mat)) (h2 : ¬ p.ms.length = 0) (h3 : ¬ (24 < p.ms.length ∨ 48 < p.bs.length)) (hb : ∀ i, i < p.ms.length → mcheck (p.ms.getD i []) p.mat = 0) (hn : beltsE p.ms p.bs = 0) (ho : ¬ openO p.ms p.bs) :
    pcheck p = if p.fd < 0 ∨ (p.ms.length : Int) ≤ p.fd then 7 else if outsN (p.ms.getD p.fd.toNat []) = 0 then 13 else 0 := by
  have := firstE_none (f := fun m => mcheck m p.mat) [] hb
  unfold pcheck; rw [if_neg h, if_neg h2, if_neg h3, this, if_neg (by omega), if_neg (by omega), if_neg ho]
theorem layoutCheck_vr {w v : Bool} (p : Pl) : VR P false n_layout_Check [plA w v p] [] (isR (.v (.int .i64 (pcheck p)))) := by
  refine vr_layout_Check (by simp) (.inr rfl) fun _ _ => ?_
  unfold plA plC
  simp (disch := ((try simp only [List.length_set, List.length_replicate, List.length_append, List.length_cons, List.length_nil]); omega)) only [aW, aX, aV, aB, aN, aL, aP, aH, aM, s_layout_Check, v_layout_Check]
  refine ib_intro (fun h1 => ?_) (fun h1 => ?_)
  · simp (disch := ((try simp only [List.length_set, List.length_replicate, List.length_append, List.length_cons, List.length_nil]); omega)) only [aW, aX, aV, aB, aN, aL, aP, aH, aM, r_layout_Check]
    exact post_v ⟨by rw [pc_range h1], rfl⟩
  simp (disch := ((try simp only [List.length_set, List.length_replicate, List.length_append, List.length_cons, List.length_nil]); omega)) only [aW, aX, aV, aB, aN, aL, aP, aH, aM]
  refine ib_intro (fun h2 => ?_) (fun h2 => ?_)
  · simp (disch := ((try simp only [List.length_set, List.length_replicate, List.length_append, List.length_cons, List.length_nil]); omega)) only [aW, aX, aV, aB, aN, aL, aP, aH, aM, r_layout_Check]
    exact post_v ⟨by rw [pc_empty h1 (by omega)], rfl⟩
  have h2 : ¬ p.ms.length = 0 := by omega
  simp (disch := ((try simp only [List.length_set, List.length_replicate, List.length_append, List.length_cons, List.length_nil]); omega)) only [aW, aX, aV, aB, aN, aL, aP, aH, aM]
  refine ib_intro (fun h3 => ?_) (fun h3 => ?_)
  · simp (disch := ((try simp only [List.length_set, List.length_replicate, List.length_append, List.length_cons, List.length_nil]); omega)) only [aW, aX, aV, aB, aN, aL, aP, aH, aM, r_layout_Check]
    exact post_v ⟨by rw [pc_full h1 h2 (by omega)], rfl⟩
  have h3 : ¬ (24 < p.ms.length ∨ 48 < p.bs.length) := by omega
  simp (disch := ((try simp only [List.length_set, List.length_replicate, List.length_append, List.length_cons, List.length_nil]); omega)) only [aW, aX, aV, aB, aN, aL, aP, aH, aM]
  refine AWP.loopP g_layout_Check_0 (fun k : Nat => k ≤ p.ms.length ∧ ∀ i, i < k → mcheck (p.ms.getD i []) p.mat = 0) (fun k => [(1, .v (.int .i64 0)), (6, .v (.int .i64 k))]) (fun _ => []) (fun k => p.ms.length - k) 0 ⟨by omega, fun i hi => by omega⟩ (by refine Cut.of' (1) ?_ (by omega) ?_ ?_ <;> simp (disch := first | omega | simp (disch := omega) only [aF, aL, aN, aM]) only [aW, aX, aV, aB, aN, aL, aP, aH, aM, aF, Int.natCast_add, Int.natCast_mul, Int.add_sub_cancel, List.length_nil, Int.cast_ofNat_Int, and_true, true_and]) ?_
  rintro k ⟨hk, hb⟩
  by_cases hlt : k < p.ms.length
  · simp (disch := ((try simp only [List.length_set, List.length_replicate, List.length_append, List.length_cons, List.length_nil]); omega)) only [aW, aX, aV, aB, aN, aL, aP, aH, aM]
    refine (machineCheck_vr (w := w) (p.ms.getD k []) p.mat).same (by unfold mcA mcC; simp (disch := first | omega | simp (disch := omega) only [aF, aL, aN, aM]) only [aW, aX, aV, aB, aN, aL, aP, aH, aM, aF, Int.natCast_add, Int.natCast_mul, Int.add_sub_cancel, List.length_nil, Int.cast_ofNat_Int, and_true, true_and]) rfl (aret_of ?_)
    simp (disch := ((try simp only [List.length_set, List.length_replicate, List.length_append, List.length_cons, List.length_nil]); omega)) only [aW, aX, aV, aB, aN, aL, aP, aH, aM]
    refine ib_intro (fun h4 => ?_) (fun h4 => ?_)
    · simp (disch := ((try simp only [List.length_set, List.length_replicate, List.length_append, List.length_cons, List.length_nil]); omega)) only [aW, aX, aV, aB, aN, aL, aP, aH, aM, r_layout_Check]
      exact post_v ⟨by rw [pc_mc h1 h2 h3 hlt hb h4], rfl⟩
    · simp (disch := ((try simp only [List.length_set, List.length_replicate, List.length_append, List.length_cons, List.length_nil]); omega)) only [aW, aX, aV, aB, aN, aL, aP, aH, aM]
      refine ⟨k + 1, ⟨by omega, fun i hi => ?_⟩, by omega, (by refine Cut.of' (1) ?_ (by omega) ?_ ?_ <;> simp (disch := first | omega | simp (disch := omega) only [aF, aL, aN, aM]) only [aW, aX, aV, aB, aN, aL, aP, aH, aM, aF, Int.natCast_add, Int.natCast_mul, Int.add_sub_cancel, List.length_nil, Int.cast_ofNat_Int, and_true, true_and])⟩
      rcases Nat.lt_succ_iff_lt_or_eq.1 hi with h | rfl
      · exact hb i h
      · exact Classical.not_not.1 h4
  have hb : ∀ i, i < p.ms.length → mcheck (p.ms.getD i []) p.mat = 0 := fun i hi => hb i (by omega)
  simp (disch := ((try simp only [List.length_set, List.length_replicate, List.length_append, List.length_cons, List.length_nil]); omega)) only [aW, aX, aV, aB, aN, aL, aP, aH, aM]
  refine (belts_vr (w := w) (v := v) p (by omega) (by omega) fun i hi => outs4 (hb i hi)).same (by unfold plA plC; simp (disch := first | omega | simp (disch := omega) only [aF, aL, aN, aM]) only [aW, aX, aV, aB, aN, aL, aP, aH, aM, aF, Int.natCast_add, Int.natCast_mul, Int.add_sub_cancel, List.length_nil, Int.cast_ofNat_Int, and_true, true_and]) rfl (aret_of ?_)
  by_cases h4 : beltsE p.ms p.bs = 0
  · by_cases h5 : openO p.ms p.bs
    · simp (disch := ((try simp only [List.length_set, List.length_replicate, List.length_append, List.length_cons, List.length_nil]); omega)) only [aW, aX, aV, aB, aN, aL, aP, aH, aM, pbelts_open h4 h5, r_layout_Check]
      exact post_v ⟨by rw [pc_open h1 h2 h3 hb h4 h5], rfl⟩
    · have hf := pc_feed h1 h2 h3 hb h4 h5
      simp (disch := ((try simp only [List.length_set, List.length_replicate, List.length_append, List.length_cons, List.length_nil]); omega)) only [aW, aX, aV, aB, aN, aL, aP, aH, aM, pbelts_fine h4 h5]
      refine (has_vr (w := w) (v := v) p p.fd).same (by unfold plA plC; simp (disch := first | omega | simp (disch := omega) only [aF, aL, aN, aM]) only [aW, aX, aV, aB, aN, aL, aP, aH, aM, aF, Int.natCast_add, Int.natCast_mul, Int.add_sub_cancel, List.length_nil, Int.cast_ofNat_Int, and_true, true_and]) rfl (aret_of ?_)
      by_cases h6 : 0 ≤ p.fd ∧ p.fd < p.ms.length
      · rw [if_neg (by omega)] at hf
        simp (disch := ((try simp only [List.length_set, List.length_replicate, List.length_append, List.length_cons, List.length_nil]); omega)) only [aW, aX, aV, aB, aN, aL, aP, aH, aM, decide_eq_true h6]
        refine (bin_vr (w := w) (v := v) p p.fd h6.1 h6.2).same (by unfold plA plC; simp (disch := first | omega | simp (disch := omega) only [aF, aL, aN, aM]) only [aW, aX, aV, aB, aN, aL, aP, aH, aM, aF, Int.natCast_add, Int.natCast_mul, Int.add_sub_cancel, List.length_nil, Int.cast_ofNat_Int, and_true, true_and]) rfl (aret_of ?_)
        simp (disch := ((try simp only [List.length_set, List.length_replicate, List.length_append, List.length_cons, List.length_nil]); omega)) only [aW, aX, aV, aB, aN, aL, aP, aH, aM]
        refine ib_intro (fun h7 => ?_) (fun h7 => ?_)
        · have h7 : outsN (p.ms.getD p.fd.toNat []) = 0 := h7
          rw [if_pos h7] at hf
          simp (disch := ((try simp only [List.length_set, List.length_replicate, List.length_append, List.length_cons, List.length_nil]); omega)) only [aW, aX, aV, aB, aN, aL, aP, aH, aM, r_layout_Check]
          exact post_v ⟨by rw [hf], rfl⟩
        · have h7 : ¬ outsN (p.ms.getD p.fd.toNat []) = 0 := h7
          rw [if_neg h7] at hf
          simp (disch := ((try simp only [List.length_set, List.length_replicate, List.length_append, List.length_cons, List.length_nil]); omega)) only [aW, aX, aV, aB, aN, aL, aP, aH, aM, r_layout_Check]
          exact post_v ⟨by rw [hf], rfl⟩
      · rw [if_pos (by omega)] at hf
        simp (disch := ((try simp only [List.length_set, List.length_replicate, List.length_append, List.length_cons, List.length_nil]); omega)) only [aW, aX, aV, aB, aN, aL, aP, aH, aM, decide_eq_false h6, r_layout_Check]
        exact post_v ⟨by rw [hf], rfl⟩
  · simp (disch := ((try simp only [List.length_set, List.length_replicate, List.length_append, List.length_cons, List.length_nil]); omega)) only [aW, aX, aV, aB, aN, aL, aP, aH, aM, pbelts_err h4, r_layout_Check]
    exact post_v ⟨by rw [pc_belts h1 h2 h3 hb h4], rfl⟩

theorem ref34Check_vr {w v : Bool} (p : Pl) : VR P false n_ref34_Check [plA w v p] [] (isR (.v (.int .i64 (pcheck p)))) := by
  refine vr_ref34_Check (by simp) (.inr rfl) fun _ _ => ?_
  unfold plA plC
  simp (disch := ((try simp only [List.length_set, List.length_replicate, List.length_append, List.length_cons, List.length_nil]); omega)) only [aW, aX, aV, aB, aN, aL, aP, aH, aM, s_ref34_Check, v_ref34_Check]
  refine ib_intro (fun h1 => ?_) (fun h1 => ?_)
  · simp (disch := ((try simp only [List.length_set, List.length_replicate, List.length_append, List.length_cons, List.length_nil]); omega)) only [aW, aX, aV, aB, aN, aL, aP, aH, aM, r_ref34_Check]
    exact post_v ⟨by rw [pc_range h1], rfl⟩
  simp (disch := ((try simp only [List.length_set, List.length_replicate, List.length_append, List.length_cons, List.length_nil]); omega)) only [aW, aX, aV, aB, aN, aL, aP, aH, aM]
  refine ib_intro (fun h2 => ?_) (fun h2 => ?_)
  · simp (disch := ((try simp only [List.length_set, List.length_replicate, List.length_append, List.length_cons, List.length_nil]); omega)) only [aW, aX, aV, aB, aN, aL, aP, aH, aM, r_ref34_Check]
    exact post_v ⟨by rw [pc_empty h1 (by omega)], rfl⟩
  have h2 : ¬ p.ms.length = 0 := by omega
  simp (disch := ((try simp only [List.length_set, List.length_replicate, List.length_append, List.length_cons, List.length_nil]); omega)) only [aW, aX, aV, aB, aN, aL, aP, aH, aM]
  refine ib_intro (fun h3 => ?_) (fun h3 => ?_)
  · simp (disch := ((try simp only [List.length_set, List.length_replicate, List.length_append, List.length_cons, List.length_nil]); omega)) only [aW, aX, aV, aB, aN, aL, aP, aH, aM, r_ref34_Check]
    exact post_v ⟨by rw [pc_full h1 h2 (by omega)], rfl⟩
  have h3 : ¬ (24 < p.ms.length ∨ 48 < p.bs.length) := by omega
  simp (disch := ((try simp only [List.length_set, List.length_replicate, List.length_append, List.length_cons, List.length_nil]); omega)) only [aW, aX, aV, aB, aN, aL, aP, aH, aM]
  refine AWP.loopP g_ref34_Check_0 (fun k : Nat => k ≤ p.ms.length ∧ ∀ i, i < k → mcheck (p.ms.getD i []) p.mat = 0) (fun k => [(1, .v (.int .i64 0)), (3, .v (.int .i64 k))]) (fun _ => []) (fun k => p.ms.length - k) 0 ⟨by omega, fun i hi => by omega⟩ (by refine Cut.of' (1) ?_ (by omega) ?_ ?_ <;> simp (disch := first | omega | simp (disch := omega) only [aF, aL, aN, aM]) only [aW, aX, aV, aB, aN, aL, aP, aH, aM, aF, Int.natCast_add, Int.natCast_mul, Int.add_sub_cancel, List.length_nil, Int.cast_ofNat_Int, and_true, true_and]) ?_
  rintro k ⟨hk, hb⟩
  by_cases hlt : k < p.ms.length
  · simp (disch := ((try simp only [List.length_set, List.length_replicate, List.length_append, List.length_cons, List.length_nil]); omega)) only [aW, aX, aV, aB, aN, aL, aP, aH, aM]
    refine (ref33Check_vr (w := w) (p.ms.getD k []) p.mat).same (by unfold mcA mcC; simp (disch := first | omega | simp (disch := omega) only [aF, aL, aN, aM]) only [aW, aX, aV, aB, aN, aL, aP, aH, aM, aF, Int.natCast_add, Int.natCast_mul, Int.add_sub_cancel, List.length_nil, Int.cast_ofNat_Int, and_true, true_and]) rfl (aret_of ?_)
    simp (disch := ((try simp only [List.length_set, List.length_replicate, List.length_append, List.length_cons, List.length_nil]); omega)) only [aW, aX, aV, aB, aN, aL, aP, aH, aM]
    refine ib_intro (fun h4 => ?_) (fun h4 => ?_)
    · simp (disch := ((try simp only [List.length_set, List.length_replicate, List.length_append, List.length_cons, List.length_nil]); omega)) only [aW, aX, aV, aB, aN, aL, aP, aH, aM, r_ref34_Check]
      exact post_v ⟨by rw [pc_mc h1 h2 h3 hlt hb h4], rfl⟩
    · simp (disch := ((try simp only [List.length_set, List.length_replicate, List.length_append, List.length_cons, List.length_nil]); omega)) only [aW, aX, aV, aB, aN, aL, aP, aH, aM]
      refine ⟨k + 1, ⟨by omega, fun i hi => ?_⟩, by omega, (by refine Cut.of' (1) ?_ (by omega) ?_ ?_ <;> simp (disch := first | omega | simp (disch := omega) only [aF, aL, aN, aM]) only [aW, aX, aV, aB, aN, aL, aP, aH, aM, aF, Int.natCast_add, Int.natCast_mul, Int.add_sub_cancel, List.length_nil, Int.cast_ofNat_Int, and_true, true_and])⟩
      rcases Nat.lt_succ_iff_lt_or_eq.1 hi with h | rfl
      · exact hb i h
      · exact Classical.not_not.1 h4
  have hb : ∀ i, i < p.ms.length → mcheck (p.ms.getD i []) p.mat = 0 := fun i hi => hb i (by omega)
  simp (disch := ((try simp only [List.length_set, List.length_replicate, List.length_append, List.length_cons, List.length_nil]); omega)) only [aW, aX, aV, aB, aN, aL, aP, aH, aM]
  refine (refBelts_vr (w := w) (v := v) p (by omega) (by omega)).same (by unfold plA plC; simp (disch := first | omega | simp (disch := omega) only [aF, aL, aN, aM]) only [aW, aX, aV, aB, aN, aL, aP, aH, aM, aF, Int.natCast_add, Int.natCast_mul, Int.add_sub_cancel, List.length_nil, Int.cast_ofNat_Int, and_true, true_and]) rfl (aret_of ?_)
  simp (disch := ((try simp only [List.length_set, List.length_replicate, List.length_append, List.length_cons, List.length_nil]); omega)) only [aW, aX, aV, aB, aN, aL, aP, aH, aM]
  refine ib_intro (fun h4 => ?_) (fun h4 => ?_)
  · simp (disch := ((try simp only [List.length_set, List.length_replicate, List.length_append, List.length_cons, List.length_nil]); omega)) only [aW, aX, aV, aB, aN, aL, aP, aH, aM, r_ref34_Check]
    exact post_v ⟨by rw [pc_belts h1 h2 h3 hb h4], rfl⟩
  have h4 : beltsE p.ms p.bs = 0 := Classical.not_not.1 h4
  simp (disch := ((try simp only [List.length_set, List.length_replicate, List.length_append, List.length_cons, List.length_nil]); omega)) only [aW, aX, aV, aB, aN, aL, aP, aH, aM]
  refine AWP.loopP g_ref34_Check_1 (fun k : Nat => k ≤ p.ms.length ∧ ∀ i, i < k → ∀ o, o < outsN (p.ms.getD i []) → 0 ≤ findB p.bs i o) (fun k => [(1, .v (.int .i64 0)), (6, .v (.int .i64 k))]) (fun _ => []) (fun k => p.ms.length - k) 0 ⟨by omega, fun i hi => by omega⟩ (by refine Cut.of' (1) ?_ (by omega) ?_ ?_ <;> simp (disch := first | omega | simp (disch := omega) only [aF, aL, aN, aM]) only [aW, aX, aV, aB, aN, aL, aP, aH, aM, aF, Int.natCast_add, Int.natCast_mul, Int.add_sub_cancel, List.length_nil, Int.cast_ofNat_Int, and_true, true_and]) ?_
  rintro k ⟨hk, hu2⟩
  by_cases hlt : k < p.ms.length
  · have hol4 := outs4 (hb k hlt)
    simp (disch := ((try simp only [List.length_set, List.length_replicate, List.length_append, List.length_cons, List.length_nil]); omega)) only [aW, aX, aV, aB, aN, aL, aP, aH, aM]
    refine AWP.loopP g_ref34_Check_2 (fun o : Nat => o ≤ outsN (p.ms.getD k []) ∧ ∀ i, i < o → 0 ≤ findB p.bs k i) (fun o => [(1, .v (.int .i64 0)), (7, .v (.int .i64 o))]) (fun _ => []) (fun o => outsN (p.ms.getD k []) - o) 0 ⟨by omega, fun i hi => by omega⟩ (by refine Cut.of' (1) ?_ (by omega) ?_ ?_ <;> simp (disch := first | omega | simp (disch := omega) only [aF, aL, aN, aM]) only [aW, aX, aV, aB, aN, aL, aP, aH, aM, aF, Int.natCast_add, Int.natCast_mul, Int.add_sub_cancel, List.length_nil, Int.cast_ofNat_Int, and_true, true_and]) ?_
    rintro o ⟨ho, hv⟩
    simp (disch := ((try simp only [List.length_set, List.length_replicate, List.length_append, List.length_cons, List.length_nil]); omega)) only [aW, aX, aV, aB, aN, aL, aP, aH, aM]
    refine (refOuts_vr (w := w) (p.ms.getD k [])).same (by unfold mcA mcC; simp (disch := first | omega | simp (disch := omega) only [aF, aL, aN, aM]) only [aW, aX, aV, aB, aN, aL, aP, aH, aM, aF, Int.natCast_add, Int.natCast_mul, Int.add_sub_cancel, List.length_nil, Int.cast_ofNat_Int, and_true, true_and]) rfl (aret_of ?_)
    by_cases hol : o < outsN (p.ms.getD k [])
    · simp (disch := ((try simp only [List.length_set, List.length_replicate, List.length_append, List.length_cons, List.length_nil]); omega)) only [aW, aX, aV, aB, aN, aL, aP, aH, aM]
      refine (place_vr (w := w) (v := v) p (by omega) k o).same (by unfold plA plC; simp (disch := first | omega | simp (disch := omega) only [aF, aL, aN, aM]) only [aW, aX, aV, aB, aN, aL, aP, aH, aM, aF, Int.natCast_add, Int.natCast_mul, Int.add_sub_cancel, List.length_nil, Int.cast_ofNat_Int, and_true, true_and]) rfl (aret_of ?_)
      simp (disch := ((try simp only [List.length_set, List.length_replicate, List.length_append, List.length_cons, List.length_nil]); omega)) only [aW, aX, aV, aB, aN, aL, aP, aH, aM]
      refine ib_intro (fun h5 => ?_) (fun h5 => ?_)
      · simp (disch := ((try simp only [List.length_set, List.length_replicate, List.length_append, List.length_cons, List.length_nil]); omega)) only [aW, aX, aV, aB, aN, aL, aP, aH, aM, r_ref34_Check]
        exact post_v ⟨by rw [pc_open h1 h2 h3 hb h4 ⟨k, hlt, o, hol, h5⟩], rfl⟩
      · simp (disch := ((try simp only [List.length_set, List.length_replicate, List.length_append, List.length_cons, List.length_nil]); omega)) only [aW, aX, aV, aB, aN, aL, aP, aH, aM]
        refine ⟨o + 1, ⟨by omega, fun i hi => ?_⟩, by omega, (by refine Cut.of' (1) ?_ (by omega) ?_ ?_ <;> simp (disch := first | omega | simp (disch := omega) only [aF, aL, aN, aM]) only [aW, aX, aV, aB, aN, aL, aP, aH, aM, aF, Int.natCast_add, Int.natCast_mul, Int.add_sub_cancel, List.length_nil, Int.cast_ofNat_Int, and_true, true_and])⟩
        rcases Nat.lt_succ_iff_lt_or_eq.1 hi with h | rfl
        · exact hv i h
        · omega
    · simp (disch := ((try simp only [List.length_set, List.length_replicate, List.length_append, List.length_cons, List.length_nil]); omega)) only [aW, aX, aV, aB, aN, aL, aP, aH, aM]
      refine ⟨k + 1, ⟨by omega, fun i hi => ?_⟩, by omega, (by refine Cut.of' (1) ?_ (by omega) ?_ ?_ <;> simp (disch := first | omega | simp (disch := omega) only [aF, aL, aN, aM]) only [aW, aX, aV, aB, aN, aL, aP, aH, aM, aF, Int.natCast_add, Int.natCast_mul, Int.add_sub_cancel, List.length_nil, Int.cast_ofNat_Int, and_true, true_and])⟩
      rcases Nat.lt_succ_iff_lt_or_eq.1 hi with h | rfl
      · exact hu2 i h
      · intro o' ho'; exact hv o' (by omega)
  have hno : ¬ openO p.ms p.bs := by
    rintro ⟨i, g1, o, g2, g3⟩
    have := hu2 i (by omega) o g2
    omega
  have hf := pc_feed h1 h2 h3 hb h4 hno
  simp (disch := ((try simp only [List.length_set, List.length_replicate, List.length_append, List.length_cons, List.length_nil]); omega)) only [aW, aX, aV, aB, aN, aL, aP, aH, aM]
  refine ib_intro (fun h6 => ?_) (fun h6 => ?_)
  · rw [if_pos h6] at hf
    simp (disch := ((try simp only [List.length_set, List.length_replicate, List.length_append, List.length_cons, List.length_nil]); omega)) only [aW, aX, aV, aB, aN, aL, aP, aH, aM, r_ref34_Check]
    exact post_v ⟨by rw [hf], rfl⟩
  rw [if_neg h6] at hf
  simp (disch := ((try simp only [List.length_set, List.length_replicate, List.length_append, List.length_cons, List.length_nil]); omega)) only [aW, aX, aV, aB, aN, aL, aP, aH, aM]
  refine (refOuts_vr (w := w) (p.ms.getD p.fd.toNat [])).same (by unfold mcA mcC; simp (disch := first | omega | simp (disch := omega) only [aF, aL, aN, aM]) only [aW, aX, aV, aB, aN, aL, aP, aH, aM, aF, Int.natCast_add, Int.natCast_mul, Int.add_sub_cancel, List.length_nil, Int.cast_ofNat_Int, and_true, true_and]) rfl (aret_of ?_)
  simp (disch := ((try simp only [List.length_set, List.length_replicate, List.length_append, List.length_cons, List.length_nil]); omega)) only [aW, aX, aV, aB, aN, aL, aP, aH, aM]
  refine ib_intro (fun h7 => ?_) (fun h7 => ?_)
  · rw [if_pos (by omega)] at hf
    simp (disch := ((try simp only [List.length_set, List.length_replicate, List.length_append, List.length_cons, List.length_nil]); omega)) only [aW, aX, aV, aB, aN, aL, aP, aH, aM, r_ref34_Check]
    exact post_v ⟨by rw [hf], rfl⟩
  · rw [if_neg (by omega)] at hf
    simp (disch := ((try simp only [List.length_set, List.length_replicate, List.length_append, List.length_cons, List.length_nil]); omega)) only [aW, aX, aV, aB, aN, aL, aP, aH, aM, r_ref34_Check]
    exact post_v ⟨by rw [hf], rfl⟩
end Go.Proofs.Ytfnghkmchlfooaa
namespace Go.Proofs.Ytfnghkmchlfooaa
open Go Go.Lft
set_option linter.unusedSimpArgs false
attribute [local congr] ob_congr bw_congr ib_congr ck_congr iwA_congr itA_congr aw_congr awp_congr sqA_congr bkA_congr vr_congr gd_congr

abbrev Arcs := List (Int × Int)
def arcBad (n : Int) (a : Int × Int) : Prop := ((a.1 < 0 ∨ n ≤ a.1) ∨ a.2 < 0) ∨ n ≤ a.2
instance (n : Int) (a : Int × Int) : Decidable (arcBad n a) := inferInstanceAs (Decidable (((a.1 < 0 ∨ n ≤ a.1) ∨ a.2 < 0) ∨ n ≤ a.2))
/-- The error of a graph. -/
def gcheck (n : Int) (l : Arcs) : Int := if n < 0 ∨ 64 < n then 1 else if 512 < l.length then 8 else if ∃ i, i < l.length ∧ arcBad n (l.getD i (0, 0)) then 7 else 0
def graphA (w : Bool) (n : Int) (l : Arcs) : A := .agg [.v (.int .i64 n), .fs w (pairs l)]

theorem check_vr {w : Bool} (n : Int) (l : Arcs) : VR P false n_graph_Check [graphA w n l] [] (isR (.v (.int .i64 (gcheck n l)))) := by
  refine vr_graph_Check (by simp) (.inr rfl) fun _ _ => ?_
  unfold graphA
  simp (disch := ((try simp only [List.length_set, List.length_replicate, List.length_append, List.length_cons, List.length_nil]); omega)) only [aW, aX, aV, aB, aN, aL, aP, aH, s_graph_Check, v_graph_Check]
  refine ib_intro (fun h1 => ?_) (fun h1 => ?_)
  · simp (disch := ((try simp only [List.length_set, List.length_replicate, List.length_append, List.length_cons, List.length_nil]); omega)) only [aW, aX, aV, aB, aN, aL, aP, aH, r_graph_Check]
    exact post_v ⟨by simp [gcheck, h1], rfl⟩
  simp (disch := ((try simp only [List.length_set, List.length_replicate, List.length_append, List.length_cons, List.length_nil]); omega)) only [aW, aX, aV, aB, aN, aL, aP, aH]
  refine ib_intro (fun h2 => ?_) (fun h2 => ?_)
  · simp (disch := ((try simp only [List.length_set, List.length_replicate, List.length_append, List.length_cons, List.length_nil]); omega)) only [aW, aX, aV, aB, aN, aL, aP, aH, r_graph_Check]
    exact post_v ⟨by unfold gcheck; rw [if_neg h1, if_pos (by omega)], rfl⟩
  simp (disch := ((try simp only [List.length_set, List.length_replicate, List.length_append, List.length_cons, List.length_nil]); omega)) only [aW, aX, aV, aB, aN, aL, aP, aH]
  refine AWP.loopP g_graph_Check_0 (fun k : Nat => k ≤ l.length ∧ ∀ i, i < k → ¬ arcBad n (l.getD i (0, 0))) (fun k => [(1, .v (.int .i64 0)), (3, .v (.int .i64 k))]) (fun _ => []) (fun k => l.length - k) 0 ⟨by omega, fun i hi => by omega⟩ (by refine Cut.of' (1) ?_ (by omega) ?_ ?_ <;> simp (disch := first | omega | simp (disch := omega) only [aF, aL, aN]) only [aW, aX, aV, aB, aN, aL, aP, aH, aF, Int.natCast_add, Int.natCast_mul, Int.add_sub_cancel, List.length_nil, Int.cast_ofNat_Int, and_true, true_and]) ?_
  rintro k ⟨hk, hg⟩
  by_cases hlt : k < l.length
  · simp (disch := ((try simp only [List.length_set, List.length_replicate, List.length_append, List.length_cons, List.length_nil]); omega)) only [aW, aX, aV, aB, aN, aL, aP, aH]
    refine ib_intro (fun h3 => ?_) (fun h3 => ?_)
    · simp (disch := ((try simp only [List.length_set, List.length_replicate, List.length_append, List.length_cons, List.length_nil]); omega)) only [aW, aX, aV, aB, aN, aL, aP, aH, r_graph_Check]
      refine post_v ⟨?_, rfl⟩
      unfold gcheck; rw [if_neg h1, if_neg (by omega), if_pos ⟨k, hlt, h3⟩]
    · simp (disch := ((try simp only [List.length_set, List.length_replicate, List.length_append, List.length_cons, List.length_nil]); omega)) only [aW, aX, aV, aB, aN, aL, aP, aH]
      refine ⟨k + 1, ⟨by omega, fun i hi => ?_⟩, by omega, ?_⟩
      · rcases Nat.lt_succ_iff_lt_or_eq.1 hi with h | rfl
        · exact hg i h
        · exact h3
      · exact (by refine Cut.of' (1) ?_ (by omega) ?_ ?_ <;> simp (disch := first | omega | simp (disch := omega) only [aF, aL, aN]) only [aW, aX, aV, aB, aN, aL, aP, aH, aF, Int.natCast_add, Int.natCast_mul, Int.add_sub_cancel, List.length_nil, Int.cast_ofNat_Int, and_true, true_and])
  · simp (disch := ((try simp only [List.length_set, List.length_replicate, List.length_append, List.length_cons, List.length_nil]); omega)) only [aW, aX, aV, aB, aN, aL, aP, aH, r_graph_Check]
    refine post_v ⟨?_, rfl⟩
    unfold gcheck; rw [if_neg h1, if_neg (by omega), if_neg]
    rintro ⟨i, hi, hb⟩; exact hg i (by omega) hb

theorem refCheck_vr {w : Bool} (n : Int) (l : Arcs) : VR P false n_ref09_Check [graphA w n l] [] (isR (.v (.int .i64 (gcheck n l)))) := by
  refine vr_ref09_Check (by simp) (.inr rfl) fun _ _ => ?_
  unfold graphA
  simp (disch := ((try simp only [List.length_set, List.length_replicate, List.length_append, List.length_cons, List.length_nil]); omega)) only [aW, aX, aV, aB, aN, aL, aP, aH, s_ref09_Check, v_ref09_Check]
  refine ib_intro (fun h1 => ?_) (fun h1 => ?_)
  · simp (disch := ((try simp only [List.length_set, List.length_replicate, List.length_append, List.length_cons, List.length_nil]); omega)) only [aW, aX, aV, aB, aN, aL, aP, aH, r_ref09_Check]
    exact post_v ⟨by simp [gcheck, h1], rfl⟩
  simp (disch := ((try simp only [List.length_set, List.length_replicate, List.length_append, List.length_cons, List.length_nil]); omega)) only [aW, aX, aV, aB, aN, aL, aP, aH]
  refine ib_intro (fun h2 => ?_) (fun h2 => ?_)
  · simp (disch := ((try simp only [List.length_set, List.length_replicate, List.length_append, List.length_cons, List.length_nil]); omega)) only [aW, aX, aV, aB, aN, aL, aP, aH, r_ref09_Check]
    exact post_v ⟨by unfold gcheck; rw [if_neg h1, if_pos (by omega)], rfl⟩
  simp (disch := ((try simp only [List.length_set, List.length_replicate, List.length_append, List.length_cons, List.length_nil]); omega)) only [aW, aX, aV, aB, aN, aL, aP, aH]
  refine AWP.loopP g_ref09_Check_0 (fun k : Nat => k ≤ l.length ∧ ∀ i, i < k → ¬ arcBad n (l.getD i (0, 0))) (fun k => [(1, .v (.int .i64 0)), (3, .v (.int .i64 k))]) (fun _ => []) (fun k => l.length - k) 0 ⟨by omega, fun i hi => by omega⟩ (by refine Cut.of' (1) ?_ (by omega) ?_ ?_ <;> simp (disch := first | omega | simp (disch := omega) only [aF, aL, aN]) only [aW, aX, aV, aB, aN, aL, aP, aH, aF, Int.natCast_add, Int.natCast_mul, Int.add_sub_cancel, List.length_nil, Int.cast_ofNat_Int, and_true, true_and]) ?_
  rintro k ⟨hk, hg⟩
  by_cases hlt : k < l.length
  · simp (disch := ((try simp only [List.length_set, List.length_replicate, List.length_append, List.length_cons, List.length_nil]); omega)) only [aW, aX, aV, aB, aN, aL, aP, aH]
    refine ib_intro (fun h3 => ?_) (fun h3 => ?_)
    · simp (disch := ((try simp only [List.length_set, List.length_replicate, List.length_append, List.length_cons, List.length_nil]); omega)) only [aW, aX, aV, aB, aN, aL, aP, aH, r_ref09_Check]
      refine post_v ⟨?_, rfl⟩
      unfold gcheck; rw [if_neg h1, if_neg (by omega), if_pos ⟨k, hlt, h3⟩]
    · simp (disch := ((try simp only [List.length_set, List.length_replicate, List.length_append, List.length_cons, List.length_nil]); omega)) only [aW, aX, aV, aB, aN, aL, aP, aH]
      refine ⟨k + 1, ⟨by omega, fun i hi => ?_⟩, by omega, ?_⟩
      · rcases Nat.lt_succ_iff_lt_or_eq.1 hi with h | rfl
        · exact hg i h
        · exact h3
      · exact (by refine Cut.of' (1) ?_ (by omega) ?_ ?_ <;> simp (disch := first | omega | simp (disch := omega) only [aF, aL, aN]) only [aW, aX, aV, aB, aN, aL, aP, aH, aF, Int.natCast_add, Int.natCast_mul, Int.add_sub_cancel, List.length_nil, Int.cast_ofNat_Int, and_true, true_and])
  · simp (disch := ((try simp only [List.length_set, List.length_replicate, List.length_append, List.length_cons, List.length_nil]); omega)) only [aW, aX, aV, aB, aN, aL, aP, aH, r_ref09_Check]
    refine post_v ⟨?_, rfl⟩
    unfold gcheck; rw [if_neg h1, if_neg (by omega), if_neg]
    rintro ⟨i, hi, hb⟩; exact hg i (by omega) hb
end Go.Proofs.Ytfnghkmchlfooaa
namespace Go.Proofs.Ytfnghkmchlfooaa
open Go Go.Lft
set_option linter.unusedSimpArgs false
set_option linter.unusedVariables false
attribute [local congr] ob_congr bw_congr ib_congr ck_congr iwA_congr itA_congr aw_congr awp_congr sqA_congr bkA_congr vr_congr gd_congr

theorem eq_of_get {α : Type} {a b : List α} (d : α) (hl : a.length = b.length) (h : ∀ i, i < a.length → a.getD i d = b.getD i d) : a = b := by
  apply List.ext_getElem hl
  intro i h1 h2
  have := h i h1
  simpa [List.getD_eq_getElem?_getD, h1, h2] using this

theorem refInts_vr {w v : Bool} (a b : List Int) (ha : a.length < 1000000000) : VR P false n_ref09_Ints [.fs w (ints a), .fs v (ints b)] [] (isR (.v (.bool (decide (a = b))))) := by
  refine vr_ref09_Ints (by simp) (.inr rfl) fun _ _ => ?_
  simp (disch := ((try simp only [List.length_set, List.length_replicate, List.length_append, List.length_cons, List.length_nil]); omega)) only [aW, aX, aV, aB, aN, aL, aP, aH, s_ref09_Ints, v_ref09_Ints]
  refine ib_intro (fun h1 => ?_) (fun h1 => ?_)
  · simp (disch := ((try simp only [List.length_set, List.length_replicate, List.length_append, List.length_cons, List.length_nil]); omega)) only [aW, aX, aV, aB, aN, aL, aP, aH, r_ref09_Ints]
    exact post_v ⟨vfalse (fun h => h1 (by rw [h])), rfl⟩
  have hl : a.length = b.length := by omega
  simp (disch := ((try simp only [List.length_set, List.length_replicate, List.length_append, List.length_cons, List.length_nil]); omega)) only [aW, aX, aV, aB, aN, aL, aP, aH]
  refine AWP.loopP g_ref09_Ints_0 (fun k : Nat => k ≤ a.length ∧ ∀ i, i < k → a.getD i 0 = b.getD i 0) (fun k => [(2, .v (.bool false)), (3, .v (.int .i64 k))]) (fun _ => []) (fun k => a.length - k) 0 ⟨by omega, fun i hi => by omega⟩ (by refine Cut.of' (0) ?_ (by omega) ?_ ?_ <;> simp (disch := first | omega | simp (disch := omega) only [aF, aL, aN]) only [aW, aX, aV, aB, aN, aL, aP, aH, aF, Int.natCast_add, Int.natCast_mul, Int.add_sub_cancel, List.length_nil, Int.cast_ofNat_Int, and_true, true_and]) ?_
  rintro k ⟨hk, hg⟩
  by_cases hlt : k < a.length
  · simp (disch := ((try simp only [List.length_set, List.length_replicate, List.length_append, List.length_cons, List.length_nil]); omega)) only [aW, aX, aV, aB, aN, aL, aP, aH]
    refine ib_split (fun h3 => ?_) (fun h3 => ?_)
    · simp (disch := ((try simp only [List.length_set, List.length_replicate, List.length_append, List.length_cons, List.length_nil]); omega)) only [aW, aX, aV, aB, aN, aL, aP, aH, r_ref09_Ints]
      refine post_v ⟨vfalse (fun h => ?_), rfl⟩
      subst h; simp at h3
    · simp (disch := ((try simp only [List.length_set, List.length_replicate, List.length_append, List.length_cons, List.length_nil]); omega)) only [aW, aX, aV, aB, aN, aL, aP, aH]
      refine ⟨k + 1, ⟨by omega, fun i hi => ?_⟩, by omega, (by refine Cut.of' (0) ?_ (by omega) ?_ ?_ <;> simp (disch := first | omega | simp (disch := omega) only [aF, aL, aN]) only [aW, aX, aV, aB, aN, aL, aP, aH, aF, Int.natCast_add, Int.natCast_mul, Int.add_sub_cancel, List.length_nil, Int.cast_ofNat_Int, and_true, true_and])⟩
      rcases Nat.lt_succ_iff_lt_or_eq.1 hi with h | rfl
      · exact hg i h
      · simpa using h3
  · simp (disch := ((try simp only [List.length_set, List.length_replicate, List.length_append, List.length_cons, List.length_nil]); omega)) only [aW, aX, aV, aB, aN, aL, aP, aH, r_ref09_Ints]
    exact post_v ⟨vtrue (eq_of_get 0 hl (fun i hi => hg i (by omega))), rfl⟩

theorem refLists_vr {w v w' v' : Bool} (a b : List (List Int)) (ha : a.length < 1000000000) (hs : ∀ r ∈ a, r.length < 1000000000) : VR P false n_ref09_Lists [.fs w (rows w' a), .fs v (rows v' b)] [] (isR (.v (.bool (decide (a = b))))) := by
  refine vr_ref09_Lists (by simp) (.inr rfl) fun _ _ => ?_
  simp (disch := ((try simp only [List.length_set, List.length_replicate, List.length_append, List.length_cons, List.length_nil]); omega)) only [aW, aX, aV, aB, aN, aL, aP, aH, s_ref09_Lists, v_ref09_Lists]
  refine ib_intro (fun h1 => ?_) (fun h1 => ?_)
  · simp (disch := ((try simp only [List.length_set, List.length_replicate, List.length_append, List.length_cons, List.length_nil]); omega)) only [aW, aX, aV, aB, aN, aL, aP, aH, r_ref09_Lists]
    exact post_v ⟨vfalse (fun h => h1 (by rw [h])), rfl⟩
  have hl : a.length = b.length := by omega
  simp (disch := ((try simp only [List.length_set, List.length_replicate, List.length_append, List.length_cons, List.length_nil]); omega)) only [aW, aX, aV, aB, aN, aL, aP, aH]
  refine AWP.loopP g_ref09_Lists_0 (fun k : Nat => k ≤ a.length ∧ ∀ i, i < k → a.getD i [] = b.getD i []) (fun k => [(2, .v (.bool false)), (3, .v (.int .i64 k))]) (fun _ => []) (fun k => a.length - k) 0 ⟨by omega, fun i hi => by omega⟩ (by refine Cut.of' (0) ?_ (by omega) ?_ ?_ <;> simp (disch := first | omega | simp (disch := omega) only [aF, aL, aN]) only [aW, aX, aV, aB, aN, aL, aP, aH, aF, Int.natCast_add, Int.natCast_mul, Int.add_sub_cancel, List.length_nil, Int.cast_ofNat_Int, and_true, true_and]) ?_
  rintro k ⟨hk, hg⟩
  by_cases hlt : k < a.length
  · simp (disch := ((try simp only [List.length_set, List.length_replicate, List.length_append, List.length_cons, List.length_nil]); omega)) only [aW, aX, aV, aB, aN, aL, aP, aH]
    refine (refInts_vr (a.getD k []) (b.getD k []) (hs _ (by simp [List.getD_eq_getElem?_getD, hlt]))).same (by simp (disch := first | omega | simp (disch := omega) only [aF, aL, aN]) only [aW, aX, aV, aB, aN, aL, aP, aH, aF, Int.natCast_add, Int.natCast_mul, Int.add_sub_cancel, List.length_nil, Int.cast_ofNat_Int, and_true, true_and]) rfl (aret_of ?_)
    simp (disch := ((try simp only [List.length_set, List.length_replicate, List.length_append, List.length_cons, List.length_nil]); omega)) only [aW, aX, aV, aB, aN, aL, aP, aH]
    refine ib_intro (fun h3 => ?_) (fun h3 => ?_)
    · simp (disch := ((try simp only [List.length_set, List.length_replicate, List.length_append, List.length_cons, List.length_nil]); omega)) only [aW, aX, aV, aB, aN, aL, aP, aH, r_ref09_Lists]
      exact post_v ⟨vfalse (fun h => h3 (by rw [h])), rfl⟩
    · simp (disch := ((try simp only [List.length_set, List.length_replicate, List.length_append, List.length_cons, List.length_nil]); omega)) only [aW, aX, aV, aB, aN, aL, aP, aH]
      refine ⟨k + 1, ⟨by omega, fun i hi => ?_⟩, by omega, (by refine Cut.of' (0) ?_ (by omega) ?_ ?_ <;> simp (disch := first | omega | simp (disch := omega) only [aF, aL, aN]) only [aW, aX, aV, aB, aN, aL, aP, aH, aF, Int.natCast_add, Int.natCast_mul, Int.add_sub_cancel, List.length_nil, Int.cast_ofNat_Int, and_true, true_and])⟩
      rcases Nat.lt_succ_iff_lt_or_eq.1 hi with h | rfl
      · exact hg i h
      · exact Classical.not_not.1 h3
  · simp (disch := ((try simp only [List.length_set, List.length_replicate, List.length_append, List.length_cons, List.length_nil]); omega)) only [aW, aX, aV, aB, aN, aL, aP, aH, r_ref09_Lists]
    exact post_v ⟨vtrue (eq_of_get [] hl (fun i hi => hg i (by omega))), rfl⟩
end Go.Proofs.Ytfnghkmchlfooaa
namespace Go.Proofs.Ytfnghkmchlfooaa
open Go Go.Lft
set_option linter.unusedSimpArgs false
set_option linter.unusedVariables false
attribute [local congr] ob_congr bw_congr ib_congr ck_congr iwA_congr itA_congr aw_congr awp_congr sqA_congr bkA_congr vr_congr gd_congr

def vis (S : List Bool) (w : Int) : Prop := S.getD w.toNat false = true
instance (S : List Bool) (w : Int) : Decidable (vis S w) := inferInstanceAs (Decidable (S.getD w.toNat false = true))
theorem vis_set (S : List Bool) (v w : Int) (hv0 : 0 ≤ v) (hv : v.toNat < S.length) (hw : 0 ≤ w) : vis (S.set v.toNat true) w ↔ w = v ∨ vis S w := by
  unfold vis
  simp only [List.getD_eq_getElem?_getD, List.getElem?_set]
  by_cases h : v.toNat = w.toNat
  · rw [if_pos h]
    have : w = v := by omega
    subst this
    simp [hv]
  · rw [if_neg h]
    have : w ≠ v := fun hh => h (by rw [hh])
    simp [this]
/-- There is a way from u to w over es. -/
inductive Path (es : Arcs) : Int → Int → Prop
  | refl (u : Int) : Path es u u
  | step {u v w : Int} (h : (u, v) ∈ es) (p : Path es v w) : Path es u w
theorem Path.trans {es : Arcs} {u v w : Int} (p : Path es u v) (q : Path es v w) : Path es u w := by
  induction p with
  | refl u => exact q
  | step h _ ih => exact .step h (ih q)
theorem Path.snoc {es : Arcs} {u v w : Int} (p : Path es u v) (h : (v, w) ∈ es) : Path es u w := p.trans (.step h (.refl w))

/-- What a call turns S into. -/
structure Seen (es : Arcs) (S S' : List Bool) (v : Int) : Prop where
  len : S'.length = S.length
  mono : ∀ w, vis S w → vis S' w
  new : ∀ w, 0 ≤ w → vis S' w → vis S w ∨ Path es v w
  clo : ∀ w x, 0 ≤ w → vis S' w → ¬ vis S w → (w, x) ∈ es → vis S' x
  self : vis S' v
def inR (n : Int) (es : Arcs) : Prop := ∀ a ∈ es, (0 ≤ a.1 ∧ a.1 < n) ∧ 0 ≤ a.2 ∧ a.2 < n

theorem count_set (S : List Bool) (i : Nat) (h : i < S.length) (hf : S.getD i false = false) : (S.set i true).count false + 1 = S.count false := by
  induction S generalizing i with
  | nil => simp at h
  | cons a r ih =>
    cases i with
    | zero => simp at hf; subst hf; simp
    | succ i =>
      simp only [List.set_cons_succ, List.count_cons]
      have := ih i (by simpa using h) (by simpa using hf)
      omega
theorem count_mono {S S' : List Bool} (hl : S'.length = S.length) (h : ∀ i, S.getD i false = true → S'.getD i false = true) : S'.count false ≤ S.count false := by
  induction S generalizing S' with
  | nil => simp at hl; subst hl; simp
  | cons a r ih =>
    cases S' with
    | nil => simp at hl
    | cons b q =>
      have h1 := ih (S' := q) (by simpa using hl) fun i hi => by have := h (i + 1) (by simpa using hi); simpa using this
      have h0 := h 0
      simp only [List.count_cons]
      cases a <;> cases b <;> simp at h0 ⊢ <;> omega

/-- The function gives the two ends of an arc. -/
def IsEnds (f : Nat) (e : Int × Int → Int × Int) : Prop := bodied P f = true ∧ ∀ a : Int × Int, VR P false f [.agg [.v (.int .i64 a.1), .v (.int .i64 a.2)]] [] (isR (.tup [.v (.int .i64 (e a).1), .v (.int .i64 (e a).2)]))
theorem ends1 : IsEnds n_graph_Reach_1 id := ⟨by kernel_rfl, fun a => by
  refine vr_graph_Reach_1 (by simp) (.inr rfl) fun _ _ => ?_
  simp (disch := ((try simp only [List.length_set, List.length_replicate, List.length_append, List.length_cons, List.length_nil]); omega)) only [aW, aX, aV, aB, aN, aL, aP, aH, s_graph_Reach_1, v_graph_Reach_1, r_graph_Reach_1]
  exact post0 (Fz.refl rfl) ⟨rfl, rfl⟩⟩
theorem ends2 : IsEnds n_graph_Back_1 Prod.swap := ⟨by kernel_rfl, fun a => by
  refine vr_graph_Back_1 (by simp) (.inr rfl) fun _ _ => ?_
  simp (disch := ((try simp only [List.length_set, List.length_replicate, List.length_append, List.length_cons, List.length_nil]); omega)) only [aW, aX, aV, aB, aN, aL, aP, aH, s_graph_Back_1, v_graph_Back_1, r_graph_Back_1]
  exact post0 (Fz.refl rfl) ⟨rfl, rfl⟩⟩

/-- The memory of visit. -/
abbrev vmem (w : Bool) (n : Int) (l : Arcs) (f N : Nat) (S : List Bool) (T : List Blk) : List Blk :=
  ⟨0, [.v (.int .i64 n), .fs w (pairs l)]⟩ :: ⟨0, [.fn f []]⟩ :: ⟨0, bools S⟩ :: ⟨0, [.sl 2 0 1 0 N]⟩ :: ⟨0, [.fn n_graph_visit_1 [.lp 3 0 0, .lp 0 0 0, .lp 1 0 0, .lp 4 0 0]]⟩ :: T

theorem vm_ok {w : Bool} {n : Int} {l : Arcs} {f N : Nat} {S : List Bool} {T : List Blk} {k : Nat} (hk : 5 ≤ k) (hb : okB k (vmem w n l f N S T)) (S' : List Bool) : okB k (vmem w n l f N S' T) := fun B hB => by
  rcases List.mem_cons.1 hB with rfl | hB
  · simp (disch := first | omega | simp (disch := omega) only [aF, aL, aN]) only [aW, aX, aV, aB, aN, aL, aP, aH, aF, Int.natCast_add, Int.natCast_mul, Int.add_sub_cancel, List.length_nil, Int.cast_ofNat_Int, and_true, true_and]
  rcases List.mem_cons.1 hB with rfl | hB
  · simp (disch := first | omega | simp (disch := omega) only [aF, aL, aN]) only [aW, aX, aV, aB, aN, aL, aP, aH, aF, Int.natCast_add, Int.natCast_mul, Int.add_sub_cancel, List.length_nil, Int.cast_ofNat_Int, and_true, true_and]
  rcases List.mem_cons.1 hB with rfl | hB
  · simp (disch := first | omega | simp (disch := omega) only [aF, aL, aN]) only [aW, aX, aV, aB, aN, aL, aP, aH, aF, Int.natCast_add, Int.natCast_mul, Int.add_sub_cancel, List.length_nil, Int.cast_ofNat_Int, and_true, true_and]
  rcases List.mem_cons.1 hB with rfl | hB
  · simp (disch := first | omega | simp (disch := omega) only [aF, aL, aN]) only [aW, aX, aV, aB, aN, aL, aP, aH, aF, Int.natCast_add, Int.natCast_mul, Int.add_sub_cancel, List.length_nil, Int.cast_ofNat_Int, and_true, true_and]
  rcases List.mem_cons.1 hB with rfl | hB
  · simp (disch := first | omega | simp (disch := omega) only [aF, aL, aN]) only [aW, aX, aV, aB, aN, aL, aP, aH, aF, Int.natCast_add, Int.natCast_mul, Int.add_sub_cancel, List.length_nil, Int.cast_ofNat_Int, and_true, true_and]
  exact hb B (by simp [hB])

theorem visit1_vr {w : Bool} {n : Int} {l : Arcs} {f N : Nat} {e : Int × Int → Int × Int} (he : IsEnds f e) (hl : l.length < 1000000000) (hn : n < 1000000000) (hr : inR n (l.map e)) (hN : (N : Int) = n) :
    ∀ (m : Nat) (S : List Bool) (T : List Blk) (v : Int), S.count false ≤ m → S.length = N → 0 ≤ v → v < n →
    VR P false n_graph_visit_1 [.v (.int .i64 v), .lp 3 0 0, .lp 0 0 0, .lp 1 0 0, .lp 4 0 0] (vmem w n l f N S T) (fun r H' => ∃ S', Seen (l.map e) S S' v ∧ H' = vmem w n l f N S' T) := by
  intro m
  induction m with
  | zero =>
    intro S T v hm hs h0 h1
    refine vr_graph_visit_1 (by simp) (.inl rfl) fun hb _ => ?_
    have hv : S.getD v.toNat false = true := by
      cases hh : S.getD v.toNat false with
      | true => rfl
      | false =>
        have := count_set S v.toNat (by omega) hh
        omega
    simp (disch := ((try simp only [List.length_set, List.length_replicate, List.length_append, List.length_cons, List.length_nil]); omega)) only [aW, aX, aV, aB, aN, aL, aP, aH, s_graph_visit_1, v_graph_visit_1, r_graph_visit_1, vmem, hv]
    exact post2 (R := fun r H' => _) ⟨S, ⟨rfl, fun _ h => h, fun _ _ h => .inl h, fun w x _ h1 h2 => absurd h1 h2, hv⟩, rfl⟩
  | succ m ih =>
    intro S T v hm hs h0 h1
    refine vr_graph_visit_1 (by simp) (.inl rfl) fun hb _ => ?_
    cases hv : S.getD v.toNat false with
    | true =>
      simp (disch := ((try simp only [List.length_set, List.length_replicate, List.length_append, List.length_cons, List.length_nil]); omega)) only [aW, aX, aV, aB, aN, aL, aP, aH, s_graph_visit_1, v_graph_visit_1, r_graph_visit_1, vmem, hv]
      exact post2 (R := fun r H' => _) ⟨S, ⟨rfl, fun _ h => h, fun _ _ h => .inl h, fun w x _ h1 h2 => absurd h1 h2, hv⟩, rfl⟩
    | false =>
      have hS1 : (S.set v.toNat true).length = S.length := List.length_set
      simp (disch := ((try simp only [List.length_set, List.length_replicate, List.length_append, List.length_cons, List.length_nil]); omega)) only [aW, aX, aV, aB, aN, aL, aP, aH, s_graph_visit_1, v_graph_visit_1, vmem, hv]
      have okm := vm_ok (k := T.length + 1 + 1 + 1 + 1 + 1) (by omega) hb
      have hvl : v.toNat < S.length := by omega
      have vset := fun w (hw : 0 ≤ w) => vis_set S v w h0 hvl hw
      refine AWP.loopP (α := Nat × List Bool) g_graph_visit_1_0 (fun p => p.1 ≤ l.length ∧ p.2.length = S.length ∧ (∀ w, vis (S.set v.toNat true) w → vis p.2 w) ∧ (∀ w, 0 ≤ w → vis p.2 w → vis (S.set v.toNat true) w ∨ Path (l.map e) v w) ∧
          (∀ w x, 0 ≤ w → vis p.2 w → ¬ vis (S.set v.toNat true) w → (w, x) ∈ l.map e → vis p.2 x) ∧ ∀ i, i < p.1 → (e (l.getD i (0, 0))).1 = v → vis p.2 (e (l.getD i (0, 0))).2)
        (fun p => [(5, .v (.int .i64 p.1))]) (fun p => [(2, ⟨0, bools p.2⟩)]) (fun p => l.length - p.1) (0, S.set v.toNat true)
        ⟨by simp only; omega, hS1, fun _ h => h, fun _ _ h => .inl h, fun w x _ h1 h2 => absurd h1 h2, fun i hi => by simp only at hi; omega⟩ ?_ ?_
      · simp (disch := ((try simp only [List.length_set, List.length_replicate, List.length_append, List.length_cons, List.length_nil]); omega)) only [aW, aX, aV, aB, aN, aL, aP, aH]
        exact Cut.same (H := vmem w n l f N (S.set v.toNat true) T) (by simp) (by have := okm (S.set v.toNat true); simpa using this) (by simp (disch := first | omega | simp (disch := omega) only [aF, aL, aN]) only [aW, aX, aV, aB, aN, aL, aP, aH, aF, Int.natCast_add, Int.natCast_mul, Int.add_sub_cancel, List.length_nil, Int.cast_ofNat_Int, and_true, true_and])
      rintro ⟨k, Sk⟩ ⟨k1, k2, k3, k4, k5, k6⟩
      simp only at k1 k2 k3 k4 k5 k6
      by_cases hlt : k < l.length
      · have hmem : e (l.getD k (0, 0)) ∈ l.map e := by
          refine List.mem_map.2 ⟨l.getD k (0, 0), ?_, rfl⟩
          simp [List.getD_eq_getElem?_getD, hlt]
        obtain ⟨⟨r1, r2⟩, r3, r4⟩ := hr _ hmem
        have step : ∀ S', (∀ w, vis (S.set v.toNat true) w → vis S' w) → (∀ w, 0 ≤ w → vis S' w → vis (S.set v.toNat true) w ∨ Path (l.map e) v w) → (∀ w x, 0 ≤ w → vis S' w → ¬ vis (S.set v.toNat true) w → (w, x) ∈ l.map e → vis S' x) → S'.length = S.length →
            (∀ w, vis Sk w → vis S' w) → ((e (l.getD k (0, 0))).1 = v → vis S' (e (l.getD k (0, 0))).2) →
            (fun p : Nat × List Bool => p.1 ≤ l.length ∧ p.2.length = S.length ∧ (∀ w, vis (S.set v.toNat true) w → vis p.2 w) ∧ (∀ w, 0 ≤ w → vis p.2 w → vis (S.set v.toNat true) w ∨ Path (l.map e) v w) ∧
              (∀ w x, 0 ≤ w → vis p.2 w → ¬ vis (S.set v.toNat true) w → (w, x) ∈ l.map e → vis p.2 x) ∧ ∀ i, i < p.1 → (e (l.getD i (0, 0))).1 = v → vis p.2 (e (l.getD i (0, 0))).2) (k + 1, S') := by
          intro S' g1 g2 g3 g4 g5 g6
          refine ⟨by simp only; omega, g4, g1, g2, g3, fun i hi hiv => ?_⟩
          simp only at hi
          by_cases hik : i = k
          · subst hik; exact g6 hiv
          · exact g5 _ (k6 i (by omega) hiv)
        simp (disch := ((try simp only [List.length_set, List.length_replicate, List.length_append, List.length_cons, List.length_nil]); omega)) only [aW, aX, aV, aB, aN, aL, aP, aH]
        refine ⟨he.1, (he.2 (l.getD k (0, 0))).same (by simp (disch := first | omega | simp (disch := omega) only [aF, aL, aN]) only [aW, aX, aV, aB, aN, aL, aP, aH, aF, Int.natCast_add, Int.natCast_mul, Int.add_sub_cancel, List.length_nil, Int.cast_ofNat_Int, and_true, true_and]) rfl (aret_of ?_)⟩
        simp (disch := ((try simp only [List.length_set, List.length_replicate, List.length_append, List.length_cons, List.length_nil]); omega)) only [aW, aX, aV, aB, aN, aL, aP, aH]
        refine ib_intro (fun h3 => ?_) (fun h3 => ?_)
        · simp (disch := ((try simp only [List.length_set, List.length_replicate, List.length_append, List.length_cons, List.length_nil]); omega)) only [aW, aX, aV, aB, aN, aL, aP, aH]
          have hcnt : Sk.count false ≤ m := by
            have h4 := count_set S v.toNat hvl hv
            have h5 := count_mono (S := S.set v.toNat true) (S' := Sk) (by rw [k2, hS1]) (fun i hi => k3 i hi)
            omega
          refine ⟨by kernel_rfl, (ih Sk (T ++ [⟨0, [.v (.int .i64 (l.getD k (0, 0)).1), .v (.int .i64 (l.getD k (0, 0)).2)]⟩]) (e (l.getD k (0, 0))).2 hcnt (by omega) r3 r4).mono ?_⟩
          rintro r H' ⟨S', q, rfl⟩
          refine aret_of ?_
          have ql : S'.length = S.length := q.len.trans k2
          simp (disch := ((try simp only [List.length_set, List.length_replicate, List.length_append, List.length_cons, List.length_nil]); omega)) only [aW, aX, aV, aB, aN, aL, aP, aH, vmem]
          refine ⟨(k + 1, S'), step S' (fun w hw => q.mono w (k3 w hw)) (fun w hw0 hw => ?_) (fun w x hw0 hw hnw hwx => ?_) ql q.mono (fun _ => q.self), by simp only; omega, ?_⟩
          · rcases q.new w hw0 hw with h6 | h6
            · exact k4 w hw0 h6
            · exact .inr (.step (by rw [← h3]; exact hmem) h6)
          · by_cases h6 : vis Sk w
            · exact q.mono x (k5 w x hw0 h6 hnw hwx)
            · exact q.clo w x hw0 hw h6 hwx
          · simp (disch := ((try simp only [List.length_set, List.length_replicate, List.length_append, List.length_cons, List.length_nil]); omega)) only [aW, aX, aV, aB, aN, aL, aP, aH]
            exact Cut.app (H := vmem w n l f N S' T) (by simp) (by have := okm S'; simpa using this) (by simp (disch := first | omega | simp (disch := omega) only [aF, aL, aN]) only [aW, aX, aV, aB, aN, aL, aP, aH, aF, Int.natCast_add, Int.natCast_mul, Int.add_sub_cancel, List.length_nil, Int.cast_ofNat_Int, and_true, true_and])
        · simp (disch := ((try simp only [List.length_set, List.length_replicate, List.length_append, List.length_cons, List.length_nil]); omega)) only [aW, aX, aV, aB, aN, aL, aP, aH]
          refine ⟨(k + 1, Sk), step Sk k3 k4 k5 k2 (fun _ h => h) (fun hh => absurd hh h3), by simp only; omega, ?_⟩
          simp (disch := ((try simp only [List.length_set, List.length_replicate, List.length_append, List.length_cons, List.length_nil]); omega)) only [aW, aX, aV, aB, aN, aL, aP, aH]
          exact Cut.app (H := vmem w n l f N Sk T) (by simp) (by have := okm Sk; simpa using this) (by simp (disch := first | omega | simp (disch := omega) only [aF, aL, aN]) only [aW, aX, aV, aB, aN, aL, aP, aH, aF, Int.natCast_add, Int.natCast_mul, Int.add_sub_cancel, List.length_nil, Int.cast_ofNat_Int, and_true, true_and])
      · simp (disch := ((try simp only [List.length_set, List.length_replicate, List.length_append, List.length_cons, List.length_nil]); omega)) only [aW, aX, aV, aB, aN, aL, aP, aH, r_graph_visit_1]
        refine post2 (R := fun r H' => _) ⟨Sk, ⟨k2, fun w hw => k3 w (by
            unfold vis at hw ⊢
            simp only [List.getD_eq_getElem?_getD, List.getElem?_set] at hw ⊢
            split
            · simp [hvl]
            · exact hw), fun w hw0 hw => ?_, fun w x hw0 hw hnw hwx => ?_, k3 v ((vset v h0).2 (.inl rfl))⟩, rfl⟩
        · rcases k4 w hw0 hw with h6 | h6
          · rcases (vset w hw0).1 h6 with rfl | h7
            · exact .inr (.refl _)
            · exact .inl h7
          · exact .inr h6
        · by_cases h6 : w = v
          · subst h6
            obtain ⟨a, ha, hax⟩ := List.mem_map.1 hwx
            obtain ⟨i, hi, rfl⟩ := List.mem_iff_getElem.1 ha
            have hg : l.getD i (0, 0) = l[i] := by simp [List.getD_eq_getElem?_getD, hi]
            have := k6 i (by omega) (by rw [hg, hax])
            rw [hg, hax] at this; exact this
          · exact k5 w x hw0 hw (fun h7 => ((vset w hw0).1 h7).elim h6 hnw) hwx
end Go.Proofs.Ytfnghkmchlfooaa
