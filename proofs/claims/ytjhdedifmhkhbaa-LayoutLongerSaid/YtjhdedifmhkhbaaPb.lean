/- What the document says of plants: belts, errors, ways. Plain definitions and lemmas; no statement is claimed here. -/
import Derived.Test.YtjhdedifmhkhbaaPa
namespace Go.Proofs.Ytjhdedifmhkhbaa
open Go Go.Lft
set_option linter.unusedSimpArgs false
set_option linter.unusedVariables false

def isB (m o : Int) (b : Bt) : Prop := b.fr = m ∧ b.ot = o
instance (m o : Int) : DecidablePred (isB m o) := fun b => by unfold isB; infer_instance
def findB (bs : List Bt) (m o : Int) : Int := idxE (isB m o) bs
def beltE (ms : List Mc) (b : Bt) : Int :=
  if b.fr < 0 ∨ (ms.length : Int) ≤ b.fr ∨ b.ot < 0 ∨ (outsN (ms.getD b.fr.toNat []) : Int) ≤ b.ot ∨ b.to < 0 ∨ (ms.length : Int) ≤ b.to then 7
  else if b.ln < 1 ∨ 16 < b.ln then 1 else 0
def twice (bs : List Bt) : Prop := ∃ k, k < bs.length ∧ findB bs (bs.getD k b0).fr (bs.getD k b0).ot ≠ k
def openO (ms : List Mc) (bs : List Bt) : Prop := ∃ i, i < ms.length ∧ ∃ o, o < outsN (ms.getD i []) ∧ findB bs i o < 0
instance (bs : List Bt) : Decidable (twice bs) := by unfold twice; infer_instance
instance (ms : List Mc) (bs : List Bt) : Decidable (openO ms bs) := by unfold openO; infer_instance
def beltsE (ms : List Mc) (bs : List Bt) : Int :=
  if firstE (beltE ms) bs ≠ 0 then firstE (beltE ms) bs else if twice bs then 6 else 0
def pcheck (p : Pl) : Int :=
  if p.mat < 1 ∨ 16 < p.mat then 1 else if p.ms.length = 0 then 10 else if 24 < p.ms.length ∨ 48 < p.bs.length then 8
  else if firstE (fun m => mcheck m p.mat) p.ms ≠ 0 then firstE (fun m => mcheck m p.mat) p.ms
  else if beltsE p.ms p.bs ≠ 0 then beltsE p.ms p.bs
  else if openO p.ms p.bs then 3
  else if p.fd < 0 ∨ (p.ms.length : Int) ≤ p.fd then 7
  else if outsN (p.ms.getD p.fd.toNat []) = 0 then 13 else 0

/-- What a plant without errors is. -/
structure POk (p : Pl) : Prop where
  m1 : 1 ≤ p.mat
  m2 : p.mat ≤ 16
  n1 : 1 ≤ p.ms.length
  n2 : p.ms.length ≤ 24
  b2 : p.bs.length ≤ 48
  mc : ∀ m ∈ p.ms, MOk m p.mat
  bt : ∀ b ∈ p.bs, 0 ≤ b.fr ∧ b.fr < p.ms.length ∧ 0 ≤ b.ot ∧ b.ot < outsN (p.ms.getD b.fr.toNat []) ∧ 0 ≤ b.to ∧ b.to < p.ms.length ∧ 1 ≤ b.ln ∧ b.ln ≤ 16
  un : ∀ k, k < p.bs.length → findB p.bs (p.bs.getD k b0).fr (p.bs.getD k b0).ot = k
  op : ∀ i, i < p.ms.length → ∀ o, o < outsN (p.ms.getD i []) → 0 ≤ findB p.bs i o
  fd : 0 ≤ p.fd ∧ p.fd < p.ms.length
  fo : outsN (p.ms.getD p.fd.toNat []) ≠ 0
theorem beltE_ok {ms : List Mc} {b : Bt} (h : beltE ms b = 0) : 0 ≤ b.fr ∧ b.fr < ms.length ∧ 0 ≤ b.ot ∧ b.ot < outsN (ms.getD b.fr.toNat []) ∧ 0 ≤ b.to ∧ b.to < ms.length ∧ 1 ≤ b.ln ∧ b.ln ≤ 16 := by
  unfold beltE at h
  split at h
  · cases h
  · split at h
    · cases h
    · omega
theorem pcheck_ok {p : Pl} (h : pcheck p = 0) : POk p := by
  unfold pcheck at h
  split at h
  · cases h
  rename_i h1
  split at h
  · cases h
  rename_i h2
  split at h
  · cases h
  rename_i h3
  split at h
  · contradiction
  rename_i h4
  split at h
  · contradiction
  rename_i h5
  split at h
  · cases h
  rename_i h6
  split at h
  · cases h
  rename_i h7
  split at h
  · cases h
  rename_i h8
  have h5 := Classical.not_not.1 h5
  unfold beltsE at h5
  split at h5
  · contradiction
  rename_i h9
  split at h5
  · cases h5
  rename_i h10
  refine ⟨by omega, by omega, by omega, by omega, by omega, fun m hm => mcheck_ok (firstE_all (Classical.not_not.1 h4) m hm), fun b hb => beltE_ok (firstE_all (Classical.not_not.1 h9) b hb), fun k hk => ?_, fun i hi o ho => ?_, by omega, h8⟩
  · apply Classical.byContradiction; intro hc; exact h10 ⟨k, hk, hc⟩
  · apply Classical.byContradiction; intro hc; exact h6 ⟨i, hi, o, ho, by omega⟩

/-- The belt of an output. -/
theorem findB_ok {bs : List Bt} {m o : Int} (h : 0 ≤ findB bs m o) : (findB bs m o).toNat < bs.length ∧ (bs.getD (findB bs m o).toNat b0).fr = m ∧ (bs.getD (findB bs m o).toNat b0).ot = o := by
  have h1 := idxE_ge (isB m o) bs
  have h2 := idxE_at (p := isB m o) b0 h
  unfold findB at h ⊢
  exact ⟨by omega, h2⟩
theorem findB_ge (bs : List Bt) (m o : Int) : -1 ≤ findB bs m o ∧ findB bs m o < bs.length := idxE_ge (isB m o) bs

/-! ### Ways -/
/-- The number of the belt on which a material leaves a machine. -/
def outB (p : Pl) (mt : Int) (at0 : Nat) : Nat := (findB p.bs at0 (mainN (p.ms.getD at0 []) mt)).toNat
def nx (p : Pl) (mt : Int) (at0 : Nat) : Nat := (p.bs.getD (outB p mt at0) b0).to.toNat
def lx (p : Pl) (mt : Int) (at0 : Nat) : Int := (p.bs.getD (outB p mt at0) b0).ln
def binN (p : Pl) (at0 : Nat) : Prop := outsN (p.ms.getD at0 []) = 0
instance (p : Pl) : DecidablePred (binN p) := fun i => by unfold binN; infer_instance
def wayR (p : Pl) (mt : Int) : Nat → Nat → Int → Int × Bool
  | 0, at0, n => if binN p at0 then (n, true) else (0, false)
  | f + 1, at0, n => if binN p at0 then (n, true) else wayR p mt f (nx p mt at0) (n + lx p mt at0)
/-- Where a material is after k machines, and how far that is. -/
def posR (p : Pl) (mt : Int) (m : Nat) : Nat → Nat
  | 0 => m
  | k + 1 => nx p mt (posR p mt m k)
def farR (p : Pl) (mt : Int) (m : Nat) : Nat → Int
  | 0 => 0
  | k + 1 => farR p mt m k + lx p mt (posR p mt m k)

theorem out_ok {p : Pl} (h : POk p) {mt : Int} (h0 : 0 ≤ mt) (h1 : mt < p.mat) {i : Nat} (hi : i < p.ms.length) (hb : ¬ binN p i) :
    0 ≤ findB p.bs i (mainN (p.ms.getD i []) mt) ∧ outB p mt i < p.bs.length ∧ (p.bs.getD (outB p mt i) b0).fr = i ∧ nx p mt i < p.ms.length ∧ (p.bs.getD (outB p mt i) b0).to = nx p mt i ∧ 1 ≤ lx p mt i ∧ lx p mt i ≤ 16 := by
  have hm := h.mc _ (mem_get [] hi)
  obtain ⟨g1, g2, g3⟩ := mainN_ok hm hb h0 h1
  have h2 : 0 ≤ findB p.bs i (mainN (p.ms.getD i []) mt) := by
    have := h.op i hi (mainN (p.ms.getD i []) mt).toNat (by omega)
    rw [Int.toNat_of_nonneg g1] at this; exact this
  obtain ⟨h3, h4, h5⟩ := findB_ok h2
  have h6 := h.bt _ (mem_get b0 h3)
  have h7 : (p.bs.getD (outB p mt i) b0).to = nx p mt i := by unfold nx outB; omega
  refine ⟨h2, h3, h4, ?_, h7, h6.2.2.2.2.2.2.1, h6.2.2.2.2.2.2.2⟩
  unfold outB at h7; omega
theorem posR_lt {p : Pl} (h : POk p) {mt : Int} (h0 : 0 ≤ mt) (h1 : mt < p.mat) {m : Nat} (hm : m < p.ms.length) : ∀ (k : Nat), (∀ i, i < k → ¬ binN p (posR p mt m i)) → posR p mt m k < p.ms.length
  | 0, _ => hm
  | k + 1, hb => (out_ok h h0 h1 (posR_lt h h0 h1 hm k fun i hi => hb i (by omega)) (hb k (by omega))).2.2.2.1
theorem farR_bd {p : Pl} (h : POk p) {mt : Int} (h0 : 0 ≤ mt) (h1 : mt < p.mat) {m : Nat} (hm : m < p.ms.length) : ∀ (k : Nat), (∀ i, i < k → ¬ binN p (posR p mt m i)) → 0 ≤ farR p mt m k ∧ farR p mt m k ≤ 16 * k
  | 0, _ => by simp [farR]
  | k + 1, hb => by
    have h2 := farR_bd h h0 h1 hm k fun i hi => hb i (by omega)
    have h3 := out_ok h h0 h1 (posR_lt h h0 h1 hm k fun i hi => hb i (by omega)) (hb k (by omega))
    simp only [farR]; omega
theorem wayR_skip {p : Pl} {mt : Int} {m : Nat} : ∀ (k f : Nat), (∀ i, i < k → ¬ binN p (posR p mt m i)) → wayR p mt (k + f) m 0 = wayR p mt f (posR p mt m k) (farR p mt m k)
  | 0, f, _ => by simp [posR, farR]
  | k + 1, f, hb => by
    rw [show k + 1 + f = k + (f + 1) by omega, wayR_skip k (f + 1) fun i hi => hb i (by omega)]
    simp only [wayR, posR, farR]
    rw [if_neg (hb k (by omega))]
theorem wayR_bin {p : Pl} {mt : Int} {f at0 : Nat} {n : Int} (h : binN p at0) : wayR p mt f at0 n = (n, true) := by
  cases f <;> simp [wayR, h]
theorem wayR_none {p : Pl} {mt : Int} {m : Nat} (h : ∀ i, ¬ binN p (posR p mt m i)) (f : Nat) : wayR p mt f m 0 = (0, false) := by
  have := wayR_skip (p := p) (mt := mt) (m := m) f 0 fun i _ => h i
  rw [Nat.add_zero] at this
  rw [this]; simp [wayR, h f]
/-- A machine that is come to again is come to for ever. -/
theorem again {p : Pl} {mt : Int} {m i j : Nat} (hij : i < j) (he : posR p mt m i = posR p mt m j) : ∀ k, ∃ l, l < j ∧ posR p mt m k = posR p mt m l := by
  intro k
  induction k with
  | zero => exact ⟨0, by omega, rfl⟩
  | succ k ih =>
    obtain ⟨l, h1, h2⟩ := ih
    by_cases hl : l + 1 < j
    · exact ⟨l + 1, hl, by simp only [posR, h2]⟩
    · have : l + 1 = j := by omega
      exact ⟨i, hij, by rw [he, ← this]; simp only [posR, h2]⟩
theorem again_none {p : Pl} {mt : Int} {m i j : Nat} (hij : i < j) (he : posR p mt m i = posR p mt m j) (hb : ∀ l, l < j → ¬ binN p (posR p mt m l)) : ∀ k, ¬ binN p (posR p mt m k) := fun k => by
  obtain ⟨l, h1, h2⟩ := again hij he k
  rw [h2]; exact hb l h1
/-- More numbers below n than n: two are equal. -/
theorem pigeon : ∀ (n : Nat) (f : Nat → Nat), (∀ i, i ≤ n → f i < n) → ∃ i j, i < j ∧ j ≤ n ∧ f i = f j
  | 0, f, h => by have := h 0 (by omega); omega
  | n + 1, f, h => by
    by_cases hx : ∃ i, i ≤ n ∧ f i = f (n + 1)
    · obtain ⟨i, h1, h2⟩ := hx; exact ⟨i, n + 1, by omega, by omega, h2⟩
    · have hne : ∀ i, i ≤ n → f i ≠ f (n + 1) := fun i hi hc => hx ⟨i, hi, hc⟩
      obtain ⟨i, j, h1, h2, h3⟩ := pigeon n (fun i => if f i = n then f (n + 1) else f i) fun i hi => by
        have a1 := h i (by omega)
        have a2 := h (n + 1) (by omega)
        have a3 := hne i hi
        split <;> omega
      have a1 := hne i (by omega)
      have a2 := hne j h2
      refine ⟨i, j, h1, by omega, ?_⟩
      split at h3 <;> split at h3 <;> omega
/-- Where no bin is come to over all machines, none is. -/
theorem far_none {p : Pl} (h : POk p) {mt : Int} (h0 : 0 ≤ mt) (h1 : mt < p.mat) {m : Nat} (hm : m < p.ms.length) (hb : ∀ i, i < p.ms.length → ¬ binN p (posR p mt m i)) : ∀ k, ¬ binN p (posR p mt m k) := by
  obtain ⟨i, j, h2, h3, h4⟩ := pigeon p.ms.length (posR p mt m) fun i hi => posR_lt h h0 h1 hm i fun l hl => hb l (by omega)
  exact again_none h2 h4 fun l hl => hb l (by omega)
/-- The way, told by where it ends. -/
theorem wayR_of {p : Pl} {mt : Int} {m k f : Nat} (hk : k ≤ f) (hb : ∀ i, i < k → ¬ binN p (posR p mt m i)) (he : binN p (posR p mt m k)) : wayR p mt f m 0 = (farR p mt m k, true) := by
  rw [show f = k + (f - k) by omega, wayR_skip k _ hb, wayR_bin he]
theorem least {Q : Nat → Prop} (h : ∃ k, Q k) : ∃ k, Q k ∧ ∀ i, i < k → ¬ Q i := by
  obtain ⟨k, hk⟩ := h
  induction k using Nat.strongRecOn with
  | ind k ih =>
    by_cases hx : ∃ i, i < k ∧ Q i
    · obtain ⟨i, h1, h2⟩ := hx; exact ih i h1 h2
    · exact ⟨k, hk, fun i hi hq => hx ⟨i, hi, hq⟩⟩
theorem wayR_cases {p : Pl} (h : POk p) {mt : Int} (h0 : 0 ≤ mt) (h1 : mt < p.mat) {m : Nat} (hm : m < p.ms.length) :
    (∃ k, k < p.ms.length ∧ (∀ i, i < k → ¬ binN p (posR p mt m i)) ∧ binN p (posR p mt m k) ∧ wayR p mt p.ms.length m 0 = (farR p mt m k, true)) ∨
    ((∀ i, ¬ binN p (posR p mt m i)) ∧ wayR p mt p.ms.length m 0 = (0, false)) := by
  by_cases hx : ∃ k, k < p.ms.length ∧ binN p (posR p mt m k)
  · obtain ⟨k0, g1, g2⟩ := hx
    obtain ⟨k, k1, k2⟩ := least (Q := fun k => binN p (posR p mt m k)) ⟨k0, g2⟩
    have hle : k ≤ k0 := Nat.le_of_not_lt fun hc => k2 k0 hc g2
    exact .inl ⟨k, by omega, k2, k1, wayR_of (by omega) k2 k1⟩
  · have hn : ∀ i, i < p.ms.length → ¬ binN p (posR p mt m i) := fun i hi hc => hx ⟨i, hi, hc⟩
    have := far_none h h0 h1 hm hn
    exact .inr ⟨this, wayR_none this _⟩
theorem t1 : pcheck ⟨1, [[[900, 100]], [[]]], [⟨0, 0, 1, 2⟩, ⟨0, 1, 0, 3⟩], 0⟩ = 0 := by decide +kernel
end Go.Proofs.Ytjhdedifmhkhbaa
