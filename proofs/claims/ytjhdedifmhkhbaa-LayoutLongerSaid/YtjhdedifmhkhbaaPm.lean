/- Plants with a longer belt. Plain definitions and lemmas; no statement is claimed here. -/
import Derived.Test.YtjhdedifmhkhbaaPl
namespace Go.Proofs.Ytjhdedifmhkhbaa
open Go Go.Lft
set_option linter.unusedSimpArgs false
set_option linter.unusedVariables false

def setLn (bs : List Bt) (k : Nat) (n : Int) : List Bt := bs.set k { bs.getD k b0 with ln := n }
def setP (p : Pl) (k : Nat) (n : Int) : Pl := { p with bs := setLn p.bs k n }
theorem setLn_len (bs : List Bt) (k : Nat) (n : Int) : (setLn bs k n).length = bs.length := by simp [setLn]
theorem setLn_get (bs : List Bt) (k : Nat) (n : Int) (i : Nat) (hk : k < bs.length) : (setLn bs k n).getD i b0 = if i = k then { bs.getD k b0 with ln := n } else bs.getD i b0 := by
  unfold setLn
  simp only [List.getD_eq_getElem?_getD, List.getElem?_set]
  by_cases h : i = k
  · subst h; simp [hk]
  · rw [if_neg (fun hc => h hc.symm), if_neg h]
theorem setLn_same (bs : List Bt) (k : Nat) (n : Int) (i : Nat) (hk : k < bs.length) : ((setLn bs k n).getD i b0).fr = (bs.getD i b0).fr ∧ ((setLn bs k n).getD i b0).ot = (bs.getD i b0).ot ∧ ((setLn bs k n).getD i b0).to = (bs.getD i b0).to := by
  rw [setLn_get _ _ _ _ hk]
  split
  · rename_i h; subst h; exact ⟨rfl, rfl, rfl⟩
  · exact ⟨rfl, rfl, rfl⟩
theorem setLn_ln (bs : List Bt) (k : Nat) (n : Int) (i : Nat) (hk : k < bs.length) : ((setLn bs k n).getD i b0).ln = if i = k then n else (bs.getD i b0).ln := by
  rw [setLn_get _ _ _ _ hk]
  split <;> rfl
theorem idxE_congr {α : Type} {p : α → Prop} [DecidablePred p] (d : α) : ∀ {a b : List α}, a.length = b.length → (∀ i, i < a.length → (p (a.getD i d) ↔ p (b.getD i d))) → idxE p a = idxE p b
  | [], [], _, _ => rfl
  | [], _ :: _, h, _ => by simp at h
  | _ :: _, [], h, _ => by simp at h
  | x :: a, y :: b, h, hp => by
    have h0 := hp 0 (by simp)
    simp only [List.getD_cons_zero] at h0
    have ih := idxE_congr (p := p) d (a := a) (b := b) (by simpa using h) fun i hi => by
      have := hp (i + 1) (by simpa using hi)
      simpa using this
    simp only [idxE, ih, h0]
theorem findB_set (bs : List Bt) (k : Nat) (n : Int) (hk : k < bs.length) (m o : Int) : findB (setLn bs k n) m o = findB bs m o := by
  unfold findB
  refine idxE_congr b0 (setLn_len _ _ _) fun i _ => ?_
  have := setLn_same bs k n i hk
  unfold isB
  rw [this.1, this.2.1]
theorem pcheck_set {p : Pl} (h : pcheck p = 0) {k : Nat} (hk : k < p.bs.length) {n : Int} (hn : 1 ≤ n ∧ n ≤ 16) : pcheck (setP p k n) = 0 := by
  have ok := pcheck_ok h
  have h1 : firstE (beltE p.ms) (setLn p.bs k n) = 0 := by
    refine firstE_none b0 fun i hi => ?_
    rw [setLn_len] at hi
    have hb := ok.bt _ (mem_get b0 hi)
    have hs := setLn_same p.bs k n i hk
    have hl := setLn_ln p.bs k n i hk
    unfold beltE
    rw [hs.1, hs.2.1, hs.2.2, if_neg (by omega), hl]
    split
    · rw [if_neg (by omega)]
    · rw [if_neg (by omega)]
  have h2 : ¬ twice (setLn p.bs k n) := by
    rintro ⟨i, hi, hx⟩
    rw [setLn_len] at hi
    have hs := setLn_same p.bs k n i hk
    rw [findB_set _ _ _ hk, hs.1, hs.2.1] at hx
    exact hx (ok.un i hi)
  have h3 : ¬ openO p.ms (setLn p.bs k n) := by
    rintro ⟨i, hi, o, ho, hx⟩
    rw [findB_set _ _ _ hk] at hx
    have := ok.op i hi o ho
    omega
  have h4 : beltsE p.ms (setLn p.bs k n) = 0 := by
    unfold beltsE; rw [if_neg (fun hc => hc h1), if_neg h2]
  have h5 := ok.m1
  have h6 := ok.m2
  have h7 := ok.n1
  have h8 := ok.n2
  have h9 := ok.b2
  have h10 := ok.fd
  have h11 : firstE (fun m => mcheck m p.mat) p.ms = 0 := by
    unfold pcheck at h
    split at h
    · cases h
    split at h
    · cases h
    split at h
    · cases h
    split at h
    · contradiction
    rename_i hx; exact Classical.not_not.1 hx
  unfold pcheck setP
  simp only [setLn_len]
  rw [if_neg (by omega), if_neg (by omega), if_neg (by omega), if_neg (fun hc => hc h11), if_neg (fun hc => hc h4), if_neg h3, if_neg (by omega), if_neg ok.fo]
theorem outB_set (p : Pl) (k : Nat) (n : Int) (hk : k < p.bs.length) (mt : Int) (i : Nat) : outB (setP p k n) mt i = outB p mt i := by
  unfold outB setP; rw [findB_set _ _ _ hk]
theorem nx_set (p : Pl) (k : Nat) (n : Int) (hk : k < p.bs.length) (mt : Int) (i : Nat) : nx (setP p k n) mt i = nx p mt i := by
  unfold nx; rw [outB_set _ _ _ hk]; unfold setP; rw [(setLn_same p.bs k n _ hk).2.2]
theorem lx_set (p : Pl) (k : Nat) (n : Int) (hk : k < p.bs.length) (mt : Int) (i : Nat) : lx (setP p k n) mt i = if outB p mt i = k then n else lx p mt i := by
  unfold lx; rw [outB_set _ _ _ hk]; unfold setP; rw [setLn_ln _ _ _ _ hk]
theorem posR_set (p : Pl) (k : Nat) (n : Int) (hk : k < p.bs.length) (mt : Int) (m : Nat) : ∀ j, posR (setP p k n) mt m j = posR p mt m j
  | 0 => rfl
  | j + 1 => by simp only [posR]; rw [posR_set p k n hk mt m j, nx_set _ _ _ hk]
theorem binN_set (p : Pl) (k : Nat) (n : Int) (i : Nat) : binN (setP p k n) i ↔ binN p i := Iff.rfl
/-- The longer belt is passed at most once on the way to a bin. -/
theorem farR_set {p : Pl} (h : POk p) {k : Nat} (hk : k < p.bs.length) {n : Int} {mt : Int} (h0 : 0 ≤ mt) (h1 : mt < p.mat) {m : Nat} (hm : m < p.ms.length) : ∀ j, (∀ i, i < j → ¬ binN p (posR p mt m i)) → (∀ a b, a < b → b < j → posR p mt m a ≠ posR p mt m b) →
    ((∀ i, i < j → outB p mt (posR p mt m i) ≠ k) ∧ farR (setP p k n) mt m j = farR p mt m j) ∨ ((∃ i, i < j ∧ outB p mt (posR p mt m i) = k) ∧ farR (setP p k n) mt m j = farR p mt m j + (n - (p.bs.getD k b0).ln))
  | 0, _, _ => .inl ⟨fun i hi => by omega, rfl⟩
  | j + 1, hb, hd => by
    have ih := farR_set h hk (n := n) h0 h1 hm j (fun i hi => hb i (by omega)) fun a b h2 h3 => hd a b h2 (by omega)
    have e : farR (setP p k n) mt m (j + 1) = farR (setP p k n) mt m j + if outB p mt (posR p mt m j) = k then n else lx p mt (posR p mt m j) := by
      simp only [farR]; rw [posR_set _ _ _ hk, lx_set _ _ _ hk]
    have e2 : farR p mt m (j + 1) = farR p mt m j + lx p mt (posR p mt m j) := rfl
    rw [e, e2]
    by_cases ho : outB p mt (posR p mt m j) = k
    · rw [if_pos ho]
      have hlx : lx p mt (posR p mt m j) = (p.bs.getD k b0).ln := by unfold lx; rw [ho]
      rcases ih with ⟨i1, i2⟩ | ⟨⟨i, i1, i2⟩, i3⟩
      · exact .inr ⟨⟨j, by omega, ho⟩, by rw [i2, hlx]; omega⟩
      · exfalso
        have p1 := posR_lt h h0 h1 hm i fun l hl => hb l (by omega)
        have p2 := posR_lt h h0 h1 hm j fun l hl => hb l (by omega)
        have f1 := (out_ok h h0 h1 p1 (hb i (by omega))).2.2.1
        have f2 := (out_ok h h0 h1 p2 (hb j (by omega))).2.2.1
        rw [i2] at f1; rw [ho] at f2
        exact hd i j i1 (by omega) (by omega)
    · rw [if_neg ho]
      rcases ih with ⟨i1, i2⟩ | ⟨⟨i, i1, i2⟩, i3⟩
      · refine .inl ⟨fun i hi => ?_, by rw [i2]⟩
        by_cases hij : i = j
        · subst hij; exact ho
        · exact i1 i (by omega)
      · exact .inr ⟨⟨i, by omega, i2⟩, by rw [i3]; omega⟩
theorem way_set {p : Pl} (h : POk p) {k : Nat} (hk : k < p.bs.length) {n : Int} (hn : (p.bs.getD k b0).ln ≤ n) {mt : Int} (h0 : 0 ≤ mt) (h1 : mt < p.mat) {m : Nat} (hm : m < p.ms.length) :
    (wayV (setP p k n) mt m).2 = (wayV p mt m).2 ∧ (wayV p mt m).1 ≤ (wayV (setP p k n) mt m).1 ∧ (wayV (setP p k n) mt m).1 - (wayV p mt m).1 ≤ n - (p.bs.getD k b0).ln ∧ 0 ≤ (wayV p mt m).1 ∧ (wayV p mt m).1 ≤ 1000 := by
  have hn2 := h.n2
  rcases wayR_cases h h0 h1 hm with ⟨j, j1, j2, j3, j4⟩ | ⟨j1, j2⟩
  · have hd : ∀ a b, a < b → b < j → posR p mt m a ≠ posR p mt m b := fun a b h2 h3 he => again_none h2 he (fun l hl => j2 l (by omega)) j j3
    have e := wayR_of (p := setP p k n) (mt := mt) (m := m) (k := j) (f := p.ms.length) (by omega) (fun i hi => by rw [posR_set _ _ _ hk]; exact j2 i hi) (by rw [posR_set _ _ _ hk]; exact j3)
    have hbd := farR_bd h h0 h1 hm j j2
    have e2 : wayV (setP p k n) mt m = (farR (setP p k n) mt m j, true) := e
    have e3 : wayV p mt m = (farR p mt m j, true) := j4
    rw [e2, e3]
    rcases farR_set h hk (n := n) h0 h1 hm j j2 hd with ⟨_, f⟩ | ⟨_, f⟩
    · rw [f]; exact ⟨rfl, by simp only; omega, by simp only; omega, hbd.1, by simp only; omega⟩
    · rw [f]; exact ⟨rfl, by simp only; omega, by simp only; omega, hbd.1, by simp only; omega⟩
  · have e : wayV (setP p k n) mt m = (0, false) := wayR_none (p := setP p k n) (fun i => by rw [posR_set _ _ _ hk]; exact j1 i) _
    have e3 : wayV p mt m = (0, false) := j2
    rw [e, e3]; exact ⟨rfl, by simp only; omega, by simp only; omega, by simp only; omega, by simp only; omega⟩

/-! ### Belts in memory -/
def btcells (l : List Bt) : List A := l.flatMap btC
theorem btc_len (l : List Bt) : (btcells l).length = l.length * 4 := by
  induction l with
  | nil => rfl
  | cons a r ih => unfold btcells at ih ⊢; rw [List.flatMap_cons, List.length_append, ih]; simp [btC]; omega
theorem btc_one (l : List Bt) : (btcells l).all A.one = true := by
  unfold btcells
  induction l with
  | nil => rfl
  | cons a r ih => rw [List.flatMap_cons, List.all_append, ih]; rfl
theorem btc_bd (n : Nat) (l : List Bt) : A.bdL n (btcells l) = true := by
  unfold btcells
  induction l with
  | nil => rfl
  | cons a r ih =>
    rw [List.flatMap_cons]
    simp only [btC, List.cons_append, List.nil_append, A.bdL, A.bd, Bool.true_and]; exact ih
theorem bts_flat (l : List Bt) : flatA 4 (bts l) = some (btcells l) := map_flat 4 _ (fun _ => rfl) (fun _ => rfl) l
theorem bts_len (l : List Bt) : (bts l).length = l.length := by simp [bts]
theorem bts_new (H : List Blk) (w : Bool) (l : List Bt) : newsA H 4 (.fs w (bts l)) = some (l.length, btcells l) := by
  simp only [newsA, bts_flat, Option.bind_some, btc_one, if_true, bts_len]
theorem btc_set (n : Int) : ∀ (l : List Bt) (k : Nat), k < l.length → splA (btcells l) (k * 4 + 3) [.v (.int .i64 n)] = btcells (setLn l k n)
  | [], k, h => by simp at h
  | a :: l, 0, _ => rfl
  | a :: l, k + 1, h => by
    have ih := btc_set n l k (by simpa using h)
    have e : setLn (a :: l) (k + 1) n = a :: setLn l k n := rfl
    rw [e, show (k + 1) * 4 + 3 = (k * 4 + 3) + 1 + 1 + 1 + 1 by omega]
    show splA (.v (.int .i64 a.fr) :: .v (.int .i64 a.ot) :: .v (.int .i64 a.to) :: .v (.int .i64 a.ln) :: btcells l) _ _ = .v (.int .i64 a.fr) :: .v (.int .i64 a.ot) :: .v (.int .i64 a.to) :: .v (.int .i64 a.ln) :: btcells (setLn l k n)
    rw [spl_succ, spl_succ, spl_succ, spl_succ, ih]
theorem ld_bts (H : List Blk) (i ver : Nat) (n : Nat) (l : List Bt) (hn : n = l.length) (hb : blkAt H i ver = some (btcells l)) : Ld H (.sl i ver 4 0 n) (.fs false (bts l)) := by
  subst hn
  exact Ld.sl hb (LdL.refl (btc_bd 0 l)) (by simp only [List.drop_zero]; rw [← btc_len, List.take_length]; exact bts_flat l) (bts_len l) (by simp [btc_len])
end Go.Proofs.Ytjhdedifmhkhbaa
