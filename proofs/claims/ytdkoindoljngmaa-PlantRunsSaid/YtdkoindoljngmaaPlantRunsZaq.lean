/- Lemmas and walks that the proof of PlantRuns uses. No statement is claimed here. -/
import Derived.Test.YtdkoindoljngmaaPlantRunsZap
namespace Go.Proofs.Ytdkoindoljngmaa
open Go Go.Lft
set_option linter.unusedSimpArgs false
set_option linter.unusedVariables false

/-- Slot k of a belt, the first one 0. -/
def slt (p : Pl) (s : Sy) (i : Nat) : Nat → List Int
  | 0 => s.fst i
  | k + 1 => s.rng i ((s.pos i + k) % p.rl i)
theorem out_slt (p : Pl) (s : Sy) (i : Nat) : outM p s i = slt p s i (p.rl i) := by
  unfold outM Pl.nxt
  cases h : p.rl i with
  | zero => rfl
  | succ r => rw [if_pos (by omega)]; simp only [slt, h]; rfl

/-! ### A belt moves -/
theorem mod_shift {a r k : Nat} (h1 : 0 < k) (h2 : k < r) : ((a + r - 1) % r + k) % r = (a + (k - 1)) % r := by
  rw [Nat.mod_add_mod, show a + r - 1 + k = a + (k - 1) + r by omega, Nat.add_mod_right]
theorem mod_off {a r k : Nat} (h1 : 0 < k) (h2 : k < r) : ((a + r - 1) % r + k) % r ≠ (a + r - 1) % r := by
  have h3 : (a + r - 1) % r < r := Nat.mod_lt _ (by omega)
  generalize (a + r - 1) % r = b at *
  intro hc
  by_cases h : b + k < r
  · rw [Nat.mod_eq_of_lt h] at hc; omega
  · rw [Nat.mod_eq_sub_mod (by omega), Nat.mod_eq_of_lt (by omega)] at hc; omega
theorem mvA_slt (p : Pl) (s : Sy) (i j k : Nat) (hk : k ≤ p.rl j) : slt p (mvA p s i) j k = if j = i then (if k = 0 then zeros p.mt else slt p s i (k - 1)) else slt p s j k := by
  by_cases e : j = i
  · subst e
    rw [if_pos rfl]
    cases k with
    | zero => simp [slt, mvA, mov_fst, updF_same]
    | succ k =>
      rw [if_neg (by omega)]
      have hr : 0 < p.rl j := by omega
      have e1 : (mvA p s j).pos j = p.nxt s j := by simp only [mvA, movS]; rw [if_pos hr]; simp only [rolS, updF_same]; rfl
      have e2 : (mvA p s j).rng j = updF (s.rng j) (p.nxt s j) (s.fst j) := by simp only [mvA, movS]; rw [if_pos hr]; simp only [rolS, updF_same]; rfl
      simp only [slt, e1, e2]
      have hn : p.nxt s j < p.rl j := Nat.mod_lt _ hr
      cases k with
      | zero => simp only [Nat.add_zero, Nat.mod_eq_of_lt hn, updF_same]; rfl
      | succ k =>
        unfold Pl.nxt
        rw [updF_ne _ _ (mod_off (by omega) (by omega)), mod_shift (by omega) (by omega)]
        rfl
  · rw [if_neg e]
    have e0 : (mvA p s i).fst j = s.fst j := by simp only [mvA, mov_fst]; rw [updF_ne _ _ e]
    have e1 : (mvA p s i).pos j = s.pos j := by
      simp only [mvA, movS]; split
      · simp only [rolS, empS]; rw [updF_ne _ _ e]
      · rfl
    have e2 : (mvA p s i).rng j = s.rng j := by
      simp only [mvA, movS]; split
      · simp only [rolS, empS]; rw [updF_ne _ _ e]
      · rfl
    cases k with
    | zero => exact e0
    | succ k => simp only [slt, e1, e2]
theorem mvK_slt (p : Pl) (s : Sy) (i k : Nat) (hk : k ≤ p.rl i) : ∀ j, slt p (mvK p s j) i k = if i < j then (if k = 0 then zeros p.mt else slt p s i (k - 1)) else slt p s i k
  | 0 => by simp [mvK]
  | j + 1 => by
    simp only [mvK]
    rw [mvA_slt _ _ _ _ _ hk]
    by_cases e : i = j
    · subst e
      rw [if_pos rfl]
      by_cases h0 : k = 0
      · simp [h0]
      · have := mvK_slt p s i (k - 1) (by omega) i
        simp only [h0, if_false, this]; simp
    · rw [if_neg e, mvK_slt p s i k hk j]
      by_cases h : i < j
      · simp [h, show i < j + 1 by omega]
      · simp [h, show ¬ i < j + 1 by omega]
theorem mvK_out (p : Pl) (s : Sy) (j : Nat) : outM p (mvK p s j) j = outM p s j := by
  rw [out_slt, out_slt, mvK_slt _ _ _ _ (Nat.le_refl _), if_neg (by omega)]
/-- What comes to a machine from the first belts. -/
def arrK (p : Pl) (s : Sy) (m k : Nat) : List Int := tb p.mt fun x => (s.bef m).getD x 0 + sm k fun i => if tpS p i = m then (outM p s i).getD x 0 else 0
def arrL (p : Pl) (s : Sy) (m : Nat) : List Int := arrK p s m p.bs.length
theorem mvK_bef {p : Pl} (ok : POk p) {s : Sy} (h : Gd p s) {m : Nat} (hm : m < p.ms.length) : ∀ k, k ≤ p.bs.length → (mvK p s k).bef m = arrK p s m k
  | 0, _ => by
    have hl := (h.bl m hm).1
    unfold arrK
    simp only [mvK, sm]
    refine eq_of_getB 0 (by rw [tb_len, hl]) fun x hx => ?_
    rw [tb_get _ _ _ (by omega)]; omega
  | k + 1, hk => by
    have ih := mvK_bef ok h hm k (by omega)
    have ho := ((h.ok).out (i := k) (by omega)).1
    simp only [mvK, mvA]
    rw [mvK_out]
    by_cases e : m = tpS p k
    · rw [← e, updF_same, ih]
      unfold arrK
      rw [tb_plus]
      refine tb_ext fun x hx => ?_
      simp only [sm]; rw [if_pos e.symm]; omega
    · rw [updF_ne _ _ e, ih]
      unfold arrK
      refine tb_ext fun x hx => ?_
      simp only [sm]; rw [if_neg (fun hc => e hc.symm)]; omega

/-! ### The machines distribute -/
def runs (p : Pl) (s : Sy) (m : Nat) : Prop := ¬ (outsN (p.ms.getD m []) = 0 ∨ s.hal.getD m false = true)
instance (p : Pl) (s : Sy) (m : Nat) : Decidable (runs p s m) := inferInstanceAs (Decidable (¬ _))
theorem dsK_bef (p : Pl) (s : Sy) (m : Nat) : ∀ k, (dsK p s k).bef m = if m < k ∧ runs p s m then zeros p.mt else s.bef m
  | 0 => by rw [if_neg (by omega)]; rfl
  | k + 1 => by
    have ih := dsK_bef p s m k
    have hh := (dsK_hal (p := p) s k).1
    simp only [dsK, disA]
    rw [hh]
    split
    · rename_i hc
      rw [ih]
      by_cases e : m = k
      · subst e; rw [if_neg (by omega), if_neg (fun h => h.2 hc)]
      · by_cases h : m < k ∧ runs p s m
        · rw [if_pos h, if_pos ⟨by omega, h.2⟩]
        · rw [if_neg h, if_neg (fun h2 => h ⟨by omega, h2.2⟩)]
    · rename_i hc
      simp only [disS]
      by_cases e : m = k
      · subst e; rw [updF_same, if_pos ⟨by omega, hc⟩]
      · rw [updF_ne _ _ e]
        show (dsK p s k).bef m = _
        rw [ih]
        by_cases h : m < k ∧ runs p s m
        · rw [if_pos h, if_pos ⟨by omega, h.2⟩]
        · rw [if_neg h, if_neg (fun h2 => h ⟨by omega, h2.2⟩)]
/-- What a machine sends to an output, out of what is before it. -/
def prtL (p : Pl) (m : Nat) (l : List Int) (o : Nat) : List Int := (msM (p.ms.getD m []) l).getD o []
def frS (p : Pl) (i : Nat) : Nat := (p.bs.getD i b0).fr.toNat
def otS (p : Pl) (i : Nat) : Nat := (p.bs.getD i b0).ot.toNat
theorem dsK_fsts {p : Pl} (ok : POk p) (s : Sy) {i : Nat} (hi : i < p.bs.length) : ∀ k, (dsK p s k).fst i = if frS p i < k ∧ runs p s (frS p i) then prtL p (frS p i) (s.bef (frS p i)) (otS p i) else s.fst i
  | 0 => by rw [if_neg (by omega)]; rfl
  | k + 1 => by
    have ih := dsK_fsts ok s hi k
    have hh := (dsK_hal (p := p) s k).1
    have hb := ok.bt _ (mem_get b0 hi)
    have hf : (p.bs.getD i b0).fr = (frS p i : Int) := by unfold frS; omega
    simp only [dsK, disA]
    rw [hh]
    split
    · rename_i hc
      rw [ih]
      by_cases e : frS p i = k
      · rw [if_neg (by omega), if_neg (fun h => h.2 (by rw [e]; exact hc))]
      · by_cases h : frS p i < k ∧ runs p s (frS p i)
        · rw [if_pos h, if_pos ⟨by omega, h.2⟩]
        · rw [if_neg h, if_neg (fun h2 => h ⟨by omega, h2.2⟩)]
    · rename_i hc
      simp only [disS, disK]
      by_cases e : frS p i = k
      · rw [if_pos ⟨by omega, by rw [← e]; exact hb.2.2.2.1⟩, if_pos ⟨by omega, by rw [e]; exact hc⟩]
        unfold prt prtL
        rw [e, dsK_bef, if_neg (by omega)]; rfl
      · rw [if_neg (fun h => e (by omega)), ih]
        by_cases h : frS p i < k ∧ runs p s (frS p i)
        · rw [if_pos h, if_pos ⟨by omega, h.2⟩]
        · rw [if_neg h, if_neg (fun h2 => h ⟨by omega, h2.2⟩)]
theorem dsK_rng (p : Pl) (s : Sy) : ∀ k, (dsK p s k).rng = s.rng ∧ (dsK p s k).pos = s.pos
  | 0 => ⟨rfl, rfl⟩
  | k + 1 => by
    have ih := dsK_rng p s k
    simp only [dsK, disA]
    split
    · exact ih
    · exact ih

/-! ### A step -/
theorem runs_mvK (p : Pl) (s : Sy) (k m : Nat) : runs p (mvK p s k) m = runs p s m := by unfold runs; rw [(mvK_hal p s k).1]
theorem stp_bef {p : Pl} (ok : POk p) {s : Sy} (h : Gd p s) {m : Nat} (hm : m < p.ms.length) : (stpS p s).bef m = if runs p s m then zeros p.mt else arrL p s m := by
  unfold stpS arrL
  rw [dsK_bef, mvK_bef ok h hm _ (Nat.le_refl _)]
  simp only [runs_mvK]
  by_cases hr : runs p s m
  · rw [if_pos ⟨hm, hr⟩, if_pos hr]
  · rw [if_neg (fun h => hr h.2), if_neg hr]
theorem fr_lt {p : Pl} (ok : POk p) {i : Nat} (hi : i < p.bs.length) : frS p i < p.ms.length := by
  have := ok.bt _ (mem_get b0 hi)
  unfold frS; omega
theorem stp_slt0 {p : Pl} (ok : POk p) {s : Sy} (h : Gd p s) {i : Nat} (hi : i < p.bs.length) : slt p (stpS p s) i 0 = if runs p s (frS p i) then prtL p (frS p i) (arrL p s (frS p i)) (otS p i) else zeros p.mt := by
  have hf := fr_lt ok hi
  show (stpS p s).fst i = _
  unfold stpS arrL
  rw [dsK_fsts ok _ hi, mvK_bef ok h hf _ (Nat.le_refl _), mvK_fst]
  simp only [runs_mvK]
  by_cases hr : runs p s (frS p i)
  · rw [if_pos ⟨hf, hr⟩, if_pos hr]
  · rw [if_neg (fun h => hr h.2), if_neg hr, if_pos hi]
theorem stp_sltS {p : Pl} {s : Sy} {i k : Nat} (hi : i < p.bs.length) (hk : k < p.rl i) : slt p (stpS p s) i (k + 1) = slt p s i k := by
  have h1 := mvK_slt p s i (k + 1) (by omega) p.bs.length
  rw [if_pos hi, if_neg (by omega), Nat.add_sub_cancel] at h1
  rw [← h1]
  obtain ⟨e1, e2⟩ := dsK_rng p (mvK p s p.bs.length) p.ms.length
  simp only [slt, stpS, e1, e2]

/-! ### Sums over slots -/
theorem sm_front (n : Nat) (f : Nat → Int) : sm (n + 1) f = f 0 + sm n fun k => f (k + 1) := by
  induction n with
  | zero => simp [sm]
  | succ n ih => rw [show sm (n + 1 + 1) f = sm (n + 1) f + f (n + 1) from rfl, ih]; simp only [sm]; omega
theorem sm_rot1 (n : Nat) (g : Nat → Int) : sm n (fun k => g ((1 + k) % n)) = sm n g := by
  cases n with
  | zero => rfl
  | succ m =>
    rw [sm_front m g]
    simp only [sm]
    rw [show (1 + m) % (m + 1) = 0 by rw [Nat.add_comm, Nat.mod_self], Int.add_comm]
    congr 1
    exact sm_congr fun k hk => by rw [Nat.mod_eq_of_lt (by omega), Nat.add_comm]
theorem sm_rot (n : Nat) (f : Nat → Int) : ∀ c, sm n (fun k => f ((c + k) % n)) = sm n f
  | 0 => sm_congr fun k hk => by rw [Nat.zero_add, Nat.mod_eq_of_lt hk]
  | c + 1 => by
    rw [← sm_rot n f c, ← sm_rot1 n fun k => f ((c + k) % n)]
    refine sm_congr fun k hk => ?_
    rw [Nat.add_mod_mod]; congr 2; omega
theorem inB_slt (p : Pl) (s : Sy) (x i : Nat) : inB p s x i = sm (p.rl i + 1) fun k => (slt p s i k).getD x 0 := by
  rw [sm_front]
  unfold inB
  congr 1
  exact (sm_rot (p.rl i) (fun q => (s.rng i q).getD x 0) (s.pos i)).symm

/-! ### States that show the same -/
structure Eqv (p : Pl) (s t : Sy) : Prop where
  bef : ∀ m, m < p.ms.length → s.bef m = t.bef m
  slt : ∀ i, i < p.bs.length → ∀ k, k ≤ p.rl i → slt p s i k = slt p t i k
  hal : s.hal = t.hal
  fed : s.fed = t.fed
theorem Eqv.refl (p : Pl) (s : Sy) : Eqv p s s := ⟨fun _ _ => rfl, fun _ _ _ _ => rfl, rfl, rfl⟩
theorem Eqv.symm {p : Pl} {s t : Sy} (h : Eqv p s t) : Eqv p t s := ⟨fun m hm => (h.bef m hm).symm, fun i hi k hk => (h.slt i hi k hk).symm, h.hal.symm, h.fed.symm⟩
theorem Eqv.trans {p : Pl} {s t u : Sy} (h : Eqv p s t) (g : Eqv p t u) : Eqv p s u := ⟨fun m hm => (h.bef m hm).trans (g.bef m hm), fun i hi k hk => (h.slt i hi k hk).trans (g.slt i hi k hk), h.hal.trans g.hal, h.fed.trans g.fed⟩
theorem Eqv.arr {p : Pl} {s t : Sy} (h : Eqv p s t) {m : Nat} (hm : m < p.ms.length) : arrL p s m = arrL p t m := by
  unfold arrL arrK
  refine tb_ext fun x _ => ?_
  rw [h.bef m hm]
  congr 1
  refine sm_congr fun i hi => ?_
  rw [out_slt, out_slt, h.slt i hi _ (Nat.le_refl _)]
theorem Eqv.runs {p : Pl} {s t : Sy} (h : Eqv p s t) (m : Nat) : runs p s m = runs p t m := by unfold Go.Proofs.Ytdkoindoljngmaa.runs; rw [h.hal]
theorem Eqv.stp {p : Pl} (hp : pcheck p = 0) {s t : Sy} (hs : Gd p s) (ht : Gd p t) (h : Eqv p s t) : Eqv p (stpS p s) (stpS p t) := by
  have ok := pcheck_ok hp
  refine ⟨fun m hm => ?_, fun i hi k hk => ?_, ?_, ?_⟩
  · rw [stp_bef ok hs hm, stp_bef ok ht hm, h.arr hm]; simp only [h.runs m]
  · cases k with
    | zero => rw [stp_slt0 ok hs hi, stp_slt0 ok ht hi, h.arr (fr_lt ok hi)]; simp only [h.runs (frS p i)]
    | succ k => rw [stp_sltS hi (by omega), stp_sltS hi (by omega)]; exact h.slt i hi k (by omega)
  · rw [(hs.stp hp).2.2.1, (ht.stp hp).2.2.1, h.hal]
  · rw [(hs.stp hp).2.2.2, (ht.stp hp).2.2.2, h.fed]
theorem Eqv.it {p : Pl} (hp : pcheck p = 0) {s t : Sy} (hs : Gd p s) (ht : Gd p t) (h : Eqv p s t) : ∀ k, Eqv p (itS p s k) (itS p t k)
  | 0 => h
  | k + 1 => Eqv.stp hp (hs.it hp k).1 (ht.it hp k).1 (Eqv.it hp hs ht h k)
theorem Eqv.ins {p : Pl} {s t : Sy} (h : Eqv p s t) (x : Nat) : insT p s x = insT p t x := by
  unfold insT
  congr 1
  · exact sm_congr fun m hm => by unfold inM; rw [h.bef m hm]
  · exact sm_congr fun i hi => by
      rw [inB_slt, inB_slt]
      exact sm_congr fun k hk => by rw [h.slt i hi k (by omega)]
theorem Eqv.insL {p : Pl} {s t : Sy} (h : Eqv p s t) : insL p s = insL p t := tb_ext fun x _ => h.ins x
theorem Eqv.tot {p : Pl} {s t : Sy} (h : Eqv p s t) (x : Nat) : tot p s x = tot p t x := by
  unfold Go.Proofs.Ytdkoindoljngmaa.tot
  have h1 : befT p s x = befT p t x := sm_congr fun m hm => by rw [h.bef m hm]
  have h2 : ∀ u : Sy, fstT p u x + rngT p u x = sm p.bs.length (inB p u x) := fun u => by
    unfold fstT rngT; rw [← sm_add]; exact sm_congr fun i _ => rfl
  have h3 := h2 s
  have h4 := h2 t
  have h5 : sm p.bs.length (inB p s x) = sm p.bs.length (inB p t x) := sm_congr fun i hi => by
    rw [inB_slt, inB_slt]
    exact sm_congr fun k hk => by rw [h.slt i hi k (by omega)]
  omega

/-! ### Nothing is inside -/
theorem sm_zero_all {n : Nat} {f : Nat → Int} (h : ∀ i, i < n → 0 ≤ f i) (hz : sm n f = 0) {i : Nat} (hi : i < n) : f i = 0 := by
  have := sm_le h hi
  have := h i hi
  omega
theorem nil_zero {n : Nat} {l : List Int} (hl : l.length = n) (h : ∀ x, l.getD x 0 = 0) : l = zeros n :=
  eq_of_getB 0 (by rw [hl]; simp [zeros]) fun x _ => by rw [h x, zeros_get]
theorem emp_bef {p : Pl} {s : Sy} (h : Gd p s) (hz : ∀ x, insT p s x = 0) {m : Nat} (hm : m < p.ms.length) (hb : ¬ binN p m) : s.bef m = zeros p.mt := by
  refine nil_zero (h.bl m hm).1 fun x => ?_
  have h1 := sm_nn (inM_nn h x)
  have h2 := sm_nn (inB_nn h x)
  have h3 := hz x
  unfold insT at h3
  have h4 := sm_zero_all (inM_nn h x) (by omega) hm
  unfold inM at h4
  rwa [if_neg (show ¬ outsN (p.ms.getD m []) = 0 from hb)] at h4
theorem slt_ok {p : Pl} {s : Sy} (h : Gd p s) {i k : Nat} (hi : i < p.bs.length) (hk : k ≤ p.rl i) : (slt p s i k).length = p.mt ∧ ∀ x, 0 ≤ (slt p s i k).getD x 0 := by
  cases k with
  | zero => exact h.fl i hi
  | succ k => exact h.rl i hi _ (Nat.mod_lt _ (by omega))
theorem emp_slt {p : Pl} {s : Sy} (h : Gd p s) (hz : ∀ x, insT p s x = 0) {i k : Nat} (hi : i < p.bs.length) (hk : k ≤ p.rl i) : slt p s i k = zeros p.mt := by
  refine nil_zero (slt_ok h hi hk).1 fun x => ?_
  have h1 := sm_nn (inM_nn h x)
  have h2 := sm_nn (inB_nn h x)
  have h3 := hz x
  unfold insT at h3
  have h4 := sm_zero_all (inB_nn h x) (by omega) hi
  rw [inB_slt] at h4
  exact sm_zero_all (n := p.rl i + 1) (f := fun k => (slt p s i k).getD x 0) (fun q hq => (slt_ok h hi (by omega)).2 x) h4 (by omega)
theorem emp_arr {p : Pl} {s : Sy} (h : Gd p s) (hz : ∀ x, insT p s x = 0) {m : Nat} (hm : m < p.ms.length) : arrL p s m = s.bef m := by
  refine eq_of_getB 0 (by unfold arrL arrK; rw [tb_len, (h.bl m hm).1]) fun x hx => ?_
  unfold arrL arrK at hx ⊢
  rw [tb_len] at hx
  rw [tb_get _ _ _ hx, sm_congr (g := fun _ => 0) fun i hi => by rw [out_slt, emp_slt h hz hi (Nat.le_refl _), zeros_get]; split <;> rfl, sm_zero]; omega
theorem prt_zero {p : Pl} (hp : pcheck p = 0) {m : Nat} (hm : m < p.ms.length) (hb : ¬ binN p m) {o : Nat} (ho : o < outsN (p.ms.getD m [])) : prtL p m (zeros p.mt) o = zeros p.mt := by
  have hx : MixOk p.mt ((newS p).bef m) := zeros_ok _
  have h1 := prt_ok hp hm hb hx ho
  refine nil_zero h1.1 fun x => ?_
  have h2 := prt_sum hp hm hb hx x
  have h3 : ((newS p).bef m).getD x 0 = 0 := zeros_get _ _
  rw [h3] at h2
  exact sm_zero_all (f := fun o => (prt p (newS p) m o).getD x 0) (fun o ho => ((prt_ok hp hm hb hx ho).2 x).1) h2 ho
/-- While nothing is inside, a step changes nothing that shows. -/
theorem emp_fix {p : Pl} (hp : pcheck p = 0) {s : Sy} (h : Gd p s) (hz : ∀ x, insT p s x = 0) : Eqv p (stpS p s) s := by
  have ok := pcheck_ok hp
  refine ⟨fun m hm => ?_, fun i hi k hk => ?_, (h.stp hp).2.2.1, (h.stp hp).2.2.2⟩
  · rw [stp_bef ok h hm]
    split
    · rename_i hr
      exact (emp_bef h hz hm fun hb => hr (.inl hb)).symm
    · exact emp_arr h hz hm
  · rw [emp_slt h hz hi hk]
    cases k with
    | zero =>
      rw [stp_slt0 ok h hi]
      split
      · rename_i hr
        have hb : ¬ binN p (frS p i) := fun hb => hr (.inl hb)
        have hf := fr_lt ok hi
        have hbt := ok.bt _ (mem_get b0 hi)
        rw [emp_arr h hz hf, emp_bef h hz hf hb]
        exact prt_zero hp hf hb (by unfold otS frS; omega)
      · rfl
    | succ k => rw [stp_sltS hi (by omega)]; exact emp_slt h hz hi (by omega)
theorem emp_it {p : Pl} (hp : pcheck p = 0) {s : Sy} (h : Gd p s) (hz : ∀ x, insT p s x = 0) : ∀ k, Eqv p (itS p s k) s
  | 0 => Eqv.refl p s
  | k + 1 => (Eqv.stp hp (h.it hp k).1 h (emp_it hp h hz k)).trans (emp_fix hp h hz)
theorem it_add (p : Pl) (s : Sy) (j : Nat) : ∀ k, itS p s (j + k) = itS p (itS p s j) k
  | 0 => rfl
  | k + 1 => by rw [← Nat.add_assoc]; simp only [itS]; rw [it_add p s j k]
/-- What a run leaves shows what all its steps leave. -/
theorem run_eqv {p : Pl} (hp : pcheck p = 0) {s : Sy} (h : Gd p s) {k n : Nat} (hk : k ≤ n) (hz : k = n ∨ ∀ x, insT p (itS p s k) x = 0) : Eqv p (itS p s k) (itS p s n) := by
  rcases hz with rfl | hz
  · exact Eqv.refl _ _
  · rw [show n = k + (n - k) by omega, it_add]
    exact (emp_it hp (h.it hp k).1 hz (n - k)).symm
end Go.Proofs.Ytdkoindoljngmaa
namespace Go.Proofs.Ytdkoindoljngmaa
open Go Go.Lft
set_option linter.unusedSimpArgs false
set_option linter.unusedVariables false

/-! ### What leaves -/
/-! ### On the way -/
/-! ### A period -/
/-! ### All materials -/
def sumI (p : Pl) (s : Sy) : Int := sm p.mt (insT p s)
end Go.Proofs.Ytdkoindoljngmaa
namespace Go.Proofs.Ytdkoindoljngmaa
open Go Go.Lft
set_option linter.unusedSimpArgs false
set_option linter.unusedVariables false
attribute [local congr] ob_congr bw_congr ib_congr ck_congr iwA_congr itA_congr aw_congr awp_congr sqA_congr bkA_congr vr_congr gd_congr

/-! ### Feeding, taking, halting -/
theorem fitE_ok {mt : Nat} {fed xs : List Int} (h : fitE mt fed xs = 0) : MixOk mt xs ∧ ∀ x, fed.getD x 0 + xs.getD x 0 ≤ 1073741824 ∨ mt ≤ x := by
  have h1 := (fitE_zero h).2
  have hl := (fitE_zero h).1
  refine ⟨h1, fun x => ?_⟩
  by_cases hx : x < mt
  · left
    unfold fitE at h
    split at h
    · cases h
    split at h
    · cases h
    split at h
    · cases h
    rename_i h3
    apply Classical.byContradiction
    intro hc
    exact h3 ⟨x, by omega, by omega⟩
  · right; omega
theorem feed_tot {p : Pl} (ok : POk p) {s : Sy} (h : Gd p s) {xs : List Int} (hx : xs.length = p.mt) (x : Nat) : tot p (feedS p s xs) x = tot p s x + xs.getD x 0 := by
  have hfd := ok.fd
  have ht : p.fd.toNat < p.ms.length := by omega
  have h1 : befT p (feedS p s xs) x = befT p s x + xs.getD x 0 := by
    unfold befT
    rw [sm_upd (fun m => (s.bef m).getD x 0) (fun m => ((feedS p s xs).bef m).getD x 0) ht fun j hj _ => by simp only [feedS]; rw [updF_ne _ _ hj]]
    simp only [feedS, updF_same]
    rw [plus_get (h.bl _ ht).1 hx]; omega
  have h2 : fstT p (feedS p s xs) x = fstT p s x := rfl
  have h3 : rngT p (feedS p s xs) x = rngT p s x := rfl
  unfold tot; omega
/-- Nothing is there that was not fed. -/
def Iv (p : Pl) (s : Sy) : Prop := Gd p s ∧ ∀ x, tot p s x ≤ s.fed.getD x 0
theorem Iv.new (p : Pl) : Iv p (newS p) := ⟨Gd.new p, fun x => by rw [new_tot]; show (0 : Int) ≤ (zeros p.mt).getD x 0; rw [zeros_get]; exact Int.le_refl _⟩
theorem Iv.feed {p : Pl} (ok : POk p) {s : Sy} (h : Iv p s) {xs : List Int} (he : fitE p.mt s.fed xs = 0) : Iv p (feedS p s xs) := by
  obtain ⟨g, hf⟩ := h
  obtain ⟨e1, e2⟩ := fitE_ok he
  have hfd := ok.fd
  have ht : p.fd.toNat < p.ms.length := by omega
  have hfed : ∀ x, (plusM s.fed xs).getD x 0 = s.fed.getD x 0 + xs.getD x 0 := fun x => plus_get g.fd.1 e1.1 x
  have hbd : ∀ x, s.fed.getD x 0 + xs.getD x 0 ≤ 1073741824 := fun x => by
    rcases e2 x with h1 | h1
    · exact h1
    · rw [get_out g.fd.1 h1, get_out e1.1 h1]; omega
  refine ⟨⟨fun m hm => ?_, g.fl, g.rl, g.ps, g.hl, ⟨by show (plusM s.fed xs).length = _; rw [plusM_len]; exact g.fd.1, fun x => ?_⟩, fun x => ?_⟩, fun x => ?_⟩
  · simp only [feedS]
    by_cases e : m = p.fd.toNat
    · rw [e, updF_same]
      have hb := g.bl _ ht
      refine ⟨by rw [plusM_len]; exact hb.1, fun x => ?_⟩
      rw [plus_get hb.1 e1.1]
      have := hb.2 x
      have := (e1.2 x).1
      omega
    · rw [updF_ne _ _ e]; exact g.bl m hm
  · simp only [feedS]; rw [hfed]
    have := hbd x
    have := (g.fd.2 x).1
    have := (e1.2 x).1
    omega
  · rw [feed_tot ok g e1.1]
    have := hf x
    have := hbd x
    omega
  · rw [feed_tot ok g e1.1]
    show _ ≤ (plusM s.fed xs).getD x 0
    rw [hfed]
    have := hf x
    omega
theorem take_tot {p : Pl} {s : Sy} (h : Gd p s) {m : Int} {xs : List Int} (he : takE p s m xs = 0) (x : Nat) : tot p (takS s m xs) x = tot p s x - xs.getD x 0 ∧ xs.length = p.mt ∧ 0 ≤ xs.getD x 0 ∧ xs.getD x 0 ≤ (s.bef m.toNat).getD x 0 ∧ (m.toNat < p.ms.length ∧ 0 ≤ m) ∧ (dnM (s.bef m.toNat) xs xs.length).getD x 0 = (s.bef m.toNat).getD x 0 - xs.getD x 0 := by
  unfold takE at he
  split at he
  · contradiction
  rename_i h1
  split at he
  · cases he
  rename_i h2
  split at he
  · cases he
  rename_i h3
  have hm : 0 ≤ m ∧ m.toNat < p.ms.length := by
    have h0 := Classical.not_not.1 h1
    unfold fndE at h0
    split at h0
    · cases h0
    · omega
  have hl : xs.length = p.mt := by omega
  have hb := h.bl _ hm.2
  have hd : (dnM (s.bef m.toNat) xs xs.length).getD x 0 = (s.bef m.toNat).getD x 0 - xs.getD x 0 := by
    by_cases hx : x < p.mt
    · rw [dnM_get _ _ _ _ (by omega), if_pos (by omega)]
    · rw [get_out (n := p.mt) (by rw [dnM_len]; exact hb.1) (by omega), get_out hb.1 (by omega), get_out hl (by omega)]; rfl
  have hxs : 0 ≤ xs.getD x 0 ∧ xs.getD x 0 ≤ (s.bef m.toNat).getD x 0 := by
    by_cases hx : x < xs.length
    · have : ¬ badT (s.bef m.toNat) xs x := fun hc => h3 ⟨x, hx, hc⟩
      unfold badT at this; omega
    · rw [get_out rfl (by omega)]
      have := hb.2 x
      omega
  refine ⟨?_, hl, hxs.1, hxs.2, ⟨hm.2, hm.1⟩, hd⟩
  have h1 : befT p (takS s m xs) x = befT p s x - xs.getD x 0 := by
    unfold befT
    rw [sm_upd (fun m => (s.bef m).getD x 0) (fun j => ((takS s m xs).bef j).getD x 0) hm.2 fun j hj _ => by simp only [takS]; rw [updF_ne _ _ hj]]
    simp only [takS, updF_same]
    rw [hd]; omega
  have h2 : fstT p (takS s m xs) x = fstT p s x := rfl
  have h3 : rngT p (takS s m xs) x = rngT p s x := rfl
  unfold tot; omega
theorem Iv.take {p : Pl} {s : Sy} (h : Iv p s) {m : Int} {xs : List Int} (he : takE p s m xs = 0) : Iv p (takS s m xs) := by
  obtain ⟨g, hf⟩ := h
  have ht := fun x => take_tot g he x
  refine ⟨⟨fun j hj => ?_, g.fl, g.rl, g.ps, g.hl, g.fd, fun x => ?_⟩, fun x => ?_⟩
  · simp only [takS]
    by_cases e : j = m.toNat
    · rw [e, updF_same]
      have hb := g.bl _ (ht 0).2.2.2.2.1.1
      refine ⟨by rw [dnM_len]; exact hb.1, fun x => ?_⟩
      have := ht x
      rw [this.2.2.2.2.2]; omega
    · rw [updF_ne _ _ e]; exact g.bl j hj
  · have := ht x
    have := g.tt x
    omega
  · have := ht x
    have := hf x
    show _ ≤ s.fed.getD x 0
    omega
theorem Iv.halt {p : Pl} {s : Sy} (h : Iv p s) (m : Int) (b : Bool) : Iv p (hltS s m b) := ⟨⟨h.1.bl, h.1.fl, h.1.rl, h.1.ps, by simp only [hltS, List.length_set]; exact h.1.hl, h.1.fd, h.1.tt⟩, h.2⟩
theorem Iv.it {p : Pl} (hp : pcheck p = 0) {s : Sy} (h : Iv p s) (k : Nat) : Iv p (itS p s k) := by
  obtain ⟨g1, g2, g3, g4⟩ := h.1.it hp k
  exact ⟨g1, fun x => by rw [g2, g4]; exact h.2 x⟩

/-! ### Calls, for laws -/
/-- A run, by what shows. -/
theorem run_e {H : List Blk} {p : Pl} {ad : Ad} {s : Sy} (hp : pcheck p = 0) (h : PM H p ad s) (hg : Iv p s) (n : Nat) (hn : n ≤ 100000) :
    VR P false n_plant_Plant_Run [.lp (ad .root).1 0 0, .v (.int .i64 n)] H (fun r H' => r = .v (.int .i64 0) ∧ ∃ (s' : Sy) (ad' : Ad), PM H' p ad' s' ∧ Tr p H ad H' ad' ∧ Iv p s' ∧ Eqv p s' (itS p s n)) :=
  (run_m hp h hg.1 n hn).mono fun r H' ⟨h1, k, ad', h2, h3, h4, h5⟩ => ⟨h1, itS p s k, ad', h3, h4, hg.it hp k, run_eqv hp hg.1 h2 h5⟩
def feedR (p : Pl) (s : Sy) (xs : List Int) : Sy := if fitE p.mt s.fed xs = 0 then feedS p s xs else s
theorem Iv.feedR {p : Pl} (ok : POk p) {s : Sy} (h : Iv p s) (xs : List Int) : Iv p (feedR p s xs) := by
  unfold Go.Proofs.Ytdkoindoljngmaa.feedR
  split
  · rename_i he; exact h.feed ok he
  · exact h
theorem feed_f {w : Bool} {H : List Blk} {p : Pl} {ad : Ad} {s : Sy} (hp : pcheck p = 0) (h : PM H p ad s) (hg : Iv p s) {xs : List Int} :
    VR P false n_plant_Plant_Feed [.lp (ad .root).1 0 0, .fs w (ints xs)] H (fun r H' => r = .v (.int .i64 (fitE p.mt s.fed xs)) ∧ PM H' p ad (feedR p s xs) ∧ Tr p H ad H' ad) := by
  unfold feedR
  by_cases he : fitE p.mt s.fed xs = 0
  · rw [if_pos he, he]; exact feed_fs hp h hg.1 he
  · rw [if_neg he]
    exact (feed_fs_err hp h hg.1 he).mono fun r H' ⟨h1, h2⟩ => ⟨h1, h2 ▸ h, h2 ▸ Tr.refl _ _⟩
theorem feed_s {j v : Nat} {H : List Blk} {p : Pl} {ad : Ad} {s : Sy} (hp : pcheck p = 0) (h : PM H p ad s) (hg : Iv p s) {xs : List Int} (hj : blkAt H j v = some (ints xs)) (hj2 : ¬ ftp p ad j) :
    VR P false n_plant_Plant_Feed [.lp (ad .root).1 0 0, .sl j v 1 0 xs.length] H (fun r H' => r = .v (.int .i64 (fitE p.mt s.fed xs)) ∧ PM H' p ad (feedR p s xs) ∧ Tr p H ad H' ad) := by
  unfold feedR
  by_cases he : fitE p.mt s.fed xs = 0
  · rw [if_pos he, he]; exact feed_sl hp h hg.1 hj hj2 he
  · rw [if_neg he]
    exact (feed_sl_err hp h hg.1 hj hj2 he).mono fun r H' ⟨h1, h2⟩ => ⟨h1, h2 ▸ h, h2 ▸ Tr.refl _ _⟩

/-! ### The first example -/
def loopP : Pl := ⟨1, [[[600, 400]], [[]]], [⟨0, 0, 1, 1⟩, ⟨0, 1, 0, 2⟩], 0⟩
theorem loop_vr : VR P false n_law35_loop [] [] (isR (plA true true loopP)) := by
  refine vr_law35_loop (by simp) (.inr rfl) fun _ _ => ?_
  simp (disch := ((try simp only [lZ]); omega)) only [aZ, aM, s_law35_loop, v_law35_loop, r_law35_loop]
  refine post0 (fz_all ?_) ⟨rfl, rfl⟩
  simp [zZ, blkAt, flatA, A.cells, A.one, Lft.one, retA, A.bdL, A.bd, loopP, plA, plC, mcs, mcA, mcC, bts, btA, btC, rows, ints]
theorem loop_chk : chkP loopP = 0 := by decide +kernel
theorem loop_bnd : bndR loopP 10 = (30, 0) := by decide +kernel
theorem loop_fit : fitE loopP.mt (newS loopP).fed [10] = 0 := by decide +kernel
theorem loop_bin : (itS loopP (feedS loopP (newS loopP) [10]) 3).bef 1 = [6] := by decide +kernel
theorem loop_ins : insL loopP (itS loopP (feedS loopP (newS loopP) [10]) 3) = [4] := by decide +kernel
end Go.Proofs.Ytdkoindoljngmaa
namespace Go.Proofs.Ytdkoindoljngmaa
open Go Go.Lft
set_option linter.unusedSimpArgs false
set_option linter.unusedVariables false
attribute [local congr] ob_congr bw_congr ib_congr ck_congr iwA_congr itA_congr aw_congr awp_congr sqA_congr bkA_congr vr_congr gd_congr

theorem PM.nftp {H : List Blk} {p : Pl} {ad : Ad} {s : Sy} (h : PM H p ad s) {j : Nat} (hj : H.length ≤ j) : ¬ ftp p ad j := by
  rintro ⟨c, hc, he⟩
  have := h.lt hc
  omega
theorem nftp_lo {p : Pl} {ad : Ad} {n j : Nat} (h : ∀ c, usd p c = true → n ≤ (ad c).1) (hj : j < n) : ¬ ftp p ad j := by
  rintro ⟨c, hc, he⟩
  have := h c hc
  omega
theorem example35_vr : VR P false n_law35_exampleHolds [] [] (isR (.v (.bool true))) := by
  refine vr_law35_exampleHolds (by simp) (.inr rfl) fun _ _ => ?_
  have hpc := (chkP_ok loop_chk).1
  have ok := pcheck_ok hpc
  have hnw := new_vr (H := []) (w := true) (v := true) loopP loop_chk
  have hbd := plantBound_vr (w := true) (v := true) loopP 10
  rw [loop_bnd] at hbd
  have hlp := loop_vr
  have hpb : A.bd 0 (plA true true loopP) = true := plA_bd _ _ _ _
  have hpb2 : (plA true true loopP).cl = true := by decide +kernel
  generalize hA : plA true true loopP = pa at *
  simp (disch := ((try simp only [lZ]); omega)) only [aZ, aM, s_law35_exampleHolds, v_law35_exampleHolds]
  refine hlp.same (by simp (disch := first | omega | simp (disch := omega) only [aG, aM]) only [fZ, aM]) (by rw [hpb, hpb2]; rfl) (aret_of ?_)
  simp (disch := ((try simp only [lZ]); omega)) only [aZ, aM]
  refine hnw.mono ?_
  rintro r H1 ⟨ad, rfl, P1, G1, L1⟩
  refine aret_of ?_
  simp (disch := ((try simp only [lZ]); omega)) only [aZ, aM]
  refine hlp.same (by simp (disch := first | omega | simp (disch := omega) only [aG, aM]) only [fZ, aM]) (by rw [hpb, hpb2]; rfl) (aret_of ?_)
  simp (disch := ((try simp only [lZ]); omega)) only [aZ, aM]
  refine hbd.same (by simp [A.bdL, hpb, A.bd]) rfl (aret_of ?_)
  simp (disch := ((try simp only [lZ]); omega)) only [aZ, aM]
  have I1 := Iv.new loopP
  have hf := feed_s (s := newS loopP) (j := H1.length) (v := 0) (xs := [10]) hpc (P1.grow [⟨0, ints [10]⟩]) I1 (by rw [blkAt_new0]; rfl) (P1.nftp (Nat.le_refl _))
  rw [loop_fit] at hf
  unfold feedR at hf
  rw [if_pos loop_fit] at hf
  refine hf.mono ?_
  rintro r H2 ⟨rfl, P2, T2⟩
  refine aret_of ?_
  simp (disch := ((try simp only [lZ]); omega)) only [aZ, aM]
  have I2 := I1.feed ok loop_fit
  have hr := run_e hpc P2 I2 3 (by omega)
  refine hr.mono ?_
  rintro r H3 ⟨rfl, s3, ad3, P3, T3, I3, E3⟩
  refine aret_of ?_
  have hb := bin_ok ok P3 I3.1.ok 1 (by decide +kernel)
  have hi := fun (H' : List Blk) (P : PM H' loopP ad3 s3) => inside_m hpc P I3.1
  rw [T3.2.2] at hb hi
  simp (disch := ((try simp only [lZ]); omega)) only [aZ, aM]
  refine hb.mono ?_
  rintro r H4 ⟨rfl, hH⟩
  rw [hH]
  have e1 : s3.bef (1 : Int).toNat = [6] := by rw [← loop_bin]; exact E3.bef 1 (by decide)
  have e2 : insL loopP s3 = [4] := by rw [← loop_ins]; exact E3.insL
  have e3 : loopP.mt = 1 := rfl
  rw [e1, e3]
  refine aret_of ?_
  have hi1 := hi _ (P3.grow [⟨1, ints [6]⟩])
  rw [e2, e3] at hi1
  have g6 : ([6] : List Int).getD 0 0 = 6 := rfl
  have g4 : ([4] : List Int).getD 0 0 = 4 := rfl
  simp (disch := ((try simp only [lZ]); omega)) only [aZ, aM, g6]
  refine hi1.mono ?_
  rintro r H5 ⟨rfl, G5, O5⟩
  have P5 : PM H5 loopP ad3 s3 := (P3.grow [⟨1, ints [6]⟩]).gr G5 fun _ _ h => h
  have hi2 := hi _ P5
  rw [e2, e3] at hi2
  refine aret_of ?_
  simp (disch := ((try simp only [lZ]); omega)) only [aZ, aM]
  refine hi2.mono ?_
  rintro r H6 ⟨rfl, G6, O6⟩
  refine aret_of ?_
  simp (disch := ((try simp only [lZ]); omega)) only [aZ, aM, O6, g4, r_law35_exampleHolds]
  exact post_v ⟨rfl, rfl⟩
end Go.Proofs.Ytdkoindoljngmaa
namespace Go.Proofs.Ytdkoindoljngmaa
open Go Go.Lft
set_option linter.unusedSimpArgs false
set_option linter.unusedVariables false
attribute [local congr] ob_congr bw_congr ib_congr ck_congr iwA_congr itA_congr aw_congr awp_congr sqA_congr bkA_congr vr_congr gd_congr

def litP (p : Pl) : Prop := p.ms.length ≤ 12 ∧ p.bs.length ≤ 24
instance (p : Pl) : Decidable (litP p) := inferInstanceAs (Decidable (_ ∧ _))
theorem light0_vr {w v : Bool} (p : Pl) : VR P false n_law35_light [plA w v p, .v (.slice none 0 0)] [] (isR (.v (.bool (decide (litP p))))) := by
  refine vr_law35_light (by simp) (.inr rfl) fun _ _ => ?_
  unfold plA plC litP
  simp (disch := ((try simp only [lZ]); omega)) only [aZ, aM, s_law35_light, v_law35_light, r_law35_light]
  refine post_v ⟨?_, rfl⟩
  congr 3
  simp; omega
theorem sum35_vr {w : Bool} (xs : List Int) (hl : xs.length ≤ 1000) (hb : ∀ x, 0 ≤ xs.getD x 0 ∧ xs.getD x 0 ≤ 1073741824) : VR P false n_ref35_Total [.fs w (ints xs)] [] (isR (.v (.int .i64 (sm xs.length fun x => xs.getD x 0)))) := by
  refine vr_ref35_Total (by simp) (.inr rfl) fun _ _ => ?_
  have bd : ∀ k, k ≤ xs.length → 0 ≤ sm k (fun x => xs.getD x 0) ∧ sm k (fun x => xs.getD x 0) ≤ k * 1073741824 := by
    intro k
    induction k with
    | zero => intro _; simp [sm]
    | succ k ih =>
      intro hk
      have h1 := ih (by omega)
      have h2 := hb k
      simp only [sm]; omega
  simp (disch := ((try simp only [lZ]); omega)) only [aZ, aM, s_ref35_Total, v_ref35_Total]
  refine AWP.loopP g_ref35_Total_0 (fun k : Nat => k ≤ xs.length) (fun k => [(2, .v (.int .i64 (sm k fun x => xs.getD x 0))), (3, .v (.int .i64 k))]) (fun _ => []) (fun k => xs.length - k) 0 (by omega) ?_ ?_
  · exact Cut.fg (by simp (disch := first | omega | simp (disch := omega) only [aG, aM]) only [fZ, aM, fgl_nil, fgl_cons, or_true, true_or, sm])
  rintro k hk
  have h1 := bd k hk
  by_cases hlt : k < xs.length
  · have h2 := hb k
    simp (disch := ((try simp only [lZ]); omega)) only [aZ, aM]
    refine ⟨k + 1, by omega, by omega, ?_⟩
    simp only [sm]
    try simp (disch := ((try simp only [lZ]); omega)) only [aZ, aM]
    exact Cut.fg (by simp (disch := first | omega | simp (disch := omega) only [aG, aM]) only [fZ, aM, fgl_nil, fgl_cons, or_true, true_or])
  · have hke : k = xs.length := by omega
    subst hke
    simp (disch := ((try simp only [lZ]); omega)) only [aZ, aM, r_ref35_Total]
    exact post_v ⟨rfl, rfl⟩
theorem same35_vr {w v : Bool} (a b : List Int) (hl : a.length ≤ 1000) : VR P false n_ref35_Same [.fs w (ints a), .fs v (ints b)] [] (isR (.v (.bool (decide (a = b))))) := by
  refine vr_ref35_Same (by simp) (.inr rfl) fun _ _ => ?_
  simp (disch := ((try simp only [lZ]); omega)) only [aZ, aM, s_ref35_Same, v_ref35_Same]
  refine ib_intro (fun h1 => ?_) (fun h1 => ?_)
  · simp (disch := ((try simp only [lZ]); omega)) only [aZ, aM, r_ref35_Same]
    exact post_v ⟨by rw [decide_eq_false (fun hc => by rw [hc] at h1; omega)], rfl⟩
  have hll : a.length = b.length := by omega
  simp (disch := ((try simp only [lZ]); omega)) only [aZ, aM]
  refine AWP.loopP g_ref35_Same_0 (fun k : Nat => k ≤ a.length ∧ ∀ i, i < k → a.getD i 0 = b.getD i 0) (fun k => [(2, .v (.bool false)), (3, .v (.int .i64 k))]) (fun _ => []) (fun k => a.length - k) 0 ⟨by omega, fun i hi => by omega⟩ ?_ ?_
  · exact Cut.fg (by simp (disch := first | omega | simp (disch := omega) only [aG, aM]) only [fZ, aM, fgl_nil, fgl_cons, or_true, true_or])
  rintro k ⟨hk, he⟩
  by_cases hlt : k < a.length
  · simp (disch := ((try simp only [lZ]); omega)) only [aZ, aM]
    refine ib_intro (fun h3 => ?_) (fun h3 => ?_)
    · simp (disch := ((try simp only [lZ]); omega)) only [aZ, aM, r_ref35_Same]
      exact post_v ⟨by rw [decide_eq_false (fun hc => by rw [hc] at h3; exact h3 rfl)], rfl⟩
    · simp (disch := ((try simp only [lZ]); omega)) only [aZ, aM]
      refine ⟨k + 1, ⟨by omega, fun i hi => ?_⟩, by omega, ?_⟩
      · rcases Nat.lt_succ_iff_lt_or_eq.1 hi with h | rfl
        · exact he i h
        · exact Classical.not_not.1 h3
      · exact Cut.fg (by simp (disch := first | omega | simp (disch := omega) only [aG, aM]) only [fZ, aM, fgl_nil, fgl_cons, or_true, true_or])
  · have hae : a = b := eq_of_getB 0 hll fun i hi => he i (by omega)
    simp (disch := ((try simp only [lZ]); omega)) only [aZ, aM, r_ref35_Same]
    exact post_v ⟨by rw [decide_eq_true hae], rfl⟩
theorem insL_len (p : Pl) (s : Sy) : (insL p s).length = p.mt := tb_len _ _
theorem insL_sum (p : Pl) (s : Sy) : sm (insL p s).length (fun x => (insL p s).getD x 0) = sumI p s := by
  rw [insL_len]
  exact sm_congr fun x hx => tb_get _ _ _ hx
theorem insL_bd {p : Pl} {s : Sy} (h : Gd p s) (x : Nat) : 0 ≤ (insL p s).getD x 0 ∧ (insL p s).getD x 0 ≤ 1073741824 := by
  by_cases hx : x < p.mt
  · rw [show (insL p s).getD x 0 = insT p s x from tb_get _ _ _ hx]
    have := ins_tot h x
    have := h.tt x
    omega
  · rw [get_out (insL_len p s) (by omega)]; omega
/-- The sum of what is inside. -/
theorem sumI_vr {w : Bool} {p : Pl} {s : Sy} (hm : p.mt ≤ 16) (h : Gd p s) : VR P false n_ref35_Total [.fs w (ints (insL p s))] [] (isR (.v (.int .i64 (sumI p s)))) := by
  have := sum35_vr (w := w) (insL p s) (by rw [insL_len]; omega) (insL_bd h)
  rwa [insL_sum] at this
theorem sumI_new (p : Pl) : sumI p (newS p) = 0 := by
  unfold sumI
  rw [sm_congr (g := fun _ => 0) fun x _ => by
    have h1 := ins_tot (Gd.new p) x
    rw [new_tot] at h1
    omega, sm_zero]
theorem Eqv.sumI {p : Pl} {s t : Sy} (h : Eqv p s t) : sumI p s = sumI p t := sm_congr fun x _ => h.ins x
theorem Tr.par {p : Pl} {K K' : List Blk} {ad ad' : Ad} (T : Tr p K ad K' ad') {l : List A} (h : blkAt K 0 0 = some l ∧ ¬ ftp p ad 0) : blkAt K' 0 0 = some l ∧ ¬ ftp p ad' 0 := T.keep h.1 h.2
end Go.Proofs.Ytdkoindoljngmaa
namespace Go.Proofs.Ytdkoindoljngmaa
open Go Go.Lft
set_option linter.unusedSimpArgs false
set_option linter.unusedVariables false
attribute [local congr] ob_congr bw_congr ib_congr ck_congr iwA_congr itA_congr aw_congr awp_congr sqA_congr bkA_congr vr_congr gd_congr

theorem clamp_nat (st : Int) (b : Nat) : ∃ n : Nat, max 0 (min st b) = (n : Int) ∧ n ≤ b := ⟨(max 0 (min st b)).toNat, by omega, by omega⟩
end Go.Proofs.Ytdkoindoljngmaa
namespace Go.Proofs.Ytdkoindoljngmaa
open Go Go.Lft
set_option linter.unusedSimpArgs false
set_option linter.unusedVariables false
attribute [local congr] ob_congr bw_congr ib_congr ck_congr iwA_congr itA_congr aw_congr awp_congr sqA_congr bkA_congr vr_congr gd_congr

/-- Two plants that share no memory. -/
structure Two (K : List Blk) (p : Pl) (a : Ad) (s : Sy) (b : Ad) (t : Sy) : Prop where
  l : PM K p a s
  r : PM K p b t
  d : ∀ i, ftp p a i → ¬ ftp p b i
theorem ftp_lt {K : List Blk} {p : Pl} {a : Ad} {s : Sy} (h : PM K p a s) {i : Nat} (hi : ftp p a i) : i < K.length := by
  obtain ⟨c, hc, rfl⟩ := hi; exact h.lt hc
theorem Two.swap {K : List Blk} {p : Pl} {a b : Ad} {s t : Sy} (h : Two K p a s b t) : Two K p b t a s := ⟨h.r, h.l, fun i hb ha => h.d i ha hb⟩
theorem Two.left {K K' : List Blk} {p : Pl} {a b a' : Ad} {s t s' : Sy} (h : Two K p a s b t) (hP : PM K' p a' s') (hT : Tr p K a K' a') : Two K' p a' s' b t :=
  ⟨hP, h.r.gr hT.1 fun c hc hf => h.d _ hf ⟨c, hc, rfl⟩, fun i ha hb => by
    rcases hT.2.1 i ha with h1 | h1
    · have := ftp_lt h.r hb; omega
    · exact h.d i h1 hb⟩
theorem Two.right {K K' : List Blk} {p : Pl} {a b b' : Ad} {s t t' : Sy} (h : Two K p a s b t) (hP : PM K' p b' t') (hT : Tr p K b K' b') : Two K' p a s b' t' := (h.swap.left hP hT).swap
theorem Two.gr {K K' : List Blk} {p : Pl} {a b : Ad} {s t : Sy} (h : Two K p a s b t) (g : Gr nof K K') : Two K' p a s b t := ⟨h.l.gr g fun _ _ h => h, h.r.gr g fun _ _ h => h, h.d⟩
/-- What both keep: the law's argument. -/
theorem Two.par {K K' : List Blk} {p : Pl} {a b a' : Ad} {l : List A} (T : Tr p K a K' a') (h : blkAt K 0 0 = some l ∧ ¬ ftp p a 0 ∧ ¬ ftp p b 0) : blkAt K' 0 0 = some l ∧ ¬ ftp p a' 0 ∧ ¬ ftp p b 0 :=
  ⟨(T.par ⟨h.1, h.2.1⟩).1, (T.par ⟨h.1, h.2.1⟩).2, h.2.2⟩

/-! ### What a bin shows -/
theorem ld_gr {H H' : List Blk} {i v n : Nat} {xs : List Int} (g : Gr nof H H') (hn : n = xs.length) (hb : blkAt H i v = some (ints xs)) : Ld H' (.sl i v 1 0 n) (.fs false (ints xs)) := ld_slI H' i v n xs hn (g.at hb fun h => h)
def binL (p : Pl) (s : Sy) (m : Int) : List Int := if fndE p m = 0 then s.bef m.toNat else []
theorem bin_any {H : List Blk} {p : Pl} {ad : Ad} {s : Sy} (ok : POk p) (h : PM H p ad s) (hs : SyOk p s) (m : Int) : VR P false n_plant_Plant_Bin [.lp (ad .root).1 0 0, .v (.int .i64 m)] H (fun r H' => ∃ x, r = .tup [x, .v (.int .i64 (fndE p m))] ∧ Gr nof H H' ∧ lenA x = some (.v (.int .i64 (binL p s m).length)) ∧ ∀ H'', Gr nof H' H'' → Ld H'' x (.fs false (ints (binL p s m)))) := by
  unfold binL
  by_cases he : fndE p m = 0
  · rw [if_pos he, he]
    have hm : 0 ≤ m ∧ m.toNat < p.ms.length := by unfold fndE at he; split at he <;> omega
    have hl := (hs.bef m.toNat hm.2).1
    refine (bin_ok ok h hs m he).mono ?_
    rintro r H' ⟨rfl, hH⟩
    rw [hH]
    exact ⟨_, rfl, Gr.app _ _, by rw [hl]; rfl, fun H'' g => ld_gr g hl.symm (by rw [blkAt_new0]; rfl)⟩
  · rw [if_neg he]
    refine (bin_err ok h m he).mono ?_
    rintro r H' ⟨rfl, hH⟩
    rw [hH]
    exact ⟨_, rfl, Gr.refl _, rfl, fun H'' g => ld_nilA _⟩
theorem binL_len {p : Pl} {s : Sy} (hs : SyOk p s) (m : Int) : (binL p s m).length ≤ p.mt := by
  unfold binL
  split
  · rename_i he
    have hm : 0 ≤ m ∧ m.toNat < p.ms.length := by unfold fndE at he; split at he <;> omega
    exact Nat.le_of_eq (hs.bef m.toNat hm.2).1
  · exact Nat.zero_le _
theorem Eqv.binL {p : Pl} {s t : Sy} (h : Eqv p s t) (m : Int) : binL p s m = binL p t m := by
  unfold Go.Proofs.Ytdkoindoljngmaa.binL
  split
  · rename_i he
    have hm : 0 ≤ m ∧ m.toNat < p.ms.length := by unfold fndE at he; split at he <;> omega
    exact h.bef _ hm.2
  · rfl
theorem Eqv.feedR {p : Pl} (ok : POk p) {s t : Sy} (h : Eqv p s t) (xs : List Int) : Eqv p (feedR p s xs) (feedR p t xs) := by
  unfold Go.Proofs.Ytdkoindoljngmaa.feedR
  rw [h.fed]
  split
  · have hfd := ok.fd
    refine ⟨fun m hm => ?_, h.slt, h.hal, ?_⟩
    · simp only [feedS]
      by_cases e : m = p.fd.toNat
      · rw [e, updF_same, updF_same, h.bef _ (by omega)]
      · rw [updF_ne _ _ e, updF_ne _ _ e]; exact h.bef m hm
    · simp only [feedS, h.fed]
  · exact h
theorem new_ins (p : Pl) (x : Nat) : insT p (newS p) x = 0 := by
  have h1 := ins_tot (Gd.new p) x
  rw [new_tot] at h1
  omega

theorem plantRuns_vr (p : Pl) (xs : List Int) (st : Int) : VR P false n_law35_PlantRuns [plA true true p, .fs true (ints xs), .v (.int .i64 st)] [] (isR (.v (.bool true))) := by
  refine vr_law35_PlantRuns (by simp) (.inr rfl) fun _ _ => ?_
  have hlt := light0_vr (w := true) (v := true) p
  have hck := ref35Check_vr (w := true) (v := true) p
  have hnw := fun H => new_vr (H := H) (w := true) (v := true) p
  have hex := example35_vr
  unfold plA plC at *
  simp (disch := ((try simp only [lZ]); omega)) only [aZ, aM, s_law35_PlantRuns, v_law35_PlantRuns]
  refine hlt.same (by simp (disch := first | omega | simp (disch := omega) only [aG, aM]) only [fZ, aM]) rfl (aret_of ?_)
  by_cases hl : litP p
  case neg =>
    simp (disch := ((try simp only [lZ]); omega)) only [aZ, aM, decide_eq_false hl]
    refine hex.same rfl rfl (aret_of ?_)
    simp (disch := ((try simp only [lZ]); omega)) only [aZ, aM, r_law35_PlantRuns]
    exact post_v ⟨rfl, rfl⟩
  simp (disch := ((try simp only [lZ]); omega)) only [aZ, aM, decide_eq_true hl]
  refine hck.same (by simp (disch := first | omega | simp (disch := omega) only [aG, aM]) only [fZ, aM]) rfl (aret_of ?_)
  by_cases hc : chkP p = 0
  case neg =>
    simp (disch := ((try simp only [lZ]); omega)) only [aZ, aM, decide_eq_true (show ¬ chkP p = 0 from hc)]
    refine hex.same rfl rfl (aret_of ?_)
    simp (disch := ((try simp only [lZ]); omega)) only [aZ, aM, r_law35_PlantRuns]
    exact post_v ⟨rfl, rfl⟩
  have hpc := (chkP_ok hc).1
  have ok := pcheck_ok hpc
  obtain ⟨m1, m2, m3⟩ := ok.mt1
  simp (disch := ((try simp only [lZ]); omega)) only [aZ, aM, hc]
  refine (hnw _ hc).mono ?_
  rintro r K ⟨a0, rfl, P0, G0, L0⟩
  have B0 : blkAt K 0 0 = some [.v (.int .i64 p.mat), .fs true (mcs true p.ms), .fs true (bts p.bs), .v (.int .i64 p.fd)] ∧ ¬ ftp p a0 0 := ⟨G0.at rfl (fun h => h), nftp_lo L0 (by simp)⟩
  clear L0 G0
  refine aret_of ?_
  have hb0 := B0.1
  simp (disch := ((try simp only [lZ]); omega)) only [aZ, aM, hb0]
  refine (hnw _ hc).mono ?_
  rintro r K1 ⟨b0', rfl, Q0, G0, L0⟩
  have W0 : Two K1 p a0 (newS p) b0' (newS p) := ⟨P0.gr G0 fun _ _ h => h, Q0, fun i h1 h2 => by
    have h3 := ftp_lt P0 h1
    obtain ⟨c, hc, rfl⟩ := h2
    have := L0 c hc
    omega⟩
  have B1 : blkAt K1 0 0 = some [.v (.int .i64 p.mat), .fs true (mcs true p.ms), .fs true (bts p.bs), .v (.int .i64 p.fd)] ∧ ¬ ftp p a0 0 ∧ ¬ ftp p b0' 0 := ⟨G0.at hb0 (fun h => h), B0.2, nftp_lo L0 (blkAt_lt hb0)⟩
  clear L0 G0 B0 P0 Q0 hb0
  refine aret_of ?_
  simp (disch := ((try simp only [lZ]); omega)) only [aZ, aM]
  have I0 := Iv.new p
  refine (run_e hpc W0.l I0 5 (by omega)).mono ?_
  rintro r K2 ⟨rfl, s1, a1, P1, T1, I1, E1⟩
  have W1 := W0.left P1 T1
  have B2 := Two.par T1 B1
  have ra1 : (a1 .root).1 = (a0 .root).1 := by rw [T1.2.2]
  have E1' : Eqv p s1 (newS p) := E1.trans (emp_it hpc I0.1 (new_ins p) 5)
  refine aret_of ?_
  have hi1 := inside_m hpc W1.l I1.1
  rw [ra1] at hi1
  simp (disch := ((try simp only [lZ]); omega)) only [aZ, aM]
  refine hi1.mono ?_
  rintro r K3 ⟨rfl, G3, O3⟩
  have W3 := W1.gr G3
  have B3 := Two.par (a' := a1) (Tr.gr (p := p) G3) B2
  have hs := sumI_vr (w := false) m2 I1.1
  rw [E1'.sumI, sumI_new] at hs
  refine aret_of ?_
  simp (disch := ((try simp only [lZ]); omega)) only [aZ, aM]
  refine hs.use ⟨ld_slI K3 _ _ _ _ (insL_len _ _).symm O3, trivial⟩ rfl (aret_of ?_)
  have hf1 := feed_f (w := true) hpc W3.l I1 (xs := xs)
  rw [ra1] at hf1
  simp (disch := ((try simp only [lZ]); omega)) only [aZ, aM]
  refine hf1.mono ?_
  rintro r K4 ⟨rfl, P4, T4⟩
  have W4 := W3.left P4 T4
  have B4 := Two.par T4 B3
  refine aret_of ?_
  simp (disch := ((try simp only [lZ]); omega)) only [aZ, aM]
  refine (feed_f (w := true) hpc W4.r I0 (xs := xs)).mono ?_
  rintro r K5 ⟨rfl, P5, T5⟩
  have W5 := W4.right P5 T5
  have B5 : blkAt K5 0 0 = some [.v (.int .i64 p.mat), .fs true (mcs true p.ms), .fs true (bts p.bs), .v (.int .i64 p.fd)] ∧ ¬ ftp p a1 0 ∧ ¬ ftp p b0' 0 := by
    have := Two.par T5 ⟨B4.1, B4.2.2, B4.2.1⟩
    exact ⟨this.1, this.2.2, this.2.1⟩
  refine aret_of ?_
  have If := I1.feedR ok xs
  have Jf := I0.feedR ok xs
  have Ef := E1'.feedR ok xs
  rw [show s1.fed = (newS p).fed from E1'.fed]
  generalize feedR p s1 xs = sa at *
  generalize feedR p (newS p) xs = sb at *
  generalize fitE p.mt (newS p).fed xs = fe at *
  clear W0 W1 W3 W4 B1 B2 B3 B4 T1 T4 T5 P1 P4 P5 O3 G3
  obtain ⟨n, hn, hn40⟩ := clamp_nat st 40
  have hn' : max 0 (min st 40) = (n : Int) := hn
  simp (disch := ((try simp only [lZ]); omega)) only [aZ, aM, hn']
  refine AWP.loopM g_law35_PlantRuns_0 (fun x : Nat × Ad × Sy × List Blk => x.1 ≤ n ∧ Two x.2.2.2 p x.2.1 x.2.2.1 b0' sb ∧ (blkAt x.2.2.2 0 0 = some [.v (.int .i64 p.mat), .fs true (mcs true p.ms), .fs true (bts p.bs), .v (.int .i64 p.fd)] ∧ ¬ ftp p x.2.1 0 ∧ ¬ ftp p b0' 0) ∧ (x.2.1 .root).1 = (a0 .root).1 ∧ Iv p x.2.2.1 ∧ Eqv p x.2.2.1 (itS p sb x.1)) (fun x => [(9, .v (.int .i64 x.1))]) (fun x => x.2.2.2) (fun x => n - x.1) (0, a1, sa, K5) ⟨by omega, W5, B5, ra1, If, Ef⟩ ?_ ?_
  · exact Cut.fg (by simp (disch := first | omega | simp (disch := omega) only [aG, aM]) only [fZ, aM, fgl_nil, fgl_cons, or_true, true_or])
  clear W5 B5 ra1 If Ef hf1 hi1
  rintro ⟨k, a, s, K⟩ ⟨hk, W, B, ra, I, E⟩
  simp only at hk W B ra I E
  by_cases hlt2 : k < n
  · have hst := step_m hpc W.l I.1
    rw [ra] at hst
    simp (disch := ((try simp only [lZ]); omega)) only [aZ, aM]
    refine hst.mono ?_
    rintro r K' ⟨rfl, a', P', T'⟩
    refine aret_of ?_
    simp (disch := ((try simp only [lZ]); omega)) only [aZ, aM]
    refine ⟨(k + 1, a', stpS p s, K'), ⟨by simp only; omega, W.left P' T', Two.par T' B, by simp only; rw [T'.2.2]; exact ra, I.it hpc 1, E.stp hpc I.1 (Jf.it hpc k).1⟩, by simp only; omega, ?_⟩
    try simp (disch := ((try simp only [lZ]); omega)) only [aZ, aM]
    exact Cut.fg (by simp (disch := first | omega | simp (disch := omega) only [aG, aM]) only [fZ, aM, fgl_nil, fgl_cons, or_true, true_or])
  have hke : k = n := by omega
  subst hke
  have hr2 := run_e hpc W.r Jf k (by omega)
  simp (disch := ((try simp only [lZ]); omega)) only [aZ, aM]
  refine hr2.mono ?_
  rintro r K2 ⟨rfl, t, b, P2, T2, J, F⟩
  have W2 := W.right P2 T2
  have B2 : blkAt K2 0 0 = some [.v (.int .i64 p.mat), .fs true (mcs true p.ms), .fs true (bts p.bs), .v (.int .i64 p.fd)] := (Two.par T2 ⟨B.1, B.2.2, B.2.1⟩).1
  have rb : (b .root).1 = (b0' .root).1 := by rw [T2.2.2]
  have EF := E.trans F.symm
  have hi1 := inside_m hpc W2.l I.1
  rw [ra] at hi1
  refine aret_of ?_
  simp (disch := ((try simp only [lZ]); omega)) only [aZ, aM]
  refine hi1.mono ?_
  rintro r K3 ⟨rfl, G3, O3⟩
  have W3 := W2.gr G3
  have hi2 := inside_m hpc W3.r J.1
  rw [rb] at hi2
  refine aret_of ?_
  simp (disch := ((try simp only [lZ]); omega)) only [aZ, aM]
  refine hi2.mono ?_
  rintro r K4 ⟨rfl, G4, O4⟩
  have W4 := W3.gr G4
  have B4 := G4.at (G3.at B2 fun h => h) fun h => h
  have hsm := same35_vr (w := false) (v := false) (insL p s) (insL p t) (by rw [insL_len]; omega)
  rw [decide_eq_true EF.insL] at hsm
  refine aret_of ?_
  simp (disch := ((try simp only [lZ]); omega)) only [aZ, aM]
  refine hsm.use ⟨ld_gr G4 (insL_len _ _).symm O3, ld_slI K4 _ _ _ _ (insL_len _ _).symm O4, trivial⟩ rfl (aret_of ?_)
  have n2 := ok.n2
  simp (disch := ((try simp only [lZ]); omega)) only [aZ, aM, B4]
  refine AWP.loopM g_law35_PlantRuns_1 (fun x : Nat × List Blk => x.1 ≤ p.ms.length ∧ Two x.2 p a s b t) (fun x => [(12, .v (.int .i64 x.1))]) (fun x => x.2) (fun x => p.ms.length - x.1) (0, K4) ⟨by omega, W4⟩ ?_ ?_
  · exact Cut.fg (by simp (disch := first | omega | simp (disch := omega) only [aG, aM]) only [fZ, aM, fgl_nil, fgl_cons, or_true, true_or])
  clear W W2 W3 W4 B B2 B4 O3 O4 G3 G4
  rintro ⟨m, K⟩ ⟨hm, W⟩
  simp only at hm W
  by_cases hmt : m < p.ms.length
  · have hb1 := bin_any ok W.l I.1.ok m
    rw [ra] at hb1
    simp (disch := ((try simp only [lZ]); omega)) only [aZ, aM]
    refine hb1.mono ?_
    rintro r K5 ⟨x1, rfl, G5, l1, D1⟩
    have W5 := W.gr G5
    have hb2 := bin_any ok W5.r J.1.ok m
    rw [rb] at hb2
    refine aret_of ?_
    simp (disch := ((try simp only [lZ]); omega)) only [aZ, aM]
    refine hb2.mono ?_
    rintro r K6 ⟨x2, rfl, G6, l2, D2⟩
    have W6 := W5.gr G6
    have hsm2 := same35_vr (w := false) (v := false) (binL p s m) (binL p t m) (by have := binL_len I.1.ok m; omega)
    rw [decide_eq_true (EF.binL m)] at hsm2
    refine aret_of ?_
    generalize fndE p m = fe at *
    simp (disch := ((try simp only [lZ]); omega)) only [aZ, aM]
    refine hsm2.use ⟨D1 _ G6, D2 _ (Gr.refl _), trivial⟩ rfl (aret_of ?_)
    simp (disch := ((try simp only [lZ]); omega)) only [aZ, aM]
    refine ⟨(m + 1, K6), ⟨by simp only; omega, W6⟩, by simp only; omega, ?_⟩
    try simp (disch := ((try simp only [lZ]); omega)) only [aZ, aM]
    exact Cut.fg (by simp (disch := first | omega | simp (disch := omega) only [aG, aM]) only [fZ, aM, fgl_nil, fgl_cons, or_true, true_or])
  · simp (disch := ((try simp only [lZ]); omega)) only [aZ, aM]
    refine hex.same rfl rfl (aret_of ?_)
    simp (disch := ((try simp only [lZ]); omega)) only [aZ, aM, r_law35_PlantRuns]
    exact post_v ⟨rfl, rfl⟩
end Go.Proofs.Ytdkoindoljngmaa
