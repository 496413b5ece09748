/- Dividing the mass of a material, in the program and in the reference. No statement is claimed here. -/
import Derived.Test.YtggnafgbjnemoaaRj
import Derived.Test.YtggnafgbjnemoaaPc
namespace Go.Proofs.Ytggnafgbjnemoaa
open Go Go.Lft
set_option linter.unusedSimpArgs false
set_option linter.unusedVariables false
attribute [local congr] ob_congr bw_congr ib_congr ck_congr iwA_congr itA_congr aw_congr awp_congr sqA_congr bkA_congr vr_congr gd_congr

theorem row_split {m : Mc} {mat : Int} (h : MOk m mat) (ho : outsN m ≠ 0) {k : Nat} (hk : k < m.length) {t : Int} (ht : 0 ≤ t ∧ t ≤ 1073741824) : splitE t (m.getD k []) = 0 ∧ (m.getD k []).sum = 1000 ∧ (m.getD k []).length = outsN m ∧ outsN m ≤ 4 ∧ ∀ i, i < (m.getD k []).length → 0 ≤ (m.getD k []).getD i 0 ∧ (m.getD k []).getD i 0 ≤ 1000 := by
  obtain ⟨r1, r2, r3, r4⟩ := h.row _ (mem_get [] hk)
  have hs := r4 (by omega)
  have hb : ∀ i, i < (m.getD k []).length → 0 ≤ (m.getD k []).getD i 0 ∧ (m.getD k []).getD i 0 ≤ 1000 := fun i hi => r3 _ (mem_getD hi)
  refine ⟨?_, hs, r1, by omega, hb⟩
  have hw : weighE (m.getD k []) = (1000, 0) := by
    rw [weigh_sum (by omega) (by
      rintro ⟨i, hi, h2⟩
      have := hb i hi
      unfold badW at h2; omega), hs, if_pos (by omega)]
  unfold splitE
  rw [hw, if_neg (by omega), if_neg (by simp), if_neg (by simp)]
theorem row_div {m : Mc} {mat : Int} (h : MOk m mat) (ho : outsN m ≠ 0) {k : Nat} (hk : k < m.length) {t : Int} (ht : 0 ≤ t ∧ t ≤ 1073741824) : DivOk t (m.getD k []) := by
  obtain ⟨h1, h2, h3, h4, h5⟩ := row_split h ho hk ht
  refine divOk_small (splitE_ok h1) fun i hi => ?_
  have := h5 i hi
  have : t * (m.getD k []).getD i 0 ≤ 1073741824 * 1000 := Int.mul_le_mul ht.2 this.2 this.1 (by omega)
  omega

def divR (l : List Int) (main : Nat) (mass : Int) : List Int :=
  if mass = 0 ∨ 0 < l.getD main 0 then l else (l.set (bestI l) (l.getD (bestI l) 0 - 1)).set main 1
theorem divR_len (l : List Int) (main : Nat) (mass : Int) : (divR l main mass).length = l.length := by unfold divR; split <;> simp
def divM (m : Mc) (k : Nat) (mass : Int) : List Int := divR (partsR mass (m.getD k [])) (mainN m k).toNat mass

theorem greatest_vr {w : Bool} (l : List Int) (h0 : 0 < l.length) (hl : l.length < 1000000) : VR P false n_machine_greatest [.fs w (ints l)] [] (isR (.v (.int .i64 (bestI l)))) := by
  refine vr_machine_greatest (by simp) (.inr rfl) fun _ _ => ?_
  simp (disch := ((try simp only [List.length_set, List.length_replicate, List.length_append, List.length_cons, List.length_nil]); omega)) only [aW, aX, aV, aB, aN, aL, aP, aH, aM, s_machine_greatest, v_machine_greatest]
  refine AWP.loopP g_machine_greatest_0 (fun k : Nat => k ≤ l.length) (fun k => [(2, .v (.int .i64 (bestN l k))), (3, .v (.int .i64 k))]) (fun _ => []) (fun k => l.length - k) 0 (by omega) ?_ ?_
  · simp only [bestN]
    exact Cut.of' 0 rfl (by omega) (by simp (disch := first | omega | simp (disch := omega) only [aF, aL, aN, aM]) only [aW, aX, aV, aB, aN, aL, aP, aH, aM, aF, Int.natCast_add, Int.natCast_mul, Int.add_sub_cancel, List.length_nil, Int.cast_ofNat_Int, and_true, true_and]) (by simp (disch := first | omega | simp (disch := omega) only [aF, aL, aN, aM]) only [aW, aX, aV, aB, aN, aL, aP, aH, aM, aF, Int.natCast_add, Int.natCast_mul, Int.add_sub_cancel, List.length_nil, Int.cast_ofNat_Int, and_true, true_and])
  rintro k hk
  have hbl : bestN l k < l.length := by
    by_cases h : 0 < k
    · have := bestN_lt l k h; omega
    · have : k = 0 := by omega
      subst this; exact h0
  by_cases hlt : k < l.length
  · have hbs : bestN l (k + 1) = if l.getD (bestN l k) 0 < l.getD k 0 then k else bestN l k := rfl
    simp (disch := ((try simp only [List.length_set, List.length_replicate, List.length_append, List.length_cons, List.length_nil]); omega)) only [aW, aX, aV, aB, aN, aL, aP, aH, aM]
    refine ib_intro (fun h5 => ?_) (fun h5 => ?_)
    · rw [if_pos h5] at hbs
      simp (disch := ((try simp only [List.length_set, List.length_replicate, List.length_append, List.length_cons, List.length_nil]); omega)) only [aW, aX, aV, aB, aN, aL, aP, aH, aM]
      refine ⟨k + 1, by omega, by omega, ?_⟩
      rw [hbs]
      exact Cut.of' 0 rfl (by omega) (by simp (disch := first | omega | simp (disch := omega) only [aF, aL, aN, aM]) only [aW, aX, aV, aB, aN, aL, aP, aH, aM, aF, Int.natCast_add, Int.natCast_mul, Int.add_sub_cancel, List.length_nil, Int.cast_ofNat_Int, and_true, true_and]) (by simp (disch := first | omega | simp (disch := omega) only [aF, aL, aN, aM]) only [aW, aX, aV, aB, aN, aL, aP, aH, aM, aF, Int.natCast_add, Int.natCast_mul, Int.add_sub_cancel, List.length_nil, Int.cast_ofNat_Int, and_true, true_and])
    · rw [if_neg h5] at hbs
      simp (disch := ((try simp only [List.length_set, List.length_replicate, List.length_append, List.length_cons, List.length_nil]); omega)) only [aW, aX, aV, aB, aN, aL, aP, aH, aM]
      refine ⟨k + 1, by omega, by omega, ?_⟩
      rw [hbs]
      exact Cut.of' 0 rfl (by omega) (by simp (disch := first | omega | simp (disch := omega) only [aF, aL, aN, aM]) only [aW, aX, aV, aB, aN, aL, aP, aH, aM, aF, Int.natCast_add, Int.natCast_mul, Int.add_sub_cancel, List.length_nil, Int.cast_ofNat_Int, and_true, true_and]) (by simp (disch := first | omega | simp (disch := omega) only [aF, aL, aN, aM]) only [aW, aX, aV, aB, aN, aL, aP, aH, aM, aF, Int.natCast_add, Int.natCast_mul, Int.add_sub_cancel, List.length_nil, Int.cast_ofNat_Int, and_true, true_and])
  · have hke : k = l.length := by omega
    subst hke
    simp (disch := ((try simp only [List.length_set, List.length_replicate, List.length_append, List.length_cons, List.length_nil]); omega)) only [aW, aX, aV, aB, aN, aL, aP, aH, aM, r_machine_greatest]
    exact post_v ⟨rfl, rfl⟩

theorem parts_pos {t : Int} {ws l : List Int} (h : SpR t ws l) (ht : 0 < t) (hne : ws ≠ []) : 0 < l.getD (bestI l) 0 := by
  apply Int.lt_of_not_ge; intro hc
  have hl : 0 < l.length := by rw [h.len]; exact List.length_pos_iff.2 hne
  have := (bestN_max l l.length).1
  change ∀ i, i < l.length → l.getD i 0 ≤ l.getD (bestI l) 0 at this
  have hs := sum_le_c 0 l fun x hx => by
    obtain ⟨i, h1, rfl⟩ := getD_mem hx
    have := this i h1; omega
  rw [h.sum] at hs; omega
theorem parts_bd {t : Int} {ws l : List Int} (h : SpR t ws l) (ok : SplitOk t ws) : ∀ i, i < l.length → 0 ≤ l.getD i 0 ∧ l.getD i 0 ≤ t + 1 := fun i hi => by
  have := q_le ok (i := i) (by rw [← h.len]; exact hi)
  rcases h.two i (by rw [← h.len]; exact hi) with h1 | ⟨h1, _⟩ <;> omega

theorem divided_vr {w : Bool} (m : Mc) (mat : Int) (h : MOk m mat) (ho : outsN m ≠ 0) (k : Nat) (hk : k < m.length) (t : Int) (ht : 0 ≤ t ∧ t ≤ 1073741824) : VR P false n_machine_divided [mcA w m, .v (.int .i64 k), .v (.int .i64 t)] [] (isR (.fs true (ints (divM m k t)))) := by
  refine vr_machine_divided (by simp) (.inr rfl) fun _ _ => ?_
  obtain ⟨h1, h2, h3, h4, h5⟩ := row_split h ho hk ht
  have hd := row_div h ho hk ht
  have ok := splitE_ok h1
  have hsp := partsR_ok ok.sp
  have hne : m.getD k [] ≠ [] := ok.sp.ne
  have hlen := h.len
  obtain ⟨g1, g2, g3⟩ := mainN_ok h ho (k := k) (by omega) (by omega)
  have hrow : ((m.getD (k : Int).toNat []).length) < 1000000000 := by rw [Int.toNat_natCast]; omega
  unfold mcA mcC divM
  simp (disch := ((try simp only [List.length_set, List.length_replicate, List.length_append, List.length_cons, List.length_nil]); omega)) only [aW, aX, aV, aB, aN, aL, aP, aH, aM, s_machine_divided, v_machine_divided]
  refine (shareSplitO_vr (w := w) t (m.getD k []) fun _ => hd).useS (LdL.refl (by simp (disch := first | omega | simp (disch := omega) only [aF, aL, aN, aM]) only [aW, aX, aV, aB, aN, aL, aP, aH, aM, aF, Int.natCast_add, Int.natCast_mul, Int.add_sub_cancel, List.length_nil, Int.cast_ofNat_Int, and_true, true_and])) ?_ ?_
  · rintro r G (⟨_, rfl, rfl⟩ | ⟨_, ver, rfl, rfl⟩)
    · rfl
    · simp (disch := first | omega | simp (disch := omega) only [aF, aL, aN, aM]) only [aW, aX, aV, aB, aN, aL, aP, aH, aM, aF, Int.natCast_add, Int.natCast_mul, Int.add_sub_cancel, List.length_nil, Int.cast_ofNat_Int, and_true, true_and, List.all_cons, List.all_nil]
  rintro r G (⟨hbad, rfl, rfl⟩ | ⟨_, ver, rfl, rfl⟩)
  · exfalso; apply hbad; unfold splitV; rw [if_neg (by omega)]
  refine aret_of ?_
  have e1 : A.shL 1 (ints (partsR t (m.getD k []))) = ints (partsR t (m.getD k [])) := shL_bd _ (ii_bd 0 _)
  have hpl := hsp.len
  have hpb := parts_bd hsp ok
  have hpp := fun hp => parts_pos hsp hp hne
  generalize partsR t (m.getD k []) = l at *
  simp (disch := ((try simp only [List.length_set, List.length_replicate, List.length_append, List.length_cons, List.length_nil]); omega)) only [aW, aX, aV, aB, aN, aL, aP, aH, aM, A.sh, A.shL, Blk.sh, List.map_cons, List.map_nil, e1]
  refine (machineMain_vr (w := w) m k hrow).same (by unfold mcA mcC; simp (disch := first | omega | simp (disch := omega) only [aF, aL, aN, aM]) only [aW, aX, aV, aB, aN, aL, aP, aH, aM, aF, Int.natCast_add, Int.natCast_mul, Int.add_sub_cancel, List.length_nil, Int.cast_ofNat_Int, and_true, true_and]) rfl (aret_of ?_)
  have hmb := hpb (mainN m k).toNat (by omega)
  simp (disch := ((try simp only [List.length_set, List.length_replicate, List.length_append, List.length_cons, List.length_nil]); omega)) only [aW, aX, aV, aB, aN, aL, aP, aH, aM]
  refine ib_intro (fun h6 => ?_) (fun h6 => ?_)
  · have hdv : divR l (mainN m k).toNat t = (l.set (bestI l) (l.getD (bestI l) 0 - 1)).set (mainN m k).toNat 1 := by unfold divR; rw [if_neg (by omega)]
    have hbp := hpp (by omega)
    have hbl : bestI l < l.length := bestN_lt l l.length (by omega)
    have hbb := hpb _ hbl
    have hbm : bestI l ≠ (mainN m k).toNat := by intro hc; rw [hc] at hbp; omega
    have hg : (l.set (bestI l) (l.getD (bestI l) 0 - 1)).getD (mainN m k).toNat 0 = 0 := by rw [getD_seti, if_neg (fun h => hbm h.1)]; omega
    have z : (0 : Int) + 1 = 1 := rfl
    simp (disch := ((try simp only [List.length_set, List.length_replicate, List.length_append, List.length_cons, List.length_nil]); omega)) only [aW, aX, aV, aB, aN, aL, aP, aH, aM]
    refine (greatest_vr (w := false) l (by omega) (by omega)).use ⟨ld_slI _ 1 ver _ l hpl.symm (by simp (disch := ((try simp only [List.length_set, List.length_replicate, List.length_append, List.length_cons, List.length_nil]); omega)) only [aW, aX, aV, aB, aN, aL, aP, aH, aM]), trivial⟩ rfl (aret_of ?_)
    simp (disch := ((try simp only [List.length_set, List.length_replicate, List.length_append, List.length_cons, List.length_nil]); omega)) only [aW, aX, aV, aB, aN, aL, aP, aH, aM, Int.toNat_natCast, hg, z, ← hdv, r_machine_divided]
    exact post0 (fz_slI 0 _ 1 ver _ (divR l (mainN m k).toNat t) (by omega) (by rw [divR_len]; omega) (by simp (disch := ((try simp only [List.length_set, List.length_replicate, List.length_append, List.length_cons, List.length_nil]); omega)) only [aW, aX, aV, aB, aN, aL, aP, aH, aM])) ⟨rfl, rfl⟩
  · have hdv : divR l (mainN m k).toNat t = l := by unfold divR; rw [if_pos (by omega)]
    rw [hdv]
    simp (disch := ((try simp only [List.length_set, List.length_replicate, List.length_append, List.length_cons, List.length_nil]); omega)) only [aW, aX, aV, aB, aN, aL, aP, aH, aM, r_machine_divided]
    exact post0 (fz_slI 0 _ 1 ver _ l (by omega) hpl.symm (by simp (disch := ((try simp only [List.length_set, List.length_replicate, List.length_append, List.length_cons, List.length_nil]); omega)) only [aW, aX, aV, aB, aN, aL, aP, aH, aM])) ⟨rfl, rfl⟩

theorem refParts_vr {w : Bool} (m : Mc) (mat : Int) (h : MOk m mat) (ho : outsN m ≠ 0) (k : Nat) (hk : k < m.length) (t : Int) (ht : 0 ≤ t ∧ t ≤ 1073741824) : VR P false n_ref33_parts [mcA w m, .v (.int .i64 k), .v (.int .i64 t)] [] (isR (.fs true (ints (divM m k t)))) := by
  refine vr_ref33_parts (by simp) (.inr rfl) fun _ _ => ?_
  obtain ⟨h1, h2, h3, h4, h5⟩ := row_split h ho hk ht
  have ok := splitE_ok h1
  have hsp := partsR_ok ok.sp
  have hne : m.getD k [] ≠ [] := ok.sp.ne
  have hlen := h.len
  obtain ⟨g1, g2, g3⟩ := mainN_ok h ho (k := k) (by omega) (by omega)
  have hrow : ((m.getD (k : Int).toNat []).length) < 1000000000 := by rw [Int.toNat_natCast]; omega
  unfold mcA mcC divM
  simp (disch := ((try simp only [List.length_set, List.length_replicate, List.length_append, List.length_cons, List.length_nil]); omega)) only [aW, aX, aV, aB, aN, aL, aP, aH, aM, s_ref33_parts, v_ref33_parts]
  refine (ref11SplitO_vr (w := w) t (m.getD k [])).useS (LdL.refl (by simp (disch := first | omega | simp (disch := omega) only [aF, aL, aN, aM]) only [aW, aX, aV, aB, aN, aL, aP, aH, aM, aF, Int.natCast_add, Int.natCast_mul, Int.add_sub_cancel, List.length_nil, Int.cast_ofNat_Int, and_true, true_and])) ?_ ?_
  · rintro r G (⟨_, rfl, rfl⟩ | ⟨_, ver, rfl, rfl⟩)
    · rfl
    · simp (disch := first | omega | simp (disch := omega) only [aF, aL, aN, aM]) only [aW, aX, aV, aB, aN, aL, aP, aH, aM, aF, Int.natCast_add, Int.natCast_mul, Int.add_sub_cancel, List.length_nil, Int.cast_ofNat_Int, and_true, true_and, List.all_cons, List.all_nil]
  rintro r G (⟨hbad, rfl, rfl⟩ | ⟨_, ver, rfl, rfl⟩)
  · exfalso; apply hbad; unfold splitV; rw [if_neg (by omega)]
  refine aret_of ?_
  have e1 : A.shL 1 (ints (partsR t (m.getD k []))) = ints (partsR t (m.getD k [])) := shL_bd _ (ii_bd 0 _)
  have hpl := hsp.len
  have hpb := parts_bd hsp ok
  have hpp := fun hp => parts_pos hsp hp hne
  generalize partsR t (m.getD k []) = l at *
  simp (disch := ((try simp only [List.length_set, List.length_replicate, List.length_append, List.length_cons, List.length_nil]); omega)) only [aW, aX, aV, aB, aN, aL, aP, aH, aM, A.sh, A.shL, Blk.sh, List.map_cons, List.map_nil, e1]
  refine (refMain_vr (w := w) m k hrow).same (by unfold mcA mcC; simp (disch := first | omega | simp (disch := omega) only [aF, aL, aN, aM]) only [aW, aX, aV, aB, aN, aL, aP, aH, aM, aF, Int.natCast_add, Int.natCast_mul, Int.add_sub_cancel, List.length_nil, Int.cast_ofNat_Int, and_true, true_and]) rfl (aret_of ?_)
  have hmb := hpb (mainN m k).toNat (by omega)
  simp (disch := ((try simp only [List.length_set, List.length_replicate, List.length_append, List.length_cons, List.length_nil]); omega)) only [aW, aX, aV, aB, aN, aL, aP, aH, aM]
  refine ib_intro (fun h6 => ?_) (fun h6 => ?_)
  · have hdv : divR l (mainN m k).toNat t = l := by unfold divR; rw [if_pos (by omega)]
    rw [hdv]
    simp (disch := ((try simp only [List.length_set, List.length_replicate, List.length_append, List.length_cons, List.length_nil]); omega)) only [aW, aX, aV, aB, aN, aL, aP, aH, aM, r_ref33_parts]
    exact post0 (fz_slI 0 _ 1 ver _ l (by omega) hpl.symm (by simp (disch := ((try simp only [List.length_set, List.length_replicate, List.length_append, List.length_cons, List.length_nil]); omega)) only [aW, aX, aV, aB, aN, aL, aP, aH, aM])) ⟨rfl, rfl⟩
  · have hdv : divR l (mainN m k).toNat t = (l.set (bestI l) (l.getD (bestI l) 0 - 1)).set (mainN m k).toNat 1 := by unfold divR; rw [if_neg h6]
    have hbI : bestN l l.length = bestI l := rfl
    have hbl : bestI l < l.length := bestN_lt l l.length (by omega)
    have hbb := hpb _ hbl
    simp (disch := ((try simp only [List.length_set, List.length_replicate, List.length_append, List.length_cons, List.length_nil]); omega)) only [aW, aX, aV, aB, aN, aL, aP, aH, aM]
    refine AWP.loopP g_ref33_parts_0 (fun i : Nat => i ≤ l.length) (fun i => [(8, .v (.int .i64 (bestN l i))), (9, .v (.int .i64 i))]) (fun _ => []) (fun i => l.length - i) 0 (by omega) ?_ ?_
    · simp only [bestN]
      exact Cut.of' 2 rfl (by omega) (by simp (disch := first | omega | simp (disch := omega) only [aF, aL, aN, aM]) only [aW, aX, aV, aB, aN, aL, aP, aH, aM, aF, Int.natCast_add, Int.natCast_mul, Int.add_sub_cancel, List.length_nil, Int.cast_ofNat_Int, and_true, true_and]) (by simp (disch := first | omega | simp (disch := omega) only [aF, aL, aN, aM]) only [aW, aX, aV, aB, aN, aL, aP, aH, aM, aF, Int.natCast_add, Int.natCast_mul, Int.add_sub_cancel, List.length_nil, Int.cast_ofNat_Int, and_true, true_and])
    rintro i hi
    have hbi : bestN l i < l.length := by
      by_cases h : 0 < i
      · have := bestN_lt l i h; omega
      · have : i = 0 := by omega
        subst this; show 0 < l.length; omega
    by_cases hil : i < l.length
    · have hbs : bestN l (i + 1) = if l.getD (bestN l i) 0 < l.getD i 0 then i else bestN l i := rfl
      simp (disch := ((try simp only [List.length_set, List.length_replicate, List.length_append, List.length_cons, List.length_nil]); omega)) only [aW, aX, aV, aB, aN, aL, aP, aH, aM]
      refine ib_intro (fun h7 => ?_) (fun h7 => ?_)
      · rw [if_pos h7] at hbs
        simp (disch := ((try simp only [List.length_set, List.length_replicate, List.length_append, List.length_cons, List.length_nil]); omega)) only [aW, aX, aV, aB, aN, aL, aP, aH, aM]
        refine ⟨i + 1, by omega, by omega, ?_⟩
        rw [hbs]
        exact Cut.of' 2 rfl (by omega) (by simp (disch := first | omega | simp (disch := omega) only [aF, aL, aN, aM]) only [aW, aX, aV, aB, aN, aL, aP, aH, aM, aF, Int.natCast_add, Int.natCast_mul, Int.add_sub_cancel, List.length_nil, Int.cast_ofNat_Int, and_true, true_and]) (by simp (disch := first | omega | simp (disch := omega) only [aF, aL, aN, aM]) only [aW, aX, aV, aB, aN, aL, aP, aH, aM, aF, Int.natCast_add, Int.natCast_mul, Int.add_sub_cancel, List.length_nil, Int.cast_ofNat_Int, and_true, true_and])
      · rw [if_neg h7] at hbs
        simp (disch := ((try simp only [List.length_set, List.length_replicate, List.length_append, List.length_cons, List.length_nil]); omega)) only [aW, aX, aV, aB, aN, aL, aP, aH, aM]
        refine ⟨i + 1, by omega, by omega, ?_⟩
        rw [hbs]
        exact Cut.of' 2 rfl (by omega) (by simp (disch := first | omega | simp (disch := omega) only [aF, aL, aN, aM]) only [aW, aX, aV, aB, aN, aL, aP, aH, aM, aF, Int.natCast_add, Int.natCast_mul, Int.add_sub_cancel, List.length_nil, Int.cast_ofNat_Int, and_true, true_and]) (by simp (disch := first | omega | simp (disch := omega) only [aF, aL, aN, aM]) only [aW, aX, aV, aB, aN, aL, aP, aH, aM, aF, Int.natCast_add, Int.natCast_mul, Int.add_sub_cancel, List.length_nil, Int.cast_ofNat_Int, and_true, true_and])
    · have hie : i = l.length := by omega
      subst hie
      rw [hbI] at hbi ⊢
      simp (disch := ((try simp only [List.length_set, List.length_replicate, List.length_append, List.length_cons, List.length_nil]); omega)) only [aW, aX, aV, aB, aN, aL, aP, aH, aM, Int.toNat_natCast, ← hdv, r_ref33_parts]
      exact post0 (fz_slI 0 _ 1 ver _ (divR l (mainN m k).toNat t) (by omega) (by rw [divR_len]; omega) (by simp (disch := ((try simp only [List.length_set, List.length_replicate, List.length_append, List.length_cons, List.length_nil]); omega)) only [aW, aX, aV, aB, aN, aL, aP, aH, aM])) ⟨rfl, rfl⟩
end Go.Proofs.Ytggnafgbjnemoaa
