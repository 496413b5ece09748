/- Lemmas and walks that the proof of BaleProportions uses. No statement is claimed here. -/
import Derived.Test.YtbgmhbjfcpddkaaBaleProportionsZam
namespace Go.Proofs.Ytbgmhbjfcpddkaa
open Go Go.Lft
set_option linter.unusedSimpArgs false
set_option linter.unusedVariables false

def isB (m o : Int) (b : Bt) : Prop := b.fr = m ∧ b.ot = o
instance (m o : Int) : DecidablePred (isB m o) := fun b => by unfold isB; infer_instance
def findB (bs : List Bt) (m o : Int) : Int := idxE (isB m o) bs
def beltE (ms : List Mc) (b : Bt) : Int :=
  if b.fr < 0 ∨ (ms.length : Int) ≤ b.fr ∨ b.ot < 0 ∨ (outsN (ms.getD b.fr.toNat []) : Int) ≤ b.ot ∨ b.to < 0 ∨ (ms.length : Int) ≤ b.to then 7
  else if b.ln < 1 ∨ 16 < b.ln then 1 else 0
def twice (bs : List Bt) : Prop := ∃ k, k < bs.length ∧ findB bs (bs.getD k b0).fr (bs.getD k b0).ot ≠ k
def openO (ms : List Mc) (bs : List Bt) : Prop := ∃ i, i < ms.length ∧ ∃ o, o < outsN (ms.getD i []) ∧ findB bs i o < 0
instance (bs : List Bt) : Decidable (twice bs) := by unfold twice; infer_instance
instance (ms : List Mc) (bs : List Bt) : Decidable (openO ms bs) := by unfold openO; infer_instance
def beltsE (ms : List Mc) (bs : List Bt) : Int :=
  if firstE (beltE ms) bs ≠ 0 then firstE (beltE ms) bs else if twice bs then 6 else 0
def pcheck (p : Pl) : Int :=
  if p.mat < 1 ∨ 16 < p.mat then 1 else if p.ms.length = 0 then 10 else if 24 < p.ms.length ∨ 48 < p.bs.length then 8
  else if firstE (fun m => mcheck m p.mat) p.ms ≠ 0 then firstE (fun m => mcheck m p.mat) p.ms
  else if beltsE p.ms p.bs ≠ 0 then beltsE p.ms p.bs
  else if openO p.ms p.bs then 3
  else if p.fd < 0 ∨ (p.ms.length : Int) ≤ p.fd then 7
  else if outsN (p.ms.getD p.fd.toNat []) = 0 then 13 else 0

/-! ### Ways -/
/-- The number of the belt on which a material leaves a machine. -/
def outB (p : Pl) (mt : Int) (at0 : Nat) : Nat := (findB p.bs at0 (mainN (p.ms.getD at0 []) mt)).toNat
def lx (p : Pl) (mt : Int) (at0 : Nat) : Int := (p.bs.getD (outB p mt at0) b0).ln
def binN (p : Pl) (at0 : Nat) : Prop := outsN (p.ms.getD at0 []) = 0
instance (p : Pl) : DecidablePred (binN p) := fun i => by unfold binN; infer_instance
theorem t1 : pcheck ⟨1, [[[900, 100]], [[]]], [⟨0, 0, 1, 2⟩, ⟨0, 1, 0, 3⟩], 0⟩ = 0 := by decide +kernel
end Go.Proofs.Ytbgmhbjfcpddkaa
namespace Go.Proofs.Ytbgmhbjfcpddkaa
open Go Go.Lft
set_option linter.unusedSimpArgs false
set_option linter.unusedVariables false

theorem list_of {α : Type} {w : Bool} (t : Ty) (f : α → A) (Q : α → Prop) (h1 : ∀ ce, t.Sh w ce → ∃ x, t.pk ce = f x ∧ Q x) : ∀ (L : List (List A)), (∀ ce ∈ L, t.Sh w ce) → ∃ l : List α, L.map t.pk = l.map f ∧ L.length = l.length ∧ ∀ x ∈ l, Q x
  | [], _ => ⟨[], rfl, rfl, by simp⟩
  | ce :: L, h => by
    obtain ⟨l, hl, hn, hq⟩ := list_of t f Q h1 L fun x hx => h x (by simp [hx])
    obtain ⟨x, hx, hqx⟩ := h1 ce (h ce (by simp))
    exact ⟨x :: l, by rw [List.map_cons, hl, hx]; rfl, by simp [hn], fun y hy => by
      rcases List.mem_cons.1 hy with rfl | hy
      · exact hqx
      · exact hq y hy⟩
theorem i64_of {w : Bool} {ce : List A} (h : (Ty.int .i64).Sh w ce) : ∃ n : Int, (Ty.int .i64).pk ce = .v (.int .i64 n) ∧ (Lit.int .i64 n).wf = true := by
  simp only [Ty.Sh] at h
  obtain ⟨n, rfl, h⟩ := h; exact ⟨n, rfl, h⟩
theorem wf_i64 {n : Int} (h : (Lit.int .i64 n).wf = true) : -9223372036854775808 ≤ n ∧ n ≤ 9223372036854775807 := by
  simp only [Lit.wf, Bool.and_eq_true, decide_eq_true_eq] at h
  have h1 : IntKind.i64.max = 9223372036854775807 := rfl
  have h2 : IntKind.i64.min = -9223372036854775808 := rfl
  omega
/-- A row of numbers; all are numbers of the kind. -/
def fit (n : Int) : Prop := -9223372036854775808 ≤ n ∧ n ≤ 9223372036854775807
theorem ints_of {w : Bool} {ce : List A} (h : (Ty.sl (.int .i64)).Sh w ce) : ∃ l : List Int, (Ty.sl (.int .i64)).pk ce = .fs w (ints l) ∧ l.length ≤ maxLen ∧ ∀ x ∈ l, fit x := by
  simp only [Ty.Sh] at h
  obtain ⟨L, rfl, hn, h⟩ := h
  obtain ⟨l, h1, h2, h3⟩ := list_of (w := w) (.int .i64) (fun n => A.v (.int .i64 n)) fit (fun ce hce => by
    obtain ⟨n, e1, e2⟩ := i64_of hce; exact ⟨n, e1, wf_i64 e2⟩) L (fun ce hce => by simp only [Ty.Sh]; exact h ce hce)
  exact ⟨l, by show A.fs w _ = _; rw [h1]; rfl, by omega, h3⟩
end Go.Proofs.Ytbgmhbjfcpddkaa
namespace Go.Proofs.Ytbgmhbjfcpddkaa
open Go Go.Lft
set_option linter.unusedSimpArgs false
set_option linter.unusedVariables false
attribute [local congr] ob_congr bw_congr ib_congr ck_congr iwA_congr itA_congr aw_congr awp_congr sqA_congr bkA_congr vr_congr gd_congr

def tyAsk : Ty := (.st [(.sl (.int .i64)), (.int .i64), (.int .i64), (.int .i64), (.int .i64)])
theorem tyAsk_is : tyAsk.Is Try.prog 25 := by
  unfold tyAsk
  simp only [Ty.Is]
  refine ⟨_, Try.underlying25, by kernel_rfl, ?_⟩
  simp only [Ty.IsL, Ty.Is]
  refine ⟨by first | rfl | trivial, by kernel_rfl, ?_, ?_⟩
  ·
    refine ⟨3, Try.underlying23, by kernel_rfl, by decide, ?_⟩
    exact Try.underlying3
  refine ⟨by first | rfl | trivial, by kernel_rfl, ?_, ?_⟩
  ·
    exact Try.underlying3
  refine ⟨by first | rfl | trivial, by kernel_rfl, ?_, ?_⟩
  ·
    exact Try.underlying3
  refine ⟨by first | rfl | trivial, by kernel_rfl, ?_, ?_⟩
  ·
    exact Try.underlying3
  refine ⟨by first | rfl | trivial, by kernel_rfl, ?_, ?_⟩
  ·
    exact Try.underlying3
  trivial
theorem grams_vr {w : Bool} (b : Bl) : VR P false n_bale_Grams [blA w b] [] (isR (pairT (totM b.mix))) := by
  refine vr_bale_Grams (by simp) (.inr rfl) fun _ _ => ?_
  have h := materialTotal_vr (w := w) b.mix
  unfold pairT at h ⊢
  unfold blA blC
  generalize totM b.mix = r at *
  simp (disch := ((try simp only [List.length_set, List.length_replicate, List.length_append, List.length_cons, List.length_nil]); omega)) only [aW, aX, aV, aB, aN, aL, aP, aH, aM, aBl, s_bale_Grams, v_bale_Grams]
  refine h.same (by simp (disch := first | omega | simp (disch := omega) only [aF, aL, aN, aM, aBl]) only [aW, aX, aV, aB, aN, aL, aP, aH, aM, aBl, aF, Int.natCast_add, Int.natCast_mul, Int.add_sub_cancel, List.length_nil, Int.cast_ofNat_Int, and_true, true_and]) (by simp (disch := first | omega | simp (disch := omega) only [aF, aL, aN, aM, aBl]) only [aW, aX, aV, aB, aN, aL, aP, aH, aM, aBl, aF, Int.natCast_add, Int.natCast_mul, Int.add_sub_cancel, List.length_nil, Int.cast_ofNat_Int, and_true, true_and]) (aret_of ?_)
  simp (disch := ((try simp only [List.length_set, List.length_replicate, List.length_append, List.length_cons, List.length_nil]); omega)) only [aW, aX, aV, aB, aN, aL, aP, aH, aM, aBl, r_bale_Grams]
  exact post0 (Fz.refl rfl) ⟨rfl, rfl⟩
theorem balePurity_vr {w : Bool} (b : Bl) : VR P false n_bale_Purity [blA w b] [] (isR (pairT (purM b.mix b.mt))) := by
  refine vr_bale_Purity (by simp) (.inr rfl) fun _ _ => ?_
  have h := materialPurity_vr (w := w) b.mix b.mt
  unfold pairT at h ⊢
  unfold blA blC
  generalize purM b.mix b.mt = r at *
  simp (disch := ((try simp only [List.length_set, List.length_replicate, List.length_append, List.length_cons, List.length_nil]); omega)) only [aW, aX, aV, aB, aN, aL, aP, aH, aM, aBl, s_bale_Purity, v_bale_Purity]
  refine h.same (by simp (disch := first | omega | simp (disch := omega) only [aF, aL, aN, aM, aBl]) only [aW, aX, aV, aB, aN, aL, aP, aH, aM, aBl, aF, Int.natCast_add, Int.natCast_mul, Int.add_sub_cancel, List.length_nil, Int.cast_ofNat_Int, and_true, true_and]) (by simp (disch := first | omega | simp (disch := omega) only [aF, aL, aN, aM, aBl]) only [aW, aX, aV, aB, aN, aL, aP, aH, aM, aBl, aF, Int.natCast_add, Int.natCast_mul, Int.add_sub_cancel, List.length_nil, Int.cast_ofNat_Int, and_true, true_and]) (aret_of ?_)
  simp (disch := ((try simp only [List.length_set, List.length_replicate, List.length_append, List.length_cons, List.length_nil]); omega)) only [aW, aX, aV, aB, aN, aL, aP, aH, aM, aBl, r_bale_Purity]
  exact post0 (Fz.refl rfl) ⟨rfl, rfl⟩
theorem same38_vr {w v : Bool} (a b : List Bl) (hl : a.length < 1000000000) (hm : ∀ x ∈ a, x.mix.length < 1000000000) : VR P false n_ref38_Same [.fs w (bls w a), .fs v (bls v b)] [] (isR (.v (.bool (decide (a = b))))) := by
  refine vr_ref38_Same (by simp) (.inr rfl) fun _ _ => ?_
  simp (disch := ((try simp only [List.length_set, List.length_replicate, List.length_append, List.length_cons, List.length_nil]); omega)) only [aW, aX, aV, aB, aN, aL, aP, aH, aM, aBl, s_ref38_Same, v_ref38_Same]
  refine ib_intro (fun h1 => ?_) (fun h1 => ?_)
  · simp (disch := ((try simp only [List.length_set, List.length_replicate, List.length_append, List.length_cons, List.length_nil]); omega)) only [aW, aX, aV, aB, aN, aL, aP, aH, aM, aBl, r_ref38_Same]
    refine post_v ⟨vfalse ?_, rfl⟩
    rintro rfl; omega
  have hlen : a.length = b.length := by omega
  simp (disch := ((try simp only [List.length_set, List.length_replicate, List.length_append, List.length_cons, List.length_nil]); omega)) only [aW, aX, aV, aB, aN, aL, aP, aH, aM, aBl]
  refine AWP.loopP g_ref38_Same_0 (fun k : Nat => k ≤ a.length ∧ ∀ i, i < k → a.getD i bl0 = b.getD i bl0) (fun k => [(2, .v (.bool false)), (3, .v (.int .i64 k))]) (fun _ => []) (fun k => a.length - k) 0 ⟨by omega, fun i hi => by omega⟩ (by refine Cut.of' (0) ?_ (by omega) ?_ ?_ <;> simp (disch := first | omega | simp (disch := omega) only [aF, aL, aN, aM, aBl]) only [aW, aX, aV, aB, aN, aL, aP, aH, aM, aBl, aF, Int.natCast_add, Int.natCast_mul, Int.add_sub_cancel, List.length_nil, Int.cast_ofNat_Int, and_true, true_and]) ?_
  rintro k ⟨hk, hg⟩
  by_cases hlt : k < a.length
  · have hv := same12_vr (w := w) (v := v) (a.getD k bl0).mix (b.getD k bl0).mix (hm _ (mem_get bl0 hlt))
    by_cases h3 : (a.getD k bl0).id = (b.getD k bl0).id ∧ (a.getD k bl0).mt = (b.getD k bl0).mt ∧ (a.getD k bl0).tm = (b.getD k bl0).tm
    case neg =>
      have h4 : ((a.getD k bl0).id ≠ (b.getD k bl0).id ∨ (a.getD k bl0).mt ≠ (b.getD k bl0).mt) ∨ (a.getD k bl0).tm ≠ (b.getD k bl0).tm := by omega
      simp (disch := ((try simp only [List.length_set, List.length_replicate, List.length_append, List.length_cons, List.length_nil]); omega)) only [aW, aX, aV, aB, aN, aL, aP, aH, aM, aBl, decide_eq_true h4, r_ref38_Same]
      refine post_v ⟨vfalse ?_, rfl⟩
      rintro rfl; exact h3 ⟨rfl, rfl, rfl⟩
    have h4 : ¬ (((a.getD k bl0).id ≠ (b.getD k bl0).id ∨ (a.getD k bl0).mt ≠ (b.getD k bl0).mt) ∨ (a.getD k bl0).tm ≠ (b.getD k bl0).tm) := by omega
    simp (disch := ((try simp only [List.length_set, List.length_replicate, List.length_append, List.length_cons, List.length_nil]); omega)) only [aW, aX, aV, aB, aN, aL, aP, aH, aM, aBl, decide_eq_false h4]
    refine hv.same (by simp (disch := first | omega | simp (disch := omega) only [aF, aL, aN, aM, aBl]) only [aW, aX, aV, aB, aN, aL, aP, aH, aM, aBl, aF, Int.natCast_add, Int.natCast_mul, Int.add_sub_cancel, List.length_nil, Int.cast_ofNat_Int, and_true, true_and]) rfl (aret_of ?_)
    by_cases h5 : (a.getD k bl0).mix = (b.getD k bl0).mix
    case neg =>
      rw [decide_eq_false h5]
      simp (disch := ((try simp only [List.length_set, List.length_replicate, List.length_append, List.length_cons, List.length_nil]); omega)) only [aW, aX, aV, aB, aN, aL, aP, aH, aM, aBl, r_ref38_Same]
      refine post_v ⟨vfalse ?_, rfl⟩
      rintro rfl; exact h5 rfl
    rw [decide_eq_true h5]
    simp (disch := ((try simp only [List.length_set, List.length_replicate, List.length_append, List.length_cons, List.length_nil]); omega)) only [aW, aX, aV, aB, aN, aL, aP, aH, aM, aBl]
    refine ⟨k + 1, ⟨by omega, fun i hi => ?_⟩, by omega, (by refine Cut.of' (0) ?_ (by omega) ?_ ?_ <;> simp (disch := first | omega | simp (disch := omega) only [aF, aL, aN, aM, aBl]) only [aW, aX, aV, aB, aN, aL, aP, aH, aM, aBl, aF, Int.natCast_add, Int.natCast_mul, Int.add_sub_cancel, List.length_nil, Int.cast_ofNat_Int, and_true, true_and])⟩
    rcases Nat.lt_succ_iff_lt_or_eq.1 hi with h | rfl
    · exact hg i h
    · generalize a.getD i bl0 = x at *
      generalize b.getD i bl0 = y at *
      cases x; cases y; simp only at h3 h5
      obtain ⟨rfl, rfl, rfl⟩ := h3
      subst h5; rfl
  · simp (disch := ((try simp only [List.length_set, List.length_replicate, List.length_append, List.length_cons, List.length_nil]); omega)) only [aW, aX, aV, aB, aN, aL, aP, aH, aM, aBl, r_ref38_Same]
    exact post_v ⟨vtrue (eq_of_getB bl0 hlen fun i hi => hg i (by omega)), rfl⟩

theorem awake38_vr : VR P false n_law38_awake [] [] (isR (.v (.bool true))) := by
  refine vr_law38_awake (by simp) (.inr rfl) fun _ _ => ?_
  have a1 : pressV [7, 5] 4 1 10 99 = ([⟨10, 1, 99, [2, 2]⟩, ⟨11, 1, 99, [3, 1]⟩, ⟨12, 1, 99, [2, 2]⟩], [0, 0], 0) := by decide +kernel
  have a2 : totB [⟨10, 1, 99, [2, 2]⟩, ⟨11, 1, 99, [3, 1]⟩, ⟨12, 1, 99, [2, 2]⟩] 2 = ([7, 5], 0) := by decide +kernel
  have a3 : blsE [⟨10, 1, 99, [2, 2]⟩, ⟨11, 1, 99, [3, 1]⟩, ⟨12, 1, 99, [2, 2]⟩] 2 = 0 := by decide +kernel
  have a4 : totM [2, 2] = (4, 0) := by decide +kernel
  have a5 : purM [3, 1] 1 = (250, 0) := by decide +kernel
  have b1 := balePress_vr (w := false) [7, 5] 4 1 10 99
  rw [a1] at b1
  unfold pressT at b1
  have s1 := same38_vr (w := true) (v := false) [⟨10, 1, 99, [2, 2]⟩, ⟨11, 1, 99, [3, 1]⟩, ⟨12, 1, 99, [2, 2]⟩] [⟨10, 1, 99, [2, 2]⟩, ⟨11, 1, 99, [3, 1]⟩, ⟨12, 1, 99, [2, 2]⟩] (by decide) (by decide)
  have s2 := same12_vr (w := true) (v := false) [0, 0] [0, 0] (by decide)
  have s3 := same12_vr (w := true) (v := false) [7, 5] [7, 5] (by decide)
  rw [decide_eq_true rfl] at s1 s2 s3
  have b2 := grams_vr (w := true) ⟨10, 1, 99, [2, 2]⟩
  have b3 := balePurity_vr (w := true) ⟨11, 1, 99, [3, 1]⟩
  have b4 := baleTotal_vr (w := true) [⟨10, 1, 99, [2, 2]⟩, ⟨11, 1, 99, [3, 1]⟩, ⟨12, 1, 99, [2, 2]⟩] 2
  have b5 := baleCheck_vr (w := true) [⟨10, 1, 99, [2, 2]⟩, ⟨11, 1, 99, [3, 1]⟩, ⟨12, 1, 99, [2, 2]⟩] 2
  simp only at b2 b3
  rw [a4] at b2
  rw [a5] at b3
  rw [a2] at b4
  rw [a3] at b5
  unfold pairT at b2 b3
  unfold listT at b4
  unfold blA blC at b2 b3
  have l3 : ([⟨10, 1, 99, [2, 2]⟩, ⟨11, 1, 99, [3, 1]⟩, ⟨12, 1, 99, [2, 2]⟩] : List Bl).length = 3 := rfl
  have g0 : ([⟨10, 1, 99, [2, 2]⟩, ⟨11, 1, 99, [3, 1]⟩, ⟨12, 1, 99, [2, 2]⟩] : List Bl).getD 0 bl0 = ⟨10, 1, 99, [2, 2]⟩ := rfl
  have g1 : ([⟨10, 1, 99, [2, 2]⟩, ⟨11, 1, 99, [3, 1]⟩, ⟨12, 1, 99, [2, 2]⟩] : List Bl).getD 1 bl0 = ⟨11, 1, 99, [3, 1]⟩ := rfl
  have s1' : ∀ L0, L0 = ([⟨10, 1, 99, [2, 2]⟩, ⟨11, 1, 99, [3, 1]⟩, ⟨12, 1, 99, [2, 2]⟩] : List Bl) → VR P false n_ref38_Same [.fs true (bls true L0), .fs false (bls false ([⟨10, 1, 99, [2, 2]⟩, ⟨11, 1, 99, [3, 1]⟩, ⟨12, 1, 99, [2, 2]⟩] : List Bl))] [] (isR (.v (.bool true))) := fun L0 h => by rw [h]; exact s1
  clear s1
  obtain ⟨L, hL⟩ : ∃ L, L = ([⟨10, 1, 99, [2, 2]⟩, ⟨11, 1, 99, [3, 1]⟩, ⟨12, 1, 99, [2, 2]⟩] : List Bl) := ⟨_, rfl⟩
  rw [← hL] at a1 a2 a3 b1 b4 b5 l3 g0 g1
  have s4 := s1' L hL
  simp (disch := ((try simp only [List.length_set, List.length_replicate, List.length_append, List.length_cons, List.length_nil]); omega)) only [aW, aX, aV, aB, aN, aL, aP, aH, aM, aBl, s_law38_awake, v_law38_awake]
  refine b1.use (ld_all (by simp [frzL_nil, frzL_cons, fzp_any, fzp_nil, fzp_v, fzp_agg, fzp_tup, fzp_fn, fzp_fs, fzp_fp, fzp_sl, fzp_vs, fzp_lp, ldp_any, ldp_nil, ldp_v, ldp_agg, ldp_fn, ldp_fs, ldp_fp, ldp_sl, ldp_vs, ldp_lp, blkAt, flatA, A.cells, A.one, Lft.one, retA, A.bdL, A.bd, ints])) (by simp (disch := first | omega | simp (disch := omega) only [aF, aL, aN, aM, aBl]) only [aW, aX, aV, aB, aN, aL, aP, aH, aM, aBl, aF, Int.natCast_add, Int.natCast_mul, Int.add_sub_cancel, List.length_nil, Int.cast_ofNat_Int, and_true, true_and]) (aret_of ?_)
  simp (disch := ((try simp only [List.length_set, List.length_replicate, List.length_append, List.length_cons, List.length_nil]); omega)) only [aW, aX, aV, aB, aN, aL, aP, aH, aM, aBl, Int.toNat_zero, Int.toNat_one, g0, g1]
  refine b2.same (by simp (disch := first | omega | simp (disch := omega) only [aF, aL, aN, aM, aBl]) only [aW, aX, aV, aB, aN, aL, aP, aH, aM, aBl, aF, Int.natCast_add, Int.natCast_mul, Int.add_sub_cancel, List.length_nil, Int.cast_ofNat_Int, and_true, true_and]) rfl (aret_of ?_)
  simp (disch := ((try simp only [List.length_set, List.length_replicate, List.length_append, List.length_cons, List.length_nil]); omega)) only [aW, aX, aV, aB, aN, aL, aP, aH, aM, aBl, Int.toNat_zero, Int.toNat_one, g0, g1]
  refine b3.same (by simp (disch := first | omega | simp (disch := omega) only [aF, aL, aN, aM, aBl]) only [aW, aX, aV, aB, aN, aL, aP, aH, aM, aBl, aF, Int.natCast_add, Int.natCast_mul, Int.add_sub_cancel, List.length_nil, Int.cast_ofNat_Int, and_true, true_and]) rfl (aret_of ?_)
  simp (disch := ((try simp only [List.length_set, List.length_replicate, List.length_append, List.length_cons, List.length_nil]); omega)) only [aW, aX, aV, aB, aN, aL, aP, aH, aM, aBl, Int.toNat_zero, Int.toNat_one, g0, g1]
  refine b4.same (by simp (disch := first | omega | simp (disch := omega) only [aF, aL, aN, aM, aBl]) only [aW, aX, aV, aB, aN, aL, aP, aH, aM, aBl, aF, Int.natCast_add, Int.natCast_mul, Int.add_sub_cancel, List.length_nil, Int.cast_ofNat_Int, and_true, true_and]) (by simp (disch := first | omega | simp (disch := omega) only [aF, aL, aN, aM, aBl]) only [aW, aX, aV, aB, aN, aL, aP, aH, aM, aBl, aF, Int.natCast_add, Int.natCast_mul, Int.add_sub_cancel, List.length_nil, Int.cast_ofNat_Int, and_true, true_and]) (aret_of ?_)
  simp (disch := ((try simp only [List.length_set, List.length_replicate, List.length_append, List.length_cons, List.length_nil]); omega)) only [aW, aX, aV, aB, aN, aL, aP, aH, aM, aBl]
  refine s4.use ⟨Ld.refl (by simp [A.bd, bl_bd]), (ld_all (l := [_]) (r := [_]) (by simp [frzL_nil, frzL_cons, fzp_any, fzp_nil, fzp_v, fzp_agg, fzp_tup, fzp_fn, fzp_fs, fzp_fp, fzp_sl, fzp_vs, fzp_lp, ldp_any, ldp_nil, ldp_v, ldp_agg, ldp_fn, ldp_fs, ldp_fp, ldp_sl, ldp_vs, ldp_lp, blkAt, flatA, A.cells, A.one, Lft.one, retA, A.bdL, A.bd, ints, bls, blA, blC, flc])).1, trivial⟩ rfl (aret_of ?_)
  simp (disch := ((try simp only [List.length_set, List.length_replicate, List.length_append, List.length_cons, List.length_nil]); omega)) only [aW, aX, aV, aB, aN, aL, aP, aH, aM, aBl]
  refine s2.use (ld_all (by simp [frzL_nil, frzL_cons, fzp_any, fzp_nil, fzp_v, fzp_agg, fzp_tup, fzp_fn, fzp_fs, fzp_fp, fzp_sl, fzp_vs, fzp_lp, ldp_any, ldp_nil, ldp_v, ldp_agg, ldp_fn, ldp_fs, ldp_fp, ldp_sl, ldp_vs, ldp_lp, blkAt, flatA, A.cells, A.one, Lft.one, retA, A.bdL, A.bd, ints])) rfl (aret_of ?_)
  simp (disch := ((try simp only [List.length_set, List.length_replicate, List.length_append, List.length_cons, List.length_nil]); omega)) only [aW, aX, aV, aB, aN, aL, aP, aH, aM, aBl]
  refine s3.use (ld_all (by simp [frzL_nil, frzL_cons, fzp_any, fzp_nil, fzp_v, fzp_agg, fzp_tup, fzp_fn, fzp_fs, fzp_fp, fzp_sl, fzp_vs, fzp_lp, ldp_any, ldp_nil, ldp_v, ldp_agg, ldp_fn, ldp_fs, ldp_fp, ldp_sl, ldp_vs, ldp_lp, blkAt, flatA, A.cells, A.one, Lft.one, retA, A.bdL, A.bd, ints])) rfl (aret_of ?_)
  simp (disch := ((try simp only [List.length_set, List.length_replicate, List.length_append, List.length_cons, List.length_nil]); omega)) only [aW, aX, aV, aB, aN, aL, aP, aH, aM, aBl]
  refine b5.same (by simp (disch := first | omega | simp (disch := omega) only [aF, aL, aN, aM, aBl]) only [aW, aX, aV, aB, aN, aL, aP, aH, aM, aBl, aF, Int.natCast_add, Int.natCast_mul, Int.add_sub_cancel, List.length_nil, Int.cast_ofNat_Int, and_true, true_and]) rfl (aret_of ?_)
  simp (disch := ((try simp only [List.length_set, List.length_replicate, List.length_append, List.length_cons, List.length_nil]); omega)) only [aW, aX, aV, aB, aN, aL, aP, aH, aM, aBl, r_law38_awake]
  exact post_v ⟨rfl, rfl⟩
end Go.Proofs.Ytbgmhbjfcpddkaa
namespace Go.Proofs.Ytbgmhbjfcpddkaa
open Go Go.Lft
set_option linter.unusedSimpArgs false
set_option linter.unusedVariables false
attribute [local congr] ob_congr bw_congr ib_congr ck_congr iwA_congr itA_congr aw_congr awp_congr sqA_congr bkA_congr vr_congr gd_congr

structure Ask where
  xs : List Int
  sz : Int
  kd : Int
  fi : Int
  tm : Int
def askA (w : Bool) (x : Ask) : A := .agg [.fs w (ints x.xs), .v (.int .i64 x.sz), .v (.int .i64 x.kd), .v (.int .i64 x.fi), .v (.int .i64 x.tm)]
abbrev pressA (x : Ask) : List Bl × List Int × Int := pressV x.xs x.sz x.kd x.fi x.tm
theorem lawPress_vr {w : Bool} (x : Ask) : VR P false n_law38_press [askA w x] [] (isR (pressT (pressA x))) := by
  refine vr_law38_press (by simp) (.inr rfl) fun _ _ => ?_
  have h := balePress_vr (w := w) x.xs x.sz x.kd x.fi x.tm
  unfold pressT at h ⊢
  unfold askA pressA
  generalize pressV x.xs x.sz x.kd x.fi x.tm = r at *
  simp (disch := ((try simp only [List.length_set, List.length_replicate, List.length_append, List.length_cons, List.length_nil]); omega)) only [aW, aX, aV, aB, aN, aL, aP, aH, aM, aBl, s_law38_press, v_law38_press]
  refine h.same (by simp (disch := first | omega | simp (disch := omega) only [aF, aL, aN, aM, aBl]) only [aW, aX, aV, aB, aN, aL, aP, aH, aM, aBl, aF, Int.natCast_add, Int.natCast_mul, Int.add_sub_cancel, List.length_nil, Int.cast_ofNat_Int, and_true, true_and]) (by simp (disch := first | omega | simp (disch := omega) only [aF, aL, aN, aM, aBl]) only [aW, aX, aV, aB, aN, aL, aP, aH, aM, aBl, aF, Int.natCast_add, Int.natCast_mul, Int.add_sub_cancel, List.length_nil, Int.cast_ofNat_Int, and_true, true_and]) (aret_of ?_)
  simp (disch := ((try simp only [List.length_set, List.length_replicate, List.length_append, List.length_cons, List.length_nil]); omega)) only [aW, aX, aV, aB, aN, aL, aP, aH, aM, aBl, r_law38_press]
  exact post0 (Fz.refl (by simp (disch := first | omega | simp (disch := omega) only [aF, aL, aN, aM, aBl]) only [aW, aX, aV, aB, aN, aL, aP, aH, aM, aBl, aF, Int.natCast_add, Int.natCast_mul, Int.add_sub_cancel, List.length_nil, Int.cast_ofNat_Int, and_true, true_and])) ⟨rfl, rfl⟩

theorem ask_of {v : A} {es : List A} (h : tyAsk.Sh true es) : ∃ x : Ask, tyAsk.pk es = askA true x ∧ x.xs.length ≤ maxLen ∧ fit x.sz ∧ fit x.kd ∧ fit x.fi ∧ fit x.tm := by
  unfold tyAsk at h ⊢
  simp only [Ty.Sh, Ty.ShL] at h
  obtain ⟨a, _, rfl, h0, _, _, rfl, ⟨y, rfl, hy⟩, _, _, rfl, ⟨z, rfl, hz⟩, _, _, rfl, ⟨u, rfl, hu⟩, _, _, rfl, ⟨q, rfl, hq⟩, rfl⟩ := h
  obtain ⟨l, h1, h2, h3⟩ := ints_of (w := true) (ce := a) (by simp only [Ty.Sh]; exact h0)
  obtain ⟨L, rfl, _⟩ := h0
  refine ⟨⟨l, y, z, u, q⟩, ?_, h2, wf_i64 hy, wf_i64 hz, wf_i64 hu, wf_i64 hq⟩
  have h4 : A.fs true (L.map (Ty.int .i64).pk) = .fs true (ints l) := h1
  show A.agg _ = A.agg _
  simp [h4]
end Go.Proofs.Ytbgmhbjfcpddkaa
namespace Go.Proofs.Ytbgmhbjfcpddkaa
open Go Go.Lft
set_option linter.unusedSimpArgs false
set_option linter.unusedVariables false
attribute [local congr] ob_congr bw_congr ib_congr ck_congr iwA_congr itA_congr aw_congr awp_congr sqA_congr bkA_congr vr_congr gd_congr

section
variable {xs : List Int} {size kind first tm : Int} (ok : PressOk xs size kind first tm)
include ok
end

theorem near_vr (n a b c : Int) (hn : 0 ≤ n ∧ n ≤ 1073741824) (ha : 0 ≤ a ∧ a ≤ 1073741824) (hb : 0 ≤ b ∧ b ≤ 1073741824) (hc : 0 < c ∧ c ≤ 17179869184 ∧ a ≤ c) (h : n = a * b / c ∨ (n = a * b / c + 1 ∧ 0 < a * b % c)) : VR P false n_law38_near [.v (.int .i64 n), .v (.int .i64 a), .v (.int .i64 b), .v (.int .i64 c)] [] (isR (.v (.bool true))) := by
  refine vr_law38_near (by simp) (.inr rfl) fun _ _ => ?_
  have h1 : 0 ≤ a * b := Int.mul_nonneg ha.1 hb.1
  have h2 : a * b ≤ 1073741824 * 1073741824 := Int.mul_le_mul ha.2 hb.2 hb.1 (by omega)
  have h3 := Int.mul_ediv_add_emod (a * b) c
  have h4 := Int.emod_nonneg (a * b) (show c ≠ 0 by omega)
  have h5 := Int.emod_lt_of_pos (a * b) hc.1
  have h6 : 0 ≤ a * b / c := Int.ediv_nonneg h1 (by omega)
  generalize a * b / c = q at *
  generalize a * b % c = r at *
  generalize hm : a * b = m at *
  have e1 : (n - 1) * c = n * c - c := by rw [Int.sub_mul, Int.one_mul]
  have e2 : (n + 1) * c = n * c + c := by rw [Int.add_mul, Int.one_mul]
  have e3 : c * q = q * c := Int.mul_comm _ _
  have e4 : n * c ≤ 1073741824 * 17179869184 := Int.mul_le_mul hn.2 hc.2.1 (by omega) (by omega)
  have e5 : 0 ≤ n * c := Int.mul_nonneg hn.1 (by omega)
  have e6 : (n - 1) * c < m ∧ m < (n + 1) * c := by
    rcases h with h | ⟨h, hr⟩
    · subst h; omega
    · have e7 : n * c = q * c + c := by rw [h, Int.add_mul, Int.one_mul]
      omega
  have e8 : (n - 1) * c = n * c - c ∧ (n + 1) * c = n * c + c := ⟨e1, e2⟩
  simp (disch := ((try simp only [List.length_set, List.length_replicate, List.length_append, List.length_cons, List.length_nil]); omega)) only [aW, aX, aV, aB, aN, aL, aP, aH, aM, aBl, s_law38_near, v_law38_near, hm, r_law38_near]
  exact post_v ⟨by rw [decide_eq_true e6.2], rfl⟩

theorem baleProportions_vr (x : Ask) : VR P false n_law38_BaleProportions [askA true x] [] (isR (.v (.bool true))) := by
  refine vr_law38_BaleProportions (by simp) (.inr rfl) fun _ _ => ?_
  have h1 := lawPress_vr (w := true) x
  unfold pressT pressA at h1
  unfold askA at h1 ⊢
  simp (disch := ((try simp only [List.length_set, List.length_replicate, List.length_append, List.length_cons, List.length_nil]); omega)) only [aW, aX, aV, aB, aN, aL, aP, aH, aM, aBl, s_law38_BaleProportions, v_law38_BaleProportions]
  refine ib_intro (fun h5 => ?_) (fun h5 => ?_)
  · simp (disch := ((try simp only [List.length_set, List.length_replicate, List.length_append, List.length_cons, List.length_nil]); omega)) only [aW, aX, aV, aB, aN, aL, aP, aH, aM, aBl]
    refine awake38_vr.same (by simp (disch := first | omega | simp (disch := omega) only [aF, aL, aN, aM, aBl]) only [aW, aX, aV, aB, aN, aL, aP, aH, aM, aBl, aF, Int.natCast_add, Int.natCast_mul, Int.add_sub_cancel, List.length_nil, Int.cast_ofNat_Int, and_true, true_and]) rfl (aret_of ?_)
    simp (disch := ((try simp only [List.length_set, List.length_replicate, List.length_append, List.length_cons, List.length_nil]); omega)) only [aW, aX, aV, aB, aN, aL, aP, aH, aM, aBl, r_law38_BaleProportions]
    exact post_v ⟨rfl, rfl⟩
  simp (disch := ((try simp only [List.length_set, List.length_replicate, List.length_append, List.length_cons, List.length_nil]); omega)) only [aW, aX, aV, aB, aN, aL, aP, aH, aM, aBl]
  refine h1.same (by simp (disch := first | omega | simp (disch := omega) only [aF, aL, aN, aM, aBl]) only [aW, aX, aV, aB, aN, aL, aP, aH, aM, aBl, aF, Int.natCast_add, Int.natCast_mul, Int.add_sub_cancel, List.length_nil, Int.cast_ofNat_Int, and_true, true_and]) (by simp (disch := first | omega | simp (disch := omega) only [aF, aL, aN, aM, aBl]) only [aW, aX, aV, aB, aN, aL, aP, aH, aM, aBl, aF, Int.natCast_add, Int.natCast_mul, Int.add_sub_cancel, List.length_nil, Int.cast_ofNat_Int, and_true, true_and]) (aret_of ?_)
  by_cases hE : pressE x.xs x.sz x.kd x.fi x.tm = 0
  case neg =>
    have e : pressV x.xs x.sz x.kd x.fi x.tm = ([], [], pressE x.xs x.sz x.kd x.fi x.tm) := by unfold pressV; rw [if_pos hE]
    rw [e]
    simp (disch := ((try simp only [List.length_set, List.length_replicate, List.length_append, List.length_cons, List.length_nil]); omega)) only [aW, aX, aV, aB, aN, aL, aP, aH, aM, aBl]
    refine awake38_vr.same (by simp (disch := first | omega | simp (disch := omega) only [aF, aL, aN, aM, aBl]) only [aW, aX, aV, aB, aN, aL, aP, aH, aM, aBl, aF, Int.natCast_add, Int.natCast_mul, Int.add_sub_cancel, List.length_nil, Int.cast_ofNat_Int, and_true, true_and]) rfl (aret_of ?_)
    simp (disch := ((try simp only [List.length_set, List.length_replicate, List.length_append, List.length_cons, List.length_nil]); omega)) only [aW, aX, aV, aB, aN, aL, aP, aH, aM, aBl, r_law38_BaleProportions]
    exact post_v ⟨rfl, rfl⟩
  have ok := pressE_ok hE
  rw [press_v hE]
  have hbl := balesP_len x.xs x.sz x.kd x.fi x.tm (pressN x.xs x.sz)
  have hn2 := ok.n2
  have hlen := (mixE_ok.1 ok.mix).1
  have hs1 := ok.s1
  have hs2 := ok.s2
  simp (disch := ((try simp only [List.length_set, List.length_replicate, List.length_append, List.length_cons, List.length_nil]); omega)) only [aW, aX, aV, aB, aN, aL, aP, aH, aM, aBl]
  refine AWP.cut (Cut.drop 15) (AWP.cut (Cut.drop 19) ?_)
  refine AWP.loopP g_law38_BaleProportions_0 (fun k : Nat => k ≤ pressN x.xs x.sz) (fun k => [(1, .v (.bool false)), (7, .v (.int .i64 k))]) (fun k => [(1, ⟨1, ints (leftP x.xs x.sz k)⟩)]) (fun k => pressN x.xs x.sz - k) 0 (by omega) ?_ ?_
  · have z1 : leftP x.xs x.sz 0 = x.xs := rfl
    rw [z1]
    try simp (disch := ((try simp only [List.length_set, List.length_replicate, List.length_append, List.length_cons, List.length_nil]); omega)) only [aW, aX, aV, aB, aN, aL, aP, aH, aM, aBl]
    exact Cut.of' 2 rfl (by omega) (by simp (disch := first | omega | simp (disch := omega) only [aF, aL, aN, aM, aBl]) only [aW, aX, aV, aB, aN, aL, aP, aH, aM, aBl, aF, Int.natCast_add, Int.natCast_mul, Int.add_sub_cancel, List.length_nil, Int.cast_ofNat_Int, and_true, true_and]) (by simp (disch := first | omega | simp (disch := omega) only [aF, aL, aN, aM, aBl]) only [aW, aX, aV, aB, aN, aL, aP, aH, aM, aBl, aF, Int.natCast_add, Int.natCast_mul, Int.add_sub_cancel, List.length_nil, Int.cast_ofNat_Int, and_true, true_and])
  rintro k hk
  have hL := ok.left hk
  have hLl := hL.len
  by_cases hlt : k < pressN x.xs x.sz
  · have hg := balesP_get x.xs x.sz x.kd x.fi x.tm _ k hlt
    obtain ⟨p1, hp, p3⟩ := ok.parts hlt
    have hpl := hp.len
    have h3 := refTotal_vr (w := false) (leftP x.xs x.sz k)
    rw [totM_ok hL.mix] at h3
    unfold pairT at h3
    have c1 : (baleP x.xs x.sz x.kd x.fi x.tm k).mix = partsR x.sz (leftP x.xs x.sz k) := rfl
    have hsl : leftP x.xs x.sz (k + 1) = subM (leftP x.xs x.sz k) (partsR x.sz (leftP x.xs x.sz k)) := rfl
    have htw := hp.two
    have hsm := sum_mix hL.mix
    have hmx := mixE_get hL.mix
    have hle : x.sz ≤ (leftP x.xs x.sz k).sum := by
      have e1 := hL.sum
      have e2 : ((k : Int) + 1) * x.sz ≤ pressN x.xs x.sz * x.sz := Int.mul_le_mul_of_nonneg_right (by omega) (by omega)
      have e3 : ((k : Int) + 1) * x.sz = k * x.sz + x.sz := by rw [Int.add_mul, Int.one_mul]
      have := ok.n4
      omega
    generalize partsR x.sz (leftP x.xs x.sz k) = p at *
    generalize leftP x.xs x.sz k = W at *
    generalize balesP x.xs x.sz x.kd x.fi x.tm (pressN x.xs x.sz) = B at *
    simp (disch := ((try simp only [List.length_set, List.length_replicate, List.length_append, List.length_cons, List.length_nil]); omega)) only [aW, aX, aV, aB, aN, aL, aP, aH, aM, aBl, hg, c1]
    refine h3.use ⟨ld_slI _ 1 1 _ W hLl.symm rfl, trivial⟩ (by simp (disch := first | omega | simp (disch := omega) only [aF, aL, aN, aM, aBl]) only [aW, aX, aV, aB, aN, aL, aP, aH, aM, aBl, aF, Int.natCast_add, Int.natCast_mul, Int.add_sub_cancel, List.length_nil, Int.cast_ofNat_Int, and_true, true_and]) (aret_of ?_)
    simp (disch := ((try simp only [List.length_set, List.length_replicate, List.length_append, List.length_cons, List.length_nil]); omega)) only [aW, aX, aV, aB, aN, aL, aP, aH, aM, aBl, hg, c1]
    refine AWP.loopP g_law38_BaleProportions_1 (fun j : Nat => j ≤ W.length) (fun j => [(1, .v (.bool false)), (10, .v (.int .i64 j))]) (fun j => [(1, ⟨1, ints (frontS W p j)⟩)]) (fun j => W.length - j) 0 (by omega) ?_ ?_
    · rw [frontS_zero]
      try simp (disch := ((try simp only [List.length_set, List.length_replicate, List.length_append, List.length_cons, List.length_nil]); omega)) only [aW, aX, aV, aB, aN, aL, aP, aH, aM, aBl]
      exact Cut.of' 2 rfl (by omega) (by simp (disch := first | omega | simp (disch := omega) only [aF, aL, aN, aM, aBl]) only [aW, aX, aV, aB, aN, aL, aP, aH, aM, aBl, aF, Int.natCast_add, Int.natCast_mul, Int.add_sub_cancel, List.length_nil, Int.cast_ofNat_Int, and_true, true_and]) (by simp (disch := first | omega | simp (disch := omega) only [aF, aL, aN, aM, aBl]) only [aW, aX, aV, aB, aN, aL, aP, aH, aM, aBl, aF, Int.natCast_add, Int.natCast_mul, Int.add_sub_cancel, List.length_nil, Int.cast_ofNat_Int, and_true, true_and])
    rintro j hj
    have fl := frontS_len W p j hj
    by_cases hjl : j < W.length
    · have q1 := p3 j (by omega)
      have q2 := hmx j hjl
      have q3 := frontS_get W p j hjl
      have q4 := frontS_set W p j hjl
      have hnr := near_vr (p.getD j 0) x.sz (W.getD j 0) W.sum (by omega) (by omega) q2 (by omega) (htw j hjl)
      simp (disch := ((try simp only [List.length_set, List.length_replicate, List.length_append, List.length_cons, List.length_nil]); omega)) only [aW, aX, aV, aB, aN, aL, aP, aH, aM, aBl, q3, q4, hg, c1]
      refine hnr.same (by simp (disch := first | omega | simp (disch := omega) only [aF, aL, aN, aM, aBl]) only [aW, aX, aV, aB, aN, aL, aP, aH, aM, aBl, aF, Int.natCast_add, Int.natCast_mul, Int.add_sub_cancel, List.length_nil, Int.cast_ofNat_Int, and_true, true_and]) rfl (aret_of ?_)
      simp (disch := ((try simp only [List.length_set, List.length_replicate, List.length_append, List.length_cons, List.length_nil]); omega)) only [aW, aX, aV, aB, aN, aL, aP, aH, aM, aBl, q3, q4, hg, c1]
      refine ⟨j + 1, by omega, by omega, ?_⟩
      exact Cut.of' 2 rfl (by omega) (by simp (disch := first | omega | simp (disch := omega) only [aF, aL, aN, aM, aBl]) only [aW, aX, aV, aB, aN, aL, aP, aH, aM, aBl, aF, Int.natCast_add, Int.natCast_mul, Int.add_sub_cancel, List.length_nil, Int.cast_ofNat_Int, and_true, true_and]) (by simp (disch := first | omega | simp (disch := omega) only [aF, aL, aN, aM, aBl]) only [aW, aX, aV, aB, aN, aL, aP, aH, aM, aBl, aF, Int.natCast_add, Int.natCast_mul, Int.add_sub_cancel, List.length_nil, Int.cast_ofNat_Int, and_true, true_and])
    have hje : j = W.length := by omega
    subst hje
    rw [frontS_all, ← hsl]
    simp (disch := ((try simp only [List.length_set, List.length_replicate, List.length_append, List.length_cons, List.length_nil]); omega)) only [aW, aX, aV, aB, aN, aL, aP, aH, aM, aBl]
    refine ⟨k + 1, by omega, by omega, ?_⟩
    exact Cut.of' 2 rfl (by omega) (by simp (disch := first | omega | simp (disch := omega) only [aF, aL, aN, aM, aBl]) only [aW, aX, aV, aB, aN, aL, aP, aH, aM, aBl, aF, Int.natCast_add, Int.natCast_mul, Int.add_sub_cancel, List.length_nil, Int.cast_ofNat_Int, and_true, true_and]) (by simp (disch := first | omega | simp (disch := omega) only [aF, aL, aN, aM, aBl]) only [aW, aX, aV, aB, aN, aL, aP, aH, aM, aBl, aF, Int.natCast_add, Int.natCast_mul, Int.add_sub_cancel, List.length_nil, Int.cast_ofNat_Int, and_true, true_and])
  have hke : k = pressN x.xs x.sz := by omega
  subst hke
  simp (disch := ((try simp only [List.length_set, List.length_replicate, List.length_append, List.length_cons, List.length_nil]); omega)) only [aW, aX, aV, aB, aN, aL, aP, aH, aM, aBl]
  refine awake38_vr.same (by simp (disch := first | omega | simp (disch := omega) only [aF, aL, aN, aM, aBl]) only [aW, aX, aV, aB, aN, aL, aP, aH, aM, aBl, aF, Int.natCast_add, Int.natCast_mul, Int.add_sub_cancel, List.length_nil, Int.cast_ofNat_Int, and_true, true_and]) rfl (aret_of ?_)
  simp (disch := ((try simp only [List.length_set, List.length_replicate, List.length_append, List.length_cons, List.length_nil]); omega)) only [aW, aX, aV, aB, aN, aL, aP, aH, aM, aBl, r_law38_BaleProportions]
  exact post_v ⟨rfl, rfl⟩
end Go.Proofs.Ytbgmhbjfcpddkaa
