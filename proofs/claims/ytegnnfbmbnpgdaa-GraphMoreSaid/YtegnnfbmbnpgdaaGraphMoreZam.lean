/- Lemmas and walks that the proof of GraphMore uses. No statement is claimed here. -/
import Derived.Test.YtegnnfbmbnpgdaaGraphMoreZal
import Derived.WideShapes
import Derived.ChangeShapes
namespace Go.Lft
open Go Go.WideShapes
set_option linter.unusedVariables false
set_option linter.unusedSimpArgs false

theorem arg_open {Hh : Type} {enc : TypeId × Value → Hh} {P : Program} {w : World} {base b0 : Nat} {spare : Nat → Bool} {held : Bool} {r : Reach} (u : Bool) (ty : Ty) {t : TypeId} {v : Value} {d : DataW Hh} {ps : List MemPlace}
    (hi : ty.Is P t) (hok : Value.okWide P w r b0 t v) (h : DataW.Trod enc P w base spare held t v d ps) : ∃ es, ty.Sh u es ∧ Rel (fun _ => hp w) (fun _ _ => none) (ty.pk es) v := by
  obtain ⟨fuel, hf⟩ := h
  obtain ⟨es, h1, h2⟩ := Ty.open u ty hi hf
  refine ⟨es, h2, ?_⟩
  have single : v.cells.toList = [v] → (∃ a, es = [a]) → (∀ a, es = [a] → ty.pk es = a) → Rel (fun _ => hp w) (fun _ _ => none) (ty.pk es) v := fun hv ⟨a, ha⟩ hp => by
    rw [hp a ha]
    rw [hv, ha] at h1
    exact h1.2 0 a v rfl rfl
  cases ty with
  | int k =>
    simp only [Ty.Is] at hi
    obtain ⟨n, rfl⟩ := okWide_int hi hok
    simp only [Ty.Sh] at h2
    obtain ⟨m, rfl, _⟩ := h2
    exact single rfl ⟨_, rfl⟩ fun a ha => by cases ha; rfl
  | bool =>
    simp only [Ty.Is] at hi
    obtain ⟨n, rfl⟩ := okWide_bool hi hok
    simp only [Ty.Sh] at h2
    obtain ⟨m, rfl⟩ := h2
    exact single rfl ⟨_, rfl⟩ fun a ha => by cases ha; rfl
  | str =>
    simp only [Ty.Is] at hi
    obtain ⟨n, rfl⟩ := okWide_string hi hok
    simp only [Ty.Sh] at h2
    obtain ⟨m, rfl, _⟩ := h2
    exact single rfl ⟨_, rfl⟩ fun a ha => by cases ha; rfl
  | sl e =>
    simp only [Ty.Is] at hi
    obtain ⟨x, hx, _⟩ := hi
    obtain ⟨a, len, cap, rfl⟩ := okWide_slice hx hok
    simp only [Ty.Sh] at h2
    obtain ⟨m, rfl, _⟩ := h2
    exact single rfl ⟨_, rfl⟩ fun a ha => by cases ha; rfl
  | ar k e =>
    simp only [Ty.Is] at hi
    obtain ⟨x, hx, _⟩ := hi
    have hok' : ∃ cs : Array Value, v = .agg cs := by
      simp only [Value.okWide, hx] at hok
      obtain ⟨cs, h1, _⟩ := hok
      exact ⟨cs, h1⟩
    obtain ⟨cs, rfl⟩ := hok'
    have h1' : RL (fun _ => hp w) (fun _ _ => none) es cs.toList := h1
    have := Rel.agg (g := fun _ => hp w) (σ := fun _ _ => none) es cs.toList h1'.1 h1'.2
    simpa [Ty.pk] using this
  | st l =>
    simp only [Ty.Is] at hi
    obtain ⟨fs, hx, _⟩ := hi
    obtain ⟨cs, rfl, _⟩ := okWide_struct hx hok
    have h1' : RL (fun _ => hp w) (fun _ _ => none) es cs.toList := h1
    have := Rel.agg (g := fun _ => hp w) (σ := fun _ _ => none) es cs.toList h1'.1 h1'.2
    simpa [Ty.pk] using this

/-- A law's call, from the contract of its function. -/
theorem law_calls {P : Program} {f : Nat} {args : List A} {vs : List Value} {w : World} (hv : VR P false f args [] (isR (.v (.bool true)))) (hr : RL (fun _ => hp w) (fun _ _ => none) args vs) :
    Calls P f vs.toArray w fun e w' => e = .returned (.bool true) ∧ Go.RowKit.Below w.heap.size w w' :=
  law_of (VR.law (hv.mono fun r G h => h.1) hr)
end Go.Lft
namespace Go.Lft
open Go
set_option linter.unusedVariables false
set_option linter.unusedSimpArgs false

theorem bw_mono {α : Type} {o : Option α} {K K' : α → Prop} (hk : ∀ a, K a → K' a) (h : bw o K) : bw o K' := by
  obtain ⟨a, h1, h2⟩ := h; exact ⟨a, h1, hk _ h2⟩
theorem E.aw_mono {kp : Bool} {e : List A} {H : List Blk} {R R' : A → List Blk → Prop} (hr : ∀ a H', R a H' → R' a H') : ∀ {f : E}, f.aw kp e H R → f.aw kp e H R'
  | .alloc t z, h => hr _ _ h
  | .box t x, h => bw_mono (fun a h => bw_mono (fun cs h => hr _ _ h) h) h
  | .mk t size bytes z l c, h => bw_mono (fun a h => bw_mono (fun b h => by
      obtain ⟨kl, kc, li, ci, h1, h2, h3, h4, h5, h6, h7, h8⟩ := h
      exact ⟨kl, kc, li, ci, h1, h2, h3, h4, h5, h6, h7, hr _ _ h8⟩) h) h
  | .lit t size len z ps, h => bw_mono (fun a h => bw_mono (fun cs h => ⟨h.1, hr _ _ h.2⟩) h) h
  | .app t size bytes z s x, h => bw_mono (fun a h => bw_mono (fun xa h => bw_mono (fun p h => by
      unfold appA at h ⊢
      split at h
      · exact ⟨h.1, h.2.1, fun hm => hr _ _ (h.2.2.1 hm), fun hm => hr _ _ (h.2.2.2 hm)⟩
      · exact ⟨h.1, h.2.1, h.2.2.1, h.2.2.2.1, bw_mono (fun cs h => ⟨h.1, hr _ _ h.2⟩) h.2.2.2.2⟩
      · exact ⟨h.1, h.2.1, h.2.2.1, h.2.2.2.1, bw_mono (fun cs h => ⟨h.1, hr _ _ h.2⟩) h.2.2.2.2⟩
      · exact h.elim) h) h) h
  | .cpy size d s, h => ⟨h.1, bw_mono (fun a h => bw_mono (fun xa h => bw_mono (fun p h => by
      unfold cpyA at h ⊢
      split at h
      · exact ⟨h.1, bw_mono (fun cs h => ⟨h.1, hr _ _ h.2⟩) h.2⟩
      · exact h.elim) h) h) h.2⟩
  | .clr z s, h => ⟨h.1, h.2.1, bw_mono (fun a h => by
      unfold clrA at h ⊢
      split at h
      · exact ⟨h.1, bw_mono (fun cs h => ⟨h.1, hr _ _ h.2⟩) h.2⟩
      · exact h.elim) h.2.2⟩
  | .st n p v, h => ⟨h.1, bw_mono (fun a h => bw_mono (fun b h => bw_mono (fun cs h => ⟨h.1, by
      replace h := h.2
      unfold stA at h ⊢
      split at h
      · exact bw_mono (fun cs h => ⟨h.1, hr _ _ h.2⟩) h
      · exact h.elim⟩) h) h) h.2⟩
theorem AWP.mono {P : Program} {n0 : Nat} {s : S} {Q Q' : QA} {e : List A} {H : List Blk} (hq : ∀ x e H, Q x e H → Q' x e H) (h : AWP P n0 s Q e H) : AWP P n0 s Q' e H :=
  fun c ev h1 h2 h3 h4 => S.wp_mono s (fun x e' h' ⟨e2, d, k1, k2, k3⟩ => ⟨e2, d, k1, hq _ _ _ k2, k3⟩) (h c ev h1 h2 h3 h4)

theorem S.aw_mono {P : Program} {n0 : Nat} : ∀ {s : S} {Q Q' : QA} {e : List A} {H : List Blk}, (∀ x e H, Q x e H → Q' x e H) → s.aw P n0 Q e H → s.aw P n0 Q' e H := by
  intro s
  induction s with
  | nxt => intro Q Q' e H hq h; exact hq _ _ _ h
  | set i x k ih => intro Q Q' e H hq h; exact bw_mono (fun a h => ih hq h) h
  | chk x k ih => intro Q Q' e H hq h; exact bw_mono (fun a h => ih hq h) h
  | eff kp d f k ih => intro Q Q' e H hq h; exact E.aw_mono (fun a H' h => ih hq h) h
  | call kp d f es k ih => intro Q Q' e H hq h; exact bw_mono (fun l h => h.mono fun a H' h => AWP.mono hq h) h
  | callv kp d f es k ih => intro Q Q' e H hq h; exact bw_mono (fun fa h => bw_mono (fun l ⟨g, c, h1, h2, h3⟩ => ⟨g, c, h1, h2, h3.mono fun a H' h => AWP.mono hq h⟩) h) h
  | ite c a b iha ihb =>
    intro Q Q' e H hq h
    obtain ⟨t, h1, h2⟩ := h
    refine ⟨t, h1, ?_⟩
    cases t with
    | true => exact iha hq h2
    | false => exact ihb hq h2
  | both a b iha ihb => intro Q Q' e H hq h; exact ⟨iha hq h.1, ihb hq h.2⟩
  | seq a b iha ihb =>
    intro Q Q' e H hq h
    refine iha (fun x e H h => ?_) h
    cases x with
    | nxt => exact ihb hq h
    | exit i => exact hq _ _ _ h
    | ret => exact hq _ _ _ h
  | blk id a iha =>
    intro Q Q' e H hq h
    refine iha (fun x e H h => ?_) h
    cases x with
    | nxt => exact hq _ _ _ h
    | exit i =>
      dsimp only at h ⊢
      split
      · rename_i hi; rw [if_pos hi] at h; exact hq _ _ _ h
      · rename_i hi; rw [if_neg hi] at h; exact hq _ _ _ h
    | ret => exact hq _ _ _ h
  | loop a ih => intro Q Q' e H hq h; exact AWP.mono hq h
  | exit id => intro Q Q' e H hq h; exact hq _ _ _ h
  | ret => intro Q Q' e H hq h; exact hq _ _ _ h
  | stop => intro Q Q' e H hq h; exact h
/-- A contract of which less is told. -/
theorem VR.cut {P : Program} {kp : Bool} {f : Nat} {args : List A} {H : List Blk} {R R' : A → List Blk → Prop} (h : VR P kp f args H R) (hc : ∀ r G, R r G → ∃ r' G', Cut H.length [r] G [r'] G' ∧ R' r' G') : VR P kp f args H R' := fun c vs hH hs hr =>
  (h c vs hH hs hr).mono fun v h' ⟨hk, r, d, e1, e2, e3, e4, e5⟩ => by
    obtain ⟨r', G', hcut, hR⟩ := hc r d.H e2
    obtain ⟨d', q1, q2, q3, q4, q5⟩ := hcut d [v] rfl (e3.len (by rw [hH]; exact Nat.le_refl _)) e4 (RL.cons e5 RL.nil)
    obtain ⟨x, xs, e6, e7, _⟩ := q5.uncons
    injection e6 with e6 _
    exact ⟨hk, r', d', q2.trans e1, q1 ▸ hR, e3.trans q3, q4, e6 ▸ e7⟩
/-! ### Freezing and lending all that a value names, told by what comes out -/
section
variable (H : List Blk) (d : Nat)
end
/-- A variable is forgotten. -/
theorem Cut.drop {n0 : Nat} {e : List A} {H : List Blk} (i : Nat) : Cut n0 e H (e.set i .any) H := fun c ev h1 h2 h3 h4 =>
  ⟨c, h1, rfl, Lat.refl _ _, h3, by simpa using h4.1, fun j a x ha hx => by
    rw [List.getElem?_set] at ha
    split at ha
    · split at ha
      · cases ha; exact .any x
      · cases ha
    · exact h4.2 j a x ha hx⟩
end Go.Lft
namespace Go.Proofs.Ytegnnfbmbnpgdaa
open Go Go.Lft
set_option linter.unusedSimpArgs false
set_option linter.unusedVariables false

def tyInt : Ty := (.int .i64)
theorem tyInt_is : tyInt.Is Try.prog 3 := by
  unfold tyInt
  simp only [Ty.Is]
  exact Try.underlying3
def tyArc : Ty := (.st [(.int .i64), (.int .i64)])
theorem tyArc_is : tyArc.Is Try.prog 26 := by
  unfold tyArc
  simp only [Ty.Is]
  refine ⟨_, Try.underlying26, by kernel_rfl, ?_⟩
  simp only [Ty.IsL, Ty.Is]
  refine ⟨by first | rfl | trivial, by kernel_rfl, ?_, ?_⟩
  ·
    exact Try.underlying3
  refine ⟨by first | rfl | trivial, by kernel_rfl, ?_, ?_⟩
  ·
    exact Try.underlying3
  trivial
def tyGraph : Ty := (.st [(.int .i64), (.sl (.st [(.int .i64), (.int .i64)]))])
theorem tyGraph_is : tyGraph.Is Try.prog 24 := by
  unfold tyGraph
  simp only [Ty.Is]
  refine ⟨_, Try.underlying24, by kernel_rfl, ?_⟩
  simp only [Ty.IsL, Ty.Is]
  refine ⟨by first | rfl | trivial, by kernel_rfl, ?_, ?_⟩
  ·
    exact Try.underlying3
  refine ⟨by first | rfl | trivial, by kernel_rfl, ?_, ?_⟩
  ·
    refine ⟨26, Try.underlying22, by kernel_rfl, by decide, ?_⟩
    refine ⟨_, Try.underlying26, by kernel_rfl, ?_⟩
    simp only [Ty.IsL, Ty.Is]
    refine ⟨by first | rfl | trivial, by kernel_rfl, ?_, ?_⟩
    ·
      exact Try.underlying3
    refine ⟨by first | rfl | trivial, by kernel_rfl, ?_, ?_⟩
    ·
      exact Try.underlying3
    trivial
  trivial

theorem pairs_of {w : Bool} : ∀ (L : List (List A)), (∀ ce ∈ L, (Ty.st [.int .i64, .int .i64]).Sh w ce) → ∃ l : Arcs, L.map (Ty.st [.int .i64, .int .i64]).pk = pairs l
  | [], _ => ⟨[], rfl⟩
  | ce :: L, h => by
    obtain ⟨l, hl⟩ := pairs_of L fun x hx => h x (by simp [hx])
    have hc := h ce (by simp)
    simp only [Ty.Sh, Ty.ShL] at hc
    obtain ⟨a, b, rfl, ⟨x, rfl, _⟩, c, d, rfl, ⟨y, rfl, _⟩, rfl⟩ := hc
    exact ⟨(x, y) :: l, by rw [List.map_cons, hl]; rfl⟩
theorem graph_of {cl : List A} (h : tyGraph.Sh true cl) : ∃ n l, tyGraph.pk cl = graphA true n l := by
  unfold tyGraph at h ⊢
  simp only [Ty.Sh, Ty.ShL] at h
  obtain ⟨a, b, rfl, ⟨n, rfl, _⟩, c, d, rfl, ⟨L, rfl, _, hL⟩, rfl⟩ := h
  obtain ⟨l, hl⟩ := pairs_of (w := true) L (fun ce hce => by simp only [Ty.Sh, Ty.ShL]; exact hL ce hce)
  exact ⟨n, l, by rw [hl]; rfl⟩
theorem arc_of {cl : List A} (h : tyArc.Sh true cl) : ∃ a : Int × Int, tyArc.pk cl = pairA a := by
  unfold tyArc at h ⊢
  simp only [Ty.Sh, Ty.ShL] at h
  obtain ⟨a, b, rfl, ⟨n, rfl, _⟩, c, d, rfl, ⟨m, rfl, _⟩, rfl⟩ := h
  exact ⟨(n, m), rfl⟩
theorem int_of {cl : List A} (h : tyInt.Sh true cl) : ∃ n, tyInt.pk cl = .v (.int .i64 n) := by
  unfold tyInt at h ⊢
  simp only [Ty.Sh] at h
  obtain ⟨n, rfl, _⟩ := h; exact ⟨n, rfl⟩
end Go.Proofs.Ytegnnfbmbnpgdaa
namespace Go.Proofs.Ytegnnfbmbnpgdaa
open Go Go.Lft
set_option linter.unusedSimpArgs false
set_option linter.unusedVariables false
attribute [local congr] ob_congr bw_congr ib_congr ck_congr iwA_congr itA_congr aw_congr awp_congr sqA_congr bkA_congr vr_congr gd_congr

theorem path_up {l : Arcs} {a : Int × Int} {u v : Int} (h : Path l u v) : Path (l ++ [a]) u v := by
  induction h with
  | refl u => exact .refl u
  | step h _ ih => exact .step (List.mem_append_left _ h) ih
theorem sq_gen {P : Program} {n0 : Nat} {a b : S} {Q : QA} {e : List A} {H : List Blk} (M : List A → List Blk → Prop) (h1 : a.aw P n0 (fun x e' H' => x = .nxt ∧ M e' H') e H) (h2 : ∀ e' H', M e' H' → b.aw P n0 Q e' H') : (S.seq a b).aw P n0 Q e H :=
  (S.aw_mono (s := a) (fun x e' H' hx => by obtain ⟨hx, hM⟩ := hx; subst hx; exact h2 e' H' hM) h1 : a.aw P n0 (fun x e H => match x with | .nxt => b.aw P n0 Q e H | x => Q x e H) e H)
def FgM : List A → List A → Prop
  | [], [] => True
  | a :: l, b :: r => (b = .any ∨ a = b) ∧ FgM l r
  | _, _ => False
theorem fgm_nil : FgM [] [] = True := rfl
theorem fgm_cons (a b : A) (l r : List A) : FgM (a :: l) (b :: r) = ((b = .any ∨ a = b) ∧ FgM l r) := rfl
theorem FgM.rel {g : Bool → Heap} {σ : Nam} : ∀ {e e' : List A} {ev : List Value}, FgM e e' → RL g σ e ev → RL g σ e' ev
  | [], [], _, _, h => h
  | a :: l, b :: r, ev, hf, h => by
    obtain ⟨x, xs, rfl, h1, h2⟩ := h.uncons
    refine RL.cons ?_ (FgM.rel hf.2 h2)
    rcases hf.1 with rfl | rfl
    · exact .any x
    · exact h1
  | [], _ :: _, _, hf, _ => hf.elim
  | _ :: _, [], _, hf, _ => hf.elim
theorem Cut.fgM {n0 : Nat} {e e' : List A} {H : List Blk} (h : FgM e e') : Cut n0 e H e' H := fun c ev h1 h2 h3 h4 => ⟨c, h1, rfl, Lat.refl _ _, h3, h.rel h4⟩
/-- What lies in memory when the graph is made. -/
def Mmore (n : Int) (l : Arcs) (w : Bool) (a : Int × Int) (v : Int) (xs : List Bool) (r : A) (e : List A) (H : List Blk) : Prop :=
  ∃ (j k : Nat) (a17 a21 a22 a23 a24 a25 : A), e = [.agg [.v (.int .i64 n), .fs w (pairs l)], .v (.int .i64 v), .agg [.v (.int .i64 a.1), .v (.int .i64 a.2)], .v (.bool false), .lp 0 0 0, .fs true (bools xs), .v (.int .i64 0), .lp 1 0 0, .lp j 0 0, .any, .any, .any, .any, .any, .any, r, .any, a17, .any, .any, .any, a21, a22, a23, a24, a25] ∧
    blkAt H 0 0 = some [.v (.int .i64 n), .fs w (pairs l)] ∧ blkAt H 1 0 = some [.v (.int .i64 a.1), .v (.int .i64 a.2)] ∧
    blkAt H j 0 = some [.v (.int .i64 n), .sl k 2 2 0 (l.length + 1)] ∧ blkAt H k 2 = some (pcells (l ++ [a]))
theorem graphMore_vr {w : Bool} (n : Int) (l : Arcs) (v : Int) (a : Int × Int) : VR P false n_law09_GraphMore [graphA w n l, .v (.int .i64 v), pairA a] [] (isR (.v (.bool true))) := by
  refine vr_law09_GraphMore (by simp) (.inr rfl) fun _ _ => ?_
  unfold graphA pairA
  simp (disch := ((try simp only [List.length_set, List.length_replicate, List.length_append, List.length_cons, List.length_nil]); omega)) only [aW, aX, aV, aB, aN, aL, aP, aH, s_law09_GraphMore, v_law09_GraphMore]
  have hv := reach_vr (w := w) n l v
  unfold graphA at hv
  refine hv.same (by simp (disch := first | omega | simp (disch := omega) only [aF, aL, aN]) only [aW, aX, aV, aB, aN, aL, aP, aH, aF, Int.natCast_add, Int.natCast_mul, Int.add_sub_cancel, List.length_nil, Int.cast_ofNat_Int, and_true, true_and]) (by simp (disch := first | omega | simp (disch := omega) only [aF, aL, aN]) only [aW, aX, aV, aB, aN, aL, aP, aH, aF, Int.natCast_add, Int.natCast_mul, Int.add_sub_cancel, List.length_nil, Int.cast_ofNat_Int, and_true, true_and, b_cl, b_bd]) (aret_of ?_)
  simp (disch := ((try simp only [List.length_set, List.length_replicate, List.length_append, List.length_cons, List.length_nil]); omega)) only [aW, aX, aV, aB, aN, aL, aP, aH]
  refine ib_intro (fun h1 => ?_) (fun h1 => ?_)
  · simp (disch := ((try simp only [List.length_set, List.length_replicate, List.length_append, List.length_cons, List.length_nil]); omega)) only [aW, aX, aV, aB, aN, aL, aP, aH]
    refine awake_vr.same (by simp (disch := first | omega | simp (disch := omega) only [aF, aL, aN]) only [aW, aX, aV, aB, aN, aL, aP, aH, aF, Int.natCast_add, Int.natCast_mul, Int.add_sub_cancel, List.length_nil, Int.cast_ofNat_Int, and_true, true_and]) rfl (aret_of ?_)
    simp (disch := ((try simp only [List.length_set, List.length_replicate, List.length_append, List.length_cons, List.length_nil]); omega)) only [aW, aX, aV, aB, aN, aL, aP, aH, r_law09_GraphMore]
    exact post_v ⟨rfl, rfl⟩
  have hz : (visitR n l l v).2 = 0 := by omega
  have hl : l.length ≤ 500 := by omega
  have hg : gcheck n l = 0 ∧ 0 ≤ v ∧ v < n := by
    unfold visitR at hz
    split at hz
    · simp only at hz; omega
    · split at hz
      · cases hz
      · omega
  generalize hx : (visitR n l l v).1 = xs at *
  generalize hy : visitR n (l ++ [a]) (l ++ [a]) v = y at *
  rw [hz]
  show S.aw P 0 (S.seq (S.both _ _) _) _ _ _
  refine sq_gen (Mmore n l w a v xs (.tup [.fs true (bools xs), .v (.int .i64 0)])) ?_ ?_
  · repeat' apply And.intro
    all_goals simp (disch := ((try simp only [List.length_set, List.length_replicate, List.length_append, List.length_cons, List.length_nil]); omega)) only [aW, aX, aV, aB, aN, aL, aP, aH]
    all_goals exact ⟨trivial, _, _, _, _, _, _, _, _, rfl, rfl, rfl, rfl, by first | (simp only [List.take_length]; rfl) | rfl⟩
  rintro e' H' ⟨j, k, a17, a21, a22, a23, a24, a25, rfl, f0, f1, f2, f3⟩
  have hv2 := reach_vr (w := false) n (l ++ [a]) v
  rw [hy] at hv2
  unfold graphA at hv2
  simp (disch := ((try simp only [List.length_set, List.length_replicate, List.length_append, List.length_cons, List.length_nil]); omega)) only [aW, aX, aV, aB, aN, aL, aP, aH, f0, f1, f2]
  refine hv2.use ⟨Ld.agg ⟨Ld.refl rfl, ld_slP _ _ _ _ (l ++ [a]) (by simp) f3, trivial⟩, Ld.refl rfl, trivial⟩ (by simp (disch := first | omega | simp (disch := omega) only [aF, aL, aN]) only [aW, aX, aV, aB, aN, aL, aP, aH, aF, Int.natCast_add, Int.natCast_mul, Int.add_sub_cancel, List.length_nil, Int.cast_ofNat_Int, and_true, true_and, b_cl, b_bd]) (aret_of ?_)
  have hgc := gcheck_ok hg.1
  by_cases hb : arcBad n a
  · have hy2 : y = ([], 7) := by
      rw [← hy]
      have : gcheck n (l ++ [a]) = 7 := by
        unfold gcheck
        rw [if_neg (by omega), if_neg (by simp; omega), if_pos ⟨l.length, by simp, by simpa [List.getD_eq_getElem?_getD] using hb⟩]
      unfold visitR; rw [if_pos (by rw [this]; decide), this]
    subst hy2
    unfold arcBad at hb
    simp (disch := ((try simp only [List.length_set, List.length_replicate, List.length_append, List.length_cons, List.length_nil]); omega)) only [aW, aX, aV, aB, aN, aL, aP, aH, f0, f1, f2, decide_eq_true hb]
    refine awake_vr.same (by simp (disch := first | omega | simp (disch := omega) only [aF, aL, aN]) only [aW, aX, aV, aB, aN, aL, aP, aH, aF, Int.natCast_add, Int.natCast_mul, Int.add_sub_cancel, List.length_nil, Int.cast_ofNat_Int, and_true, true_and]) rfl (aret_of ?_)
    simp (disch := ((try simp only [List.length_set, List.length_replicate, List.length_append, List.length_cons, List.length_nil]); omega)) only [aW, aX, aV, aB, aN, aL, aP, aH, r_law09_GraphMore]
    exact post0 (Fz.refl rfl) ⟨rfl, rfl⟩
  · have hin : inR n (l ++ [a]) := fun b hb2 => by
      rcases List.mem_append.1 hb2 with h | h
      · exact hgc.2.2.2 b h
      · rw [List.mem_singleton.1 h]; unfold arcBad at hb; omega
    have hg2 : gcheck n (l ++ [a]) = 0 := by
      unfold gcheck
      rw [if_neg (by omega), if_neg (by simp; omega), if_neg]
      rintro ⟨i, hi, hb2⟩
      have hm : (l ++ [a]).getD i (0, 0) ∈ l ++ [a] := by rw [List.getD_eq_getElem?_getD, List.getElem?_eq_getElem hi]; exact List.getElem_mem hi
      have := hin _ hm
      unfold arcBad at hb2; omega
    have hy2 : y = (reachL n (l ++ [a]) v, 0) := by rw [← hy]; unfold visitR; rw [if_neg (by simp [hg2]), if_neg (by omega)]
    have hx2 : xs = reachL n l v := by rw [← hx]; unfold visitR; rw [if_neg (by simp [hg.1]), if_neg (by omega)]
    have yl := reachL_len n (l ++ [a]) v
    have xl := reachL_len n l v
    have yi := fun w hw => reachL_iff hin hg.2.1 hg.2.2 (w := w) hw
    have xi := fun w hw => reachL_iff hgc.2.2.2 hg.2.1 hg.2.2 (w := w) hw
    rw [← hx2] at xl xi
    subst hy2
    generalize reachL n (l ++ [a]) v = ys at *
    have hmem : a ∈ l ++ [a] := by simp
    unfold arcBad at hb
    have yy : ys.getD a.1.toNat false = true → ys.getD a.2.toNat false = true := fun h => (yi a.2 (by omega)).2 (((yi a.1 (by omega)).1 h).snoc hmem)
    have xy : ∀ i : Nat, xs.getD i false = true → ys.getD i false = true := fun i h => (yi i (by omega)).2 (path_up ((xi i (by omega)).1 h))
    simp (disch := ((try simp only [List.length_set, List.length_replicate, List.length_append, List.length_cons, List.length_nil]); omega)) only [aW, aX, aV, aB, aN, aL, aP, aH, f0, f1, f2, decide_eq_false hb, xl, yl, Int.toNat_of_nonneg hgc.1]
    have q1 : (ys.getD a.1.toNat false && !ys.getD a.2.toNat false) = false := by
      cases h : ys.getD a.1.toNat false with
      | false => rfl
      | true => rw [yy h]; rfl
    have q2 : ∀ i : Nat, (xs.getD i false && !ys.getD i false) = false := fun i => by
      cases h : xs.getD i false with
      | false => rfl
      | true => rw [xy i h]; rfl
    rw [q1]
    simp (disch := ((try simp only [List.length_set, List.length_replicate, List.length_append, List.length_cons, List.length_nil]); omega)) only [aW, aX, aV, aB, aN, aL, aP, aH]
    refine AWP.loopP g_law09_GraphMore_0 (fun k : Nat => k ≤ xs.length) (fun k => [(3, .v (.bool false)), (11, .v (.int .i64 k))]) (fun _ => []) (fun k => xs.length - k) 0 (by omega) ?_ ?_
    · exact Cut.fgM (by simp (disch := first | omega | simp (disch := omega) only [aF, aL, aN]) only [aW, aX, aV, aB, aN, aL, aP, aH, aF, Int.natCast_add, Int.natCast_mul, Int.add_sub_cancel, List.length_nil, Int.cast_ofNat_Int, and_true, true_and, fgm_nil, fgm_cons, or_true, true_or])
    rintro k2 hk
    by_cases hlt : k2 < xs.length
    · simp (disch := ((try simp only [List.length_set, List.length_replicate, List.length_append, List.length_cons, List.length_nil]); omega)) only [aW, aX, aV, aB, aN, aL, aP, aH, q2]
      refine ⟨k2 + 1, by omega, by omega, ?_⟩
      try simp (disch := ((try simp only [List.length_set, List.length_replicate, List.length_append, List.length_cons, List.length_nil]); omega)) only [aW, aX, aV, aB, aN, aL, aP, aH]
      exact Cut.fgM (by simp (disch := first | omega | simp (disch := omega) only [aF, aL, aN]) only [aW, aX, aV, aB, aN, aL, aP, aH, aF, Int.natCast_add, Int.natCast_mul, Int.add_sub_cancel, List.length_nil, Int.cast_ofNat_Int, and_true, true_and, fgm_nil, fgm_cons, or_true, true_or])
    · simp (disch := ((try simp only [List.length_set, List.length_replicate, List.length_append, List.length_cons, List.length_nil]); omega)) only [aW, aX, aV, aB, aN, aL, aP, aH]
      refine awake_vr.same (by simp (disch := first | omega | simp (disch := omega) only [aF, aL, aN]) only [aW, aX, aV, aB, aN, aL, aP, aH, aF, Int.natCast_add, Int.natCast_mul, Int.add_sub_cancel, List.length_nil, Int.cast_ofNat_Int, and_true, true_and]) rfl (aret_of ?_)
      simp (disch := ((try simp only [List.length_set, List.length_replicate, List.length_append, List.length_cons, List.length_nil]); omega)) only [aW, aX, aV, aB, aN, aL, aP, aH, r_law09_GraphMore]
      exact post0 (Fz.refl rfl) ⟨rfl, rfl⟩
end Go.Proofs.Ytegnnfbmbnpgdaa
