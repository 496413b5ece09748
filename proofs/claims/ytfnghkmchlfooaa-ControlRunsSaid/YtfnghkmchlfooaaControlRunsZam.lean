/- Lemmas and walks that the proof of ControlRuns uses. No statement is claimed here. -/
import Derived.Test.YtfnghkmchlfooaaControlRunsZal
import Derived.WideShapes
import Derived.ChangeShapes
namespace Go.Lft
open Go Go.WideShapes
set_option linter.unusedVariables false
set_option linter.unusedSimpArgs false

theorem arg_open {Hh : Type} {enc : TypeId × Value → Hh} {P : Program} {w : World} {base b0 : Nat} {spare : Nat → Bool} {held : Bool} {r : Reach} (u : Bool) (ty : Ty) {t : TypeId} {v : Value} {d : DataW Hh} {ps : List MemPlace}
    (hi : ty.Is P t) (hok : Value.okWide P w r b0 t v) (h : DataW.Trod enc P w base spare held t v d ps) : ∃ es, ty.Sh u es ∧ Rel (fun _ => hp w) (fun _ _ => none) (ty.pk es) v := by
  obtain ⟨fuel, hf⟩ := h
  obtain ⟨es, h1, h2⟩ := Ty.open u ty hi hf
  refine ⟨es, h2, ?_⟩
  have single : v.cells.toList = [v] → (∃ a, es = [a]) → (∀ a, es = [a] → ty.pk es = a) → Rel (fun _ => hp w) (fun _ _ => none) (ty.pk es) v := fun hv ⟨a, ha⟩ hp => by
    rw [hp a ha]
    rw [hv, ha] at h1
    exact h1.2 0 a v rfl rfl
  cases ty with
  | int k =>
    simp only [Ty.Is] at hi
    obtain ⟨n, rfl⟩ := okWide_int hi hok
    simp only [Ty.Sh] at h2
    obtain ⟨m, rfl, _⟩ := h2
    exact single rfl ⟨_, rfl⟩ fun a ha => by cases ha; rfl
  | bool =>
    simp only [Ty.Is] at hi
    obtain ⟨n, rfl⟩ := okWide_bool hi hok
    simp only [Ty.Sh] at h2
    obtain ⟨m, rfl⟩ := h2
    exact single rfl ⟨_, rfl⟩ fun a ha => by cases ha; rfl
  | str =>
    simp only [Ty.Is] at hi
    obtain ⟨n, rfl⟩ := okWide_string hi hok
    simp only [Ty.Sh] at h2
    obtain ⟨m, rfl, _⟩ := h2
    exact single rfl ⟨_, rfl⟩ fun a ha => by cases ha; rfl
  | sl e =>
    simp only [Ty.Is] at hi
    obtain ⟨x, hx, _⟩ := hi
    obtain ⟨a, len, cap, rfl⟩ := okWide_slice hx hok
    simp only [Ty.Sh] at h2
    obtain ⟨m, rfl, _⟩ := h2
    exact single rfl ⟨_, rfl⟩ fun a ha => by cases ha; rfl
  | ar k e =>
    simp only [Ty.Is] at hi
    obtain ⟨x, hx, _⟩ := hi
    have hok' : ∃ cs : Array Value, v = .agg cs := by
      simp only [Value.okWide, hx] at hok
      obtain ⟨cs, h1, _⟩ := hok
      exact ⟨cs, h1⟩
    obtain ⟨cs, rfl⟩ := hok'
    have h1' : RL (fun _ => hp w) (fun _ _ => none) es cs.toList := h1
    have := Rel.agg (g := fun _ => hp w) (σ := fun _ _ => none) es cs.toList h1'.1 h1'.2
    simpa [Ty.pk] using this
  | st l =>
    simp only [Ty.Is] at hi
    obtain ⟨fs, hx, _⟩ := hi
    obtain ⟨cs, rfl, _⟩ := okWide_struct hx hok
    have h1' : RL (fun _ => hp w) (fun _ _ => none) es cs.toList := h1
    have := Rel.agg (g := fun _ => hp w) (σ := fun _ _ => none) es cs.toList h1'.1 h1'.2
    simpa [Ty.pk] using this

/-- A law's call, from the contract of its function. -/
theorem law_calls {P : Program} {f : Nat} {args : List A} {vs : List Value} {w : World} (hv : VR P false f args [] (isR (.v (.bool true)))) (hr : RL (fun _ => hp w) (fun _ _ => none) args vs) :
    Calls P f vs.toArray w fun e w' => e = .returned (.bool true) ∧ Go.RowKit.Below w.heap.size w w' :=
  law_of (VR.law (hv.mono fun r G h => h.1) hr)
end Go.Lft
namespace Go.Lft
open Go
set_option linter.unusedVariables false
set_option linter.unusedSimpArgs false

theorem AWP.mono {P : Program} {n0 : Nat} {s : S} {Q Q' : QA} {e : List A} {H : List Blk} (hq : ∀ x e H, Q x e H → Q' x e H) (h : AWP P n0 s Q e H) : AWP P n0 s Q' e H :=
  fun c ev h1 h2 h3 h4 => S.wp_mono s (fun x e' h' ⟨e2, d, k1, k2, k3⟩ => ⟨e2, d, k1, hq _ _ _ k2, k3⟩) (h c ev h1 h2 h3 h4)

/-- A contract of which less is told. -/
theorem VR.cut {P : Program} {kp : Bool} {f : Nat} {args : List A} {H : List Blk} {R R' : A → List Blk → Prop} (h : VR P kp f args H R) (hc : ∀ r G, R r G → ∃ r' G', Cut H.length [r] G [r'] G' ∧ R' r' G') : VR P kp f args H R' := fun c vs hH hs hr =>
  (h c vs hH hs hr).mono fun v h' ⟨hk, r, d, e1, e2, e3, e4, e5⟩ => by
    obtain ⟨r', G', hcut, hR⟩ := hc r d.H e2
    obtain ⟨d', q1, q2, q3, q4, q5⟩ := hcut d [v] rfl (e3.len (by rw [hH]; exact Nat.le_refl _)) e4 (RL.cons e5 RL.nil)
    obtain ⟨x, xs, e6, e7, _⟩ := q5.uncons
    injection e6 with e6 _
    exact ⟨hk, r', d', q2.trans e1, q1 ▸ hR, e3.trans q3, q4, e6 ▸ e7⟩
/-! ### Freezing and lending all that a value names, told by what comes out -/
theorem FzL.cat {m : Nat} {H : List Blk} : ∀ {l r l' r' : List A}, FzL m H l l' → FzL m H r r' → FzL m H (l ++ r) (l' ++ r')
  | [], r, [], r', _, h => h
  | a :: l, r, b :: l', r', h, k => ⟨h.1, FzL.cat h.2 k⟩
  | [], _, _ :: _, _, h, _ => h.elim
  | _ :: _, _, [], _, h, _ => h.elim
theorem FzL.anys {m : Nat} {H : List Blk} : ∀ (l : List A), FzL m H l (List.replicate l.length .any)
  | [] => trivial
  | a :: l => ⟨Fz.any, FzL.anys l⟩
theorem LdL.cat {H : List Blk} : ∀ {l r l' r' : List A}, LdL H l l' → LdL H r r' → LdL H (l ++ r) (l' ++ r')
  | [], r, [], r', _, h => h
  | a :: l, r, b :: l', r', h, k => ⟨h.1, LdL.cat h.2 k⟩
  | [], _, _ :: _, _, h, _ => h.elim
  | _ :: _, _, [], _, h, _ => h.elim
theorem LdL.anys {H : List Blk} : ∀ (l : List A), LdL H l (List.replicate l.length .any)
  | [] => trivial
  | a :: l => ⟨Ld.any, LdL.anys l⟩
theorem part_eq {l : List A} {o m : Nat} (h : o + m ≤ l.length) : l.take o ++ ((l.drop o).take m ++ l.drop (o + m)) = l := by
  rw [← List.drop_drop, List.take_append_drop, List.take_append_drop]
theorem part_get {l : List A} {o m : Nat} (h : o + m ≤ l.length) {c : List A} (hc : c.length = m) : ((List.replicate (l.take o).length A.any ++ (c ++ List.replicate (l.drop (o + m)).length A.any)).drop o).take m = c := by
  have h1 : (l.take o).length = o := by simp; omega
  rw [h1, List.drop_append_of_le_length (by simp), List.drop_of_length_le (by simp), List.nil_append, List.take_append_of_le_length (by omega), List.take_of_length_le (by omega)]

def frzL (F : A → A → Prop) : List A → List A → Prop
  | [], [] => True
  | a :: l, b :: r => F a b ∧ frzL F l r
  | _, _ => False
def frzP (H : List Blk) : Nat → A → A → Prop
  | 0, _, _ => False
  | d + 1, a, b => match a, b with
    | _, .any => True
    | .v (.slice none 0 0), .fs true [] => True
    | .v x, .v y => x = y
    | .agg l, .agg r => frzL (frzP H d) l r
    | .tup l, .tup r => frzL (frzP H d) l r
    | .fn f l, .fn g r => f = g ∧ frzL (frzP H d) l r
    | .fs w l, .fs w' l' => A.bdL 0 l = true ∧ w = w' ∧ l = l'
    | .fp w l, .fp w' l' => A.bdL 0 l = true ∧ w = w' ∧ l = l'
    | .sl i ver k o n, .fs true els => ∃ l, blkAt H i ver = some l ∧ ∃ c, flatA k els = some c ∧ els.length = n ∧ o + n * k ≤ l.length ∧ frzL (frzP H d) ((l.drop o).take (n * k)) c
    | .vs i ver k n, .fs true els => ∃ l, blkAt H i ver = some l ∧ ∃ c, flatA k els = some c ∧ els.length = n ∧ n * k ≤ l.length ∧ frzL (frzP H d) (l.take (n * k)) c
    | .lp i ver o, .fp true c => ∃ l, blkAt H i ver = some l ∧ o ≤ l.length ∧ frzL (frzP H d) (l.drop o) c
    | _, _ => False
theorem frzL_len {F : A → A → Prop} : ∀ {l r : List A}, frzL F l r → l.length = r.length
  | [], [], _ => rfl
  | a :: l, b :: r, h => by simp [frzL_len h.2]
  | [], _ :: _, h => h.elim
  | _ :: _, [], h => h.elim
theorem frzL_sound {H : List Blk} {F : A → A → Prop} (hF : ∀ a b, F a b → Fz 0 H a b) : ∀ {l r : List A}, frzL F l r → FzL 0 H l r
  | [], [], _ => trivial
  | a :: l, b :: r, h => ⟨hF a b h.1, frzL_sound hF h.2⟩
  | [], _ :: _, h => h.elim
  | _ :: _, [], h => h.elim
theorem frzP_sound {H : List Blk} : ∀ (d : Nat) (a b : A), frzP H d a b → Fz 0 H a b
  | 0, a, b, h => h.elim
  | d + 1, a, b, h => by
    have ih := fun {l r : List A} (h : frzL (frzP H d) l r) => frzL_sound (frzP_sound d) h
    unfold frzP at h
    split at h
    · exact Fz.any
    · exact fz_nil _ _
    · subst h; exact Fz.refl rfl
    · exact Fz.agg (ih h)
    · exact Fz.tup (ih h)
    · obtain ⟨rfl, h⟩ := h; exact Fz.fn (ih h)
    · obtain ⟨h, rfl, rfl⟩ := h; exact Fz.refl h
    · obtain ⟨h, rfl, rfl⟩ := h; exact Fz.refl h
    · obtain ⟨l, h1, c, h2, h3, h4, h5⟩ := h
      have hc := frzL_len h5
      rw [List.length_take, List.length_drop] at hc
      rename_i i ver k o n els
      have h6 : FzL 0 H l (List.replicate (l.take o).length A.any ++ (c ++ List.replicate (l.drop (o + n * k)).length A.any)) := by
        have := FzL.cat (FzL.anys (m := 0) (H := H) (l.take o)) (FzL.cat (ih h5) (FzL.anys (l.drop (o + n * k))))
        rwa [part_eq h4] at this
      exact Fz.sl (Nat.zero_le _) h1 h6 (by rw [part_get h4 (by omega)]; exact h2) h3 (by have := h6.len; omega)
    · obtain ⟨l, h1, c, h2, h3, h4, h5⟩ := h
      have hc := frzL_len h5
      rw [List.length_take] at hc
      rename_i i ver k n els
      have h6 : FzL 0 H l (c ++ List.replicate (l.drop (n * k)).length A.any) := by
        have := FzL.cat (ih h5) (FzL.anys (l.drop (n * k)))
        rwa [List.take_append_drop] at this
      exact Fz.vs (Nat.zero_le _) h1 h6 (by rw [List.take_append_of_le_length (by omega), List.take_of_length_le (by omega)]; exact h2) h3 (by have := h6.len; omega)
    · obtain ⟨l, h1, h4, h5⟩ := h
      rename_i o c
      have h6 : FzL 0 H l (List.replicate (l.take o).length A.any ++ c) := by
        have := FzL.cat (FzL.anys (m := 0) (H := H) (l.take o)) (ih h5)
        rwa [List.take_append_drop] at this
      have h7 := Fz.lp (m := 0) (o := o) (Nat.zero_le _) h1 h6 (by have := h6.len; omega)
      have e : (List.replicate (l.take o).length A.any ++ c).drop o = c := by
        have : (l.take o).length = o := by simp; omega
        rw [this, List.drop_append_of_le_length (by simp), List.drop_of_length_le (by simp), List.nil_append]
      rw [e] at h7; exact h7
    · exact h.elim
theorem fz_all {H : List Blk} {a b : A} (h : frzP H 9 a b) : Fz 0 H a b := frzP_sound 9 a b h

def lndP (H : List Blk) : Nat → A → A → Prop
  | 0, _, _ => False
  | d + 1, a, b => match a, b with
    | _, .any => True
    | .v (.slice none 0 0), .fs false [] => True
    | .v x, .v y => x = y
    | .agg l, .agg r => frzL (lndP H d) l r
    | .fn f l, .fn g r => f = g ∧ frzL (lndP H d) l r
    | .fs w l, .fs w' l' => A.bdL 0 l = true ∧ (w = w' ∨ w' = false) ∧ l = l'
    | .fp w l, .fp w' l' => A.bdL 0 l = true ∧ (w = w' ∨ w' = false) ∧ l = l'
    | .sl i ver k o n, .fs false els => ∃ l, blkAt H i ver = some l ∧ ∃ c, flatA k els = some c ∧ els.length = n ∧ o + n * k ≤ l.length ∧ frzL (lndP H d) ((l.drop o).take (n * k)) c
    | .vs i ver k n, .fs false els => ∃ l, blkAt H i ver = some l ∧ ∃ c, flatA k els = some c ∧ els.length = n ∧ n * k ≤ l.length ∧ frzL (lndP H d) (l.take (n * k)) c
    | .lp i ver o, .fp false c => ∃ l, blkAt H i ver = some l ∧ o ≤ l.length ∧ frzL (lndP H d) (l.drop o) c
    | _, _ => False
theorem lndL_sound {H : List Blk} {F : A → A → Prop} (hF : ∀ a b, F a b → Ld H a b) : ∀ {l r : List A}, frzL F l r → LdL H l r
  | [], [], _ => trivial
  | a :: l, b :: r, h => ⟨hF a b h.1, lndL_sound hF h.2⟩
  | [], _ :: _, h => h.elim
  | _ :: _, [], h => h.elim
theorem lndP_sound {H : List Blk} : ∀ (d : Nat) (a b : A), lndP H d a b → Ld H a b
  | 0, a, b, h => h.elim
  | d + 1, a, b, h => by
    have ih := fun {l r : List A} (h : frzL (lndP H d) l r) => lndL_sound (lndP_sound d) h
    unfold lndP at h
    split at h
    · exact Ld.any
    · exact ld_nilA _
    · subst h; exact Ld.refl rfl
    · exact Ld.agg (ih h)
    · obtain ⟨rfl, h⟩ := h; exact Ld.fn (ih h)
    · obtain ⟨h, rfl | rfl, rfl⟩ := h
      · exact Ld.refl h
      · exact Ld.fs h
    · obtain ⟨h, rfl | rfl, rfl⟩ := h
      · exact Ld.refl h
      · exact Ld.fp h
    · obtain ⟨l, h1, c, h2, h3, h4, h5⟩ := h
      have hc := frzL_len h5
      rw [List.length_take, List.length_drop] at hc
      rename_i i ver k o n els
      have h6 : LdL H l (List.replicate (l.take o).length A.any ++ (c ++ List.replicate (l.drop (o + n * k)).length A.any)) := by
        have := LdL.cat (LdL.anys (H := H) (l.take o)) (LdL.cat (ih h5) (LdL.anys (l.drop (o + n * k))))
        rwa [part_eq h4] at this
      exact Ld.sl h1 h6 (by rw [part_get h4 (by omega)]; exact h2) h3 (by simp; omega)
    · obtain ⟨l, h1, c, h2, h3, h4, h5⟩ := h
      have hc := frzL_len h5
      rw [List.length_take] at hc
      rename_i i ver k n els
      have h6 : LdL H l (c ++ List.replicate (l.drop (n * k)).length A.any) := by
        have := LdL.cat (ih h5) (LdL.anys (l.drop (n * k)))
        rwa [List.take_append_drop] at this
      exact Ld.vs h1 h6 (by rw [List.take_append_of_le_length (by omega), List.take_of_length_le (by omega)]; exact h2) h3 (by simp; omega)
    · obtain ⟨l, h1, h4, h5⟩ := h
      rename_i o c
      have hc := frzL_len h5
      have h6 : LdL H l (List.replicate (l.take o).length A.any ++ c) := by
        have := LdL.cat (LdL.anys (H := H) (l.take o)) (ih h5)
        rwa [List.take_append_drop] at this
      have h7 := Ld.lp (o := o) h1 h6 (by simp; omega)
      have e : (List.replicate (l.take o).length A.any ++ c).drop o = c := by
        have : (l.take o).length = o := by simp; omega
        rw [this, List.drop_append_of_le_length (by simp), List.drop_of_length_le (by simp), List.nil_append]
      rw [e] at h7; exact h7
    · exact h.elim
theorem ld_all {H : List Blk} {l r : List A} (h : frzL (lndP H 9) l r) : LdL H l r := lndL_sound (lndP_sound 9) h


section
variable (H : List Blk) (d : Nat)
theorem frzL_nil (F : A → A → Prop) : frzL F [] [] = True := rfl
theorem frzL_cons (F : A → A → Prop) (a b : A) (l r : List A) : frzL F (a :: l) (b :: r) = (F a b ∧ frzL F l r) := rfl
theorem fzp_any (a : A) : frzP H (d + 1) a .any = True := by unfold frzP; cases a <;> first | rfl | (rename_i x; cases x <;> rfl)
theorem fzp_nil : frzP H (d + 1) (.v (.slice none 0 0)) (.fs true []) = True := rfl
theorem fzp_v (x y : Value) : frzP H (d + 1) (.v x) (.v y) = (x = y) := by unfold frzP; split <;> simp_all
theorem fzp_agg (l r : List A) : frzP H (d + 1) (.agg l) (.agg r) = frzL (frzP H d) l r := rfl
theorem fzp_tup (l r : List A) : frzP H (d + 1) (.tup l) (.tup r) = frzL (frzP H d) l r := rfl
theorem fzp_fn (f g : Nat) (l r : List A) : frzP H (d + 1) (.fn f l) (.fn g r) = (f = g ∧ frzL (frzP H d) l r) := rfl
theorem fzp_fs (w w' : Bool) (l r : List A) : frzP H (d + 1) (.fs w l) (.fs w' r) = (A.bdL 0 l = true ∧ w = w' ∧ l = r) := by cases w <;> cases w' <;> cases r <;> rfl
theorem fzp_fp (w w' : Bool) (l r : List A) : frzP H (d + 1) (.fp w l) (.fp w' r) = (A.bdL 0 l = true ∧ w = w' ∧ l = r) := by cases w <;> cases w' <;> cases r <;> rfl
theorem fzp_sl (i ver k o n : Nat) (els : List A) : frzP H (d + 1) (.sl i ver k o n) (.fs true els) = ∃ l, blkAt H i ver = some l ∧ ∃ c, flatA k els = some c ∧ els.length = n ∧ o + n * k ≤ l.length ∧ frzL (frzP H d) ((l.drop o).take (n * k)) c := by cases els <;> rfl
theorem fzp_vs (i ver k n : Nat) (els : List A) : frzP H (d + 1) (.vs i ver k n) (.fs true els) = ∃ l, blkAt H i ver = some l ∧ ∃ c, flatA k els = some c ∧ els.length = n ∧ n * k ≤ l.length ∧ frzL (frzP H d) (l.take (n * k)) c := by cases els <;> rfl
theorem fzp_lp (i ver o : Nat) (c : List A) : frzP H (d + 1) (.lp i ver o) (.fp true c) = ∃ l, blkAt H i ver = some l ∧ o ≤ l.length ∧ frzL (frzP H d) (l.drop o) c := by cases c <;> rfl
theorem ldp_any (a : A) : lndP H (d + 1) a .any = True := by unfold lndP; cases a <;> first | rfl | (rename_i x; cases x <;> rfl)
theorem ldp_nil : lndP H (d + 1) (.v (.slice none 0 0)) (.fs false []) = True := rfl
theorem ldp_v (x y : Value) : lndP H (d + 1) (.v x) (.v y) = (x = y) := by unfold lndP; split <;> simp_all
theorem ldp_agg (l r : List A) : lndP H (d + 1) (.agg l) (.agg r) = frzL (lndP H d) l r := rfl
theorem ldp_fn (f g : Nat) (l r : List A) : lndP H (d + 1) (.fn f l) (.fn g r) = (f = g ∧ frzL (lndP H d) l r) := rfl
theorem ldp_fs (w w' : Bool) (l r : List A) : lndP H (d + 1) (.fs w l) (.fs w' r) = (A.bdL 0 l = true ∧ (w = w' ∨ w' = false) ∧ l = r) := by cases w <;> cases w' <;> cases r <;> rfl
theorem ldp_fp (w w' : Bool) (l r : List A) : lndP H (d + 1) (.fp w l) (.fp w' r) = (A.bdL 0 l = true ∧ (w = w' ∨ w' = false) ∧ l = r) := by cases w <;> cases w' <;> cases r <;> rfl
theorem ldp_sl (i ver k o n : Nat) (els : List A) : lndP H (d + 1) (.sl i ver k o n) (.fs false els) = ∃ l, blkAt H i ver = some l ∧ ∃ c, flatA k els = some c ∧ els.length = n ∧ o + n * k ≤ l.length ∧ frzL (lndP H d) ((l.drop o).take (n * k)) c := by cases els <;> rfl
theorem ldp_vs (i ver k n : Nat) (els : List A) : lndP H (d + 1) (.vs i ver k n) (.fs false els) = ∃ l, blkAt H i ver = some l ∧ ∃ c, flatA k els = some c ∧ els.length = n ∧ n * k ≤ l.length ∧ frzL (lndP H d) (l.take (n * k)) c := by cases els <;> rfl
theorem ldp_lp (i ver o : Nat) (c : List A) : lndP H (d + 1) (.lp i ver o) (.fp false c) = ∃ l, blkAt H i ver = some l ∧ o ≤ l.length ∧ frzL (lndP H d) (l.drop o) c := by cases c <;> rfl
end
/-- A variable is forgotten. -/
theorem Cut.drop {n0 : Nat} {e : List A} {H : List Blk} (i : Nat) : Cut n0 e H (e.set i .any) H := fun c ev h1 h2 h3 h4 =>
  ⟨c, h1, rfl, Lat.refl _ _, h3, by simpa using h4.1, fun j a x ha hx => by
    rw [List.getElem?_set] at ha
    split at ha
    · split at ha
      · cases ha; exact .any x
      · cases ha
    · exact h4.2 j a x ha hx⟩
end Go.Lft
namespace Go.Proofs.Ytfnghkmchlfooaa
open Go Go.Lft
set_option linter.unusedSimpArgs false
set_option linter.unusedVariables false
attribute [local congr] ob_congr bw_congr ib_congr ck_congr iwA_congr itA_congr aw_congr awp_congr sqA_congr bkA_congr vr_congr gd_congr

theorem gcheck_plant {p : Pl} (h : POk p) : gcheck p.ms.length (arcsR p) = 0 := by
  unfold gcheck
  have h1 := h.n1
  have h2 := h.n2
  have h3 := h.b2
  have h4 := arcsR_len p
  rw [if_neg (by omega), if_neg (by omega), if_neg]
  rintro ⟨i, hi, hb⟩
  rw [arcsR_get p i (by omega)] at hb
  have := h.bt _ (mem_get b0 (show i < p.bs.length by omega))
  unfold arcBad at hb
  simp only at hb
  omega
theorem inR_plant {p : Pl} (h : POk p) : inR p.ms.length (arcsR p) := (gcheck_ok (gcheck_plant h)).2.2.2
end Go.Proofs.Ytfnghkmchlfooaa
namespace Go.Proofs.Ytfnghkmchlfooaa
open Go Go.Lft
set_option linter.unusedSimpArgs false
set_option linter.unusedVariables false

/-- Groups that part the nodes. -/
structure GP (n : Int) (l : Arcs) (G : List (List Int)) : Prop where
  len : G.length ≤ n.toNat
  rlen : ∀ k, k < G.length → (G.getD k []).length ≤ n.toNat
  rng : ∀ k, k < G.length → ∀ x ∈ G.getD k [], 0 ≤ x ∧ x < n
  apart : ∀ i k, i < k → k < G.length → ∀ x ∈ G.getD i [], x ∉ G.getD k []
  nd : ∀ k, k < G.length → (G.getD k []).Pairwise (· < ·)
  cover : ∀ x, 0 ≤ x → x < n → ∃ k, k < G.length ∧ x ∈ G.getD k []
  same : ∀ k, k < G.length → ∀ x ∈ G.getD k [], ∀ y, 0 ≤ y → y < n → (y ∈ G.getD k [] ↔ both n l x.toNat y.toNat = true)
  ne : ∀ k, k < G.length → G.getD k [] ≠ []
  cnt : ∀ k, k < G.length → (G.getD k []).length = ((List.range n.toNat).filter fun i : Nat => decide ((i : Int) ∈ G.getD k [])).length
theorem gp_of {n : Int} {l : Arcs} (hr : inR n l) : GP n l (gst n l n.toNat).2 := by
  have hG := gst_reps n l n.toNat
  have hlt := reps_lt n l n.toNat
  have hap := reps_apart hr n.toNat (Nat.le_refl _)
  have hlen : (gst n l n.toNat).2.length = (reps n l n.toNat).length := by rw [hG, List.length_map]
  have hget : ∀ k, k < (reps n l n.toNat).length → ∃ r, (reps n l n.toNat)[k]? = some r ∧ r < n.toNat ∧ (gst n l n.toNat).2.getD k [] = memb n l r 0 n.toNat := fun k hk => by
    refine ⟨(reps n l n.toNat)[k], by simp [hk], hlt _ (List.getElem_mem hk), ?_⟩
    rw [hG, List.getD_eq_getElem?_getD, List.getElem?_map, List.getElem?_eq_getElem hk]; rfl
  refine ⟨gst_len n l n.toNat, fun k hk => ?_, fun k hk x hx => ?_, fun i k hik hk x hx hx' => ?_, fun k hk => ?_, fun x h0 h1 => ?_, fun k hk x hx y hy0 hy1 => ?_, fun k hk => ?_, fun k hk => ?_⟩
  · obtain ⟨r, _, _, h⟩ := hget k (by omega)
    rw [h]; exact memb_len n l r 0 n.toNat
  · obtain ⟨r, _, _, h⟩ := hget k (by omega)
    rw [h, memb_mem] at hx
    omega
  · obtain ⟨r, g1, g2, h⟩ := hget k (by omega)
    obtain ⟨s, g3, g4, h'⟩ := hget i (by omega)
    rw [h', memb_mem] at hx
    rw [h, memb_mem] at hx'
    obtain ⟨i1, i2⟩ := List.getElem?_eq_some_iff.1 g3
    obtain ⟨k1, k2⟩ := List.getElem?_eq_some_iff.1 g1
    have hf := List.pairwise_iff_getElem.1 hap i k i1 k1 hik
    rw [i2, k2] at hf
    have := b_trans hr g4 (by omega) g2 hx.2.2 (b_symm hr g2 (by omega) hx'.2.2)
    rw [hf] at this; cases this
  · obtain ⟨r, _, _, h⟩ := hget k (by omega)
    rw [h]; exact memb_lt n l r 0 n.toNat
  · obtain ⟨r, h2, h3⟩ := reps_cover hr n.toNat (Nat.le_refl _) x.toNat (by omega)
    obtain ⟨k, hk, rfl⟩ := List.mem_iff_getElem.1 h2
    obtain ⟨s, g1, _, h⟩ := hget k hk
    obtain ⟨_, k2⟩ := List.getElem?_eq_some_iff.1 g1
    refine ⟨k, by omega, ?_⟩
    rw [h, ← k2, memb_mem]
    exact ⟨h0, by omega, h3⟩
  · obtain ⟨r, _, g2, h⟩ := hget k (by omega)
    rw [h, memb_mem] at hx ⊢
    constructor
    · rintro ⟨_, _, h3⟩
      exact b_trans hr (by omega) g2 (by omega) (b_symm hr g2 (by omega) hx.2.2) h3
    · intro h3
      exact ⟨hy0, by omega, b_trans hr g2 (by omega) (by omega) hx.2.2 h3⟩
  · obtain ⟨r, _, g2, h⟩ := hget k (by omega)
    rw [h]
    have : (r : Int) ∈ memb n l r 0 n.toNat := memb_mem.2 ⟨by omega, by omega, by rw [Int.toNat_natCast]; exact b_refl hr g2⟩
    intro hc; rw [hc] at this; simp at this
  · obtain ⟨r, _, g2, h⟩ := hget k (by omega)
    rw [h]
    have e : (memb n l r 0 n.toNat).length = ((List.range n.toNat).filter fun j => decide (0 ≤ j) && both n l r j).length := by unfold memb; rw [List.length_map]
    rw [e]
    refine congrArg List.length (List.filter_congr fun i hi => ?_)
    have hi : i < n.toNat := by simpa using hi
    have := memb_mem (n := n) (l := l) (r := r) (b := n.toNat) (x := (i : Int))
    rw [Int.toNat_natCast] at this
    rw [Bool.eq_iff_iff, decide_eq_true_eq, this]
    simp; omega

theorem getD_setC {α : Type} (l : List α) (i j : Nat) (y d : α) : (l.set i y).getD j d = if i = j ∧ j < l.length then y else l.getD j d := by
  rw [List.getD_eq_getElem?_getD, List.getElem?_set, List.getD_eq_getElem?_getD]
  by_cases h : i = j
  · subst h
    by_cases h2 : i < l.length
    · simp [h2]
    · simp [h2]
  · simp [h]
/-- The group of each machine. -/
def ofN (G : List (List Int)) : Nat → Int → Int
  | 0, _ => 0
  | k + 1, x => if x ∈ G.getD k [] then k else ofN G k x
def ofM (G : List (List Int)) (k j : Nat) (x : Int) : Int := if x ∈ (G.getD k []).take j then k else ofN G k x
def tabI (n : Nat) (f : Int → Int) : List Int := (List.range n).map fun i : Nat => f (i : Int)
theorem tabI_len (n : Nat) (f : Int → Int) : (tabI n f).length = n := by simp [tabI]
theorem tabI_get (n : Nat) (f : Int → Int) (i : Nat) (h : i < n) : (tabI n f).getD i 0 = f i := by simp [tabI, List.getD_eq_getElem?_getD, h]
theorem tabI_ext {n : Nat} {f g : Int → Int} (h : ∀ i : Nat, i < n → f i = g i) : tabI n f = tabI n g := List.map_congr_left fun i hi => h i (by simpa using hi)
theorem tabI_set {n : Nat} (f : Int → Int) (i : Nat) (v : Int) (h : i < n) : (tabI n f).set i v = tabI n fun x => if x = i then v else f x := by
  refine eq_of_get 0 (by simp [tabI]) fun j hj => ?_
  rw [List.length_set, tabI_len] at hj
  rw [tabI_get _ _ _ hj, getD_setC, tabI_len, tabI_get _ _ _ hj]
  by_cases hij : i = j
  · subst hij; rw [if_pos ⟨rfl, h⟩, if_pos rfl]
  · rw [if_neg (fun h => hij h.1), if_neg (by omega)]
theorem tabI_rep (n : Nat) : List.replicate n (0 : Int) = tabI n fun _ => 0 := by
  refine eq_of_get 0 (by simp [tabI]) fun j hj => ?_
  simp only [List.length_replicate] at hj
  rw [tabI_get _ _ _ hj]; simp [List.getD_eq_getElem?_getD, hj]
theorem ofM_zero (G : List (List Int)) (k : Nat) (x : Int) : ofM G k 0 x = ofN G k x := by unfold ofM; simp
theorem ofM_all (G : List (List Int)) (k : Nat) (x : Int) : ofM G k (G.getD k []).length x = ofN G (k + 1) x := by unfold ofM; rw [List.take_length]; rfl
theorem ofM_step (G : List (List Int)) (k j : Nat) (hj : j < (G.getD k []).length) (x : Int) : ofM G k (j + 1) x = if x = (G.getD k []).getD j 0 then (k : Int) else ofM G k j x := by
  unfold ofM
  rw [take_succ_get' _ j 0 hj]
  by_cases hx : x = (G.getD k []).getD j 0
  · rw [if_pos hx, if_pos (by rw [List.mem_append, List.mem_singleton]; exact .inr hx)]
  · rw [if_neg hx]
    have : x ∈ (G.getD k []).take j ++ [(G.getD k []).getD j 0] ↔ x ∈ (G.getD k []).take j := by
      rw [List.mem_append, List.mem_singleton]
      exact ⟨fun h => h.resolve_right hx, .inl⟩
    simp only [this]
section
variable {n : Int} {l : Arcs} {G : List (List Int)} (h : GP n l G)
include h
theorem ofN_at {k : Nat} (hk : k < G.length) {x : Int} (hx : x ∈ G.getD k []) : ofN G G.length x = k := by
  have : ∀ j, k < j → j ≤ G.length → ofN G j x = k := by
    intro j
    induction j with
    | zero => intro h1; omega
    | succ j ih =>
      intro h1 h2
      simp only [ofN]
      by_cases hj : k = j
      · subst hj; rw [if_pos hx]
      · rw [if_neg (h.apart k j (by omega) (by omega) x hx), ih (by omega) (by omega)]
  exact this _ hk (Nat.le_refl _)
theorem ofN_mem {x : Int} (h0 : 0 ≤ x) (h1 : x < n) : 0 ≤ ofN G G.length x ∧ ofN G G.length x < G.length ∧ x ∈ G.getD (ofN G G.length x).toNat [] := by
  obtain ⟨k, hk, hx⟩ := h.cover x h0 h1
  rw [ofN_at h hk hx]
  exact ⟨by omega, by omega, by simpa using hx⟩
theorem ofN_iff {x : Int} (h0 : 0 ≤ x) (h1 : x < n) {k : Nat} (hk : k < G.length) : ofN G G.length x = k ↔ x ∈ G.getD k [] := by
  obtain ⟨g1, g2, g3⟩ := ofN_mem h h0 h1
  constructor
  · intro he; rw [he] at g3; simpa using g3
  · exact fun hx => ofN_at h hk hx
end

theorem set_self {H : List Blk} {j ver : Nat} {l : List A} (h : blkAt H j ver = some l) : H.set j ⟨ver, l⟩ = H := by
  obtain ⟨B, h1, h2, h3⟩ := blkAt_iff.1 h
  have : B = ⟨ver, l⟩ := by cases B; simp at h2 h3; subst h2; subst h3; rfl
  subst this
  apply List.ext_getElem?
  intro k
  rw [List.getElem?_set]
  split
  · rename_i hk; subst hk; rw [if_pos (blkAt_lt h), h1]
  · rfl
/-- The same where something of what was made is kept. -/
theorem Cut.app2 {n0 : Nat} {e e' : List A} {H : List Blk} (P T : List Blk) (hn : n0 ≤ (H ++ P).length) (hb : okB (H ++ P).length (H ++ P)) (he : FzL (H ++ P).length (H ++ (P ++ T)) e e') : Cut n0 e (H ++ (P ++ T)) e' (H ++ P) := by
  rw [← List.append_assoc] at he ⊢
  exact Cut.app hn hb he
/-! ### The calls -/
def grp (G : List (List Int)) (m : Int) : List Int := G.getD (ofN G G.length m).toNat []
def jamP (st r : List Int) : Prop := ∃ x ∈ r, st.getD x.toNat 0 = 2
instance (st r : List Int) : Decidable (jamP st r) := by unfold jamP; infer_instance
def blkP (l : Arcs) (r st : List Int) : Prop := ∃ a ∈ l, a.1 ∈ r ∧ a.2 ∉ r ∧ st.getD a.2.toNat 0 ≠ 1
instance (l : Arcs) (r st : List Int) : Decidable (blkP l r st) := by unfold blkP; infer_instance
def setG (st r : List Int) (v : Int) : List Int := r.foldl (fun s x => s.set x.toNat v) st
theorem setG_nil (st : List Int) (v : Int) : setG st [] v = st := rfl
theorem setG_snoc (st r : List Int) (x v : Int) : setG st (r ++ [x]) v = (setG st r v).set x.toNat v := by unfold setG; rw [List.foldl_append]; rfl
theorem setG_len (v : Int) : ∀ (r st : List Int), (setG st r v).length = st.length
  | [], st => rfl
  | x :: r, st => by show (setG (st.set x.toNat v) r v).length = _; rw [setG_len v r]; simp
def stp (s : Int) : Int := if s = 1 then 0 else s
def stopF (B : List Bool) (st : List Int) (k : Nat) : List Int := tabI st.length fun i => if i < k ∧ B.getD i.toNat false = true then stp (st.getD i.toNat 0) else st.getD i.toNat 0
theorem stopF_len (B : List Bool) (st : List Int) (k : Nat) : (stopF B st k).length = st.length := tabI_len _ _
theorem stopF_get (B : List Bool) (st : List Int) (k i : Nat) (h : i < st.length) : (stopF B st k).getD i 0 = if i < k ∧ B.getD i false = true then stp (st.getD i 0) else st.getD i 0 := by
  unfold stopF; rw [tabI_get _ _ _ h, Int.toNat_natCast]; simp only [Int.ofNat_lt]
theorem stopF_zero (B : List Bool) (st : List Int) : stopF B st 0 = st := by
  refine eq_of_get 0 (stopF_len _ _ _) fun i hi => ?_
  rw [stopF_len] at hi
  rw [stopF_get _ _ _ _ hi, if_neg (by omega)]
theorem stopF_succ (B : List Bool) (st : List Int) (k : Nat) (h : k < st.length) : stopF B st (k + 1) = if B.getD k false = true then (stopF B st k).set k (stp (st.getD k 0)) else stopF B st k := by
  refine eq_of_get 0 (by split <;> simp [stopF_len]) fun i hi => ?_
  rw [stopF_len] at hi
  rw [stopF_get _ _ _ _ hi]
  by_cases hb : B.getD k false = true
  · rw [if_pos hb, getD_setC, stopF_len, stopF_get _ _ _ _ hi]
    by_cases hik : k = i
    · subst hik; rw [if_pos ⟨by omega, hb⟩, if_pos ⟨rfl, hi⟩]
    · rw [if_neg (c := k = i ∧ i < st.length) (fun h => hik h.1)]
      by_cases hi2 : i < k + 1 ∧ B.getD i false = true
      · rw [if_pos hi2, if_pos ⟨by omega, hi2.2⟩]
      · rw [if_neg hi2, if_neg (fun h => hi2 ⟨by omega, h.2⟩)]
  · rw [if_neg hb, stopF_get _ _ _ _ hi]
    by_cases hik : i = k
    · subst hik; rw [if_neg (fun h => hb h.2), if_neg (fun h => hb h.2)]
    · by_cases hi2 : i < k + 1 ∧ B.getD i false = true
      · rw [if_pos hi2, if_pos ⟨by omega, hi2.2⟩]
      · rw [if_neg hi2, if_neg (fun h => hi2 ⟨by omega, h.2⟩)]
theorem stopF_at (B : List Bool) (st : List Int) (k : Nat) (h : k < st.length) : (stopF B st k).getD k 0 = st.getD k 0 := by
  rw [stopF_get _ _ _ _ h, if_neg (by omega)]

/-- A plant's graph and groups. -/
structure Cn where
  n : Nat
  l : Arcs
def Cn.G (c : Cn) : List (List Int) := (gst c.n c.l c.n).2
def Cn.bk (c : Cn) (m : Int) : List Bool := reachL c.n (backL c.l) m
def Cn.bad (c : Cn) (m : Int) : Prop := m < 0 ∨ (c.n : Int) ≤ m
instance (c : Cn) (m : Int) : Decidable (c.bad m) := by unfold Cn.bad; infer_instance
def startR (c : Cn) (st : List Int) (m : Int) : Int × List Int :=
  if c.bad m then (7, st) else if jamP st (grp c.G m) then (24, st) else if blkP c.l (grp c.G m) st then (13, st) else (0, setG st (grp c.G m) 1)
def stopL (c : Cn) (st : List Int) (m : Int) : List Int := stopF (c.bk m) st c.n
def stopR (c : Cn) (st : List Int) (m : Int) : Int × List Int := if c.bad m then (7, st) else (0, stopL c st m)
def jamR (c : Cn) (st : List Int) (m : Int) : Int × List Int := if c.bad m then (7, st) else (0, (stopL c st m).set m.toNat 2)
def clearR (c : Cn) (st : List Int) (m : Int) : Int × List Int := if c.bad m then (7, st) else if st.getD m.toNat 0 ≠ 2 then (13, st) else (0, st.set m.toNat 0)
def stateR (c : Cn) (st : List Int) (m : Int) : Int × Int := if c.bad m then (0, 7) else (st.getD m.toNat 0, 0)
def unsP (st : List Int) (a : Int × Int) : Prop := st.getD a.1.toNat 0 = 1 ∧ st.getD a.2.toNat 0 ≠ 1
instance (st : List Int) : DecidablePred (unsP st) := fun a => by unfold unsP; infer_instance
def safeP (c : Cn) (st : List Int) : Prop := ∀ a ∈ c.l, ¬ unsP st a
instance (c : Cn) (st : List Int) : Decidable (safeP c st) := by unfold safeP; infer_instance
def actR (c : Cn) (st : List Int) (a : Int × Int) : Int × List Int := if a.1 = 0 then startR c st a.2 else if a.1 = 1 then stopR c st a.2 else if a.1 = 2 then jamR c st a.2 else clearR c st a.2
def runR (c : Cn) (st : List Int) : List (Int × Int) → List Int
  | [] => st
  | a :: r => runR c (actR c st a).2 r
theorem runR_snoc (c : Cn) (a : Int × Int) : ∀ (r : List (Int × Int)) (st : List Int), runR c st (r ++ [a]) = (actR c (runR c st r) a).2
  | [], _ => rfl
  | b :: r, st => runR_snoc c a r _
theorem runR_take (c : Cn) (st : List Int) (l : List (Int × Int)) (k : Nat) (h : k < l.length) : runR c st (l.take (k + 1)) = (actR c (runR c st (l.take k)) (l.getD k (0, 0))).2 := by
  rw [take_succ_get' l k (0, 0) h, runR_snoc]
theorem startR_len (c : Cn) (st : List Int) (m : Int) : (startR c st m).2.length = st.length := by
  unfold startR
  split
  · rfl
  split
  · rfl
  split
  · rfl
  · exact setG_len _ _ _
theorem stopL_len (c : Cn) (st : List Int) (m : Int) : (stopL c st m).length = st.length := stopF_len _ _ _
theorem actR_len (c : Cn) (st : List Int) (a : Int × Int) : (actR c st a).2.length = st.length := by
  unfold actR stopR jamR clearR
  split
  · exact startR_len c st a.2
  split
  · split
    · rfl
    · exact stopL_len _ _ _
  split
  · split
    · rfl
    · rw [List.length_set]; exact stopL_len _ _ _
  split
  · rfl
  split
  · rfl
  · simp
theorem runR_len (c : Cn) : ∀ (l : List (Int × Int)) (st : List Int), (runR c st l).length = st.length
  | [], _ => rfl
  | a :: l, st => by rw [runR, runR_len c l, actR_len]
end Go.Proofs.Ytfnghkmchlfooaa
namespace Go.Proofs.Ytfnghkmchlfooaa
open Go Go.Lft
set_option linter.unusedSimpArgs false
set_option linter.unusedVariables false
attribute [local congr] ob_congr bw_congr ib_congr ck_congr iwA_congr itA_congr aw_congr awp_congr sqA_congr bkA_congr vr_congr gd_congr

def cnP (p : Pl) : Cn := ⟨p.ms.length, arcsR p⟩
def Cn.of (c : Cn) : List Int := tabI c.n (ofN c.G c.G.length)
theorem Cn.of_len (c : Cn) : c.of.length = c.n := tabI_len _ _
structure CnOk (c : Cn) : Prop where
  gp : GP c.n c.l c.G
  r : inR c.n c.l
  g : gcheck c.n c.l = 0
  n1 : c.n ≤ 64
  l1 : c.l.length ≤ 512
theorem cn_ok {p : Pl} (h : pcheck p = 0) : CnOk (cnP p) := by
  have ok := pcheck_ok h
  have hg := gcheck_plant ok
  have hr := inR_plant ok
  obtain ⟨c1, c2, c3, c4⟩ := gcheck_ok hg
  have := gp_of hr
  rw [Int.toNat_natCast] at this
  exact ⟨this, hr, hg, by show p.ms.length ≤ 64; omega, c3⟩
theorem CnOk.G1 {c : Cn} (h : CnOk c) : c.G.length ≤ 64 := by have := h.gp.len; have := h.n1; omega
theorem CnOk.G2 {c : Cn} (h : CnOk c) {k : Nat} (hk : k < c.G.length) : (c.G.getD k []).length ≤ 64 := by have := h.gp.rlen k hk; have := h.n1; omega

theorem controlGroups_err {w v : Bool} {p : Pl} (h : pcheck p ≠ 0) : VR P false n_control_groups [plA w v p] [] (isR (.tup [.agg [.v (.int .i64 0), .fs true []], .fs true [], .fs true [], .v (.int .i64 (pcheck p))])) := by
  refine vr_control_groups (by simp) (.inr rfl) fun _ _ => ?_
  have hv := layoutGraph_vr (w := w) (v := v) p
  rw [pgraph_err h] at hv
  unfold graphT graphA at hv
  unfold plA plC at hv ⊢
  simp (disch := ((try simp only [List.length_set, List.length_replicate, List.length_append, List.length_cons, List.length_nil]); omega)) only [aW, aX, aV, aB, aN, aL, aP, aH, aM, s_control_groups, v_control_groups]
  refine hv.same (by simp (disch := first | omega | simp (disch := omega) only [aF, aL, aN, aM]) only [aW, aX, aV, aB, aN, aL, aP, aH, aM, aF, Int.natCast_add, Int.natCast_mul, Int.add_sub_cancel, List.length_nil, Int.cast_ofNat_Int, and_true, true_and]) (by simp (disch := first | omega | simp (disch := omega) only [aF, aL, aN, aM]) only [aW, aX, aV, aB, aN, aL, aP, aH, aM, aF, Int.natCast_add, Int.natCast_mul, Int.add_sub_cancel, List.length_nil, Int.cast_ofNat_Int, and_true, true_and]) (aret_of ?_)
  simp (disch := ((try simp only [List.length_set, List.length_replicate, List.length_append, List.length_cons, List.length_nil]); omega)) only [aW, aX, aV, aB, aN, aL, aP, aH, aM, r_control_groups]
  exact post0 (r := .tup [.agg [.v (.int .i64 0), .fs true []], .fs true [], .fs true [], .v (.int .i64 (pcheck p))]) (Fz.tup ⟨Fz.refl rfl, fz_nil _ _, fz_nil _ _, Fz.refl rfl, trivial⟩) ⟨rfl, rfl⟩
theorem controlGroups_ok {w v : Bool} {p : Pl} (h : pcheck p = 0) : VR P false n_control_groups [plA w v p] [] (isR (.tup [.agg [.v (.int .i64 (cnP p).n), .fs true (pairs (cnP p).l)], .fs true (rows true (cnP p).G), .fs true (ints (cnP p).of), .v (.int .i64 0)])) := by
  refine vr_control_groups (by simp) (.inr rfl) fun _ _ => ?_
  have hv := layoutGraph_vr (w := w) (v := v) p
  have hv2 := groups_vr (w := true) p.ms.length (arcsR p)
  have ok := cn_ok h
  rw [pgraph_ok h] at hv
  have hgr : groupsR p.ms.length (arcsR p) = ((cnP p).G, 0) := by unfold groupsR; rw [if_neg (by have := ok.g; unfold cnP at this; simp only at this; omega), Int.toNat_natCast]; rfl
  rw [hgr] at hv2
  have hn : p.ms.length = (cnP p).n := rfl
  have hl : arcsR p = (cnP p).l := rfl
  unfold graphT graphA at hv
  unfold graphA at hv2
  rw [hn, hl] at hv hv2
  unfold plA plC at hv ⊢
  have g1 := ok.G1
  have g2 := fun k hk => ok.G2 (k := k) hk
  have n1 := ok.n1
  have hofe : (cnP p).of = tabI (cnP p).n (ofN (cnP p).G (cnP p).G.length) := rfl
  have gr := ok.gp.rng
  generalize (cnP p).of = O at *
  generalize (cnP p).G = G at *
  generalize (cnP p).l = l at *
  generalize hcn : (cnP p).n = n at *
  simp (disch := ((try simp only [List.length_set, List.length_replicate, List.length_append, List.length_cons, List.length_nil]); omega)) only [aW, aX, aV, aB, aN, aL, aP, aH, aM, s_control_groups, v_control_groups]
  refine hv.same (by simp (disch := first | omega | simp (disch := omega) only [aF, aL, aN, aM]) only [aW, aX, aV, aB, aN, aL, aP, aH, aM, aF, Int.natCast_add, Int.natCast_mul, Int.add_sub_cancel, List.length_nil, Int.cast_ofNat_Int, and_true, true_and]) (by simp (disch := first | omega | simp (disch := omega) only [aF, aL, aN, aM]) only [aW, aX, aV, aB, aN, aL, aP, aH, aM, aF, Int.natCast_add, Int.natCast_mul, Int.add_sub_cancel, List.length_nil, Int.cast_ofNat_Int, and_true, true_and]) (aret_of ?_)
  simp (disch := ((try simp only [List.length_set, List.length_replicate, List.length_append, List.length_cons, List.length_nil]); omega)) only [aW, aX, aV, aB, aN, aL, aP, aH, aM]
  refine hv2.same (by simp (disch := first | omega | simp (disch := omega) only [aF, aL, aN, aM]) only [aW, aX, aV, aB, aN, aL, aP, aH, aM, aF, Int.natCast_add, Int.natCast_mul, Int.add_sub_cancel, List.length_nil, Int.cast_ofNat_Int, and_true, true_and]) (by simp (disch := first | omega | simp (disch := omega) only [aF, aL, aN, aM]) only [aW, aX, aV, aB, aN, aL, aP, aH, aM, aF, Int.natCast_add, Int.natCast_mul, Int.add_sub_cancel, List.length_nil, Int.cast_ofNat_Int, and_true, true_and]) (aret_of ?_)
  simp (disch := ((try simp only [List.length_set, List.length_replicate, List.length_append, List.length_cons, List.length_nil]); omega)) only [aW, aX, aV, aB, aN, aL, aP, aH, aM, Int.toNat_natCast]
  rw [tabI_rep]
  refine AWP.loopP g_control_groups_0 (fun k : Nat => k ≤ G.length) (fun k => [(10, .v (.int .i64 k))]) (fun k => [(3, ⟨0, ints (tabI n (ofN G k))⟩)]) (fun k => G.length - k) 0 (by omega) ?_ ?_
  · have e0 : (fun _ : Int => (0 : Int)) = ofN G 0 := rfl
    rw [e0]
    try simp (disch := ((try simp only [List.length_set, List.length_replicate, List.length_append, List.length_cons, List.length_nil]); omega)) only [aW, aX, aV, aB, aN, aL, aP, aH, aM]
    exact Cut.of' 4 rfl (by omega) (by simp (disch := first | omega | simp (disch := omega) only [aF, aL, aN, aM]) only [aW, aX, aV, aB, aN, aL, aP, aH, aM, aF, Int.natCast_add, Int.natCast_mul, Int.add_sub_cancel, List.length_nil, Int.cast_ofNat_Int, and_true, true_and]) (by simp (disch := first | omega | simp (disch := omega) only [aF, aL, aN, aM]) only [aW, aX, aV, aB, aN, aL, aP, aH, aM, aF, Int.natCast_add, Int.natCast_mul, Int.add_sub_cancel, List.length_nil, Int.cast_ofNat_Int, and_true, true_and])
  rintro k hk
  by_cases hlt : k < G.length
  · have hg2 := g2 k hlt
    have hgr2 := gr k hlt
    have e1 : tabI n (ofN G k) = tabI n (ofM G k 0) := tabI_ext fun i _ => (ofM_zero G k i).symm
    have e2 : tabI n (ofM G k (G.getD k []).length) = tabI n (ofN G (k + 1)) := tabI_ext fun i _ => ofM_all G k i
    have e3 := fun j hj => ofM_step G k j hj
    rw [e1]
    simp (disch := ((try simp only [List.length_set, List.length_replicate, List.length_append, List.length_cons, List.length_nil]); omega)) only [aW, aX, aV, aB, aN, aL, aP, aH, aM]
    refine AWP.loopP g_control_groups_1 (fun j : Nat => j ≤ (G.getD k []).length) (fun j => [(16, .v (.int .i64 j))]) (fun j => [(3, ⟨0, ints (tabI n (ofM G k j))⟩)]) (fun j => (G.getD k []).length - j) 0 (by omega) ?_ ?_
    · try simp (disch := ((try simp only [List.length_set, List.length_replicate, List.length_append, List.length_cons, List.length_nil]); omega)) only [aW, aX, aV, aB, aN, aL, aP, aH, aM]
      exact Cut.of' 4 rfl (by omega) (by simp (disch := first | omega | simp (disch := omega) only [aF, aL, aN, aM]) only [aW, aX, aV, aB, aN, aL, aP, aH, aM, aF, Int.natCast_add, Int.natCast_mul, Int.add_sub_cancel, List.length_nil, Int.cast_ofNat_Int, and_true, true_and]) (by simp (disch := first | omega | simp (disch := omega) only [aF, aL, aN, aM]) only [aW, aX, aV, aB, aN, aL, aP, aH, aM, aF, Int.natCast_add, Int.natCast_mul, Int.add_sub_cancel, List.length_nil, Int.cast_ofNat_Int, and_true, true_and])
    rintro j hj
    have tl := tabI_len n (ofM G k j)
    by_cases hjl : j < (G.getD k []).length
    · have hx := hgr2 _ (mem_get 0 hjl)
      have e4 : (tabI n (ofM G k j)).set ((G.getD k []).getD j 0).toNat (k : Int) = tabI n (ofM G k (j + 1)) := by
        rw [tabI_set _ _ _ (by omega)]
        refine tabI_ext fun i hi => ?_
        rw [e3 j hjl, Int.toNat_of_nonneg hx.1]
      simp (disch := ((try simp only [List.length_set, List.length_replicate, List.length_append, List.length_cons, List.length_nil]); omega)) only [aW, aX, aV, aB, aN, aL, aP, aH, aM, e4]
      refine ⟨j + 1, by omega, by omega, ?_⟩
      exact Cut.of' 4 rfl (by omega) (by simp (disch := first | omega | simp (disch := omega) only [aF, aL, aN, aM]) only [aW, aX, aV, aB, aN, aL, aP, aH, aM, aF, Int.natCast_add, Int.natCast_mul, Int.add_sub_cancel, List.length_nil, Int.cast_ofNat_Int, and_true, true_and]) (by simp (disch := first | omega | simp (disch := omega) only [aF, aL, aN, aM]) only [aW, aX, aV, aB, aN, aL, aP, aH, aM, aF, Int.natCast_add, Int.natCast_mul, Int.add_sub_cancel, List.length_nil, Int.cast_ofNat_Int, and_true, true_and])
    · have hje : j = (G.getD k []).length := by omega
      subst hje
      rw [e2]
      simp (disch := ((try simp only [List.length_set, List.length_replicate, List.length_append, List.length_cons, List.length_nil]); omega)) only [aW, aX, aV, aB, aN, aL, aP, aH, aM]
      refine ⟨k + 1, by omega, by omega, ?_⟩
      exact Cut.of' 4 rfl (by omega) (by simp (disch := first | omega | simp (disch := omega) only [aF, aL, aN, aM]) only [aW, aX, aV, aB, aN, aL, aP, aH, aM, aF, Int.natCast_add, Int.natCast_mul, Int.add_sub_cancel, List.length_nil, Int.cast_ofNat_Int, and_true, true_and]) (by simp (disch := first | omega | simp (disch := omega) only [aF, aL, aN, aM]) only [aW, aX, aV, aB, aN, aL, aP, aH, aM, aF, Int.natCast_add, Int.natCast_mul, Int.add_sub_cancel, List.length_nil, Int.cast_ofNat_Int, and_true, true_and])
  · have hke : k = G.length := by omega
    subst hke
    have tl := tabI_len n (ofN G G.length)
    rw [← hofe] at tl ⊢
    simp (disch := ((try simp only [List.length_set, List.length_replicate, List.length_append, List.length_cons, List.length_nil]); omega)) only [aW, aX, aV, aB, aN, aL, aP, aH, aM, r_control_groups]
    exact post0 (r := .tup [.agg [.v (.int .i64 n), .fs true (pairs l)], .fs true (rows true G), .fs true (ints O), .v (.int .i64 0)]) (Fz.tup ⟨Fz.refl (by simp (disch := first | omega | simp (disch := omega) only [aF, aL, aN, aM]) only [aW, aX, aV, aB, aN, aL, aP, aH, aM, aF, Int.natCast_add, Int.natCast_mul, Int.add_sub_cancel, List.length_nil, Int.cast_ofNat_Int, and_true, true_and]), Fz.refl (by simp (disch := first | omega | simp (disch := omega) only [aF, aL, aN, aM]) only [aW, aX, aV, aB, aN, aL, aP, aH, aM, aF, Int.natCast_add, Int.natCast_mul, Int.add_sub_cancel, List.length_nil, Int.cast_ofNat_Int, and_true, true_and]), fz_slI 0 _ 3 0 _ O (by omega) tl.symm rfl, Fz.refl rfl, trivial⟩) ⟨rfl, rfl⟩

/-! ### A panel in memory -/
def panC (c : Cn) (j : Nat) : List A := [.v (.int .i64 c.n), .fs true (pairs c.l), .fs true (rows true c.G), .fs true (ints c.of), .sl j 0 1 0 c.n]
structure PS (H : List Blk) (i j : Nat) (c : Cn) (st : List Int) : Prop where
  hi : blkAt H i 0 = some (panC c j)
  hj : blkAt H j 0 = some (ints st)
  ne : i ≠ j
  sl : st.length = c.n
theorem PS.set {H : List Blk} {i j : Nat} {c : Cn} {st : List Int} (h : PS H i j c st) (st' : List Int) (hl : st'.length = c.n) : PS (H.set j ⟨0, ints st'⟩) i j c st' :=
  ⟨by rw [blkAt_set_ne _ _ _ _ _ h.ne]; exact h.hi, blkAt_set_same _ _ _ _ (blkAt_lt h.hj), h.ne, hl⟩

theorem controlNew_err {w v : Bool} {p : Pl} (h : pcheck p ≠ 0) : VR P false n_control_New [plA w v p] [] (isR (.tup [.v (.pointer none), .v (.int .i64 (pcheck p))])) := by
  refine vr_control_New (by simp) (.inr rfl) fun _ _ => ?_
  have hv := controlGroups_err (w := w) (v := v) h
  unfold plA plC at hv ⊢
  simp (disch := ((try simp only [List.length_set, List.length_replicate, List.length_append, List.length_cons, List.length_nil]); omega)) only [aW, aX, aV, aB, aN, aL, aP, aH, aM, s_control_New, v_control_New]
  refine hv.same (by simp (disch := first | omega | simp (disch := omega) only [aF, aL, aN, aM]) only [aW, aX, aV, aB, aN, aL, aP, aH, aM, aF, Int.natCast_add, Int.natCast_mul, Int.add_sub_cancel, List.length_nil, Int.cast_ofNat_Int, and_true, true_and]) (by simp (disch := first | omega | simp (disch := omega) only [aF, aL, aN, aM]) only [aW, aX, aV, aB, aN, aL, aP, aH, aM, aF, Int.natCast_add, Int.natCast_mul, Int.add_sub_cancel, List.length_nil, Int.cast_ofNat_Int, and_true, true_and]) (aret_of ?_)
  simp (disch := ((try simp only [List.length_set, List.length_replicate, List.length_append, List.length_cons, List.length_nil]); omega)) only [aW, aX, aV, aB, aN, aL, aP, aH, aM, r_control_New]
  exact post0 (Fz.refl rfl) ⟨rfl, rfl⟩
/-- What a new panel brings along: two things of no use, the states, the panel. -/
def panG (c : Cn) (st : List Int) : List Blk := [⟨0, [.any, .any, .any, .any]⟩, ⟨0, [.any, .any]⟩, ⟨0, ints st⟩, ⟨0, panC c 2⟩]
theorem controlNew_ok {w v : Bool} {p : Pl} (h : pcheck p = 0) : VR P false n_control_New [plA w v p] [] (ownR (.tup [.lp 3 0 0, .v (.int .i64 0)]) (panG (cnP p) (List.replicate (cnP p).n 0))) := by
  refine vr_control_New (by simp) (.inr rfl) fun _ _ => ?_
  have hv := controlGroups_ok (w := w) (v := v) h
  have n1 := (cn_ok h).n1
  unfold panG panC
  unfold plA plC at hv ⊢
  generalize cnP p = c at *
  simp (disch := ((try simp only [List.length_set, List.length_replicate, List.length_append, List.length_cons, List.length_nil]); omega)) only [aW, aX, aV, aB, aN, aL, aP, aH, aM, s_control_New, v_control_New]
  refine hv.same (by simp (disch := first | omega | simp (disch := omega) only [aF, aL, aN, aM]) only [aW, aX, aV, aB, aN, aL, aP, aH, aM, aF, Int.natCast_add, Int.natCast_mul, Int.add_sub_cancel, List.length_nil, Int.cast_ofNat_Int, and_true, true_and]) (by simp (disch := first | omega | simp (disch := omega) only [aF, aL, aN, aM]) only [aW, aX, aV, aB, aN, aL, aP, aH, aM, aF, Int.natCast_add, Int.natCast_mul, Int.add_sub_cancel, List.length_nil, Int.cast_ofNat_Int, and_true, true_and]) (aret_of ?_)
  simp (disch := ((try simp only [List.length_set, List.length_replicate, List.length_append, List.length_cons, List.length_nil]); omega)) only [aW, aX, aV, aB, aN, aL, aP, aH, aM, Int.toNat_natCast, r_control_New]
  refine ⟨_, panG c (List.replicate c.n 0), ?_, rfl, rfl⟩
  unfold panG panC
  exact Cut.of' 4 rfl (by omega) (by simp (disch := first | omega | simp (disch := omega) only [aF, aL, aN, aM]) only [aW, aX, aV, aB, aN, aL, aP, aH, aM, aF, Int.natCast_add, Int.natCast_mul, Int.add_sub_cancel, List.length_nil, Int.cast_ofNat_Int, and_true, true_and]) ⟨Fz.refl rfl, trivial⟩
theorem panC_sh (n : Nat) (c : Cn) (j : Nat) : A.shL n (panC c j) = panC c (n + j) := by
  unfold panC
  simp only [A.shL, A.sh, shL_bd _ (p_bd 0 _), shL_bd _ (r_bd 0 _ _), shL_bd _ (ii_bd 0 _)]
theorem panG_sh (n : Nat) (c : Cn) (st : List Int) : (panG c st).map (Blk.sh n) = [⟨0, [.any, .any, .any, .any]⟩, ⟨0, [.any, .any]⟩, ⟨0, ints st⟩, ⟨0, panC c (n + 2)⟩] := by
  unfold panG
  simp only [List.map_cons, List.map_nil, Blk.sh, panC_sh, A.shL, A.sh, shL_bd _ (ii_bd 0 _)]
theorem panG_cl (c : Cn) (st : List Int) : ((panG c st).all fun B => A.clL B.cells) = true := by
  simp [panG, panC, A.clL, A.cl, p_cl, r_cl, ii_cl]

/-! ### The calls -/
theorem find_ps {H : List Blk} {i j : Nat} {c : Cn} {st : List Int} (h : PS H i j c st) (m : Int) : VR P false n_control_Panel_find [.lp i 0 0, .v (.int .i64 m)] H (fun r H' => r = .v (.int .i64 (if c.bad m then 7 else 0)) ∧ H' = H) := by
  refine vr_control_Panel_find (by simp) (.inl rfl) fun hb _ => ?_
  have hi := h.hi
  unfold panC at hi
  by_cases hm : c.bad m
  · have hm' := hm
    unfold Cn.bad at hm'
    rw [if_pos hm]
    simp (disch := ((try simp only [List.length_set, List.length_replicate, List.length_append, List.length_cons, List.length_nil]); omega)) only [aW, aX, aV, aB, aN, aL, aP, aH, aM, s_control_Panel_find, v_control_Panel_find, r_control_Panel_find, hi, decide_eq_true hm']
    exact post2 (R := fun r H' => _) ⟨rfl, rfl⟩
  · have hm' := hm
    unfold Cn.bad at hm'
    rw [if_neg hm]
    simp (disch := ((try simp only [List.length_set, List.length_replicate, List.length_append, List.length_cons, List.length_nil]); omega)) only [aW, aX, aV, aB, aN, aL, aP, aH, aM, s_control_Panel_find, v_control_Panel_find, r_control_Panel_find, hi, decide_eq_false hm']
    exact post2 (R := fun r H' => _) ⟨rfl, rfl⟩
theorem state_ps {H : List Blk} {i j : Nat} {c : Cn} {st : List Int} (h : PS H i j c st) (m : Int) : VR P false n_control_Panel_State [.lp i 0 0, .v (.int .i64 m)] H (fun r H' => r = .tup [.v (.int .i64 (stateR c st m).1), .v (.int .i64 (stateR c st m).2)] ∧ H' = H) := by
  refine vr_control_Panel_State (by simp) (.inl rfl) fun hb _ => ?_
  have hi := h.hi
  have hj := h.hj
  have sl := h.sl
  unfold panC at hi
  unfold stateR
  simp (disch := ((try simp only [List.length_set, List.length_replicate, List.length_append, List.length_cons, List.length_nil]); omega)) only [aW, aX, aV, aB, aN, aL, aP, aH, aM, s_control_Panel_State, v_control_Panel_State]
  refine (find_ps h m).mono ?_
  rintro r H' ⟨rfl, hH⟩
  rw [hH]
  refine aret_of ?_
  by_cases hm : c.bad m
  · rw [if_pos hm, if_pos hm]
    simp (disch := ((try simp only [List.length_set, List.length_replicate, List.length_append, List.length_cons, List.length_nil]); omega)) only [aW, aX, aV, aB, aN, aL, aP, aH, aM, r_control_Panel_State]
    exact post2 (R := fun r H' => _) ⟨rfl, rfl⟩
  · rw [if_neg hm, if_neg hm]
    unfold Cn.bad at hm
    simp (disch := ((try simp only [List.length_set, List.length_replicate, List.length_append, List.length_cons, List.length_nil]); omega)) only [aW, aX, aV, aB, aN, aL, aP, aH, aM, r_control_Panel_State, hi, hj]
    exact post2 (R := fun r H' => _) ⟨rfl, rfl⟩
theorem clear_ps {H : List Blk} {i j : Nat} {c : Cn} {st : List Int} (h : PS H i j c st) (m : Int) : VR P false n_control_Panel_Clear [.lp i 0 0, .v (.int .i64 m)] H (fun r H' => r = .v (.int .i64 (clearR c st m).1) ∧ H' = H.set j ⟨0, ints (clearR c st m).2⟩) := by
  refine vr_control_Panel_Clear (by simp) (.inl rfl) fun hb _ => ?_
  have hi := h.hi
  have hj := h.hj
  have sl := h.sl
  have hs := set_self hj
  have lt := blkAt_lt hj
  have lti := blkAt_lt h.hi
  unfold panC at hi
  unfold clearR
  simp (disch := ((try simp only [List.length_set, List.length_replicate, List.length_append, List.length_cons, List.length_nil]); omega)) only [aW, aX, aV, aB, aN, aL, aP, aH, aM, s_control_Panel_Clear, v_control_Panel_Clear]
  refine (find_ps h m).mono ?_
  rintro r H' ⟨rfl, hH⟩
  rw [hH]
  refine aret_of ?_
  by_cases hm : c.bad m
  · rw [if_pos hm, if_pos hm]
    simp (disch := ((try simp only [List.length_set, List.length_replicate, List.length_append, List.length_cons, List.length_nil]); omega)) only [aW, aX, aV, aB, aN, aL, aP, aH, aM, r_control_Panel_Clear]
    exact post2 (R := fun r H' => _) ⟨rfl, hs.symm⟩
  rw [if_neg hm, if_neg hm]
  unfold Cn.bad at hm
  simp (disch := ((try simp only [List.length_set, List.length_replicate, List.length_append, List.length_cons, List.length_nil]); omega)) only [aW, aX, aV, aB, aN, aL, aP, aH, aM, hi, hj]
  refine ib_intro (fun h1 => ?_) (fun h1 => ?_)
  · rw [if_pos h1]
    simp (disch := ((try simp only [List.length_set, List.length_replicate, List.length_append, List.length_cons, List.length_nil]); omega)) only [aW, aX, aV, aB, aN, aL, aP, aH, aM, r_control_Panel_Clear]
    exact post2 (R := fun r H' => _) ⟨rfl, hs.symm⟩
  · rw [if_neg h1]
    simp (disch := ((try simp only [List.length_set, List.length_replicate, List.length_append, List.length_cons, List.length_nil]); omega)) only [aW, aX, aV, aB, aN, aL, aP, aH, aM, r_control_Panel_Clear, hi, hj]
    exact post2 (R := fun r H' => _) ⟨rfl, rfl⟩

theorem stopped_vr {kp : Bool} {H : List Blk} (s : Int) : VR P kp n_control_stopped [.v (.int .i64 s)] H (fun r H' => r = .v (.int .i64 (stp s)) ∧ H' = H) := by
  have : VR P false n_control_stopped [.v (.int .i64 s)] [] (isR (.v (.int .i64 (stp s)))) := by
    refine vr_control_stopped (by simp) (.inr rfl) fun _ _ => ?_
    by_cases h1 : s = 1
    · have : stp s = 0 := by unfold stp; rw [if_pos h1]
      rw [this]
      simp (disch := ((try simp only [List.length_set, List.length_replicate, List.length_append, List.length_cons, List.length_nil]); omega)) only [aW, aX, aV, aB, aN, aL, aP, aH, aM, s_control_stopped, v_control_stopped, decide_eq_true h1, r_control_stopped]
      exact post_v ⟨rfl, rfl⟩
    by_cases h0 : s = 0
    · have : stp s = 0 := by unfold stp; rw [if_neg h1]; exact h0
      rw [this]
      simp (disch := ((try simp only [List.length_set, List.length_replicate, List.length_append, List.length_cons, List.length_nil]); omega)) only [aW, aX, aV, aB, aN, aL, aP, aH, aM, s_control_stopped, v_control_stopped, decide_eq_false h1, decide_eq_true h0, r_control_stopped]
      exact post_v ⟨rfl, rfl⟩
    · have : stp s = s := by unfold stp; rw [if_neg h1]
      rw [this]
      simp (disch := ((try simp only [List.length_set, List.length_replicate, List.length_append, List.length_cons, List.length_nil]); omega)) only [aW, aX, aV, aB, aN, aL, aP, aH, aM, s_control_stopped, v_control_stopped, decide_eq_false h1, decide_eq_false h0, r_control_stopped]
      exact post_v ⟨rfl, rfl⟩
  exact this.same rfl rfl ⟨rfl, rfl⟩

theorem stop_ps {H : List Blk} {i j : Nat} {c : Cn} {st : List Int} (ok : CnOk c) (h : PS H i j c st) (m : Int) : VR P false n_control_Panel_Stop [.lp i 0 0, .v (.int .i64 m)] H (fun r H' => r = .v (.int .i64 (stopR c st m).1) ∧ H' = H.set j ⟨0, ints (stopR c st m).2⟩) := by
  refine vr_control_Panel_Stop (by simp) (.inl rfl) fun hb _ => ?_
  have hi := h.hi
  have hj := h.hj
  have sl := h.sl
  have hs := set_self hj
  have lt := blkAt_lt hj
  have lti := blkAt_lt h.hi
  have n1 := ok.n1
  unfold panC at hi
  unfold stopR
  simp (disch := ((try simp only [List.length_set, List.length_replicate, List.length_append, List.length_cons, List.length_nil]); omega)) only [aW, aX, aV, aB, aN, aL, aP, aH, aM, s_control_Panel_Stop, v_control_Panel_Stop]
  refine (find_ps h m).mono ?_
  rintro r H' ⟨rfl, hH⟩
  rw [hH]
  refine aret_of ?_
  by_cases hm : c.bad m
  · rw [if_pos hm, if_pos hm]
    simp (disch := ((try simp only [List.length_set, List.length_replicate, List.length_append, List.length_cons, List.length_nil]); omega)) only [aW, aX, aV, aB, aN, aL, aP, aH, aM, r_control_Panel_Stop]
    exact post2 (R := fun r H' => _) ⟨rfl, hs.symm⟩
  rw [if_neg hm, if_neg hm]
  unfold Cn.bad at hm
  have hv := back_vr (w := true) c.n c.l m
  have e : visitR c.n c.l (backL c.l) m = (c.bk m, 0) := by
    unfold visitR; rw [if_neg (by have := ok.g; omega), if_neg (by omega)]; rfl
  have hbl : (c.bk m).length = c.n := by unfold Cn.bk; rw [reachL_len]; simp
  rw [e] at hv
  unfold graphA at hv
  unfold stopL
  generalize c.bk m = B at *
  simp (disch := ((try simp only [List.length_set, List.length_replicate, List.length_append, List.length_cons, List.length_nil]); omega)) only [aW, aX, aV, aB, aN, aL, aP, aH, aM, hi]
  refine hv.same (by simp (disch := first | omega | simp (disch := omega) only [aF, aL, aN, aM]) only [aW, aX, aV, aB, aN, aL, aP, aH, aM, aF, Int.natCast_add, Int.natCast_mul, Int.add_sub_cancel, List.length_nil, Int.cast_ofNat_Int, and_true, true_and]) (by simp (disch := first | omega | simp (disch := omega) only [aF, aL, aN, aM]) only [aW, aX, aV, aB, aN, aL, aP, aH, aM, aF, Int.natCast_add, Int.natCast_mul, Int.add_sub_cancel, List.length_nil, Int.cast_ofNat_Int, and_true, true_and]) (aret_of ?_)
  simp (disch := ((try simp only [List.length_set, List.length_replicate, List.length_append, List.length_cons, List.length_nil]); omega)) only [aW, aX, aV, aB, aN, aL, aP, aH, aM]
  refine AWP.loopP g_control_Panel_Stop_0 (fun k : Nat => k ≤ c.n) (fun k => [(6, .v (.int .i64 k))]) (fun k => [(j, ⟨0, ints (stopF B st k)⟩)]) (fun k => c.n - k) 0 (by omega) ?_ ?_
  · rw [stopF_zero]
    simp (disch := ((try simp only [List.length_set, List.length_replicate, List.length_append, List.length_cons, List.length_nil]); omega)) only [aW, aX, aV, aB, aN, aL, aP, aH, aM, hs]
    exact Cut.same (Nat.le_refl _) hb (by simp (disch := first | omega | simp (disch := omega) only [aF, aL, aN, aM]) only [aW, aX, aV, aB, aN, aL, aP, aH, aM, aF, Int.natCast_add, Int.natCast_mul, Int.add_sub_cancel, List.length_nil, Int.cast_ofNat_Int, and_true, true_and])
  rintro k hk
  have hq := h.set (stopF B st k) (by rw [stopF_len]; exact sl)
  have hqi := hq.hi
  have hqj := hq.hj
  unfold panC at hqi
  have fl := stopF_len B st k
  have hb' : ∀ st' : List Int, okB (H.set j ⟨0, ints st'⟩).length (H.set j ⟨0, ints st'⟩) := fun st' => by rw [List.length_set]; exact okB.set hb (ii_bd _ _)
  by_cases hlt : k < c.n
  · have hsu := stopF_succ B st k (by omega)
    have hat := stopF_at B st k (by omega)
    simp (disch := ((try simp only [List.length_set, List.length_replicate, List.length_append, List.length_cons, List.length_nil]); omega)) only [aW, aX, aV, aB, aN, aL, aP, aH, aM]
    refine ib_split (fun h1 => ?_) (fun h1 => ?_)
    · rw [if_pos h1] at hsu
      simp (disch := ((try simp only [List.length_set, List.length_replicate, List.length_append, List.length_cons, List.length_nil]); omega)) only [aW, aX, aV, aB, aN, aL, aP, aH, aM, hqi, hqj]
      refine (stopped_vr ((stopF B st k).getD k 0)).mono ?_
      rintro r H' ⟨rfl, hH⟩
      rw [hH]
      refine aret_of ?_
      rw [hat]
      simp (disch := ((try simp only [List.length_set, List.length_replicate, List.length_append, List.length_cons, List.length_nil]); omega)) only [aW, aX, aV, aB, aN, aL, aP, aH, aM, hqi, hqj, List.length_set, ← hsu]
      refine ⟨k + 1, by omega, by omega, ?_⟩
      try simp (disch := ((try simp only [List.length_set, List.length_replicate, List.length_append, List.length_cons, List.length_nil]); omega)) only [aW, aX, aV, aB, aN, aL, aP, aH, aM]
      exact Cut.same (by rw [List.length_set]; exact Nat.le_refl _) (hb' _) (by simp (disch := first | omega | simp (disch := omega) only [aF, aL, aN, aM]) only [aW, aX, aV, aB, aN, aL, aP, aH, aM, aF, Int.natCast_add, Int.natCast_mul, Int.add_sub_cancel, List.length_nil, Int.cast_ofNat_Int, and_true, true_and])
    · rw [if_neg (by rw [h1]; simp)] at hsu
      simp (disch := ((try simp only [List.length_set, List.length_replicate, List.length_append, List.length_cons, List.length_nil]); omega)) only [aW, aX, aV, aB, aN, aL, aP, aH, aM, ← hsu]
      refine ⟨k + 1, by omega, by omega, ?_⟩
      try simp (disch := ((try simp only [List.length_set, List.length_replicate, List.length_append, List.length_cons, List.length_nil]); omega)) only [aW, aX, aV, aB, aN, aL, aP, aH, aM]
      exact Cut.same (by rw [List.length_set]; exact Nat.le_refl _) (hb' _) (by simp (disch := first | omega | simp (disch := omega) only [aF, aL, aN, aM]) only [aW, aX, aV, aB, aN, aL, aP, aH, aM, aF, Int.natCast_add, Int.natCast_mul, Int.add_sub_cancel, List.length_nil, Int.cast_ofNat_Int, and_true, true_and])
  · have hke : k = c.n := by omega
    subst hke
    simp (disch := ((try simp only [List.length_set, List.length_replicate, List.length_append, List.length_cons, List.length_nil]); omega)) only [aW, aX, aV, aB, aN, aL, aP, aH, aM, r_control_Panel_Stop]
    exact post2 (R := fun r H' => _) ⟨rfl, rfl⟩
theorem jam_ps {H : List Blk} {i j : Nat} {c : Cn} {st : List Int} (ok : CnOk c) (h : PS H i j c st) (m : Int) : VR P false n_control_Panel_Jam [.lp i 0 0, .v (.int .i64 m)] H (fun r H' => r = .v (.int .i64 (jamR c st m).1) ∧ H' = H.set j ⟨0, ints (jamR c st m).2⟩) := by
  refine vr_control_Panel_Jam (by simp) (.inl rfl) fun hb _ => ?_
  have lt := blkAt_lt h.hj
  have lti := blkAt_lt h.hi
  have n1 := ok.n1
  unfold jamR
  simp (disch := ((try simp only [List.length_set, List.length_replicate, List.length_append, List.length_cons, List.length_nil]); omega)) only [aW, aX, aV, aB, aN, aL, aP, aH, aM, s_control_Panel_Jam, v_control_Panel_Jam]
  refine (stop_ps ok h m).mono ?_
  rintro r H' ⟨rfl, hH⟩
  rw [hH]
  refine aret_of ?_
  unfold stopR
  by_cases hm : c.bad m
  · rw [if_pos hm, if_pos hm]
    simp (disch := ((try simp only [List.length_set, List.length_replicate, List.length_append, List.length_cons, List.length_nil]); omega)) only [aW, aX, aV, aB, aN, aL, aP, aH, aM, r_control_Panel_Jam]
    exact post2 (R := fun r H' => _) ⟨rfl, rfl⟩
  rw [if_neg hm, if_neg hm]
  have sl := stopL_len c st m
  have sl2 := h.sl
  have hq := h.set (stopL c st m) (by omega)
  have hqi := hq.hi
  have hqj := hq.hj
  unfold panC at hqi
  unfold Cn.bad at hm
  simp (disch := ((try simp only [List.length_set, List.length_replicate, List.length_append, List.length_cons, List.length_nil]); omega)) only [aW, aX, aV, aB, aN, aL, aP, aH, aM, r_control_Panel_Jam, hqi, hqj, List.length_set]
  exact post2 (R := fun r H' => _) ⟨rfl, rfl⟩
end Go.Proofs.Ytfnghkmchlfooaa
namespace Go.Proofs.Ytfnghkmchlfooaa
open Go Go.Lft
set_option linter.unusedSimpArgs false
set_option linter.unusedVariables false
attribute [local congr] ob_congr bw_congr ib_congr ck_congr iwA_congr itA_congr aw_congr awp_congr sqA_congr bkA_congr vr_congr gd_congr

theorem grp_ok {c : Cn} (h : CnOk c) {m : Int} (h0 : 0 ≤ m) (h1 : m < c.n) : (grp c.G m).length ≤ 64 ∧ ∀ x ∈ grp c.G m, 0 ≤ x ∧ x < c.n := by
  obtain ⟨g1, g2, g3⟩ := ofN_mem h.gp h0 h1
  exact ⟨h.G2 (by omega), h.gp.rng _ (by omega)⟩
theorem of_get {c : Cn} {x : Int} (h0 : 0 ≤ x) (h1 : x < c.n) : c.of.getD x.toNat 0 = ofN c.G c.G.length x := by
  unfold Cn.of; rw [tabI_get _ _ _ (by omega), Int.toNat_of_nonneg h0]
theorem of_mem {c : Cn} (h : CnOk c) {m x : Int} (h0 : 0 ≤ m) (h1 : m < c.n) (h2 : 0 ≤ x) (h3 : x < c.n) : ofN c.G c.G.length x = ofN c.G c.G.length m ↔ x ∈ grp c.G m := by
  obtain ⟨g1, g2, g3⟩ := ofN_mem h.gp h0 h1
  have := ofN_iff h.gp h2 h3 (k := (ofN c.G c.G.length m).toNat) (by omega)
  rw [Int.toNat_of_nonneg g1] at this
  exact this
theorem jam_hit {st r : List Int} {k : Nat} (hk : k < r.length) (h : st.getD (r.getD k 0).toNat 0 = 2) : jamP st r := ⟨_, mem_get 0 hk, h⟩
theorem jam_none {st r : List Int} (h : ∀ i, i < r.length → ¬ st.getD (r.getD i 0).toNat 0 = 2) : ¬ jamP st r := by
  rintro ⟨x, hx, h2⟩
  obtain ⟨i, hi, rfl⟩ := get_mem 0 hx
  exact h i hi h2
def blk1 (r st : List Int) (a : Int × Int) : Prop := a.1 ∈ r ∧ a.2 ∉ r ∧ st.getD a.2.toNat 0 ≠ 1
theorem blk_hit {l : Arcs} {r st : List Int} {k : Nat} (hk : k < l.length) (h : blk1 r st (l.getD k (0, 0))) : blkP l r st := ⟨_, mem_get (0, 0) hk, h⟩
theorem blk_none {l : Arcs} {r st : List Int} (h : ∀ i, i < l.length → ¬ blk1 r st (l.getD i (0, 0))) : ¬ blkP l r st := by
  rintro ⟨x, hx, h2⟩
  obtain ⟨i, hi, rfl⟩ := get_mem (0, 0) hx
  exact h i hi h2

theorem start_ps {H : List Blk} {i j : Nat} {c : Cn} {st : List Int} (ok : CnOk c) (h : PS H i j c st) (m : Int) : VR P false n_control_Panel_Start [.lp i 0 0, .v (.int .i64 m)] H (fun r H' => r = .v (.int .i64 (startR c st m).1) ∧ H' = H.set j ⟨0, ints (startR c st m).2⟩) := by
  refine vr_control_Panel_Start (by simp) (.inl rfl) fun hb _ => ?_
  have hi := h.hi
  have hj := h.hj
  have sl := h.sl
  have hs := set_self hj
  have lt := blkAt_lt hj
  have lti := blkAt_lt h.hi
  have n1 := ok.n1
  have l1 := ok.l1
  have g1 := ok.G1
  have ol := c.of_len
  unfold panC at hi
  unfold startR
  simp (disch := ((try simp only [List.length_set, List.length_replicate, List.length_append, List.length_cons, List.length_nil]); omega)) only [aW, aX, aV, aB, aN, aL, aP, aH, aM, s_control_Panel_Start, v_control_Panel_Start]
  refine (find_ps h m).mono ?_
  rintro r H' ⟨rfl, hH⟩
  rw [hH]
  refine aret_of ?_
  by_cases hm : c.bad m
  · rw [if_pos hm, if_pos hm]
    simp (disch := ((try simp only [List.length_set, List.length_replicate, List.length_append, List.length_cons, List.length_nil]); omega)) only [aW, aX, aV, aB, aN, aL, aP, aH, aM, r_control_Panel_Start]
    exact post2 (R := fun r H' => _) ⟨rfl, hs.symm⟩
  rw [if_neg hm, if_neg hm]
  unfold Cn.bad at hm
  obtain ⟨q1, q2, q3⟩ := ofN_mem ok.gp (x := m) (by omega) (by omega)
  obtain ⟨r1, r2⟩ := grp_ok ok (m := m) (by omega) (by omega)
  have og := of_get (c := c) (x := m) (by omega) (by omega)
  have om := fun x h2 h3 => of_mem ok (m := m) (x := x) (by omega) (by omega) h2 h3
  have hgr : c.G.getD (ofN c.G c.G.length m).toNat [] = grp c.G m := rfl
  generalize hr : grp c.G m = r at *
  generalize hg : ofN c.G c.G.length m = g at *
  simp (disch := ((try simp only [List.length_set, List.length_replicate, List.length_append, List.length_cons, List.length_nil]); omega)) only [aW, aX, aV, aB, aN, aL, aP, aH, aM, hi, hj, og, hgr]
  refine AWP.loopP g_control_Panel_Start_0 (fun k : Nat => k ≤ r.length ∧ ∀ i, i < k → ¬ st.getD (r.getD i 0).toNat 0 = 2) (fun k => [(2, .v (.int .i64 0)), (5, .v (.int .i64 k))]) (fun _ => []) (fun k => r.length - k) 0 ⟨by omega, fun i hi => by omega⟩ ?_ ?_
  · exact Cut.same (Nat.le_refl _) hb (by simp (disch := first | omega | simp (disch := omega) only [aF, aL, aN, aM]) only [aW, aX, aV, aB, aN, aL, aP, aH, aM, aF, Int.natCast_add, Int.natCast_mul, Int.add_sub_cancel, List.length_nil, Int.cast_ofNat_Int, and_true, true_and])
  rintro k ⟨hk, hn⟩
  by_cases hlt : k < r.length
  · have hx := r2 _ (mem_get 0 hlt)
    simp (disch := ((try simp only [List.length_set, List.length_replicate, List.length_append, List.length_cons, List.length_nil]); omega)) only [aW, aX, aV, aB, aN, aL, aP, aH, aM, hi, hj]
    refine ib_intro (fun h3 => ?_) (fun h3 => ?_)
    · rw [if_pos (jam_hit hlt h3)]
      simp (disch := ((try simp only [List.length_set, List.length_replicate, List.length_append, List.length_cons, List.length_nil]); omega)) only [aW, aX, aV, aB, aN, aL, aP, aH, aM, r_control_Panel_Start]
      exact post2 (R := fun r H' => _) ⟨rfl, hs.symm⟩
    · simp (disch := ((try simp only [List.length_set, List.length_replicate, List.length_append, List.length_cons, List.length_nil]); omega)) only [aW, aX, aV, aB, aN, aL, aP, aH, aM]
      refine ⟨k + 1, ⟨by omega, fun i hi => ?_⟩, by omega, ?_⟩
      · rcases Nat.lt_succ_iff_lt_or_eq.1 hi with h | rfl
        · exact hn i h
        · exact h3
      · exact Cut.same (Nat.le_refl _) hb (by simp (disch := first | omega | simp (disch := omega) only [aF, aL, aN, aM]) only [aW, aX, aV, aB, aN, aL, aP, aH, aM, aF, Int.natCast_add, Int.natCast_mul, Int.add_sub_cancel, List.length_nil, Int.cast_ofNat_Int, and_true, true_and])
  have hke : k = r.length := by omega
  subst hke
  rw [if_neg (jam_none hn)]
  simp (disch := ((try simp only [List.length_set, List.length_replicate, List.length_append, List.length_cons, List.length_nil]); omega)) only [aW, aX, aV, aB, aN, aL, aP, aH, aM, hi, hj]
  refine AWP.loopP g_control_Panel_Start_1 (fun k : Nat => k ≤ c.l.length ∧ ∀ i, i < k → ¬ blk1 r st (c.l.getD i (0, 0))) (fun k => [(2, .v (.int .i64 0)), (10, .v (.int .i64 k))]) (fun _ => []) (fun k => c.l.length - k) 0 ⟨by omega, fun i hi => by omega⟩ ?_ ?_
  · exact Cut.same (Nat.le_refl _) hb (by simp (disch := first | omega | simp (disch := omega) only [aF, aL, aN, aM]) only [aW, aX, aV, aB, aN, aL, aP, aH, aM, aF, Int.natCast_add, Int.natCast_mul, Int.add_sub_cancel, List.length_nil, Int.cast_ofNat_Int, and_true, true_and])
  rintro k ⟨hk, hn2⟩
  by_cases hlt2 : k < c.l.length
  · obtain ⟨a1, a2⟩ := ok.r _ (mem_get (0, 0) hlt2)
    have o1 := of_get (c := c) a1.1 a1.2
    have o2 := of_get (c := c) a2.1 a2.2
    have m1 := om _ a1.1 a1.2
    have m2 := om _ a2.1 a2.2
    simp (disch := ((try simp only [List.length_set, List.length_replicate, List.length_append, List.length_cons, List.length_nil]); omega)) only [aW, aX, aV, aB, aN, aL, aP, aH, aM, hi, hj, o1, o2]
    refine ib_intro (fun h3 => ?_) (fun h3 => ?_)
    · rw [if_pos (blk_hit hlt2 ⟨m1.1 h3.1.1, fun hc => h3.1.2 (m2.2 hc), h3.2⟩)]
      simp (disch := ((try simp only [List.length_set, List.length_replicate, List.length_append, List.length_cons, List.length_nil]); omega)) only [aW, aX, aV, aB, aN, aL, aP, aH, aM, r_control_Panel_Start]
      exact post1 (R := fun r H' => _) (Nat.le_refl _) hb (Fz.refl rfl) ⟨rfl, hs.symm⟩
    · simp (disch := ((try simp only [List.length_set, List.length_replicate, List.length_append, List.length_cons, List.length_nil]); omega)) only [aW, aX, aV, aB, aN, aL, aP, aH, aM]
      refine ⟨k + 1, ⟨by omega, fun i hi => ?_⟩, by omega, ?_⟩
      · rcases Nat.lt_succ_iff_lt_or_eq.1 hi with h | rfl
        · exact hn2 i h
        · exact fun hc => h3 ⟨⟨m1.2 hc.1, fun he => hc.2.1 (m2.1 he)⟩, hc.2.2⟩
      · exact Cut.app (Nat.le_refl _) hb (by simp (disch := first | omega | simp (disch := omega) only [aF, aL, aN, aM]) only [aW, aX, aV, aB, aN, aL, aP, aH, aM, aF, Int.natCast_add, Int.natCast_mul, Int.add_sub_cancel, List.length_nil, Int.cast_ofNat_Int, and_true, true_and])
  have hke2 : k = c.l.length := by omega
  subst hke2
  rw [if_neg (blk_none hn2)]
  simp (disch := ((try simp only [List.length_set, List.length_replicate, List.length_append, List.length_cons, List.length_nil]); omega)) only [aW, aX, aV, aB, aN, aL, aP, aH, aM, hi, hj, hgr]
  refine AWP.loopP g_control_Panel_Start_2 (fun k : Nat => k ≤ r.length) (fun k => [(15, .v (.int .i64 k))]) (fun k => [(j, ⟨0, ints (setG st (r.take k) 1)⟩)]) (fun k => r.length - k) 0 (by omega) ?_ ?_
  · rw [List.take_zero, setG_nil]
    simp (disch := ((try simp only [List.length_set, List.length_replicate, List.length_append, List.length_cons, List.length_nil]); omega)) only [aW, aX, aV, aB, aN, aL, aP, aH, aM, hs]
    exact Cut.same (Nat.le_refl _) hb (by simp (disch := first | omega | simp (disch := omega) only [aF, aL, aN, aM]) only [aW, aX, aV, aB, aN, aL, aP, aH, aM, aF, Int.natCast_add, Int.natCast_mul, Int.add_sub_cancel, List.length_nil, Int.cast_ofNat_Int, and_true, true_and])
  rintro k hk3
  have hq := h.set (setG st (r.take k) 1) (by rw [setG_len]; exact sl)
  have hqi := hq.hi
  have hqj := hq.hj
  unfold panC at hqi
  have fl := setG_len 1 (r.take k) st
  have hb' : ∀ st' : List Int, okB (H.set j ⟨0, ints st'⟩).length (H.set j ⟨0, ints st'⟩) := fun st' => by rw [List.length_set]; exact okB.set hb (ii_bd _ _)
  by_cases hlt3 : k < r.length
  · have hx := r2 _ (mem_get 0 hlt3)
    have e1 : setG st (r.take (k + 1)) 1 = (setG st (r.take k) 1).set (r.getD k 0).toNat 1 := by rw [take_succ_get' r k 0 hlt3, setG_snoc]
    simp (disch := ((try simp only [List.length_set, List.length_replicate, List.length_append, List.length_cons, List.length_nil]); omega)) only [aW, aX, aV, aB, aN, aL, aP, aH, aM, hqi, hqj, ← e1]
    refine ⟨k + 1, by omega, by omega, ?_⟩
    try simp (disch := ((try simp only [List.length_set, List.length_replicate, List.length_append, List.length_cons, List.length_nil]); omega)) only [aW, aX, aV, aB, aN, aL, aP, aH, aM]
    exact Cut.same (by rw [List.length_set]; exact Nat.le_refl _) (hb' _) (by simp (disch := first | omega | simp (disch := omega) only [aF, aL, aN, aM]) only [aW, aX, aV, aB, aN, aL, aP, aH, aM, aF, Int.natCast_add, Int.natCast_mul, Int.add_sub_cancel, List.length_nil, Int.cast_ofNat_Int, and_true, true_and])
  · have hke3 : k = r.length := by omega
    subst hke3
    rw [List.take_length]
    simp (disch := ((try simp only [List.length_set, List.length_replicate, List.length_append, List.length_cons, List.length_nil]); omega)) only [aW, aX, aV, aB, aN, aL, aP, aH, aM, r_control_Panel_Start]
    exact post2 (R := fun r H' => _) ⟨rfl, rfl⟩

theorem safe1_vr {c : Cn} {st : List Int} (ok : CnOk c) (sl : st.length = c.n) (a : Int × Int) (ha : (0 ≤ a.1 ∧ a.1 < c.n) ∧ 0 ≤ a.2 ∧ a.2 < c.n) : VR P false n_control_Panel_Safe_1 [pairA a, .fp false [.fp false [.v (.int .i64 c.n), .fs true (pairs c.l), .fs true (rows true c.G), .fs true (ints c.of), .fs false (ints st)]]] [] (isR (.v (.bool (decide (unsP st a))))) := by
  refine vr_control_Panel_Safe_1 (by simp) (.inr rfl) fun _ _ => ?_
  unfold pairA unsP
  simp (disch := ((try simp only [List.length_set, List.length_replicate, List.length_append, List.length_cons, List.length_nil]); omega)) only [aW, aX, aV, aB, aN, aL, aP, aH, aM, s_control_Panel_Safe_1, v_control_Panel_Safe_1, r_control_Panel_Safe_1]
  exact post_v ⟨rfl, rfl⟩
theorem indexUns_vr {c : Cn} {st : List Int} (ok : CnOk c) (sl : st.length = c.n) : VR P false n_slices_IndexFuncapi_Arc_api_Arc [.fs true (pairs c.l), .fn n_control_Panel_Safe_1 [.fp false [.fp false [.v (.int .i64 c.n), .fs true (pairs c.l), .fs true (rows true c.G), .fs true (ints c.of), .fs false (ints st)]]]] [] (isR (.v (.int .i64 (idxE (unsP st) c.l)))) := by
  refine vr_slices_IndexFuncapi_Arc_api_Arc (by simp) (.inr rfl) fun _ _ => ?_
  have l1 := ok.l1
  simp (disch := ((try simp only [List.length_set, List.length_replicate, List.length_append, List.length_cons, List.length_nil]); omega)) only [aW, aX, aV, aB, aN, aL, aP, aH, aM, s_slices_IndexFuncapi_Arc_api_Arc, v_slices_IndexFuncapi_Arc_api_Arc]
  refine AWP.loopP g_slices_IndexFuncapi_Arc_api_Arc_0 (fun k : Nat => k ≤ c.l.length ∧ ∀ i, i < k → ¬ unsP st (c.l.getD i (0, 0))) (fun k => [(2, .v (.int .i64 0)), (3, .v (.int .i64 k))]) (fun _ => []) (fun k => c.l.length - k) 0 ⟨by omega, fun i hi => by omega⟩ ?_ ?_
  · exact Cut.of' 0 rfl (by omega) (by simp (disch := first | omega | simp (disch := omega) only [aF, aL, aN, aM]) only [aW, aX, aV, aB, aN, aL, aP, aH, aM, aF, Int.natCast_add, Int.natCast_mul, Int.add_sub_cancel, List.length_nil, Int.cast_ofNat_Int, and_true, true_and]) (by simp (disch := first | omega | simp (disch := omega) only [aF, aL, aN, aM]) only [aW, aX, aV, aB, aN, aL, aP, aH, aM, aF, Int.natCast_add, Int.natCast_mul, Int.add_sub_cancel, List.length_nil, Int.cast_ofNat_Int, and_true, true_and])
  rintro k ⟨hk, hb⟩
  by_cases hlt : k < c.l.length
  · have hv := safe1_vr ok sl (c.l.getD k (0, 0)) (ok.r _ (mem_get (0, 0) hlt))
    unfold pairA at hv
    simp (disch := ((try simp only [List.length_set, List.length_replicate, List.length_append, List.length_cons, List.length_nil]); omega)) only [aW, aX, aV, aB, aN, aL, aP, aH, aM]
    refine ⟨by kernel_rfl, ?_⟩
    refine hv.same (by simp (disch := first | omega | simp (disch := omega) only [aF, aL, aN, aM]) only [aW, aX, aV, aB, aN, aL, aP, aH, aM, aF, Int.natCast_add, Int.natCast_mul, Int.add_sub_cancel, List.length_nil, Int.cast_ofNat_Int, and_true, true_and]) rfl (aret_of ?_)
    simp (disch := ((try simp only [List.length_set, List.length_replicate, List.length_append, List.length_cons, List.length_nil]); omega)) only [aW, aX, aV, aB, aN, aL, aP, aH, aM]
    refine ib_intro (fun h3 => ?_) (fun h3 => ?_)
    · simp (disch := ((try simp only [List.length_set, List.length_replicate, List.length_append, List.length_cons, List.length_nil]); omega)) only [aW, aX, aV, aB, aN, aL, aP, aH, aM, r_slices_IndexFuncapi_Arc_api_Arc]
      exact post_v ⟨by rw [idxE_hit (p := unsP st) (0, 0) hlt hb h3], rfl⟩
    · simp (disch := ((try simp only [List.length_set, List.length_replicate, List.length_append, List.length_cons, List.length_nil]); omega)) only [aW, aX, aV, aB, aN, aL, aP, aH, aM]
      refine ⟨k + 1, ⟨by omega, fun i hi => ?_⟩, by omega, ?_⟩
      · rcases Nat.lt_succ_iff_lt_or_eq.1 hi with h | rfl
        · exact hb i h
        · exact h3
      · exact Cut.of' 0 rfl (by omega) (by simp (disch := first | omega | simp (disch := omega) only [aF, aL, aN, aM]) only [aW, aX, aV, aB, aN, aL, aP, aH, aM, aF, Int.natCast_add, Int.natCast_mul, Int.add_sub_cancel, List.length_nil, Int.cast_ofNat_Int, and_true, true_and]) (by simp (disch := first | omega | simp (disch := omega) only [aF, aL, aN, aM]) only [aW, aX, aV, aB, aN, aL, aP, aH, aM, aF, Int.natCast_add, Int.natCast_mul, Int.add_sub_cancel, List.length_nil, Int.cast_ofNat_Int, and_true, true_and])
  · simp (disch := ((try simp only [List.length_set, List.length_replicate, List.length_append, List.length_cons, List.length_nil]); omega)) only [aW, aX, aV, aB, aN, aL, aP, aH, aM, r_slices_IndexFuncapi_Arc_api_Arc]
    exact post_v ⟨by rw [idxE_none (p := unsP st) (0, 0) fun i hi => hb i (by omega)], rfl⟩
theorem containsUns_vr {c : Cn} {st : List Int} (ok : CnOk c) (sl : st.length = c.n) : VR P false n_slices_ContainsFuncapi_Arc_api_Arc [.fs true (pairs c.l), .fn n_control_Panel_Safe_1 [.fp false [.fp false [.v (.int .i64 c.n), .fs true (pairs c.l), .fs true (rows true c.G), .fs true (ints c.of), .fs false (ints st)]]]] [] (isR (.v (.bool (decide (¬ safeP c st))))) := by
  refine vr_slices_ContainsFuncapi_Arc_api_Arc (by simp) (.inr rfl) fun _ _ => ?_
  simp (disch := ((try simp only [List.length_set, List.length_replicate, List.length_append, List.length_cons, List.length_nil]); omega)) only [aW, aX, aV, aB, aN, aL, aP, aH, aM, s_slices_ContainsFuncapi_Arc_api_Arc, v_slices_ContainsFuncapi_Arc_api_Arc]
  refine (indexUns_vr ok sl).same (by simp (disch := first | omega | simp (disch := omega) only [aF, aL, aN, aM]) only [aW, aX, aV, aB, aN, aL, aP, aH, aM, aF, Int.natCast_add, Int.natCast_mul, Int.add_sub_cancel, List.length_nil, Int.cast_ofNat_Int, and_true, true_and]) rfl (aret_of ?_)
  simp (disch := ((try simp only [List.length_set, List.length_replicate, List.length_append, List.length_cons, List.length_nil]); omega)) only [aW, aX, aV, aB, aN, aL, aP, aH, aM, r_slices_ContainsFuncapi_Arc_api_Arc]
  refine post_v ⟨vdec ?_, rfl⟩
  rw [show (0 ≤ idxE (unsP st) c.l) ↔ _ from idxE_mem]
  unfold safeP
  constructor
  · rintro ⟨x, h1, h2⟩ h3; exact h3 x h1 h2
  · intro h3
    apply Classical.byContradiction; intro h4
    exact h3 fun a ha hu => h4 ⟨a, ha, hu⟩
theorem safe_ps {H : List Blk} {i j : Nat} {c : Cn} {st : List Int} (ok : CnOk c) (h : PS H i j c st) : VR P false n_control_Panel_Safe [.lp i 0 0] H (fun r H' => r = .v (.bool (decide (safeP c st))) ∧ H' = H) := by
  refine vr_control_Panel_Safe (by simp) (.inl rfl) fun hb _ => ?_
  have hi := h.hi
  have hj := h.hj
  have sl := h.sl
  have lt := blkAt_lt hj
  have lti := blkAt_lt h.hi
  unfold panC at hi
  simp (disch := ((try simp only [List.length_set, List.length_replicate, List.length_append, List.length_cons, List.length_nil]); omega)) only [aW, aX, aV, aB, aN, aL, aP, aH, aM, s_control_Panel_Safe, v_control_Panel_Safe, hi]
  have hi' : blkAt (H ++ [⟨0, [.lp i 0 0]⟩]) i 0 = _ := (blkAt_app _ _ _ _ lti).trans hi
  have hj' : blkAt (H ++ [⟨0, [.lp i 0 0]⟩]) j 0 = _ := (blkAt_app _ _ _ _ lt).trans hj
  have hn' : blkAt (H ++ [⟨0, [.lp i 0 0]⟩]) H.length 0 = some [.lp i 0 0] := by rw [blkAt_new0]; rfl
  have hl1 : Ld (H ++ [⟨0, [.lp i 0 0]⟩]) (.lp i 0 0) (.fp false [.v (.int .i64 c.n), .fs true (pairs c.l), .fs true (rows true c.G), .fs true (ints c.of), .fs false (ints st)]) :=
    Ld.lp (o := 0) hi' (r := [.v (.int .i64 c.n), .fs true (pairs c.l), .fs true (rows true c.G), .fs true (ints c.of), .fs false (ints st)]) ⟨Ld.refl rfl, Ld.refl (by simp (disch := first | omega | simp (disch := omega) only [aF, aL, aN, aM]) only [aW, aX, aV, aB, aN, aL, aP, aH, aM, aF, Int.natCast_add, Int.natCast_mul, Int.add_sub_cancel, List.length_nil, Int.cast_ofNat_Int, and_true, true_and]), Ld.refl (by simp (disch := first | omega | simp (disch := omega) only [aF, aL, aN, aM]) only [aW, aX, aV, aB, aN, aL, aP, aH, aM, aF, Int.natCast_add, Int.natCast_mul, Int.add_sub_cancel, List.length_nil, Int.cast_ofNat_Int, and_true, true_and]), Ld.refl (by simp (disch := first | omega | simp (disch := omega) only [aF, aL, aN, aM]) only [aW, aX, aV, aB, aN, aL, aP, aH, aM, aF, Int.natCast_add, Int.natCast_mul, Int.add_sub_cancel, List.length_nil, Int.cast_ofNat_Int, and_true, true_and]), ld_slI _ j 0 _ st sl.symm hj', trivial⟩ (by simp)
  have hl2 : Ld (H ++ [⟨0, [.lp i 0 0]⟩]) (.lp H.length 0 0) (.fp false [.fp false [.v (.int .i64 c.n), .fs true (pairs c.l), .fs true (rows true c.G), .fs true (ints c.of), .fs false (ints st)]]) :=
    Ld.lp (o := 0) hn' (r := [_]) ⟨hl1, trivial⟩ (by simp)
  refine (containsUns_vr ok sl).use ⟨Ld.refl (by simp (disch := first | omega | simp (disch := omega) only [aF, aL, aN, aM]) only [aW, aX, aV, aB, aN, aL, aP, aH, aM, aF, Int.natCast_add, Int.natCast_mul, Int.add_sub_cancel, List.length_nil, Int.cast_ofNat_Int, and_true, true_and]), Ld.fn ⟨hl2, trivial⟩, trivial⟩ rfl (aret_of ?_)
  simp (disch := ((try simp only [List.length_set, List.length_replicate, List.length_append, List.length_cons, List.length_nil]); omega)) only [aW, aX, aV, aB, aN, aL, aP, aH, aM, r_control_Panel_Safe]
  refine post1 (R := fun r H' => _) (Nat.le_refl _) hb (Fz.refl rfl) ⟨?_, rfl⟩
  by_cases hs : safeP c st
  · simp [hs, retA]
  · simp [hs, retA]

theorem do_ps {H : List Blk} {i j : Nat} {c : Cn} {st : List Int} (ok : CnOk c) (h : PS H i j c st) (a : Int × Int) : VR P false n_law36_do [.lp i 0 0, pairA a] H (fun r H' => r = .v (.int .i64 (actR c st a).1) ∧ H' = H.set j ⟨0, ints (actR c st a).2⟩) := by
  refine vr_law36_do (by simp) (.inl rfl) fun hb _ => ?_
  have lt := blkAt_lt h.hj
  have lti := blkAt_lt h.hi
  have hp : PS (H ++ [⟨0, [.v (.int .i64 a.1), .v (.int .i64 a.2)]⟩]) i j c st := ⟨(blkAt_app _ _ _ _ lti).trans h.hi, (blkAt_app _ _ _ _ lt).trans h.hj, h.ne, h.sl⟩
  have hset : ∀ st', (H ++ [(⟨0, [.v (.int .i64 a.1), .v (.int .i64 a.2)]⟩ : Blk)]).set j ⟨0, ints st'⟩ = H.set j ⟨0, ints st'⟩ ++ [⟨0, [.v (.int .i64 a.1), .v (.int .i64 a.2)]⟩] := fun st' => setB_app _ _ _ _ lt
  have hb' : ∀ st' : List Int, okB (H.set j ⟨0, ints st'⟩).length (H.set j ⟨0, ints st'⟩) := fun st' => by rw [List.length_set]; exact okB.set hb (ii_bd _ _)
  unfold actR pairA
  by_cases h0 : a.1 = 0
  · rw [if_pos h0]
    simp (disch := ((try simp only [List.length_set, List.length_replicate, List.length_append, List.length_cons, List.length_nil]); omega)) only [aW, aX, aV, aB, aN, aL, aP, aH, aM, s_law36_do, v_law36_do, decide_eq_true h0]
    refine (start_ps ok hp a.2).mono ?_
    rintro r H' ⟨rfl, hH⟩
    rw [hH, hset]
    refine aret_of ?_
    simp (disch := ((try simp only [List.length_set, List.length_replicate, List.length_append, List.length_cons, List.length_nil]); omega)) only [aW, aX, aV, aB, aN, aL, aP, aH, aM, r_law36_do]
    exact post1 (R := fun r H' => _) (by rw [List.length_set]; exact Nat.le_refl _) (hb' _) (Fz.refl rfl) ⟨rfl, rfl⟩
  rw [if_neg h0]
  by_cases h1 : a.1 = 1
  · rw [if_pos h1]
    simp (disch := ((try simp only [List.length_set, List.length_replicate, List.length_append, List.length_cons, List.length_nil]); omega)) only [aW, aX, aV, aB, aN, aL, aP, aH, aM, s_law36_do, v_law36_do, decide_eq_false h0, decide_eq_true h1]
    refine (stop_ps ok hp a.2).mono ?_
    rintro r H' ⟨rfl, hH⟩
    rw [hH, hset]
    refine aret_of ?_
    simp (disch := ((try simp only [List.length_set, List.length_replicate, List.length_append, List.length_cons, List.length_nil]); omega)) only [aW, aX, aV, aB, aN, aL, aP, aH, aM, r_law36_do]
    exact post1 (R := fun r H' => _) (by rw [List.length_set]; exact Nat.le_refl _) (hb' _) (Fz.refl rfl) ⟨rfl, rfl⟩
  rw [if_neg h1]
  by_cases h2 : a.1 = 2
  · rw [if_pos h2]
    simp (disch := ((try simp only [List.length_set, List.length_replicate, List.length_append, List.length_cons, List.length_nil]); omega)) only [aW, aX, aV, aB, aN, aL, aP, aH, aM, s_law36_do, v_law36_do, decide_eq_false h0, decide_eq_false h1, decide_eq_true h2]
    refine (jam_ps ok hp a.2).mono ?_
    rintro r H' ⟨rfl, hH⟩
    rw [hH, hset]
    refine aret_of ?_
    simp (disch := ((try simp only [List.length_set, List.length_replicate, List.length_append, List.length_cons, List.length_nil]); omega)) only [aW, aX, aV, aB, aN, aL, aP, aH, aM, r_law36_do]
    exact post1 (R := fun r H' => _) (by rw [List.length_set]; exact Nat.le_refl _) (hb' _) (Fz.refl rfl) ⟨rfl, rfl⟩
  rw [if_neg h2]
  simp (disch := ((try simp only [List.length_set, List.length_replicate, List.length_append, List.length_cons, List.length_nil]); omega)) only [aW, aX, aV, aB, aN, aL, aP, aH, aM, s_law36_do, v_law36_do, decide_eq_false h0, decide_eq_false h1, decide_eq_false h2]
  refine (clear_ps hp a.2).mono ?_
  rintro r H' ⟨rfl, hH⟩
  rw [hH, hset]
  refine aret_of ?_
  simp (disch := ((try simp only [List.length_set, List.length_replicate, List.length_append, List.length_cons, List.length_nil]); omega)) only [aW, aX, aV, aB, aN, aL, aP, aH, aM, r_law36_do]
  exact post1 (R := fun r H' => _) (by rw [List.length_set]; exact Nat.le_refl _) (hb' _) (Fz.refl rfl) ⟨rfl, rfl⟩

theorem states_ps {H : List Blk} {i j : Nat} {c : Cn} {st : List Int} (ok : CnOk c) (h : PS H i j c st) : VR P false n_law36_states [.lp i 0 0, .v (.int .i64 c.n)] H (fun r H' => r = .tup [.fs true (ints st), .v (.bool true)] ∧ H' = H) := by
  refine vr_law36_states (by simp) (.inl rfl) fun hb _ => ?_
  have lt := blkAt_lt h.hj
  have lti := blkAt_lt h.hi
  have sl := h.sl
  have n1 := ok.n1
  simp (disch := ((try simp only [List.length_set, List.length_replicate, List.length_append, List.length_cons, List.length_nil]); omega)) only [aW, aX, aV, aB, aN, aL, aP, aH, aM, s_law36_states, v_law36_states]
  refine AWP.cut (Cut.virt 4 1 rfl) ?_
  refine AWP.loopP (α := Nat × Nat) g_law36_states_0 (fun q => q.1 ≤ c.n) (fun q => [(2, .v (.slice none 0 0)), (3, .v (.bool false)), (4, .vs H.length q.2 1 q.1), (5, .v (.int .i64 q.1))]) (fun q => [(H.length, ⟨q.2, ints (st.take q.1)⟩)]) (fun q => c.n - q.1) (0, 0) (by simp) ?_ ?_
  · simp (disch := ((try simp only [List.length_set, List.length_replicate, List.length_append, List.length_cons, List.length_nil]); omega)) only [aW, aX, aV, aB, aN, aL, aP, aH, aM, List.take_zero, ii_nil]
    refine Cut.same (by simp) (okB.up (okB.app hb ?_) (by simp)) (by simp (disch := first | omega | simp (disch := omega) only [aF, aL, aN, aM]) only [aW, aX, aV, aB, aN, aL, aP, aH, aM, aF, Int.natCast_add, Int.natCast_mul, Int.add_sub_cancel, List.length_nil, Int.cast_ofNat_Int, and_true, true_and])
    intro B hB; simp at hB; subst hB; rfl
  rintro ⟨k, ver⟩ hk
  simp only at hk
  have tl : (st.take k).length = k := by simp; omega
  have hcut : ∀ (v : Nat) (l : List Int), okB (H ++ [(⟨v, ints l⟩ : Blk)]).length (H ++ [⟨v, ints l⟩]) := fun v l => by
    refine okB.up (okB.app hb ?_) (by simp)
    intro B hB; simp at hB; subst hB; exact ii_bd _ _
  simp (disch := ((try simp only [List.length_set, List.length_replicate, List.length_append, List.length_cons, List.length_nil]); omega)) only [aW, aX, aV, aB, aN, aL, aP, aH, aM]
  have hp : PS (H ++ [⟨ver, ints (st.take k)⟩]) i j c st := ⟨(blkAt_app _ _ _ _ lti).trans h.hi, (blkAt_app _ _ _ _ lt).trans h.hj, h.ne, h.sl⟩
  by_cases hlt : k < c.n
  · simp (disch := ((try simp only [List.length_set, List.length_replicate, List.length_append, List.length_cons, List.length_nil]); omega)) only [aW, aX, aV, aB, aN, aL, aP, aH, aM]
    refine (state_ps hp k).mono ?_
    rintro r H' ⟨rfl, hH⟩
    rw [hH]
    refine aret_of ?_
    have e : stateR c st k = (st.getD k 0, 0) := by unfold stateR; rw [if_neg (by unfold Cn.bad; omega), Int.toNat_natCast]
    rw [e]
    have e1 : List.take k (List.take k st) = List.take k st := by rw [List.take_take, Nat.min_self]
    have e2 := take_succ_get' st k 0 (by omega)
    simp (disch := ((try simp only [List.length_set, List.length_replicate, List.length_append, List.length_cons, List.length_nil]); omega)) only [aW, aX, aV, aB, aN, aL, aP, aH, aM, e1, ← e2]
    refine ⟨(k + 1, ver + 1), by simp only; omega, by simp only; omega, ?_⟩
    try simp (disch := ((try simp only [List.length_set, List.length_replicate, List.length_append, List.length_cons, List.length_nil]); omega)) only [aW, aX, aV, aB, aN, aL, aP, aH, aM]
    exact Cut.app2 [⟨ver + 1, ints (st.take (k + 1))⟩] [_] (by simp) (hcut _ _) (by simp (disch := first | omega | simp (disch := omega) only [aF, aL, aN, aM]) only [aW, aX, aV, aB, aN, aL, aP, aH, aM, aF, Int.natCast_add, Int.natCast_mul, Int.add_sub_cancel, List.length_nil, Int.cast_ofNat_Int, and_true, true_and])
  · have hke : k = c.n := by omega
    subst hke
    have e1 : st.take c.n = st := List.take_of_length_le (by omega)
    rw [e1]
    simp (disch := ((try simp only [List.length_set, List.length_replicate, List.length_append, List.length_cons, List.length_nil]); omega)) only [aW, aX, aV, aB, aN, aL, aP, aH, aM, r_law36_states]
    exact post1 (R := fun r H' => _) (r := .tup [.fs true (ints st), .v (.bool true)]) (Nat.le_refl _) hb (Fz.tup ⟨fz_vsI _ _ H.length ver _ st (Nat.le_refl _) sl.symm (by rw [blkAt_new0]; simp [blkAt]), Fz.refl rfl, trivial⟩) ⟨rfl, rfl⟩
end Go.Proofs.Ytfnghkmchlfooaa
namespace Go.Proofs.Ytfnghkmchlfooaa
open Go Go.Lft
set_option linter.unusedSimpArgs false
set_option linter.unusedVariables false
attribute [local congr] ob_congr bw_congr ib_congr ck_congr iwA_congr itA_congr aw_congr awp_congr sqA_congr bkA_congr vr_congr gd_congr

theorem has_mem {l : List Int} {k : Nat} {x : Int} (hk : k < l.length) (h : l.getD k 0 = x) : x ∈ l := h ▸ mem_get 0 hk
theorem has36_vr {w : Bool} (l : List Int) (hl : l.length < 1000000000) (x : Int) : VR P false n_ref36_has [.fs w (ints l), .v (.int .i64 x)] [] (isR (.v (.bool (decide (x ∈ l))))) := by
  refine vr_ref36_has (by simp) (.inr rfl) fun _ _ => ?_
  simp (disch := ((try simp only [List.length_set, List.length_replicate, List.length_append, List.length_cons, List.length_nil]); omega)) only [aW, aX, aV, aB, aN, aL, aP, aH, aM, s_ref36_has, v_ref36_has]
  refine AWP.loopP g_ref36_has_0 (fun k : Nat => k ≤ l.length ∧ ∀ i, i < k → ¬ l.getD i 0 = x) (fun k => [(2, .v (.bool false)), (3, .v (.int .i64 k))]) (fun _ => []) (fun k => l.length - k) 0 ⟨by omega, fun i hi => by omega⟩ (by refine Cut.of' (0) ?_ (by omega) ?_ ?_ <;> simp (disch := first | omega | simp (disch := omega) only [aF, aL, aN, aM]) only [aW, aX, aV, aB, aN, aL, aP, aH, aM, aF, Int.natCast_add, Int.natCast_mul, Int.add_sub_cancel, List.length_nil, Int.cast_ofNat_Int, and_true, true_and]) ?_
  rintro k ⟨hk, hb⟩
  by_cases hlt : k < l.length
  · simp (disch := ((try simp only [List.length_set, List.length_replicate, List.length_append, List.length_cons, List.length_nil]); omega)) only [aW, aX, aV, aB, aN, aL, aP, aH, aM]
    refine ib_intro (fun h3 => ?_) (fun h3 => ?_)
    · simp (disch := ((try simp only [List.length_set, List.length_replicate, List.length_append, List.length_cons, List.length_nil]); omega)) only [aW, aX, aV, aB, aN, aL, aP, aH, aM, r_ref36_has]
      exact post_v ⟨vtrue (has_mem hlt h3), rfl⟩
    · simp (disch := ((try simp only [List.length_set, List.length_replicate, List.length_append, List.length_cons, List.length_nil]); omega)) only [aW, aX, aV, aB, aN, aL, aP, aH, aM]
      refine ⟨k + 1, ⟨by omega, fun i hi => ?_⟩, by omega, (by refine Cut.of' (0) ?_ (by omega) ?_ ?_ <;> simp (disch := first | omega | simp (disch := omega) only [aF, aL, aN, aM]) only [aW, aX, aV, aB, aN, aL, aP, aH, aM, aF, Int.natCast_add, Int.natCast_mul, Int.add_sub_cancel, List.length_nil, Int.cast_ofNat_Int, and_true, true_and])⟩
      rcases Nat.lt_succ_iff_lt_or_eq.1 hi with h | rfl
      · exact hb i h
      · exact h3
  · simp (disch := ((try simp only [List.length_set, List.length_replicate, List.length_append, List.length_cons, List.length_nil]); omega)) only [aW, aX, aV, aB, aN, aL, aP, aH, aM, r_ref36_has]
    refine post_v ⟨vfalse ?_, rfl⟩
    intro hc
    obtain ⟨i, hi, he⟩ := get_mem 0 hc
    exact hb i (by omega) he
/-- The group feeds a machine outside. -/
def feedP (l : Arcs) (r : List Int) (m : Int) : Prop := m ∉ r ∧ ∃ a ∈ l, a.2 = m ∧ a.1 ∈ r
instance (l : Arcs) (r : List Int) (m : Int) : Decidable (feedP l r m) := by unfold feedP; infer_instance
theorem feeds_vr {w v : Bool} (n : Int) (l : Arcs) (hl : l.length < 1000000000) (r : List Int) (hr : r.length < 1000000000) (m : Int) : VR P false n_ref36_feeds [graphA w n l, .fs v (ints r), .v (.int .i64 m)] [] (isR (.v (.bool (decide (feedP l r m))))) := by
  refine vr_ref36_feeds (by simp) (.inr rfl) fun _ _ => ?_
  unfold graphA
  simp (disch := ((try simp only [List.length_set, List.length_replicate, List.length_append, List.length_cons, List.length_nil]); omega)) only [aW, aX, aV, aB, aN, aL, aP, aH, aM, s_ref36_feeds, v_ref36_feeds]
  refine (has36_vr (w := v) r hr m).same (by simp (disch := first | omega | simp (disch := omega) only [aF, aL, aN, aM]) only [aW, aX, aV, aB, aN, aL, aP, aH, aM, aF, Int.natCast_add, Int.natCast_mul, Int.add_sub_cancel, List.length_nil, Int.cast_ofNat_Int, and_true, true_and]) rfl (aret_of ?_)
  by_cases hm : m ∈ r
  · rw [decide_eq_true hm]
    simp (disch := ((try simp only [List.length_set, List.length_replicate, List.length_append, List.length_cons, List.length_nil]); omega)) only [aW, aX, aV, aB, aN, aL, aP, aH, aM, r_ref36_feeds]
    exact post_v ⟨vfalse fun h => h.1 hm, rfl⟩
  rw [decide_eq_false hm]
  simp (disch := ((try simp only [List.length_set, List.length_replicate, List.length_append, List.length_cons, List.length_nil]); omega)) only [aW, aX, aV, aB, aN, aL, aP, aH, aM]
  refine AWP.loopP g_ref36_feeds_0 (fun k : Nat => k ≤ l.length ∧ ∀ i, i < k → ¬ ((l.getD i (0, 0)).2 = m ∧ (l.getD i (0, 0)).1 ∈ r)) (fun k => [(3, .v (.bool false)), (5, .v (.int .i64 k))]) (fun _ => []) (fun k => l.length - k) 0 ⟨by omega, fun i hi => by omega⟩ ?_ ?_
  · exact Cut.of' 1 rfl (by omega) (by simp (disch := first | omega | simp (disch := omega) only [aF, aL, aN, aM]) only [aW, aX, aV, aB, aN, aL, aP, aH, aM, aF, Int.natCast_add, Int.natCast_mul, Int.add_sub_cancel, List.length_nil, Int.cast_ofNat_Int, and_true, true_and]) (by simp (disch := first | omega | simp (disch := omega) only [aF, aL, aN, aM]) only [aW, aX, aV, aB, aN, aL, aP, aH, aM, aF, Int.natCast_add, Int.natCast_mul, Int.add_sub_cancel, List.length_nil, Int.cast_ofNat_Int, and_true, true_and])
  rintro k ⟨hk, hb⟩
  by_cases hlt : k < l.length
  · by_cases h1 : (l.getD k (0, 0)).2 = m
    · simp (disch := ((try simp only [List.length_set, List.length_replicate, List.length_append, List.length_cons, List.length_nil]); omega)) only [aW, aX, aV, aB, aN, aL, aP, aH, aM, decide_eq_true h1]
      refine (has36_vr (w := v) r hr (l.getD k (0, 0)).1).same (by simp (disch := first | omega | simp (disch := omega) only [aF, aL, aN, aM]) only [aW, aX, aV, aB, aN, aL, aP, aH, aM, aF, Int.natCast_add, Int.natCast_mul, Int.add_sub_cancel, List.length_nil, Int.cast_ofNat_Int, and_true, true_and]) rfl (aret_of ?_)
      by_cases h2 : (l.getD k (0, 0)).1 ∈ r
      · rw [decide_eq_true h2]
        simp (disch := ((try simp only [List.length_set, List.length_replicate, List.length_append, List.length_cons, List.length_nil]); omega)) only [aW, aX, aV, aB, aN, aL, aP, aH, aM, r_ref36_feeds]
        exact post_v ⟨vtrue ⟨hm, _, mem_get (0, 0) hlt, h1, h2⟩, rfl⟩
      · rw [decide_eq_false h2]
        simp (disch := ((try simp only [List.length_set, List.length_replicate, List.length_append, List.length_cons, List.length_nil]); omega)) only [aW, aX, aV, aB, aN, aL, aP, aH, aM]
        refine ⟨k + 1, ⟨by omega, fun i hi => ?_⟩, by omega, ?_⟩
        · rcases Nat.lt_succ_iff_lt_or_eq.1 hi with h | rfl
          · exact hb i h
          · exact fun h => h2 h.2
        · exact Cut.of' 1 rfl (by omega) (by simp (disch := first | omega | simp (disch := omega) only [aF, aL, aN, aM]) only [aW, aX, aV, aB, aN, aL, aP, aH, aM, aF, Int.natCast_add, Int.natCast_mul, Int.add_sub_cancel, List.length_nil, Int.cast_ofNat_Int, and_true, true_and]) (by simp (disch := first | omega | simp (disch := omega) only [aF, aL, aN, aM]) only [aW, aX, aV, aB, aN, aL, aP, aH, aM, aF, Int.natCast_add, Int.natCast_mul, Int.add_sub_cancel, List.length_nil, Int.cast_ofNat_Int, and_true, true_and])
    · simp (disch := ((try simp only [List.length_set, List.length_replicate, List.length_append, List.length_cons, List.length_nil]); omega)) only [aW, aX, aV, aB, aN, aL, aP, aH, aM, decide_eq_false h1]
      refine ⟨k + 1, ⟨by omega, fun i hi => ?_⟩, by omega, ?_⟩
      · rcases Nat.lt_succ_iff_lt_or_eq.1 hi with h | rfl
        · exact hb i h
        · exact fun h => h1 h.1
      · exact Cut.of' 1 rfl (by omega) (by simp (disch := first | omega | simp (disch := omega) only [aF, aL, aN, aM]) only [aW, aX, aV, aB, aN, aL, aP, aH, aM, aF, Int.natCast_add, Int.natCast_mul, Int.add_sub_cancel, List.length_nil, Int.cast_ofNat_Int, and_true, true_and]) (by simp (disch := first | omega | simp (disch := omega) only [aF, aL, aN, aM]) only [aW, aX, aV, aB, aN, aL, aP, aH, aM, aF, Int.natCast_add, Int.natCast_mul, Int.add_sub_cancel, List.length_nil, Int.cast_ofNat_Int, and_true, true_and])
  · simp (disch := ((try simp only [List.length_set, List.length_replicate, List.length_append, List.length_cons, List.length_nil]); omega)) only [aW, aX, aV, aB, aN, aL, aP, aH, aM, r_ref36_feeds]
    refine post_v ⟨vfalse ?_, rfl⟩
    rintro ⟨_, a, h1, h2⟩
    obtain ⟨i, hi, rfl⟩ := get_mem (0, 0) h1
    exact hb i (by omega) h2

/-! ### A panel in memory -/
def refC (c : Cn) (j : Nat) : List A := [.v (.int .i64 c.n), .fs true (pairs c.l), .fs true (rows true c.G), .sl j 0 1 0 c.n]
structure RS (H : List Blk) (i j : Nat) (c : Cn) (st : List Int) : Prop where
  hi : blkAt H i 0 = some (refC c j)
  hj : blkAt H j 0 = some (ints st)
  ne : i ≠ j
  sl : st.length = c.n
theorem RS.set {H : List Blk} {i j : Nat} {c : Cn} {st : List Int} (h : RS H i j c st) (st' : List Int) (hl : st'.length = c.n) : RS (H.set j ⟨0, ints st'⟩) i j c st' :=
  ⟨by rw [blkAt_set_ne _ _ _ _ _ h.ne]; exact h.hi, blkAt_set_same _ _ _ _ (blkAt_lt h.hj), h.ne, hl⟩
theorem refNew_err {w v : Bool} {p : Pl} (h : pcheck p ≠ 0) : VR P false n_ref36_New [plA w v p] [] (isR (.tup [.v (.pointer none), .v (.int .i64 (pcheck p))])) := by
  refine vr_ref36_New (by simp) (.inr rfl) fun _ _ => ?_
  have hv := refGraph_vr (w := w) (v := v) p
  rw [pgraph_err h] at hv
  unfold graphT graphA at hv
  unfold plA plC at hv ⊢
  simp (disch := ((try simp only [List.length_set, List.length_replicate, List.length_append, List.length_cons, List.length_nil]); omega)) only [aW, aX, aV, aB, aN, aL, aP, aH, aM, s_ref36_New, v_ref36_New]
  refine hv.same (by simp (disch := first | omega | simp (disch := omega) only [aF, aL, aN, aM]) only [aW, aX, aV, aB, aN, aL, aP, aH, aM, aF, Int.natCast_add, Int.natCast_mul, Int.add_sub_cancel, List.length_nil, Int.cast_ofNat_Int, and_true, true_and]) (by simp (disch := first | omega | simp (disch := omega) only [aF, aL, aN, aM]) only [aW, aX, aV, aB, aN, aL, aP, aH, aM, aF, Int.natCast_add, Int.natCast_mul, Int.add_sub_cancel, List.length_nil, Int.cast_ofNat_Int, and_true, true_and]) (aret_of ?_)
  simp (disch := ((try simp only [List.length_set, List.length_replicate, List.length_append, List.length_cons, List.length_nil]); omega)) only [aW, aX, aV, aB, aN, aL, aP, aH, aM, r_ref36_New]
  exact post0 (Fz.refl rfl) ⟨rfl, rfl⟩
def refG (c : Cn) (st : List Int) : List Blk := [⟨0, [.any, .any, .any, .any]⟩, ⟨0, [.any, .any]⟩, ⟨0, ints st⟩, ⟨0, refC c 2⟩]
theorem refNew_ok {w v : Bool} {p : Pl} (h : pcheck p = 0) : VR P false n_ref36_New [plA w v p] [] (ownR (.tup [.lp 3 0 0, .v (.int .i64 0)]) (refG (cnP p) (List.replicate (cnP p).n 0))) := by
  refine vr_ref36_New (by simp) (.inr rfl) fun _ _ => ?_
  have hv := refGraph_vr (w := w) (v := v) p
  have hv2 := refGroups_vr (w := true) p.ms.length (arcsR p)
  have ok := cn_ok h
  have n1 := ok.n1
  rw [pgraph_ok h] at hv
  have hgr : groupsR p.ms.length (arcsR p) = ((cnP p).G, 0) := by unfold groupsR; rw [if_neg (by have := ok.g; unfold cnP at this; simp only at this; omega), Int.toNat_natCast]; rfl
  rw [hgr] at hv2
  have hn : p.ms.length = (cnP p).n := rfl
  have hl : arcsR p = (cnP p).l := rfl
  unfold graphT graphA at hv
  unfold graphA at hv2
  rw [hn, hl] at hv hv2
  unfold refG refC
  unfold plA plC at hv ⊢
  generalize cnP p = c at *
  simp (disch := ((try simp only [List.length_set, List.length_replicate, List.length_append, List.length_cons, List.length_nil]); omega)) only [aW, aX, aV, aB, aN, aL, aP, aH, aM, s_ref36_New, v_ref36_New]
  refine hv.same (by simp (disch := first | omega | simp (disch := omega) only [aF, aL, aN, aM]) only [aW, aX, aV, aB, aN, aL, aP, aH, aM, aF, Int.natCast_add, Int.natCast_mul, Int.add_sub_cancel, List.length_nil, Int.cast_ofNat_Int, and_true, true_and]) (by simp (disch := first | omega | simp (disch := omega) only [aF, aL, aN, aM]) only [aW, aX, aV, aB, aN, aL, aP, aH, aM, aF, Int.natCast_add, Int.natCast_mul, Int.add_sub_cancel, List.length_nil, Int.cast_ofNat_Int, and_true, true_and]) (aret_of ?_)
  simp (disch := ((try simp only [List.length_set, List.length_replicate, List.length_append, List.length_cons, List.length_nil]); omega)) only [aW, aX, aV, aB, aN, aL, aP, aH, aM]
  refine hv2.same (by simp (disch := first | omega | simp (disch := omega) only [aF, aL, aN, aM]) only [aW, aX, aV, aB, aN, aL, aP, aH, aM, aF, Int.natCast_add, Int.natCast_mul, Int.add_sub_cancel, List.length_nil, Int.cast_ofNat_Int, and_true, true_and]) (by simp (disch := first | omega | simp (disch := omega) only [aF, aL, aN, aM]) only [aW, aX, aV, aB, aN, aL, aP, aH, aM, aF, Int.natCast_add, Int.natCast_mul, Int.add_sub_cancel, List.length_nil, Int.cast_ofNat_Int, and_true, true_and]) (aret_of ?_)
  simp (disch := ((try simp only [List.length_set, List.length_replicate, List.length_append, List.length_cons, List.length_nil]); omega)) only [aW, aX, aV, aB, aN, aL, aP, aH, aM, Int.toNat_natCast, r_ref36_New]
  refine ⟨_, refG c (List.replicate c.n 0), ?_, rfl, rfl⟩
  unfold refG refC
  exact Cut.of' 4 rfl (by omega) (by simp (disch := first | omega | simp (disch := omega) only [aF, aL, aN, aM]) only [aW, aX, aV, aB, aN, aL, aP, aH, aM, aF, Int.natCast_add, Int.natCast_mul, Int.add_sub_cancel, List.length_nil, Int.cast_ofNat_Int, and_true, true_and]) ⟨Fz.refl rfl, trivial⟩
theorem refC_sh (n : Nat) (c : Cn) (j : Nat) : A.shL n (refC c j) = refC c (n + j) := by
  unfold refC
  simp only [A.shL, A.sh, shL_bd _ (p_bd 0 _), shL_bd _ (r_bd 0 _ _)]
theorem refG_sh (n : Nat) (c : Cn) (st : List Int) : (refG c st).map (Blk.sh n) = [⟨0, [.any, .any, .any, .any]⟩, ⟨0, [.any, .any]⟩, ⟨0, ints st⟩, ⟨0, refC c (n + 2)⟩] := by
  unfold refG
  simp only [List.map_cons, List.map_nil, Blk.sh, refC_sh, A.shL, A.sh, shL_bd _ (ii_bd 0 _)]
theorem refG_cl (c : Cn) (st : List Int) : ((refG c st).all fun B => A.clL B.cells) = true := by
  simp [refG, refC, A.clL, A.cl, p_cl, r_cl, ii_cl]

theorem rcheck_ps {H : List Blk} {i j : Nat} {c : Cn} {st : List Int} (h : RS H i j c st) (m : Int) : VR P false n_ref36_Panel_check [.lp i 0 0, .v (.int .i64 m)] H (fun r H' => r = .v (.int .i64 (if c.bad m then 7 else 0)) ∧ H' = H) := by
  refine vr_ref36_Panel_check (by simp) (.inl rfl) fun hb _ => ?_
  have hi := h.hi
  unfold refC at hi
  by_cases hm : c.bad m
  · have hm' := hm
    unfold Cn.bad at hm'
    rw [if_pos hm]
    simp (disch := ((try simp only [List.length_set, List.length_replicate, List.length_append, List.length_cons, List.length_nil]); omega)) only [aW, aX, aV, aB, aN, aL, aP, aH, aM, s_ref36_Panel_check, v_ref36_Panel_check, r_ref36_Panel_check, hi, decide_eq_true hm']
    exact post2 (R := fun r H' => _) ⟨rfl, rfl⟩
  · have hm' := hm
    unfold Cn.bad at hm'
    rw [if_neg hm]
    simp (disch := ((try simp only [List.length_set, List.length_replicate, List.length_append, List.length_cons, List.length_nil]); omega)) only [aW, aX, aV, aB, aN, aL, aP, aH, aM, s_ref36_Panel_check, v_ref36_Panel_check, r_ref36_Panel_check, hi, decide_eq_false hm']
    exact post2 (R := fun r H' => _) ⟨rfl, rfl⟩
theorem rstate_ps {H : List Blk} {i j : Nat} {c : Cn} {st : List Int} (h : RS H i j c st) (m : Int) : VR P false n_ref36_Panel_State [.lp i 0 0, .v (.int .i64 m)] H (fun r H' => r = .tup [.v (.int .i64 (stateR c st m).1), .v (.int .i64 (stateR c st m).2)] ∧ H' = H) := by
  refine vr_ref36_Panel_State (by simp) (.inl rfl) fun hb _ => ?_
  have hi := h.hi
  have hj := h.hj
  have sl := h.sl
  unfold refC at hi
  unfold stateR
  simp (disch := ((try simp only [List.length_set, List.length_replicate, List.length_append, List.length_cons, List.length_nil]); omega)) only [aW, aX, aV, aB, aN, aL, aP, aH, aM, s_ref36_Panel_State, v_ref36_Panel_State]
  refine (rcheck_ps h m).mono ?_
  rintro r H' ⟨rfl, hH⟩
  rw [hH]
  refine aret_of ?_
  by_cases hm : c.bad m
  · rw [if_pos hm, if_pos hm]
    simp (disch := ((try simp only [List.length_set, List.length_replicate, List.length_append, List.length_cons, List.length_nil]); omega)) only [aW, aX, aV, aB, aN, aL, aP, aH, aM, r_ref36_Panel_State]
    exact post2 (R := fun r H' => _) ⟨rfl, rfl⟩
  · rw [if_neg hm, if_neg hm]
    unfold Cn.bad at hm
    simp (disch := ((try simp only [List.length_set, List.length_replicate, List.length_append, List.length_cons, List.length_nil]); omega)) only [aW, aX, aV, aB, aN, aL, aP, aH, aM, r_ref36_Panel_State, hi, hj]
    exact post2 (R := fun r H' => _) ⟨rfl, rfl⟩
theorem rclear_ps {H : List Blk} {i j : Nat} {c : Cn} {st : List Int} (h : RS H i j c st) (m : Int) : VR P false n_ref36_Panel_Clear [.lp i 0 0, .v (.int .i64 m)] H (fun r H' => r = .v (.int .i64 (clearR c st m).1) ∧ H' = H.set j ⟨0, ints (clearR c st m).2⟩) := by
  refine vr_ref36_Panel_Clear (by simp) (.inl rfl) fun hb _ => ?_
  have hi := h.hi
  have hj := h.hj
  have sl := h.sl
  have hs := set_self hj
  have lt := blkAt_lt hj
  unfold refC at hi
  unfold clearR
  simp (disch := ((try simp only [List.length_set, List.length_replicate, List.length_append, List.length_cons, List.length_nil]); omega)) only [aW, aX, aV, aB, aN, aL, aP, aH, aM, s_ref36_Panel_Clear, v_ref36_Panel_Clear]
  refine (rcheck_ps h m).mono ?_
  rintro r H' ⟨rfl, hH⟩
  rw [hH]
  refine aret_of ?_
  by_cases hm : c.bad m
  · rw [if_pos hm, if_pos hm]
    simp (disch := ((try simp only [List.length_set, List.length_replicate, List.length_append, List.length_cons, List.length_nil]); omega)) only [aW, aX, aV, aB, aN, aL, aP, aH, aM, r_ref36_Panel_Clear]
    exact post2 (R := fun r H' => _) ⟨rfl, hs.symm⟩
  rw [if_neg hm, if_neg hm]
  unfold Cn.bad at hm
  simp (disch := ((try simp only [List.length_set, List.length_replicate, List.length_append, List.length_cons, List.length_nil]); omega)) only [aW, aX, aV, aB, aN, aL, aP, aH, aM, hi, hj]
  refine ib_intro (fun h1 => ?_) (fun h1 => ?_)
  · rw [if_pos h1]
    simp (disch := ((try simp only [List.length_set, List.length_replicate, List.length_append, List.length_cons, List.length_nil]); omega)) only [aW, aX, aV, aB, aN, aL, aP, aH, aM, r_ref36_Panel_Clear]
    exact post2 (R := fun r H' => _) ⟨rfl, hs.symm⟩
  · rw [if_neg h1]
    simp (disch := ((try simp only [List.length_set, List.length_replicate, List.length_append, List.length_cons, List.length_nil]); omega)) only [aW, aX, aV, aB, aN, aL, aP, aH, aM, r_ref36_Panel_Clear, hi, hj]
    exact post2 (R := fun r H' => _) ⟨rfl, rfl⟩
theorem rstop_ps {H : List Blk} {i j : Nat} {c : Cn} {st : List Int} (ok : CnOk c) (h : RS H i j c st) (m : Int) : VR P false n_ref36_Panel_Stop [.lp i 0 0, .v (.int .i64 m)] H (fun r H' => r = .v (.int .i64 (stopR c st m).1) ∧ H' = H.set j ⟨0, ints (stopR c st m).2⟩) := by
  refine vr_ref36_Panel_Stop (by simp) (.inl rfl) fun hb _ => ?_
  have hi := h.hi
  have hj := h.hj
  have sl := h.sl
  have hs := set_self hj
  have lt := blkAt_lt hj
  have lti := blkAt_lt h.hi
  have n1 := ok.n1
  unfold refC at hi
  unfold stopR
  simp (disch := ((try simp only [List.length_set, List.length_replicate, List.length_append, List.length_cons, List.length_nil]); omega)) only [aW, aX, aV, aB, aN, aL, aP, aH, aM, s_ref36_Panel_Stop, v_ref36_Panel_Stop]
  refine (rcheck_ps h m).mono ?_
  rintro r H' ⟨rfl, hH⟩
  rw [hH]
  refine aret_of ?_
  by_cases hm : c.bad m
  · rw [if_pos hm, if_pos hm]
    simp (disch := ((try simp only [List.length_set, List.length_replicate, List.length_append, List.length_cons, List.length_nil]); omega)) only [aW, aX, aV, aB, aN, aL, aP, aH, aM, r_ref36_Panel_Stop]
    exact post2 (R := fun r H' => _) ⟨rfl, hs.symm⟩
  rw [if_neg hm, if_neg hm]
  unfold Cn.bad at hm
  have hv := refBack_vr (w := true) c.n c.l m
  have e : visitR c.n c.l (backL c.l) m = (c.bk m, 0) := by
    unfold visitR; rw [if_neg (by have := ok.g; omega), if_neg (by omega)]; rfl
  have hbl : (c.bk m).length = c.n := by unfold Cn.bk; rw [reachL_len]; simp
  rw [e] at hv
  unfold graphA at hv
  unfold stopL
  generalize c.bk m = B at *
  simp (disch := ((try simp only [List.length_set, List.length_replicate, List.length_append, List.length_cons, List.length_nil]); omega)) only [aW, aX, aV, aB, aN, aL, aP, aH, aM, hi]
  refine hv.same (by simp (disch := first | omega | simp (disch := omega) only [aF, aL, aN, aM]) only [aW, aX, aV, aB, aN, aL, aP, aH, aM, aF, Int.natCast_add, Int.natCast_mul, Int.add_sub_cancel, List.length_nil, Int.cast_ofNat_Int, and_true, true_and]) (by simp (disch := first | omega | simp (disch := omega) only [aF, aL, aN, aM]) only [aW, aX, aV, aB, aN, aL, aP, aH, aM, aF, Int.natCast_add, Int.natCast_mul, Int.add_sub_cancel, List.length_nil, Int.cast_ofNat_Int, and_true, true_and]) (aret_of ?_)
  simp (disch := ((try simp only [List.length_set, List.length_replicate, List.length_append, List.length_cons, List.length_nil]); omega)) only [aW, aX, aV, aB, aN, aL, aP, aH, aM]
  refine AWP.loopP g_ref36_Panel_Stop_0 (fun k : Nat => k ≤ c.n) (fun k => [(6, .v (.int .i64 k))]) (fun k => [(j, ⟨0, ints (stopF B st k)⟩)]) (fun k => c.n - k) 0 (by omega) ?_ ?_
  · rw [stopF_zero]
    simp (disch := ((try simp only [List.length_set, List.length_replicate, List.length_append, List.length_cons, List.length_nil]); omega)) only [aW, aX, aV, aB, aN, aL, aP, aH, aM, hs]
    exact Cut.same (Nat.le_refl _) hb (by simp (disch := first | omega | simp (disch := omega) only [aF, aL, aN, aM]) only [aW, aX, aV, aB, aN, aL, aP, aH, aM, aF, Int.natCast_add, Int.natCast_mul, Int.add_sub_cancel, List.length_nil, Int.cast_ofNat_Int, and_true, true_and])
  rintro k hk
  have hq := h.set (stopF B st k) (by rw [stopF_len]; exact sl)
  have hqi := hq.hi
  have hqj := hq.hj
  unfold refC at hqi
  have fl := stopF_len B st k
  have hb' : ∀ st' : List Int, okB (H.set j ⟨0, ints st'⟩).length (H.set j ⟨0, ints st'⟩) := fun st' => by rw [List.length_set]; exact okB.set hb (ii_bd _ _)
  by_cases hlt : k < c.n
  · have hsu := stopF_succ B st k (by omega)
    have hat := stopF_at B st k (by omega)
    cases h1 : B.getD k false with
    | true =>
      rw [if_pos h1] at hsu
      by_cases h2 : st.getD k 0 = 1
      · have e1 : stp (st.getD k 0) = 0 := by unfold stp; rw [if_pos h2]
        rw [e1] at hsu
        simp (disch := ((try simp only [List.length_set, List.length_replicate, List.length_append, List.length_cons, List.length_nil]); omega)) only [aW, aX, aV, aB, aN, aL, aP, aH, aM, h1, hqi, hqj, hat, decide_eq_true h2, List.length_set, ← hsu]
        refine ⟨k + 1, by omega, by omega, ?_⟩
        try simp (disch := ((try simp only [List.length_set, List.length_replicate, List.length_append, List.length_cons, List.length_nil]); omega)) only [aW, aX, aV, aB, aN, aL, aP, aH, aM]
        exact Cut.same (by rw [List.length_set]; exact Nat.le_refl _) (hb' _) (by simp (disch := first | omega | simp (disch := omega) only [aF, aL, aN, aM]) only [aW, aX, aV, aB, aN, aL, aP, aH, aM, aF, Int.natCast_add, Int.natCast_mul, Int.add_sub_cancel, List.length_nil, Int.cast_ofNat_Int, and_true, true_and])
      · have e1 : stp (st.getD k 0) = st.getD k 0 := by unfold stp; rw [if_neg h2]
        have e2 : (stopF B st k).set k (st.getD k 0) = stopF B st k := eq_of_get 0 (by simp) fun i hi => by
          rw [getD_setC]; split
          · rename_i h3; rw [← h3.1, hat]
          · rfl
        rw [e1, e2] at hsu
        simp (disch := ((try simp only [List.length_set, List.length_replicate, List.length_append, List.length_cons, List.length_nil]); omega)) only [aW, aX, aV, aB, aN, aL, aP, aH, aM, h1, hqi, hqj, hat, decide_eq_false h2]
        refine ⟨k + 1, by omega, by omega, ?_⟩
        rw [hsu]
        try simp (disch := ((try simp only [List.length_set, List.length_replicate, List.length_append, List.length_cons, List.length_nil]); omega)) only [aW, aX, aV, aB, aN, aL, aP, aH, aM]
        exact Cut.same (by rw [List.length_set]; exact Nat.le_refl _) (hb' _) (by simp (disch := first | omega | simp (disch := omega) only [aF, aL, aN, aM]) only [aW, aX, aV, aB, aN, aL, aP, aH, aM, aF, Int.natCast_add, Int.natCast_mul, Int.add_sub_cancel, List.length_nil, Int.cast_ofNat_Int, and_true, true_and])
    | false =>
      rw [if_neg (by rw [h1]; simp)] at hsu
      simp (disch := ((try simp only [List.length_set, List.length_replicate, List.length_append, List.length_cons, List.length_nil]); omega)) only [aW, aX, aV, aB, aN, aL, aP, aH, aM, h1, hqi, hqj]
      refine ⟨k + 1, by omega, by omega, ?_⟩
      rw [hsu]
      try simp (disch := ((try simp only [List.length_set, List.length_replicate, List.length_append, List.length_cons, List.length_nil]); omega)) only [aW, aX, aV, aB, aN, aL, aP, aH, aM]
      exact Cut.same (by rw [List.length_set]; exact Nat.le_refl _) (hb' _) (by simp (disch := first | omega | simp (disch := omega) only [aF, aL, aN, aM]) only [aW, aX, aV, aB, aN, aL, aP, aH, aM, aF, Int.natCast_add, Int.natCast_mul, Int.add_sub_cancel, List.length_nil, Int.cast_ofNat_Int, and_true, true_and])
  · have hke : k = c.n := by omega
    subst hke
    simp (disch := ((try simp only [List.length_set, List.length_replicate, List.length_append, List.length_cons, List.length_nil]); omega)) only [aW, aX, aV, aB, aN, aL, aP, aH, aM, r_ref36_Panel_Stop]
    exact post2 (R := fun r H' => _) ⟨rfl, rfl⟩
theorem rjam_ps {H : List Blk} {i j : Nat} {c : Cn} {st : List Int} (ok : CnOk c) (h : RS H i j c st) (m : Int) : VR P false n_ref36_Panel_Jam [.lp i 0 0, .v (.int .i64 m)] H (fun r H' => r = .v (.int .i64 (jamR c st m).1) ∧ H' = H.set j ⟨0, ints (jamR c st m).2⟩) := by
  refine vr_ref36_Panel_Jam (by simp) (.inl rfl) fun hb _ => ?_
  have lt := blkAt_lt h.hj
  have lti := blkAt_lt h.hi
  have n1 := ok.n1
  unfold jamR
  simp (disch := ((try simp only [List.length_set, List.length_replicate, List.length_append, List.length_cons, List.length_nil]); omega)) only [aW, aX, aV, aB, aN, aL, aP, aH, aM, s_ref36_Panel_Jam, v_ref36_Panel_Jam]
  refine (rstop_ps ok h m).mono ?_
  rintro r H' ⟨rfl, hH⟩
  rw [hH]
  refine aret_of ?_
  unfold stopR
  by_cases hm : c.bad m
  · rw [if_pos hm, if_pos hm]
    simp (disch := ((try simp only [List.length_set, List.length_replicate, List.length_append, List.length_cons, List.length_nil]); omega)) only [aW, aX, aV, aB, aN, aL, aP, aH, aM, r_ref36_Panel_Jam]
    exact post2 (R := fun r H' => _) ⟨rfl, rfl⟩
  rw [if_neg hm, if_neg hm]
  have sl := stopL_len c st m
  have sl2 := h.sl
  have hq := h.set (stopL c st m) (by omega)
  have hqi := hq.hi
  have hqj := hq.hj
  unfold refC at hqi
  unfold Cn.bad at hm
  simp (disch := ((try simp only [List.length_set, List.length_replicate, List.length_append, List.length_cons, List.length_nil]); omega)) only [aW, aX, aV, aB, aN, aL, aP, aH, aM, r_ref36_Panel_Jam, hqi, hqj, List.length_set]
  exact post2 (R := fun r H' => _) ⟨rfl, rfl⟩

theorem rsafe_ps {H : List Blk} {i j : Nat} {c : Cn} {st : List Int} (ok : CnOk c) (h : RS H i j c st) : VR P false n_ref36_Panel_Safe [.lp i 0 0] H (fun r H' => r = .v (.bool (decide (safeP c st))) ∧ H' = H) := by
  refine vr_ref36_Panel_Safe (by simp) (.inl rfl) fun hb _ => ?_
  have hi := h.hi
  have hj := h.hj
  have sl := h.sl
  have lt := blkAt_lt hj
  have lti := blkAt_lt h.hi
  have l1 := ok.l1
  unfold refC at hi
  simp (disch := ((try simp only [List.length_set, List.length_replicate, List.length_append, List.length_cons, List.length_nil]); omega)) only [aW, aX, aV, aB, aN, aL, aP, aH, aM, s_ref36_Panel_Safe, v_ref36_Panel_Safe, hi]
  refine AWP.loopP g_ref36_Panel_Safe_0 (fun k : Nat => k ≤ c.l.length ∧ ∀ i, i < k → ¬ unsP st (c.l.getD i (0, 0))) (fun k => [(1, .v (.bool false)), (2, .v (.int .i64 k))]) (fun _ => []) (fun k => c.l.length - k) 0 ⟨by omega, fun i hi => by omega⟩ ?_ ?_
  · exact Cut.same (Nat.le_refl _) hb (by simp (disch := first | omega | simp (disch := omega) only [aF, aL, aN, aM]) only [aW, aX, aV, aB, aN, aL, aP, aH, aM, aF, Int.natCast_add, Int.natCast_mul, Int.add_sub_cancel, List.length_nil, Int.cast_ofNat_Int, and_true, true_and])
  rintro k ⟨hk, hn⟩
  by_cases hlt : k < c.l.length
  · obtain ⟨a1, a2⟩ := ok.r _ (mem_get (0, 0) hlt)
    simp (disch := ((try simp only [List.length_set, List.length_replicate, List.length_append, List.length_cons, List.length_nil]); omega)) only [aW, aX, aV, aB, aN, aL, aP, aH, aM, hi, hj]
    refine ib_intro (fun h3 => ?_) (fun h3 => ?_)
    · simp (disch := ((try simp only [List.length_set, List.length_replicate, List.length_append, List.length_cons, List.length_nil]); omega)) only [aW, aX, aV, aB, aN, aL, aP, aH, aM, r_ref36_Panel_Safe]
      refine post1 (R := fun r H' => _) (Nat.le_refl _) hb (Fz.refl rfl) ⟨?_, rfl⟩
      rw [decide_eq_false fun hs => hs _ (mem_get (0, 0) hlt) h3]; rfl
    · simp (disch := ((try simp only [List.length_set, List.length_replicate, List.length_append, List.length_cons, List.length_nil]); omega)) only [aW, aX, aV, aB, aN, aL, aP, aH, aM]
      refine ⟨k + 1, ⟨by omega, fun i hi => ?_⟩, by omega, ?_⟩
      · rcases Nat.lt_succ_iff_lt_or_eq.1 hi with h | rfl
        · exact hn i h
        · exact h3
      · exact Cut.app (Nat.le_refl _) hb (by simp (disch := first | omega | simp (disch := omega) only [aF, aL, aN, aM]) only [aW, aX, aV, aB, aN, aL, aP, aH, aM, aF, Int.natCast_add, Int.natCast_mul, Int.add_sub_cancel, List.length_nil, Int.cast_ofNat_Int, and_true, true_and])
  · simp (disch := ((try simp only [List.length_set, List.length_replicate, List.length_append, List.length_cons, List.length_nil]); omega)) only [aW, aX, aV, aB, aN, aL, aP, aH, aM, r_ref36_Panel_Safe]
    refine post2 (R := fun r H' => _) ⟨?_, rfl⟩
    have hs : safeP c st := fun a ha => by
      obtain ⟨i, hi, rfl⟩ := get_mem (0, 0) ha
      exact hn i (by omega)
    rw [decide_eq_true hs]; rfl

/-- The group that the reference finds among the first k. -/
def gOf (G : List (List Int)) : Nat → Int → List Int
  | 0, _ => []
  | k + 1, m => if m ∈ G.getD k [] then G.getD k [] else gOf G k m
theorem gOf_all {n : Int} {l : Arcs} {G : List (List Int)} (h : GP n l G) {m : Int} (h0 : 0 ≤ m) (h1 : m < n) : gOf G G.length m = grp G m := by
  obtain ⟨k, hk, hx⟩ := h.cover m h0 h1
  have e : grp G m = G.getD k [] := by unfold grp; rw [ofN_at h hk hx, Int.toNat_natCast]
  rw [e]
  have : ∀ j, k < j → j ≤ G.length → gOf G j m = G.getD k [] := by
    intro j
    induction j with
    | zero => intro h1; omega
    | succ j ih =>
      intro h1 h2
      simp only [gOf]
      by_cases hj : k = j
      · subst hj; rw [if_pos hx]
      · rw [if_neg (h.apart k j (by omega) (by omega) m hx), ih (by omega) (by omega)]
  exact this _ hk (Nat.le_refl _)
theorem blk_feed {l : Arcs} {r st : List Int} {n : Nat} (hr : inR n l) (sl : st.length = n) : blkP l r st ↔ ∃ k, k < n ∧ st.getD k 0 ≠ 1 ∧ feedP l r k := by
  constructor
  · rintro ⟨a, h1, h2, h3, h4⟩
    have := hr a h1
    refine ⟨a.2.toNat, by omega, h4, ?_, a, h1, by omega, h2⟩
    rw [Int.toNat_of_nonneg (by omega)]; exact h3
  · rintro ⟨k, h1, h2, h3, a, h4, h5, h6⟩
    refine ⟨a, h4, h6, by rw [h5]; exact h3, by rw [h5, Int.toNat_natCast]; exact h2⟩

theorem rstart_ps {H : List Blk} {i j : Nat} {c : Cn} {st : List Int} (ok : CnOk c) (h : RS H i j c st) (m : Int) : VR P false n_ref36_Panel_Start [.lp i 0 0, .v (.int .i64 m)] H (fun r H' => r = .v (.int .i64 (startR c st m).1) ∧ H' = H.set j ⟨0, ints (startR c st m).2⟩) := by
  refine vr_ref36_Panel_Start (by simp) (.inl rfl) fun hb _ => ?_
  have hi := h.hi
  have hj := h.hj
  have sl := h.sl
  have hs := set_self hj
  have lt := blkAt_lt hj
  have lti := blkAt_lt h.hi
  have n1 := ok.n1
  have l1 := ok.l1
  have g1 := ok.G1
  unfold refC at hi
  unfold startR
  simp (disch := ((try simp only [List.length_set, List.length_replicate, List.length_append, List.length_cons, List.length_nil]); omega)) only [aW, aX, aV, aB, aN, aL, aP, aH, aM, s_ref36_Panel_Start, v_ref36_Panel_Start]
  refine (rcheck_ps h m).mono ?_
  rintro r H' ⟨rfl, hH⟩
  rw [hH]
  refine aret_of ?_
  by_cases hm : c.bad m
  · rw [if_pos hm, if_pos hm]
    simp (disch := ((try simp only [List.length_set, List.length_replicate, List.length_append, List.length_cons, List.length_nil]); omega)) only [aW, aX, aV, aB, aN, aL, aP, aH, aM, r_ref36_Panel_Start]
    exact post2 (R := fun r H' => _) ⟨rfl, hs.symm⟩
  rw [if_neg hm, if_neg hm]
  unfold Cn.bad at hm
  obtain ⟨r1, r2⟩ := grp_ok ok (m := m) (by omega) (by omega)
  have hga := gOf_all ok.gp (m := m) (by omega) (by omega)
  have hbf := fun r => blk_feed (r := r) ok.r sl
  have g2 := fun k hk => ok.G2 (k := k) hk
  generalize hr : grp c.G m = r at *
  simp (disch := ((try simp only [List.length_set, List.length_replicate, List.length_append, List.length_cons, List.length_nil]); omega)) only [aW, aX, aV, aB, aN, aL, aP, aH, aM, hi, hj]
  refine AWP.loopP g_ref36_Panel_Start_0 (fun k : Nat => k ≤ c.G.length) (fun k => [(4, .fs true (ints (gOf c.G k m))), (5, .v (.int .i64 k))]) (fun _ => []) (fun k => c.G.length - k) 0 (by omega) ?_ ?_
  · have e0 : ints (gOf c.G 0 m) = [] := rfl
    have hz : Fz H.length H (.v (.slice none 0 0)) (.fs true []) = True := eq_true (fz_nil _ _)
    exact Cut.same (Nat.le_refl _) hb (by simp (disch := first | omega | simp (disch := omega) only [aF, aL, aN, aM]) only [aW, aX, aV, aB, aN, aL, aP, aH, aM, aF, Int.natCast_add, Int.natCast_mul, Int.add_sub_cancel, List.length_nil, Int.cast_ofNat_Int, and_true, true_and, e0, hz])
  rintro k hk
  by_cases hlt : k < c.G.length
  · have hg2 := g2 k hlt
    simp (disch := ((try simp only [List.length_set, List.length_replicate, List.length_append, List.length_cons, List.length_nil]); omega)) only [aW, aX, aV, aB, aN, aL, aP, aH, aM, hi, hj]
    refine (has36_vr (w := true) (c.G.getD k []) (by omega) m).same (by simp (disch := first | omega | simp (disch := omega) only [aF, aL, aN, aM]) only [aW, aX, aV, aB, aN, aL, aP, aH, aM, aF, Int.natCast_add, Int.natCast_mul, Int.add_sub_cancel, List.length_nil, Int.cast_ofNat_Int, and_true, true_and]) rfl (aret_of ?_)
    by_cases h1 : m ∈ c.G.getD k []
    · have e1 : gOf c.G (k + 1) m = c.G.getD k [] := by simp only [gOf]; rw [if_pos h1]
      rw [decide_eq_true h1]
      simp (disch := ((try simp only [List.length_set, List.length_replicate, List.length_append, List.length_cons, List.length_nil]); omega)) only [aW, aX, aV, aB, aN, aL, aP, aH, aM]
      refine ⟨k + 1, by omega, by omega, ?_⟩
      rw [e1]
      exact Cut.same (Nat.le_refl _) hb (by simp (disch := first | omega | simp (disch := omega) only [aF, aL, aN, aM]) only [aW, aX, aV, aB, aN, aL, aP, aH, aM, aF, Int.natCast_add, Int.natCast_mul, Int.add_sub_cancel, List.length_nil, Int.cast_ofNat_Int, and_true, true_and])
    · have e1 : gOf c.G (k + 1) m = gOf c.G k m := by simp only [gOf]; rw [if_neg h1]
      rw [decide_eq_false h1]
      simp (disch := ((try simp only [List.length_set, List.length_replicate, List.length_append, List.length_cons, List.length_nil]); omega)) only [aW, aX, aV, aB, aN, aL, aP, aH, aM]
      refine ⟨k + 1, by omega, by omega, ?_⟩
      rw [e1]
      exact Cut.same (Nat.le_refl _) hb (by simp (disch := first | omega | simp (disch := omega) only [aF, aL, aN, aM]) only [aW, aX, aV, aB, aN, aL, aP, aH, aM, aF, Int.natCast_add, Int.natCast_mul, Int.add_sub_cancel, List.length_nil, Int.cast_ofNat_Int, and_true, true_and])
  have hke : k = c.G.length := by omega
  subst hke
  rw [hga]
  simp (disch := ((try simp only [List.length_set, List.length_replicate, List.length_append, List.length_cons, List.length_nil]); omega)) only [aW, aX, aV, aB, aN, aL, aP, aH, aM, hi, hj]
  refine AWP.loopP g_ref36_Panel_Start_1 (fun k : Nat => k ≤ r.length ∧ ∀ i, i < k → ¬ st.getD (r.getD i 0).toNat 0 = 2) (fun k => [(2, .v (.int .i64 0)), (10, .v (.int .i64 k))]) (fun _ => []) (fun k => r.length - k) 0 ⟨by omega, fun i hi => by omega⟩ ?_ ?_
  · exact Cut.same (Nat.le_refl _) hb (by simp (disch := first | omega | simp (disch := omega) only [aF, aL, aN, aM]) only [aW, aX, aV, aB, aN, aL, aP, aH, aM, aF, Int.natCast_add, Int.natCast_mul, Int.add_sub_cancel, List.length_nil, Int.cast_ofNat_Int, and_true, true_and])
  rintro k ⟨hk, hn⟩
  by_cases hlt : k < r.length
  · have hx := r2 _ (mem_get 0 hlt)
    simp (disch := ((try simp only [List.length_set, List.length_replicate, List.length_append, List.length_cons, List.length_nil]); omega)) only [aW, aX, aV, aB, aN, aL, aP, aH, aM, hi, hj]
    refine ib_intro (fun h3 => ?_) (fun h3 => ?_)
    · rw [if_pos (jam_hit hlt h3)]
      simp (disch := ((try simp only [List.length_set, List.length_replicate, List.length_append, List.length_cons, List.length_nil]); omega)) only [aW, aX, aV, aB, aN, aL, aP, aH, aM, r_ref36_Panel_Start]
      exact post2 (R := fun r H' => _) ⟨rfl, hs.symm⟩
    · simp (disch := ((try simp only [List.length_set, List.length_replicate, List.length_append, List.length_cons, List.length_nil]); omega)) only [aW, aX, aV, aB, aN, aL, aP, aH, aM]
      refine ⟨k + 1, ⟨by omega, fun i hi => ?_⟩, by omega, ?_⟩
      · rcases Nat.lt_succ_iff_lt_or_eq.1 hi with h | rfl
        · exact hn i h
        · exact h3
      · exact Cut.same (Nat.le_refl _) hb (by simp (disch := first | omega | simp (disch := omega) only [aF, aL, aN, aM]) only [aW, aX, aV, aB, aN, aL, aP, aH, aM, aF, Int.natCast_add, Int.natCast_mul, Int.add_sub_cancel, List.length_nil, Int.cast_ofNat_Int, and_true, true_and])
  have hke : k = r.length := by omega
  subst hke
  rw [if_neg (jam_none hn)]
  simp (disch := ((try simp only [List.length_set, List.length_replicate, List.length_append, List.length_cons, List.length_nil]); omega)) only [aW, aX, aV, aB, aN, aL, aP, aH, aM, hi, hj]
  refine AWP.loopP g_ref36_Panel_Start_2 (fun k : Nat => k ≤ c.n ∧ ∀ i, i < k → ¬ (st.getD i 0 ≠ 1 ∧ feedP c.l r i)) (fun k => [(2, .v (.int .i64 0)), (15, .v (.int .i64 k))]) (fun _ => []) (fun k => c.n - k) 0 ⟨by omega, fun i hi => by omega⟩ ?_ ?_
  · exact Cut.same (Nat.le_refl _) hb (by simp (disch := first | omega | simp (disch := omega) only [aF, aL, aN, aM]) only [aW, aX, aV, aB, aN, aL, aP, aH, aM, aF, Int.natCast_add, Int.natCast_mul, Int.add_sub_cancel, List.length_nil, Int.cast_ofNat_Int, and_true, true_and])
  rintro k ⟨hk, hn2⟩
  by_cases hlt2 : k < c.n
  · have hf := feeds_vr (w := true) (v := true) c.n c.l (by omega) r (by omega) k
    unfold graphA at hf
    by_cases h1 : st.getD k 0 = 1
    · have h1' : ¬ (st.getD k 0 ≠ 1) := fun h => h h1
      simp (disch := ((try simp only [List.length_set, List.length_replicate, List.length_append, List.length_cons, List.length_nil]); omega)) only [aW, aX, aV, aB, aN, aL, aP, aH, aM, hi, hj, decide_eq_false h1']
      refine ⟨k + 1, ⟨by omega, fun i hi => ?_⟩, by omega, ?_⟩
      · rcases Nat.lt_succ_iff_lt_or_eq.1 hi with h | rfl
        · exact hn2 i h
        · exact fun hc => hc.1 h1
      · exact Cut.same (Nat.le_refl _) hb (by simp (disch := first | omega | simp (disch := omega) only [aF, aL, aN, aM]) only [aW, aX, aV, aB, aN, aL, aP, aH, aM, aF, Int.natCast_add, Int.natCast_mul, Int.add_sub_cancel, List.length_nil, Int.cast_ofNat_Int, and_true, true_and])
    · simp (disch := ((try simp only [List.length_set, List.length_replicate, List.length_append, List.length_cons, List.length_nil]); omega)) only [aW, aX, aV, aB, aN, aL, aP, aH, aM, hi, hj, decide_eq_true h1]
      refine hf.same (by simp (disch := first | omega | simp (disch := omega) only [aF, aL, aN, aM]) only [aW, aX, aV, aB, aN, aL, aP, aH, aM, aF, Int.natCast_add, Int.natCast_mul, Int.add_sub_cancel, List.length_nil, Int.cast_ofNat_Int, and_true, true_and]) rfl (aret_of ?_)
      by_cases h2 : feedP c.l r k
      · rw [if_pos ((hbf r).2 ⟨k, hlt2, h1, h2⟩), decide_eq_true h2]
        simp (disch := ((try simp only [List.length_set, List.length_replicate, List.length_append, List.length_cons, List.length_nil]); omega)) only [aW, aX, aV, aB, aN, aL, aP, aH, aM, r_ref36_Panel_Start]
        exact post2 (R := fun r H' => _) ⟨rfl, hs.symm⟩
      · rw [decide_eq_false h2]
        simp (disch := ((try simp only [List.length_set, List.length_replicate, List.length_append, List.length_cons, List.length_nil]); omega)) only [aW, aX, aV, aB, aN, aL, aP, aH, aM]
        refine ⟨k + 1, ⟨by omega, fun i hi => ?_⟩, by omega, ?_⟩
        · rcases Nat.lt_succ_iff_lt_or_eq.1 hi with h | rfl
          · exact hn2 i h
          · exact fun hc => h2 hc.2
        · exact Cut.same (Nat.le_refl _) hb (by simp (disch := first | omega | simp (disch := omega) only [aF, aL, aN, aM]) only [aW, aX, aV, aB, aN, aL, aP, aH, aM, aF, Int.natCast_add, Int.natCast_mul, Int.add_sub_cancel, List.length_nil, Int.cast_ofNat_Int, and_true, true_and])
  have hke2 : k = c.n := by omega
  subst hke2
  rw [if_neg (fun hc => by
    obtain ⟨k, q1, q2, q3⟩ := (hbf r).1 hc
    exact hn2 k q1 ⟨q2, q3⟩)]
  simp (disch := ((try simp only [List.length_set, List.length_replicate, List.length_append, List.length_cons, List.length_nil]); omega)) only [aW, aX, aV, aB, aN, aL, aP, aH, aM, hi, hj]
  refine AWP.loopP g_ref36_Panel_Start_3 (fun k : Nat => k ≤ r.length) (fun k => [(21, .v (.int .i64 k))]) (fun k => [(j, ⟨0, ints (setG st (r.take k) 1)⟩)]) (fun k => r.length - k) 0 (by omega) ?_ ?_
  · rw [List.take_zero, setG_nil]
    simp (disch := ((try simp only [List.length_set, List.length_replicate, List.length_append, List.length_cons, List.length_nil]); omega)) only [aW, aX, aV, aB, aN, aL, aP, aH, aM, hs]
    exact Cut.same (Nat.le_refl _) hb (by simp (disch := first | omega | simp (disch := omega) only [aF, aL, aN, aM]) only [aW, aX, aV, aB, aN, aL, aP, aH, aM, aF, Int.natCast_add, Int.natCast_mul, Int.add_sub_cancel, List.length_nil, Int.cast_ofNat_Int, and_true, true_and])
  rintro k hk3
  have hq := h.set (setG st (r.take k) 1) (by rw [setG_len]; exact sl)
  have hqi := hq.hi
  have hqj := hq.hj
  unfold refC at hqi
  have fl := setG_len 1 (r.take k) st
  have hb' : ∀ st' : List Int, okB (H.set j ⟨0, ints st'⟩).length (H.set j ⟨0, ints st'⟩) := fun st' => by rw [List.length_set]; exact okB.set hb (ii_bd _ _)
  by_cases hlt3 : k < r.length
  · have hx := r2 _ (mem_get 0 hlt3)
    have e1 : setG st (r.take (k + 1)) 1 = (setG st (r.take k) 1).set (r.getD k 0).toNat 1 := by rw [take_succ_get' r k 0 hlt3, setG_snoc]
    simp (disch := ((try simp only [List.length_set, List.length_replicate, List.length_append, List.length_cons, List.length_nil]); omega)) only [aW, aX, aV, aB, aN, aL, aP, aH, aM, hqi, hqj, ← e1]
    refine ⟨k + 1, by omega, by omega, ?_⟩
    try simp (disch := ((try simp only [List.length_set, List.length_replicate, List.length_append, List.length_cons, List.length_nil]); omega)) only [aW, aX, aV, aB, aN, aL, aP, aH, aM]
    exact Cut.same (by rw [List.length_set]; exact Nat.le_refl _) (hb' _) (by simp (disch := first | omega | simp (disch := omega) only [aF, aL, aN, aM]) only [aW, aX, aV, aB, aN, aL, aP, aH, aM, aF, Int.natCast_add, Int.natCast_mul, Int.add_sub_cancel, List.length_nil, Int.cast_ofNat_Int, and_true, true_and])
  · have hke3 : k = r.length := by omega
    subst hke3
    rw [List.take_length]
    simp (disch := ((try simp only [List.length_set, List.length_replicate, List.length_append, List.length_cons, List.length_nil]); omega)) only [aW, aX, aV, aB, aN, aL, aP, aH, aM, r_ref36_Panel_Start]
    exact post2 (R := fun r H' => _) ⟨rfl, rfl⟩

theorem model_ps {H : List Blk} {i j : Nat} {c : Cn} {st : List Int} (ok : CnOk c) (h : RS H i j c st) (a : Int × Int) : VR P false n_law36_model [.lp i 0 0, pairA a] H (fun r H' => r = .v (.int .i64 (actR c st a).1) ∧ H' = H.set j ⟨0, ints (actR c st a).2⟩) := by
  refine vr_law36_model (by simp) (.inl rfl) fun hb _ => ?_
  have lt := blkAt_lt h.hj
  have lti := blkAt_lt h.hi
  have hp : RS (H ++ [⟨0, [.v (.int .i64 a.1), .v (.int .i64 a.2)]⟩]) i j c st := ⟨(blkAt_app _ _ _ _ lti).trans h.hi, (blkAt_app _ _ _ _ lt).trans h.hj, h.ne, h.sl⟩
  have hset : ∀ st', (H ++ [(⟨0, [.v (.int .i64 a.1), .v (.int .i64 a.2)]⟩ : Blk)]).set j ⟨0, ints st'⟩ = H.set j ⟨0, ints st'⟩ ++ [⟨0, [.v (.int .i64 a.1), .v (.int .i64 a.2)]⟩] := fun st' => setB_app _ _ _ _ lt
  have hb' : ∀ st' : List Int, okB (H.set j ⟨0, ints st'⟩).length (H.set j ⟨0, ints st'⟩) := fun st' => by rw [List.length_set]; exact okB.set hb (ii_bd _ _)
  unfold actR pairA
  by_cases h0 : a.1 = 0
  · rw [if_pos h0]
    simp (disch := ((try simp only [List.length_set, List.length_replicate, List.length_append, List.length_cons, List.length_nil]); omega)) only [aW, aX, aV, aB, aN, aL, aP, aH, aM, s_law36_model, v_law36_model, decide_eq_true h0]
    refine (rstart_ps ok hp a.2).mono ?_
    rintro r H' ⟨rfl, hH⟩
    rw [hH, hset]
    refine aret_of ?_
    simp (disch := ((try simp only [List.length_set, List.length_replicate, List.length_append, List.length_cons, List.length_nil]); omega)) only [aW, aX, aV, aB, aN, aL, aP, aH, aM, r_law36_model]
    exact post1 (R := fun r H' => _) (by rw [List.length_set]; exact Nat.le_refl _) (hb' _) (Fz.refl rfl) ⟨rfl, rfl⟩
  rw [if_neg h0]
  by_cases h1 : a.1 = 1
  · rw [if_pos h1]
    simp (disch := ((try simp only [List.length_set, List.length_replicate, List.length_append, List.length_cons, List.length_nil]); omega)) only [aW, aX, aV, aB, aN, aL, aP, aH, aM, s_law36_model, v_law36_model, decide_eq_false h0, decide_eq_true h1]
    refine (rstop_ps ok hp a.2).mono ?_
    rintro r H' ⟨rfl, hH⟩
    rw [hH, hset]
    refine aret_of ?_
    simp (disch := ((try simp only [List.length_set, List.length_replicate, List.length_append, List.length_cons, List.length_nil]); omega)) only [aW, aX, aV, aB, aN, aL, aP, aH, aM, r_law36_model]
    exact post1 (R := fun r H' => _) (by rw [List.length_set]; exact Nat.le_refl _) (hb' _) (Fz.refl rfl) ⟨rfl, rfl⟩
  rw [if_neg h1]
  by_cases h2 : a.1 = 2
  · rw [if_pos h2]
    simp (disch := ((try simp only [List.length_set, List.length_replicate, List.length_append, List.length_cons, List.length_nil]); omega)) only [aW, aX, aV, aB, aN, aL, aP, aH, aM, s_law36_model, v_law36_model, decide_eq_false h0, decide_eq_false h1, decide_eq_true h2]
    refine (rjam_ps ok hp a.2).mono ?_
    rintro r H' ⟨rfl, hH⟩
    rw [hH, hset]
    refine aret_of ?_
    simp (disch := ((try simp only [List.length_set, List.length_replicate, List.length_append, List.length_cons, List.length_nil]); omega)) only [aW, aX, aV, aB, aN, aL, aP, aH, aM, r_law36_model]
    exact post1 (R := fun r H' => _) (by rw [List.length_set]; exact Nat.le_refl _) (hb' _) (Fz.refl rfl) ⟨rfl, rfl⟩
  rw [if_neg h2]
  simp (disch := ((try simp only [List.length_set, List.length_replicate, List.length_append, List.length_cons, List.length_nil]); omega)) only [aW, aX, aV, aB, aN, aL, aP, aH, aM, s_law36_model, v_law36_model, decide_eq_false h0, decide_eq_false h1, decide_eq_false h2]
  refine (rclear_ps hp a.2).mono ?_
  rintro r H' ⟨rfl, hH⟩
  rw [hH, hset]
  refine aret_of ?_
  simp (disch := ((try simp only [List.length_set, List.length_replicate, List.length_append, List.length_cons, List.length_nil]); omega)) only [aW, aX, aV, aB, aN, aL, aP, aH, aM, r_law36_model]
  exact post1 (R := fun r H' => _) (by rw [List.length_set]; exact Nat.le_refl _) (hb' _) (Fz.refl rfl) ⟨rfl, rfl⟩
end Go.Proofs.Ytfnghkmchlfooaa
