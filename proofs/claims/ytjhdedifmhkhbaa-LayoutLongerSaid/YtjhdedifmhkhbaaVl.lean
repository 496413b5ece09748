/- The arguments of a law: each value by its type. No statement is claimed here. -/
import Derived.Test.YtjhdedifmhkhbaaVk
import Derived.WideShapes
import Derived.ChangeShapes
namespace Go.Lft
open Go Go.WideShapes
set_option linter.unusedVariables false
set_option linter.unusedSimpArgs false

theorem arg_open {Hh : Type} {enc : TypeId × Value → Hh} {P : Program} {w : World} {base b0 : Nat} {spare : Nat → Bool} {held : Bool} {r : Reach} (u : Bool) (ty : Ty) {t : TypeId} {v : Value} {d : DataW Hh} {ps : List MemPlace}
    (hi : ty.Is P t) (hok : Value.okWide P w r b0 t v) (h : DataW.Trod enc P w base spare held t v d ps) : ∃ as, ty.Sh u as ∧ Rel (fun _ => hp w) (fun _ _ => none) (ty.pk as) v := by
  obtain ⟨fuel, hf⟩ := h
  obtain ⟨as, h1, h2⟩ := Ty.open u ty hi hf
  refine ⟨as, h2, ?_⟩
  have single : v.cells.toList = [v] → (∃ a, as = [a]) → (∀ a, as = [a] → ty.pk as = a) → Rel (fun _ => hp w) (fun _ _ => none) (ty.pk as) v := fun hv ⟨a, ha⟩ hp => by
    rw [hp a ha]
    rw [hv, ha] at h1
    exact h1.2 0 a v rfl rfl
  cases ty with
  | int k =>
    simp only [Ty.Is] at hi
    obtain ⟨n, rfl⟩ := okWide_int hi hok
    simp only [Ty.Sh] at h2
    obtain ⟨m, rfl, _⟩ := h2
    exact single rfl ⟨_, rfl⟩ fun a ha => by cases ha; rfl
  | bool =>
    simp only [Ty.Is] at hi
    obtain ⟨n, rfl⟩ := okWide_bool hi hok
    simp only [Ty.Sh] at h2
    obtain ⟨m, rfl⟩ := h2
    exact single rfl ⟨_, rfl⟩ fun a ha => by cases ha; rfl
  | str =>
    simp only [Ty.Is] at hi
    obtain ⟨n, rfl⟩ := okWide_string hi hok
    simp only [Ty.Sh] at h2
    obtain ⟨m, rfl, _⟩ := h2
    exact single rfl ⟨_, rfl⟩ fun a ha => by cases ha; rfl
  | sl e =>
    simp only [Ty.Is] at hi
    obtain ⟨x, hx, _⟩ := hi
    obtain ⟨a, len, cap, rfl⟩ := okWide_slice hx hok
    simp only [Ty.Sh] at h2
    obtain ⟨m, rfl, _⟩ := h2
    exact single rfl ⟨_, rfl⟩ fun a ha => by cases ha; rfl
  | ar k e =>
    simp only [Ty.Is] at hi
    obtain ⟨x, hx, _⟩ := hi
    have hok' : ∃ cs : Array Value, v = .agg cs := by
      simp only [Value.okWide, hx] at hok
      obtain ⟨cs, h1, _⟩ := hok
      exact ⟨cs, h1⟩
    obtain ⟨cs, rfl⟩ := hok'
    have h1' : RL (fun _ => hp w) (fun _ _ => none) as cs.toList := h1
    have := Rel.agg (g := fun _ => hp w) (σ := fun _ _ => none) as cs.toList h1'.1 h1'.2
    simpa [Ty.pk] using this
  | st l =>
    simp only [Ty.Is] at hi
    obtain ⟨fs, hx, _⟩ := hi
    obtain ⟨cs, rfl, _⟩ := okWide_struct hx hok
    have h1' : RL (fun _ => hp w) (fun _ _ => none) as cs.toList := h1
    have := Rel.agg (g := fun _ => hp w) (σ := fun _ _ => none) as cs.toList h1'.1 h1'.2
    simpa [Ty.pk] using this

/-- A law's call, from the contract of its function. -/
theorem law_calls {P : Program} {f : Nat} {args : List A} {vs : List Value} {w : World} (hv : VR P false f args [] (isR (.v (.bool true)))) (hr : RL (fun _ => hp w) (fun _ _ => none) args vs) :
    Calls P f vs.toArray w fun e w' => e = .returned (.bool true) ∧ Go.RowKit.Below w.heap.size w w' :=
  law_of (VR.law (hv.mono fun r G h => h.1) hr)
end Go.Lft
