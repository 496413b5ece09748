/- A graph as an argument of a law. No statement is claimed here. -/
import Derived.Test.YtaiidcelopfjlaaGr
import Derived.Test.YtaiidcelopfjlaaVl
namespace Go.Proofs.Ytaiidcelopfjlaa
open Go Go.Lft
set_option linter.unusedSimpArgs false
set_option linter.unusedVariables false

theorem pairs_of {w : Bool} : ∀ (L : List (List A)), (∀ ce ∈ L, (Ty.st [.int .i64, .int .i64]).Sh w ce) → ∃ l : Arcs, L.map (Ty.st [.int .i64, .int .i64]).pk = pairs l
  | [], _ => ⟨[], rfl⟩
  | ce :: L, h => by
    obtain ⟨l, hl⟩ := pairs_of L fun x hx => h x (by simp [hx])
    have hc := h ce (by simp)
    simp only [Ty.Sh, Ty.ShL] at hc
    obtain ⟨a, b, rfl, ⟨x, rfl, _⟩, c, d, rfl, ⟨y, rfl, _⟩, rfl⟩ := hc
    exact ⟨(x, y) :: l, by rw [List.map_cons, hl]; rfl⟩
def tyArc : Ty := .st [.int .i64, .int .i64]
def tyGraph : Ty := .st [.int .i64, .sl (.st [.int .i64, .int .i64])]
theorem graph_of {w : Bool} {cl : List A} (h : tyGraph.Sh w cl) : ∃ n l, tyGraph.pk cl = graphA w n l := by
  unfold tyGraph at h ⊢
  simp only [Ty.Sh, Ty.ShL] at h
  obtain ⟨a, b, rfl, ⟨n, rfl, _⟩, c, d, rfl, ⟨L, rfl, _, hL⟩, rfl⟩ := h
  obtain ⟨l, hl⟩ := pairs_of (w := w) L (fun ce hce => by simp only [Ty.Sh, Ty.ShL]; exact hL ce hce)
  exact ⟨n, l, by rw [hl]; rfl⟩
theorem graph_is : tyGraph.Is Try.prog 24 := by
  unfold tyGraph
  simp only [Ty.Is]
  refine ⟨_, Try.underlying24, by kernel_rfl, ?_⟩
  simp only [Ty.IsL, Ty.Is]
  exact ⟨trivial, by kernel_rfl, Try.underlying3, rfl, by kernel_rfl, ⟨44, Try.underlying22, by kernel_rfl, by decide, _, Try.underlying44, by kernel_rfl, rfl, by kernel_rfl, Try.underlying3, rfl, by kernel_rfl, Try.underlying3, trivial⟩, trivial⟩
end Go.Proofs.Ytaiidcelopfjlaa
