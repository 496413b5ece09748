/- Plants and numbers as arguments of laws. No statement is claimed here. -/
import Derived.Test.YtjhdedifmhkhbaaPb
import Derived.Test.YtjhdedifmhkhbaaVl
namespace Go.Proofs.Ytjhdedifmhkhbaa
open Go Go.Lft
set_option linter.unusedSimpArgs false
set_option linter.unusedVariables false

def tyPlant : Ty := (.st [(.int .i64), (.sl (.st [(.sl (.sl (.int .i64)))])), (.sl (.st [(.int .i64), (.int .i64), (.int .i64), (.int .i64)])), (.int .i64)])
theorem tyPlant_is : tyPlant.Is Try.prog 25 := by
  unfold tyPlant
  simp only [Ty.Is]
  refine ⟨_, Try.underlying25, by kernel_rfl, ?_⟩
  simp only [Ty.IsL, Ty.Is]
  refine ⟨by first | rfl | trivial, by kernel_rfl, ?_, ?_⟩
  ·
    exact Try.underlying3
  refine ⟨by first | rfl | trivial, by kernel_rfl, ?_, ?_⟩
  ·
    refine ⟨48, Try.underlying22, by kernel_rfl, by decide, ?_⟩
    refine ⟨_, Try.underlying48, by kernel_rfl, ?_⟩
    simp only [Ty.IsL, Ty.Is]
    refine ⟨by first | rfl | trivial, by kernel_rfl, ?_, ?_⟩
    ·
      refine ⟨53, Try.underlying42, by kernel_rfl, by decide, ?_⟩
      refine ⟨3, Try.underlying53, by kernel_rfl, by decide, ?_⟩
      exact Try.underlying3
    trivial
  refine ⟨by first | rfl | trivial, by kernel_rfl, ?_, ?_⟩
  ·
    refine ⟨51, Try.underlying23, by kernel_rfl, by decide, ?_⟩
    refine ⟨_, Try.underlying51, by kernel_rfl, ?_⟩
    simp only [Ty.IsL, Ty.Is]
    refine ⟨by first | rfl | trivial, by kernel_rfl, ?_, ?_⟩
    ·
      exact Try.underlying3
    refine ⟨by first | rfl | trivial, by kernel_rfl, ?_, ?_⟩
    ·
      exact Try.underlying3
    refine ⟨by first | rfl | trivial, by kernel_rfl, ?_, ?_⟩
    ·
      exact Try.underlying3
    refine ⟨by first | rfl | trivial, by kernel_rfl, ?_, ?_⟩
    ·
      exact Try.underlying3
    trivial
  refine ⟨by first | rfl | trivial, by kernel_rfl, ?_, ?_⟩
  ·
    exact Try.underlying3
  trivial
def tyInt : Ty := (.int .i64)
theorem tyInt_is : tyInt.Is Try.prog 3 := by
  unfold tyInt
  simp only [Ty.Is]
  exact Try.underlying3
def tyU8 : Ty := (.int .u8)
theorem tyU8_is : tyU8.Is Try.prog 5 := by
  unfold tyU8
  simp only [Ty.Is]
  exact Try.underlying5
def tyTwo : Ty := (.ar 2 (.int .i64))
theorem tyTwo_is : tyTwo.Is Try.prog 30 := by
  unfold tyTwo
  simp only [Ty.Is]
  refine ⟨3, Try.underlying30, by kernel_rfl, by kernel_rfl, ?_⟩
  exact Try.underlying3

theorem list_of {α : Type} {w : Bool} (t : Ty) (f : α → A) (Q : α → Prop) (h1 : ∀ ce, t.Sh w ce → ∃ x, t.pk ce = f x ∧ Q x) : ∀ (L : List (List A)), (∀ ce ∈ L, t.Sh w ce) → ∃ l : List α, L.map t.pk = l.map f ∧ L.length = l.length ∧ ∀ x ∈ l, Q x
  | [], _ => ⟨[], rfl, rfl, by simp⟩
  | ce :: L, h => by
    obtain ⟨l, hl, hn, hq⟩ := list_of t f Q h1 L fun x hx => h x (by simp [hx])
    obtain ⟨x, hx, hqx⟩ := h1 ce (h ce (by simp))
    exact ⟨x :: l, by rw [List.map_cons, hl, hx]; rfl, by simp [hn], fun y hy => by
      rcases List.mem_cons.1 hy with rfl | hy
      · exact hqx
      · exact hq y hy⟩
theorem i64_of {w : Bool} {ce : List A} (h : (Ty.int .i64).Sh w ce) : ∃ n : Int, (Ty.int .i64).pk ce = .v (.int .i64 n) ∧ (Lit.int .i64 n).wf = true := by
  simp only [Ty.Sh] at h
  obtain ⟨n, rfl, h⟩ := h; exact ⟨n, rfl, h⟩
theorem wf_i64 {n : Int} (h : (Lit.int .i64 n).wf = true) : -9223372036854775808 ≤ n ∧ n ≤ 9223372036854775807 := by
  simp only [Lit.wf, Bool.and_eq_true, decide_eq_true_eq] at h
  have h1 : IntKind.i64.max = 9223372036854775807 := rfl
  have h2 : IntKind.i64.min = -9223372036854775808 := rfl
  omega
theorem wf_u8 {n : Int} (h : (Lit.int .u8 n).wf = true) : 0 ≤ n ∧ n ≤ 255 := by
  simp only [Lit.wf, Bool.and_eq_true, decide_eq_true_eq] at h
  have h1 : IntKind.u8.max = 255 := rfl
  have h2 : IntKind.u8.min = 0 := rfl
  omega
/-- A row of numbers; all are numbers of the kind. -/
def fit (n : Int) : Prop := -9223372036854775808 ≤ n ∧ n ≤ 9223372036854775807
theorem ints_of {w : Bool} {ce : List A} (h : (Ty.sl (.int .i64)).Sh w ce) : ∃ l : List Int, (Ty.sl (.int .i64)).pk ce = .fs w (ints l) ∧ l.length ≤ maxLen ∧ ∀ x ∈ l, fit x := by
  simp only [Ty.Sh] at h
  obtain ⟨L, rfl, hn, h⟩ := h
  obtain ⟨l, h1, h2, h3⟩ := list_of (w := w) (.int .i64) (fun n => A.v (.int .i64 n)) fit (fun ce hce => by
    obtain ⟨n, e1, e2⟩ := i64_of hce; exact ⟨n, e1, wf_i64 e2⟩) L (fun ce hce => by simp only [Ty.Sh]; exact h ce hce)
  exact ⟨l, by show A.fs w _ = _; rw [h1]; rfl, by omega, h3⟩
theorem rows_of {w : Bool} {ce : List A} (h : (Ty.sl (.sl (.int .i64))).Sh w ce) : ∃ l : List (List Int), (Ty.sl (.sl (.int .i64))).pk ce = .fs w (rows w l) ∧ l.length ≤ maxLen ∧ ∀ r ∈ l, r.length ≤ maxLen ∧ ∀ x ∈ r, fit x := by
  simp only [Ty.Sh] at h
  obtain ⟨L, rfl, hn, h⟩ := h
  obtain ⟨l, h1, h2, h3⟩ := list_of (w := w) (.sl (.int .i64)) (fun r => A.fs w (ints r)) (fun r => r.length ≤ maxLen ∧ ∀ x ∈ r, fit x) (fun ce hce => ints_of hce) L (fun ce hce => by simp only [Ty.Sh]; exact h ce hce)
  exact ⟨l, by show A.fs w _ = _; rw [h1]; rfl, by omega, h3⟩
theorem mc_of {w : Bool} {ce : List A} (h : (Ty.st [.sl (.sl (.int .i64))]).Sh w ce) : ∃ m : Mc, (Ty.st [.sl (.sl (.int .i64))]).pk ce = mcA w m ∧ m.length ≤ maxLen ∧ ∀ r ∈ m, r.length ≤ maxLen ∧ ∀ x ∈ r, fit x := by
  simp only [Ty.Sh, Ty.ShL] at h
  obtain ⟨a, b, rfl, h, rfl⟩ := h
  obtain ⟨m, h1, h2, h3⟩ := rows_of (w := w) (ce := a) (by simp only [Ty.Sh]; exact h)
  obtain ⟨L, rfl, _⟩ := h
  exact ⟨m, by rw [show (Ty.sl (.sl (.int .i64))).pk [A.fs w (L.map (Ty.sl (.int .i64)).pk)] = .fs w (L.map (Ty.sl (.int .i64)).pk) from rfl] at h1; show A.agg _ = _; rw [List.append_nil, h1]; rfl, h2, h3⟩
theorem bt_of {w : Bool} {ce : List A} (h : (Ty.st [.int .i64, .int .i64, .int .i64, .int .i64]).Sh w ce) : ∃ b : Bt, (Ty.st [.int .i64, .int .i64, .int .i64, .int .i64]).pk ce = btA b ∧ True := by
  simp only [Ty.Sh, Ty.ShL] at h
  obtain ⟨_, _, rfl, ⟨x, rfl, _⟩, _, _, rfl, ⟨y, rfl, _⟩, _, _, rfl, ⟨z, rfl, _⟩, _, _, rfl, ⟨u, rfl, _⟩, rfl⟩ := h
  exact ⟨⟨x, y, z, u⟩, rfl, trivial⟩
theorem plant_of {cl : List A} (h : tyPlant.Sh true cl) : ∃ p, tyPlant.pk cl = plA true true p := by
  unfold tyPlant at h ⊢
  simp only [Ty.Sh, Ty.ShL] at h
  obtain ⟨_, _, rfl, ⟨x, rfl, _⟩, _, _, rfl, ⟨L, rfl, _, hL⟩, _, _, rfl, ⟨M, rfl, _, hM⟩, _, _, rfl, ⟨y, rfl, _⟩, rfl⟩ := h
  obtain ⟨ms, h1, _⟩ := list_of (w := true) (.st [.sl (.sl (.int .i64))]) (mcA true) (fun _ => True) (fun ce hce => by
    obtain ⟨m, e, _⟩ := mc_of hce; exact ⟨m, e, trivial⟩) L (fun ce hce => by simp only [Ty.Sh, Ty.ShL]; exact hL ce hce)
  obtain ⟨bs, h2, _⟩ := list_of (w := true) (.st [.int .i64, .int .i64, .int .i64, .int .i64]) btA (fun _ => True) (fun ce hce => bt_of hce) M (fun ce hce => by simp only [Ty.Sh, Ty.ShL]; exact hM ce hce)
  exact ⟨⟨x, ms, bs, y⟩, by rw [h1, h2]; rfl⟩
theorem int_of {cl : List A} (h : tyInt.Sh true cl) : ∃ n, tyInt.pk cl = .v (.int .i64 n) ∧ fit n := by
  obtain ⟨n, h1, h2⟩ := i64_of (w := true) h; exact ⟨n, h1, wf_i64 h2⟩
theorem u8_of {cl : List A} (h : tyU8.Sh true cl) : ∃ n : Int, tyU8.pk cl = .v (.int .u8 n) ∧ 0 ≤ n ∧ n ≤ 255 := by
  unfold tyU8 at h ⊢
  simp only [Ty.Sh] at h
  obtain ⟨n, rfl, h⟩ := h; exact ⟨n, rfl, wf_u8 h⟩
theorem two_of {cl : List A} (h : tyTwo.Sh true cl) : ∃ x y : Int, tyTwo.pk cl = .agg [.v (.int .i64 x), .v (.int .i64 y)] := by
  unfold tyTwo at h ⊢
  simp only [Ty.Sh] at h
  obtain ⟨L, hL, rfl, h⟩ := h
  match L, hL with
  | [a, b], _ =>
    obtain ⟨x, rfl, _⟩ := h a (by simp)
    obtain ⟨y, rfl, _⟩ := h b (by simp)
    exact ⟨x, y, rfl⟩
end Go.Proofs.Ytjhdedifmhkhbaa
