/- The priority queue: small functions. No statement is claimed here. -/
import Derived.Test.YtaiidcelopfjlaaFns
namespace Go.Proofs.Ytaiidcelopfjlaa
open Go Go.Lft
set_option linter.unusedSimpArgs false
attribute [local congr] ob_congr bw_congr ib_congr ck_congr iwA_congr itA_congr aw_congr awp_congr sqA_congr bkA_congr vr_congr gd_congr

abbrev IP := Int × Int
def qlt (a b : IP) : Prop := a.1 < b.1 ∨ (a.2 < b.2 ∧ ¬ b.1 < a.1)
instance (a b : IP) : Decidable (qlt a b) := inferInstanceAs (Decidable (a.1 < b.1 ∨ (a.2 < b.2 ∧ ¬ b.1 < a.1)))
/-- f is the order '<' of numbers. -/
def IsLt (f : Nat) : Prop := bodied P f = true ∧ ∀ (a b : Int), VR P false f [.v (.int .i64 a), .v (.int .i64 b)] [] (isR (.v (.bool (decide (a < b)))))

theorem order1_vr (a b : Int) : VR P false n_graph_Order_1 [.v (.int .i64 a), .v (.int .i64 b)] [] (isR (.v (.bool (decide (a < b))))) := by
  refine vr_graph_Order_1 (by simp) (.inr rfl) fun _ _ => ?_
  simp (disch := ((try simp only [List.length_set, List.length_replicate, List.length_append, List.length_cons, List.length_nil]); omega)) only [aW, aX, aV, aB, aN, aL, aP, aH, s_graph_Order_1, v_graph_Order_1, r_graph_Order_1]
  exact post_v ⟨rfl, rfl⟩
theorem order1_lt : IsLt n_graph_Order_1 := ⟨by kernel_rfl, fun a b => order1_vr a b⟩

/-- A queue that is only read. -/
def qA (w v : Bool) (f : Nat) (hs : List IP) (c : Int) : A := .fp w [.fn f [], .fs v (pairs hs), .v (.int .i64 c)]

theorem qlen_vr {w v : Bool} (f : Nat) (hs : List IP) (c : Int) : VR P false n_pqueue_Queue_Len [qA w v f hs c] [] (isR (.v (.int .i64 hs.length))) := by
  refine vr_pqueue_Queue_Len (by simp) (.inr rfl) fun _ _ => ?_
  unfold qA
  simp (disch := ((try simp only [List.length_set, List.length_replicate, List.length_append, List.length_cons, List.length_nil]); omega)) only [aW, aX, aV, aB, aN, aL, aP, aH, s_pqueue_Queue_Len, v_pqueue_Queue_Len, r_pqueue_Queue_Len]
  exact post_v ⟨rfl, rfl⟩

theorem qpeek_vr {w v : Bool} (f : Nat) (hs : List IP) (c : Int) : VR P false n_pqueue_Queue_Peek [qA w v f hs c] [] (isR (.tup [.v (.int .i64 (hs.getD 0 (0, 0)).1), .v (.bool (decide (0 < hs.length)))])) := by
  refine vr_pqueue_Queue_Peek (by simp) (.inr rfl) fun _ _ => ?_
  simp (disch := ((try simp only [List.length_set, List.length_replicate, List.length_append, List.length_cons, List.length_nil]); omega)) only [aW, aX, aV, aB, aN, aL, aP, aH, s_pqueue_Queue_Peek, v_pqueue_Queue_Peek]
  refine (qlen_vr f hs c).same (by unfold qA; simp (disch := first | omega | simp (disch := omega) only [aF, aL, aN]) only [aW, aX, aV, aB, aN, aL, aP, aH, aF, Int.natCast_add, Int.natCast_mul, Int.add_sub_cancel, List.length_nil, Int.cast_ofNat_Int, and_true, true_and]) rfl (aret_of ?_)
  unfold qA
  simp (disch := ((try simp only [List.length_set, List.length_replicate, List.length_append, List.length_cons, List.length_nil]); omega)) only [aW, aX, aV, aB, aN, aL, aP, aH]
  refine ib_intro (fun h1 => ?_) (fun h1 => ?_)
  · have h0 : hs = [] := List.length_eq_zero_iff.1 (by omega)
    subst h0
    simp (disch := ((try simp only [List.length_set, List.length_replicate, List.length_append, List.length_cons, List.length_nil]); omega)) only [aW, aX, aV, aB, aN, aL, aP, aH, r_pqueue_Queue_Peek]
    exact post0 (Fz.refl rfl) ⟨rfl, rfl⟩
  · have h0 : decide (0 < hs.length) = true := by simp; omega
    simp (disch := ((try simp only [List.length_set, List.length_replicate, List.length_append, List.length_cons, List.length_nil]); omega)) only [aW, aX, aV, aB, aN, aL, aP, aH, r_pqueue_Queue_Peek, h0]
    exact post0 (Fz.refl rfl) ⟨rfl, rfl⟩

theorem qbefore_vr {w v : Bool} {f : Nat} (hf : IsLt f) (hs : List IP) (c : Int) (i k : Int) (h1 : 0 ≤ i) (h2 : i < hs.length) (h3 : 0 ≤ k) (h4 : k < hs.length) :
    VR P false n_pqueue_Queue_before [qA w v f hs c, .v (.int .i64 i), .v (.int .i64 k)] [] (isR (.v (.bool (decide (qlt (hs.getD i.toNat (0, 0)) (hs.getD k.toNat (0, 0))))))) := by
  refine vr_pqueue_Queue_before (by simp) (.inr rfl) fun _ _ => ?_
  unfold qA
  simp (disch := ((try simp only [List.length_set, List.length_replicate, List.length_append, List.length_cons, List.length_nil]); omega)) only [aW, aX, aV, aB, aN, aL, aP, aH, s_pqueue_Queue_before, v_pqueue_Queue_before]
  refine ⟨⟨⟨hf.1, ?_⟩, ⟨hf.1, ?_⟩⟩, ⟨hf.1, ?_⟩⟩
  all_goals
    refine (hf.2 _ _).same (by simp (disch := first | omega | simp (disch := omega) only [aF, aL, aN]) only [aW, aX, aV, aB, aN, aL, aP, aH, aF, Int.natCast_add, Int.natCast_mul, Int.add_sub_cancel, List.length_nil, Int.cast_ofNat_Int, and_true, true_and]) rfl (aret_of ?_)
    simp (disch := ((try simp only [List.length_set, List.length_replicate, List.length_append, List.length_cons, List.length_nil]); omega)) only [aW, aX, aV, aB, aN, aL, aP, aH]
    refine ib_intro (fun h5 => ?_) (fun h5 => ?_)
    · simp (disch := ((try simp only [List.length_set, List.length_replicate, List.length_append, List.length_cons, List.length_nil]); omega)) only [aW, aX, aV, aB, aN, aL, aP, aH, r_pqueue_Queue_before]
      exact post_v ⟨vtrue (.inl h5), rfl⟩
    · simp (disch := ((try simp only [List.length_set, List.length_replicate, List.length_append, List.length_cons, List.length_nil]); omega)) only [aW, aX, aV, aB, aN, aL, aP, aH]
      refine ib_intro (fun h6 => ?_) (fun h6 => ?_)
      · simp (disch := ((try simp only [List.length_set, List.length_replicate, List.length_append, List.length_cons, List.length_nil]); omega)) only [aW, aX, aV, aB, aN, aL, aP, aH]
        refine ⟨hf.1, (hf.2 _ _).same (by simp (disch := first | omega | simp (disch := omega) only [aF, aL, aN]) only [aW, aX, aV, aB, aN, aL, aP, aH, aF, Int.natCast_add, Int.natCast_mul, Int.add_sub_cancel, List.length_nil, Int.cast_ofNat_Int, and_true, true_and]) rfl (aret_of ?_)⟩
        simp (disch := ((try simp only [List.length_set, List.length_replicate, List.length_append, List.length_cons, List.length_nil]); omega)) only [aW, aX, aV, aB, aN, aL, aP, aH, r_pqueue_Queue_before]
        exact post_v ⟨vdec (by simp only [qlt, h5, h6, false_or, true_and]), rfl⟩
      · simp (disch := ((try simp only [List.length_set, List.length_replicate, List.length_append, List.length_cons, List.length_nil]); omega)) only [aW, aX, aV, aB, aN, aL, aP, aH, r_pqueue_Queue_before]
        exact post_v ⟨vfalse (by simp only [qlt, h5, h6, false_or, false_and, not_false_eq_true]), rfl⟩
end Go.Proofs.Ytaiidcelopfjlaa
