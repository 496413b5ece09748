/- graph.Order, the walk. No statement is claimed here. -/
import Derived.Test.YtaiidcelopfjlaaGh
namespace Go.Proofs.Ytaiidcelopfjlaa
open Go Go.Lft
set_option linter.unusedSimpArgs false
set_option linter.unusedVariables false
attribute [local congr] ob_congr bw_congr ib_congr ck_congr iwA_congr itA_congr aw_congr awp_congr sqA_congr bkA_congr vr_congr gd_congr

def tk (D : Nat → Bool) (x : Nat) : Nat → Bool := fun j => D j || j == x
abbrev fN : Nat := n_graph_Order_1
/-- The memory: no queue yet; a queue. -/
abbrev om0 (w : Bool) (n : Int) (l : Arcs) (O : List Int) : List Blk := [⟨0, [.v (.int .i64 n), .fs w (pairs l)]⟩, ⟨0, ints O⟩, ⟨0, [.fn fN [], .v (.slice none 0 0), .v (.int .i64 0)]⟩]
abbrev om1 (w : Bool) (n : Int) (l : Arcs) (O : List Int) (x0 : Int) (qv nq : Nat) (ys : List IP) (c : Int) (T : List Blk) : List Blk :=
  ⟨0, [.v (.int .i64 n), .fs w (pairs l)]⟩ :: ⟨0, ints O⟩ :: ⟨0, [.fn fN [], .sl 4 qv 2 0 nq, .v (.int .i64 c)]⟩ :: ⟨0, pcells [(x0, 0)]⟩ :: ⟨qv, pcells ys⟩ :: T

theorem om1_qs {w : Bool} {n : Int} {l : Arcs} {O : List Int} {x0 : Int} {qv nq : Nat} {ys : List IP} {c : Int} {T : List Blk} (h1 : nq ≤ ys.length) (h2 : nq < 1000000000) : QS (om1 w n l O x0 qv nq ys c T) 2 4 qv fN ys nq c :=
  ⟨by simp (disch := ((try simp only [List.length_set, List.length_replicate, List.length_append, List.length_cons, List.length_nil]); omega)) only [aW, aX, aV, aB, aN, aL, aP, aH], by simp (disch := ((try simp only [List.length_set, List.length_replicate, List.length_append, List.length_cons, List.length_nil]); omega)) only [aW, aX, aV, aB, aN, aL, aP, aH], h1, by omega, h2⟩

structure OG where
  ys : List IP
  nq : Nat
  qv : Nat
  c : Int
structure OI (n : Int) (D : Nat → Bool) (F : Nat → Nat) (g : OG) (b : Int) : Prop where
  le : g.nq ≤ g.ys.length
  qi : QI n D F (g.ys.take g.nq)
  c0 : 0 ≤ g.c
  c1 : g.c ≤ b
  nc : g.nq ≤ g.c
def om2 (w : Bool) (n : Int) (l : Arcs) (O : List Int) : Option (OG × Int) → List Blk
  | none => om0 w n l O
  | some (g, x0) => om1 w n l O x0 g.qv g.nq g.ys g.c []

theorem ost_count (n : Int) (l : Arcs) : ∀ k, (ost n l k).2.length = k → (tab n.toNat (ost n l k).1).count false + k = n.toNat
  | 0, _ => by
    have : tab n.toNat (ost n l 0).1 = List.replicate n.toNat false := by
      rw [tab_rep]; rfl
    rw [this]; simp
  | k + 1, h => by
    have hs : ost n l (k + 1) = if nextO n l (ost n l k).1 < 0 then ost n l k else (fun j => (ost n l k).1 j || j == (nextO n l (ost n l k).1).toNat, (ost n l k).2 ++ [nextO n l (ost n l k).1]) := rfl
    rw [hs] at h ⊢
    by_cases hc : nextO n l (ost n l k).1 < 0
    · rw [if_pos hc] at h
      have := ost_len n l k
      omega
    · rw [if_neg hc] at h ⊢
      obtain ⟨n1, n2, n3, n4⟩ := next_in hc
      have hk : (ost n l k).2.length = k := by simpa using h
      have ih := ost_count n l k hk
      have hf := ((avail_iff _ _ _).1 n3).1
      have := count_set (tab n.toNat (ost n l k).1) (nextO n l (ost n l k).1).toNat (by rw [tab_len]; exact n2) (by rw [tab_get _ _ _ n2]; exact hf)
      rw [tab_set _ _ _ n2] at this
      simp only
      omega
theorem ost_lt (n : Int) (l : Arcs) (k : Nat) (h : (ost n l k).2.length = k) (hc : ¬ nextO n l (ost n l k).1 < 0) : k < n.toNat := by
  obtain ⟨n1, n2, n3, n4⟩ := next_in hc
  have ih := ost_count n l k h
  have hf := ((avail_iff _ _ _).1 n3).1
  have := count_set (tab n.toNat (ost n l k).1) (nextO n l (ost n l k).1).toNat (by rw [tab_len]; exact n2) (by rw [tab_get _ _ _ n2]; exact hf)
  omega
theorem mix_miss {l : Arcs} {D : Nat → Bool} {X i : Nat} (hi : i < l.length) (h : (l.getD i (0, 0)).1.toNat ≠ X) (v : Nat) : mix l D (fun j => D j || j == X) (i + 1) v = mix l D (fun j => D j || j == X) i v := by
  have := mix_step l D (fun j => D j || j == X) hi v
  rw [cnt_one, cnt_one] at this
  have h2 : ((l.getD i (0, 0)).1.toNat == X) = false := by simpa using h
  simp only [h2, Bool.or_false] at this
  omega
theorem mix_hit {l : Arcs} {D : Nat → Bool} {X i : Nat} (hi : i < l.length) (h : (l.getD i (0, 0)).1.toNat = X) (hD : D X = false) (v : Nat) : mix l D (fun j => D j || j == X) (i + 1) v + (if (l.getD i (0, 0)).2 = v then 1 else 0) = mix l D (fun j => D j || j == X) i v := by
  have := mix_step l D (fun j => D j || j == X) hi v
  rw [cnt_one, cnt_one, h] at this
  simp only [hD, beq_self_eq_true, Bool.or_true, and_true, reduceCtorEq, and_false, if_false] at this
  omega
theorem QI.same {n : Int} {D : Nat → Bool} {F F' : Nat → Nat} {hs : List IP} (h : QI n D F hs) (he : ∀ v, F' v = 0 ↔ F v = 0) : QI n D F' hs :=
  ⟨h.heap, fun v => by rw [h.mem, he], h.nd⟩

theorem order_vr {w : Bool} (n : Int) (l : Arcs) : VR P false n_graph_Order [graphA w n l] [] (isR (.tup [.fs true (ints (orderR n l).1), .v (.int .i64 (orderR n l).2)])) := by
  refine vr_graph_Order (by simp) (.inr rfl) fun _ _ => ?_
  unfold graphA
  simp (disch := ((try simp only [List.length_set, List.length_replicate, List.length_append, List.length_cons, List.length_nil]); omega)) only [aW, aX, aV, aB, aN, aL, aP, aH, s_graph_Order, v_graph_Order]
  refine (check_vr (w := w) n l).same (by unfold graphA; simp (disch := first | omega | simp (disch := omega) only [aF, aL, aN]) only [aW, aX, aV, aB, aN, aL, aP, aH, aF, Int.natCast_add, Int.natCast_mul, Int.add_sub_cancel, List.length_nil, Int.cast_ofNat_Int, and_true, true_and]) rfl (aret_of ?_)
  simp (disch := ((try simp only [List.length_set, List.length_replicate, List.length_append, List.length_cons, List.length_nil]); omega)) only [aW, aX, aV, aB, aN, aL, aP, aH]
  refine ib_intro (fun h1 => ?_) (fun h1 => ?_)
  · simp (disch := ((try simp only [List.length_set, List.length_replicate, List.length_append, List.length_cons, List.length_nil]); omega)) only [aW, aX, aV, aB, aN, aL, aP, aH, r_graph_Order]
    refine post_err ⟨?_, rfl⟩
    unfold orderR; rw [if_pos h1]; rfl
  have h1 : gcheck n l = 0 := Classical.not_not.1 h1
  obtain ⟨c1, c2, c3, c4⟩ := gcheck_ok h1
  simp (disch := ((try simp only [List.length_set, List.length_replicate, List.length_append, List.length_cons, List.length_nil]); omega)) only [aW, aX, aV, aB, aN, aL, aP, aH]
  refine AWP.loopP g_graph_Order_0 (fun i : Nat => i ≤ l.length) (fun i => [(5, .v (.int .i64 i))]) (fun i => [(1, ⟨0, ints (tabI 64 fun v => (cnt (l.take i) (fun _ => false) v : Int))⟩)]) (fun i => l.length - i) 0 (by omega) ?_ ?_
  · have e0 : tabI 64 (fun v => (cnt (l.take 0) (fun _ => false) v : Int)) = List.replicate 64 0 := by rw [tabI_rep]; rfl
    simp (disch := ((try simp only [List.length_set, List.length_replicate, List.length_append, List.length_cons, List.length_nil]); omega)) only [aW, aX, aV, aB, aN, aL, aP, aH, e0]
    exact Cut.of' 2 rfl (by omega) (by simp (disch := first | omega | simp (disch := omega) only [aF, aL, aN]) only [aW, aX, aV, aB, aN, aL, aP, aH, aF, Int.natCast_add, Int.natCast_mul, Int.add_sub_cancel, List.length_nil, Int.cast_ofNat_Int, and_true, true_and]) (by simp (disch := first | omega | simp (disch := omega) only [aF, aL, aN]) only [aW, aX, aV, aB, aN, aL, aP, aH, aF, Int.natCast_add, Int.natCast_mul, Int.add_sub_cancel, List.length_nil, Int.cast_ofNat_Int, and_true, true_and])
  rintro i hi
  by_cases hlt : i < l.length
  · have hmem : l.getD i (0, 0) ∈ l := by simp [List.getD_eq_getElem?_getD, hlt]
    obtain ⟨⟨r1, r2⟩, r3, r4⟩ := c4 _ hmem
    have hO := tabI_len 64 fun v => (cnt (l.take i) (fun _ => false) v : Int)
    have hOg := tabI_get 64 (fun v => (cnt (l.take i) (fun _ => false) v : Int)) (l.getD i (0, 0)).2.toNat (by omega)
    have hcb := cnt_le (l.take i) (fun _ => false) (l.getD i (0, 0)).2.toNat
    have hcb2 : (l.take i).length ≤ l.length := by simp; omega
    simp (disch := ((try simp only [List.length_set, List.length_replicate, List.length_append, List.length_cons, List.length_nil]); omega)) only [aW, aX, aV, aB, aN, aL, aP, aH, hOg]
    refine ⟨i + 1, by omega, by omega, ?_⟩
    have e1 : tabI 64 (fun v => (cnt (l.take (i + 1)) (fun _ => false) v : Int)) = (tabI 64 fun v => (cnt (l.take i) (fun _ => false) v : Int)).set (l.getD i (0, 0)).2.toNat (cnt (l.take i) (fun _ => false) (l.getD i (0, 0)).2.toNat + 1) := by
      rw [tabI_set _ _ _ _ (by omega)]
      refine tabI_ext fun v _ => ?_
      rw [take_succ_get l i (0, 0) hlt, cnt_app, cnt_one]
      by_cases hv : v = (l.getD i (0, 0)).2.toNat
      · subst hv; rw [if_pos (by constructor; omega; rfl), if_pos rfl]; omega
      · rw [if_neg (fun hc => hv (by omega)), if_neg hv]; omega
    simp only [e1]
    try simp (disch := ((try simp only [List.length_set, List.length_replicate, List.length_append, List.length_cons, List.length_nil]); omega)) only [aW, aX, aV, aB, aN, aL, aP, aH]
    exact Cut.of' 2 rfl (by omega) (by simp (disch := first | omega | simp (disch := omega) only [aF, aL, aN]) only [aW, aX, aV, aB, aN, aL, aP, aH, aF, Int.natCast_add, Int.natCast_mul, Int.add_sub_cancel, List.length_nil, Int.cast_ofNat_Int, and_true, true_and]) (by simp (disch := first | omega | simp (disch := omega) only [aF, aL, aN]) only [aW, aX, aV, aB, aN, aL, aP, aH, aF, Int.natCast_add, Int.natCast_mul, Int.add_sub_cancel, List.length_nil, Int.cast_ofNat_Int, and_true, true_and])
  have hil : i = l.length := by omega
  subst hil
  have hO := tabI_len 64 fun v => (cnt l (fun _ => false) v : Int)
  simp (disch := ((try simp only [List.length_set, List.length_replicate, List.length_append, List.length_cons, List.length_nil]); omega)) only [aW, aX, aV, aB, aN, aL, aP, aH, List.take_length]
  refine (qnew_vr fN).useO ⟨Ld.refl rfl, trivial⟩ (by rfl) (aret_of ?_)
  simp (disch := ((try simp only [List.length_set, List.length_replicate, List.length_append, List.length_cons, List.length_nil]); omega)) only [aW, aX, aV, aB, aN, aL, aP, aH, A.sh, A.shL, Blk.sh, List.map_cons, List.map_nil]
  have hzero : ∀ v, v < 64 → ((cnt l (fun _ => false) v : Int) = 0 ↔ cnt l (fun _ => false) v = 0) := fun v _ => by omega
  refine AWP.loopM (α := Nat × Option (OG × Int)) g_graph_Order_1 (fun p => p.1 ≤ n.toNat ∧ (match p.2 with | none => ∀ v, v < p.1 → cnt l (fun _ => false) v ≠ 0 | some (g, _) => OI p.1 (fun _ => false) (cnt l fun _ => false) g p.1))
    (fun p => [(12, .v (.int .i64 p.1))]) (fun p => om2 w n l (tabI 64 fun v => (cnt l (fun _ => false) v : Int)) p.2) (fun p => n.toNat - p.1) (0, none) ⟨by omega, fun v hv => by simp only at hv; omega⟩ ?_ ?_
  · simp (disch := ((try simp only [List.length_set, List.length_replicate, List.length_append, List.length_cons, List.length_nil]); omega)) only [aW, aX, aV, aB, aN, aL, aP, aH, om2, om0]
    exact Cut.of' 3 rfl (by omega) (by simp (disch := first | omega | simp (disch := omega) only [aF, aL, aN]) only [aW, aX, aV, aB, aN, aL, aP, aH, aF, Int.natCast_add, Int.natCast_mul, Int.add_sub_cancel, List.length_nil, Int.cast_ofNat_Int, and_true, true_and]) (by simp (disch := first | omega | simp (disch := omega) only [aF, aL, aN]) only [aW, aX, aV, aB, aN, aL, aP, aH, aF, Int.natCast_add, Int.natCast_mul, Int.add_sub_cancel, List.length_nil, Int.cast_ofNat_Int, and_true, true_and])
  rintro ⟨m, q⟩ ⟨hm, hq⟩
  simp only at hm hq
  by_cases hmt : m < n.toNat
  · have hg := tabI_get 64 (fun v => (cnt l (fun _ => false) v : Int)) m (by omega)
    cases q with
    | none =>
      simp only at hq
      by_cases h0 : cnt l (fun _ => false) m = 0
      · simp (disch := ((try simp only [List.length_set, List.length_replicate, List.length_append, List.length_cons, List.length_nil]); omega)) only [aW, aX, aV, aB, aN, aL, aP, aH, om2, om0, hg, h0]
        refine (qpush0_vr (H := om0 w n l (tabI 64 fun v => (cnt l (fun _ => false) v : Int))) (i := 2) (f := fN) (c := 0) (by simp (disch := ((try simp only [List.length_set, List.length_replicate, List.length_append, List.length_cons, List.length_nil]); omega)) only [aW, aX, aV, aB, aN, aL, aP, aH]) m (by omega) (by omega)).mono ?_
        rintro r H' rfl
        refine aret_of ?_
        simp (disch := ((try simp only [List.length_set, List.length_replicate, List.length_append, List.length_cons, List.length_nil]); omega)) only [aW, aX, aV, aB, aN, aL, aP, aH, om0]
        refine ⟨(m + 1, some (⟨[((m : Int), 0)], 1, 0, 0 + 1⟩, (m : Int))), ⟨by simp only; omega, ?_⟩, by simp only; omega, ?_⟩
        · exact ⟨by simp, QI.one hq rfl h0, by simp, by simp only; omega, by simp⟩
        · exact Cut.of' 5 rfl (by omega) (by simp (disch := first | omega | simp (disch := omega) only [aF, aL, aN]) only [aW, aX, aV, aB, aN, aL, aP, aH, aF, Int.natCast_add, Int.natCast_mul, Int.add_sub_cancel, List.length_nil, Int.cast_ofNat_Int, and_true, true_and, om2, om1]) (by simp (disch := first | omega | simp (disch := omega) only [aF, aL, aN]) only [aW, aX, aV, aB, aN, aL, aP, aH, aF, Int.natCast_add, Int.natCast_mul, Int.add_sub_cancel, List.length_nil, Int.cast_ofNat_Int, and_true, true_and])
      · simp (disch := ((try simp only [List.length_set, List.length_replicate, List.length_append, List.length_cons, List.length_nil]); omega)) only [aW, aX, aV, aB, aN, aL, aP, aH, om2, om0, hg, h0]
        refine ⟨(m + 1, none), ⟨by simp only; omega, fun v hv => ?_⟩, by simp only; omega, ?_⟩
        · simp only at hv
          by_cases hvm : v = m
          · subst hvm; exact h0
          · exact hq v (by omega)
        · exact Cut.of' 3 rfl (by omega) (by simp (disch := first | omega | simp (disch := omega) only [aF, aL, aN]) only [aW, aX, aV, aB, aN, aL, aP, aH, aF, Int.natCast_add, Int.natCast_mul, Int.add_sub_cancel, List.length_nil, Int.cast_ofNat_Int, and_true, true_and, om2, om0]) (by simp (disch := first | omega | simp (disch := omega) only [aF, aL, aN]) only [aW, aX, aV, aB, aN, aL, aP, aH, aF, Int.natCast_add, Int.natCast_mul, Int.add_sub_cancel, List.length_nil, Int.cast_ofNat_Int, and_true, true_and])
    | some gx =>
      obtain ⟨g, x0⟩ := gx
      simp only at hq
      have hc0 := hq.c0
      have hc1 := hq.c1
      have hnc := hq.nc
      by_cases h0 : cnt l (fun _ => false) m = 0
      · simp (disch := ((try simp only [List.length_set, List.length_replicate, List.length_append, List.length_cons, List.length_nil]); omega)) only [aW, aX, aV, aB, aN, aL, aP, aH, om2, om1, hg, h0]
        refine (qpush_vr order1_lt (om1_qs (w := w) (n := n) (l := l) (O := tabI 64 fun v => (cnt l (fun _ => false) v : Int)) (x0 := x0) (T := []) hq.le (by omega)) hq.qi.heap m hc0 (by omega) (by omega)).mono ?_
        rintro r H' ⟨zs, z1, z2, z3, rfl⟩
        refine aret_of ?_
        simp (disch := ((try simp only [List.length_set, List.length_replicate, List.length_append, List.length_cons, List.length_nil]); omega)) only [aW, aX, aV, aB, aN, aL, aP, aH, om1]
        refine ⟨(m + 1, some (⟨zs, g.nq + 1, g.qv + 1, g.c + 1⟩, x0)), ⟨by simp only; omega, ?_⟩, by simp only; omega, ?_⟩
        · have hzt : zs.take (g.nq + 1) = zs := List.take_of_length_le (by omega)
          exact ⟨by simp only; omega, by simp only; rw [hzt]; exact hq.qi.grow z2 z3 rfl h0, by simp only; omega, by simp only; omega, by simp only; omega⟩
        · exact Cut.of' 5 rfl (by omega) (by simp (disch := first | omega | simp (disch := omega) only [aF, aL, aN]) only [aW, aX, aV, aB, aN, aL, aP, aH, aF, Int.natCast_add, Int.natCast_mul, Int.add_sub_cancel, List.length_nil, Int.cast_ofNat_Int, and_true, true_and, om2, om1]) (by simp (disch := first | omega | simp (disch := omega) only [aF, aL, aN]) only [aW, aX, aV, aB, aN, aL, aP, aH, aF, Int.natCast_add, Int.natCast_mul, Int.add_sub_cancel, List.length_nil, Int.cast_ofNat_Int, and_true, true_and])
      · simp (disch := ((try simp only [List.length_set, List.length_replicate, List.length_append, List.length_cons, List.length_nil]); omega)) only [aW, aX, aV, aB, aN, aL, aP, aH, om2, om1, hg, h0]
        refine ⟨(m + 1, some (g, x0)), ⟨by simp only; omega, ⟨hq.le, hq.qi.skip h0, hq.c0, by simp only; omega, hq.nc⟩⟩, by simp only; omega, ?_⟩
        exact Cut.of' 5 rfl (by omega) (by simp (disch := first | omega | simp (disch := omega) only [aF, aL, aN]) only [aW, aX, aV, aB, aN, aL, aP, aH, aF, Int.natCast_add, Int.natCast_mul, Int.add_sub_cancel, List.length_nil, Int.cast_ofNat_Int, and_true, true_and, om2, om1]) (by simp (disch := first | omega | simp (disch := omega) only [aF, aL, aN]) only [aW, aX, aV, aB, aN, aL, aP, aH, aF, Int.natCast_add, Int.natCast_mul, Int.add_sub_cancel, List.length_nil, Int.cast_ofNat_Int, and_true, true_and])
  have hmn : m = n.toNat := by omega
  subst hmn
  cases q with
  | none =>
    simp only at hq
    simp (disch := ((try simp only [List.length_set, List.length_replicate, List.length_append, List.length_cons, List.length_nil]); omega)) only [aW, aX, aV, aB, aN, aL, aP, aH, om2, om0]
    refine AWP.once ?_
    simp (disch := ((try simp only [List.length_set, List.length_replicate, List.length_append, List.length_cons, List.length_nil]); omega)) only [aW, aX, aV, aB, aN, aL, aP, aH]
    refine (qpop0_vr (f := fN) (v := .v (.slice none 0 0)) (c := 0) (by simp (disch := ((try simp only [List.length_set, List.length_replicate, List.length_append, List.length_cons, List.length_nil]); omega)) only [aW, aX, aV, aB, aN, aL, aP, aH]) (ld_nilA _)).mono ?_
    rintro r H' ⟨rfl, rfl⟩
    refine aret_of ?_
    have hneg : nextO n l (fun _ => false) < 0 := next_none fun v hv => by
      rw [← Bool.not_eq_true, avail_iff]; exact fun hc => hq v hv hc.2
    have hend : ost n l n.toNat = ost n l 0 := ost_end n l (Nat.zero_le _) hneg
    by_cases hn0 : 0 < n.toNat
    · simp (disch := ((try simp only [List.length_set, List.length_replicate, List.length_append, List.length_cons, List.length_nil]); omega)) only [aW, aX, aV, aB, aN, aL, aP, aH, r_graph_Order]
      refine post_err ⟨?_, rfl⟩
      unfold orderR; rw [if_neg (by simp [h1]), hend, if_pos (by simpa [ost] using hn0)]; rfl
    · simp (disch := ((try simp only [List.length_set, List.length_replicate, List.length_append, List.length_cons, List.length_nil]); omega)) only [aW, aX, aV, aB, aN, aL, aP, aH, r_graph_Order]
      refine post_err ⟨?_, rfl⟩
      unfold orderR; rw [if_neg (by simp [h1]), hend, if_neg (by simpa [ost] using hn0)]; rfl
  | some gx =>
    obtain ⟨g, x0⟩ := gx
    simp only at hq
    simp (disch := ((try simp only [List.length_set, List.length_replicate, List.length_append, List.length_cons, List.length_nil]); omega)) only [aW, aX, aV, aB, aN, aL, aP, aH, om2, om1]
    refine AWP.cut (Cut.virt 16 1 rfl) ?_
    refine AWP.loopM (α := Nat × Nat × OG) g_graph_Order_2 (fun p => p.1 ≤ n.toNat ∧ (ost n l p.1).2.length = p.1 ∧ OI n (ost n l p.1).1 (cnt l (ost n l p.1).1) p.2.2 (64 + 512 * p.1))
      (fun p => [(16, .vs 5 p.2.1 1 p.1)]) (fun p => om1 w n l (tabI 64 fun v => (cnt l (ost n l p.1).1 v : Int)) x0 p.2.2.qv p.2.2.nq p.2.2.ys p.2.2.c [⟨p.2.1, ints (ost n l p.1).2⟩]) (fun p => n.toNat - p.1) (0, 0, g) ⟨by simp, rfl, ?_⟩ ?_ ?_
    · have hnn : ((n.toNat : Nat) : Int) = n := by omega
      rw [hnn] at hq
      exact ⟨hq.le, hq.qi, hq.c0, by have := hq.c1; simp only; omega, hq.nc⟩
    · simp (disch := ((try simp only [List.length_set, List.length_replicate, List.length_append, List.length_cons, List.length_nil]); omega)) only [aW, aX, aV, aB, aN, aL, aP, aH, om1]
      exact Cut.of' 6 rfl (by omega) (by simp (disch := first | omega | simp (disch := omega) only [aF, aL, aN]) only [aW, aX, aV, aB, aN, aL, aP, aH, aF, Int.natCast_add, Int.natCast_mul, Int.add_sub_cancel, List.length_nil, Int.cast_ofNat_Int, and_true, true_and, om1, ost, ii_nil]) (by simp (disch := first | omega | simp (disch := omega) only [aF, aL, aN]) only [aW, aX, aV, aB, aN, aL, aP, aH, aF, Int.natCast_add, Int.natCast_mul, Int.add_sub_cancel, List.length_nil, Int.cast_ofNat_Int, and_true, true_and])
    clear hq
    rintro ⟨k, vo, g⟩ ⟨hk, hol, hq⟩
    simp only at hk hol hq
    have hc0 := hq.c0
    have hc1 := hq.c1
    have hnc := hq.nc
    by_cases hq0 : g.nq = 0
    · have hqs : QS (om1 w n l (tabI 64 fun v => (cnt l (ost n l k).1 v : Int)) x0 g.qv g.nq g.ys g.c [⟨vo, ints (ost n l k).2⟩]) 2 4 g.qv fN g.ys g.nq g.c := om1_qs hq.le (by omega)
      have hneg : nextO n l (ost n l k).1 < 0 := next_none fun v hv => by
        rw [← Bool.not_eq_true, avail_iff]
        intro hc
        have := (hq.qi.mem v).2 ⟨by omega, by simpa using hc.1, by simpa using hc.2⟩
        rw [hq0] at this; simp at this
      have hend := ost_end n l hk hneg
      simp (disch := ((try simp only [List.length_set, List.length_replicate, List.length_append, List.length_cons, List.length_nil]); omega)) only [aW, aX, aV, aB, aN, aL, aP, aH, om1]
      refine (qpop0_vr (H := om1 w n l (tabI 64 fun v => (cnt l (ost n l k).1 v : Int)) x0 g.qv g.nq g.ys g.c [⟨vo, ints (ost n l k).2⟩]) (f := fN) (v := .sl 4 g.qv 2 0 g.nq) (c := g.c) (by simp (disch := ((try simp only [List.length_set, List.length_replicate, List.length_append, List.length_cons, List.length_nil]); omega)) only [aW, aX, aV, aB, aN, aL, aP, aH]) ?_).mono ?_
      · have := ld_slPt (om1 w n l (tabI 64 fun v => (cnt l (ost n l k).1 v : Int)) x0 g.qv g.nq g.ys g.c [⟨vo, ints (ost n l k).2⟩]) 4 g.qv g.nq g.ys hq.le (by simp (disch := ((try simp only [List.length_set, List.length_replicate, List.length_append, List.length_cons, List.length_nil]); omega)) only [aW, aX, aV, aB, aN, aL, aP, aH])
        rw [hq0] at this ⊢; simpa using this
      rintro r H' ⟨rfl, rfl⟩
      refine aret_of ?_
      by_cases hkn : k < n.toNat
      · simp (disch := ((try simp only [List.length_set, List.length_replicate, List.length_append, List.length_cons, List.length_nil]); omega)) only [aW, aX, aV, aB, aN, aL, aP, aH, r_graph_Order, om1]
        refine post_err ⟨?_, rfl⟩
        unfold orderR; rw [if_neg (by simp [h1]), hend, if_pos (by omega)]; rfl
      · simp (disch := ((try simp only [List.length_set, List.length_replicate, List.length_append, List.length_cons, List.length_nil]); omega)) only [aW, aX, aV, aB, aN, aL, aP, aH, r_graph_Order, om1]
        refine post0 (r := .tup [.fs true (ints (ost n l k).2), .v (.int .i64 0)]) (Fz.tup ⟨fz_vsI _ _ _ _ _ _ (by omega) hol.symm (by simp (disch := ((try simp only [List.length_set, List.length_replicate, List.length_append, List.length_cons, List.length_nil]); omega)) only [aW, aX, aV, aB, aN, aL, aP, aH]), Fz.refl rfl, trivial⟩) ⟨?_, rfl⟩
        unfold orderR; rw [if_neg (by simp [h1]), hend, if_neg (by omega)]
    · have hql : 0 < (g.ys.take g.nq).length := by rw [lenT hq.le]; omega
      obtain ⟨hx, hneg⟩ := hq.qi.first hql
      obtain ⟨n1, n2, n3, n4⟩ := next_in hneg
      have hy0 : (g.ys.take g.nq).getD 0 ipd = g.ys.getD 0 ipd := by
        have : 0 < g.nq := by omega
        simp [List.getD_eq_getElem?_getD, List.getElem?_take, this]
      have hkn : k < n.toNat := ost_lt n l k hol hneg
      have hD := ((avail_iff _ _ _).1 n3).1
      have hself := cnt_zero.1 ((avail_iff _ _ _).1 n3).2
      have hclo := ost_clo n l c4 k
      simp (disch := ((try simp only [List.length_set, List.length_replicate, List.length_append, List.length_cons, List.length_nil]); omega)) only [aW, aX, aV, aB, aN, aL, aP, aH, om1]
      refine (qpop_vr (H := om1 w n l (tabI 64 fun v => (cnt l (ost n l k).1 v : Int)) x0 g.qv g.nq g.ys g.c [⟨vo, ints (ost n l k).2⟩]) order1_lt (om1_qs hq.le (by omega)) (by omega) hq.qi.heap).mono ?_
      rintro r H' ⟨rfl, zs, z1, z2, z3, rfl⟩
      refine aret_of ?_
      have hx' : (g.ys.getD 0 ipd).1 = nextO n l (ost n l k).1 := by rw [← hy0]; exact hx
      rw [hx']
      have hpop := hq.qi.pop hql (by rw [hy0]; exact z2) z3
      rw [hy0, hx'] at hpop
      have hst : ost n l (k + 1) = (fun j => (ost n l k).1 j || j == (nextO n l (ost n l k).1).toNat, (ost n l k).2 ++ [nextO n l (ost n l k).1]) := by simp only [ost]; rw [if_neg hneg]
      have hO := tabI_len 64 fun v => (cnt l (ost n l k).1 v : Int)
      generalize hX : nextO n l (ost n l k).1 = x at *
      have hle := hq.le
      have hl512 : l.length ≤ 512 := c3
      have hn64 : n ≤ 64 := c2
      simp (disch := ((try simp only [List.length_set, List.length_replicate, List.length_append, List.length_cons, List.length_nil]); omega)) only [aW, aX, aV, aB, aN, aL, aP, aH, om1]
      refine AWP.loopM (α := Nat × OG) g_graph_Order_3 (fun p => p.1 ≤ l.length ∧ OI n (fun j => (ost n l k).1 j || j == x.toNat) (mix l (ost n l k).1 (fun j => (ost n l k).1 j || j == x.toNat) p.1) p.2 (64 + 512 * k + p.1))
        (fun p => [(19, .v (.int .i64 p.1))]) (fun p => om1 w n l (tabI 64 fun v => (mix l (ost n l k).1 (fun j => (ost n l k).1 j || j == x.toNat) p.1 v : Int)) x0 p.2.qv p.2.nq p.2.ys p.2.c [⟨vo + 1, ints ((ost n l k).2 ++ [x])⟩, ⟨0, [.v (.int .i64 x)]⟩]) (fun p => l.length - p.1) (0, ⟨zs, g.nq - 1, g.qv, g.c⟩) ⟨by simp, ?_⟩ ?_ ?_
      · refine ⟨by simp only; omega, hpop.same fun v => by simp only [mix_zero], hq.c0, by simp only; omega, by simp only; omega⟩
      · simp only [mix_zero]
        try simp (disch := ((try simp only [List.length_set, List.length_replicate, List.length_append, List.length_cons, List.length_nil]); omega)) only [aW, aX, aV, aB, aN, aL, aP, aH]
        exact Cut.of' 7 rfl (by omega) (by simp (disch := first | omega | simp (disch := omega) only [aF, aL, aN]) only [aW, aX, aV, aB, aN, aL, aP, aH, aF, Int.natCast_add, Int.natCast_mul, Int.add_sub_cancel, List.length_nil, Int.cast_ofNat_Int, and_true, true_and, om1]) (by simp (disch := first | omega | simp (disch := omega) only [aF, aL, aN]) only [aW, aX, aV, aB, aN, aL, aP, aH, aF, Int.natCast_add, Int.natCast_mul, Int.add_sub_cancel, List.length_nil, Int.cast_ofNat_Int, and_true, true_and])
      clear hpop z1 z2 z3 zs
      rintro ⟨i, g'⟩ ⟨hi, hI⟩
      simp only at hi hI
      have hc0' := hI.c0
      have hc1' := hI.c1
      have hnc' := hI.nc
      by_cases hlt : i < l.length
      · have hmem : l.getD i (0, 0) ∈ l := by simp [List.getD_eq_getElem?_getD, hlt]
        obtain ⟨⟨r1, r2⟩, r3, r4⟩ := c4 _ hmem
        have hOl := tabI_len 64 fun v => (mix l (ost n l k).1 (fun j => (ost n l k).1 j || j == x.toNat) i v : Int)
        have hOg := tabI_get 64 (fun v => (mix l (ost n l k).1 (fun j => (ost n l k).1 j || j == x.toNat) i v : Int)) (l.getD i (0, 0)).2.toNat (by omega)
        have hml := mix_le l (ost n l k).1 (fun j => (ost n l k).1 j || j == x.toNat) i (l.getD i (0, 0)).2.toNat
        by_cases hax : (l.getD i (0, 0)).1 = x
        · have hhit := fun v => mix_hit (v := v) hlt (show (l.getD i (0, 0)).1.toNat = x.toNat by rw [hax]) hD
          have hh1 := hhit (l.getD i (0, 0)).2.toNat
          rw [if_pos (by omega)] at hh1
          have e1 : (tabI 64 fun v => (mix l (ost n l k).1 (fun j => (ost n l k).1 j || j == x.toNat) i v : Int)).set (l.getD i (0, 0)).2.toNat ((mix l (ost n l k).1 (fun j => (ost n l k).1 j || j == x.toNat) i (l.getD i (0, 0)).2.toNat : Int) - 1) = tabI 64 fun v => (mix l (ost n l k).1 (fun j => (ost n l k).1 j || j == x.toNat) (i + 1) v : Int) := by
            rw [tabI_set _ _ _ _ (by omega)]
            refine tabI_ext fun v _ => ?_
            have hv := hhit v
            by_cases hva : v = (l.getD i (0, 0)).2.toNat
            · subst hva; rw [if_pos rfl]; omega
            · rw [if_neg (by omega)] at hv; rw [if_neg hva]; omega
          have hOg' := tabI_get 64 (fun v => (mix l (ost n l k).1 (fun j => (ost n l k).1 j || j == x.toNat) (i + 1) v : Int)) (l.getD i (0, 0)).2.toNat (by omega)
          have hOl' := tabI_len 64 fun v => (mix l (ost n l k).1 (fun j => (ost n l k).1 j || j == x.toNat) (i + 1) v : Int)
          have hml' := mix_le l (ost n l k).1 (fun j => (ost n l k).1 j || j == x.toNat) (i + 1) (l.getD i (0, 0)).2.toNat
          have hrest : ∀ v, v ≠ (l.getD i (0, 0)).2.toNat → mix l (ost n l k).1 (fun j => (ost n l k).1 j || j == x.toNat) (i + 1) v = mix l (ost n l k).1 (fun j => (ost n l k).1 j || j == x.toNat) i v := fun v hv => by
            have := hhit v; rw [if_neg (by omega)] at this; omega
          have hfree : (ost n l k).1 (l.getD i (0, 0)).2.toNat = false ∧ (l.getD i (0, 0)).2.toNat ≠ x.toNat := by
            constructor
            · rw [← Bool.not_eq_true]; intro hc
              have := hclo _ hmem hc
              rw [hax, hD] at this; cases this
            · intro hc
              have := hself _ hmem (by omega)
              rw [hax, hD] at this; cases this
          simp (disch := ((try simp only [List.length_set, List.length_replicate, List.length_append, List.length_cons, List.length_nil]); omega)) only [aW, aX, aV, aB, aN, aL, aP, aH, om1, hOg, hax, e1]
          by_cases hz : mix l (ost n l k).1 (fun j => (ost n l k).1 j || j == x.toNat) (i + 1) (l.getD i (0, 0)).2.toNat = 0
          · simp (disch := ((try simp only [List.length_set, List.length_replicate, List.length_append, List.length_cons, List.length_nil]); omega)) only [aW, aX, aV, aB, aN, aL, aP, aH, hOg', hz]
            refine (qpush_vr order1_lt (H := om1 w n l (tabI 64 fun v => (mix l (ost n l k).1 (fun j => (ost n l k).1 j || j == x.toNat) (i + 1) v : Int)) x0 g'.qv g'.nq g'.ys g'.c [⟨vo + 1, ints ((ost n l k).2 ++ [x])⟩, ⟨0, [.v (.int .i64 x)]⟩, ⟨0, [.v (.int .i64 x), .v (.int .i64 (l.getD i (0, 0)).2)]⟩]) (om1_qs hI.le (by omega)) hI.qi.heap (l.getD i (0, 0)).2 hc0' (by omega) (by omega)).mono ?_
            rintro r H' ⟨zs, z1, z2, z3, rfl⟩
            refine aret_of ?_
            simp (disch := ((try simp only [List.length_set, List.length_replicate, List.length_append, List.length_cons, List.length_nil]); omega)) only [aW, aX, aV, aB, aN, aL, aP, aH, om1]
            refine ⟨(i + 1, ⟨zs, g'.nq + 1, g'.qv + 1, g'.c + 1⟩), ⟨by simp only; omega, ⟨by simp only; omega, ?_, by simp only; omega, by simp only; omega, by simp only; omega⟩⟩, by simp only; omega, ?_⟩
            · have hzt : zs.take (g'.nq + 1) = zs := List.take_of_length_le (by omega)
              simp only [hzt]
              refine hI.qi.push z2 z3 ⟨⟨r3, r4⟩, ?_, hz⟩ (by omega) hrest
              simp only [hfree.1, Bool.false_or, beq_eq_false_iff_ne, ne_eq]
              exact hfree.2
            · exact Cut.of' 7 rfl (by omega) (by simp (disch := first | omega | simp (disch := omega) only [aF, aL, aN]) only [aW, aX, aV, aB, aN, aL, aP, aH, aF, Int.natCast_add, Int.natCast_mul, Int.add_sub_cancel, List.length_nil, Int.cast_ofNat_Int, and_true, true_and, om1]) (by simp (disch := first | omega | simp (disch := omega) only [aF, aL, aN]) only [aW, aX, aV, aB, aN, aL, aP, aH, aF, Int.natCast_add, Int.natCast_mul, Int.add_sub_cancel, List.length_nil, Int.cast_ofNat_Int, and_true, true_and])
          · simp (disch := ((try simp only [List.length_set, List.length_replicate, List.length_append, List.length_cons, List.length_nil]); omega)) only [aW, aX, aV, aB, aN, aL, aP, aH, hOg', hz]
            refine ⟨(i + 1, g'), ⟨by simp only; omega, ⟨hI.le, hI.qi.same fun v => ?_, hI.c0, by simp only; omega, hI.nc⟩⟩, by simp only; omega, ?_⟩
            · by_cases hv : v = (l.getD i (0, 0)).2.toNat
              · rw [hv]; exact ⟨fun h => absurd h hz, fun h => by omega⟩
              · rw [hrest v hv]
            · exact Cut.of' 7 rfl (by omega) (by simp (disch := first | omega | simp (disch := omega) only [aF, aL, aN]) only [aW, aX, aV, aB, aN, aL, aP, aH, aF, Int.natCast_add, Int.natCast_mul, Int.add_sub_cancel, List.length_nil, Int.cast_ofNat_Int, and_true, true_and, om1]) (by simp (disch := first | omega | simp (disch := omega) only [aF, aL, aN]) only [aW, aX, aV, aB, aN, aL, aP, aH, aF, Int.natCast_add, Int.natCast_mul, Int.add_sub_cancel, List.length_nil, Int.cast_ofNat_Int, and_true, true_and])
        · have hmiss := fun v => mix_miss (v := v) (D := (ost n l k).1) hlt (show (l.getD i (0, 0)).1.toNat ≠ x.toNat by omega)
          simp (disch := ((try simp only [List.length_set, List.length_replicate, List.length_append, List.length_cons, List.length_nil]); omega)) only [aW, aX, aV, aB, aN, aL, aP, aH, om1]
          refine ⟨(i + 1, g'), ⟨by simp only; omega, ⟨hI.le, hI.qi.same fun v => by rw [hmiss], hI.c0, by simp only; omega, hI.nc⟩⟩, by simp only; omega, ?_⟩
          simp only [hmiss]
          exact Cut.of' 7 rfl (by omega) (by simp (disch := first | omega | simp (disch := omega) only [aF, aL, aN]) only [aW, aX, aV, aB, aN, aL, aP, aH, aF, Int.natCast_add, Int.natCast_mul, Int.add_sub_cancel, List.length_nil, Int.cast_ofNat_Int, and_true, true_and, om1]) (by simp (disch := first | omega | simp (disch := omega) only [aF, aL, aN]) only [aW, aX, aV, aB, aN, aL, aP, aH, aF, Int.natCast_add, Int.natCast_mul, Int.add_sub_cancel, List.length_nil, Int.cast_ofNat_Int, and_true, true_and])
      · have hil : i = l.length := by omega
        subst hil
        simp (disch := ((try simp only [List.length_set, List.length_replicate, List.length_append, List.length_cons, List.length_nil]); omega)) only [aW, aX, aV, aB, aN, aL, aP, aH, om1]
        refine ⟨(k + 1, vo + 1, g'), ⟨by simp only; omega, by simp only [hst]; simp [hol], ?_⟩, by simp only; omega, ?_⟩
        · simp only [hst]
          exact ⟨hI.le, hI.qi.same fun v => by rw [mix_all], hI.c0, by omega, hI.nc⟩
        · simp only [hst, mix_all]
          exact Cut.of' 6 rfl (by omega) (by simp (disch := first | omega | simp (disch := omega) only [aF, aL, aN]) only [aW, aX, aV, aB, aN, aL, aP, aH, aF, Int.natCast_add, Int.natCast_mul, Int.add_sub_cancel, List.length_nil, Int.cast_ofNat_Int, and_true, true_and, om1]) (by simp (disch := first | omega | simp (disch := omega) only [aF, aL, aN]) only [aW, aX, aV, aB, aN, aL, aP, aH, aF, Int.natCast_add, Int.natCast_mul, Int.add_sub_cancel, List.length_nil, Int.cast_ofNat_Int, and_true, true_and])
end Go.Proofs.Ytaiidcelopfjlaa
