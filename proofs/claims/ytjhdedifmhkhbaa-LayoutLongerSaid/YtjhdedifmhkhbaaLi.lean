/- From the model's code to the small language: what holds of the small text holds of the code. Plain lemmas; no statement is claimed here. -/
import Derived.Test.YtjhdedifmhkhbaaLh
namespace Go.Lft
open Go

/-! ### Expressions under a turned variable, and under turned memory -/
theorem X.ev_set_all (k : Nat) (v : Value) (e : List Value) (h : Heap) (x : X) : x.has k = false → x.ev (e.set k v) h = x.ev e h ∧ x.evs (e.set k v) h = x.evs e h ∧ x.evp (e.set k v) h = x.evp e h := by
  induction x with
  | var i =>
    intro hx
    have hne : k ≠ i := by simpa [X.has] using hx
    exact ⟨by simp [X.ev, List.getElem?_set_ne hne], by simp [X.evs], by simp [X.evp]⟩
  | lit w => intro _; exact ⟨by simp [X.ev], by simp [X.evs], by simp [X.evp]⟩
  | u k' a ih => intro hx; have := ih (by simpa [X.has] using hx); exact ⟨by simp [X.ev, this.1], by simp [X.evs], by simp [X.evp]⟩
  | b k' a c iha ihc =>
    intro hx
    simp only [X.has, Bool.or_eq_false_iff] at hx
    exact ⟨by simp [X.ev, (iha hx.1).1, (ihc hx.2).1], by simp [X.evs], by simp [X.evp]⟩
  | ite c a d ihc iha ihd =>
    intro hx
    simp only [X.has, Bool.or_eq_false_iff] at hx
    exact ⟨by simp [X.ev, (iha hx.1.2).1, (ihc hx.1.1).1, (ihd hx.2).1], by simp [X.evs], by simp [X.evp]⟩
  | slc arr n a l q m iha ihl ihq ihm =>
    intro hx
    simp only [X.has, Bool.or_eq_false_iff] at hx
    refine ⟨?_, by simp [X.evs], by simp [X.evp]⟩
    cases m <;> simp [X.ev, (iha hx.1.1.1).1, (ihl hx.1.1.2).1, (ihq hx.1.2).1] <;> (have := (ihm hx.2).1; simp [X.ev] at this; simp [this])
  | fn f c ih => intro hx; have := ih (by simpa [X.has] using hx); exact ⟨by simp [X.ev, this.2.1], by simp [X.evs], by simp [X.evp]⟩
  | bld z p ih => intro hx; have := ih (by simpa [X.has] using hx); exact ⟨by simp [X.ev, this.2.2], by simp [X.evs], by simp [X.evp]⟩
  | nl => intro _; exact ⟨by simp [X.ev], by simp [X.evs], by simp [X.evp]⟩
  | cn a r iha ihr =>
    intro hx
    simp only [X.has, Bool.or_eq_false_iff] at hx
    exact ⟨by simp [X.ev], by simp [X.evs, (iha hx.1).1, (ihr hx.2).2.1], by simp [X.evp]⟩
  | pl o n a r iha ihr =>
    intro hx
    simp only [X.has, Bool.or_eq_false_iff] at hx
    exact ⟨by simp [X.ev], by simp [X.evs], by simp [X.evp, (iha hx.1).1, (ihr hx.2).2.2]⟩

theorem k1v_pure {k : K1} (x : Value) (h h' : Heap) (hk : ∀ a, (X.u k a).mem = a.mem) : k1v k x h' = k1v k x h := by
  have hk0 := hk (.var 0)
  cases k <;> (try (simp [X.mem] at hk0; done)) <;> (cases x with
    | func fn p q => cases fn <;> rfl
    | pointer a => rcases a with _ | ⟨b, o, _ | s⟩ <;> rfl
    | _ => rfl)

theorem X.ev_mem_all (e : List Value) (h h' : Heap) (x : X) : x.mem = false → x.ev e h' = x.ev e h ∧ x.evs e h' = x.evs e h ∧ x.evp e h' = x.evp e h := by
  induction x with
  | var i => intro _; exact ⟨by simp [X.ev], by simp [X.evs], by simp [X.evp]⟩
  | lit w => intro _; exact ⟨by simp [X.ev], by simp [X.evs], by simp [X.evp]⟩
  | u k' a ih =>
    intro hx
    refine ⟨?_, by simp [X.evs], by simp [X.evp]⟩
    cases k' <;> (try (simp [X.mem] at hx; done)) <;> (have := ih (by simpa [X.mem] using hx); simp only [X.ev, this.1]; first | done | (congr 1; done) | (congr 1; funext y; exact k1v_pure y h h' (fun a => by simp [X.mem])))
  | b k' a c iha ihc =>
    intro hx
    simp only [X.mem, Bool.or_eq_false_iff] at hx
    exact ⟨by simp [X.ev, (iha hx.1).1, (ihc hx.2).1], by simp [X.evs], by simp [X.evp]⟩
  | ite c a d ihc iha ihd =>
    intro hx
    simp only [X.mem, Bool.or_eq_false_iff] at hx
    exact ⟨by simp [X.ev, (iha hx.1.2).1, (ihc hx.1.1).1, (ihd hx.2).1], by simp [X.evs], by simp [X.evp]⟩
  | slc arr n a l q m iha ihl ihq ihm =>
    intro hx
    simp only [X.mem, Bool.or_eq_false_iff] at hx
    refine ⟨?_, by simp [X.evs], by simp [X.evp]⟩
    have h4 := (ihm hx.2).1
    cases m <;> simp only [X.ev, (iha hx.1.1.1).1, (ihl hx.1.1.2).1, (ihq hx.1.2).1] <;> (simp only [X.ev] at h4; simp only [h4])
  | fn f c ih => intro hx; have := ih (by simpa [X.mem] using hx); exact ⟨by simp [X.ev, this.2.1], by simp [X.evs], by simp [X.evp]⟩
  | bld z p ih => intro hx; have := ih (by simpa [X.mem] using hx); exact ⟨by simp [X.ev, this.2.2], by simp [X.evs], by simp [X.evp]⟩
  | nl => intro _; exact ⟨by simp [X.ev], by simp [X.evs], by simp [X.evp]⟩
  | cn a r iha ihr =>
    intro hx
    simp only [X.mem, Bool.or_eq_false_iff] at hx
    exact ⟨by simp [X.ev], by simp [X.evs, (iha hx.1).1, (ihr hx.2).2.1], by simp [X.evp]⟩
  | pl o n a r iha ihr =>
    intro hx
    simp only [X.mem, Bool.or_eq_false_iff] at hx
    exact ⟨by simp [X.ev], by simp [X.evs], by simp [X.evp, (iha hx.1).1, (ihr hx.2).2.2]⟩

theorem k1v_ext {h h' : Heap} (he : Ext h h') {k : K1} {x v : Value} (hk : k1v k x h = some v) : k1v k x h' = some v := by
  cases k with
  | ld1 => obtain ⟨b, o, rfl, hr⟩ := i_ld1 hk; simp [k1v, rd_ext he hr]
  | lda n => obtain ⟨b, o, vs, rfl, hr, rfl⟩ := i_lda hk; simp [k1v, rd_ext he hr]
  | _ => rw [k1v_pure x h h' (fun a => by simp [X.mem])]; exact hk

theorem X.ev_ext_all {h h' : Heap} (he : Ext h h') (e : List Value) (x : X) : (∀ v, x.ev e h = some v → x.ev e h' = some v) ∧ (∀ v, x.evs e h = some v → x.evs e h' = some v) ∧ (∀ v, x.evp e h = some v → x.evp e h' = some v) := by
  induction x with
  | var i => exact ⟨by simp [X.ev], by simp [X.evs], by simp [X.evp]⟩
  | lit w => exact ⟨by simp [X.ev], by simp [X.evs], by simp [X.evp]⟩
  | u k a ih =>
    refine ⟨fun v hv => ?_, by simp [X.evs], by simp [X.evp]⟩
    simp only [X.ev, Option.bind_eq_some_iff] at hv ⊢
    obtain ⟨y, hy, hk⟩ := hv
    exact ⟨y, ih.1 _ hy, k1v_ext he hk⟩
  | b k a c iha ihc =>
    refine ⟨fun v hv => ?_, by simp [X.evs], by simp [X.evp]⟩
    simp only [X.ev, Option.bind_eq_some_iff] at hv ⊢
    obtain ⟨y, hy, z, hz, hk⟩ := hv
    exact ⟨y, iha.1 _ hy, z, ihc.1 _ hz, hk⟩
  | ite c a d ihc iha ihd =>
    refine ⟨fun v hv => ?_, by simp [X.evs], by simp [X.evp]⟩
    simp only [X.ev, Option.bind_eq_some_iff] at hv ⊢
    obtain ⟨y, hy, hk⟩ := hv
    refine ⟨y, ihc.1 _ hy, ?_⟩
    split at hk
    · exact iha.1 _ hk
    · exact ihd.1 _ hk
    · cases hk
  | slc arr n a l q m iha ihl ihq ihm =>
    refine ⟨fun v hv => ?_, by simp [X.evs], by simp [X.evp]⟩
    cases m <;> simp only [X.ev, Option.bind_eq_some_iff] at hv ihm ⊢ <;>
      (obtain ⟨y, hy, z, hz, u, hu, hk⟩ := hv; refine ⟨y, iha.1 _ hy, z, ihl.1 _ hz, u, ihq.1 _ hu, ?_⟩) <;> first
      | exact hk
      | (obtain ⟨m, hm, hk⟩ := hk; exact ⟨m, ihm.1 _ hm, hk⟩)
      | (cases hk; done)
      | (simp at hk; done)
      | (obtain ⟨m, hm, hk⟩ := hk; refine ⟨m, ?_, hk⟩; have := ihm.1 m; simp only [Option.bind_eq_some_iff] at this; exact this hm)
  | fn f c ih =>
    refine ⟨fun v hv => ?_, by simp [X.evs], by simp [X.evp]⟩
    simp only [X.ev, Option.map_eq_some_iff] at hv ⊢
    obtain ⟨y, hy, hk⟩ := hv
    exact ⟨y, ih.2.1 _ hy, hk⟩
  | bld z p ih =>
    refine ⟨fun v hv => ?_, by simp [X.evs], by simp [X.evp]⟩
    simp only [X.ev, Option.bind_eq_some_iff] at hv ⊢
    obtain ⟨y, hy, hk⟩ := hv
    exact ⟨y, ih.2.2 _ hy, hk⟩
  | nl => exact ⟨by simp [X.ev], by simp [X.evs], by simp [X.evp]⟩
  | cn a r iha ihr =>
    refine ⟨by simp [X.ev], fun v hv => ?_, by simp [X.evp]⟩
    simp only [X.evs, Option.bind_eq_some_iff, Option.map_eq_some_iff] at hv ⊢
    obtain ⟨y, hy, z, hz, hk⟩ := hv
    exact ⟨y, iha.1 _ hy, z, ihr.2.1 _ hz, hk⟩
  | pl o n a r iha ihr =>
    refine ⟨by simp [X.ev], by simp [X.evs], fun v hv => ?_⟩
    simp only [X.evp, Option.bind_eq_some_iff] at hv ⊢
    obtain ⟨y, hy, hk⟩ := hv
    refine ⟨y, iha.1 _ hy, ?_⟩
    split at hk
    · rename_i hs
      rw [if_pos hs]
      simp only [Option.map_eq_some_iff] at hk ⊢
      obtain ⟨z, hz, hk⟩ := hk
      exact ⟨z, ihr.2.2 _ hz, hk⟩
    · cases hk

end Go.Lft
