/- Operations that only compute or read: the expression says what they yield. Plain lemmas; no statement is claimed here. -/
import Derived.Test.YtjhdedifmhkhbaaLe
namespace Go.Lft
open Go

section
variable {P : Program} {tr : Tr} {ρ : Operand → Value} {e : List Value} {h : Heap}

theorem optX_spec (hT : ∀ y z, tr y = some z → z.ev e h = some (ρ y)) {d x : X} {q : Option Operand} (hx : optX tr d q = some x) : (q = none ∧ x = d) ∨ ∃ y, q = some y ∧ x.ev e h = some (ρ y) := by
  cases q with
  | none => simp [optX] at hx; exact .inl ⟨rfl, hx.symm⟩
  | some y => exact .inr ⟨y, rfl, hT _ _ hx⟩

theorem toList_one {α : Type} {a : Array α} {x : α} (h : a.toList = [x]) : a = #[x] := by apply Array.ext'; simpa using h
theorem toList_two {α : Type} {a : Array α} {x y : α} (h : a.toList = [x, y]) : a = #[x, y] := by apply Array.ext'; simpa using h

theorem opX_sound (hT : ∀ y z, tr y = some z → z.ev e h = some (ρ y)) {o : Oper} {x : X} (hx : opX P tr o.op = some x) {v : Value} (hv : x.ev e h = some v) {w : World} (hw : kdOf o.op = 0 ∨ Ext h (hp w)) :
    (execOp ρ o).run P w = .ok (.value v) w := by
  cases ho : o.op with
  | move y =>
    rw [ho] at hx; simp only [opX] at hx
    rw [hT _ _ hx] at hv; cases hv
    simp [execOp, ho]
  | assign y =>
    rw [ho] at hx; simp only [opX] at hx
    rw [hT _ _ hx] at hv; cases hv
    simp [execOp, ho]
  | nilCheck y =>
    rw [ho] at hx; simp only [opX, Option.map_eq_some_iff] at hx
    obtain ⟨a, ha, rfl⟩ := hx
    exact s_nilc (h := h) ho (ev_u (hT _ _ ha) hv)
  | binOp op t y z t' =>
    rw [ho] at hx; simp only [opX, Option.bind_eq_some_iff] at hx
    obtain ⟨a, ha, c, hc, hx⟩ := hx
    split at hx
    · cases hx; exact s_bin ho (ev_b (hT _ _ ha) (hT _ _ hc) hv)
    · rename_i hu
      split at hx
      · cases hx; exact s_eqb (neg := false) rfl hu ho (ev_b (hT _ _ ha) (hT _ _ hc) hv)
      · cases hx; exact s_eqb (neg := true) rfl hu ho (ev_b (hT _ _ ha) (hT _ _ hc) hv)
      · cases hx
    · rename_i hu
      split at hx
      · cases hx; exact s_eqp (neg := false) rfl hu ho (ev_b (hT _ _ ha) (hT _ _ hc) hv)
      · cases hx; exact s_eqp (neg := true) rfl hu ho (ev_b (hT _ _ ha) (hT _ _ hc) hv)
      · cases hx
    · rename_i hu
      split at hx
      · cases hx; exact s_eqs (neg := false) rfl hu ho (ev_b (hT _ _ ha) (hT _ _ hc) hv)
      · cases hx; exact s_eqs (neg := true) rfl hu ho (ev_b (hT _ _ ha) (hT _ _ hc) hv)
      · cases hx
    · rename_i hu
      split at hx
      · cases hx; exact s_eqf (neg := false) rfl hu ho (ev_b (hT _ _ ha) (hT _ _ hc) hv)
      · cases hx; exact s_eqf (neg := true) rfl hu ho (ev_b (hT _ _ ha) (hT _ _ hc) hv)
      · cases hx
    · rename_i fields hu
      split at hx
      · rename_i hcond
        simp only [Bool.and_eq_true] at hcond
        split at hx
        · cases hx
          obtain ⟨cs, ds, b, h1, h2, h3, h4, rfl⟩ := i_eqi (ev_b (hT _ _ ha) (hT _ _ hc) hv)
          exact s_eqi (neg := false) rfl hu hcond.1 hcond.2 ho h1 h2 h3 h4
        · cases hx
          obtain ⟨cs, ds, b, h1, h2, h3, h4, rfl⟩ := i_eqi (ev_b (hT _ _ ha) (hT _ _ hc) hv)
          exact s_eqi (neg := true) rfl hu hcond.1 hcond.2 ho h1 h2 h3 h4
        · cases hx
      · cases hx
    · cases hx
  | unOp op t y =>
    rw [ho] at hx; simp only [opX, Option.map_eq_some_iff] at hx
    obtain ⟨a, ha, rfl⟩ := hx
    exact s_un (h := h) ho (ev_u (hT _ _ ha) hv)
  | convert src dst y =>
    rw [ho] at hx; simp only [opX, Option.bind_eq_some_iff] at hx
    obtain ⟨a, ha, hx⟩ := hx
    split at hx
    · rename_i h1 h2; cases hx; exact s_conv (h := h) ho h1 h2 (ev_u (hT _ _ ha) hv)
    · cases hx
  | fieldAddr s y f =>
    rw [ho] at hx; simp only [opX, Option.bind_eq_some_iff] at hx
    obtain ⟨a, ha, hx⟩ := hx
    split at hx
    · rename_i fields hu
      simp only [Option.bind_eq_some_iff] at hx
      obtain ⟨fd, hf, n, hn, hx⟩ := hx
      split at hx
      · cases hx
      · rename_i h0; cases hx; exact s_fld (h := h) ho hu hf hn h0 (ev_u (hT _ _ ha) hv)
    · cases hx
  | indexAddr t y i =>
    rw [ho] at hx; simp only [opX, Option.bind_eq_some_iff] at hx
    obtain ⟨a, ha, c, hc, hx⟩ := hx
    split at hx
    · rename_i hu
      simp only [Option.map_eq_some_iff] at hx
      obtain ⟨n, hn, rfl⟩ := hx
      exact s_idx ho hu hn (ev_b (hT _ _ ha) (hT _ _ hc) hv)
    · rename_i hu
      simp only [Option.map_eq_some_iff] at hx
      obtain ⟨n, hn, rfl⟩ := hx
      exact s_idxa ho hu hn (ev_b (hT _ _ ha) (hT _ _ hc) hv)
    · cases hx
  | load t y =>
    rw [ho] at hx hw; simp only [opX, Option.bind_eq_some_iff] at hx
    obtain ⟨a, ha, g, hg, hx⟩ := hx
    have hw : Ext h (hp w) := hw.resolve_left (by simp [kdOf])
    split at hx
    · rename_i g1; subst g1
      simp only [Option.map_eq_some_iff] at hx
      obtain ⟨n, hn, rfl⟩ := hx
      exact s_lda ho hg hn (ev_u (hT _ _ ha) hv) hw
    · rename_i g1
      have : g = false := by simpa using g1
      subst this
      cases hx; exact s_ld1 ho hg (ev_u (hT _ _ ha) hv) hw
  | field t y f =>
    rw [ho] at hx; simp only [opX, Option.bind_eq_some_iff] at hx
    obtain ⟨a, ha, hx⟩ := hx
    split at hx
    · rename_i fields hu
      simp only [Option.bind_eq_some_iff] at hx
      obtain ⟨fd, hf, g, hg, hx⟩ := hx
      split at hx
      · rename_i g1; subst g1
        simp only [Option.map_eq_some_iff] at hx
        obtain ⟨n, hn, rfl⟩ := hx
        exact s_prta (h := h) ho hu hf hg hn (ev_u (hT _ _ ha) hv)
      · rename_i g1
        have : g = false := by simpa using g1
        subst this
        cases hx; exact s_prt (h := h) ho hu hf hg (ev_u (hT _ _ ha) hv)
    · cases hx
  | index t y i =>
    rw [ho] at hx; simp only [opX, Option.bind_eq_some_iff] at hx
    obtain ⟨a, ha, c, hc, hx⟩ := hx
    split at hx
    · rename_i hu
      simp only [Option.bind_eq_some_iff, Option.map_eq_some_iff] at hx
      obtain ⟨n, hn, g, hg, rfl⟩ := hx
      exact s_ixv ho hu hn hg (ev_b (hT _ _ ha) (hT _ _ hc) hv)
    · rename_i hu
      cases hx; exact s_ixs ho hu (ev_b (hT _ _ ha) (hT _ _ hc) hv)
    · cases hx
  | extract y i =>
    rw [ho] at hx; simp only [opX, Option.map_eq_some_iff] at hx
    obtain ⟨a, ha, rfl⟩ := hx
    exact s_ext (h := h) ho (ev_u (hT _ _ ha) hv)
  | slice t y lo hi mx =>
    rw [ho] at hx; simp only [opX, Option.bind_eq_some_iff] at hx
    obtain ⟨a, ha, l, hl, hx⟩ := hx
    have hl' := optX_spec hT hl
    have ha' := hT _ _ ha
    split at hx
    · rename_i hu
      simp only [Option.bind_eq_some_iff] at hx
      obtain ⟨n, hn, u, hu', hx⟩ := hx
      have hh' := optX_spec hT hu'
      split at hx
      · cases hx
        simp only [X.ev, ha', Option.bind_some, Option.bind_eq_some_iff] at hv
        obtain ⟨lv, hlv, uv, huv, hv⟩ := hv
        refine s_slc (l := lv) (u := uv) ho hu hn ?_ ?_ (by simpa using hv)
        · rcases hl' with ⟨rfl, rfl⟩ | ⟨y', rfl, hy'⟩
          · simp [X.ev] at hlv; exact .inl ⟨rfl, hlv.symm⟩
          · rw [hy'] at hlv; cases hlv; exact .inr ⟨y', rfl, rfl⟩
        · rcases hh' with ⟨rfl, rfl⟩ | ⟨y', rfl, hy'⟩
          · obtain ⟨b1, b2, b3, g1, g2⟩ := i_len (ev_u ha' huv)
            exact .inl ⟨rfl, rfl, b1, b2, b3, g1, g2⟩
          · rw [hy'] at huv; cases huv; exact .inr ⟨y', rfl, rfl⟩
      · rename_i m q
        simp only [Option.map_eq_some_iff] at hx
        obtain ⟨mX, hm, rfl⟩ := hx
        have hm' := hT _ _ hm
        have hv' : ∃ lv uv, l.ev e h = some lv ∧ u.ev e h = some uv ∧ slcv none n (ρ y) lv uv (some (ρ m)) = some v := by
          simp only [X.ev, ha', Option.bind_some, Option.bind_eq_some_iff] at hv
          obtain ⟨lv, hlv, uv, huv, hv⟩ := hv
          refine ⟨lv, uv, hlv, huv, ?_⟩
          cases mX with
          | nl => simp [X.ev] at hm'
          | _ => simpa [hm'] using hv
        obtain ⟨lv, uv, hlv, huv, hv2⟩ := hv'
        refine s_slc (l := lv) (u := uv) ho hu hn ?_ ?_ (by simpa using hv2)
        · rcases hl' with ⟨rfl, rfl⟩ | ⟨y', rfl, hy'⟩
          · simp [X.ev] at hlv; exact .inl ⟨rfl, hlv.symm⟩
          · rw [hy'] at hlv; cases hlv; exact .inr ⟨y', rfl, rfl⟩
        · rcases hh' with ⟨hq, _⟩ | ⟨y', hy1, hy'⟩
          · cases hq
          · cases hy1
            rw [hy'] at huv; cases huv; exact .inr ⟨_, rfl, rfl⟩
      · cases hx
    · rename_i len el hu
      simp only [Option.bind_eq_some_iff] at hx
      obtain ⟨n, hn, u, hu', hx⟩ := hx
      have hh' := optX_spec hT hu'
      split at hx
      · cases hx
        simp only [X.ev, ha', Option.bind_some, Option.bind_eq_some_iff] at hv
        obtain ⟨lv, hlv, uv, huv, hv⟩ := hv
        refine s_slca (l := lv) (u := uv) ho hu hn ?_ ?_ (by simpa using hv)
        · rcases hl' with ⟨rfl, rfl⟩ | ⟨y', rfl, hy'⟩
          · simp [X.ev] at hlv; exact .inl ⟨rfl, hlv.symm⟩
          · rw [hy'] at hlv; cases hlv; exact .inr ⟨y', rfl, rfl⟩
        · rcases hh' with ⟨rfl, rfl⟩ | ⟨y', rfl, hy'⟩
          · simp [X.ev] at huv; exact .inl ⟨rfl, huv.symm⟩
          · rw [hy'] at huv; cases huv; exact .inr ⟨y', rfl, rfl⟩
      · cases hx
    · cases hx
  | makeFunc fn first caps =>
    rw [ho] at hx
    cases fn with
    | func f =>
      simp only [opX] at hx
      split at hx
      · rename_i hf
        simp only [Option.map_eq_some_iff] at hx
        obtain ⟨l, hl, rfl⟩ := hx
        have := listX_spec hT _ _ hl
        simp only [X.ev, this, Option.map_some, Option.some.injEq] at hv
        subst hv
        exact s_fn ho (by simpa using hf) rfl
      · cases hx
    | _ => simp [opX] at hx
  | build t parts =>
    rw [ho] at hx; simp only [opX, Option.bind_eq_some_iff] at hx
    obtain ⟨z, hz, hx⟩ := hx
    split at hx
    · rename_i fields hu
      simp only [Option.bind_eq_some_iff, Option.map_eq_some_iff] at hx
      obtain ⟨ps, hps, l, hl, rfl⟩ := hx
      simp only [X.ev, Option.bind_eq_some_iff, Option.map_eq_some_iff] at hv
      obtain ⟨qs, hq, cs, hcs, rfl⟩ := hv
      obtain ⟨g1, g2⟩ := partsX_spec hT _ _ _ hl hq
      exact s_bldS ho hz hu hps g1 g2 hcs
    · rename_i hu
      simp only [Option.bind_eq_some_iff, Option.map_eq_some_iff] at hx
      obtain ⟨n, hn, l, hl, rfl⟩ := hx
      simp only [X.ev, Option.bind_eq_some_iff, Option.map_eq_some_iff] at hv
      obtain ⟨qs, hq, cs, hcs, rfl⟩ := hv
      obtain ⟨g1, g2⟩ := partsX_spec hT _ _ _ hl hq
      exact s_bldA ho hz hu hn g1 g2 hcs
    · cases hx
  | call c =>
    rw [ho] at hx
    obtain ⟨callee, args, ats⟩ := c
    cases callee with
    | builtin b =>
      cases b <;> simp only [opX] at hx <;> try (cases hx; done)
      · -- len
        split at hx
        · rename_i y t h1 h2
          have ha := toList_one h1
          have ht := toList_one h2
          split at hx
          · rename_i hu
            simp only [Option.map_eq_some_iff] at hx
            obtain ⟨a, hy, rfl⟩ := hx
            exact s_len (h := h) ho rfl ha ht hu (ev_u (hT _ _ hy) hv)
          · rename_i hu
            cases hx
            simp [X.ev] at hv; subst hv
            exact s_lena ho rfl ha ht hu
          · cases hx
        · cases hx
      · split at hx
        · rename_i y z h1
          have ha := toList_two h1
          simp only [Option.bind_eq_some_iff, Option.map_eq_some_iff] at hx
          obtain ⟨a, hy, c, hz, rfl⟩ := hx
          exact s_max ho rfl ha (ev_b (hT _ _ hy) (hT _ _ hz) hv)
        · cases hx
      · split at hx
        · rename_i y z h1
          have ha := toList_two h1
          simp only [Option.bind_eq_some_iff, Option.map_eq_some_iff] at hx
          obtain ⟨a, hy, c, hz, rfl⟩ := hx
          exact s_min ho rfl ha (ev_b (hT _ _ hy) (hT _ _ hz) hv)
        · cases hx
    | value f => simp [opX] at hx
    | invoke r m => simp [opX] at hx
  | _ => rw [ho] at hx; simp [opX] at hx

end
end Go.Lft
