/- Regions: what holds of the small text holds of the region. Plain lemmas; no statement is claimed here. -/
import Derived.Test.YtjhdedifmhkhbaaLi
namespace Go.Lft
open Go

def envOf (V : List Nat) (a : Act) : List Value := V.map fun t => a.tmps.getD t undef

section
variable {P : Program} {ops : Array Oper} {V : List Nat} {σ : List Ent} {a : Act} {h : Heap} {m : Nat}

structure Okay (ops : Array Oper) (V : List Nat) (a : Act) (h : Heap) (n : Ent) : Prop where
  full : n.full.ev (envOf V a) h = some (a.tmps.getD n.slot undef)
  bare : ∀ g x, n.bare = some (g, x) → (yielded ops a.tmps g.1 = some g.2 → x.ev (envOf V a) h = some (a.tmps.getD n.slot undef)) ∧ (yielded ops a.tmps g.1 ≠ some g.2 → a.tmps.getD n.slot undef = undef)

def Inv (ops : Array Oper) (V : List Nat) (σ : List Ent) (a : Act) (h : Heap) : Prop := ∀ n ∈ σ, Okay ops V a h n

theorem yielded_iff {j d : Nat} {b : Bool} (hd : dstOf ops j = some d) : yielded ops a.tmps j = some b ↔ a.tmps.getD d undef = .bool b := by
  unfold yielded
  unfold dstOf at hd
  rw [hd]
  simp only [Option.bind_some, Array.getD_eq_getD_getElem?]
  cases ht : a.tmps[d]? with
  | none => simp [undef]
  | some v => cases v <;> simp

theorem look_mem {t : Nat} {n : Ent} (hl : look σ t = some n) : n ∈ σ ∧ n.slot = t := by
  unfold look at hl
  exact ⟨List.mem_of_find?_eq_some hl, by simpa using List.find?_some hl⟩

theorem posFrom_spec {t : Nat} : ∀ (V : List Nat) (k i : Nat), posFrom t k V = some i → k ≤ i ∧ V[i - k]? = some t
  | [], k, i, h => by simp [posFrom] at h
  | x :: r, k, i, h => by
    simp only [posFrom] at h
    split at h
    · rename_i hx
      cases h
      simp at hx
      simp [hx]
    · obtain ⟨h1, h2⟩ := posFrom_spec r (k + 1) i h
      refine ⟨by omega, ?_⟩
      rw [show i - k = (i - (k + 1)) + 1 from by omega]
      simpa using h2

theorem pos_spec {t i : Nat} (h : pos V t = some i) : V[i]? = some t := by simpa using (posFrom_spec V 0 i h).2

theorem posFrom_none {t : Nat} : ∀ (V : List Nat) (k : Nat), posFrom t k V = none → t ∉ V
  | [], k, h => by simp
  | x :: r, k, h => by
    simp only [posFrom] at h
    split at h
    · cases h
    · rename_i hx
      have := posFrom_none r _ h
      simp at hx
      simp [this, Ne.symm hx]

theorem env_pos {t i : Nat} (h : pos V t = some i) : (envOf V a).getD i undef = a.tmps.getD t undef := by
  have := pos_spec h
  simp [envOf, this]

theorem okay_var {t i : Nat} (hq : pos V t = some i) : Okay ops V a h ⟨t, .var i, none⟩ := by
  refine ⟨?_, fun g x hb => by cases hb⟩
  show some ((envOf V a).getD i undef) = _
  rw [env_pos hq]

theorem gent_okay (hI : Inv ops V σ a h) {t : Nat} {n : Ent} (hg : gent V σ t = some n) : Okay ops V a h n ∧ n.slot = t := by
  unfold gent at hg
  split at hg
  · rename_i n' hl
    cases hg
    obtain ⟨h1, h2⟩ := look_mem hl
    exact ⟨hI _ h1, h2⟩
  · obtain ⟨i, hi, rfl⟩ := Option.map_eq_some_iff.1 hg
    exact ⟨okay_var hi, rfl⟩

theorem trans_sound (hI : Inv ops V σ a h) {ok : List (Nat × Bool)} (hok : ∀ g ∈ ok, yielded ops a.tmps g.1 = some g.2) (y : Operand) (z : X) (ht : trans V σ ok y = some z) :
    z.ev (envOf V a) h = some (a.eval y) := by
  cases y with
  | const v => simp [trans] at ht; subst ht; simp [X.ev, Act.eval]
  | func f => simp [trans] at ht; subst ht; simp [X.ev, Act.eval]
  | global g => simp [trans] at ht; subst ht; simp [X.ev, Act.eval]
  | tmp t =>
    simp only [trans] at ht
    split at ht
    · rename_i n hl
      obtain ⟨hm, hs⟩ := look_mem hl
      have hn := hI n hm
      split at ht
      · rename_i g x hb
        split at ht
        · rename_i hc
          have := (hn.bare g x hb).1 (hok g (by simpa using hc))
          rw [← Option.some.inj ht, this, hs]; rfl
        · cases ht; rw [hn.full, hs]; rfl
      · cases ht; rw [hn.full, hs]; rfl
    · obtain ⟨i, hi, rfl⟩ := Option.map_eq_some_iff.1 ht
      show some ((envOf V a).getD i undef) = _
      rw [env_pos hi]; rfl

theorem ite_full {y c : X} {w : Bool} {e : List Value} {v vd : Value} (hc : c.ev e h = some vd) (hv : (if w then X.ite c y (.lit undef) else X.ite c (.lit undef) y).ev e h = some v) :
    (vd = .bool w → y.ev e h = some v) ∧ (vd ≠ .bool w → v = undef) := by
  cases w <;> simp only [Bool.false_eq_true, if_false, if_true, X.ev, hc, Option.bind_some] at hv <;> split at hv <;> simp_all

theorem guardX_sound (hI : Inv ops V σ a h) : ∀ (f : Nat) (g : Nat × Bool) (x y : X) (v : Value), guardX ops V σ f g x = some y → y.ev (envOf V a) h = some v →
    (yielded ops a.tmps g.1 = some g.2 → x.ev (envOf V a) h = some v) ∧ (yielded ops a.tmps g.1 ≠ some g.2 → v = undef)
  | 0, _, _, _, _, hg, _ => by simp [guardX] at hg
  | f + 1, (j, w), x, y, v, hg, hv => by
    simp only [guardX, Option.bind_eq_some_iff] at hg
    obtain ⟨d, hd, n, hn, hg⟩ := hg
    obtain ⟨hok, hs⟩ := gent_okay hI hn
    have hy : ∀ b, yielded ops a.tmps j = some b ↔ a.tmps.getD d undef = .bool b := fun b => yielded_iff hd
    split at hg
    · cases hg
      have hf := hok.full
      rw [hs] at hf
      obtain ⟨h1, h2⟩ := ite_full hf hv
      exact ⟨fun h => h1 ((hy w).1 h), fun h => h2 (fun hc => h ((hy w).2 hc))⟩
    · rename_i g' c hb
      obtain ⟨h1, h2⟩ := guardX_sound hI f g' _ y v hg hv
      obtain ⟨b1, b2⟩ := hok.bare _ _ hb
      rw [hs] at b1 b2
      by_cases hg' : yielded ops a.tmps g'.1 = some g'.2
      · obtain ⟨k1, k2⟩ := ite_full (b1 hg') (h1 hg')
        exact ⟨fun h => k1 ((hy w).1 h), fun h => k2 (fun hc => h ((hy w).2 hc))⟩
      · have hu := b2 hg'
        refine ⟨fun h => ?_, fun _ => h2 hg'⟩
        have := (hy w).1 h
        rw [hu] at this; cases this

theorem wanted_iff {o : Oper} {j : Nat} {w : Bool} (hg : o.guard = some (j, w)) : Region.wanted o (yielded ops a.tmps) = true ↔ yielded ops a.tmps j = some w := by
  simp [Region.wanted, hg]

theorem gstat_run (hI : Inv ops V σ a h) {o : Oper} (hg : gstat ops V σ o.guard = .run) : Region.wanted o (yielded ops a.tmps) = true := by
  cases hgd : o.guard with
  | none => simp [Region.wanted, hgd]
  | some g =>
    obtain ⟨j, w⟩ := g
    rw [hgd] at hg
    simp only [gstat] at hg
    rw [wanted_iff hgd]
    split at hg
    · cases hg
    · rename_i n hn
      simp only [Option.bind_eq_some_iff] at hn
      obtain ⟨d, hd, hn⟩ := hn
      obtain ⟨hok, hs⟩ := gent_okay hI hn
      split at hg
      · rename_i b hb
        split at hg
        · rename_i hbw
          have hf := hok.full
          rw [hb] at hf
          simp only [X.ev, Option.some.injEq] at hf
          rw [yielded_iff hd, ← hs, ← hf]
          simpa using hbw
        · cases hg
      · split at hg <;> cases hg
      · cases hg

theorem gstat_skip (hI : Inv ops V σ a h) {o : Oper} (hg : gstat ops V σ o.guard = .skip) : Region.wanted o (yielded ops a.tmps) = false := by
  cases hgd : o.guard with
  | none => rw [hgd] at hg; simp [gstat] at hg
  | some g =>
    obtain ⟨j, w⟩ := g
    rw [hgd] at hg
    simp only [gstat] at hg
    have : ¬ (yielded ops a.tmps j = some w) → Region.wanted o (yielded ops a.tmps) = false := fun hn => by
      cases hw : Region.wanted o (yielded ops a.tmps) with
      | false => rfl
      | true => exact absurd ((wanted_iff hgd).1 hw) hn
    apply this
    split at hg
    · cases hg
    · rename_i n hn
      simp only [Option.bind_eq_some_iff] at hn
      obtain ⟨d, hd, hn⟩ := hn
      obtain ⟨hok, hs⟩ := gent_okay hI hn
      rw [yielded_iff hd, ← hs]
      have hf := hok.full
      split at hg
      · rename_i b hb
        rw [hb] at hf
        simp only [X.ev, Option.some.injEq] at hf
        split at hg
        · cases hg
        · rename_i hbw
          rw [← hf]; simpa using hbw
      · rename_i vs hb
        rw [hb] at hf
        simp only [X.ev, Option.some.injEq] at hf
        rw [← hf]; simp
      · cases hg

theorem gstat_opn {g : Nat × Bool} {gd : Option (Nat × Bool)} (hg : gstat ops V σ gd = .opn g) : gd = some g := by
  unfold gstat at hg
  split at hg
  · cases hg
  · split at hg
    · cases hg
    · split at hg
      · split at hg <;> cases hg
      · split at hg <;> cases hg
      · cases hg; rfl

theorem gidx_spec {t j : Nat} : ∀ (n : Nat), gidx ops t n = some j → dstOf ops j = some t
  | 0, h => by simp [gidx] at h
  | n + 1, h => by
    simp only [gidx] at h
    split at h
    · rename_i hd; cases h; simpa using hd
    · exact gidx_spec n h

theorem pureX_sound (hI : Inv ops V σ a h) {ok : List (Nat × Bool)} (hok : ∀ g ∈ ok, yielded ops a.tmps g.1 = some g.2) {o : Oper} {x : X} (hx : pureX P ops V σ ok o.op = some x) {v : Value} (hv : x.ev (envOf V a) h = some v)
    {w : World} (hw : kdOf o.op = 0 ∨ Ext h (hp w)) : (execOp a.eval o).run P w = .ok (.value v) w := by
  cases ho : o.op with
  | pick c p q =>
    rw [ho] at hx
    simp only [pureX, Option.bind_eq_some_iff] at hx
    obtain ⟨cx, hc, hx⟩ := hx
    have hcv := trans_sound hI hok _ _ hc
    have fin : ∀ t : Bool, a.eval c = .bool t → v = (if t then a.eval p else a.eval q) → (execOp a.eval o).run P w = .ok (.value v) w := by
      intro t h1 h2
      cases t <;> simp [execOp, ho, h1, asBool, h2]
    split at hx
    · rename_i t
      simp only [X.ev, Option.some.injEq] at hcv
      have := trans_sound hI hok _ _ hx
      rw [this] at hv
      refine fin t hcv.symm ?_
      cases t <;> simpa using hv.symm
    · split at hx
      · rename_i t
        simp only [Option.bind_eq_some_iff, Option.map_eq_some_iff] at hx
        obtain ⟨j, hj, ax, hax, bx, hbx, rfl⟩ := hx
        have hd := gidx_spec _ hj
        simp only [X.ev, hcv, Option.bind_some] at hv
        split at hv
        · rename_i hb
          have hyj : yielded ops a.tmps j = some true := (yielded_iff hd).2 hb
          have := trans_sound hI (ok := (j, true) :: ok) (fun g hg => by
            rcases List.mem_cons.1 hg with rfl | hg
            · exact hyj
            · exact hok g hg) _ _ hax
          rw [this] at hv
          exact fin true hb (by simpa using hv.symm)
        · rename_i hb
          have hyj : yielded ops a.tmps j = some false := (yielded_iff hd).2 hb
          have := trans_sound hI (ok := (j, false) :: ok) (fun g hg => by
            rcases List.mem_cons.1 hg with rfl | hg
            · exact hyj
            · exact hok g hg) _ _ hbx
          rw [this] at hv
          exact fin false hb (by simpa using hv.symm)
        · cases hv
      · cases hx
  | _ =>
    rw [ho] at hx
    simp only [pureX] at hx
    rw [← ho] at hx
    exact opX_sound (trans_sound hI hok) hx hv hw

/-! ### A temporary is filled -/
theorem getD_put_ne {d t : Nat} {v : Value} (hne : t ≠ d) : (a.put (some d) v).tmps.getD t undef = a.tmps.getD t undef := by
  simp [Act.put, Array.getElem?_setIfInBounds_ne (Ne.symm hne)]
theorem getD_put_same {d : Nat} {v : Value} (hd : d < a.tmps.size) : (a.put (some d) v).tmps.getD d undef = v := by
  simp [Act.put, hd]

theorem yielded_put {d j : Nat} {v : Value} (hne : dstOf ops j ≠ some d) : yielded ops (a.put (some d) v).tmps j = yielded ops a.tmps j := by
  unfold yielded
  unfold dstOf at hne
  cases ht : (ops[j]?).bind (·.dst) with
  | none => rfl
  | some t =>
    have : d ≠ t := fun e => hne (by rw [ht, e])
    simp [Act.put, Array.getElem?_setIfInBounds_ne this]

theorem env_put_none {d : Nat} {v : Value} (hp' : pos V d = none) : envOf V (a.put (some d) v) = envOf V a := by
  unfold envOf
  apply List.map_congr_left
  intro t ht
  have : t ≠ d := by rintro rfl; exact posFrom_none V 0 hp' ht
  exact getD_put_ne this

theorem env_put_some {d k : Nat} {v : Value} (hV : nodup V = true) (hd : d < a.tmps.size) (hp' : pos V d = some k) : envOf V (a.put (some d) v) = (envOf V a).set k v := by
  apply List.ext_getElem?
  intro i
  simp only [envOf, List.getElem?_map, List.getElem?_set]
  have hk := pos_spec hp'
  have hkl : k < V.length := by
    rcases Nat.lt_or_ge k V.length with h' | h'
    · exact h'
    · rw [List.getElem?_eq_none h'] at hk; cases hk
  have nd : ∀ (W : List Nat), nodup W = true → ∀ i j : Nat, ∀ x, W[i]? = some x → W[j]? = some x → i = j := by
    intro W
    induction W with
    | nil => intro _ i j x h1; simp at h1
    | cons y r ih =>
      intro hn i j x h1 h2
      simp only [nodup, Bool.and_eq_true, Bool.not_eq_true'] at hn
      cases i with
      | zero =>
        cases j with
        | zero => rfl
        | succ j =>
          simp at h1 h2
          subst h1
          have : y ∈ r := List.mem_of_getElem? h2
          simp [this] at hn
      | succ i =>
        cases j with
        | zero =>
          simp at h1 h2
          subst h2
          have : y ∈ r := List.mem_of_getElem? h1
          simp [this] at hn
        | succ j =>
          simp at h1 h2
          rw [ih hn.2 i j x h1 h2]
  by_cases hik : k = i
  · subst hik
    have hVk : V[k] = d := by have := hk; rw [List.getElem?_eq_getElem hkl] at this; exact Option.some.inj this
    have := getD_put_same (a := a) (v := v) hd
    simp only [Array.getD_eq_getD_getElem?] at this
    simp [hkl, hVk, this]
  · simp only [hik, if_false]
    cases hVi : V[i]? with
    | none => simp
    | some t =>
      have : t ≠ d := by
        rintro rfl
        exact hik (nd V hV k i t hk hVi)
      simp only [Option.map_some, Option.some.injEq]
      exact getD_put_ne this

theorem mem_dropSlot {d : Nat} {n : Ent} (hn : n ∈ dropSlot ops d σ) : n ∈ σ ∧ n.slot ≠ d ∧ ∀ g x, n.bare = some (g, x) → dstOf ops g.1 ≠ some d := by
  unfold dropSlot at hn
  rw [List.mem_filter] at hn
  obtain ⟨h1, h2⟩ := hn
  simp only [Bool.and_eq_true, Bool.not_eq_true', beq_eq_false_iff_ne] at h2
  refine ⟨h1, h2.1, fun g x hb => ?_⟩
  obtain ⟨j, w⟩ := g
  have := h2.2
  rw [hb] at this
  simpa using this

theorem okay_put_temp {d : Nat} {v : Value} {n : Ent} (hp' : pos V d = none) (hok : Okay ops V a h n) (hs : n.slot ≠ d) (hg : ∀ g x, n.bare = some (g, x) → dstOf ops g.1 ≠ some d) : Okay ops V (a.put (some d) v) h n := by
  refine ⟨?_, fun g x hb => ?_⟩
  · rw [env_put_none hp', getD_put_ne hs]; exact hok.full
  · rw [env_put_none hp', getD_put_ne hs, yielded_put (hg g x hb)]; exact hok.bare g x hb

theorem okay_put_var {d k : Nat} {v : Value} {n : Ent} (hV : nodup V = true) (hd : d < a.tmps.size) (hp' : pos V d = some k) (hok : Okay ops V a h n) (hs : n.slot ≠ d) (hg : ∀ g x, n.bare = some (g, x) → dstOf ops g.1 ≠ some d)
    (hh : n.all (fun x => !x.has k) = true) : Okay ops V (a.put (some d) v) h n := by
  simp only [Ent.all, Bool.and_eq_true, Bool.not_eq_true'] at hh
  refine ⟨?_, fun g x hb => ?_⟩
  · rw [env_put_some hV hd hp', getD_put_ne hs, (X.ev_set_all k v _ _ _ hh.1).1]; exact hok.full
  · rw [env_put_some hV hd hp', getD_put_ne hs, yielded_put (hg g x hb)]
    have hx : x.has k = false := by have := hh.2; rw [hb] at this; simpa using this
    rw [(X.ev_set_all k v _ _ _ hx).1]
    exact hok.bare g x hb

theorem inv_put_temp {d : Nat} {v : Value} (hp' : pos V d = none) (hI : Inv ops V σ a h) : Inv ops V (dropSlot ops d σ) (a.put (some d) v) h := fun n hn => by
  obtain ⟨h1, h2, h3⟩ := mem_dropSlot hn
  exact okay_put_temp hp' (hI n h1) h2 h3

theorem inv_put_var {d k : Nat} {v : Value} (hV : nodup V = true) (hd : d < a.tmps.size) (hp' : pos V d = some k) (hI : Inv ops V σ a h) : Inv ops V (dropVar k (dropSlot ops d σ)) (a.put (some d) v) h := fun n hn => by
  unfold dropVar at hn
  rw [List.mem_filter] at hn
  obtain ⟨h1, h2, h3⟩ := mem_dropSlot hn.1
  exact okay_put_var hV hd hp' (hI n h1) h2 h3 hn.2

theorem inv_mem {h' : Heap} (hI : Inv ops V σ a h) : Inv ops V (dropMem σ) a h' := fun n hn => by
  unfold dropMem at hn
  rw [List.mem_filter] at hn
  obtain ⟨h1, h2⟩ := hn
  simp only [Ent.all, Bool.and_eq_true, Bool.not_eq_true'] at h2
  have hok := hI n h1
  refine ⟨?_, fun g x hb => ?_⟩
  · rw [(X.ev_mem_all _ h h' _ h2.1).1]; exact hok.full
  · have hx : x.mem = false := by have := h2.2; rw [hb] at this; simpa using this
    rw [(X.ev_mem_all _ h h' _ hx).1]; exact hok.bare g x hb

theorem inv_ext {h' : Heap} (he : Ext h h') (hI : Inv ops V σ a h) : Inv ops V σ a h' := fun n hn => by
  have hok := hI n hn
  exact ⟨(X.ev_ext_all he _ _).1 _ hok.full, fun g x hb => ⟨fun hy => (X.ev_ext_all he _ _).1 _ ((hok.bare g x hb).1 hy), (hok.bare g x hb).2⟩⟩

theorem inv_cons {n : Ent} (hn : Okay ops V a h n) (hI : Inv ops V σ a h) : Inv ops V (n :: σ) a h := fun k hk => by
  rcases List.mem_cons.1 hk with rfl | hk
  · exact hn
  · exact hI k hk

theorem inv_settle {d : Nat} {b : Bool} (hb : a.tmps.getD d undef = .bool b) (hI : Inv ops V σ a h) : Inv ops V (settle ops d b σ) a h := by
  unfold settle
  refine inv_cons ⟨by simp [X.ev, hb], fun g x hg => by cases hg⟩ fun k hk => ?_
  obtain ⟨n, hn, rfl⟩ := List.mem_map.1 hk
  rw [List.mem_filter] at hn
  have hok := hI n hn.1
  split
  · rename_i j w x hbare
    obtain ⟨b1, b2⟩ := hok.bare _ _ hbare
    split
    · rename_i hd
      have hd' : dstOf ops j = some d := by simpa using hd
      have hy : ∀ c, yielded ops a.tmps j = some c ↔ b = c := fun c => by rw [yielded_iff hd', hb]; simp
      split
      · rename_i hw
        have hw' : w = b := by simpa using hw
        exact ⟨b1 ((hy w).2 hw'.symm), fun g y hg => by cases hg⟩
      · rename_i hw
        have hw' : w ≠ b := by simpa using hw
        refine ⟨?_, fun g y hg => by cases hg⟩
        rw [b2 (fun hc => hw' ((hy w).1 hc).symm)]
        simp [X.ev]
    · exact hok
  · exact hok

theorem base_sound (hI : Inv ops V σ a h) {d : Nat} {c : X} : ∀ (f j : Nat), base ops V σ f j = some (d, c) → c.ev (envOf V a) h = some (a.tmps.getD d undef)
  | 0, _, hb => by simp [base] at hb
  | f + 1, j, hb => by
    simp only [base, Option.bind_eq_some_iff] at hb
    obtain ⟨d', hd', n, hn, hb⟩ := hb
    obtain ⟨hok, hs⟩ := gent_okay hI hn
    split at hb
    · cases hb
      rw [hok.full, hs]
    · exact base_sound hI f _ hb

/-! ### Calls -/
theorem run_callFunc {f : Nat} {args : Array Value} {w : World} (hb : bodied P f = true) : (callFunc f args).run P w = .ok (.enter f args) w := by
  unfold bodied at hb
  cases hf : P.funcs[f]? with
  | none => simp [hf] at hb
  | some fn =>
    simp [hf] at hb
    obtain ⟨h1, h2⟩ := hb
    have h3 : ¬ (fn.body = none) := by cases hh : fn.body <;> simp_all
    simp [callFunc, hf, h1, h3]

theorem run_call {o : Oper} {c : Call} {x : Operand} {f : Nat} {caps : Array Value} {w : World} (ho : o.op = .call c) (hc : c.callee = .value x) (hx : a.eval x = .func (.func f) #[] caps) (hb : bodied P f = true) :
    (execOp a.eval o).run P w = .ok (.enter f (c.args.map a.eval ++ caps)) w := by
  simp only [execOp, ho, resolve, hc, hx, Deferred.ofValue, Sem.run_bind, Sem.run_pure, Result.andThen_ok, invoke, Array.empty_append, run_callFunc hb]

end
end Go.Lft
