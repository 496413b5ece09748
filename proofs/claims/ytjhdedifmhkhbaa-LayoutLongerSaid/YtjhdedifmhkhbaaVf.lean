/- Lending: a call that only reads what the caller owns. Plain lemmas; no statement is claimed here. -/
import Derived.Test.YtjhdedifmhkhbaaVe
namespace Go.Lft
open Go
set_option linter.unusedVariables false
set_option linter.unusedSimpArgs false

def lendg (c : Cfg) : Bool → Heap := fun w => match w with | true => c.g true | false => c.h
def Ld (H : List Blk) (a a' : A) : Prop := ∀ (c : Cfg) (v : Value), c.H = H → St c → Rel c.g c.σ a v → Rel (lendg c) (fun _ _ => none) a' v
def LdL (H : List Blk) : List A → List A → Prop
  | [], [] => True
  | a :: l, b :: r => Ld H a b ∧ LdL H l r
  | _, _ => False
theorem LdL.rel {H : List Blk} : ∀ {l r : List A}, LdL H l r → ∀ {c : Cfg} {vs : List Value}, c.H = H → St c → RL c.g c.σ l vs → RL (lendg c) (fun _ _ => none) r vs
  | [], [], _, c, vs, hH, hs, h => by rw [h.nil_inv]; exact RL.nil
  | a :: l, b :: r, hz, c, vs, hH, hs, h => by
    obtain ⟨x, xs, rfl, h1, h2⟩ := h.uncons
    exact RL.cons (hz.1 c x hH hs h1) (LdL.rel hz.2 hH hs h2)
  | [], _ :: _, hz, _, _, _, _, _ => hz.elim
  | _ :: _, [], hz, _, _, _, _, _ => hz.elim
theorem lendg_ext {c : Cfg} (hs : St c) (w : Bool) : Ext (c.g w) (lendg c w) := by
  cases w with
  | true => exact Ext.refl _
  | false => exact hs.ext false

theorem Ld.any {H : List Blk} {a : A} : Ld H a .any := fun _ v _ _ _ => .any v
theorem Ld.refl {H : List Blk} {a : A} (h : a.bd 0 = true) : Ld H a a := fun c v hH hs hr => hr.keep (lendg_ext hs) (fun i ver p hi => by omega) h
theorem LdL.refl {H : List Blk} : ∀ {l : List A}, A.bdL 0 l = true → LdL H l l
  | [], _ => trivial
  | a :: l, h => by simp [A.bdL] at h; exact ⟨Ld.refl h.1, LdL.refl h.2⟩
theorem Ld.agg {H : List Blk} {l r : List A} (h : LdL H l r) : Ld H (.agg l) (.agg r) := fun c v hH hs hr => by
  cases hr with
  | agg l vs hl hr => have := LdL.rel h hH hs ⟨hl, hr⟩; exact .agg r vs this.1 this.2
theorem Ld.fn {H : List Blk} {f : Nat} {l r : List A} (h : LdL H l r) : Ld H (.fn f l) (.fn f r) := fun c v hH hs hr => by
  cases hr with
  | fn f l vs hl hr => have := LdL.rel h hH hs ⟨hl, hr⟩; exact .fn f r vs this.1 this.2
theorem Ld.fs {H : List Blk} {w : Bool} {l : List A} (h : A.bdL 0 l = true) : Ld H (.fs w l) (.fs false l) := fun c v hH hs hr => by
  have hq := Rel.keep (lendg_ext hs) (fun i ver p hi => by omega : ∀ i ver p, i < 0 → c.σ i ver = some p → (fun _ _ => none : Nam) i ver = some p) hr h
  cases hq with
  | fs0 w a cp => exact .fs0 _ _ _
  | fs w l b o cp k f hc hl hr' =>
    refine .fs false l b o cp k f hc (fun i a ha => ?_) hr'
    obtain ⟨cs, h1, h2, h3⟩ := hl i a ha
    refine ⟨cs, h1, h2, ?_⟩
    cases w with
    | false => exact h3
    | true => exact rd_ext (hs.ext true) h3
theorem Ld.fp {H : List Blk} {w : Bool} {l : List A} (h : A.bdL 0 l = true) : Ld H (.fp w l) (.fp false l) := fun c v hH hs hr => by
  have hq := Rel.keep (lendg_ext hs) (fun i ver p hi => by omega : ∀ i ver p, i < 0 → c.σ i ver = some p → (fun _ _ => none : Nam) i ver = some p) hr h
  cases hq with
  | fp w l b o vs hd hr' =>
    refine .fp false l b o vs ?_ hr'
    cases w with
    | false => exact hd
    | true => exact rd_ext (hs.ext true) hd
theorem Ld.sl {H : List Blk} {i ver k o n : Nat} {l r els : List A} (hb : Lft.blkAt H i ver = some l) (hl : LdL H l r) (hf : flatA k els = some ((r.drop o).take (n * k))) (hn : els.length = n) (ho : o + n * k ≤ r.length) :
    Ld H (.sl i ver k o n) (.fs false els) := fun c v hH hs hr => by
  cases hr with
  | sl i ver k o n b s o' cp e1 e2 e3 =>
    subst hH
    obtain ⟨B, q1, q2, q3⟩ := blkAt_iff.1 hb
    subst q2; subst q3
    obtain ⟨b', s', vs, z, t, f1, f2, f3, f4, f5⟩ := (hs.blk i B q1).resolve_left (fun hx => by rw [e1] at hx; cases hx.1)
    rw [e1] at f1; cases f1
    exact rel_sl_fs (g := lendg c) (w := false) f3 (LdL.rel hl rfl hs f5) hf hn ho e2 fun hc => (e3 hc).1
theorem Ld.vs {H : List Blk} {i ver k n : Nat} {l r els : List A} (hb : Lft.blkAt H i ver = some l) (hl : LdL H l r) (hf : flatA k els = some (r.take (n * k))) (hn : els.length = n) (ho : n * k ≤ r.length) :
    Ld H (.vs i ver k n) (.fs false els) := fun c v hH hs hr => by
  cases hr with
  | vs0 i ver k e1 =>
    have : els = [] := List.length_eq_zero_iff.1 hn
    subst this; exact .fs0 false _ _
  | vs i ver k n b s o' cp e1 e2 e3 =>
    subst hH
    obtain ⟨B, q1, q2, q3⟩ := blkAt_iff.1 hb
    subst q2; subst q3
    obtain ⟨b', s', vs, z, t, f1, f2, f3, f4, f5⟩ := (hs.blk i B q1).resolve_left (fun hx => by rw [e1] at hx; cases hx.1)
    rw [e1] at f1; cases f1
    exact rel_sl_fs (g := lendg c) (w := false) (o := 0) f3 (LdL.rel hl rfl hs f5) (by simpa using hf) hn (by simpa using ho) e2 fun hc => (e3 hc).1
theorem Ld.lp {H : List Blk} {i ver o : Nat} {l r : List A} (hb : Lft.blkAt H i ver = some l) (hl : LdL H l r) (ho : o ≤ r.length) : Ld H (.lp i ver o) (.fp false (r.drop o)) := fun c v hH hs hr => by
  cases hr with
  | lp i ver o b s e1 =>
    subst hH
    obtain ⟨B, q1, q2, q3⟩ := blkAt_iff.1 hb
    subst q2; subst q3
    obtain ⟨b', s', vs, z, t, f1, f2, f3, f4, f5⟩ := (hs.blk i B q1).resolve_left (fun hx => by rw [e1] at hx; cases hx.1)
    rw [e1] at f1; cases f1
    exact rel_lp_fp (g := lendg c) (w := false) f3 (LdL.rel hl rfl hs f5) ho

mutual
def A.sh (n : Nat) : A → A
  | .any => .any
  | .v x => .v x
  | .agg l => .agg (A.shL n l)
  | .tup l => .tup (A.shL n l)
  | .fn f l => .fn f (A.shL n l)
  | .fs w l => .fs w (A.shL n l)
  | .fp w l => .fp w (A.shL n l)
  | .sl i ver k o m => .sl (n + i) ver k o m
  | .lp i ver o => .lp (n + i) ver o
  | .vs i ver k m => .vs (n + i) ver k m
def A.shL (n : Nat) : List A → List A
  | [] => []
  | a :: l => a.sh n :: A.shL n l
/-- Nothing that was lent. -/
def A.cl : A → Bool
  | .any => true
  | .v _ => true
  | .agg l => A.clL l
  | .tup l => A.clL l
  | .fn _ l => A.clL l
  | .fs w l => w && A.clL l
  | .fp w l => w && A.clL l
  | .sl _ _ _ _ _ => true
  | .lp _ _ _ => true
  | .vs _ _ _ _ => true
def A.clL : List A → Bool
  | [] => true
  | a :: l => a.cl && A.clL l
end
theorem shL_map {n : Nat} : ∀ (l : List A), A.shL n l = l.map (A.sh n)
  | [] => rfl
  | a :: l => by simp [A.shL, shL_map l]
theorem clL_iff : ∀ {l : List A}, A.clL l = true ↔ ∀ a ∈ l, a.cl = true
  | [] => by simp [A.clL]
  | a :: l => by simp [A.clL, clL_iff (l := l)]
mutual
theorem A.sh_bd {n : Nat} : ∀ (a : A), a.bd 0 = true → a.sh n = a
  | .any, _ => rfl
  | .v _, _ => rfl
  | .agg l, h => by simp only [A.sh]; rw [shL_bd l h]
  | .tup l, h => by simp only [A.sh]; rw [shL_bd l h]
  | .fn f l, h => by simp only [A.sh]; rw [shL_bd l h]
  | .fs w l, h => by simp only [A.sh]; rw [shL_bd l h]
  | .fp w l, h => by simp only [A.sh]; rw [shL_bd l h]
  | .sl i _ _ _ _, h => by simp [A.bd] at h
  | .lp i _ _, h => by simp [A.bd] at h
  | .vs i _ _ _, h => by simp [A.bd] at h
theorem shL_bd {n : Nat} : ∀ (l : List A), A.bdL 0 l = true → A.shL n l = l
  | [], _ => rfl
  | a :: l, h => by simp [A.bdL] at h; simp only [A.shL]; rw [A.sh_bd a h.1, shL_bd l h.2]
end
theorem A.sh_one {n : Nat} (a : A) : (a.sh n).one = a.one := by cases a <;> rfl
theorem A.sh_cells {n : Nat} {a : A} {cs : List A} (h : a.cells = some cs) : (a.sh n).cells = some (A.shL n cs) := by
  have key : ∀ {a : A} {cs : List A}, a.one = true → (if a.one = true then some [a] else none) = some cs → (if (a.sh n).one = true then some [a.sh n] else none) = some (A.shL n cs) := fun h1 h2 => by
    rw [if_pos h1] at h2; cases h2; rw [if_pos (by rw [A.sh_one]; exact h1)]; rfl
  cases a with
  | agg l =>
    simp only [A.cells] at h
    split at h
    · rename_i h1
      cases h
      simp only [A.sh, A.cells]
      rw [if_pos, ]
      rw [shL_map, List.all_map]
      rw [List.all_eq_true] at h1 ⊢
      exact fun a ha => by simp only [Function.comp]; rw [A.sh_one]; exact h1 a ha
    · cases h
  | any => simp [A.cells, A.one] at h
  | tup l => simp [A.cells, A.one] at h
  | v x =>
    simp only [A.cells] at h
    by_cases h1 : (A.v x).one = true
    · exact @key (.v x) cs h1 h
    · rw [if_neg h1] at h; cases h
  | fn f l => exact @key (.fn f l) cs rfl h
  | fs w l => exact @key (.fs w l) cs rfl h
  | fp w l => exact @key (.fp w l) cs rfl h
  | sl i ver k o m => exact @key (.sl i ver k o m) cs rfl h
  | lp i ver o => exact @key (.lp i ver o) cs rfl h
  | vs i ver k m => exact @key (.vs i ver k m) cs rfl h
theorem cl_cells {a : A} {cs : List A} (h : a.cl = true) (hc : a.cells = some cs) : A.clL cs = true := by
  cases a <;> simp only [A.cells] at hc <;> (split at hc <;> first | (cases hc; done) | (cases hc; first | exact h | (simp only [A.clL, Bool.and_true]; exact h)))

theorem Rel.sh {g g' : Bool → Heap} {σ σ' : Nam} {n : Nat} (hg : Ext (g true) (g' true)) (hs : ∀ i ver p, σ i ver = some p → σ' (n + i) ver = some p) {a : A} {v : Value} (h : Rel g σ a v) : a.cl = true → Rel g' σ' (a.sh n) v := by
  have get : ∀ {l : List A} {i : Nat} {b : A}, (A.shL n l)[i]? = some b → ∃ a, l[i]? = some a ∧ b = a.sh n := fun {l i b} hb => by
    rw [shL_map, List.getElem?_map, Option.map_eq_some_iff] at hb
    obtain ⟨a, h1, h2⟩ := hb; exact ⟨a, h1, h2.symm⟩
  have len : ∀ {l : List A}, (A.shL n l).length = l.length := fun {l} => by rw [shL_map]; simp
  induction h with
  | any x => exact fun _ => .any x
  | v x => exact fun _ => .v x
  | agg l vs hl hr ih => exact fun hb => .agg _ vs (len.trans hl) fun i b x h1 h2 => by obtain ⟨a, h3, rfl⟩ := get h1; exact ih i a x h3 h2 (clL_iff.1 hb a (List.mem_of_getElem? h3))
  | tup l vs hl hr ih => exact fun hb => .tup _ vs (len.trans hl) fun i b x h1 h2 => by obtain ⟨a, h3, rfl⟩ := get h1; exact ih i a x h3 h2 (clL_iff.1 hb a (List.mem_of_getElem? h3))
  | fn f l vs hl hr ih => exact fun hb => .fn f _ vs (len.trans hl) fun i b x h1 h2 => by obtain ⟨a, h3, rfl⟩ := get h1; exact ih i a x h3 h2 (clL_iff.1 hb a (List.mem_of_getElem? h3))
  | fs0 w a c => exact fun _ => .fs0 w a c
  | fs w l b o c k f hc hl hr ih =>
    intro hb
    simp only [A.cl, Bool.and_eq_true] at hb
    obtain ⟨rfl, hb⟩ := hb
    simp only [A.sh]
    have := Rel.fs (g := g') (σ := σ') true (A.shL n l) b o c k f (by rw [len]; exact hc) (fun i b' hb' => ?_) (fun i b' cs j q x h1 h2 h3 h4 => ?_)
    · rw [len] at this; exact this
    · obtain ⟨a, h3, rfl⟩ := get hb'
      obtain ⟨cs, h4, h5, h6⟩ := hl i a h3
      exact ⟨_, A.sh_cells h4, len.trans h5, rd_ext hg h6⟩
    · obtain ⟨a, h5, rfl⟩ := get h1
      obtain ⟨ca, h6, h7, h8⟩ := hl i a h5
      rw [A.sh_cells h6] at h2; cases h2
      obtain ⟨q', h9, rfl⟩ := get h3
      exact ih i a ca j q' x h5 h6 h9 h4 (clL_iff.1 (cl_cells (clL_iff.1 hb a (List.mem_of_getElem? h5)) h6) q' (List.mem_of_getElem? h9))
  | fp w l b o vs hd hr ih =>
    intro hb
    simp only [A.cl, Bool.and_eq_true] at hb
    obtain ⟨rfl, hb⟩ := hb
    exact .fp true _ b o vs (by rw [len]; exact rd_ext hg hd) fun i b x h1 h2 => by obtain ⟨a, h3, rfl⟩ := get h1; exact ih i a x h3 h2 (clL_iff.1 hb a (List.mem_of_getElem? h3))
  | sl i ver k o n' b s o' c hs' hn ho => exact fun _ => .sl _ ver k o n' b s o' c (hs _ _ _ hs') hn ho
  | lp i ver o b s hs' => exact fun _ => .lp _ ver o b s (hs _ _ _ hs')
  | vs0 i ver k hs' => exact fun _ => .vs0 _ ver k (hs _ _ _ hs')
  | vs i ver k n' b s o' c hs' hn ho => exact fun _ => .vs _ ver k n' b s o' c (hs _ _ _ hs') hn ho
theorem RL.sh {g g' : Bool → Heap} {σ σ' : Nam} {n : Nat} (hg : Ext (g true) (g' true)) (hs : ∀ i ver p, σ i ver = some p → σ' (n + i) ver = some p) {l : List A} {vs : List Value} (h : RL g σ l vs) (hc : A.clL l = true) : RL g' σ' (A.shL n l) vs :=
  ⟨by rw [shL_map]; simpa using h.1, fun i b x h1 h2 => by
    rw [shL_map, List.getElem?_map, Option.map_eq_some_iff] at h1
    obtain ⟨a, h3, rfl⟩ := h1
    exact (h.2 i a x h3 h2).sh hg hs (clL_iff.1 hc a (List.mem_of_getElem? h3))⟩

def Blk.sh (n : Nat) (B : Blk) : Blk := ⟨B.ver, A.shL n B.cells⟩

theorem VR.lend {P : Program} {kp kp' : Bool} {f : Nat} {args args' : List A} {H : List Blk} {R : A → List Blk → Prop} (hv : VR P kp f args' [] R) (hl : LdL H args args')
    (hcl : ∀ r G, R r G → r.cl = true ∧ ∀ B ∈ G, A.clL B.cells = true) : VR P kp' f args H fun r H' => ∃ r0 G, R r0 G ∧ r = r0.sh H.length ∧ H' = H ++ G.map (Blk.sh H.length) := by
  intro c vs hH hs ha
  subst hH
  let c0 : Cfg := ⟨lendg c, fun _ _ => none, [], c.h⟩
  have hs0 : St c0 := ⟨fun w => by cases w with
    | true => exact hs.ext true
    | false => exact Ext.refl _, fun i B h => by simp [c0] at h, fun i j B C b s t h => by simp [c0] at h, fun i ver p h => by simp [c0] at h⟩
  refine (hv c0 vs rfl hs0 (LdL.rel hl rfl hs ha)).mono ?_
  rintro v h' ⟨_, r0, d0, rfl, h2, h3, h4, h5⟩
  have hext : Ext c.h d0.h := fun b o hb => h3.frm b o hb fun i B s h1 => by simp [c0] at h1
  refine ⟨fun _ => hext, ?_⟩
  have hnew : ∀ b, c.h b ≠ none → c.g true b = none → d0.g true b = none := by
    intro b h6 h7
    cases hg : d0.g true b with
    | none => rfl
    | some o =>
      rcases h3.new b (by rw [hg]; simp) with h8 | h8 | ⟨i, B, s, _, h8, _⟩
      · exact absurd h7 h8
      · exact absurd h8 h6
      · simp [c0] at h8
  have hown : ∀ j B b s, d0.H[j]? = some B → d0.σ j B.ver = some (some (b, s)) → c.h b = none := by
    intro j B b s h6 h7
    rcases h3.own j B b s h6 h7 with h8 | ⟨i, C, t, h8, _⟩
    · exact h8
    · simp [c0] at h8
  obtain ⟨hc1, hc2⟩ := hcl r0 d0.H h2
  let gd : Bool → Heap := fun w => match w with | true => d0.g true | false => c.g false
  let σd : Nam := fun i ver => if i < c.H.length then c.σ i ver else d0.σ (i - c.H.length) ver
  have hσ1 : ∀ i ver, i < c.H.length → σd i ver = c.σ i ver := fun i ver hi => by simp only [σd]; rw [if_pos hi]
  have hσ2 : ∀ i ver, σd (c.H.length + i) ver = d0.σ i ver := fun i ver => by simp only [σd]; rw [if_neg (by omega)]; congr 1; omega
  have hlt : ∀ i ver p, c.σ i ver = some p → i < c.H.length := fun i ver p hp => by obtain ⟨B, h1, _⟩ := hs.nam i ver p hp; exact (List.getElem?_eq_some_iff.1 h1).1
  have hget : ∀ i B, (c.H ++ d0.H.map (Blk.sh c.H.length))[i]? = some B → (i < c.H.length ∧ c.H[i]? = some B) ∨ ∃ j C, i = c.H.length + j ∧ d0.H[j]? = some C ∧ B = C.sh c.H.length := by
    intro i B hi
    by_cases h1 : i < c.H.length
    · rw [List.getElem?_append_left h1] at hi; exact .inl ⟨h1, hi⟩
    · rw [List.getElem?_append_right (by omega), List.getElem?_map, Option.map_eq_some_iff] at hi
      obtain ⟨C, h6, h7⟩ := hi
      exact .inr ⟨i - c.H.length, C, by omega, h6, h7.symm⟩
  refine ⟨r0.sh c.H.length, ⟨gd, σd, c.H ++ d0.H.map (Blk.sh c.H.length), d0.h⟩, rfl, ⟨r0, d0.H, h2, rfl, rfl⟩, ?_, ?_, ?_⟩
  · refine ⟨rfl, h3.g1, fun b hb => ?_, fun b hb => ?_, fun b o hb _ => hext b o hb, fun i B b s h6 h7 => ?_, fun i ver p hi hp => (hσ1 i ver hi).trans hp, fun hn => by simp⟩
    · rcases h3.new b hb with h8 | h8 | ⟨i, B, s, _, h8, _⟩
      · exact .inl h8
      · exact .inr (.inl h8)
      · simp [c0] at h8
    · cases hh : c.h b with
      | none => exact absurd hh hb
      | some o => rw [hext b o hh]; simp
    · rcases hget i B h6 with ⟨h8, h9⟩ | ⟨j, C, rfl, h8, rfl⟩
      · simp only [hσ1 i _ h8] at h7
        exact .inr ⟨i, B, s, h9, h7, .inl rfl⟩
      · simp only [hσ2] at h7
        exact .inl (hown j C b s h8 h7)
  · refine ⟨fun w => ?_, fun i B h6 => ?_, fun i j B C b s t h6 h7 h8 h9 => ?_, fun i ver p hp => ?_⟩
    · cases w with
      | true => exact h4.ext true
      | false => exact fun b o hb => hext b o (hs.ext false b o hb)
    · rcases hget i B h6 with ⟨h8, h9⟩ | ⟨j, C, rfl, h8, rfl⟩
      · rcases hs.blk i B h9 with ⟨k1, k2⟩ | ⟨b, s, vs, z, t, k1, k2, k3, k4, k5⟩
        · exact .inl ⟨(hσ1 i _ h8).trans k1, k2⟩
        refine .inr ⟨b, s, vs, z, t, (hσ1 i _ h8).trans k1, fun w => ?_, hext b _ k3, k4, k5.mono (fun w => ?_) fun i ver p hp => (hσ1 i ver (hlt i ver p hp)).trans hp⟩
        · cases w with
          | true => exact hnew b (by rw [k3]; simp) (k2 true)
          | false => exact k2 false
        · cases w with
          | true => exact h3.g1
          | false => exact Ext.refl _
      · rcases h4.blk j C h8 with ⟨k1, k2⟩ | ⟨b, s, vs, z, t, k1, k2, k3, k4, k5⟩
        · exact .inl ⟨(hσ2 j _).trans k1, by simp only [Blk.sh, k2]; rfl⟩
        refine .inr ⟨b, s, vs, z, t, (hσ2 j _).trans k1, fun w => ?_, k3, k4, RL.sh (g := d0.g) (g' := gd) (Ext.refl (d0.g true)) (fun i ver p hp => (hσ2 i ver).trans hp) k5 (hc2 C (List.mem_of_getElem? h8))⟩
        cases w with
        | true => exact k2 true
        | false => exact hs.free (hown j C b s h8 k1) false
    · rcases hget i B h6 with ⟨e1, e2⟩ | ⟨i', B', rfl, e2, rfl⟩ <;> rcases hget j C h7 with ⟨e3, e4⟩ | ⟨j', C', rfl, e4, rfl⟩
      · simp only [hσ1 i _ e1] at h8; simp only [hσ1 j _ e3] at h9
        exact hs.inj i j B C b s t e2 e4 h8 h9
      · simp only [hσ1 i _ e1] at h8; simp only [hσ2] at h9
        obtain ⟨b', s', _, _, _, k1, _, k3, _⟩ := (hs.blk i B e2).resolve_left (fun hx => by rw [h8] at hx; cases hx.1)
        rw [h8] at k1; cases k1
        rw [hown j' C' b t e4 h9] at k3; cases k3
      · simp only [hσ2] at h8; simp only [hσ1 j _ e3] at h9
        obtain ⟨b', s', _, _, _, k1, _, k3, _⟩ := (hs.blk j C e4).resolve_left (fun hx => by rw [h9] at hx; cases hx.1)
        rw [h9] at k1; cases k1
        rw [hown i' B' b s e2 h8] at k3; cases k3
      · simp only [hσ2] at h8 h9
        have := h4.inj i' j' B' C' b s t e2 e4 h8 h9
        omega
    · by_cases hi : i < c.H.length
      · simp only [hσ1 i ver hi] at hp
        obtain ⟨B, h6, h7⟩ := hs.nam i ver p hp
        exact ⟨B, by simp only; rw [List.getElem?_append_left hi]; exact h6, h7⟩
      · obtain ⟨j, rfl⟩ : ∃ j, i = c.H.length + j := ⟨i - c.H.length, by omega⟩
        simp only [hσ2] at hp
        obtain ⟨B, h6, h7⟩ := h4.nam j ver p hp
        exact ⟨B.sh c.H.length, by simp only; rw [List.getElem?_append_right (by omega), List.getElem?_map, show c.H.length + j - c.H.length = j by omega, h6]; rfl, h7⟩
  · exact Rel.sh (g := d0.g) (g' := gd) (Ext.refl (d0.g true)) (fun i ver p hp => (hσ2 i ver).trans hp) h5 hc1

/-- A call that gives back no memory. -/
theorem VR.lend0 {P : Program} {kp kp' : Bool} {f : Nat} {args args' : List A} {H : List Blk} {R : A → Prop} (hv : VR P kp f args' [] fun r G => G = [] ∧ R r) (hl : LdL H args args')
    (hcl : ∀ r, R r → r.cl = true ∧ r.bd 0 = true) : VR P kp' f args H fun r H' => H' = H ∧ R r :=
  (hv.lend hl fun r G h => by obtain ⟨rfl, h⟩ := h; exact ⟨(hcl r h).1, fun B hB => by simp at hB⟩).mono fun r H' ⟨r0, G, ⟨h1, h2⟩, h3, h4⟩ => by
    subst h1
    rw [A.sh_bd _ (hcl r0 h2).2] at h3
    subst h3
    exact ⟨by simpa using h4, h2⟩
end Go.Lft
