/- The operations that only compute or read: what the model does at each, out of its expression. Plain lemmas; no statement is claimed here. -/
import Derived.Test.YtjhdedifmhkhbaaLd
namespace Go.Lft
open Go

section
variable {P : Program} {tr : Tr} {ρ : Operand → Value} {e : List Value} {h : Heap} {o : Oper} {v : Value} {w : World}

theorem ev_u {k : K1} {a : X} {y : Value} (hy : a.ev e h = some y) (hv : (X.u k a).ev e h = some v) : k1v k y h = some v := by simpa [X.ev, hy] using hv
theorem ev_b {k : K2} {a c : X} {y z : Value} (hy : a.ev e h = some y) (hz : c.ev e h = some z) (hv : (X.b k a c).ev e h = some v) : k2v k y z = some v := by simpa [X.ev, hy, hz] using hv

theorem i_nilc {x : Value} (hk : k1v .nilc x h = some v) : (∃ a, x = .pointer (some a) ∧ v = .pointer (some a)) ∨ ∃ f p q, x = .func (.func f) p q ∧ v = .func (.func f) p q := by
  cases x with
  | pointer a => cases a <;> simp [k1v] at hk; exact .inl ⟨_, rfl, hk.symm⟩
  | func fn p q => cases fn <;> simp [k1v] at hk; exact .inr ⟨_, _, _, rfl, hk.symm⟩
  | _ => simp [k1v] at hk
theorem i_un {op : UnOp} {x : Value} (hk : k1v (.un op) x h = some v) : pureV (Op.unary op x) = some v := by cases x <;> simpa [k1v] using hk
theorem i_len {x : Value} (hk : k1v .len x h = some v) : ∃ a n c, x = .slice a n c ∧ v = .int .i64 n := by
  cases x with
  | slice a n c => simp [k1v] at hk; exact ⟨_, _, _, rfl, hk.symm⟩
  | _ => simp [k1v] at hk
theorem i_conv {k : IntKind} {x : Value} (hk : k1v (.conv k) x h = some v) : ∃ k' n, x = .int k' n ∧ v = .int k (k.wrap n) := by
  cases x with
  | int k' n => simp [k1v] at hk; exact ⟨_, _, rfl, hk.symm⟩
  | _ => simp [k1v] at hk
theorem i_fld {off : Nat} {x : Value} (hk : k1v (.fld off) x h = some v) : ∃ b o, x = .pointer (some ⟨b, o, none⟩) ∧ v = .pointer (some ⟨b, o + off, none⟩) := by
  cases x with
  | pointer a =>
    rcases a with _ | ⟨b, o, _ | s⟩ <;> simp [k1v] at hk
    exact ⟨_, _, rfl, hk.symm⟩
  | _ => simp [k1v] at hk
theorem i_ld1 {x : Value} (hk : k1v .ld1 x h = some v) : ∃ b o, x = .pointer (some ⟨b, o, none⟩) ∧ rd h b o 1 = some [v] := by
  cases x with
  | pointer a =>
    rcases a with _ | ⟨b, o, _ | s⟩ <;> simp only [k1v] at hk <;> try (cases hk; done)
    refine ⟨_, _, rfl, ?_⟩
    split at hk
    · rename_i hr; cases hk; exact hr
    · cases hk
  | _ => simp [k1v] at hk
theorem i_lda {n : Nat} {x : Value} (hk : k1v (.lda n) x h = some v) : ∃ b o vs, x = .pointer (some ⟨b, o, none⟩) ∧ rd h b o n = some vs ∧ v = .agg vs.toArray := by
  cases x with
  | pointer a =>
    rcases a with _ | ⟨b, o, _ | s⟩ <;> simp only [k1v] at hk <;> try (cases hk; done)
    split at hk
    · rename_i vs hr; cases hk; exact ⟨_, _, vs, rfl, hr, rfl⟩
    · cases hk
  | _ => simp [k1v] at hk
theorem i_prt {off : Nat} {x : Value} (hk : k1v (.prt off) x h = some v) : ∃ cs, x = .agg cs ∧ cs[off]? = some v := by
  cases x with
  | agg cs => exact ⟨cs, rfl, by simpa [k1v] using hk⟩
  | _ => simp [k1v] at hk
theorem i_prta {off n : Nat} {x : Value} (hk : k1v (.prta off n) x h = some v) : ∃ cs, x = .agg cs ∧ v = .agg (cs.extract off (off + n)) := by
  cases x with
  | agg cs => exact ⟨cs, rfl, by simp [k1v] at hk; exact hk.symm⟩
  | _ => simp [k1v] at hk
theorem i_ext {i : Nat} {x : Value} (hk : k1v (.ext i) x h = some v) : ∃ vs, x = .tuple vs ∧ vs[i]? = some v := by
  cases x with
  | tuple vs => exact ⟨vs, rfl, by simpa [k1v] using hk⟩
  | _ => simp [k1v] at hk
theorem i_bin {op : BinOp} {x y : Value} (hk : k2v (.bin op) x y = some v) : ∃ k a k' b, x = .int k a ∧ y = .int k' b ∧ pureV (binOp op 0 (.int k a) (.int k' b)) = some v := by
  cases x with
  | int k a =>
    cases y with
    | int k' b => exact ⟨_, _, _, _, rfl, rfl, by simpa [k2v] using hk⟩
    | _ => simp [k2v] at hk
  | _ => simp [k2v] at hk
theorem i_eqb {neg : Bool} {x y : Value} (hk : k2v (.eqb neg) x y = some v) : ∃ a b, x = .bool a ∧ y = .bool b ∧ v = .bool ((a == b) != neg) := by
  cases x with
  | bool a =>
    cases y with
    | bool b => exact ⟨_, _, rfl, rfl, by simp [k2v] at hk; simp [← hk]⟩
    | _ => simp [k2v] at hk
  | _ => simp [k2v] at hk
theorem i_eqp {neg : Bool} {x y : Value} (hk : k2v (.eqp neg) x y = some v) : ∃ a b, x = .pointer a ∧ y = .pointer b := by
  cases x with
  | pointer a =>
    cases y with
    | pointer b => exact ⟨_, _, rfl, rfl⟩
    | _ => cases a <;> simp [k2v] at hk
  | _ => simp [k2v] at hk
theorem i_eqs {neg : Bool} {x y : Value} (hk : k2v (.eqs neg) x y = some v) : ∃ a l c b m d r, x = .slice a l c ∧ y = .slice b m d ∧ v = .bool (r != neg) ∧ ((a = none ∧ r = b.isNone) ∨ (a ≠ none ∧ b = none ∧ r = false)) := by
  cases x with
  | slice a l c =>
    cases y with
    | slice b m d =>
      cases a with
      | none => simp [k2v] at hk; exact ⟨_, _, _, _, _, _, b.isNone, rfl, rfl, by simp [← hk], .inl ⟨rfl, rfl⟩⟩
      | some a =>
        cases b with
        | none => simp [k2v] at hk; exact ⟨_, _, _, _, _, _, false, rfl, rfl, by simp [← hk], .inr ⟨by simp, rfl, rfl⟩⟩
        | some b => simp [k2v] at hk
    | _ => cases a <;> simp [k2v] at hk
  | _ => simp [k2v] at hk
theorem i_eqf {neg : Bool} {x y : Value} (hk : k2v (.eqf neg) x y = some v) : (x = .nilFunc ∧ y = .nilFunc ∧ v = .bool (!neg)) ∨ (∃ f a b, x = .func (.func f) a b ∧ y = .nilFunc ∧ v = .bool neg) := by
  cases x with
  | nilFunc => cases y with
    | nilFunc => simp [k2v] at hk; exact .inl ⟨rfl, rfl, hk.symm⟩
    | _ => simp [k2v] at hk
  | func f a b => cases f with
    | func f => cases y with
      | nilFunc => simp [k2v] at hk; exact .inr ⟨f, a, b, rfl, rfl, hk.symm⟩
      | _ => simp [k2v] at hk
    | _ => simp [k2v] at hk
  | _ => simp [k2v] at hk
theorem i_eqi {n : Nat} {neg : Bool} {x y : Value} (hk : k2v (.eqi n neg) x y = some v) : ∃ cs ds b, x = .agg cs ∧ y = .agg ds ∧ cs.size = n ∧ eqInts cs.toList ds.toList = some b ∧ v = .bool (b != neg) := by
  cases x with
  | agg cs => cases y with
    | agg ds =>
      simp only [k2v] at hk
      split at hk
      · rename_i hn
        obtain ⟨b, h1, h2⟩ := Option.map_eq_some_iff.1 hk
        exact ⟨cs, ds, b, rfl, rfl, hn, h1, h2.symm⟩
      · cases hk
    | _ => simp [k2v] at hk
  | _ => simp [k2v] at hk
theorem i_ixs {x y : Value} (hk : k2v .ixs x y = some v) : ∃ s k i b, x = .string s ∧ y = .int k i ∧ 0 ≤ i ∧ s[i.toNat]? = some b ∧ v = .int .u8 b.toNat := by
  cases x with
  | string s =>
    cases y with
    | int k i =>
      simp only [k2v] at hk
      split at hk
      · rename_i h0
        obtain ⟨b, hb, rfl⟩ := Option.map_eq_some_iff.1 hk
        exact ⟨_, _, _, b, rfl, rfl, h0, hb, rfl⟩
      · cases hk
    | _ => simp [k2v] at hk
  | _ => simp [k2v] at hk
theorem i_idx {n : Nat} {x y : Value} (hk : k2v (.idx n) x y = some v) : ∃ b o len cap k i, x = .slice (some ⟨b, o, none⟩) len cap ∧ y = .int k i ∧ (0 ≤ i ∧ i < len) ∧ v = .pointer (some ⟨b, o + i.toNat * n, none⟩) := by
  cases x with
  | slice a len cap =>
    cases y with
    | int k i =>
      rcases a with _ | ⟨b, o, _ | s⟩ <;> simp only [k2v] at hk <;> try (cases hk; done)
      split at hk
      · rename_i hr; cases hk; exact ⟨_, _, _, _, _, _, rfl, rfl, hr, rfl⟩
      · cases hk
    | _ => simp [k2v] at hk
  | _ => simp [k2v] at hk
theorem i_idxa {n l : Nat} {x y : Value} (hk : k2v (.idxa l n) x y = some v) : ∃ b o k i, x = .pointer (some ⟨b, o, none⟩) ∧ y = .int k i ∧ (0 ≤ i ∧ i < l) ∧ v = .pointer (some ⟨b, o + i.toNat * n, none⟩) := by
  cases x with
  | pointer a =>
    cases y with
    | int k i =>
      rcases a with _ | ⟨b, o, _ | s⟩ <;> simp only [k2v] at hk <;> try (cases hk; done)
      split at hk
      · rename_i hr; cases hk; exact ⟨_, _, _, _, rfl, rfl, hr, rfl⟩
      · cases hk
    | _ => simp [k2v] at hk
  | _ => simp [k2v] at hk
theorem i_ixv {n l : Nat} {g : Bool} {x y : Value} (hk : k2v (.ixv l n g) x y = some v) : ∃ cs k i, x = .agg cs ∧ y = .int k i ∧ (0 ≤ i ∧ i < l) ∧ (if g then some (.agg (cs.extract (i.toNat * n) (i.toNat * n + n))) else cs[i.toNat * n]?) = some v := by
  cases x with
  | agg cs =>
    cases y with
    | int k i =>
      simp only [k2v] at hk
      split at hk
      · rename_i hr; exact ⟨_, _, _, rfl, rfl, hr, hk⟩
      · cases hk
    | _ => simp [k2v] at hk
  | _ => simp [k2v] at hk
theorem i_mx {x y : Value} (hk : k2v .mx x y = some v) : ∃ k a b, x = .int k a ∧ y = .int k b ∧ v = .int k (if b > a then b else a) := by
  cases x with
  | int k a =>
    cases y with
    | int k' b =>
      simp only [k2v] at hk
      split at hk
      · rename_i hr; subst hr; cases hk; exact ⟨_, _, _, rfl, rfl, rfl⟩
      · cases hk
    | _ => simp [k2v] at hk
  | _ => simp [k2v] at hk
theorem i_mn {x y : Value} (hk : k2v .mn x y = some v) : ∃ k a b, x = .int k a ∧ y = .int k b ∧ v = .int k (if b < a then b else a) := by
  cases x with
  | int k a =>
    cases y with
    | int k' b =>
      simp only [k2v] at hk
      split at hk
      · rename_i hr; subst hr; cases hk; exact ⟨_, _, _, rfl, rfl, rfl⟩
      · cases hk
    | _ => simp [k2v] at hk
  | _ => simp [k2v] at hk

theorem s_nilc {x : Operand} (ho : o.op = .nilCheck x) (hk : k1v .nilc (ρ x) h = some v) : (execOp ρ o).run P w = .ok (.value v) w := by
  rcases i_nilc hk with ⟨a, h1, rfl⟩ | ⟨f, p, q, h1, rfl⟩ <;> simp [execOp, ho, h1]

theorem s_bin {op : BinOp} {t t' : TypeId} {x y : Operand} (ho : o.op = .binOp op t x y t') (hk : k2v (.bin op) (ρ x) (ρ y) = some v) : (execOp ρ o).run P w = .ok (.value v) w := by
  obtain ⟨k, a, k', b, h1, h2, hk⟩ := i_bin hk
  have := pureV_run hk P w
  rw [← binOp_int op t] at this
  simp only [execOp, ho, h1, h2, Sem.run_bind, eqGuard_int, Result.andThen_ok, this, Sem.run_pure]

theorem s_eqb {op : BinOp} {t t' : TypeId} {x y : Operand} {neg : Bool} (hop : op = if neg then .neq else .eql) (hu : P.underlying t = some .bool) (ho : o.op = .binOp op t x y t') (hk : k2v (.eqb neg) (ρ x) (ρ y) = some v) : (execOp ρ o).run P w = .ok (.value v) w := by
  obtain ⟨a, b, h1, h2, rfl⟩ := i_eqb hk
  subst hop
  cases neg
  · simp only [execOp, ho, h1, h2, Sem.run_bind, Result.andThen_ok, eqGuard_bool, Bool.false_eq_true, if_false, run_eql_bool w t a b hu, Sem.run_pure]
    simp
  · simp only [execOp, ho, h1, h2, Sem.run_bind, Result.andThen_ok, eqGuard_bool, if_true, run_neq_bool w t a b hu, Sem.run_pure]
    simp

theorem s_eqp {op : BinOp} {t t' d : TypeId} {x y : Operand} {neg : Bool} (hop : op = if neg then .neq else .eql) (hu : P.underlying t = some (.pointer d)) (ho : o.op = .binOp op t x y t') (hk : k2v (.eqp neg) (ρ x) (ρ y) = some v) : (execOp ρ o).run P w = .ok (.value v) w := by
  obtain ⟨a, b, h1, h2⟩ := i_eqp hk
  have := run_eqp hop hu hk w
  rw [h1, h2] at this
  simp only [execOp, ho, h1, h2, Sem.run_bind, Result.andThen_ok, eqGuard_ptr, this, Sem.run_pure]

theorem s_eqs {op : BinOp} {t t' d : TypeId} {x y : Operand} {neg : Bool} (hop : op = if neg then .neq else .eql) (hu : P.underlying t = some (.slice d)) (ho : o.op = .binOp op t x y t') (hk : k2v (.eqs neg) (ρ x) (ρ y) = some v) : (execOp ρ o).run P w = .ok (.value v) w := by
  obtain ⟨a, l, c, b, m, d', r, h1, h2, rfl, hr⟩ := i_eqs hk
  have key0 : ∀ n : Nat, (Op.equalIn (n + 1) t (.slice a l c) (.slice b m d')).run P w = .ok r w := by
    intro n
    rcases hr with ⟨rfl, rfl⟩ | ⟨hne, rfl, rfl⟩
    · simp [Op.equalIn, run_und hu]
    · cases a with
      | none => exact absurd rfl hne
      | some a => simp [Op.equalIn, run_und hu]
  have key := key0 9999
  have hg : ∀ op : BinOp, (eqGuard op t x y (.slice a l c) (.slice b m d')).run P w = .ok () w := by intro op; unfold eqGuard; cases op <;> rfl
  subst hop
  cases neg
  · simp only [execOp, ho, h1, h2, Sem.run_bind, Result.andThen_ok, hg, Bool.false_eq_true, if_false, binOp, Op.equal, Op.maxDepth, key, Sem.run_pure]
    simp
  · simp only [execOp, ho, h1, h2, Sem.run_bind, Result.andThen_ok, hg, if_true, binOp, Op.equal, Op.maxDepth, key, Sem.run_pure]
    simp

theorem s_eqf {op : BinOp} {t t' : TypeId} {x y : Operand} {neg : Bool} {u : Bool} {p q : Array TypeId} (hop : op = if neg then .neq else .eql) (hu : P.underlying t = some (.func p q u)) (ho : o.op = .binOp op t x y t') (hk : k2v (.eqf neg) (ρ x) (ρ y) = some v) : (execOp ρ o).run P w = .ok (.value v) w := by
  have key := i_eqf hk
  have k0 : ∀ n : Nat, (Op.equalIn (n + 1) t .nilFunc .nilFunc).run P w = .ok true w := by intro n; simp [Op.equalIn, run_und hu]
  have k1 : ∀ (n : Nat) f a b, (Op.equalIn (n + 1) t (.func (.func f) a b) .nilFunc).run P w = .ok false w := by intro n f a b; simp [Op.equalIn, run_und hu]
  have key0 := k0 9999
  have key1 := k1 9999
  subst hop
  rcases key with ⟨h1, h2, rfl⟩ | ⟨f, a, b, h1, h2, rfl⟩
  · cases neg <;> simp [execOp, ho, h1, h2, eqGuard, binOp, Op.equal, Op.maxDepth, key0]
  · cases neg <;> simp [execOp, ho, h1, h2, eqGuard, binOp, Op.equal, Op.maxDepth, key1]

theorem run_eqInts {w : World} (n : Nat) : ∀ (fs : List Field) (i : Nat) (xs ys : Array Value) (cs ds : List Value) (b : Bool), intsF P i fs = true → xs.toList.drop i = cs → ys.toList.drop i = ds → eqInts cs ds = some b → fs.length = cs.length →
    (Op.eqFields (n + 1) xs ys fs).run P w = .ok b w
  | [], i, xs, ys, cs, ds, b, _, _, _, h4, h5 => by
    have : cs = [] := by cases cs <;> simp at h5 ⊢
    subst this
    cases ds with
    | nil => cases h4; rfl
    | cons d r => simp [eqInts] at h4
  | f :: r, i, xs, ys, cs, ds, b, h1, h2, h3, h4, h5 => by
    simp only [intsF, Bool.and_eq_true, decide_eq_true_eq, beq_iff_eq] at h1
    obtain ⟨⟨⟨⟨h1, h6⟩, h7⟩, h8⟩, h9⟩ := h1
    cases cs with
    | nil => simp at h5
    | cons c cs =>
      cases ds with
      | nil => cases c <;> simp [eqInts] at h4
      | cons d ds =>
        obtain ⟨k, a, k', a', rfl, rfl, hkk, t, ht, rfl⟩ : ∃ k a k' a', c = .int k a ∧ d = .int k' a' ∧ k = k' ∧ ∃ t, eqInts cs ds = some t ∧ b = ((a == a') && t) := by
          cases c <;> cases d <;> simp only [eqInts] at h4 <;> try (cases h4; done)
          split at h4
          · rename_i hkk
            obtain ⟨t, ht, h4⟩ := Option.map_eq_some_iff.1 h4
            exact ⟨_, _, _, _, rfl, rfl, hkk, t, ht, h4.symm⟩
          · cases h4
        subst hkk
        have hx : xs[f.offset]? = some (.int k a) := by
          rw [h6, ← Array.getElem?_toList]; have := congrArg (·[0]?) h2; simpa using this
        have hy : ys[f.offset]? = some (.int k a') := by
          rw [h6, ← Array.getElem?_toList]; have := congrArg (·[0]?) h3; simpa using this
        have hg : aggT P f.type = some false := by
          cases hag : aggT P f.type with
          | none => rw [hag] at h8; cases h8
          | some g => cases g with
            | true => rw [hag] at h8; cases h8
            | false => rfl
        obtain ⟨kk, hu⟩ : ∃ kk, P.underlying f.type = some (.int kk) := by
          cases hun : P.underlying f.type with
          | none => rw [hun] at h7; cases h7
          | some d => cases d <;> rw [hun] at h7 <;> first | exact ⟨_, rfl⟩ | cases h7
        have hpx : (part f.type xs f.offset).run P w = .ok (.int k a) w := by simp [part, run_aggT hg, hx]
        have hpy : (part f.type ys f.offset).run P w = .ok (.int k a') w := by simp [part, run_aggT hg, hy]
        have he := run_equalIn_int (P := P) w n f.type k kk a a' hu
        have hd2 : xs.toList.drop (i + 1) = cs := by rw [← List.tail_drop, h2]; rfl
        have hd3 : ys.toList.drop (i + 1) = ds := by rw [← List.tail_drop, h3]; rfl
        have ih := run_eqInts (w := w) n r (i + 1) xs ys cs ds t h9 hd2 hd3 ht (by simpa using h5)
        simp only [Op.eqFields, ne_eq, h1, not_false_eq_true, if_true, Sem.run_bind, hpx, hpy, Result.andThen_ok, he]
        cases hab : (a == a') with
        | true => simpa using ih
        | false => simp

theorem s_eqi {op : BinOp} {t t' : TypeId} {x y : Operand} {neg : Bool} {fields : Array Field} (hop : op = if neg then .neq else .eql) (hu : P.underlying t = some (.struct fields)) (hi : intsF P 0 fields.toList = true) (hq : eqOk P t = true) (ho : o.op = .binOp op t x y t') {cs ds : Array Value} (hx : ρ x = .agg cs) (hy : ρ y = .agg ds) (hl : cs.size = fields.size)
    {b : Bool} (hk : eqInts cs.toList ds.toList = some b) : (execOp ρ o).run P w = .ok (.value (.bool (b != neg))) w := by
  simp only [eqOk, Bool.and_eq_true, Bool.not_eq_true'] at hq
  have hf : P.fieldsOf t = fields := by simp [Program.fieldsOf, hu]
  have h1 := run_equalIn_struct (P := P) w 9999 t cs ds (by rw [hf]; exact hu) hq.1
  rw [hf, run_eqInts 9998 fields.toList 0 cs ds cs.toList ds.toList b hi rfl rfl hk (by simpa using hl.symm)] at h1
  have hg := run_eqGuard_agg (P := P) w op t x y cs ds hq.2
  subst hop
  cases neg
  · simp only [Bool.false_eq_true, if_false] at hg ho
    simp [execOp, ho, hx, hy, hg, run_eql_struct, h1]
  · simp only [if_true] at hg ho
    simp [execOp, ho, hx, hy, hg, run_neq_struct, h1]

theorem s_ixs {t : TypeId} {x i : Operand} (ho : o.op = .index t x i) (hu : P.underlying t = some .string) (hk : k2v .ixs (ρ x) (ρ i) = some v) : (execOp ρ o).run P w = .ok (.value v) w := by
  obtain ⟨s, k, i', b, h1, h2, h0, hb, rfl⟩ := i_ixs hk
  simp [execOp, ho, Instr.index, asIntOf, h1, h2, run_und hu, h0, hb]

theorem s_un {op : UnOp} {t : TypeId} {x : Operand} (ho : o.op = .unOp op t x) (hk : k1v (.un op) (ρ x) h = some v) : (execOp ρ o).run P w = .ok (.value v) w := by
  simp [execOp, ho, pureV_run (i_un hk) P w]

theorem s_conv {src dst : TypeId} {k k' : IntKind} {x : Operand} (ho : o.op = .convert src dst x) (hs : P.underlying src = some (.int k')) (hd : P.underlying dst = some (.int k)) (hk : k1v (.conv k) (ρ x) h = some v) : (execOp ρ o).run P w = .ok (.value v) w := by
  obtain ⟨k', n, h2, rfl⟩ := i_conv hk
  simp [execOp, ho, convert, run_und hs, run_und hd, h2, Conv.intToInt]

theorem s_fld {s : TypeId} {x : Operand} {f n : Nat} {fields : Array Field} {fd : Field} (ho : o.op = .fieldAddr s x f) (hu : P.underlying s = some (.struct fields)) (hf : fields[f]? = some fd) (hn : sizeT P fd.type = some n) (h0 : n ≠ 0)
    (hk : k1v (.fld fd.offset) (ρ x) h = some v) : (execOp ρ o).run P w = .ok (.value v) w := by
  obtain ⟨b, o, h2, rfl⟩ := i_fld hk
  simp [execOp, ho, Instr.fieldAt, run_und hu, hf, h2, Instr.sureAddr, fieldPlace, run_sizeT hn, h0, add_addr]

theorem s_idx {t el : TypeId} {x i : Operand} {n : Nat} (ho : o.op = .indexAddr t x i) (hu : P.underlying t = some (.slice el)) (hn : sizeT P el = some n) (hk : k2v (.idx n) (ρ x) (ρ i) = some v) : (execOp ρ o).run P w = .ok (.value v) w := by
  obtain ⟨b, o, len, cap, k, i, h1, h2, hr, rfl⟩ := i_idx hk
  simp [execOp, ho, Instr.indexAt, asIntOf, h1, h2, run_und hu, run_sizeT hn, hr, add_addr]

theorem s_idxa {t el : TypeId} {x i : Operand} {n len : Nat} (ho : o.op = .indexAddr t x i) (hu : P.underlying t = some (.array len el)) (hn : sizeT P el = some n) (hk : k2v (.idxa len n) (ρ x) (ρ i) = some v) : (execOp ρ o).run P w = .ok (.value v) w := by
  obtain ⟨b, o, k, i, h1, h2, hr, rfl⟩ := i_idxa hk
  simp [execOp, ho, Instr.indexAt, asIntOf, h1, h2, run_und hu, run_sizeT hn, hr, add_addr, Instr.sureAddr]

theorem s_ld1 {t : TypeId} {x : Operand} (ho : o.op = .load t x) (hg : aggT P t = some false) (hk : k1v .ld1 (ρ x) h = some v) (he : Ext h (hp w)) : (execOp ρ o).run P w = .ok (.value v) w := by
  obtain ⟨b, o, h2, hr⟩ := i_ld1 hk
  have := run_load1 (P := P) (rd_ext he hr)
  simp only [execOp, ho, Instr.loadAt, h2, Instr.sureAddr, loadVar, Sem.run_bind, Sem.run_pure, Result.andThen_ok, run_aggT hg, Bool.false_eq_true, if_false, this]

theorem s_lda {t : TypeId} {x : Operand} {n : Nat} (ho : o.op = .load t x) (hg : aggT P t = some true) (hn : sizeT P t = some n) (hk : k1v (.lda n) (ρ x) h = some v) (he : Ext h (hp w)) : (execOp ρ o).run P w = .ok (.value v) w := by
  obtain ⟨b, o, vs, h2, hr, rfl⟩ := i_lda hk
  obtain ⟨hl, hc⟩ := rd_cell (rd_ext he hr)
  have := run_loadCells_list (P := P) w ⟨_, _, none⟩ vs hc
  rw [hl] at this
  simp only [execOp, ho, Instr.loadAt, h2, Instr.sureAddr, loadVar, Sem.run_bind, Sem.run_pure, Result.andThen_ok, run_aggT hg, if_true, run_sizeT hn, this]

theorem s_prt {t : TypeId} {x : Operand} {f : Nat} {fields : Array Field} {fd : Field} (ho : o.op = .field t x f) (hu : P.underlying t = some (.struct fields)) (hf : fields[f]? = some fd) (hg : aggT P fd.type = some false)
    (hk : k1v (.prt fd.offset) (ρ x) h = some v) : (execOp ρ o).run P w = .ok (.value v) w := by
  obtain ⟨cs, h2, hk⟩ := i_prt hk
  simp [execOp, ho, Instr.field, run_und hu, hf, h2, asAgg, part, run_aggT hg, hk]

theorem s_prta {t : TypeId} {x : Operand} {f n : Nat} {fields : Array Field} {fd : Field} (ho : o.op = .field t x f) (hu : P.underlying t = some (.struct fields)) (hf : fields[f]? = some fd) (hg : aggT P fd.type = some true) (hn : sizeT P fd.type = some n)
    (hk : k1v (.prta fd.offset n) (ρ x) h = some v) : (execOp ρ o).run P w = .ok (.value v) w := by
  obtain ⟨cs, h2, rfl⟩ := i_prta hk
  simp [execOp, ho, Instr.field, run_und hu, hf, h2, asAgg, part, run_aggT hg, run_sizeT hn]

theorem s_ixv {t el : TypeId} {x i : Operand} {n len : Nat} {g : Bool} (ho : o.op = .index t x i) (hu : P.underlying t = some (.array len el)) (hn : sizeT P el = some n) (hg : aggT P el = some g)
    (hk : k2v (.ixv len n g) (ρ x) (ρ i) = some v) : (execOp ρ o).run P w = .ok (.value v) w := by
  obtain ⟨cs, k, i, h1, h2, hr, hk⟩ := i_ixv hk
  cases g
  · simp only [Bool.false_eq_true, if_false] at hk
    simp [execOp, ho, Instr.index, asIntOf, h1, h2, run_und hu, run_sizeT hn, hr, part, run_aggT hg, hk]
  · simp only [if_true] at hk
    cases hk
    simp [execOp, ho, Instr.index, asIntOf, h1, h2, run_und hu, run_sizeT hn, hr, part, run_aggT hg]

theorem s_ext {x : Operand} {i : Nat} (ho : o.op = .extract x i) (hk : k1v (.ext i) (ρ x) h = some v) : (execOp ρ o).run P w = .ok (.value v) w := by
  obtain ⟨vs, h2, hk⟩ := i_ext hk
  simp [execOp, ho, Instr.extract, h2, hk]

theorem s_len {t el : TypeId} {x : Operand} {c : Call} (ho : o.op = .call c) (hc : c.callee = .builtin .len) (ha : c.args = #[x]) (ht : c.argTypes = #[t]) (hu : P.underlying t = some (.slice el)) (hk : k1v .len (ρ x) h = some v) : (execOp ρ o).run P w = .ok (.value v) w := by
  obtain ⟨a, n, c, h2, rfl⟩ := i_len hk
  simp [execOp, ho, resolve, hc, ha, ht, invoke, builtin, Builtin.len_, run_und hu, h2, goInt]

theorem s_lena {t el n : TypeId} {x : Operand} {c : Call} (ho : o.op = .call c) (hc : c.callee = .builtin .len) (ha : c.args = #[x]) (ht : c.argTypes = #[t]) (hu : P.underlying t = some (.array n el)) : (execOp ρ o).run P w = .ok (.value (.int .i64 n)) w := by
  simp [execOp, ho, resolve, hc, ha, ht, invoke, builtin, Builtin.len_, run_und hu, goInt]

theorem s_max {x y : Operand} {c : Call} (ho : o.op = .call c) (hc : c.callee = .builtin .max) (ha : c.args = #[x, y]) (hk : k2v .mx (ρ x) (ρ y) = some v) : (execOp ρ o).run P w = .ok (.value v) w := by
  obtain ⟨k, a, b, h1, h2, rfl⟩ := i_mx hk
  simp [execOp, ho, resolve, hc, ha, invoke, builtin, Builtin.max_, Builtin.max2, h1, h2]

theorem s_min {x y : Operand} {c : Call} (ho : o.op = .call c) (hc : c.callee = .builtin .min) (ha : c.args = #[x, y]) (hk : k2v .mn (ρ x) (ρ y) = some v) : (execOp ρ o).run P w = .ok (.value v) w := by
  obtain ⟨k, a, b, h1, h2, rfl⟩ := i_mn hk
  simp [execOp, ho, resolve, hc, ha, invoke, builtin, Builtin.min_, Builtin.min2, h1, h2]

theorem run_bound {k : IntKind} {i : Int} {y : Nat} {code : BoundsCode} (h1 : 0 ≤ i) (h2 : i ≤ (y : Int)) (w : World) : (Instr.sliceBound (.int k i) y code).run P w = .ok i.toNat w := by
  simp [Instr.sliceBound, asIntOf, h1, h2]

theorem s_slc {t el : TypeId} {x : Operand} {lo hi mx : Option Operand} {n : Nat} {l u : Value} (ho : o.op = .slice t x lo hi mx) (hu : P.underlying t = some (.slice el)) (hn : sizeT P el = some n)
    (hl : (lo = none ∧ l = .int .i64 0) ∨ ∃ y, lo = some y ∧ l = ρ y) (hh : (hi = none ∧ mx = none ∧ ∃ a len cap, ρ x = .slice a len cap ∧ u = .int .i64 len) ∨ ∃ y, hi = some y ∧ u = ρ y)
    (hk : slcv none n (ρ x) l u (mx.map ρ) = some v) : (execOp ρ o).run P w = .ok (.value v) w := by
  unfold slcv at hk
  split at hk
  · rename_i a len cap kl l' ku u' h0 h1
    cases hm : mx.map ρ with
    | none =>
      simp only [hm] at hk
      split at hk
      · rename_i hr
        obtain ⟨r1, r2, r3⟩ := hr
        cases hk
        have hmx : mx = none := by cases mx <;> simp_all
        subst hmx
        rcases hl with ⟨rfl, hl⟩ | ⟨y, rfl, hl⟩
        · cases hl
          rcases hh with ⟨rfl, _, a', len', cap', hx, hu'⟩ | ⟨z, rfl, hz⟩
          · rw [h1] at hx; cases hx; cases hu'
            simp [execOp, ho, Instr.sliceAt, Instr.slice, run_und hu, h1, Instr.sliceBounds, run_sizeT hn]
          · simp [execOp, ho, Instr.sliceAt, Instr.slice, run_und hu, h1, Instr.sliceBounds, run_sizeT hn, ← hz, run_bound r2 r3]
        · have r0 : l' ≤ (u'.toNat : Int) := by omega
          rcases hh with ⟨rfl, _, a', len', cap', hx, hu'⟩ | ⟨z, rfl, hz⟩
          · rw [h1] at hx; cases hx; cases hu'
            simp [execOp, ho, Instr.sliceAt, Instr.slice, run_und hu, h1, Instr.sliceBounds, run_sizeT hn, ← hl, run_bound r1 r2]
          · have r4 : 0 ≤ u' := by omega
            simp [execOp, ho, Instr.sliceAt, Instr.slice, run_und hu, h1, Instr.sliceBounds, run_sizeT hn, ← hl, ← hz, run_bound r1 r0, run_bound r4 r3]
      · cases hk
    | some m =>
      simp only [hm] at hk
      cases m with
      | int km m' =>
        simp only at hk
        split at hk
        · rename_i hr
          obtain ⟨r1, r2, r3, r5⟩ := hr
          cases hk
          obtain ⟨ym, rfl, hym⟩ : ∃ ym, mx = some ym ∧ ρ ym = .int km m' := by cases mx <;> simp_all
          have r4 : 0 ≤ u' := by omega
          have r6 : 0 ≤ m' := by omega
          have r0 : l' ≤ (u'.toNat : Int) := by omega
          have r7 : u' ≤ (m'.toNat : Int) := by omega
          rcases hh with ⟨_, hc, _⟩ | ⟨z, rfl, hz⟩
          · cases hc
          · rcases hl with ⟨rfl, hl⟩ | ⟨y, rfl, hl⟩
            · cases hl
              simp [execOp, ho, Instr.sliceAt, Instr.slice, run_und hu, h1, Instr.sliceBounds, run_sizeT hn, ← hz, hym, run_bound r6 r5, run_bound r4 r7]
            · simp [execOp, ho, Instr.sliceAt, Instr.slice, run_und hu, h1, Instr.sliceBounds, run_sizeT hn, ← hl, ← hz, hym, run_bound r6 r5, run_bound r4 r7, run_bound r1 r0]
        · cases hk
      | _ => simp at hk
  all_goals (first | contradiction | cases hk)

theorem s_slca {t el len : TypeId} {x : Operand} {lo hi : Option Operand} {n : Nat} {l u : Value} (ho : o.op = .slice t x lo hi none) (hu : P.underlying t = some (.array len el)) (hn : sizeT P el = some n)
    (hl : (lo = none ∧ l = .int .i64 0) ∨ ∃ y, lo = some y ∧ l = ρ y) (hh : (hi = none ∧ u = .int .i64 len) ∨ ∃ y, hi = some y ∧ u = ρ y)
    (hk : slcv (some len) n (ρ x) l u none = some v) : (execOp ρ o).run P w = .ok (.value v) w := by
  unfold slcv at hk
  split at hk
  · contradiction
  · rename_i len' a kl l' ku u' hc h1
    cases hc
    simp only at hk
    split at hk
    · rename_i hr
      obtain ⟨r1, r2, r3⟩ := hr
      cases hk
      have r4 : 0 ≤ u' := by omega
      rcases hl with ⟨rfl, hl⟩ | ⟨y, rfl, hl⟩
      · cases hl
        rcases hh with ⟨rfl, hu'⟩ | ⟨z, rfl, hz⟩
        · cases hu'
          simp [execOp, ho, Instr.sliceAt, run_und hu, h1, Instr.sureAddr, Instr.sliceBounds, run_sizeT hn]
        · simp [execOp, ho, Instr.sliceAt, run_und hu, h1, Instr.sureAddr, Instr.sliceBounds, run_sizeT hn, ← hz, run_bound r4 r3]
      · rcases hh with ⟨rfl, hu'⟩ | ⟨z, rfl, hz⟩
        · cases hu'
          simp [execOp, ho, Instr.sliceAt, run_und hu, h1, Instr.sureAddr, Instr.sliceBounds, run_sizeT hn, ← hl, run_bound r1 r2]
        · simp [execOp, ho, Instr.sliceAt, run_und hu, h1, Instr.sureAddr, Instr.sliceBounds, run_sizeT hn, ← hl, ← hz, run_bound r4 r3, run_bound r1 (show l' ≤ (u'.toNat : Int) by omega)]
    · cases hk
  · cases hk

theorem s_fn {f : FuncId} {first caps : Array Operand} {vs : List Value} (ho : o.op = .makeFunc (.func f) first caps) (hf : first = #[]) (hc : caps.toList.map ρ = vs) : (execOp ρ o).run P w = .ok (.value (.func (.func f) #[] vs.toArray)) w := by
  subst hf
  have : caps.map ρ = vs.toArray := by apply Array.ext'; simp [← hc]
  simp [execOp, ho, Instr.makeFunc, this]

theorem s_bldS {t : TypeId} {parts : Array (Nat × Operand)} {fields : Array Field} {ps : List (Nat × Nat)} {z : Value} {qs : List (Nat × Value)} {cs : Array Value} (ho : o.op = .build t parts) (hz : zeroT P t = some z) (hu : P.underlying t = some (.struct fields))
    (hp : placesT P fields.toList = some ps) (hl : parts.toList.length = qs.length) (hq : ∀ i (h1 : i < parts.toList.length) (h2 : i < qs.length), ps[(parts.toList[i]).1]? = some (qs[i].1, (qs[i].2).cells.size) ∧ ρ (parts.toList[i]).2 = qs[i].2)
    (hf : fillv z.cells.toList.toArray qs = some cs) : (execOp ρ o).run P w = .ok (.value (.agg cs)) w := by
  have h1 := places_run (P := P) fields.toList ps w hp
  have h2 : (fields.mapM (fun f => (do pure (f.offset, ← sizeOf f.type) : Sem (Nat × Nat)))).run P w = .ok ps.toArray w := by
    rw [Array.mapM_eq_mapM_toList]
    simp only [Sem.run_map, h1, Result.andThen_ok]
  have h3 : Instr.fill (ps.toArray[·]?) z.cells (parts.map fun (i, x) => (i, ρ x)).toList = some cs := by
    refine fill_fillv _ qs _ _ (by simpa using hl) (fun i g1 g2 => ?_) (by simpa using hf)
    have := hq i (by simpa using g1) g2
    simpa using this
  simp only [execOp, ho, Instr.build, Sem.run_bind, run_zeroT hz, Result.andThen_ok, run_und hu, h2, h3, Sem.run_pure]

theorem s_bldA {t el n len : TypeId} {parts : Array (Nat × Operand)} {z : Value} {qs : List (Nat × Value)} {cs : Array Value} (ho : o.op = .build t parts) (hz : zeroT P t = some z) (hu : P.underlying t = some (.array len el)) (hn : sizeT P el = some n)
    (hl : parts.toList.length = qs.length) (hq : ∀ i (h1 : i < parts.toList.length) (h2 : i < qs.length), some ((parts.toList[i]).1 * n, n) = some (qs[i].1, (qs[i].2).cells.size) ∧ ρ (parts.toList[i]).2 = qs[i].2)
    (hf : fillv z.cells.toList.toArray qs = some cs) : (execOp ρ o).run P w = .ok (.value (.agg cs)) w := by
  have h3 : Instr.fill (fun i => some (i * n, n)) z.cells (parts.map fun (i, x) => (i, ρ x)).toList = some cs := by
    refine fill_fillv _ qs _ _ (by simpa using hl) (fun i g1 g2 => ?_) (by simpa using hf)
    have := hq i (by simpa using g1) g2
    simpa using this
  simp only [execOp, ho, Instr.build, Sem.run_bind, run_zeroT hz, Result.andThen_ok, run_und hu, run_sizeT hn, h3, Sem.run_pure]

end
end Go.Lft
