/- The operations that make or write memory. Plain lemmas; no statement is claimed here. -/
import Derived.Test.YtjhdedifmhkhbaaLf
namespace Go.Lft
open Go

def effX (P : Program) (tr : Tr) : Op → Option E
  | .alloc t => (zeroT P t).map fun z => .alloc t z.cells.toList
  | .box t x => (tr x).map (.box t)
  | .makeSlice t l c => (tr l).bind fun a => (tr c).bind fun b =>
    match P.underlying t with
    | some (.slice el) => (sizeT P el).bind fun n => (bytesT P el).bind fun by' => (zeroT P el).map fun z => .mk el n by' z.cells.toList a b
    | _ => none
  | .buildSlice t len parts =>
    match P.underlying t with
    | some (.slice el) => (sizeT P el).bind fun n => (zeroT P el).bind fun z => if len * n ≤ 16777216 then (partsX tr (fun i => some (i * n, n)) parts.toList).map fun l => .lit el n len z.cells.toList l else none
    | _ => none
  | .store t p v => (tr p).bind fun a => (tr v).bind fun b => (sizeT P t).map fun n => .st n a b
  | .call { callee := .builtin .append, args, argTypes } =>
    (match args.toList, argTypes.toList with
      | [s, x], [t, t'] =>
        (match P.underlying t, P.underlying t' with
        | some (.slice el), some (.slice _) => (tr s).bind fun a => (tr x).bind fun b => (sizeT P el).bind fun n => (bytesT P el).bind fun by' => (zeroT P el).bind fun z => if z.cells.size = n then some (.app el n by' z.cells.toList a b) else none
        | _, _ => none)
      | _, _ => none)
  | .call { callee := .builtin .copy, args, argTypes } =>
    (match args.toList, argTypes.toList with
      | [s, x], [t, _] =>
        (match P.underlying t with
        | some (.slice el) => (tr s).bind fun a => (tr x).bind fun b => (sizeT P el).map fun n => .cpy n a b
        | _ => none)
      | _, _ => none)
  | .call { callee := .builtin .clear, args, argTypes } =>
    (match args.toList, argTypes.toList with
      | [s], [t] =>
        (match P.underlying t with
        | some (.slice el) => (tr s).bind fun a => (zeroT P el).map fun z => .clr z.cells.toList a
        | _ => none)
      | _, _ => none)
  | _ => none

def repA {α : Type} (n : Nat) (z : List α) : List α := (List.replicate n z).flatten
theorem repA_len {α : Type} (n : Nat) (z : List α) : (repA n z).length = n * z.length := by
  unfold repA; induction n with
  | zero => simp
  | succ n ih => rw [List.replicate_succ, List.flatten_cons, List.length_append, ih, Nat.add_mul]; omega
theorem repA_get {z : List Value} : ∀ (n i : Nat), i < n * z.length → (repA n z)[i]? = z[i % z.length]?
  | 0, i, h => by simp at h
  | n + 1, i, h => by
    unfold repA
    rw [List.replicate_succ, List.flatten_cons]
    by_cases hi : i < z.length
    · rw [List.getElem?_append_left hi, Nat.mod_eq_of_lt hi]
    · rw [List.getElem?_append_right (by omega)]
      have := repA_get (z := z) n (i - z.length) (by rw [Nat.add_mul] at h; omega)
      unfold repA at this
      rw [this, ← Nat.mod_eq_sub_mod (by omega)]
theorem made_rep (z : List Value) (n : Nat) : (madeCells z.toArray (n * z.length)).toList = repA n z := by
  apply List.ext_getElem?
  intro i
  by_cases hi : i < n * z.length
  · rw [repA_get n i hi]
    have hz : 0 < z.length := Nat.pos_of_ne_zero fun h => by rw [h] at hi; omega
    have hm := Nat.mod_lt i hz
    simp [madeCells, hi, hm]
  · rw [List.getElem?_eq_none (by simp [madeCells]; omega), List.getElem?_eq_none (by rw [repA_len]; omega)]

section
variable {P : Program} {tr : Tr} {e : List Value} {h : Heap} {R : Value → Heap → Prop} {K : Act → World → Prop} {o : Oper} {a : Act} {w : World}

theorem wp_val {v : Value} {w' : World} (hr : (execOp a.eval o).run P w = .ok (.value v) w') (hk : K (a.put o.dst v) w') : o.wp P a w K (fun _ _ _ => False) := by
  unfold Oper.wp; rw [hr]; exact hk

theorem info_of {t n : Nat} (h : sizeT P t = some n) : ∃ i, P.info? t = some i ∧ i.size = n := by
  unfold sizeT at h; simpa using h
theorem infoB_of {t n : Nat} (h : bytesT P t = some n) : ∃ i, P.info? t = some i ∧ i.bytes = n := by
  unfold bytesT at h; simpa using h
theorem infoZ_of {t : Nat} {z : Value} (h : zeroT P t = some z) : ∃ i, P.info? t = some i ∧ i.zero = some z := by
  unfold zeroT at h; simpa [Option.bind_eq_some_iff] using h

theorem run_firstCells {size n : Nat} {x : Value} {cs : List Value} (h : cellsOf (hp w) size n x = some cs) : (Builtin.firstCells size n x).run P w = .ok cs.toArray w := by
  unfold cellsOf at h
  split at h
  · rename_i h0
    split at h
    · rename_i a l c
      cases h
      cases a with
      | none => simp [Builtin.firstCells]
      | some a => simp [Builtin.firstCells, h0, loadCells, loadCellsFrom]
    · cases h
  · split at h
    · obtain ⟨hl, hc⟩ := rd_cell h
      have := run_loadCells_list (P := P) w ⟨_, _, none⟩ cs hc
      rw [hl] at this
      simpa [Builtin.firstCells] using this
    · cases h; simp [Builtin.firstCells]
    · cases h

/-- What 'if the slice has a place, store there' does. -/
theorem run_wr0 {a : Option Addr} {off : Nat} {vs : List Value} {h' : Heap} (hw : wr0 (hp w) a off vs = some h') :
    ∃ w', (match a with | some a => storeCells (a.add off) vs | none => (pure () : Sem Unit)).run P w = .ok () w' ∧ hp w' = h' ∧ Rest w w' := by
  cases vs with
  | nil =>
    simp only [wr0, Option.some.injEq] at hw
    exact ⟨w, by cases a <;> simp [storeCells], hw, Rest.refl w⟩
  | cons v vs =>
    simp only [wr0] at hw
    split at hw
    · rename_i b o
      obtain ⟨w', h1, h2, h3⟩ := run_storeCells_wr P (v :: vs) w b (o + off) 0 h' (by simpa using hw)
      exact ⟨w', by simpa [add_addr] using h1, h2, h3⟩
    · cases hw

def Made (P : Program) (o : Oper) (a : Act) (h : Heap) (R : Value → Heap → Prop) : Prop := ∃ s O, Mkr P o a s O ∧ ∀ b, h b = none → R (mkV s b) (upd h b O)
def Wrote (P : Program) (o : Oper) (a : Act) (h : Heap) (R : Value → Heap → Prop) : Prop := ∃ b off vs h', Str P o a b off vs ∧ wr h b off vs = some h' ∧ R undef h'
def Did (P : Program) (o : Oper) (a : Act) (h : Heap) (R : Value → Heap → Prop) : Prop :=
  ∀ w, hp w = h → o.wp P a w (fun a' w' => Rest w w' ∧ ∃ v, a' = a.put o.dst v ∧ R v (hp w')) (fun _ _ _ => False)

theorem e_alloc {t : TypeId} {z : Value} (ho : o.op = .alloc t) (hz : zeroT P t = some z) (hok : E.ok e h R (.alloc t z.cells.toList)) : Made P o a h R := by
  refine ⟨none, .cells z.cells t, fun w => ?_, fun b hb => by simpa [mkV] using hok b hb⟩
  simp [execOp, ho, Instr.alloc, run_zeroT hz, newVar, newRow, mkV]

theorem e_box {t : TypeId} {y : Operand} {x : X} (ho : o.op = .box t y) (hx : x.ev e h = some (a.eval y)) (hok : E.ok e h R (.box t x)) : Made P o a h R := by
  obtain ⟨v, hv, hR⟩ := hok
  rw [hx] at hv; cases hv
  refine ⟨none, .cells (a.eval y).cells t, fun w => ?_, hR⟩
  simp [execOp, ho, Instr.box, newVar, newRow, mkV]

theorem e_mk {t el : TypeId} {l c : Operand} {n b : Nat} {z : Value} {lx cx : X} (ho : o.op = .makeSlice t l c) (hu : P.underlying t = some (.slice el)) (hn : sizeT P el = some n) (hb : bytesT P el = some b) (hz : zeroT P el = some z)
    (hl : lx.ev e h = some (a.eval l)) (hc : cx.ev e h = some (a.eval c)) (hok : E.ok e h R (.mk el n b z.cells.toList lx cx)) : Made P o a h R := by
  obtain ⟨kl, kc, li, ci, h1, h2, h3, h4, h5, h6, hR⟩ := hok
  rw [hl] at h1; rw [hc] at h2
  obtain ⟨i, hi, rfl⟩ := info_of hn
  obtain ⟨i', hi', rfl⟩ := infoB_of hb
  obtain ⟨i'', hi'', hz'⟩ := infoZ_of hz
  rw [hi] at hi' hi''; cases hi'; cases hi''
  refine ⟨some (li.toNat, ci.toNat), .cells (madeCells z.cells (ci.toNat * i.size)) el, fun w => ?_, fun b hb => by simpa [mkV] using hR b hb⟩
  have hr := run_make (P := P) w t el i z hu hi hz' kl kc li ci h3 h4 h5 h6
  simp only [Option.some.injEq] at h1 h2
  simp only [execOp, ho, h1, h2, Sem.run_bind, hr, Result.andThen_ok, Sem.run_pure, mkV]

theorem e_lit {t el : TypeId} {len : Nat} {parts : Array (Nat × Operand)} {n : Nat} {z : Value} {px : X} (hT : ∀ y z, tr y = some z → z.ev e h = some (a.eval y)) (ho : o.op = .buildSlice t len parts) (hu : P.underlying t = some (.slice el)) (hn : sizeT P el = some n)
    (hz : zeroT P el = some z) (hle : len * n ≤ 16777216) (hp : partsX tr (fun i => some (i * n, n)) parts.toList = some px) (hok : E.ok e h R (.lit el n len z.cells.toList px)) : Made P o a h R := by
  obtain ⟨vs, cs, h1, h2, hR⟩ := hok
  obtain ⟨g1, g2⟩ := partsX_spec hT _ _ _ hp h1
  have h3 : Instr.fill (fun i => some (i * n, n)) (madeCells z.cells (len * n)) (parts.map fun (i, x) => (i, a.eval x)).toList = some cs := by
    refine fill_fillv _ vs _ _ (by simpa using g1) (fun i k1 k2 => ?_) (by simpa using h2)
    have := g2 i (by simpa using k1) k2
    simpa using this
  refine ⟨some (len, len), .cells cs el, fun w => ?_, fun b hb => hR b hb⟩
  have hlim : ¬ (len * n > 2 ^ 24) := by simp; omega
  by_cases h0 : len * n = 0
  · have h3' : Instr.fill (fun i => some (i * n, n)) ((Array.range 0).map ((#[] : Array Value)[· % (#[] : Array Value).size]!)) (parts.map fun (i, x) => (i, a.eval x)).toList = some cs := by
      have : madeCells z.cells (len * n) = (Array.range 0).map ((#[] : Array Value)[· % (#[] : Array Value).size]!) := by simp [madeCells, h0]
      rw [this] at h3; exact h3
    have hlim' : ¬ (0 > 2 ^ 24) := by simp
    simp only [execOp, ho, Instr.buildSlice, Sem.run_bind, run_und hu, Result.andThen_ok, run_sizeT hn, h0, hlim', if_false, if_true, Sem.run_pure]
    simp only [h3', newRow, Sem.run_bind, run_newObj, Result.andThen_ok, Sem.run_pure, mkV, World.alloc]
  · have h3' : Instr.fill (fun i => some (i * n, n)) ((Array.range (len * n)).map (z.cells[· % z.cells.size]!)) (parts.map fun (i, x) => (i, a.eval x)).toList = some cs := h3
    simp only [execOp, ho, Instr.buildSlice, Sem.run_bind, run_und hu, Result.andThen_ok, run_sizeT hn, hlim, if_false, h0, run_zeroT hz, Sem.run_pure]
    simp only [h3', newRow, Sem.run_bind, run_newObj, Result.andThen_ok, Sem.run_pure, mkV, World.alloc]

theorem e_st {t : TypeId} {p v : Operand} {n : Nat} {px vx : X} (ho : o.op = .store t p v) (hn : sizeT P t = some n) (hp : px.ev e h = some (a.eval p)) (hv : vx.ev e h = some (a.eval v)) (hok : E.ok e h R (.st n px vx)) : Wrote P o a h R := by
  obtain ⟨b, q, x, h', h1, h2, h3, h4, hR⟩ := hok
  rw [hp] at h1; rw [hv] at h2
  simp only [Option.some.injEq] at h1 h2
  refine ⟨b, q, x.cells.toList, h', ⟨t, p, v, ho, h1, by rw [h2], by rw [h2, h3]; exact hn⟩, h4, hR⟩

theorem zero_made {z : Array Value} {n size : Nat} (h : z.size = size) : Builtin.zeroCells z n = madeCells z.toList.toArray (n * size) := by
  subst h; simp [Builtin.zeroCells, madeCells]

theorem e_app {t t' el el' : TypeId} {s x : Operand} {c : Call} {n b : Nat} {z : Value} {sx xx : X} (ho : o.op = .call c) (hc : c.callee = .builtin .append) (ha : c.args = #[s, x]) (ht : c.argTypes = #[t, t']) (hu : P.underlying t = some (.slice el)) (hu' : P.underlying t' = some (.slice el'))
    (hn : sizeT P el = some n) (hb : bytesT P el = some b) (hz : zeroT P el = some z) (hzs : z.cells.size = n) (hs : sx.ev e h = some (a.eval s)) (hx : xx.ev e h = some (a.eval x)) (hok : E.ok e h R (.app el n b z.cells.toList sx xx)) : Did P o a h R := by
  intro w hw
  subst hw
  obtain ⟨ad, sl, sc, y, yl, yc, news, h1, h2, h3, h4, h5, h6, h7⟩ := hok
  rw [hs] at h1; rw [hx] at h2
  simp only [Option.some.injEq] at h1 h2
  have hf := run_firstCells (P := P) h3
  obtain ⟨i, hi, hbi⟩ := infoB_of hb
  have hti : ∀ w : World, (typeInfo el).run P w = .ok i w := fun w => by simp [typeInfo, hi]
  by_cases hroom : sl + yl ≤ sc
  · obtain ⟨h', hw, hR⟩ := h6 hroom
    obtain ⟨w', hst, hh', hrest⟩ := run_wr0 (P := P) hw
    refine wp_val (w' := w') (v := .slice ad (sl + yl) sc) ?_ ⟨hrest, _, rfl, by rw [hh']; exact hR⟩
    cases ad with
    | none =>
      simp only [Sem.run_pure, Result.ok.injEq, true_and] at hst
      subst hst
      simp [execOp, ho, resolve, hc, ha, ht, h1, h2, invoke, builtin, Builtin.append_, run_und hu, run_und hu', run_sizeT hn, Builtin.lenOf, hroom, hf]
    | some q =>
      simp only at hst
      simp [execOp, ho, resolve, hc, ha, ht, h1, h2, invoke, builtin, Builtin.append_, run_und hu, run_und hu', run_sizeT hn, Builtin.lenOf, hroom, hf, hst]
  · obtain ⟨olds, ho1, ho2⟩ := h7 (by omega)
    have hcap : ∃ cap : Nat, cap = (Question.appendCap (sl + yl) sc el).cut (w.tape w.drawn (.appendCap (sl + yl) sc el)) ∧ sl + yl ≤ cap ∧ cap ≤ 9223372036854775807 := by
      refine ⟨_, rfl, by simp [Question.cut], ?_⟩
      have hlt := Nat.mod_lt (w.tape w.drawn (.appendCap (sl + yl) sc el)) (show 0 < 2 ^ 63 - (sl + yl) by omega)
      simp only [Question.cut]
      omega
    obtain ⟨cap, hcp, c1, c2⟩ := hcap
    have hR := ho2 cap w.heap.size (by simp [hp]) c1 c2
    have hfit := growslice_fits (need := sl + yl) (old := sc) (bytes := b) (by omega) h4
    have hold := run_firstCells (P := P) (w := w.drew) (size := n) (n := sl) (x := .slice ad sl sc) (cs := olds) ho1
    have hnew := run_firstCells (P := P) (w := w.drew) (size := n) (n := yl) (x := .slice y yl yc) (cs := news) h3
    have hmax : ¬ (IntKind.i64.max < ((sl + yl : Nat) : Int)) := by simp [IntKind.max, IntKind.bits, IntKind.signed]; omega
    have hnfit : ¬ (281474976710656 < Builtin.nextslicecap (sl + yl) sc * b) := by omega
    refine wp_val (w' := w.drew.alloc (.cells ((olds ++ news).toArray ++ madeCells z.cells.toList.toArray ((cap - (sl + yl)) * n)) el)) (v := .slice (some ⟨w.heap.size, 0, none⟩) (sl + yl) cap) ?_ ⟨⟨rfl, rfl, rfl⟩, _, rfl, by rw [hp_alloc]; exact hR⟩
    simp only [execOp, ho, resolve, hc, ha, ht, List.map_toArray, List.map_cons, List.map_nil, h1, h2, Sem.run_bind, Sem.run_pure, Result.andThen_ok, invoke, builtin]
    simp only [Builtin.append_, List.getElem?_toArray, List.getElem?_cons_zero, List.getElem?_cons_succ, Sem.run_bind, run_und hu, run_und hu', run_sizeT hn, Result.andThen_ok, Sem.run_pure, Builtin.lenOf, Bool.false_eq_true, if_false, hroom, hmax, false_and, hti, hbi, Nat.reducePow, gt_iff_lt, hnfit,
      run_choose, Question.forced, run_askRoom, Bool.not_false, if_true]
    rw [← hcp]
    have hd : ({ w with drawn := w.drawn + 1 } : World) = w.drew := rfl
    simp only [hd, hold, hnew, Result.andThen_ok, run_zeroT hz, newRow, Sem.run_bind, run_newObj, Sem.run_pure, zero_made hzs]
    simp
    rfl

theorem e_cpy {t t' el : TypeId} {s x : Operand} {c : Call} {n : Nat} {sx xx : X} (ho : o.op = .call c) (hc : c.callee = .builtin .copy) (ha : c.args = #[s, x]) (ht : c.argTypes = #[t, t']) (hu : P.underlying t = some (.slice el)) (hn : sizeT P el = some n)
    (hs : sx.ev e h = some (a.eval s)) (hx : xx.ev e h = some (a.eval x)) (hok : E.ok e h R (.cpy n sx xx)) : Did P o a h R := by
  intro w hw
  subst hw
  obtain ⟨ad, dl, dc, b, sl, sc, cs, h1, h2, h3, h', hw, hR⟩ := hok
  rw [hs] at h1; rw [hx] at h2
  simp only [Option.some.injEq] at h1 h2
  have hf := run_firstCells (P := P) h3
  have hmin : Nat.min sl dl = min sl dl := rfl
  obtain ⟨w', hst, hh', hrest⟩ := run_wr0 (P := P) hw
  refine wp_val (w' := w') (v := .int .i64 (min sl dl : Nat)) ?_ ⟨hrest, _, rfl, by rw [hh']; exact hR⟩
  cases ad with
  | none =>
    simp only [Sem.run_pure, Result.ok.injEq, true_and] at hst
    subst hst
    simp [execOp, ho, resolve, hc, ha, ht, h1, h2, invoke, builtin, Builtin.copy_, run_und hu, run_sizeT hn, Builtin.lenOf, hmin, hf, goInt]
  | some q =>
    have hq : q.add 0 = q := by simp [Addr.add]
    simp only [hq] at hst
    simp [execOp, ho, resolve, hc, ha, ht, h1, h2, invoke, builtin, Builtin.copy_, run_und hu, run_sizeT hn, Builtin.lenOf, hmin, hf, goInt, hst]

theorem e_clr {t el : TypeId} {s : Operand} {c : Call} {z : Value} {sx : X} (ho : o.op = .call c) (hc : c.callee = .builtin .clear) (ha : c.args = #[s]) (ht : c.argTypes = #[t]) (hu : P.underlying t = some (.slice el)) (hz : zeroT P el = some z)
    (hs : sx.ev e h = some (a.eval s)) (hok : E.ok e h R (.clr z.cells.toList sx)) : Did P o a h R := by
  intro w hw
  subst hw
  obtain ⟨ad, n, cp, h', h1, h2, hR⟩ := hok
  rw [hs] at h1
  simp only [Option.some.injEq] at h1
  have hzc : (Builtin.zeroCells z.cells n).toList = (List.replicate n z.cells.toList).flatten := by
    rw [zero_made (size := z.cells.size) rfl, show z.cells.size = z.cells.toList.length by simp, made_rep]; rfl
  obtain ⟨w', hst, hh', hrest⟩ := run_wr0 (P := P) h2
  refine wp_val (w' := w') (v := undef) ?_ ⟨hrest, _, rfl, by rw [hh']; exact hR⟩
  cases n with
  | zero =>
    have : w' = w := by
      simp at hst
      cases ad <;> simp [storeCells] at hst <;> exact hst.symm
    subst this
    cases ad <;> simp [execOp, ho, resolve, hc, ha, ht, h1, invoke, builtin, Builtin.clear_, run_und hu, undef]
  | succ n =>
    cases ad with
    | none =>
      simp only [Sem.run_pure, Result.ok.injEq, true_and] at hst
      subst hst
      simp [execOp, ho, resolve, hc, ha, ht, h1, invoke, builtin, Builtin.clear_, run_und hu, undef]
    | some q =>
      have hq : q.add 0 = q := by simp [Addr.add]
      simp only [hq] at hst
      simp [execOp, ho, resolve, hc, ha, ht, h1, invoke, builtin, Builtin.clear_, run_und hu, run_zeroT hz, hzc, hst, undef]

theorem made_sound (hT : ∀ y z, tr y = some z → z.ev e h = some (a.eval y)) (hk : kdOf o.op = 3) {f : E} (hx : effX P tr o.op = some f) (hok : f.ok e h R) : Made P o a h R := by
  cases ho : o.op with
  | alloc t =>
    rw [ho] at hx; simp only [effX, Option.map_eq_some_iff] at hx
    obtain ⟨z, hz, rfl⟩ := hx
    exact e_alloc ho hz hok
  | box t y =>
    rw [ho] at hx; simp only [effX, Option.map_eq_some_iff] at hx
    obtain ⟨x, hy, rfl⟩ := hx
    exact e_box ho (hT _ _ hy) hok
  | makeSlice t l c =>
    rw [ho] at hx; simp only [effX, Option.bind_eq_some_iff] at hx
    obtain ⟨lx, hl, cx, hc, hx⟩ := hx
    split at hx
    · rename_i hu
      simp only [Option.bind_eq_some_iff, Option.map_eq_some_iff] at hx
      obtain ⟨n, hn, b, hb, z, hz, rfl⟩ := hx
      exact e_mk ho hu hn hb hz (hT _ _ hl) (hT _ _ hc) hok
    · cases hx
  | buildSlice t len parts =>
    rw [ho] at hx; simp only [effX] at hx
    split at hx
    · rename_i hu
      simp only [Option.bind_eq_some_iff] at hx
      obtain ⟨n, hn, z, hz, hx⟩ := hx
      split at hx
      · rename_i hle
        simp only [Option.map_eq_some_iff] at hx
        obtain ⟨px, hp, rfl⟩ := hx
        exact e_lit hT ho hu hn hz hle hp hok
      · cases hx
    · cases hx
  | call c => rw [ho] at hk; unfold kdOf at hk; split at hk <;> first | contradiction | cases hk
  | _ => rw [ho] at hk; simp [kdOf] at hk

theorem wrote_sound (hT : ∀ y z, tr y = some z → z.ev e h = some (a.eval y)) (hk : kdOf o.op = 4) {f : E} (hx : effX P tr o.op = some f) (hok : f.ok e h R) : Wrote P o a h R := by
  cases ho : o.op with
  | store t p v =>
    rw [ho] at hx; simp only [effX, Option.bind_eq_some_iff, Option.map_eq_some_iff] at hx
    obtain ⟨px, hp, vx, hv, n, hn, rfl⟩ := hx
    exact e_st ho hn (hT _ _ hp) (hT _ _ hv) hok
  | call c => rw [ho] at hk; unfold kdOf at hk; split at hk <;> first | contradiction | cases hk
  | _ => rw [ho] at hk; simp [kdOf] at hk

theorem did_sound (hT : ∀ y z, tr y = some z → z.ev e h = some (a.eval y)) (hk : kdOf o.op = 2) {f : E} (hx : effX P tr o.op = some f) (hok : f.ok e h R) : Did P o a h R := by
  cases ho : o.op with
  | call c =>
    rw [ho] at hx
    obtain ⟨callee, args, ats⟩ := c
    cases callee with
    | builtin b =>
      cases b <;> simp only [effX] at hx <;> try (cases hx; done)
      · split at hx
        · rename_i s x t t' h1 h2
          split at hx
          · rename_i hu hu'
            simp only [Option.bind_eq_some_iff] at hx
            obtain ⟨sx, hs, xx, hxx, n, hn, b, hb, z, hz, hx⟩ := hx
            split at hx
            · rename_i hzs
              cases hx
              exact e_app ho rfl (toList_two h1) (toList_two h2) hu hu' hn hb hz hzs (hT _ _ hs) (hT _ _ hxx) hok
            · cases hx
          · cases hx
        · cases hx
      · split at hx
        · rename_i s t h1 h2
          split at hx
          · rename_i hu
            simp only [Option.bind_eq_some_iff, Option.map_eq_some_iff] at hx
            obtain ⟨sx, hs, z, hz, rfl⟩ := hx
            exact e_clr ho rfl (toList_one h1) (toList_one h2) hu hz (hT _ _ hs) hok
          · cases hx
        · cases hx
      · split at hx
        · rename_i s x t t' h1 h2
          split at hx
          · rename_i hu
            simp only [Option.bind_eq_some_iff, Option.map_eq_some_iff] at hx
            obtain ⟨sx, hs, xx, hxx, n, hn, rfl⟩ := hx
            exact e_cpy ho rfl (toList_two h1) (toList_two h2) hu hn (hT _ _ hs) (hT _ _ hxx) hok
          · cases hx
        · cases hx
    | value f => simp [effX] at hx
    | invoke r m => simp [effX] at hx
  | _ => first | (rw [ho] at hk; simp [kdOf] at hk; done) | (rw [ho] at hx; simp [effX] at hx; done)

end
end Go.Lft
