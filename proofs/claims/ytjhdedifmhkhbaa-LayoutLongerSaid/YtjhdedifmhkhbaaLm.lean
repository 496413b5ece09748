/- Slices, structs and blocks in memory: what they hold. Plain lemmas; no statement is claimed here. -/
import Derived.Test.YtjhdedifmhkhbaaLl
import Derived.Below
namespace Go.Lft
open Go
set_option linter.unusedSimpArgs false
set_option linter.unusedVariables false

theorem ext_get {h h' : Heap} (he : Ext h h') {b : Nat} {o : Obj} (hb : h b = some o) : h' b = some o := he b o hb
/-- A block that the base does not have may be turned. -/
theorem ext_out {h0 h : Heap} (he : Ext h0 h) {b : Nat} (hb : h0 b = none) (o : Obj) : Ext h0 (upd h b o) := fun k p hk => by
  rw [upd_ne _ _ (by rintro rfl; rw [hb] at hk; cases hk)]; exact he k p hk
theorem ext_none {h h' : Heap} (he : Ext h h') {b : Nat} (hb : h' b = none) : h b = none := by
  cases hh : h b with
  | none => rfl
  | some o => rw [he b o hh] at hb; cases hb
/-- A block of the base is turned, here and there. -/
theorem ext_upd {h0 h : Heap} {b : Nat} {o o' : Obj} (he : Ext (upd h0 b o) h) : Ext (upd h0 b o') (upd h b o') := fun k p hk => by
  by_cases hkb : k = b
  · subst hkb; rw [upd_same] at hk ⊢; exact hk
  · rw [upd_ne _ _ hkb] at hk ⊢; exact he k p (by rw [upd_ne _ _ hkb]; exact hk)
theorem upd_upd (h : Heap) (b : Nat) (o p : Obj) : upd (upd h b o) b p = upd h b p := by
  funext k; simp only [upd]; split <;> rfl
theorem upd_self {h : Heap} {b : Nat} {o : Obj} (hb : h b = some o) : upd h b o = h := by
  funext k; simp only [upd]; split
  · rename_i hk; rw [hk, hb]
  · rfl
theorem ext_refl (h : Heap) : Ext h h := fun _ _ hk => hk
theorem ext_trans {h h1 h2 : Heap} (a : Ext h h1) (b : Ext h1 h2) : Ext h h2 := fun k o hk => b k o (a k o hk)
theorem ext_new {h : Heap} {b : Nat} (hb : h b = none) (o : Obj) : Ext h (upd h b o) := fun k p hk => by
  rw [upd_ne _ _ (by rintro rfl; rw [hb] at hk; cases hk)]; exact hk
theorem upd_get {h : Heap} {b k : Nat} {o p : Obj} (hk : h k = some p) (hb : h b = none) : upd h b o k = some p := by
  rw [upd_ne _ _ (by rintro rfl; rw [hb] at hk; cases hk)]; exact hk
theorem ne_of {h : Heap} {b k : Nat} {p : Obj} (hk : h k = some p) (hb : h b = none) : k ≠ b := by
  rintro rfl; rw [hb] at hk; cases hk

/-! ### Slices -/
/-- The slice value v has n elements of k cells each; the cells of element i are f i. -/
structure Sl (h : Heap) (k : Nat) (v : Value) (n : Nat) (f : Nat → List Value) : Prop where
  shape : (n = 0 ∧ ∃ a c, v = .slice a 0 c) ∨ ∃ b o c, v = .slice (some ⟨b, o, none⟩) n c ∧ n ≤ c ∧ ∀ i, i < n → rd h b (o + i * k) k = some (f i)

theorem Sl.ext {h h' : Heap} {k : Nat} {v : Value} {n : Nat} {f : Nat → List Value} (hs : Sl h k v n f) (he : Ext h h') : Sl h' k v n f := by
  refine ⟨hs.shape.imp id ?_⟩
  rintro ⟨b, o, c, h1, h2, h3⟩
  exact ⟨b, o, c, h1, h2, fun i hi => rd_ext he (h3 i hi)⟩

/-- A slice of ints. -/
def Ints (h : Heap) (v : Value) (xs : List Int) : Prop := Sl h 1 v xs.length (fun i => [.int .i64 (xs.getD i 0)])

theorem Ints.ext {h h' : Heap} {v : Value} {xs : List Int} (hs : Ints h v xs) (he : Ext h h') : Ints h' v xs := Sl.ext hs he

theorem Sl.len {h : Heap} {k : Nat} {v : Value} {n : Nat} {f : Nat → List Value} (hs : Sl h k v n f) : lenv v = some (.int .i64 n) := by
  rcases hs.shape with ⟨rfl, a, c, rfl⟩ | ⟨b, o, c, rfl, _, _⟩ <;> rfl
theorem Ints.len {h : Heap} {v : Value} {xs : List Int} (hs : Ints h v xs) : lenv v = some (.int .i64 xs.length) := Sl.len hs

theorem Sl.ld1 {h : Heap} {v : Value} {n : Nat} {f : Nat → List Value} (hs : Sl h 1 v n f) {i : Nat} (hi : i < n) {u : Value} (hu : f i = [u]) : ob (idxv 1 v (.int .i64 i)) (ld1v h) = some u := by
  rcases hs.shape with ⟨rfl, a, c, rfl⟩ | ⟨b, o, c, rfl, _, h3⟩
  · omega
  · rw [idx_in (by omega) (by omega)]
    have := h3 i hi
    rw [hu] at this
    exact ld1_of (by simpa using this)

theorem Sl.lda {h : Heap} {k : Nat} {v : Value} {n : Nat} {f : Nat → List Value} (hs : Sl h k v n f) {i : Nat} (hi : i < n) : ob (idxv k v (.int .i64 i)) (ldav k h) = some (.agg (f i).toArray) := by
  rcases hs.shape with ⟨rfl, a, c, rfl⟩ | ⟨b, o, c, rfl, _, h3⟩
  · omega
  · rw [idx_in (by omega) (by omega)]
    exact lda_of (by simpa using h3 i hi)

theorem Ints.ld {h : Heap} {v : Value} {xs : List Int} (hs : Ints h v xs) {i : Nat} (hi : i < xs.length) : ob (idxv 1 v (.int .i64 i)) (ld1v h) = some (.int .i64 (xs.getD i 0)) := Sl.ld1 hs hi rfl
/-- The same at a number that is no cast. -/
theorem Ints.ldi {h : Heap} {v : Value} {xs : List Int} (hs : Ints h v xs) {i : Int} (h0 : 0 ≤ i) (hi : i < xs.length) : ob (idxv 1 v (.int .i64 i)) (ld1v h) = some (.int .i64 (xs.getD i.toNat 0)) := by
  obtain ⟨j, rfl⟩ := Int.eq_ofNat_of_zero_le h0
  have := hs.ld (i := j) (by omega)
  simpa using this

/-- A slice of ints whose block is not the one that is turned. -/
theorem Ints.cell {h : Heap} {v : Value} {xs : List Int} (hs : Ints h v xs) : (xs = [] ∧ ∃ a c, v = .slice a 0 c) ∨ ∃ b o c, v = .slice (some ⟨b, o, none⟩) xs.length c ∧ xs.length ≤ c ∧ ∀ i, i < xs.length → rd h b (o + i) 1 = some [.int .i64 (xs.getD i 0)] := by
  rcases hs.shape with ⟨h0, h1⟩ | ⟨b, o, c, h1, h2, h3⟩
  · exact .inl ⟨by simpa using h0, h1⟩
  · exact .inr ⟨b, o, c, h1, h2, fun i hi => by simpa using h3 i hi⟩
theorem Ints.nil (h : Heap) : Ints h (.slice none 0 0) [] := ⟨.inl ⟨rfl, _, _, rfl⟩⟩

/-! ### Blocks of ints -/
def ia (t : Nat) (xs : List Int) : Obj := .cells (xs.map (Value.int .i64)).toArray t (0, 0)

theorem rd_ia {h : Heap} {b t o : Nat} {xs : List Int} (hb : h b = some (ia t xs)) (ho : o < xs.length) : rd h b o 1 = some [.int .i64 (xs.getD o 0)] := by
  unfold rd
  rw [hb]
  simp only [ia]
  rw [if_pos (by simp; omega)]
  congr 1
  apply List.ext_getElem?
  intro i
  cases i with
  | zero => simp [ho]
  | succ i => simp [List.getElem?_take]

theorem wr_ia {h : Heap} {b t o : Nat} {xs : List Int} {y : Int} (hb : h b = some (ia t xs)) (ho : o < xs.length) : wr h b o [.int .i64 y] = some (upd h b (ia t (xs.set o y))) := by
  unfold wr
  rw [hb]
  simp only [ia]
  rw [if_pos ⟨by simp; omega, by simp [one]⟩]
  simp [splice, List.map_set]

/-- Reading and writing a block of ints through a pointer. -/
theorem ld_ia {h : Heap} {b t o : Nat} {xs : List Int} (hb : h b = some (ia t xs)) (ho : o < xs.length) : ld1v h (.pointer (some ⟨b, o, none⟩)) = some (.int .i64 (xs.getD o 0)) := ld1_of (rd_ia hb ho)
theorem st_ia {h : Heap} {b t o : Nat} {xs : List Int} {y : Int} (hb : h b = some (ia t xs)) (ho : o < xs.length) : st1 h (.pointer (some ⟨b, o, none⟩)) (.int .i64 y) = some (upd h b (ia t (xs.set o y))) := by
  simp [st1, Value.cells, wr_ia hb ho]

theorem made_ia (t n : Nat) : (Obj.cells (madeCells [Value.int .i64 0].toArray (n * 1)) t : Obj) = ia t (List.replicate n 0) := by
  unfold ia madeCells
  congr 1
  apply Array.ext'
  simp
  apply List.ext_getElem?
  intro i
  by_cases hi : i < n
  · simp [hi, Nat.mod_one]
  · simp [hi]

theorem ints_of_ia {h : Heap} {b t c : Nat} {xs : List Int} (hb : h b = some (ia t xs)) (hc : xs.length ≤ c) : Ints h (.slice (some ⟨b, 0, none⟩) xs.length c) xs :=
  ⟨.inr ⟨b, 0, c, rfl, hc, fun i hi => by simpa using rd_ia hb hi⟩⟩

/-- A part of a block of ints. -/
theorem ints_part {h : Heap} {b t o n c : Nat} {xs : List Int} (hb : h b = some (ia t xs)) (hn : o + n ≤ xs.length) (hc : n ≤ c) : Ints h (.slice (some ⟨b, o, none⟩) n c) ((xs.drop o).take n) := by
  have hl : ((xs.drop o).take n).length = n := by simp; omega
  refine ⟨.inr ⟨b, o, c, by rw [hl], by omega, fun i hi => ?_⟩⟩
  rw [hl] at hi
  rw [Nat.mul_one, rd_ia hb (by omega)]
  simp [hi]

/-! ### Blocks of any values -/
theorem rd_blk {h : Heap} {t b o m : Nat} {l : List Value} (hb : h b = some (.cells l.toArray t)) (ho : o + m ≤ l.length) : rd h b o m = some ((l.drop o).take m) := by
  unfold rd; rw [hb]; simp [ho]
theorem ld1_blk {h : Heap} {t b o : Nat} {l : List Value} (hb : h b = some (.cells l.toArray t)) (ho : o < l.length) : ld1v h (.pointer (some ⟨b, o, none⟩)) = nth l o := by
  have hr := rd_blk (o := o) (m := 1) hb (by omega)
  have hg : (l.drop o).take 1 = [l[o]] := by
    apply List.ext_getElem?
    intro j
    cases j with
    | zero => simp [ho]
    | succ j => simp [List.getElem?_take]
  rw [hg] at hr
  rw [ld1_of hr, nth_get]; simp [ho]
theorem lda_blk {h : Heap} {t b o n : Nat} {l : List Value} (hb : h b = some (.cells l.toArray t)) (ho : o + n ≤ l.length) : ldav n h (.pointer (some ⟨b, o, none⟩)) = some (.agg ((l.drop o).take n).toArray) := lda_of (rd_blk hb ho)
theorem splice_lst {c : Array Value} {o : Nat} {vs : List Value} (ho : o + vs.length ≤ c.size) : (splice c o vs).toList = c.toList.take o ++ vs ++ c.toList.drop (o + vs.length) := by
  apply List.ext_getElem?
  intro i
  rw [Array.getElem?_toList, splice_get vs c o i ho]
  have hl : (c.toList.take o).length = o := by simp; omega
  by_cases h1 : o ≤ i
  · by_cases h2 : i < o + vs.length
    · simp only [h1, h2, and_self, if_true]
      rw [List.append_assoc, List.getElem?_append_right (by omega), hl, List.getElem?_append_left (by omega)]
    · simp only [h1, h2, and_false, if_false]
      rw [List.getElem?_append_right (by simp; omega)]
      simp
      congr 1
      omega
  · simp only [h1, false_and, if_false]
    rw [List.append_assoc, List.getElem?_append_left (by omega)]
    simp [List.getElem?_take]
    omega
theorem wr_blk {h : Heap} {t b o : Nat} {l vs : List Value} (hb : h b = some (.cells l.toArray t)) (ho : o + vs.length ≤ l.length) (h1 : vs.all one = true) : wr h b o vs = some (upd h b (.cells (l.take o ++ vs ++ l.drop (o + vs.length)).toArray t)) := by
  unfold wr
  rw [hb]
  simp only
  rw [if_pos ⟨by simpa using ho, h1⟩]
  congr 3
  apply Array.ext'
  rw [splice_lst (by simpa using ho)]
theorem st1_blk {h : Heap} {t b o : Nat} {l : List Value} {v : Value} (hb : h b = some (.cells l.toArray t)) (ho : o < l.length) (hv : one v = true) : st1 h (.pointer (some ⟨b, o, none⟩)) v = some (upd h b (.cells (l.set o v).toArray t)) := by
  have hc : v.cells = #[v] := by cases v <;> first | rfl | cases hv
  have hst : st1 h (.pointer (some ⟨b, o, none⟩)) v = wr h b o [v] := by
    have : v.cells.size = 1 := by rw [hc]; rfl
    simp only [st1]
    rw [if_pos this, hc]
  rw [hst, wr_blk hb (by simp; omega) (by simp [hv])]
  congr 4
  rw [List.set_eq_take_append_cons_drop, if_pos ho]
  simp
theorem stn_blk {h : Heap} {t b o n : Nat} {l cs : List Value} (hb : h b = some (.cells l.toArray t)) (ho : o + n ≤ l.length) (hn : cs.length = n) (h1 : cs.all one = true) : stn n h (.pointer (some ⟨b, o, none⟩)) (.agg cs.toArray) = some (upd h b (.cells (l.take o ++ cs ++ l.drop (o + n)).toArray t)) := by
  have hst : stn n h (.pointer (some ⟨b, o, none⟩)) (.agg cs.toArray) = wr h b o cs := by
    have : (Value.agg cs.toArray).cells.size = n := by simpa [Value.cells] using hn
    simp only [stn]
    rw [if_pos this]; rfl
  rw [hst, wr_blk hb (by simpa [hn] using ho) (by simpa using h1)]
  simp [hn]

theorem Sl.one {h : Heap} {k n : Nat} {v : Value} {f : Nat → List Value} (hs : Sl h k v n f) : Lft.one v = true := by
  rcases hs.shape with ⟨_, a, c, rfl⟩ | ⟨b, o, c, rfl, _⟩ <;> rfl
theorem Ints.one {h : Heap} {v : Value} {xs : List Int} (hs : Ints h v xs) : Lft.one v = true := Sl.one hs

/-! ### From a call of the model's to the frame of a law -/
theorem below_of {w w' : World} (he : Ext (hp w) (hp w')) (hr : Rest w w') : Go.RowKit.Below w.heap.size w w' := by
  have hb : ∀ k, k < w.heap.size → w'.heap[k]? = w.heap[k]? := fun k hk => by
    have h1 : hp w k = some (w.heap[k]) := by simp [hp, hk]
    have h2 := he k _ h1
    have h3 : w'.heap[k]? = some (w.heap[k]) := h2
    rw [h3]; simp [hk]
  refine ⟨hr.1, hr.2.1, hr.2.2, ?_, hb⟩
  rcases Nat.lt_or_ge w'.heap.size w.heap.size with h | h
  · have := hb w'.heap.size h
    simp [h] at this
  · exact h

theorem law_of {P : Program} {f : Nat} {args : List Value} {w : World} (hr : Runs P f args (hp w) fun r h' => r = .bool true ∧ Ext (hp w) h') :
    Calls P f args.toArray w fun e w' => e = .returned (.bool true) ∧ Go.RowKit.Below w.heap.size w w' :=
  (hr w rfl).mono fun e w' ⟨v, h1, h2, h3⟩ => ⟨by rw [h1, h2.1], below_of h2.2 h3⟩

theorem ints_of_cells {w : World} {x : Addr} {len cap : Nat} {zs : List Int} (hl : len ≤ cap) (hz : zs.length = cap) (hc : ∀ i, i < zs.length → w.cell? (x.add i) = some (.int .i64 (zs.getD i 0))) : Ints (hp w) (.slice (some x) len cap) (zs.take len) := by
  have hlen : (zs.take len).length = len := by simp; omega
  rcases Nat.eq_zero_or_pos len with h0 | h0
  · subst h0
    exact ⟨.inl ⟨by simp, _, _, rfl⟩⟩
  · obtain ⟨b, o, s⟩ := x
    have hs : s = none := by
      have := hc 0 (by omega)
      cases s with
      | none => rfl
      | some s => simp [World.cell?, Addr.add] at this; split at this <;> simp at this
    subst hs
    have hblk : ∃ c t f, w.heap[b]? = some (.cells c t f) := by
      have := hc 0 (by omega)
      simp only [Addr.add, if_true, World.cell?] at this
      split at this
      · rename_i c t f hh; exact ⟨c, t, f, hh⟩
      · cases this
    obtain ⟨c, t, f, hb⟩ := hblk
    refine ⟨.inr ⟨b, o, cap, by rw [hlen], by omega, fun i hi => ?_⟩⟩
    rw [hlen] at hi
    have h1 := hc i (by omega)
    rw [add_addr, cell_of_row w b (o + i) c t f hb] at h1
    have hlt : o + i < c.size := (Array.getElem?_eq_some_iff.1 h1).1
    unfold rd
    have hb' : hp w b = some (.cells c t f) := hb
    rw [hb', Nat.mul_one]
    simp only
    rw [if_pos (by omega)]
    congr 1
    apply List.ext_getElem?
    intro j
    cases j with
    | zero =>
      have h2 : c[o + i]? = some (.int .i64 (zs.getD i 0)) := h1
      simp [hlt] at h2
      simp [hlt, h2, hi]
    | succ j => simp [List.getElem?_take]

end Go.Lft
