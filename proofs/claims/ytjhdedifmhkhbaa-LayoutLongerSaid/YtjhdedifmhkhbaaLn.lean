/- Slices that a function has made itself: appending, writing. Plain lemmas; no statement is claimed here. -/
import Derived.Test.YtjhdedifmhkhbaaLm
namespace Go.Lft
open Go
set_option linter.unusedSimpArgs false
set_option linter.unusedVariables false

/-- The block that a slice begins in. -/
def vb : Value → Option Nat
  | .slice (some ⟨b, _, _⟩) _ _ => some b
  | _ => none

@[simp] theorem vb_nil (n c : Nat) : vb (.slice none n c) = none := rfl
@[simp] theorem vb_some (b o n c : Nat) : vb (.slice (some ⟨b, o, none⟩) n c) = some b := rfl

/-- What was there is there, but for the block of v. -/
def Frm (v : Value) (h h' : Heap) : Prop := ∀ k p, h k = some p → vb v ≠ some k → h' k = some p

/-- A slice of n elements of k cells each that has a block of its own since h0, or is nil. -/
def Own (t k : Nat) (h0 h : Heap) (v : Value) (n : Nat) (cs : List Value) : Prop :=
  cs.length = n * k ∧ ((n = 0 ∧ v = .slice none 0 0) ∨ ∃ b c zs, v = .slice (some ⟨b, 0, none⟩) n c ∧ h0 b = none ∧ h b = some (.cells (cs ++ zs).toArray t) ∧ cs.length + zs.length = c * k ∧ n ≤ c)

theorem Own.nil (t k : Nat) (h0 h : Heap) : Own t k h0 h (.slice none 0 0) 0 [] := ⟨by simp, .inl ⟨rfl, rfl⟩⟩

theorem Own.of_lit {t k : Nat} {h0 h : Heap} {b n : Nat} {cs : List Value} (hl : cs.length = n * k) (hb : h0 b = none) : Own t k h0 (upd h b (.cells cs.toArray t)) (.slice (some ⟨b, 0, none⟩) n n) n cs :=
  ⟨hl, .inr ⟨b, n, [], rfl, hb, by simp, by simp [hl], Nat.le_refl _⟩⟩

theorem Own.keep {t k : Nat} {h0 h h' : Heap} {v : Value} {n : Nat} {cs : List Value} (ho : Own t k h0 h v n cs) (hk : ∀ b p, vb v = some b → h b = some p → h' b = some p) : Own t k h0 h' v n cs := by
  refine ⟨ho.1, ho.2.imp id ?_⟩
  rintro ⟨b, c, zs, rfl, h1, h2, h3, h4⟩
  exact ⟨b, c, zs, rfl, h1, hk b _ rfl h2, h3, h4⟩
theorem Own.ext {t k : Nat} {h0 h h' : Heap} {v : Value} {n : Nat} {cs : List Value} (ho : Own t k h0 h v n cs) (he : Ext h h') : Own t k h0 h' v n cs := ho.keep fun b p _ hp => he b p hp
/-- Another slice's block was turned. -/
theorem Own.frm {t k : Nat} {h0 h h' : Heap} {v u : Value} {n : Nat} {cs : List Value} (ho : Own t k h0 h v n cs) (hf : Frm u h h') (hne : vb v = none ∨ vb u ≠ vb v) : Own t k h0 h' v n cs :=
  ho.keep fun b p hb hp => hf b p hp (by rcases hne with h1 | h1 <;> rw [hb] at h1; cases h1; exact h1)
theorem Own.base {t k : Nat} {h0 h1 h : Heap} {v : Value} {n : Nat} {cs : List Value} (ho : Own t k h1 h v n cs) (he : Ext h0 h1) : Own t k h0 h v n cs := by
  refine ⟨ho.1, ho.2.imp id ?_⟩
  rintro ⟨b, c, zs, rfl, g1, g2, h3, h4⟩
  exact ⟨b, c, zs, rfl, ext_none he g1, g2, h3, h4⟩

theorem Own.mem {t k : Nat} {h0 h : Heap} {v : Value} {n : Nat} {cs : List Value} (ho : Own t k h0 h v n cs) : ∀ b, vb v = some b → h0 b = none ∧ ∃ p, h b = some p := by
  intro b hb
  rcases ho.2 with ⟨_, rfl⟩ | ⟨b', c, zs, rfl, h1, h2, _, _⟩
  · cases hb
  · cases hb; exact ⟨h1, _, h2⟩

theorem rd_own {h : Heap} {t b o m : Nat} {cs : List Value} (hb : h b = some (.cells cs.toArray t)) (ho : o + m ≤ cs.length) : rd h b o m = some ((cs.drop o).take m) := by
  unfold rd; rw [hb]; simp [ho]

theorem Own.cells {t k : Nat} {h0 h : Heap} {v : Value} {n : Nat} {cs : List Value} (ho : Own t k h0 h v n cs) : cellsOf h k n v = some cs := by
  obtain ⟨hl, ⟨rfl, rfl⟩ | ⟨b, c, zs, rfl, h1, h2, h3, h4⟩⟩ := ho
  · have : cs = [] := by simpa using hl
    subst this; simp [cellsOf]
  · unfold cellsOf
    split
    · rename_i h0
      have : cs = [] := by rw [h0] at hl; simpa using hl
      subst this; rfl
    · simp only
      rw [rd_own h2 (by simp; omega)]
      simp [← hl]

theorem Own.sl {t k : Nat} {h0 h : Heap} {v : Value} {n : Nat} {cs : List Value} (ho : Own t k h0 h v n cs) : Sl h k v n fun i => (cs.drop (i * k)).take k := by
  obtain ⟨hl, ⟨rfl, rfl⟩ | ⟨b, c, zs, rfl, h1, h2, h3, h4⟩⟩ := ho
  · exact ⟨.inl ⟨rfl, _, _, rfl⟩⟩
  · refine ⟨.inr ⟨b, 0, c, rfl, h4, fun i hi => ?_⟩⟩
    have hik : i * k + k ≤ n * k := by rw [← Nat.succ_mul]; exact Nat.mul_le_mul_right k hi
    rw [rd_own h2 (by simp; omega), Nat.zero_add, List.drop_append_of_le_length (by omega), List.take_append_of_le_length (by simp; omega)]

theorem Own.len {t k : Nat} {h0 h : Heap} {v : Value} {n : Nat} {cs : List Value} (ho : Own t k h0 h v n cs) : lenv v = some (.int .i64 n) := ho.sl.len

/-- The cells of a slice that holds ints. -/
theorem Sl.cells {h : Heap} {k : Nat} {v : Value} {n : Nat} {f : Nat → List Value} {cs : List Value} (hs : Sl h k v n f) (hl : cs.length = n * k) (hf : ∀ i, i < n → (cs.drop (i * k)).take k = f i) : cellsOf h k n v = some cs := by
  unfold cellsOf
  split
  · rename_i h0
    have : cs = [] := by rw [h0] at hl; simpa using hl
    subst this
    rcases hs.shape with ⟨rfl, a, c, rfl⟩ | ⟨b, o, c, rfl, _, h3⟩ <;> rfl
  · rename_i h0
    have hk : 0 < k := Nat.pos_of_ne_zero fun h => h0 (by simp [h])
    have hn : 0 < n := Nat.pos_of_ne_zero fun h => h0 (by simp [h])
    rcases hs.shape with ⟨rfl, a, c, rfl⟩ | ⟨b, o, c, rfl, _, h3⟩
    · omega
    · simp only
      -- the block
      have hblk : ∃ a t f, h b = some (.cells a t f) := by
        have := h3 0 hn
        unfold rd at this
        split at this
        · rename_i a t f hh; exact ⟨a, t, f, hh⟩
        · cases this
      obtain ⟨a, t, fm, hb⟩ := hblk
      have hget : ∀ i, i < n → o + i * k + k ≤ a.size ∧ (a.toList.drop (o + i * k)).take k = f i := by
        intro i hi
        have := h3 i hi
        unfold rd at this
        rw [hb] at this
        simp only at this
        split at this
        · rename_i hle; exact ⟨hle, Option.some.inj this⟩
        · cases this
      have hsz : o + n * k ≤ a.size := by
        have := (hget (n - 1) (by omega)).1
        have : (n - 1) * k + k = n * k := by rw [← Nat.succ_mul]; congr 1; omega
        omega
      unfold rd
      rw [hb]
      simp only
      rw [if_pos hsz]
      congr 1
      apply List.ext_getElem?
      intro j
      by_cases hj : j < n * k
      · have hq : j / k < n := (Nat.div_lt_iff_lt_mul hk).2 hj
        have hjk : j = j / k * k + j % k := by rw [Nat.mul_comm]; exact (Nat.div_add_mod j k).symm
        have hm := Nat.mod_lt j hk
        have e1 := (hget _ hq).2
        rw [← hf _ hq] at e1
        have e2 := congrArg (·[j % k]?) e1
        simp only [List.getElem?_take, hm, if_true, List.getElem?_drop] at e2
        rw [List.getElem?_take, if_pos hj, List.getElem?_drop]
        rw [show o + j = o + j / k * k + j % k by omega, e2, ← hjk]
      · rw [List.getElem?_eq_none (by simp; omega), List.getElem?_eq_none (by omega)]

theorem Ints.cells {h : Heap} {v : Value} {xs : List Int} (hv : Ints h v xs) : cellsOf h 1 xs.length v = some (xs.map (.int .i64)) :=
  Sl.cells hv (by simp) fun i hi => by
    apply List.ext_getElem?
    intro j
    cases j with
    | zero => simp [hi]
    | succ j => simp [List.getElem?_take]

/-- Appending to a slice of one's own. -/
theorem Own.app {P : Program} {Q : Ex → List Value → Heap → Prop} {e : List Value} {h0 h : Heap} {t size bytes : Nat} {z : List Value} {s x : X} {d : Option Nat} {k : S} {v y : Value} {n m : Nat} {cs news : List Value}
    (ho : Own t size h0 h v n cs) (hs : s.ev e h = some v) (hx : x.ev e h = some y) (hy : lenv y = some (.int .i64 m)) (hc : cellsOf h size m y = some news) (hm : news.length = m * size) (hone : news.all one = true)
    (hz : z.length = size) (hb : (n + m) * bytes ≤ 140737488355328) (hN : n + m ≤ 9223372036854775807) (he : Ext h0 h)
    (hk : ∀ v' h', Own t size h0 h' v' (n + m) (cs ++ news) → Ext h0 h' → Frm v h h' → (vb v' = vb v ∨ ∃ b, vb v' = some b ∧ h b = none) → k.wp P Q (put e d v') h') :
    (S.eff false d (.app t size bytes z s x) k).wp P Q e h := by
  obtain ⟨a, sc, rfl⟩ : ∃ a sc, v = .slice a n sc := by
    rcases ho.2 with ⟨rfl, rfl⟩ | ⟨b, c, zs, rfl, _⟩ <;> exact ⟨_, _, rfl⟩
  obtain ⟨ya, yc, rfl⟩ : ∃ a c, y = .slice a m c := by
    unfold lenv at hy
    split at hy
    · rename_i a l c
      have : (l : Int) = m := by simpa using hy
      have : l = m := by omega
      subst this; exact ⟨_, _, rfl⟩
    · cases hy
  refine ⟨a, n, sc, ya, m, yc, news, hs, hx, hc, hb, hN, fun hle => ?_, fun hlt => ?_⟩
  · obtain ⟨hl, hor⟩ := ho
    cases hnews : news with
    | nil =>
      subst hnews
      refine ⟨h, rfl, by simp, ?_⟩
      have hm0 : m * size = 0 := by simpa using hm.symm
      refine hk _ _ ⟨by simp [hl, Nat.add_mul, hm0], ?_⟩ he (fun _ _ h1 _ => h1) (.inl ?_)
      · rcases hor with ⟨rfl, hv⟩ | ⟨b, c, zs, hv, h1, h2, h3, h4⟩
        · cases hv; exact .inl ⟨by omega, by simp; omega⟩
        · cases hv; exact .inr ⟨b, sc, zs, rfl, h1, by simpa using h2, by simpa using h3, hle⟩
      · cases a with
        | none => rfl
        | some a => rfl
    | cons w ws =>
      rw [← hnews]
      rcases hor with ⟨rfl, hv⟩ | ⟨b, c, zs, hv, h1, h2, h3, h4⟩
      · cases hv
        have : m = 0 := by omega
        subst this
        rw [hnews] at hm; simp at hm
      · cases hv
        have hms : n * size + m * size ≤ sc * size := by rw [← Nat.add_mul]; exact Nat.mul_le_mul_right size hle
        have hsz : cs.length + news.length ≤ (cs ++ zs).toArray.size := by simp; omega
        have hw : wr0 h (some ⟨b, 0, none⟩) (n * size) news = some (upd h b (.cells (splice (cs ++ zs).toArray (n * size) news) t)) := by
          rw [hnews]
          simp only [wr0]
          rw [← hnews]
          unfold wr
          rw [h2]
          simp only
          rw [if_pos ⟨by omega, hone⟩, Nat.zero_add]
        have hsp : splice (cs ++ zs).toArray (n * size) news = ((cs ++ news) ++ zs.drop (m * size)).toArray := by
          apply Array.ext'
          rw [splice_lst (by omega)]
          simp only
          rw [← hl, List.take_left, List.drop_append, List.drop_eq_nil_of_le (by omega)]
          simp [hm]
        refine ⟨_, hw, by simp, ?_⟩
        rw [hsp]
        refine hk _ _ ⟨by simp [hl, hm, Nat.add_mul], .inr ⟨b, sc, zs.drop (m * size), rfl, h1, upd_same _ _ _, ?_, hle⟩⟩ (ext_out he h1 _) (fun k p hkp hne => ?_) (.inl rfl)
        · simp; omega
        · rw [upd_ne _ _ (by rintro rfl; exact hne rfl)]; exact hkp
  · refine ⟨cs, ho.cells, fun cap b hb hc1 hc2 => ⟨by simp, ?_⟩⟩
    have hsub : (cap - (n + m)) * size + (n + m) * size = cap * size := by rw [← Nat.add_mul]; congr 1; omega
    have harr : (cs ++ news).toArray ++ madeCells z.toArray ((cap - (n + m)) * size) = ((cs ++ news) ++ (madeCells z.toArray ((cap - (n + m)) * size)).toList).toArray := by
      apply Array.ext'; simp
    rw [harr]
    have hml : (madeCells z.toArray ((cap - (n + m)) * size)).toList.length = (cap - (n + m)) * size := by simp [madeCells]
    have hlen : (cs ++ news).length = (n + m) * size := by simp [ho.1, hm, Nat.add_mul]
    refine hk _ _ ⟨hlen, .inr ⟨b, cap, _, rfl, ext_none he hb, upd_same _ _ _, ?_, hc1⟩⟩ (ext_out he (ext_none he hb) _) (fun k p hkp _ => upd_get hkp hb) (.inr ⟨b, rfl, hb⟩)
    rw [hml, hlen]; omega

/-! ### Slices of ints of one's own -/
/-- A slice of ints that has a block of its own since h0, or is nil. -/
def OwnI (h0 h : Heap) (v : Value) (xs : List Int) : Prop := Own 3 1 h0 h v xs.length (xs.map (.int .i64))

theorem OwnI.ints {h0 h : Heap} {v : Value} {xs : List Int} (ho : OwnI h0 h v xs) : Ints h v xs := by
  have hs := Own.sl ho
  refine ⟨hs.shape.imp id ?_⟩
  rintro ⟨b, o, c, h1, h2, h3⟩
  refine ⟨b, o, c, h1, h2, fun i hi => ?_⟩
  rw [h3 i hi]
  congr 1
  apply List.ext_getElem?
  intro j
  cases j with
  | zero => simp [hi]
  | succ j => simp [List.getElem?_take]
theorem OwnI.nil (h0 h : Heap) : OwnI h0 h (.slice none 0 0) [] := Own.nil 3 1 h0 h
theorem OwnI.ext {h0 h h' : Heap} {v : Value} {xs : List Int} (ho : OwnI h0 h v xs) (he : Ext h h') : OwnI h0 h' v xs := Own.ext ho he
theorem OwnI.frm {h0 h h' : Heap} {v u : Value} {xs : List Int} (ho : OwnI h0 h v xs) (hf : Frm u h h') (hne : vb v = none ∨ vb u ≠ vb v) : OwnI h0 h' v xs := Own.frm ho hf hne
theorem OwnI.base {h0 h1 h : Heap} {v : Value} {xs : List Int} (ho : OwnI h1 h v xs) (he : Ext h0 h1) : OwnI h0 h v xs := Own.base ho he
theorem OwnI.len {h0 h : Heap} {v : Value} {xs : List Int} (ho : OwnI h0 h v xs) : lenv v = some (.int .i64 xs.length) := Own.len ho
theorem OwnI.mk {h0 h : Heap} {b : Nat} {xs : List Int} (hb : h0 b = none) : OwnI h0 (upd h b (ia 3 xs)) (.slice (some ⟨b, 0, none⟩) xs.length xs.length) xs :=
  Own.of_lit (by simp) hb

/-- Appending one int to a slice of one's own: the literal and the append together. -/
theorem OwnI.app1 {P : Program} {Q : Ex → List Value → Heap → Prop} {e : List Value} {h0 h : Heap} {b c : Nat} {s : X} {d : Option Nat} {k : S} {v : Value} {xs : List Int} {i : Nat} {y : Int}
    (ho : OwnI h0 h v xs) (hs : s.ev e (upd h b (ia 3 [y])) = some v) (hi : e.getD i undef = .slice (some ⟨b, 0, none⟩) 1 c) (hc : 1 ≤ c) (hb : h b = none) (hN : xs.length < 1000000000000) (he : Ext h0 h)
    (hk : ∀ v' h', OwnI h0 h' v' (xs ++ [y]) → Ext h0 h' → Frm v h h' → (vb v' = vb v ∨ ∃ b, vb v' = some b ∧ h b = none) → k.wp P Q (put e d v') h') :
    (S.eff false d (.app 3 1 8 [.int .i64 0] s (.var i)) k).wp P Q e (upd h b (ia 3 [y])) := by
  have hxe : Ext h (upd h b (ia 3 [y])) := fun k p hk => upd_get hk hb
  have hy : Ints (upd h b (ia 3 [y])) (.slice (some ⟨b, 0, none⟩) 1 c) [y] := ints_of_ia (upd_same _ _ _) hc
  refine Own.app (Own.ext ho hxe) hs (by rw [X.ev, hi]) rfl hy.cells (by simp) rfl (by simp) (by simp; omega) (by simp; omega) (fun k p hk => hxe k p (he k p hk)) ?_
  intro v' h' h1 h2 h3 h4
  refine hk v' h' (by simpa [OwnI] using h1) h2 (fun k p hk hne => h3 k p (hxe k p hk) hne) (h4.imp id ?_)
  rintro ⟨b', g1, g2⟩
  refine ⟨b', g1, ?_⟩
  by_cases hbb : b' = b
  · subst hbb; exact hb
  · rw [upd_ne _ _ hbb] at g2; exact g2

/-- Writing an element of a slice of one's own. -/
theorem OwnI.st {h0 h : Heap} {v : Value} {xs : List Int} {i : Nat} (ho : OwnI h0 h v xs) (he : Ext h0 h) (hi : i < xs.length) :
    ∃ p, idxv 1 v (.int .i64 i) = some p ∧ ld1v h p = some (.int .i64 (xs.getD i 0)) ∧ ∀ y, ∃ h', st1 h p (.int .i64 y) = some h' ∧ OwnI h0 h' v (xs.set i y) ∧ Frm v h h' ∧ Ext h0 h' := by
  have hin := ho.ints
  obtain ⟨hl, ⟨h0, rfl⟩ | ⟨b, c, zs, rfl, h1, h2, h3, h4⟩⟩ := ho
  · omega
  · have hidx : idxv 1 (.slice (some ⟨b, 0, none⟩) xs.length c) (.int .i64 i) = some (.pointer (some ⟨b, 0 + (i : Int).toNat * 1, none⟩)) := idx_in (by omega) (by omega)
    have hld := hin.ld hi
    rw [hidx, ob_some] at hld
    refine ⟨_, hidx, hld, fun y => ⟨_, ?_, ⟨by simp, .inr ⟨b, c, zs, ?_, h1, upd_same _ _ _, by simpa using h3, by simpa using h4⟩⟩, fun k p hk hne => ?_, ext_out he h1 _⟩⟩
    · simp only [st1]
      rw [if_pos (by rfl)]
      unfold wr
      rw [h2]
      simp only
      rw [if_pos ⟨by simp [Value.cells]; omega, rfl⟩]
      simp [splice, Value.cells, List.map_set, hi]
    · simp
    · rw [upd_ne _ _ (by rintro rfl; exact hne rfl)]; exact hk

/-! ### Frames -/
theorem OwnI.one {h0 h : Heap} {v : Value} {xs : List Int} (ho : OwnI h0 h v xs) : Lft.one v = true := ho.ints.one
/-- The block of a slice of one's own is none that was there. -/
theorem OwnI.nb {h0 h : Heap} {v : Value} {xs : List Int} (ho : OwnI h0 h v xs) {b : Nat} {p : Obj} (hb : h0 b = some p) : vb v ≠ some b := fun hv => by
  have := (Own.mem ho b hv).1; rw [hb] at this; cases this
theorem OwnI.fresh {h0 h : Heap} {v : Value} {xs : List Int} (ho : OwnI h0 h v xs) {b : Nat} (hb : h b = none) : vb v ≠ some b := fun hv => by
  obtain ⟨p, hp⟩ := (Own.mem ho b hv).2; rw [hb] at hp; cases hp
/-- Another block is turned. -/
theorem OwnI.upd {h0 h : Heap} {v : Value} {xs : List Int} (ho : OwnI h0 h v xs) {s : Nat} (hne : vb v ≠ some s) (o : Obj) : OwnI h0 (Lft.upd h s o) v xs :=
  Own.keep ho fun b p hb hp => by rw [upd_ne _ _ (by rintro rfl; exact hne hb)]; exact hp
/-- A block that appending gives is new, or the one that was. -/
theorem vb_new {h : Heap} {v v' : Value} {b : Nat} {p : Obj} (hv : vb v' = vb v ∨ ∃ b, vb v' = some b ∧ h b = none) (hb : h b = some p) (hne : vb v ≠ some b) : vb v' ≠ some b := by
  rcases hv with h1 | ⟨c, h1, h2⟩
  · rw [h1]; exact hne
  · rw [h1]; intro hc; cases hc; rw [hb] at h2; cases h2
theorem vb_apart {h h0 : Heap} {v v' u : Value} {ys : List Int} (hv : vb v' = vb v ∨ ∃ b, vb v' = some b ∧ h b = none) (hu : OwnI h0 h u ys) (hne : vb u = none ∨ vb v ≠ vb u) : vb u = none ∨ vb v' ≠ vb u := by
  rcases hne with h1 | h1
  · exact .inl h1
  · refine .inr ?_
    rcases hv with h2 | ⟨c, h2, h3⟩
    · rw [h2]; exact h1
    · rw [h2]; intro hc
      obtain ⟨p, hp⟩ := (Own.mem hu c hc.symm).2
      rw [h3] at hp; cases hp
theorem apart_symm {v u : Value} (h : vb u = none ∨ vb v ≠ vb u) : vb v = none ∨ vb u ≠ vb v := by
  by_cases hv : vb v = none
  · exact .inl hv
  · rcases h with h | h
    · exact .inr (by rw [h]; exact fun hc => hv hc.symm)
    · exact .inr (Ne.symm h)

theorem Frm.refl (v : Value) (h : Heap) : Frm v h h := fun _ _ h _ => h
theorem Frm.trans {v u : Value} {h h1 h2 : Heap} (a : Frm v h h1) (b : Frm v h1 h2) : Frm v h h2 := fun k p hk hne => b k p (a k p hk hne) hne
theorem Frm.of_ext {v : Value} {h h1 : Heap} (a : Ext h h1) : Frm v h h1 := fun k p hk _ => a k p hk
/-- A slice below the base stays. -/
theorem Ints.frm {h h' : Heap} {v u : Value} {xs : List Int} (hv : Ints h v xs) (hf : Frm u h h') (hne : vb v = none ∨ vb u ≠ vb v) : Ints h' v xs := by
  refine ⟨hv.shape.imp id ?_⟩
  rintro ⟨b, o, c, rfl, h2, h3⟩
  refine ⟨b, o, c, rfl, h2, fun i hi => ?_⟩
  have hne' : vb u ≠ some b := by rcases hne with h | h
                                  · cases h
                                  · exact h
  have := h3 i hi
  unfold rd at this ⊢
  cases hb : h b with
  | none => rw [hb] at this; cases this
  | some p => rw [hf b p hb hne']; rw [hb] at this; exact this
/-- Another block is turned. -/
theorem Ints.upd {h : Heap} {v : Value} {xs : List Int} (hv : Ints h v xs) {s : Nat} (hne : vb v ≠ some s) (o : Obj) : Ints (Lft.upd h s o) v xs := by
  refine Ints.frm (u := .slice (some ⟨s, 0, none⟩) 0 0) hv (fun k p hk hk2 => ?_) (.inr (by simpa using Ne.symm hne))
  rw [upd_ne _ _ (by rintro rfl; exact hk2 rfl)]; exact hk
end Go.Lft
