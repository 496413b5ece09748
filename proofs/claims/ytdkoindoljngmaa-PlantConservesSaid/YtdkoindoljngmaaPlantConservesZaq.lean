/- Lemmas and walks that the proof of PlantConserves uses. No statement is claimed here. -/
import Derived.Test.YtdkoindoljngmaaPlantConservesZap
namespace Go.Proofs.Ytdkoindoljngmaa
open Go Go.Lft
set_option linter.unusedSimpArgs false
set_option linter.unusedVariables false
attribute [local congr] ob_congr bw_congr ib_congr ck_congr iwA_congr itA_congr aw_congr awp_congr sqA_congr bkA_congr vr_congr gd_congr

/-- The empty plant. -/
def newS (p : Pl) : Sy := { bef := fun _ => zeros p.mt, fst := fun _ => zeros p.mt, pos := fun _ => 0, rng := fun _ _ => zeros p.mt, hal := List.replicate p.ms.length false, fed := zeros p.mt }
theorem sm_zero (n : Nat) : sm n (fun _ => (0 : Int)) = 0 := by
  induction n with
  | zero => rfl
  | succ n ih => simp only [sm, ih]; rfl
theorem new_tot (p : Pl) (x : Nat) : tot p (newS p) x = 0 := by
  unfold tot befT fstT rngT newS
  simp only [zeros_get, sm_zero]; rfl
theorem Gd.new (p : Pl) : Gd p (newS p) :=
  ⟨fun m _ => ⟨(zeros_ok _).1, fun x => by simp only [newS]; rw [zeros_get]; omega⟩, fun i _ => ⟨(zeros_ok _).1, fun x => by simp only [newS]; rw [zeros_get]; omega⟩, fun i _ q _ => ⟨(zeros_ok _).1, fun x => by simp only [newS]; rw [zeros_get]; omega⟩,
    fun i _ h => h, by simp [newS], zeros_ok _, fun x => by rw [new_tot]; omega⟩

/-! ### A plant that is being built -/
def usK (p : Pl) (k b : Nat) : Pc → Bool
  | .root => true | .bef => true | .bel => true | .hal => true | .fed => true
  | .bm m => decide (m < k)
  | .fi i => decide (i < b)
  | .re i => decide (i < b) && decide (0 < p.rl i)
  | .ri i q => decide (i < b) && decide (q < p.rl i)
theorem usK_all (p : Pl) : usK p p.ms.length p.bs.length = usd p := by funext c; cases c <;> rfl
def befK (p : Pl) (k : Nat) (ad : Ad) : List A := (List.range k).map fun m => slA (ad (.bm m)) p.mt
def belsK (p : Pl) (b : Nat) (ad : Ad) : List A := (List.range b).flatMap (cvC p ad)
def rootK (p : Pl) (k b : Nat) (ad : Ad) : List A := [.v (.int .i64 p.mt), .fs true (mcs true p.ms), .fs true (bts p.bs), .v (.int .i64 p.fd), .vs (ad .bef).1 (ad .bef).2 1 k, .vs (ad .bel).1 (ad .bel).2 2 b, slA (ad .hal) p.ms.length, slA (ad .fed) p.mt]
def ctK (p : Pl) (k b : Nat) (ad : Ad) : Pc → List A
  | .root => rootK p k b ad
  | .bef => befK p k ad
  | .bel => belsK p b ad
  | .hal => bools (List.replicate p.ms.length false)
  | .fed => ints (zeros p.mt)
  | .bm _ => ints (zeros p.mt)
  | .fi _ => ints (zeros p.mt)
  | .re i => belC (p.rl i) p.mt 0 fun q => ad (.ri i q)
  | .ri _ _ => ints (zeros p.mt)
structure PN (n : Nat) (K : List Blk) (p : Pl) (k b : Nat) (ad : Ad) : Prop where
  get : ∀ c, usK p k b c = true → blkAt K (ad c).1 (ad c).2 = some (ctK p k b ad c)
  inj : ∀ c d, usK p k b c = true → usK p k b d = true → (ad c).1 = (ad d).1 → c = d
  zr : (ad .root).2 = 0 ∧ ∀ i, (ad (.re i)).2 = 0
  hi : ∀ c, usK p k b c = true → n < (ad c).1
theorem PN.lt {n : Nat} {K : List Blk} {p : Pl} {k b : Nat} {ad : Ad} (h : PN n K p k b ad) {c : Pc} (hc : usK p k b c = true) : (ad c).1 < K.length := blkAt_lt (h.get c hc)
theorem PN.ne {n : Nat} {K : List Blk} {p : Pl} {k b : Nat} {ad : Ad} (h : PN n K p k b ad) {c d : Pc} (hc : usK p k b c = true) (hd : usK p k b d = true) (hn : c ≠ d) : (ad c).1 ≠ (ad d).1 := fun he => hn (h.inj c d hc hd he)
theorem PN.rt {n : Nat} {K : List Blk} {p : Pl} {k b : Nat} {ad : Ad} (h : PN n K p k b ad) : blkAt K (ad .root).1 0 = some (rootK p k b ad) := by have := h.get .root rfl; rw [h.zr.1] at this; exact this
theorem PN.next {n : Nat} {K K' : List Blk} {p : Pl} {k b k' b' : Nat} {ad ad' : Ad} (h : PN n K p k b ad) (hr : ad' .root = ad .root) (hz : ∀ i, (ad' (.re i)).2 = 0)
    (hold : ∀ c, usK p k b c = true → (ad' c).1 = (ad c).1) (hnew : ∀ c, usK p k' b' c = true → usK p k b c = false → K.length ≤ (ad' c).1)
    (hin : ∀ c d, usK p k' b' c = true → usK p k' b' d = true → usK p k b c = false → usK p k b d = false → (ad' c).1 = (ad' d).1 → c = d)
    (hget : ∀ c, usK p k' b' c = true → blkAt K' (ad' c).1 (ad' c).2 = some (ctK p k' b' ad' c)) : PN n K' p k' b' ad' := by
  refine ⟨hget, fun c d hc hd he => ?_, ⟨by rw [hr]; exact h.zr.1, hz⟩, fun c hc => ?_⟩
  · cases uc : usK p k b c with
    | false =>
      cases ud : usK p k b d with
      | false => exact hin c d hc hd uc ud he
      | true =>
        have h1 := hnew c hc uc
        have h2 := h.lt ud
        have h3 := hold d ud
        omega
    | true =>
      cases ud : usK p k b d with
      | false =>
        have h1 := hnew d hd ud
        have h2 := h.lt uc
        have h3 := hold c uc
        omega
      | true => exact h.inj c d uc ud (by rw [← hold c uc, ← hold d ud, he])
  · cases uc : usK p k b c with
    | false =>
      have h1 := hnew c hc uc
      have h2 := h.lt (c := .root) rfl
      have h3 := h.hi .root rfl
      omega
    | true => rw [hold c uc]; exact h.hi c uc

theorem blk_ta {K T : List Blk} {i1 i2 j : Nat} {B1 B2 : Blk} {l L : Nat} (hL : L = K.length) : blkAt ((K.set i1 B1).set i2 B2 ++ T) (L + j) l = blkAt T j l := by
  subst hL
  have := blkAt_new ((K.set i1 B1).set i2 B2) T j l
  simpa using this
theorem blk_to {K T : List Blk} {i1 i2 j l : Nat} {B1 B2 : Blk} {x : List A} (h : blkAt K j l = some x) (h1 : j ≠ i1) (h2 : j ≠ i2) : blkAt ((K.set i1 B1).set i2 B2 ++ T) j l = some x := by
  rw [blkAt_app _ _ _ _ (by simp; exact blkAt_lt h), blkAt_set_ne _ _ _ _ _ h2, blkAt_set_ne _ _ _ _ _ h1]; exact h
theorem blk_t1 {K T : List Blk} {i1 i2 v : Nat} {B2 : Blk} {x : List A} (h : i1 < K.length) (h2 : i1 ≠ i2) : blkAt ((K.set i1 ⟨v, x⟩).set i2 B2 ++ T) i1 v = some x := by
  rw [blkAt_app _ _ _ _ (by simp; exact h), blkAt_set_ne _ _ _ _ _ h2]; exact blkAt_set_same _ _ _ _ h
theorem blk_t2 {K T : List Blk} {i1 i2 v : Nat} {B1 : Blk} {x : List A} (h : i2 < K.length) : blkAt ((K.set i1 B1).set i2 ⟨v, x⟩ ++ T) i2 v = some x := by
  rw [blkAt_app _ _ _ _ (by simp; exact h)]; exact blkAt_set_same _ _ _ _ (by simpa using h)
theorem gr_t {K T : List Blk} {n i1 i2 : Nat} {B1 B2 : Blk} (h1 : n < i1) (h2 : n < i2) : Gr (fun i => n < i) K ((K.set i1 B1).set i2 B2 ++ T) :=
  ⟨by simp, fun i ver hi hn => by
    have hn' : ¬ n < i := hn
    rw [blkAt_app _ _ _ _ (by simp; exact hi), blkAt_set_ne _ _ _ _ _ (by omega), blkAt_set_ne _ _ _ _ _ (by omega)]⟩
def adM (ad : Ad) (L k : Nat) : Ad
  | .bm m => if m = k then (L, 0) else ad (.bm m)
  | .bef => ((ad .bef).1, (ad .bef).2 + 1)
  | c => ad c
def adT (ad : Ad) (L b : Nat) : Ad
  | .fi i => if i = b then (L + 1, 0) else ad (.fi i)
  | .re i => if i = b then (L + 3, 0) else ad (.re i)
  | .ri i q => if i = b then (L + (4 + q), 0) else ad (.ri i q)
  | .bel => ((ad .bel).1, (ad .bel).2 + 1)
  | c => ad c
theorem befK_app (p : Pl) (k : Nat) (ad : Ad) (L : Nat) : befK p k ad ++ [.sl L 0 1 0 p.mt] = befK p (k + 1) (adM ad L k) := by
  unfold befK
  rw [List.range_succ, List.map_append]
  congr 1
  · refine List.map_congr_left fun m hm => ?_
    have : m < k := List.mem_range.1 hm
    simp only [adM]; rw [if_neg (by omega)]
  · simp [adM, slA]
theorem befK_len (p : Pl) (k : Nat) (ad : Ad) : (befK p k ad).length = k := by simp [befK]
theorem belsK_app (p : Pl) (b : Nat) (ad : Ad) (L : Nat) : belsK p b ad ++ [.sl (L + 1) 0 1 0 p.mt, if 0 < p.rl b then .lp (L + 3) 0 0 else .v (.pointer none)] = belsK p (b + 1) (adT ad L b) := by
  unfold belsK
  rw [List.range_succ, List.flatMap_append]
  congr 1
  · rw [List.flatMap_def, List.flatMap_def]
    congr 1
    refine List.map_congr_left fun m hm => ?_
    have : m < b := List.mem_range.1 hm
    simp only [adT, cvC, if_neg (show ¬ m = b by omega)]
  · simp [adT, slA, cvC]
theorem belsK_len (p : Pl) (b : Nat) (ad : Ad) : (belsK p b ad).length = b * 2 := flat2_len _ (cvC_len p ad) _
theorem PN.addM {n : Nat} {K : List Blk} {p : Pl} {k : Nat} {ad : Ad} (h : PN n K p k 0 ad) (T : List Blk) (hT : blkAt T 0 0 = some (ints (zeros p.mt))) :
    PN n ((K.set (ad .bef).1 ⟨(ad .bef).2 + 1, befK p (k + 1) (adM ad K.length k)⟩).set (ad .root).1 ⟨0, rootK p (k + 1) 0 (adM ad K.length k)⟩ ++ T) p (k + 1) 0 (adM ad K.length k) := by
  have nb := h.ne (c := .bef) (d := .root) rfl rfl (by simp)
  have lb := h.lt (c := .bef) rfl
  have lr := h.lt (c := .root) rfl
  have ub : ∀ m, usK p k 0 (.bm m) = true → m ≠ k := fun m hm => by simp [usK] at hm; omega
  refine h.next rfl (fun i => h.zr.2 i) (fun c hc => ?_) (fun c hc hn => ?_) (fun c d hc hd hcn hdn he => ?_) (fun c hc => ?_)
  · cases c with
    | bm m => simp only [adM]; rw [if_neg (ub m hc)]
    | _ => rfl
  · cases c with
    | bm m =>
      simp [usK] at hc hn
      simp only [adM]; rw [if_pos (by omega)]; exact Nat.le_refl _
    | _ => simp_all [usK]
  · cases c with
    | bm m =>
      cases d with
      | bm m' => simp [usK] at hc hd hcn hdn; congr 1; omega
      | _ => simp_all [usK]
    | _ => simp_all [usK]
  · cases c with
    | bm m =>
      simp only [adM]
      by_cases e : m = k
      · rw [if_pos e]
        have := blk_ta (K := K) (T := T) (i1 := (ad .bef).1) (i2 := (ad .root).1) (B1 := ⟨(ad .bef).2 + 1, befK p (k + 1) (adM ad K.length k)⟩) (B2 := ⟨0, rootK p (k + 1) 0 (adM ad K.length k)⟩) (j := 0) (l := 0) rfl
        rw [Nat.add_zero] at this
        exact this.trans hT
      · rw [if_neg e]
        have hu : usK p k 0 (.bm m) = true := by simp [usK] at hc ⊢; omega
        exact blk_to (h.get _ hu) (h.ne hu rfl (by simp)) (h.ne hu rfl (by simp))
    | bef => exact blk_t1 lb nb
    | root => simp only [adM]; rw [h.zr.1]; exact blk_t2 lr
    | bel => exact blk_to (h.get .bel rfl) (h.ne rfl rfl (by simp)) (h.ne rfl rfl (by simp))
    | hal => exact blk_to (h.get .hal rfl) (h.ne rfl rfl (by simp)) (h.ne rfl rfl (by simp))
    | fed => exact blk_to (h.get .fed rfl) (h.ne rfl rfl (by simp)) (h.ne rfl rfl (by simp))
    | _ => simp [usK] at hc
theorem PN.addT {n : Nat} {K : List Blk} {p : Pl} {k b : Nat} {ad : Ad} (h : PN n K p k b ad) (T : List Blk) (hT : blkAt T 1 0 = some (ints (zeros p.mt)))
    (hR : 0 < p.rl b → blkAt T 3 0 = some (belC (p.rl b) p.mt 0 (fun q => (K.length + (4 + q), 0))) ∧ ∀ q, q < p.rl b → blkAt T (4 + q) 0 = some (ints (zeros p.mt))) :
    PN n ((K.set (ad .bel).1 ⟨(ad .bel).2 + 1, belsK p (b + 1) (adT ad K.length b)⟩).set (ad .root).1 ⟨0, rootK p k (b + 1) (adT ad K.length b)⟩ ++ T) p k (b + 1) (adT ad K.length b) := by
  have nb := h.ne (c := .bel) (d := .root) rfl rfl (by simp)
  have lb := h.lt (c := .bel) rfl
  have lr := h.lt (c := .root) rfl
  refine h.next rfl (fun i => ?_) (fun c hc => ?_) (fun c hc hn => ?_) (fun c d hc hd hcn hdn he => ?_) (fun c hc => ?_)
  · simp only [adT]; split
    · rfl
    · exact h.zr.2 i
  · cases c with
    | fi i => simp only [usK, decide_eq_true_eq] at hc; simp only [adT]; rw [if_neg (by omega)]
    | re i => simp only [usK, Bool.and_eq_true, decide_eq_true_eq] at hc; simp only [adT]; rw [if_neg (by omega)]
    | ri i q => simp only [usK, Bool.and_eq_true, decide_eq_true_eq] at hc; simp only [adT]; rw [if_neg (by omega)]
    | _ => rfl
  · cases c with
    | fi i =>
      simp [usK] at hc hn
      simp only [adT]; rw [if_pos (by omega)]; simp only; omega
    | re i =>
      simp [usK] at hc hn
      have : i = b := by
        by_cases e : i < b
        · have := hn e; omega
        · omega
      simp only [adT]; rw [if_pos this]; simp only; omega
    | ri i q =>
      simp [usK] at hc hn
      have : i = b := by
        by_cases e : i < b
        · have := hn e; omega
        · omega
      simp only [adT]; rw [if_pos this]; simp only; omega
    | _ => simp_all [usK]
  · have key : ∀ c, usK p k (b + 1) c = true → usK p k b c = false → c = .fi b ∨ c = .re b ∨ ∃ q, c = .ri b q := fun c hc hn => by
      cases c with
      | fi i => simp [usK] at hc hn; left; congr 1; omega
      | re i =>
        simp [usK] at hc hn; right; left; congr 1
        by_cases e : i < b
        · have := hn e; omega
        · omega
      | ri i q =>
        simp [usK] at hc hn; right; right; refine ⟨q, ?_⟩; congr 1
        by_cases e : i < b
        · have := hn e; omega
        · omega
      | _ => simp_all [usK]
    rcases key c hc hcn with rfl | rfl | ⟨q, rfl⟩ <;> rcases key d hd hdn with rfl | rfl | ⟨q', rfl⟩ <;> simp only [adT, if_true] at he <;> first | rfl | omega | (congr 1; omega)
  · cases c with
    | fi i =>
      simp only [adT]
      by_cases e : i = b
      · rw [if_pos e]; exact (blk_ta rfl).trans hT
      · rw [if_neg e]
        have hu : usK p k b (.fi i) = true := by simp [usK] at hc ⊢; omega
        exact blk_to (h.get _ hu) (h.ne hu rfl (by simp)) (h.ne hu rfl (by simp))
    | re i =>
      simp only [adT]
      simp only [usK, Bool.and_eq_true, decide_eq_true_eq] at hc
      by_cases e : i = b
      · subst e
        rw [if_pos rfl]
        simp only [ctK, adT, if_true]
        exact (blk_ta rfl).trans (hR hc.2).1
      · rw [if_neg e]
        have hu : usK p k b (.re i) = true := by simp [usK]; omega
        have := blk_to (T := T) (B1 := ⟨(ad .bel).2 + 1, belsK p (b + 1) (adT ad K.length b)⟩) (B2 := ⟨0, rootK p k (b + 1) (adT ad K.length b)⟩) (h.get _ hu) (h.ne hu (d := .bel) rfl (by simp)) (h.ne hu (d := .root) rfl (by simp))
        simp only [ctK, adT] at this ⊢
        simp only [if_neg e]
        exact this
    | ri i q =>
      simp only [adT]
      simp only [usK, Bool.and_eq_true, decide_eq_true_eq] at hc
      by_cases e : i = b
      · subst e
        rw [if_pos rfl]
        exact (blk_ta rfl).trans ((hR (by omega)).2 q hc.2)
      · rw [if_neg e]
        have hu : usK p k b (.ri i q) = true := by simp [usK]; omega
        exact blk_to (h.get _ hu) (h.ne hu rfl (by simp)) (h.ne hu rfl (by simp))
    | bel => exact blk_t1 lb nb
    | root => simp only [adT]; rw [h.zr.1]; exact blk_t2 lr
    | bef => exact blk_to (h.get .bef rfl) (h.ne rfl rfl (by simp)) (h.ne rfl rfl (by simp))
    | hal => exact blk_to (h.get .hal rfl) (h.ne rfl rfl (by simp)) (h.ne rfl rfl (by simp))
    | fed => exact blk_to (h.get .fed rfl) (h.ne rfl rfl (by simp)) (h.ne rfl rfl (by simp))
    | bm m =>
      have hu : usK p k b (.bm m) = true := hc
      exact blk_to (h.get _ hu) (h.ne hu rfl (by simp)) (h.ne hu rfl (by simp))
def ad0 (n : Nat) : Ad
  | .root => (n + 2, 0) | .hal => (n + 1, 0) | .fed => (n + 3, 0) | .bef => (n + 4, 0) | .bel => (n + 5, 0)
  | _ => (0, 0)
theorem PN.init (H : List Blk) (p : Pl) (B : Blk) : PN H.length (H ++ [B, ⟨0, bools (List.replicate p.ms.length false)⟩, ⟨0, rootK p 0 0 (ad0 H.length)⟩, ⟨0, ints (zeros p.mt)⟩, ⟨0, []⟩, ⟨0, []⟩]) p 0 0 (ad0 H.length) := by
  refine ⟨fun c hc => ?_, fun c d hc hd he => ?_, ⟨rfl, fun i => rfl⟩, fun c hc => ?_⟩
  · cases c <;> first | (simp [usK] at hc; done) | (simp only [ad0]; rw [blkAt_new]; rfl)
  · cases c <;> first | (simp [usK] at hc; done) | (cases d <;> first | rfl | (simp [usK] at hd; done) | (simp only [ad0] at he; omega))
  · cases c <;> first | (simp [usK] at hc; done) | (simp only [ad0]; omega)
theorem bel_sh (n len mat : Nat) : A.shL n (belC len mat 0 (newA 1)) = belC len mat 0 (newA (n + 1)) := by
  rw [shL_map]
  unfold belC belK ringC
  rw [List.map_append, List.map_map]
  congr 1
  refine List.map_congr_left fun q _ => ?_
  simp only [Function.comp, newA]
  split
  · simp only [A.sh]; congr 1; omega
  · rfl
theorem bel_cl (len mat : Nat) (ad : Nat → Nat × Nat) : A.clL (belC len mat 0 ad) = true := clL_iff.2 fun a ha => by
  rcases List.mem_append.1 ha with h | h
  · obtain ⟨q, _, rfl⟩ := List.mem_map.1 h
    split <;> rfl
  · simp only [List.mem_cons, List.not_mem_nil, or_false] at h
    rcases h with rfl | rfl | rfl <;> rfl
/-- What a new belt brings along, in memory that is there. -/
def beltN (n len mat : Nat) : List Blk := ⟨0, belC len mat 0 (newA (n + 1))⟩ :: List.replicate len ⟨0, ints (zeros mat)⟩
theorem bnew_ps {kp : Bool} {H : List Blk} {mat len : Nat} (h1 : 1 ≤ len) (h16 : len ≤ 16) (hm : 1 ≤ mat ∧ mat ≤ 16) : VR P kp n_belt_New [.v (.int .i64 len), .v (.int .i64 mat)] H (fun r H' => r = .tup [.lp H.length 0 0, .v (.int .i64 0)] ∧ H' = H ++ beltN H.length len mat) := by
  refine (bnew_vr h1 h16 hm).useO (LdL.refl rfl) ?_ ⟨rfl, ?_⟩
  · simp only [Bool.and_eq_true, List.all_eq_true]
    refine ⟨rfl, fun B hB => ?_⟩
    rcases List.mem_cons.1 hB with rfl | h
    · exact bel_cl _ _ _
    · rw [(List.mem_replicate.1 h).2]; exact ii_cl _
  · unfold beltG beltN
    rw [List.map_cons, List.map_replicate]
    simp only [Blk.sh, bel_sh, shL_bd _ (ii_bd 0 _)]
theorem beltN_at (n len mat q : Nat) (h : q < len) : blkAt (beltN n len mat) (1 + q) 0 = some (ints (zeros mat)) := by
  have : (beltN n len mat)[1 + q]? = some ⟨0, ints (zeros mat)⟩ := by
    unfold beltN
    rw [Nat.add_comm 1 q, List.getElem?_cons_succ, List.getElem?_replicate, if_pos h]
  exact blkAt_iff.2 ⟨_, this, rfl, rfl⟩
theorem Rel.cells_vs {g : Bool → Heap} {σ : Nam} {i ver k n : Nat} {v : Value} (hn : 0 < n) (h : Rel g σ (.vs i ver k n) v) : Rel g σ (.sl i ver k 0 n) v := by
  cases h with
  | vs0 => omega
  | vs i ver k n b s o' cp e1 e2 e3 => exact .sl i ver k 0 n b s o' cp e1 e2 fun hc => by have := e3 hc; omega
/-- A slice in a cell of memory that has elements is no longer told to be nil or not. -/
theorem Cut.cellS {n0 : Nat} {e : List A} {H : List Blk} (i ver j : Nat) {i' v' k n : Nat} {l : List A} (hb : blkAt H i ver = some l) (hj : l[j]? = some (.vs i' v' k n)) (hn : 0 < n) : Cut n0 e H e (H.set i (⟨ver, l.set j (.sl i' v' k 0 n)⟩ : Blk)) := by
  intro c ev hH h0 hs he
  subst hH
  obtain ⟨B, q1, q2, q3⟩ := blkAt_iff.1 hb
  subst q2; subst q3
  rcases hs.blk i B q1 with ⟨_, k0⟩ | ⟨b, s, vs, z, t, f1, f2, f3, f4, f5⟩
  · rw [k0] at hj; simp at hj
  · obtain ⟨x, hx, hxr⟩ := f5.get hj
    have h2 := f5.set j (Rel.cells_vs hn hxr)
    have h3 : vs.set j x = vs := by
      apply List.ext_getElem?
      intro i
      rw [List.getElem?_set]
      split
      · rename_i hi; subst hi
        rw [if_pos (List.getElem?_eq_some_iff.1 hx).1, hx]
      · rfl
    rw [h3] at h2
    obtain ⟨e1, e2, e3⟩ := St.turn hs n0 q1 (v' := B.ver) (b' := b) (s' := s) (t := t) (vs := vs) (z := z) (Or.inl (And.intro f1 (Nat.le_refl _))) f4 h2
    have h4 : Go.Lft.upd c.h b (.cells (vs ++ z).toArray t) = c.h := upd_self f3
    refine ⟨_, rfl, ?_, e2, e1, he.mono (fun _ => Ext.refl _) e3⟩
    simp only; exact h4

theorem both_of {A B C : Prop} (ha : C → A) (hb : C → B) (hc : C) : A ∧ B := ⟨ha hc, hb hc⟩
theorem new_vr {H : List Blk} {w v : Bool} (p : Pl) (hp : chkP p = 0) : VR P false n_plant_New [plA w v p] H (fun r H' => ∃ ad : Ad, r = .tup [.lp (ad .root).1 0 0, .v (.int .i64 0)] ∧ PM H' p ad (newS p) ∧ Gr nof H H' ∧ ∀ c, usd p c = true → H.length ≤ (ad c).1) := by
  refine vr_plant_New (by simp) (.inl rfl) fun _ _ => ?_
  have hpc := (chkP_ok hp).1
  have ok := pcheck_ok hpc
  obtain ⟨m1, m2, m3⟩ := ok.mt1
  have n1 := ok.n1
  have n2 := ok.n2
  have b2 := ok.b2
  have hck := plantCheck_vr (w := w) (v := v) p
  have hcp := copied_vr (w := w) (v := v) p hpc
  rw [hp] at hck
  unfold plA plC at *
  rw [m3] at *
  simp (disch := ((try simp only [lZ]); omega)) only [aZ, aM, s_plant_New, v_plant_New]
  refine hck.same (by simp (disch := first | omega | simp (disch := omega) only [aG, aM]) only [fZ, aM]) rfl (aret_of ?_)
  simp (disch := ((try simp only [lZ]); omega)) only [aZ, aM]
  apply both_of
  · intro hc
    refine hcp.same (by simp (disch := first | omega | simp (disch := omega) only [aG, aM]) only [fZ, aM]) (by simp (disch := first | omega | simp (disch := omega) only [aG, aM]) only [fZ, aM]) (aret_of ?_)
    simp (disch := ((try simp only [lZ]); omega)) only [aZ, aM]
    exact hc
  · intro hc
    refine hcp.same (by simp (disch := first | omega | simp (disch := omega) only [aG, aM]) only [fZ, aM]) (by simp (disch := first | omega | simp (disch := omega) only [aG, aM]) only [fZ, aM]) (aret_of ?_)
    simp (disch := ((try simp only [lZ]); omega)) only [aZ, aM]
    exact hc
  refine (empty_ps m2 (by simp (disch := ((try simp only [lZ]); omega)) only [aZ, aM]; rfl)).mono ?_
  rintro r H' ⟨rfl, hH⟩
  rw [hH]
  refine aret_of ?_
  simp (disch := ((try simp only [lZ]); omega)) only [aZ, aM]
  refine AWP.cut (Cut.virtB (H.length + 2) 0 4 1 (by simp (disch := ((try simp only [lZ]); omega)) only [aZ, aM]; rfl) rfl) ?_
  simp (disch := ((try simp only [lZ]); omega)) only [aZ, aM]
  refine AWP.cut (Cut.virtB (H.length + 2) 0 5 2 (by simp (disch := ((try simp only [lZ]); omega)) only [aZ, aM]; rfl) rfl) ?_
  simp (disch := ((try simp only [lZ]); omega)) only [aZ, aM]
  refine AWP.cut (Cut.drop 19) ?_
  simp (disch := ((try simp only [lZ]); omega)) only [aZ, aM]
  generalize hr2 : H.length + (1 + 1) = r
  have gr0 : ∀ K K' : List Blk, Gr nof H K → Gr (fun i => H.length < i) K K' → Gr nof H K' := fun K K' h1 h2 => h1.trans h2 fun i hi hf => by have : H.length < i := hf; omega
  have pa0 : ∀ (K K' : List Blk) (l : List A), blkAt K H.length 0 = some l → Gr (fun i => H.length < i) K K' → blkAt K' H.length 0 = some l := fun K K' l h1 h2 => h2.at h1 (by simp)
  refine AWP.loopM g_plant_New_0 (fun x : Nat × Ad × List Blk => x.1 ≤ p.ms.length ∧ PN H.length x.2.2 p x.1 0 x.2.1 ∧ (x.2.1 .root).1 = r ∧ Gr nof H x.2.2 ∧ blkAt x.2.2 H.length 0 = some [.v (.int .i64 p.mt), .fs w (mcs w p.ms), .fs v (bts p.bs), .v (.int .i64 p.fd)]) (fun x => [(6, .v (.int .i64 x.1))]) (fun x => x.2.2) (fun x => p.ms.length - x.1) (0, ad0 H.length, _) ⟨by omega, PN.init H p ⟨0, [.v (.int .i64 p.mt), .fs w (mcs w p.ms), .fs v (bts p.bs), .v (.int .i64 p.fd)]⟩, hr2, Gr.app _ _, by rw [blkAt_new0]; rfl⟩ ?_ ?_
  · exact Cut.fg (by simp (disch := first | omega | simp (disch := omega) only [aG, aM]) only [fZ, aM, fgl_nil, fgl_cons, or_true, true_or])
  rintro ⟨k, ad, K⟩ ⟨hk, hP, hr, hG, hB⟩
  simp only at hk hP hr hG hB
  have kr := hP.rt
  rw [hr] at kr
  have kb := hP.get .bef rfl
  simp only [ctK] at kb
  have lr := hP.lt (c := .root) rfl
  rw [hr] at lr
  have lb := hP.lt (c := .bef) rfl
  have nb := hP.ne (c := .bef) (d := .root) rfl rfl (by simp)
  rw [hr] at nb
  by_cases hlt : k < p.ms.length
  · unfold rootK slA at kr
    simp (disch := ((try simp only [lZ]); omega)) only [aZ, aM, kr]
    refine (empty_ps m2 kr).mono ?_
    rintro x H' ⟨rfl, hH⟩
    rw [hH]
    refine aret_of ?_
    have bl := befK_len p k ad
    have ap := befK_app p k ad K.length
    have tk : (befK p k ad).take k = befK p k ad := List.take_of_length_le (by omega)
    have hN := hP.addM [⟨0, ints (zeros p.mt)⟩, ⟨0, [.sl K.length 0 1 0 p.mt]⟩] rfl
    have hg := gr_t (K := K) (T := [⟨0, ints (zeros p.mt)⟩, ⟨0, [.sl K.length 0 1 0 p.mt]⟩]) (B1 := ⟨(ad .bef).2 + 1, befK p (k + 1) (adM ad K.length k)⟩) (B2 := ⟨0, rootK p (k + 1) 0 (adM ad K.length k)⟩) (hP.hi .bef rfl) (hP.hi .root rfl)
    rw [hr] at hN hg
    simp (disch := ((try simp only [lZ]); omega)) only [aZ, aM, kr, kb, bl, ap, tk]
    refine ⟨(k + 1, adM ad K.length k, _), ⟨by simp only; omega, hN, hr, gr0 _ _ hG hg, pa0 _ _ _ hB hg⟩, by simp only; omega, ?_⟩
    unfold rootK slA
    simp only [adM]
    try simp (disch := ((try simp only [lZ]); omega)) only [aZ, aM]
    exact Cut.fg (by simp (disch := first | omega | simp (disch := omega) only [aG, aM]) only [fZ, aM, fgl_nil, fgl_cons, or_true, true_or])
  have hke : k = p.ms.length := by omega
  rw [hke] at hP
  clear kr kb lr lb nb
  simp (disch := ((try simp only [lZ]); omega)) only [aZ, aM, hB]
  refine AWP.loopM g_plant_New_1 (fun x : Nat × Ad × List Blk => x.1 ≤ p.bs.length ∧ PN H.length x.2.2 p p.ms.length x.1 x.2.1 ∧ (x.2.1 .root).1 = r ∧ Gr nof H x.2.2 ∧ blkAt x.2.2 H.length 0 = some [.v (.int .i64 p.mt), .fs w (mcs w p.ms), .fs v (bts p.bs), .v (.int .i64 p.fd)]) (fun x => [(9, .v (.int .i64 x.1))]) (fun x => x.2.2) (fun x => p.bs.length - x.1) (0, ad, K) ⟨by omega, hP, hr, hG, hB⟩ ?_ ?_
  · exact Cut.fg (by simp (disch := first | omega | simp (disch := omega) only [aG, aM]) only [fZ, aM, fgl_nil, fgl_cons, or_true, true_or])
  clear hB hG hr hP hke hlt hk
  rintro ⟨b, ad, K⟩ ⟨hk, hP, hr, hG, hB⟩
  simp only at hk hP hr hG hB
  have kr := hP.rt
  rw [hr] at kr
  have kb := hP.get .bel rfl
  simp only [ctK] at kb
  have lr := hP.lt (c := .root) rfl
  rw [hr] at lr
  have lb := hP.lt (c := .bel) rfl
  have nb := hP.ne (c := .bel) (d := .root) rfl rfl (by simp)
  rw [hr] at nb
  by_cases hlt : b < p.bs.length
  · unfold rootK slA at kr
    have lp := blkAt_lt hB
    simp (disch := ((try simp only [lZ]); omega)) only [aZ, aM]
    refine (empty_ps m2 (r := r) (by simp (disch := ((try simp only [lZ]); omega)) only [aZ, aM, kr]; rfl)).mono ?_
    rintro x H' ⟨rfl, hH⟩
    rw [hH]
    refine aret_of ?_
    simp (disch := ((try simp only [lZ]); omega)) only [aZ, aM]
    have hbl := belsK_len p b ad
    have hap := belsK_app p b ad K.length
    have tk : (belsK p b ad).take (b * 2) = belsK p b ad := List.take_of_length_le (by omega)
    have hbt := ok.bt _ (mem_get b0 hlt)
    refine ib_intro (fun h1 => ?_) (fun h1 => ?_)
    · have hrl : ((p.bs.getD b b0).ln - 1) = (p.rl b : Nat) := by unfold Pl.rl; omega
      have hr0 : 0 < p.rl b := by unfold Pl.rl; omega
      have hr16 : p.rl b ≤ 16 := by have := ok.rl hlt; omega
      have hbn := fun (kp : Bool) (H : List Blk) => bnew_ps (kp := kp) (H := H) (mat := p.mt) (len := p.rl b) (by omega) hr16 ⟨m1, m2⟩
      have q1 := beltN_at (K.length + 3) (p.rl b) p.mt
      have q0 : blkAt (beltN (K.length + 3) (p.rl b) p.mt) 0 0 = some (belC (p.rl b) p.mt 0 (newA (K.length + 3 + 1))) := rfl
      simp (disch := ((try simp only [lZ]); omega)) only [aZ, aM, hrl, hB]
      refine (hbn _ _).mono ?_
      rintro x H' ⟨rfl, hH⟩
      rw [hH]
      refine aret_of ?_
      simp only [List.length_append, List.length_cons, List.length_nil, Nat.zero_add, Nat.reduceAdd]
      generalize beltN (K.length + 3) (p.rl b) p.mt = G at *
      rw [if_pos hr0] at hap
      simp (disch := ((try simp only [lZ]); omega)) only [aZ, aM, kr, kb, hbl, hap, tk]
      obtain ⟨T, hTe⟩ : ∃ T : List Blk, T = ((⟨0, [.v (.int .i64 (p.bs.getD b b0).fr), .v (.int .i64 (p.bs.getD b b0).ot), .v (.int .i64 (p.bs.getD b b0).to), .v (.int .i64 (p.bs.getD b b0).ln)]⟩ : Blk) :: ⟨0, ints (zeros p.mt)⟩ :: ⟨0, [.sl (K.length + 1) 0 1 0 p.mt, .lp (K.length + 3) 0 0]⟩ :: (G ++ [⟨0, [.sl (K.length + 1) 0 1 0 p.mt, .lp (K.length + 3) 0 0]⟩])) := ⟨_, rfl⟩
      have hT : ∀ q, q < p.rl b → blkAt T (4 + q) 0 = some (ints (zeros p.mt)) := fun q hq => by
        rw [hTe, show 4 + q = (1 + q) + 3 by omega]
        show blkAt (G ++ _) (1 + q) 0 = _
        rw [blkAt_app _ _ _ _ (blkAt_lt (q1 q hq))]; exact q1 q hq
      have hT0 : blkAt T 3 0 = some (belC (p.rl b) p.mt 0 (fun q => (K.length + (4 + q), 0))) := by
        rw [hTe]
        show blkAt (G ++ _) 0 0 = _
        rw [blkAt_app _ _ _ _ (blkAt_lt q0), q0]
        congr 2
        funext q
        simp only [newA]; congr 1; omega
      have hN := hP.addT T (by rw [hTe]; rfl) (fun _ => ⟨hT0, hT⟩)
      have hg := gr_t (K := K) (T := T) (B1 := ⟨(ad .bel).2 + 1, belsK p (b + 1) (adT ad K.length b)⟩) (B2 := ⟨0, rootK p p.ms.length (b + 1) (adT ad K.length b)⟩) (hP.hi .bel rfl) (hP.hi .root rfl)
      clear hT hT0
      subst hTe
      rw [hr] at hN hg
      refine ⟨(b + 1, adT ad K.length b, _), ⟨by simp only; omega, hN, hr, gr0 _ _ hG hg, pa0 _ _ _ hB hg⟩, by simp only; omega, ?_⟩
      unfold rootK slA
      simp only [adT]
      try simp (disch := ((try simp only [lZ]); omega)) only [aZ, aM]
      exact Cut.fg (by simp (disch := first | omega | simp (disch := omega) only [aG, aM]) only [fZ, aM, fgl_nil, fgl_cons, or_true, true_or])
    · have hrl : p.rl b = 0 := by unfold Pl.rl; omega
      rw [hrl, if_neg (by omega)] at hap
      have hN := hP.addT [⟨0, [.v (.int .i64 (p.bs.getD b b0).fr), .v (.int .i64 (p.bs.getD b b0).ot), .v (.int .i64 (p.bs.getD b b0).to), .v (.int .i64 (p.bs.getD b b0).ln)]⟩, ⟨0, ints (zeros p.mt)⟩, ⟨0, [.sl (K.length + 1) 0 1 0 p.mt, .v (.pointer none)]⟩, ⟨0, [.sl (K.length + 1) 0 1 0 p.mt, .v (.pointer none)]⟩] rfl (fun hc => by omega)
      have hg := gr_t (K := K) (T := [⟨0, [.v (.int .i64 (p.bs.getD b b0).fr), .v (.int .i64 (p.bs.getD b b0).ot), .v (.int .i64 (p.bs.getD b b0).to), .v (.int .i64 (p.bs.getD b b0).ln)]⟩, ⟨0, ints (zeros p.mt)⟩, ⟨0, [.sl (K.length + 1) 0 1 0 p.mt, .v (.pointer none)]⟩, ⟨0, [.sl (K.length + 1) 0 1 0 p.mt, .v (.pointer none)]⟩]) (B1 := ⟨(ad .bel).2 + 1, belsK p (b + 1) (adT ad K.length b)⟩) (B2 := ⟨0, rootK p p.ms.length (b + 1) (adT ad K.length b)⟩) (hP.hi .bel rfl) (hP.hi .root rfl)
      rw [hr] at hN hg
      simp (disch := ((try simp only [lZ]); omega)) only [aZ, aM, kr, kb, hbl, hap, tk]
      refine ⟨(b + 1, adT ad K.length b, _), ⟨by simp only; omega, hN, hr, gr0 _ _ hG hg, pa0 _ _ _ hB hg⟩, by simp only; omega, ?_⟩
      unfold rootK slA
      simp only [adT]
      try simp (disch := ((try simp only [lZ]); omega)) only [aZ, aM]
      exact Cut.fg (by simp (disch := first | omega | simp (disch := omega) only [aG, aM]) only [fZ, aM, fgl_nil, fgl_cons, or_true, true_or])
  have hke : b = p.bs.length := by omega
  subst hke
  have hlo := fun c hc => hP.hi c hc
  have hzr := hP.zr
  obtain ⟨hget, hinj, _, _⟩ := hP
  rw [usK_all] at hget hinj hlo
  simp (disch := ((try simp only [lZ]); omega)) only [aZ, aM, r_plant_New]
  have hm := (pcheck_ok hpc).mt1.2.2
  have e1 : (rootK p p.ms.length p.bs.length ad).set 4 (.sl (ad .bef).1 (ad .bef).2 1 0 p.ms.length) = rootC p ad := by
    unfold rootC
    rw [hm]; rfl
  have hset : ∀ c, usd p c = true → c ≠ .root → blkAt (K.set r ⟨0, rootC p ad⟩) (ad c).1 (ad c).2 = some (ctK p p.ms.length p.bs.length ad c) := fun c hc hn => by
    rw [blkAt_set_ne _ _ _ _ _ (fun he => hn (hinj c .root hc rfl (he.trans hr.symm)))]; exact hget c hc
  have P1 : PM (K.set r ⟨0, rootC p ad⟩) p ad (newS p) := by
    refine ⟨fun c hc => ?_, hinj, hzr⟩
    cases c with
    | root => rw [hr, hzr.1]; exact blkAt_set_same _ _ _ _ lr
    | _ => exact hset _ hc (by simp)
  have hc := Cut.cellS (n0 := H.length) (e := [.tup [.lp r 0 0, .v (.int .i64 0)]]) r 0 4 kr rfl n1
  rw [e1] at hc
  have h1 := hlo .root rfl
  rw [hr] at h1
  refine ⟨_, K.set r ⟨0, rootC p ad⟩, hc, ad, by rw [hr], P1, hG.trans (Gr.set (F := one r) _ _ _ rfl) fun i hi hf => ?_, fun c hc => Nat.le_of_lt (hlo c hc)⟩
  have : i = r := hf
  omega
end Go.Proofs.Ytdkoindoljngmaa
namespace Go.Proofs.Ytdkoindoljngmaa
open Go Go.Lft
set_option linter.unusedSimpArgs false
set_option linter.unusedVariables false

/-- Slot k of a belt, the first one 0. -/
def slt (p : Pl) (s : Sy) (i : Nat) : Nat → List Int
  | 0 => s.fst i
  | k + 1 => s.rng i ((s.pos i + k) % p.rl i)
theorem out_slt (p : Pl) (s : Sy) (i : Nat) : outM p s i = slt p s i (p.rl i) := by
  unfold outM Pl.nxt
  cases h : p.rl i with
  | zero => rfl
  | succ r => rw [if_pos (by omega)]; simp only [slt, h]; rfl

/-! ### A belt moves -/
theorem mod_shift {a r k : Nat} (h1 : 0 < k) (h2 : k < r) : ((a + r - 1) % r + k) % r = (a + (k - 1)) % r := by
  rw [Nat.mod_add_mod, show a + r - 1 + k = a + (k - 1) + r by omega, Nat.add_mod_right]
theorem mod_off {a r k : Nat} (h1 : 0 < k) (h2 : k < r) : ((a + r - 1) % r + k) % r ≠ (a + r - 1) % r := by
  have h3 : (a + r - 1) % r < r := Nat.mod_lt _ (by omega)
  generalize (a + r - 1) % r = b at *
  intro hc
  by_cases h : b + k < r
  · rw [Nat.mod_eq_of_lt h] at hc; omega
  · rw [Nat.mod_eq_sub_mod (by omega), Nat.mod_eq_of_lt (by omega)] at hc; omega
theorem mvA_slt (p : Pl) (s : Sy) (i j k : Nat) (hk : k ≤ p.rl j) : slt p (mvA p s i) j k = if j = i then (if k = 0 then zeros p.mt else slt p s i (k - 1)) else slt p s j k := by
  by_cases e : j = i
  · subst e
    rw [if_pos rfl]
    cases k with
    | zero => simp [slt, mvA, mov_fst, updF_same]
    | succ k =>
      rw [if_neg (by omega)]
      have hr : 0 < p.rl j := by omega
      have e1 : (mvA p s j).pos j = p.nxt s j := by simp only [mvA, movS]; rw [if_pos hr]; simp only [rolS, updF_same]; rfl
      have e2 : (mvA p s j).rng j = updF (s.rng j) (p.nxt s j) (s.fst j) := by simp only [mvA, movS]; rw [if_pos hr]; simp only [rolS, updF_same]; rfl
      simp only [slt, e1, e2]
      have hn : p.nxt s j < p.rl j := Nat.mod_lt _ hr
      cases k with
      | zero => simp only [Nat.add_zero, Nat.mod_eq_of_lt hn, updF_same]; rfl
      | succ k =>
        unfold Pl.nxt
        rw [updF_ne _ _ (mod_off (by omega) (by omega)), mod_shift (by omega) (by omega)]
        rfl
  · rw [if_neg e]
    have e0 : (mvA p s i).fst j = s.fst j := by simp only [mvA, mov_fst]; rw [updF_ne _ _ e]
    have e1 : (mvA p s i).pos j = s.pos j := by
      simp only [mvA, movS]; split
      · simp only [rolS, empS]; rw [updF_ne _ _ e]
      · rfl
    have e2 : (mvA p s i).rng j = s.rng j := by
      simp only [mvA, movS]; split
      · simp only [rolS, empS]; rw [updF_ne _ _ e]
      · rfl
    cases k with
    | zero => exact e0
    | succ k => simp only [slt, e1, e2]
theorem mvK_slt (p : Pl) (s : Sy) (i k : Nat) (hk : k ≤ p.rl i) : ∀ j, slt p (mvK p s j) i k = if i < j then (if k = 0 then zeros p.mt else slt p s i (k - 1)) else slt p s i k
  | 0 => by simp [mvK]
  | j + 1 => by
    simp only [mvK]
    rw [mvA_slt _ _ _ _ _ hk]
    by_cases e : i = j
    · subst e
      rw [if_pos rfl]
      by_cases h0 : k = 0
      · simp [h0]
      · have := mvK_slt p s i (k - 1) (by omega) i
        simp only [h0, if_false, this]; simp
    · rw [if_neg e, mvK_slt p s i k hk j]
      by_cases h : i < j
      · simp [h, show i < j + 1 by omega]
      · simp [h, show ¬ i < j + 1 by omega]
theorem mvK_out (p : Pl) (s : Sy) (j : Nat) : outM p (mvK p s j) j = outM p s j := by
  rw [out_slt, out_slt, mvK_slt _ _ _ _ (Nat.le_refl _), if_neg (by omega)]
/-- What comes to a machine from the first belts. -/
def arrK (p : Pl) (s : Sy) (m k : Nat) : List Int := tb p.mt fun x => (s.bef m).getD x 0 + sm k fun i => if tpS p i = m then (outM p s i).getD x 0 else 0
def arrL (p : Pl) (s : Sy) (m : Nat) : List Int := arrK p s m p.bs.length
theorem mvK_bef {p : Pl} (ok : POk p) {s : Sy} (h : Gd p s) {m : Nat} (hm : m < p.ms.length) : ∀ k, k ≤ p.bs.length → (mvK p s k).bef m = arrK p s m k
  | 0, _ => by
    have hl := (h.bl m hm).1
    unfold arrK
    simp only [mvK, sm]
    refine eq_of_getB 0 (by rw [tb_len, hl]) fun x hx => ?_
    rw [tb_get _ _ _ (by omega)]; omega
  | k + 1, hk => by
    have ih := mvK_bef ok h hm k (by omega)
    have ho := ((h.ok).out (i := k) (by omega)).1
    simp only [mvK, mvA]
    rw [mvK_out]
    by_cases e : m = tpS p k
    · rw [← e, updF_same, ih]
      unfold arrK
      rw [tb_plus]
      refine tb_ext fun x hx => ?_
      simp only [sm]; rw [if_pos e.symm]; omega
    · rw [updF_ne _ _ e, ih]
      unfold arrK
      refine tb_ext fun x hx => ?_
      simp only [sm]; rw [if_neg (fun hc => e hc.symm)]; omega

/-! ### The machines distribute -/
def runs (p : Pl) (s : Sy) (m : Nat) : Prop := ¬ (outsN (p.ms.getD m []) = 0 ∨ s.hal.getD m false = true)
instance (p : Pl) (s : Sy) (m : Nat) : Decidable (runs p s m) := inferInstanceAs (Decidable (¬ _))
theorem dsK_bef (p : Pl) (s : Sy) (m : Nat) : ∀ k, (dsK p s k).bef m = if m < k ∧ runs p s m then zeros p.mt else s.bef m
  | 0 => by rw [if_neg (by omega)]; rfl
  | k + 1 => by
    have ih := dsK_bef p s m k
    have hh := (dsK_hal (p := p) s k).1
    simp only [dsK, disA]
    rw [hh]
    split
    · rename_i hc
      rw [ih]
      by_cases e : m = k
      · subst e; rw [if_neg (by omega), if_neg (fun h => h.2 hc)]
      · by_cases h : m < k ∧ runs p s m
        · rw [if_pos h, if_pos ⟨by omega, h.2⟩]
        · rw [if_neg h, if_neg (fun h2 => h ⟨by omega, h2.2⟩)]
    · rename_i hc
      simp only [disS]
      by_cases e : m = k
      · subst e; rw [updF_same, if_pos ⟨by omega, hc⟩]
      · rw [updF_ne _ _ e]
        show (dsK p s k).bef m = _
        rw [ih]
        by_cases h : m < k ∧ runs p s m
        · rw [if_pos h, if_pos ⟨by omega, h.2⟩]
        · rw [if_neg h, if_neg (fun h2 => h ⟨by omega, h2.2⟩)]
/-- What a machine sends to an output, out of what is before it. -/
def prtL (p : Pl) (m : Nat) (l : List Int) (o : Nat) : List Int := (msM (p.ms.getD m []) l).getD o []
def frS (p : Pl) (i : Nat) : Nat := (p.bs.getD i b0).fr.toNat
def otS (p : Pl) (i : Nat) : Nat := (p.bs.getD i b0).ot.toNat
theorem dsK_fsts {p : Pl} (ok : POk p) (s : Sy) {i : Nat} (hi : i < p.bs.length) : ∀ k, (dsK p s k).fst i = if frS p i < k ∧ runs p s (frS p i) then prtL p (frS p i) (s.bef (frS p i)) (otS p i) else s.fst i
  | 0 => by rw [if_neg (by omega)]; rfl
  | k + 1 => by
    have ih := dsK_fsts ok s hi k
    have hh := (dsK_hal (p := p) s k).1
    have hb := ok.bt _ (mem_get b0 hi)
    have hf : (p.bs.getD i b0).fr = (frS p i : Int) := by unfold frS; omega
    simp only [dsK, disA]
    rw [hh]
    split
    · rename_i hc
      rw [ih]
      by_cases e : frS p i = k
      · rw [if_neg (by omega), if_neg (fun h => h.2 (by rw [e]; exact hc))]
      · by_cases h : frS p i < k ∧ runs p s (frS p i)
        · rw [if_pos h, if_pos ⟨by omega, h.2⟩]
        · rw [if_neg h, if_neg (fun h2 => h ⟨by omega, h2.2⟩)]
    · rename_i hc
      simp only [disS, disK]
      by_cases e : frS p i = k
      · rw [if_pos ⟨by omega, by rw [← e]; exact hb.2.2.2.1⟩, if_pos ⟨by omega, by rw [e]; exact hc⟩]
        unfold prt prtL
        rw [e, dsK_bef, if_neg (by omega)]; rfl
      · rw [if_neg (fun h => e (by omega)), ih]
        by_cases h : frS p i < k ∧ runs p s (frS p i)
        · rw [if_pos h, if_pos ⟨by omega, h.2⟩]
        · rw [if_neg h, if_neg (fun h2 => h ⟨by omega, h2.2⟩)]
theorem dsK_rng (p : Pl) (s : Sy) : ∀ k, (dsK p s k).rng = s.rng ∧ (dsK p s k).pos = s.pos
  | 0 => ⟨rfl, rfl⟩
  | k + 1 => by
    have ih := dsK_rng p s k
    simp only [dsK, disA]
    split
    · exact ih
    · exact ih

/-! ### A step -/
theorem runs_mvK (p : Pl) (s : Sy) (k m : Nat) : runs p (mvK p s k) m = runs p s m := by unfold runs; rw [(mvK_hal p s k).1]
theorem stp_bef {p : Pl} (ok : POk p) {s : Sy} (h : Gd p s) {m : Nat} (hm : m < p.ms.length) : (stpS p s).bef m = if runs p s m then zeros p.mt else arrL p s m := by
  unfold stpS arrL
  rw [dsK_bef, mvK_bef ok h hm _ (Nat.le_refl _)]
  simp only [runs_mvK]
  by_cases hr : runs p s m
  · rw [if_pos ⟨hm, hr⟩, if_pos hr]
  · rw [if_neg (fun h => hr h.2), if_neg hr]
theorem fr_lt {p : Pl} (ok : POk p) {i : Nat} (hi : i < p.bs.length) : frS p i < p.ms.length := by
  have := ok.bt _ (mem_get b0 hi)
  unfold frS; omega
theorem stp_slt0 {p : Pl} (ok : POk p) {s : Sy} (h : Gd p s) {i : Nat} (hi : i < p.bs.length) : slt p (stpS p s) i 0 = if runs p s (frS p i) then prtL p (frS p i) (arrL p s (frS p i)) (otS p i) else zeros p.mt := by
  have hf := fr_lt ok hi
  show (stpS p s).fst i = _
  unfold stpS arrL
  rw [dsK_fsts ok _ hi, mvK_bef ok h hf _ (Nat.le_refl _), mvK_fst]
  simp only [runs_mvK]
  by_cases hr : runs p s (frS p i)
  · rw [if_pos ⟨hf, hr⟩, if_pos hr]
  · rw [if_neg (fun h => hr h.2), if_neg hr, if_pos hi]
theorem stp_sltS {p : Pl} {s : Sy} {i k : Nat} (hi : i < p.bs.length) (hk : k < p.rl i) : slt p (stpS p s) i (k + 1) = slt p s i k := by
  have h1 := mvK_slt p s i (k + 1) (by omega) p.bs.length
  rw [if_pos hi, if_neg (by omega), Nat.add_sub_cancel] at h1
  rw [← h1]
  obtain ⟨e1, e2⟩ := dsK_rng p (mvK p s p.bs.length) p.ms.length
  simp only [slt, stpS, e1, e2]

/-! ### Sums over slots -/
theorem sm_front (n : Nat) (f : Nat → Int) : sm (n + 1) f = f 0 + sm n fun k => f (k + 1) := by
  induction n with
  | zero => simp [sm]
  | succ n ih => rw [show sm (n + 1 + 1) f = sm (n + 1) f + f (n + 1) from rfl, ih]; simp only [sm]; omega
theorem sm_rot1 (n : Nat) (g : Nat → Int) : sm n (fun k => g ((1 + k) % n)) = sm n g := by
  cases n with
  | zero => rfl
  | succ m =>
    rw [sm_front m g]
    simp only [sm]
    rw [show (1 + m) % (m + 1) = 0 by rw [Nat.add_comm, Nat.mod_self], Int.add_comm]
    congr 1
    exact sm_congr fun k hk => by rw [Nat.mod_eq_of_lt (by omega), Nat.add_comm]
theorem sm_rot (n : Nat) (f : Nat → Int) : ∀ c, sm n (fun k => f ((c + k) % n)) = sm n f
  | 0 => sm_congr fun k hk => by rw [Nat.zero_add, Nat.mod_eq_of_lt hk]
  | c + 1 => by
    rw [← sm_rot n f c, ← sm_rot1 n fun k => f ((c + k) % n)]
    refine sm_congr fun k hk => ?_
    rw [Nat.add_mod_mod]; congr 2; omega
theorem inB_slt (p : Pl) (s : Sy) (x i : Nat) : inB p s x i = sm (p.rl i + 1) fun k => (slt p s i k).getD x 0 := by
  rw [sm_front]
  unfold inB
  congr 1
  exact (sm_rot (p.rl i) (fun q => (s.rng i q).getD x 0) (s.pos i)).symm

/-! ### States that show the same -/
structure Eqv (p : Pl) (s t : Sy) : Prop where
  bef : ∀ m, m < p.ms.length → s.bef m = t.bef m
  slt : ∀ i, i < p.bs.length → ∀ k, k ≤ p.rl i → slt p s i k = slt p t i k
  hal : s.hal = t.hal
  fed : s.fed = t.fed
theorem Eqv.refl (p : Pl) (s : Sy) : Eqv p s s := ⟨fun _ _ => rfl, fun _ _ _ _ => rfl, rfl, rfl⟩
theorem Eqv.symm {p : Pl} {s t : Sy} (h : Eqv p s t) : Eqv p t s := ⟨fun m hm => (h.bef m hm).symm, fun i hi k hk => (h.slt i hi k hk).symm, h.hal.symm, h.fed.symm⟩
theorem Eqv.trans {p : Pl} {s t u : Sy} (h : Eqv p s t) (g : Eqv p t u) : Eqv p s u := ⟨fun m hm => (h.bef m hm).trans (g.bef m hm), fun i hi k hk => (h.slt i hi k hk).trans (g.slt i hi k hk), h.hal.trans g.hal, h.fed.trans g.fed⟩
theorem Eqv.arr {p : Pl} {s t : Sy} (h : Eqv p s t) {m : Nat} (hm : m < p.ms.length) : arrL p s m = arrL p t m := by
  unfold arrL arrK
  refine tb_ext fun x _ => ?_
  rw [h.bef m hm]
  congr 1
  refine sm_congr fun i hi => ?_
  rw [out_slt, out_slt, h.slt i hi _ (Nat.le_refl _)]
theorem Eqv.runs {p : Pl} {s t : Sy} (h : Eqv p s t) (m : Nat) : runs p s m = runs p t m := by unfold Go.Proofs.Ytdkoindoljngmaa.runs; rw [h.hal]
theorem Eqv.stp {p : Pl} (hp : pcheck p = 0) {s t : Sy} (hs : Gd p s) (ht : Gd p t) (h : Eqv p s t) : Eqv p (stpS p s) (stpS p t) := by
  have ok := pcheck_ok hp
  refine ⟨fun m hm => ?_, fun i hi k hk => ?_, ?_, ?_⟩
  · rw [stp_bef ok hs hm, stp_bef ok ht hm, h.arr hm]; simp only [h.runs m]
  · cases k with
    | zero => rw [stp_slt0 ok hs hi, stp_slt0 ok ht hi, h.arr (fr_lt ok hi)]; simp only [h.runs (frS p i)]
    | succ k => rw [stp_sltS hi (by omega), stp_sltS hi (by omega)]; exact h.slt i hi k (by omega)
  · rw [(hs.stp hp).2.2.1, (ht.stp hp).2.2.1, h.hal]
  · rw [(hs.stp hp).2.2.2, (ht.stp hp).2.2.2, h.fed]
theorem Eqv.it {p : Pl} (hp : pcheck p = 0) {s t : Sy} (hs : Gd p s) (ht : Gd p t) (h : Eqv p s t) : ∀ k, Eqv p (itS p s k) (itS p t k)
  | 0 => h
  | k + 1 => Eqv.stp hp (hs.it hp k).1 (ht.it hp k).1 (Eqv.it hp hs ht h k)
theorem Eqv.ins {p : Pl} {s t : Sy} (h : Eqv p s t) (x : Nat) : insT p s x = insT p t x := by
  unfold insT
  congr 1
  · exact sm_congr fun m hm => by unfold inM; rw [h.bef m hm]
  · exact sm_congr fun i hi => by
      rw [inB_slt, inB_slt]
      exact sm_congr fun k hk => by rw [h.slt i hi k (by omega)]
theorem Eqv.insL {p : Pl} {s t : Sy} (h : Eqv p s t) : insL p s = insL p t := tb_ext fun x _ => h.ins x
theorem Eqv.tot {p : Pl} {s t : Sy} (h : Eqv p s t) (x : Nat) : tot p s x = tot p t x := by
  unfold Go.Proofs.Ytdkoindoljngmaa.tot
  have h1 : befT p s x = befT p t x := sm_congr fun m hm => by rw [h.bef m hm]
  have h2 : ∀ u : Sy, fstT p u x + rngT p u x = sm p.bs.length (inB p u x) := fun u => by
    unfold fstT rngT; rw [← sm_add]; exact sm_congr fun i _ => rfl
  have h3 := h2 s
  have h4 := h2 t
  have h5 : sm p.bs.length (inB p s x) = sm p.bs.length (inB p t x) := sm_congr fun i hi => by
    rw [inB_slt, inB_slt]
    exact sm_congr fun k hk => by rw [h.slt i hi k (by omega)]
  omega

/-! ### Nothing is inside -/
theorem sm_zero_all {n : Nat} {f : Nat → Int} (h : ∀ i, i < n → 0 ≤ f i) (hz : sm n f = 0) {i : Nat} (hi : i < n) : f i = 0 := by
  have := sm_le h hi
  have := h i hi
  omega
theorem nil_zero {n : Nat} {l : List Int} (hl : l.length = n) (h : ∀ x, l.getD x 0 = 0) : l = zeros n :=
  eq_of_getB 0 (by rw [hl]; simp [zeros]) fun x _ => by rw [h x, zeros_get]
theorem emp_bef {p : Pl} {s : Sy} (h : Gd p s) (hz : ∀ x, insT p s x = 0) {m : Nat} (hm : m < p.ms.length) (hb : ¬ binN p m) : s.bef m = zeros p.mt := by
  refine nil_zero (h.bl m hm).1 fun x => ?_
  have h1 := sm_nn (inM_nn h x)
  have h2 := sm_nn (inB_nn h x)
  have h3 := hz x
  unfold insT at h3
  have h4 := sm_zero_all (inM_nn h x) (by omega) hm
  unfold inM at h4
  rwa [if_neg (show ¬ outsN (p.ms.getD m []) = 0 from hb)] at h4
theorem slt_ok {p : Pl} {s : Sy} (h : Gd p s) {i k : Nat} (hi : i < p.bs.length) (hk : k ≤ p.rl i) : (slt p s i k).length = p.mt ∧ ∀ x, 0 ≤ (slt p s i k).getD x 0 := by
  cases k with
  | zero => exact h.fl i hi
  | succ k => exact h.rl i hi _ (Nat.mod_lt _ (by omega))
theorem emp_slt {p : Pl} {s : Sy} (h : Gd p s) (hz : ∀ x, insT p s x = 0) {i k : Nat} (hi : i < p.bs.length) (hk : k ≤ p.rl i) : slt p s i k = zeros p.mt := by
  refine nil_zero (slt_ok h hi hk).1 fun x => ?_
  have h1 := sm_nn (inM_nn h x)
  have h2 := sm_nn (inB_nn h x)
  have h3 := hz x
  unfold insT at h3
  have h4 := sm_zero_all (inB_nn h x) (by omega) hi
  rw [inB_slt] at h4
  exact sm_zero_all (n := p.rl i + 1) (f := fun k => (slt p s i k).getD x 0) (fun q hq => (slt_ok h hi (by omega)).2 x) h4 (by omega)
theorem emp_arr {p : Pl} {s : Sy} (h : Gd p s) (hz : ∀ x, insT p s x = 0) {m : Nat} (hm : m < p.ms.length) : arrL p s m = s.bef m := by
  refine eq_of_getB 0 (by unfold arrL arrK; rw [tb_len, (h.bl m hm).1]) fun x hx => ?_
  unfold arrL arrK at hx ⊢
  rw [tb_len] at hx
  rw [tb_get _ _ _ hx, sm_congr (g := fun _ => 0) fun i hi => by rw [out_slt, emp_slt h hz hi (Nat.le_refl _), zeros_get]; split <;> rfl, sm_zero]; omega
theorem prt_zero {p : Pl} (hp : pcheck p = 0) {m : Nat} (hm : m < p.ms.length) (hb : ¬ binN p m) {o : Nat} (ho : o < outsN (p.ms.getD m [])) : prtL p m (zeros p.mt) o = zeros p.mt := by
  have hx : MixOk p.mt ((newS p).bef m) := zeros_ok _
  have h1 := prt_ok hp hm hb hx ho
  refine nil_zero h1.1 fun x => ?_
  have h2 := prt_sum hp hm hb hx x
  have h3 : ((newS p).bef m).getD x 0 = 0 := zeros_get _ _
  rw [h3] at h2
  exact sm_zero_all (f := fun o => (prt p (newS p) m o).getD x 0) (fun o ho => ((prt_ok hp hm hb hx ho).2 x).1) h2 ho
/-- While nothing is inside, a step changes nothing that shows. -/
theorem emp_fix {p : Pl} (hp : pcheck p = 0) {s : Sy} (h : Gd p s) (hz : ∀ x, insT p s x = 0) : Eqv p (stpS p s) s := by
  have ok := pcheck_ok hp
  refine ⟨fun m hm => ?_, fun i hi k hk => ?_, (h.stp hp).2.2.1, (h.stp hp).2.2.2⟩
  · rw [stp_bef ok h hm]
    split
    · rename_i hr
      exact (emp_bef h hz hm fun hb => hr (.inl hb)).symm
    · exact emp_arr h hz hm
  · rw [emp_slt h hz hi hk]
    cases k with
    | zero =>
      rw [stp_slt0 ok h hi]
      split
      · rename_i hr
        have hb : ¬ binN p (frS p i) := fun hb => hr (.inl hb)
        have hf := fr_lt ok hi
        have hbt := ok.bt _ (mem_get b0 hi)
        rw [emp_arr h hz hf, emp_bef h hz hf hb]
        exact prt_zero hp hf hb (by unfold otS frS; omega)
      · rfl
    | succ k => rw [stp_sltS hi (by omega)]; exact emp_slt h hz hi (by omega)
theorem emp_it {p : Pl} (hp : pcheck p = 0) {s : Sy} (h : Gd p s) (hz : ∀ x, insT p s x = 0) : ∀ k, Eqv p (itS p s k) s
  | 0 => Eqv.refl p s
  | k + 1 => (Eqv.stp hp (h.it hp k).1 h (emp_it hp h hz k)).trans (emp_fix hp h hz)
theorem it_add (p : Pl) (s : Sy) (j : Nat) : ∀ k, itS p s (j + k) = itS p (itS p s j) k
  | 0 => rfl
  | k + 1 => by rw [← Nat.add_assoc]; simp only [itS]; rw [it_add p s j k]
/-- What a run leaves shows what all its steps leave. -/
theorem run_eqv {p : Pl} (hp : pcheck p = 0) {s : Sy} (h : Gd p s) {k n : Nat} (hk : k ≤ n) (hz : k = n ∨ ∀ x, insT p (itS p s k) x = 0) : Eqv p (itS p s k) (itS p s n) := by
  rcases hz with rfl | hz
  · exact Eqv.refl _ _
  · rw [show n = k + (n - k) by omega, it_add]
    exact (emp_it hp (h.it hp k).1 hz (n - k)).symm
end Go.Proofs.Ytdkoindoljngmaa
namespace Go.Proofs.Ytdkoindoljngmaa
open Go Go.Lft
set_option linter.unusedSimpArgs false
set_option linter.unusedVariables false

/-! ### What leaves -/
def binT (p : Pl) (s : Sy) (x : Nat) : Int := sm p.ms.length fun m => if outsN (p.ms.getD m []) = 0 then (s.bef m).getD x 0 else 0
theorem tot_ins (p : Pl) (s : Sy) (x : Nat) : tot p s x = insT p s x + binT p s x := by
  unfold tot insT binT befT
  have h1 : (sm p.ms.length fun m => (s.bef m).getD x 0) = sm p.ms.length (inM p s x) + sm p.ms.length fun m => if outsN (p.ms.getD m []) = 0 then (s.bef m).getD x 0 else 0 := by
    rw [← sm_add]
    refine sm_congr fun m hm => ?_
    unfold inM; split <;> omega
  have h2 : fstT p s x + rngT p s x = sm p.bs.length (inB p s x) := by
    unfold fstT rngT; rw [← sm_add]; exact sm_congr fun i _ => rfl
  omega
/-! ### On the way -/
/-! ### A period -/
/-! ### All materials -/
end Go.Proofs.Ytdkoindoljngmaa
namespace Go.Proofs.Ytdkoindoljngmaa
open Go Go.Lft
set_option linter.unusedSimpArgs false
set_option linter.unusedVariables false
attribute [local congr] ob_congr bw_congr ib_congr ck_congr iwA_congr itA_congr aw_congr awp_congr sqA_congr bkA_congr vr_congr gd_congr

/-! ### Feeding, taking, halting -/
theorem fitE_ok {mt : Nat} {fed xs : List Int} (h : fitE mt fed xs = 0) : MixOk mt xs ∧ ∀ x, fed.getD x 0 + xs.getD x 0 ≤ 1073741824 ∨ mt ≤ x := by
  have h1 := (fitE_zero h).2
  have hl := (fitE_zero h).1
  refine ⟨h1, fun x => ?_⟩
  by_cases hx : x < mt
  · left
    unfold fitE at h
    split at h
    · cases h
    split at h
    · cases h
    split at h
    · cases h
    rename_i h3
    apply Classical.byContradiction
    intro hc
    exact h3 ⟨x, by omega, by omega⟩
  · right; omega
theorem feed_tot {p : Pl} (ok : POk p) {s : Sy} (h : Gd p s) {xs : List Int} (hx : xs.length = p.mt) (x : Nat) : tot p (feedS p s xs) x = tot p s x + xs.getD x 0 := by
  have hfd := ok.fd
  have ht : p.fd.toNat < p.ms.length := by omega
  have h1 : befT p (feedS p s xs) x = befT p s x + xs.getD x 0 := by
    unfold befT
    rw [sm_upd (fun m => (s.bef m).getD x 0) (fun m => ((feedS p s xs).bef m).getD x 0) ht fun j hj _ => by simp only [feedS]; rw [updF_ne _ _ hj]]
    simp only [feedS, updF_same]
    rw [plus_get (h.bl _ ht).1 hx]; omega
  have h2 : fstT p (feedS p s xs) x = fstT p s x := rfl
  have h3 : rngT p (feedS p s xs) x = rngT p s x := rfl
  unfold tot; omega
/-- Nothing is there that was not fed. -/
def Iv (p : Pl) (s : Sy) : Prop := Gd p s ∧ ∀ x, tot p s x ≤ s.fed.getD x 0
theorem Iv.new (p : Pl) : Iv p (newS p) := ⟨Gd.new p, fun x => by rw [new_tot]; show (0 : Int) ≤ (zeros p.mt).getD x 0; rw [zeros_get]; exact Int.le_refl _⟩
theorem Iv.feed {p : Pl} (ok : POk p) {s : Sy} (h : Iv p s) {xs : List Int} (he : fitE p.mt s.fed xs = 0) : Iv p (feedS p s xs) := by
  obtain ⟨g, hf⟩ := h
  obtain ⟨e1, e2⟩ := fitE_ok he
  have hfd := ok.fd
  have ht : p.fd.toNat < p.ms.length := by omega
  have hfed : ∀ x, (plusM s.fed xs).getD x 0 = s.fed.getD x 0 + xs.getD x 0 := fun x => plus_get g.fd.1 e1.1 x
  have hbd : ∀ x, s.fed.getD x 0 + xs.getD x 0 ≤ 1073741824 := fun x => by
    rcases e2 x with h1 | h1
    · exact h1
    · rw [get_out g.fd.1 h1, get_out e1.1 h1]; omega
  refine ⟨⟨fun m hm => ?_, g.fl, g.rl, g.ps, g.hl, ⟨by show (plusM s.fed xs).length = _; rw [plusM_len]; exact g.fd.1, fun x => ?_⟩, fun x => ?_⟩, fun x => ?_⟩
  · simp only [feedS]
    by_cases e : m = p.fd.toNat
    · rw [e, updF_same]
      have hb := g.bl _ ht
      refine ⟨by rw [plusM_len]; exact hb.1, fun x => ?_⟩
      rw [plus_get hb.1 e1.1]
      have := hb.2 x
      have := (e1.2 x).1
      omega
    · rw [updF_ne _ _ e]; exact g.bl m hm
  · simp only [feedS]; rw [hfed]
    have := hbd x
    have := (g.fd.2 x).1
    have := (e1.2 x).1
    omega
  · rw [feed_tot ok g e1.1]
    have := hf x
    have := hbd x
    omega
  · rw [feed_tot ok g e1.1]
    show _ ≤ (plusM s.fed xs).getD x 0
    rw [hfed]
    have := hf x
    omega
theorem take_tot {p : Pl} {s : Sy} (h : Gd p s) {m : Int} {xs : List Int} (he : takE p s m xs = 0) (x : Nat) : tot p (takS s m xs) x = tot p s x - xs.getD x 0 ∧ xs.length = p.mt ∧ 0 ≤ xs.getD x 0 ∧ xs.getD x 0 ≤ (s.bef m.toNat).getD x 0 ∧ (m.toNat < p.ms.length ∧ 0 ≤ m) ∧ (dnM (s.bef m.toNat) xs xs.length).getD x 0 = (s.bef m.toNat).getD x 0 - xs.getD x 0 := by
  unfold takE at he
  split at he
  · contradiction
  rename_i h1
  split at he
  · cases he
  rename_i h2
  split at he
  · cases he
  rename_i h3
  have hm : 0 ≤ m ∧ m.toNat < p.ms.length := by
    have h0 := Classical.not_not.1 h1
    unfold fndE at h0
    split at h0
    · cases h0
    · omega
  have hl : xs.length = p.mt := by omega
  have hb := h.bl _ hm.2
  have hd : (dnM (s.bef m.toNat) xs xs.length).getD x 0 = (s.bef m.toNat).getD x 0 - xs.getD x 0 := by
    by_cases hx : x < p.mt
    · rw [dnM_get _ _ _ _ (by omega), if_pos (by omega)]
    · rw [get_out (n := p.mt) (by rw [dnM_len]; exact hb.1) (by omega), get_out hb.1 (by omega), get_out hl (by omega)]; rfl
  have hxs : 0 ≤ xs.getD x 0 ∧ xs.getD x 0 ≤ (s.bef m.toNat).getD x 0 := by
    by_cases hx : x < xs.length
    · have : ¬ badT (s.bef m.toNat) xs x := fun hc => h3 ⟨x, hx, hc⟩
      unfold badT at this; omega
    · rw [get_out rfl (by omega)]
      have := hb.2 x
      omega
  refine ⟨?_, hl, hxs.1, hxs.2, ⟨hm.2, hm.1⟩, hd⟩
  have h1 : befT p (takS s m xs) x = befT p s x - xs.getD x 0 := by
    unfold befT
    rw [sm_upd (fun m => (s.bef m).getD x 0) (fun j => ((takS s m xs).bef j).getD x 0) hm.2 fun j hj _ => by simp only [takS]; rw [updF_ne _ _ hj]]
    simp only [takS, updF_same]
    rw [hd]; omega
  have h2 : fstT p (takS s m xs) x = fstT p s x := rfl
  have h3 : rngT p (takS s m xs) x = rngT p s x := rfl
  unfold tot; omega
theorem Iv.take {p : Pl} {s : Sy} (h : Iv p s) {m : Int} {xs : List Int} (he : takE p s m xs = 0) : Iv p (takS s m xs) := by
  obtain ⟨g, hf⟩ := h
  have ht := fun x => take_tot g he x
  refine ⟨⟨fun j hj => ?_, g.fl, g.rl, g.ps, g.hl, g.fd, fun x => ?_⟩, fun x => ?_⟩
  · simp only [takS]
    by_cases e : j = m.toNat
    · rw [e, updF_same]
      have hb := g.bl _ (ht 0).2.2.2.2.1.1
      refine ⟨by rw [dnM_len]; exact hb.1, fun x => ?_⟩
      have := ht x
      rw [this.2.2.2.2.2]; omega
    · rw [updF_ne _ _ e]; exact g.bl j hj
  · have := ht x
    have := g.tt x
    omega
  · have := ht x
    have := hf x
    show _ ≤ s.fed.getD x 0
    omega
theorem Iv.halt {p : Pl} {s : Sy} (h : Iv p s) (m : Int) (b : Bool) : Iv p (hltS s m b) := ⟨⟨h.1.bl, h.1.fl, h.1.rl, h.1.ps, by simp only [hltS, List.length_set]; exact h.1.hl, h.1.fd, h.1.tt⟩, h.2⟩
theorem Iv.it {p : Pl} (hp : pcheck p = 0) {s : Sy} (h : Iv p s) (k : Nat) : Iv p (itS p s k) := by
  obtain ⟨g1, g2, g3, g4⟩ := h.1.it hp k
  exact ⟨g1, fun x => by rw [g2, g4]; exact h.2 x⟩

/-! ### Calls, for laws -/
/-- A run, by what shows. -/
theorem run_e {H : List Blk} {p : Pl} {ad : Ad} {s : Sy} (hp : pcheck p = 0) (h : PM H p ad s) (hg : Iv p s) (n : Nat) (hn : n ≤ 100000) :
    VR P false n_plant_Plant_Run [.lp (ad .root).1 0 0, .v (.int .i64 n)] H (fun r H' => r = .v (.int .i64 0) ∧ ∃ (s' : Sy) (ad' : Ad), PM H' p ad' s' ∧ Tr p H ad H' ad' ∧ Iv p s' ∧ Eqv p s' (itS p s n)) :=
  (run_m hp h hg.1 n hn).mono fun r H' ⟨h1, k, ad', h2, h3, h4, h5⟩ => ⟨h1, itS p s k, ad', h3, h4, hg.it hp k, run_eqv hp hg.1 h2 h5⟩
def feedR (p : Pl) (s : Sy) (xs : List Int) : Sy := if fitE p.mt s.fed xs = 0 then feedS p s xs else s
theorem Iv.feedR {p : Pl} (ok : POk p) {s : Sy} (h : Iv p s) (xs : List Int) : Iv p (feedR p s xs) := by
  unfold Go.Proofs.Ytdkoindoljngmaa.feedR
  split
  · rename_i he; exact h.feed ok he
  · exact h
theorem feed_f {w : Bool} {H : List Blk} {p : Pl} {ad : Ad} {s : Sy} (hp : pcheck p = 0) (h : PM H p ad s) (hg : Iv p s) {xs : List Int} :
    VR P false n_plant_Plant_Feed [.lp (ad .root).1 0 0, .fs w (ints xs)] H (fun r H' => r = .v (.int .i64 (fitE p.mt s.fed xs)) ∧ PM H' p ad (feedR p s xs) ∧ Tr p H ad H' ad) := by
  unfold feedR
  by_cases he : fitE p.mt s.fed xs = 0
  · rw [if_pos he, he]; exact feed_fs hp h hg.1 he
  · rw [if_neg he]
    exact (feed_fs_err hp h hg.1 he).mono fun r H' ⟨h1, h2⟩ => ⟨h1, h2 ▸ h, h2 ▸ Tr.refl _ _⟩
theorem feed_s {j v : Nat} {H : List Blk} {p : Pl} {ad : Ad} {s : Sy} (hp : pcheck p = 0) (h : PM H p ad s) (hg : Iv p s) {xs : List Int} (hj : blkAt H j v = some (ints xs)) (hj2 : ¬ ftp p ad j) :
    VR P false n_plant_Plant_Feed [.lp (ad .root).1 0 0, .sl j v 1 0 xs.length] H (fun r H' => r = .v (.int .i64 (fitE p.mt s.fed xs)) ∧ PM H' p ad (feedR p s xs) ∧ Tr p H ad H' ad) := by
  unfold feedR
  by_cases he : fitE p.mt s.fed xs = 0
  · rw [if_pos he, he]; exact feed_sl hp h hg.1 hj hj2 he
  · rw [if_neg he]
    exact (feed_sl_err hp h hg.1 hj hj2 he).mono fun r H' ⟨h1, h2⟩ => ⟨h1, h2 ▸ h, h2 ▸ Tr.refl _ _⟩

/-! ### The first example -/
def loopP : Pl := ⟨1, [[[600, 400]], [[]]], [⟨0, 0, 1, 1⟩, ⟨0, 1, 0, 2⟩], 0⟩
theorem loop_vr : VR P false n_law35_loop [] [] (isR (plA true true loopP)) := by
  refine vr_law35_loop (by simp) (.inr rfl) fun _ _ => ?_
  simp (disch := ((try simp only [lZ]); omega)) only [aZ, aM, s_law35_loop, v_law35_loop, r_law35_loop]
  refine post0 (fz_all ?_) ⟨rfl, rfl⟩
  simp [zZ, blkAt, flatA, A.cells, A.one, Lft.one, retA, A.bdL, A.bd, loopP, plA, plC, mcs, mcA, mcC, bts, btA, btC, rows, ints]
theorem loop_chk : chkP loopP = 0 := by decide +kernel
theorem loop_bnd : bndR loopP 10 = (30, 0) := by decide +kernel
theorem loop_fit : fitE loopP.mt (newS loopP).fed [10] = 0 := by decide +kernel
theorem loop_bin : (itS loopP (feedS loopP (newS loopP) [10]) 3).bef 1 = [6] := by decide +kernel
theorem loop_ins : insL loopP (itS loopP (feedS loopP (newS loopP) [10]) 3) = [4] := by decide +kernel
end Go.Proofs.Ytdkoindoljngmaa
namespace Go.Proofs.Ytdkoindoljngmaa
open Go Go.Lft
set_option linter.unusedSimpArgs false
set_option linter.unusedVariables false
attribute [local congr] ob_congr bw_congr ib_congr ck_congr iwA_congr itA_congr aw_congr awp_congr sqA_congr bkA_congr vr_congr gd_congr

theorem PM.nftp {H : List Blk} {p : Pl} {ad : Ad} {s : Sy} (h : PM H p ad s) {j : Nat} (hj : H.length ≤ j) : ¬ ftp p ad j := by
  rintro ⟨c, hc, he⟩
  have := h.lt hc
  omega
theorem nftp_lo {p : Pl} {ad : Ad} {n j : Nat} (h : ∀ c, usd p c = true → n ≤ (ad c).1) (hj : j < n) : ¬ ftp p ad j := by
  rintro ⟨c, hc, he⟩
  have := h c hc
  omega
theorem example35_vr : VR P false n_law35_exampleHolds [] [] (isR (.v (.bool true))) := by
  refine vr_law35_exampleHolds (by simp) (.inr rfl) fun _ _ => ?_
  have hpc := (chkP_ok loop_chk).1
  have ok := pcheck_ok hpc
  have hnw := new_vr (H := []) (w := true) (v := true) loopP loop_chk
  have hbd := plantBound_vr (w := true) (v := true) loopP 10
  rw [loop_bnd] at hbd
  have hlp := loop_vr
  have hpb : A.bd 0 (plA true true loopP) = true := plA_bd _ _ _ _
  have hpb2 : (plA true true loopP).cl = true := by decide +kernel
  generalize hA : plA true true loopP = pa at *
  simp (disch := ((try simp only [lZ]); omega)) only [aZ, aM, s_law35_exampleHolds, v_law35_exampleHolds]
  refine hlp.same (by simp (disch := first | omega | simp (disch := omega) only [aG, aM]) only [fZ, aM]) (by rw [hpb, hpb2]; rfl) (aret_of ?_)
  simp (disch := ((try simp only [lZ]); omega)) only [aZ, aM]
  refine hnw.mono ?_
  rintro r H1 ⟨ad, rfl, P1, G1, L1⟩
  refine aret_of ?_
  simp (disch := ((try simp only [lZ]); omega)) only [aZ, aM]
  refine hlp.same (by simp (disch := first | omega | simp (disch := omega) only [aG, aM]) only [fZ, aM]) (by rw [hpb, hpb2]; rfl) (aret_of ?_)
  simp (disch := ((try simp only [lZ]); omega)) only [aZ, aM]
  refine hbd.same (by simp [A.bdL, hpb, A.bd]) rfl (aret_of ?_)
  simp (disch := ((try simp only [lZ]); omega)) only [aZ, aM]
  have I1 := Iv.new loopP
  have hf := feed_s (s := newS loopP) (j := H1.length) (v := 0) (xs := [10]) hpc (P1.grow [⟨0, ints [10]⟩]) I1 (by rw [blkAt_new0]; rfl) (P1.nftp (Nat.le_refl _))
  rw [loop_fit] at hf
  unfold feedR at hf
  rw [if_pos loop_fit] at hf
  refine hf.mono ?_
  rintro r H2 ⟨rfl, P2, T2⟩
  refine aret_of ?_
  simp (disch := ((try simp only [lZ]); omega)) only [aZ, aM]
  have I2 := I1.feed ok loop_fit
  have hr := run_e hpc P2 I2 3 (by omega)
  refine hr.mono ?_
  rintro r H3 ⟨rfl, s3, ad3, P3, T3, I3, E3⟩
  refine aret_of ?_
  have hb := bin_ok ok P3 I3.1.ok 1 (by decide +kernel)
  have hi := fun (H' : List Blk) (P : PM H' loopP ad3 s3) => inside_m hpc P I3.1
  rw [T3.2.2] at hb hi
  simp (disch := ((try simp only [lZ]); omega)) only [aZ, aM]
  refine hb.mono ?_
  rintro r H4 ⟨rfl, hH⟩
  rw [hH]
  have e1 : s3.bef (1 : Int).toNat = [6] := by rw [← loop_bin]; exact E3.bef 1 (by decide)
  have e2 : insL loopP s3 = [4] := by rw [← loop_ins]; exact E3.insL
  have e3 : loopP.mt = 1 := rfl
  rw [e1, e3]
  refine aret_of ?_
  have hi1 := hi _ (P3.grow [⟨1, ints [6]⟩])
  rw [e2, e3] at hi1
  have g6 : ([6] : List Int).getD 0 0 = 6 := rfl
  have g4 : ([4] : List Int).getD 0 0 = 4 := rfl
  simp (disch := ((try simp only [lZ]); omega)) only [aZ, aM, g6]
  refine hi1.mono ?_
  rintro r H5 ⟨rfl, G5, O5⟩
  have P5 : PM H5 loopP ad3 s3 := (P3.grow [⟨1, ints [6]⟩]).gr G5 fun _ _ h => h
  have hi2 := hi _ P5
  rw [e2, e3] at hi2
  refine aret_of ?_
  simp (disch := ((try simp only [lZ]); omega)) only [aZ, aM]
  refine hi2.mono ?_
  rintro r H6 ⟨rfl, G6, O6⟩
  refine aret_of ?_
  simp (disch := ((try simp only [lZ]); omega)) only [aZ, aM, O6, g4, r_law35_exampleHolds]
  exact post_v ⟨rfl, rfl⟩
end Go.Proofs.Ytdkoindoljngmaa
namespace Go.Proofs.Ytdkoindoljngmaa
open Go Go.Lft
set_option linter.unusedSimpArgs false
set_option linter.unusedVariables false
attribute [local congr] ob_congr bw_congr ib_congr ck_congr iwA_congr itA_congr aw_congr awp_congr sqA_congr bkA_congr vr_congr gd_congr

def litP (p : Pl) : Prop := p.ms.length ≤ 12 ∧ p.bs.length ≤ 24
instance (p : Pl) : Decidable (litP p) := inferInstanceAs (Decidable (_ ∧ _))
theorem insL_len (p : Pl) (s : Sy) : (insL p s).length = p.mt := tb_len _ _
end Go.Proofs.Ytdkoindoljngmaa
namespace Go.Proofs.Ytdkoindoljngmaa
open Go Go.Lft
set_option linter.unusedSimpArgs false
set_option linter.unusedVariables false
attribute [local congr] ob_congr bw_congr ib_congr ck_congr iwA_congr itA_congr aw_congr awp_congr sqA_congr bkA_congr vr_congr gd_congr

theorem clamp_nat (st : Int) (b : Nat) : ∃ n : Nat, max 0 (min st b) = (n : Int) ∧ n ≤ b := ⟨(max 0 (min st b)).toNat, by omega, by omega⟩
end Go.Proofs.Ytdkoindoljngmaa
namespace Go.Proofs.Ytdkoindoljngmaa
open Go Go.Lft
set_option linter.unusedSimpArgs false
set_option linter.unusedVariables false
attribute [local congr] ob_congr bw_congr ib_congr ck_congr iwA_congr itA_congr aw_congr awp_congr sqA_congr bkA_congr vr_congr gd_congr

/-- Two plants that share no memory. -/
structure Two (K : List Blk) (p : Pl) (a : Ad) (s : Sy) (b : Ad) (t : Sy) : Prop where
  l : PM K p a s
  r : PM K p b t
  d : ∀ i, ftp p a i → ¬ ftp p b i
theorem ftp_lt {K : List Blk} {p : Pl} {a : Ad} {s : Sy} (h : PM K p a s) {i : Nat} (hi : ftp p a i) : i < K.length := by
  obtain ⟨c, hc, rfl⟩ := hi; exact h.lt hc
theorem Two.swap {K : List Blk} {p : Pl} {a b : Ad} {s t : Sy} (h : Two K p a s b t) : Two K p b t a s := ⟨h.r, h.l, fun i hb ha => h.d i ha hb⟩
theorem Two.left {K K' : List Blk} {p : Pl} {a b a' : Ad} {s t s' : Sy} (h : Two K p a s b t) (hP : PM K' p a' s') (hT : Tr p K a K' a') : Two K' p a' s' b t :=
  ⟨hP, h.r.gr hT.1 fun c hc hf => h.d _ hf ⟨c, hc, rfl⟩, fun i ha hb => by
    rcases hT.2.1 i ha with h1 | h1
    · have := ftp_lt h.r hb; omega
    · exact h.d i h1 hb⟩
theorem Two.right {K K' : List Blk} {p : Pl} {a b b' : Ad} {s t t' : Sy} (h : Two K p a s b t) (hP : PM K' p b' t') (hT : Tr p K b K' b') : Two K' p a s b' t' := (h.swap.left hP hT).swap
theorem Two.gr {K K' : List Blk} {p : Pl} {a b : Ad} {s t : Sy} (h : Two K p a s b t) (g : Gr nof K K') : Two K' p a s b t := ⟨h.l.gr g fun _ _ h => h, h.r.gr g fun _ _ h => h, h.d⟩
/-! ### What a bin shows -/
theorem Eqv.feedR {p : Pl} (ok : POk p) {s t : Sy} (h : Eqv p s t) (xs : List Int) : Eqv p (feedR p s xs) (feedR p t xs) := by
  unfold Go.Proofs.Ytdkoindoljngmaa.feedR
  rw [h.fed]
  split
  · have hfd := ok.fd
    refine ⟨fun m hm => ?_, h.slt, h.hal, ?_⟩
    · simp only [feedS]
      by_cases e : m = p.fd.toNat
      · rw [e, updF_same, updF_same, h.bef _ (by omega)]
      · rw [updF_ne _ _ e, updF_ne _ _ e]; exact h.bef m hm
    · simp only [feedS, h.fed]
  · exact h
end Go.Proofs.Ytdkoindoljngmaa
namespace Go.Proofs.Ytdkoindoljngmaa
open Go Go.Lft
set_option linter.unusedSimpArgs false
set_option linter.unusedVariables false
attribute [local congr] ob_congr bw_congr ib_congr ck_congr iwA_congr itA_congr aw_congr awp_congr sqA_congr bkA_congr vr_congr gd_congr

structure Op where
  k : Int
  m : Int
  n : Int
  mx : List Int
def op0 : Op := ⟨0, 0, 0, []⟩
def opC (o : Op) : List A := [.v (.int .i64 o.k), .v (.int .i64 o.m), .v (.int .i64 o.n), .fs true (ints o.mx)]
def opA (o : Op) : A := .agg (opC o)
def ops (l : List Op) : List A := l.map opA
theorem op_len (l : List Op) : (ops l).length = l.length := by simp [ops]
theorem op_idx (w : Bool) (l : List Op) (kk : IntKind) (j : Int) (h1 : 0 ≤ j) (h2 : j < l.length) : idxA 4 (.fs w (ops l)) (.v (.int kk j)) = some (.fp w [.v (.int .i64 (l.getD j.toNat op0).k), .v (.int .i64 (l.getD j.toNat op0).m), .v (.int .i64 (l.getD j.toNat op0).n), .fs true (ints (l.getD j.toNat op0).mx)]) :=
  map_idx 4 w l op0 kk j opC (fun _ => rfl) (fun _ => rfl) h1 h2
theorem op_bd (n : Nat) (l : List Op) : A.bdL n (ops l) = true := map_bd n l fun o => by simp [opA, opC, A.bd, A.bdL, ii_bd]
theorem op_cl (l : List Op) : A.clL (ops l) = true := map_cl l fun o => by simp [opA, opC, A.cl, A.clL, ii_cl]
theorem aO : type_of% (And.intro @op_len <| And.intro @op_idx <| And.intro @op_bd <| @op_cl) := And.intro @op_len <| And.intro @op_idx <| And.intro @op_bd <| @op_cl

theorem lightL_vr {w v : Bool} (p : Pl) (l : List Op) : VR P false n_law35_light [plA w v p, .fs true (ops l)] [] (isR (.v (.bool (decide (litP p ∧ l.length ≤ 30))))) := by
  refine vr_law35_light (by simp) (.inr rfl) fun _ _ => ?_
  unfold plA plC litP
  simp (disch := ((try simp only [lZ]); omega)) only [aZ, aM, s_law35_light, v_law35_light, r_law35_light, aO]
  refine post_v ⟨?_, rfl⟩
  congr 3
  simp; omega
theorem ref35Bin_vr {w v : Bool} (p : Pl) (m : Nat) (hm : m < p.ms.length) : VR P false n_ref35_Bin [plA w v p, .v (.int .i64 m)] [] (isR (.v (.bool (decide (binN p m))))) := by
  refine vr_ref35_Bin (by simp) (.inr rfl) fun _ _ => ?_
  unfold plA plC binN
  simp (disch := ((try simp only [lZ]); omega)) only [aZ, aM, s_ref35_Bin, v_ref35_Bin]
  refine (refOuts_vr (w := w) (p.ms.getD m [])).same (by unfold mcA mcC; simp (disch := first | omega | simp (disch := omega) only [aG, aM]) only [fZ, aM]) rfl (aret_of ?_)
  simp (disch := ((try simp only [lZ]); omega)) only [aZ, aM, r_ref35_Bin]
  refine post_v ⟨?_, rfl⟩
  congr 3
  simp
theorem binErr_vr {w v : Bool} (p : Pl) (m : Int) : VR P false n_ref35_BinError [plA w v p, .v (.int .i64 m)] [] (isR (.v (.int .i64 (fndE p m)))) := by
  refine vr_ref35_BinError (by simp) (.inr rfl) fun _ _ => ?_
  have hb := ref35Bin_vr (w := w) (v := v) p m.toNat
  unfold fndE
  unfold plA plC at *
  by_cases h1 : m < 0 ∨ (p.ms.length : Int) ≤ m
  · rw [if_pos h1]
    simp (disch := ((try simp only [lZ]); omega)) only [aZ, aM, s_ref35_BinError, v_ref35_BinError, decide_eq_true h1, r_ref35_BinError]
    exact post_v ⟨rfl, rfl⟩
  rw [if_neg h1]
  have hm : m.toNat < p.ms.length := by omega
  have hb := hb hm
  rw [Int.toNat_of_nonneg (by omega)] at hb
  simp (disch := ((try simp only [lZ]); omega)) only [aZ, aM, s_ref35_BinError, v_ref35_BinError, decide_eq_false h1]
  refine hb.same (by simp (disch := first | omega | simp (disch := omega) only [aG, aM]) only [fZ, aM]) rfl (aret_of ?_)
  by_cases h2 : binN p m.toNat
  · rw [if_neg (fun hc => hc h2), decide_eq_true h2]
    simp (disch := ((try simp only [lZ]); omega)) only [aZ, aM, r_ref35_BinError]
    exact post_v ⟨rfl, rfl⟩
  · rw [if_pos h2, decide_eq_false h2]
    simp (disch := ((try simp only [lZ]); omega)) only [aZ, aM, r_ref35_BinError]
    exact post_v ⟨rfl, rfl⟩

/-! ### More of calls, for laws -/
def haltR (p : Pl) (s : Sy) (m : Int) (b : Bool) : Sy := if hltE p m = 0 then hltS s m b else s
theorem halt_a {H : List Blk} {p : Pl} {ad : Ad} {s : Sy} (ok : POk p) (h : PM H p ad s) (hg : Iv p s) (m : Int) (b : Bool) : VR P false n_plant_Plant_Halt [.lp (ad .root).1 0 0, .v (.int .i64 m), .v (.bool b)] H (fun r H' => r = .v (.int .i64 (hltE p m)) ∧ PM H' p ad (haltR p s m b) ∧ Tr p H ad H' ad) := by
  unfold haltR
  by_cases he : hltE p m = 0
  · rw [if_pos he, he]; exact halt_pm ok h hg.1 m b he
  · rw [if_neg he]
    exact (halt_err ok h m b he).mono fun r H' ⟨h1, h2⟩ => ⟨h1, h2 ▸ h, h2 ▸ Tr.refl _ _⟩
theorem Iv.haltR {p : Pl} {s : Sy} (h : Iv p s) (m : Int) (b : Bool) : Iv p (haltR p s m b) := by
  unfold Go.Proofs.Ytdkoindoljngmaa.haltR
  split
  · exact h.halt m b
  · exact h
theorem halt_tot (p : Pl) (s : Sy) (m : Int) (b : Bool) (x : Nat) : tot p (haltR p s m b) x = tot p s x ∧ (haltR p s m b).fed = s.fed := by
  unfold haltR; split <;> exact ⟨rfl, rfl⟩
end Go.Proofs.Ytdkoindoljngmaa
namespace Go.Proofs.Ytdkoindoljngmaa
open Go Go.Lft
set_option linter.unusedSimpArgs false
set_option linter.unusedVariables false

def tyOps : Ty := (.sl (.st [(.int .i64), (.int .i64), (.int .i64), (.sl (.int .i64))]))
theorem tyOps_is : tyOps.Is Try.prog 49 := by
  unfold tyOps
  simp only [Ty.Is]
  refine ⟨51, Try.underlying49, by kernel_rfl, by decide, ?_⟩
  refine ⟨_, Try.underlying51, by kernel_rfl, ?_⟩
  simp only [Ty.IsL, Ty.Is]
  refine ⟨by first | rfl | trivial, by kernel_rfl, ?_, ?_⟩
  ·
    exact Try.underlying3
  refine ⟨by first | rfl | trivial, by kernel_rfl, ?_, ?_⟩
  ·
    exact Try.underlying3
  refine ⟨by first | rfl | trivial, by kernel_rfl, ?_, ?_⟩
  ·
    exact Try.underlying3
  refine ⟨by first | rfl | trivial, by kernel_rfl, ?_, ?_⟩
  ·
    refine ⟨3, Try.underlying27, by kernel_rfl, by decide, ?_⟩
    exact Try.underlying3
  trivial
theorem op_of {ce : List A} (h : (Ty.st [.int .i64, .int .i64, .int .i64, .sl (.int .i64)]).Sh true ce) : ∃ o : Op, (Ty.st [.int .i64, .int .i64, .int .i64, .sl (.int .i64)]).pk ce = opA o ∧ (fit o.k ∧ fit o.m ∧ fit o.n ∧ o.mx.length ≤ maxLen) := by
  simp only [Ty.Sh, Ty.ShL] at h
  obtain ⟨_, _, rfl, ⟨k, rfl, hk⟩, _, _, rfl, ⟨m, rfl, hm⟩, _, _, rfl, ⟨n, rfl, hn⟩, a, b, rfl, h, rfl⟩ := h
  obtain ⟨l, h1, h2, h3⟩ := ints_of (w := true) (ce := a) (by simp only [Ty.Sh]; exact h)
  obtain ⟨L, rfl, _⟩ := h
  refine ⟨⟨k, m, n, l⟩, ?_, wf_i64 hk, wf_i64 hm, wf_i64 hn, h2⟩
  rw [show (Ty.sl (.int .i64)).pk [A.fs true (L.map (Ty.int .i64).pk)] = .fs true (L.map (Ty.int .i64).pk) from rfl] at h1
  show A.agg _ = A.agg _
  rw [List.append_nil, h1]; rfl
theorem ops_of {es : List A} (h : tyOps.Sh true es) : ∃ l : List Op, tyOps.pk es = .fs true (ops l) ∧ l.length ≤ maxLen ∧ ∀ o ∈ l, fit o.k ∧ fit o.m ∧ fit o.n ∧ o.mx.length ≤ maxLen := by
  unfold tyOps at h ⊢
  simp only [Ty.Sh] at h
  obtain ⟨L, rfl, hn, h⟩ := h
  obtain ⟨l, h1, h2, h3⟩ := list_of (w := true) _ opA _ (fun ce hce => op_of hce) L (fun ce hce => by simp only [Ty.Sh]; exact h ce hce)
  exact ⟨l, by show A.fs true _ = _; rw [h1]; rfl, by omega, h3⟩
end Go.Proofs.Ytdkoindoljngmaa
namespace Go.Proofs.Ytdkoindoljngmaa
open Go Go.Lft
set_option linter.unusedSimpArgs false
set_option linter.unusedVariables false
attribute [local congr] ob_congr bw_congr ib_congr ck_congr iwA_congr itA_congr aw_congr awp_congr sqA_congr bkA_congr vr_congr gd_congr

theorem feedR_dif {p : Pl} (ok : POk p) {s : Sy} (h : Iv p s) (xs : List Int) (x : Nat) : tot p (feedR p s xs) x - (feedR p s xs).fed.getD x 0 = tot p s x - s.fed.getD x 0 := by
  unfold feedR
  split
  · rename_i he
    obtain ⟨e1, e2⟩ := fitE_ok he
    rw [feed_tot ok h.1 e1.1]
    show _ - (plusM s.fed xs).getD x 0 = _
    rw [plus_get h.1.fd.1 e1.1]; omega
  · rfl
theorem it_dif {p : Pl} (hp : pcheck p = 0) {s s' : Sy} (h : Iv p s) {n : Nat} (e : Eqv p s' (itS p s n)) (x : Nat) : tot p s' x = tot p s x ∧ s'.fed = s.fed := by
  obtain ⟨g1, g2, g3, g4⟩ := h.1.it hp n
  exact ⟨(e.tot x).trans (g2 x), e.fed.trans g4⟩
theorem fnd_bin {p : Pl} {m : Nat} (hm : m < p.ms.length) : fndE p m = 0 ↔ outsN (p.ms.getD m []) = 0 := by
  unfold fndE
  rw [if_neg (by omega), Int.toNat_natCast]
  by_cases h : binN p m
  · rw [if_neg (fun hc => hc h)]; exact ⟨fun _ => h, fun _ => rfl⟩
  · rw [if_pos h]; exact ⟨fun hc => (by cases hc), fun hc => absurd hc h⟩

/-- What PlantConserves keeps: the plant, and a list of what was taken. -/
structure CInv (p : Pl) (a : Ad) (s : Sy) (tk : List Int) (T : Nat) (K : List Blk) : Prop where
  pm : PM K p a s
  iv : Iv p s
  b0 : blkAt K 0 0 = some [.v (.int .i64 p.mt), .fs true (mcs true p.ms), .fs true (bts p.bs), .v (.int .i64 p.fd)]
  n0 : ¬ ftp p a 0
  bT : blkAt K T 0 = some (ints tk)
  nT : ¬ ftp p a T
  T0 : 0 < T
  len : tk.length = p.mt
  sum : ∀ x, tot p s x + tk.getD x 0 = s.fed.getD x 0
  nn : ∀ x, 0 ≤ tk.getD x 0
theorem CInv.grow {p : Pl} {a : Ad} {s : Sy} {tk : List Int} {T : Nat} {K : List Blk} (h : CInv p a s tk T K) (G : List Blk) : CInv p a s tk T (K ++ G) :=
  ⟨h.pm.grow G, h.iv, by rw [blkAt_app _ _ _ _ (blkAt_lt h.b0)]; exact h.b0, h.n0, by rw [blkAt_app _ _ _ _ (blkAt_lt h.bT)]; exact h.bT, h.nT, h.T0, h.len, h.sum, h.nn⟩
/-- The plant turns, and the balance stays. -/
theorem CInv.step {p : Pl} {a a' : Ad} {s s' : Sy} {tk : List Int} {T : Nat} {K K' : List Blk} (h : CInv p a s tk T K) (hP : PM K' p a' s') (hI : Iv p s') (hT : Tr p K a K' a') (hd : ∀ x, tot p s' x - s'.fed.getD x 0 = tot p s x - s.fed.getD x 0) : CInv p a' s' tk T K' := by
  have h1 := hT.keep h.b0 h.n0
  have h2 := hT.keep h.bT h.nT
  exact ⟨hP, hI, h1.1, h1.2, h2.1, h2.2, h.T0, h.len, fun x => by have := h.sum x; have := hd x; omega, h.nn⟩

def binM (p : Pl) (s : Sy) (x m : Nat) : Int := if outsN (p.ms.getD m []) = 0 then (s.bef m).getD x 0 else 0
theorem tb_self {n : Nat} (l : List Int) (hl : l.length = n) : tb n (fun y => l.getD y 0 + sm 0 fun _ => (0 : Int)) = l := by
  refine eq_of_getB 0 (by rw [tb_len, hl]) fun x hx => ?_
  rw [tb_len] at hx
  rw [tb_get _ _ _ hx]; simp only [sm]; omega
theorem plantConserves_vr (p : Pl) (l : List Op) : VR P false n_law35_PlantConserves [plA true true p, .fs true (ops l)] [] (isR (.v (.bool true))) := by
  refine vr_law35_PlantConserves (by simp) (.inr rfl) fun _ _ => ?_
  have hlt := lightL_vr (w := true) (v := true) p l
  have hck := ref35Check_vr (w := true) (v := true) p
  have hnw := fun H => new_vr (H := H) (w := true) (v := true) p
  have hbe := binErr_vr (w := true) (v := true) p
  have hex := example35_vr
  unfold plA plC at *
  simp (disch := ((try simp only [lZ]); omega)) only [aZ, aM, aO, s_law35_PlantConserves, v_law35_PlantConserves]
  refine hlt.same (by simp (disch := first | omega | simp (disch := omega) only [aG, aM, aO]) only [fZ, aM, aO]) rfl (aret_of ?_)
  by_cases hl : litP p ∧ l.length ≤ 30
  case neg =>
    simp (disch := ((try simp only [lZ]); omega)) only [aZ, aM, aO, decide_eq_false hl]
    refine hex.same rfl rfl (aret_of ?_)
    simp (disch := ((try simp only [lZ]); omega)) only [aZ, aM, aO, r_law35_PlantConserves]
    exact post_v ⟨rfl, rfl⟩
  simp (disch := ((try simp only [lZ]); omega)) only [aZ, aM, aO, decide_eq_true hl]
  refine hck.same (by simp (disch := first | omega | simp (disch := omega) only [aG, aM, aO]) only [fZ, aM, aO]) rfl (aret_of ?_)
  by_cases hc : chkP p = 0
  case neg =>
    simp (disch := ((try simp only [lZ]); omega)) only [aZ, aM, aO, decide_eq_true (show ¬ chkP p = 0 from hc)]
    refine hex.same rfl rfl (aret_of ?_)
    simp (disch := ((try simp only [lZ]); omega)) only [aZ, aM, aO, r_law35_PlantConserves]
    exact post_v ⟨rfl, rfl⟩
  have hpc := (chkP_ok hc).1
  have ok := pcheck_ok hpc
  obtain ⟨m1, m2, m3⟩ := ok.mt1
  have n2 := ok.n2
  have hl30 := hl.2
  simp (disch := ((try simp only [lZ]); omega)) only [aZ, aM, aO, hc]
  refine (hnw _ hc).mono ?_
  rintro r K0 ⟨a0, rfl, P0, G0, L0⟩
  have B0 : blkAt K0 0 0 = some [.v (.int .i64 p.mt), .fs true (mcs true p.ms), .fs true (bts p.bs), .v (.int .i64 p.fd)] ∧ ¬ ftp p a0 0 := ⟨by rw [← m3]; exact G0.at rfl (fun h => h), nftp_lo L0 (by simp)⟩
  clear L0 G0
  refine aret_of ?_
  rw [m3] at hbe hck hlt ⊢
  obtain ⟨T, hT⟩ : ∃ T, T = K0.length := ⟨_, rfl⟩
  have hT0 : 0 < T := by rw [hT]; exact blkAt_lt B0.1
  have hb0 := B0.1
  simp (disch := ((try simp only [lZ]); omega)) only [aZ, aM, aO, hb0]
  rw [← hT]
  obtain ⟨B0, N0⟩ := B0
  have I0 := Iv.new p
  have hc0 : ∀ x, tot p (newS p) x + (zeros p.mt).getD x 0 = (newS p).fed.getD x 0 := fun x => by
    rw [new_tot]
    show (0 : Int) + (zeros p.mt).getD x 0 = (zeros p.mt).getD x 0
    omega
  refine AWP.loopM g_law35_PlantConserves_0 (fun x : Nat × Ad × Sy × List Int × List Blk => x.1 ≤ l.length ∧ CInv p x.2.1 x.2.2.1 x.2.2.2.1 T x.2.2.2.2 ∧ (x.2.1 .root).1 = (a0 .root).1) (fun x => [(7, .v (.int .i64 x.1))]) (fun x => x.2.2.2.2) (fun x => l.length - x.1) (0, a0, newS p, zeros p.mt, K0 ++ [⟨0, ints (zeros p.mt)⟩]) ⟨by omega, ⟨P0.grow _, I0, by rw [blkAt_app _ _ _ _ (blkAt_lt B0)]; exact B0, N0, by rw [hT, blkAt_new0]; rfl, by rw [hT]; exact P0.nftp (Nat.le_refl _), hT0, by simp, hc0, fun x => by rw [zeros_get]; exact Int.le_refl _⟩, rfl⟩ ?_ ?_
  · exact Cut.fg (by simp (disch := first | omega | simp (disch := omega) only [aG, aM, aO]) only [fZ, aM, aO, fgl_nil, fgl_cons, or_true, true_or])
  rintro ⟨k, a, s, tk, K⟩ ⟨hk, C, ra⟩
  simp only at hk C ra
  by_cases hlt2 : k < l.length
  · have hoi := op_idx true l .i64 k (by omega) (by omega)
    rw [Int.toNat_natCast] at hoi
    generalize l.getD k op0 = o at hoi
    have C1 := C.grow [⟨0, [.v (.int .i64 o.k), .v (.int .i64 o.m), .v (.int .i64 o.n), .fs true (ints o.mx)]⟩]
    have hfin : ∀ (a' : Ad) (s' : Sy) (tk' : List Int) (K' : List Blk), CInv p a' s' tk' T K' → (a' .root).1 = (a .root).1 → (k + 1 ≤ l.length ∧ CInv p a' s' tk' T K' ∧ (a' .root).1 = (a0 .root).1) := fun a' s' tk' K' h1 h2 => ⟨by omega, h1, h2.trans ra⟩
    by_cases h0 : o.k = 0
    · have hf := feed_f (w := true) hpc C1.pm C1.iv (xs := o.mx)
      rw [ra] at hf
      simp (disch := ((try simp only [lZ]); omega)) only [aZ, aM, aO, hoi, decide_eq_true h0]
      refine hf.mono ?_
      rintro r K' ⟨_, P', T'⟩
      have C2 := C1.step P' (C1.iv.feedR ok o.mx) T' fun x => feedR_dif ok C1.iv o.mx x
      refine aret_of ?_
      simp (disch := ((try simp only [lZ]); omega)) only [aZ, aM, aO]
      refine ⟨(k + 1, a, _, tk, K'), hfin _ _ _ _ C2 rfl, by simp only; omega, ?_⟩
      try simp (disch := ((try simp only [lZ]); omega)) only [aZ, aM, aO]
      exact Cut.fg (by simp (disch := first | omega | simp (disch := omega) only [aG, aM, aO]) only [fZ, aM, aO, fgl_nil, fgl_cons, or_true, true_or])
    by_cases h1 : o.k = 1 ∨ o.k = 2
    · obtain ⟨n, hn, hn40⟩ := clamp_nat o.n 40
      have hn' : max 0 (min o.n 40) = (n : Int) := hn
      have hr := run_e hpc C1.pm C1.iv n (by omega)
      rw [ra] at hr
      have hd1 : ∀ (K' : List Blk) (s' : Sy) (a' : Ad), PM K' p a' s' → Iv p s' → Tr p _ a K' a' → Eqv p s' (itS p s n) → CInv p a' s' tk T K' := fun K' s' a' P' I' T' E' => C1.step P' I' T' fun x => by
        obtain ⟨e1, e2⟩ := it_dif hpc C1.iv E' x
        rw [e1, e2]
      rcases h1 with h1 | h1
      · simp (disch := ((try simp only [lZ]); omega)) only [aZ, aM, aO, hoi, decide_eq_false h0, decide_eq_true h1, hn']
        refine hr.mono ?_
        rintro r K' ⟨_, s', a', P', T', I', E'⟩
        have C2 := hd1 K' s' a' P' I' T' E'
        refine aret_of ?_
        simp (disch := ((try simp only [lZ]); omega)) only [aZ, aM, aO]
        refine ⟨(k + 1, a', s', tk, K'), hfin _ _ _ _ C2 (congrArg Prod.fst T'.2.2), by simp only; omega, ?_⟩
        try simp (disch := ((try simp only [lZ]); omega)) only [aZ, aM, aO]
        exact Cut.fg (by simp (disch := first | omega | simp (disch := omega) only [aG, aM, aO]) only [fZ, aM, aO, fgl_nil, fgl_cons, or_true, true_or])
      · simp (disch := ((try simp only [lZ]); omega)) only [aZ, aM, aO, hoi, decide_eq_false h0, decide_eq_true h1, decide_eq_false (show ¬ o.k = 1 by omega), hn']
        refine hr.mono ?_
        rintro r K' ⟨_, s', a', P', T', I', E'⟩
        have C2 := hd1 K' s' a' P' I' T' E'
        refine aret_of ?_
        simp (disch := ((try simp only [lZ]); omega)) only [aZ, aM, aO]
        refine ⟨(k + 1, a', s', tk, K'), hfin _ _ _ _ C2 (congrArg Prod.fst T'.2.2), by simp only; omega, ?_⟩
        try simp (disch := ((try simp only [lZ]); omega)) only [aZ, aM, aO]
        exact Cut.fg (by simp (disch := first | omega | simp (disch := omega) only [aG, aM, aO]) only [fZ, aM, aO, fgl_nil, fgl_cons, or_true, true_or])
    have n1 : ¬ o.k = 1 := fun h => h1 (.inl h)
    have n2' : ¬ o.k = 2 := fun h => h1 (.inr h)
    by_cases h3 : o.k = 3
    · have hh := fun b => halt_a ok C1.pm C1.iv o.m b
      rw [ra] at hh
      simp (disch := ((try simp only [lZ]); omega)) only [aZ, aM, aO, hoi, decide_eq_false h0, decide_eq_false n1, decide_eq_false n2', decide_eq_true h3]
      refine (hh _).mono ?_
      rintro r K' ⟨_, P', T'⟩
      have C2 := C1.step P' (C1.iv.haltR o.m _) T' fun x => by rw [(halt_tot p s o.m _ x).1, (halt_tot p s o.m _ x).2]
      refine aret_of ?_
      simp (disch := ((try simp only [lZ]); omega)) only [aZ, aM, aO]
      refine ⟨(k + 1, a, _, tk, K'), hfin _ _ _ _ C2 rfl, by simp only; omega, ?_⟩
      try simp (disch := ((try simp only [lZ]); omega)) only [aZ, aM, aO]
      exact Cut.fg (by simp (disch := first | omega | simp (disch := omega) only [aG, aM, aO]) only [fZ, aM, aO, fgl_nil, fgl_cons, or_true, true_or])
    by_cases h4 : o.k = 4
    case neg =>
      simp (disch := ((try simp only [lZ]); omega)) only [aZ, aM, aO, hoi, decide_eq_false h0, decide_eq_false n1, decide_eq_false n2', decide_eq_false h3, decide_eq_false h4]
      refine ⟨(k + 1, a, s, tk, _), hfin _ _ _ _ C1 rfl, by simp only; omega, ?_⟩
      try simp (disch := ((try simp only [lZ]); omega)) only [aZ, aM, aO]
      exact Cut.fg (by simp (disch := first | omega | simp (disch := omega) only [aG, aM, aO]) only [fZ, aM, aO, fgl_nil, fgl_cons, or_true, true_or])
    have ht := take_pm (w := true) hpc C1.pm C1.iv.1 o.m o.mx
    rw [ra] at ht
    have hn4 : Nat := 0
    simp (disch := ((try simp only [lZ]); omega)) only [aZ, aM, aO, hoi, decide_eq_false h0, decide_eq_false n1, decide_eq_false n2', decide_eq_false h3, decide_eq_true h4]
    have O1 : blkAt (K ++ [(⟨0, [.v (.int .i64 o.k), .v (.int .i64 o.m), .v (.int .i64 o.n), .fs true (ints o.mx)]⟩ : Blk)]) K.length 0 = some [.v (.int .i64 o.k), .v (.int .i64 o.m), .v (.int .i64 o.n), .fs true (ints o.mx)] := by rw [blkAt_new0]; rfl
    have ON := C.pm.nftp (Nat.le_refl K.length)
    have lT := blkAt_lt C.bT
    refine ht.mono ?_
    rintro r K' ⟨rfl, P', T'⟩
    have O2 := (T'.keep O1 ON).1
    refine aret_of ?_
    by_cases he : takE p s o.m o.mx = 0
    case neg =>
      rw [if_neg he] at P'
      have C2 := C1.step P' C1.iv T' fun x => rfl
      simp (disch := ((try simp only [lZ]); omega)) only [aZ, aM, aO, decide_eq_false he]
      refine ⟨(k + 1, a, s, tk, K'), hfin _ _ _ _ C2 rfl, by simp only; omega, ?_⟩
      try simp (disch := ((try simp only [lZ]); omega)) only [aZ, aM, aO]
      exact Cut.fg (by simp (disch := first | omega | simp (disch := omega) only [aG, aM, aO]) only [fZ, aM, aO, fgl_nil, fgl_cons, or_true, true_or])
    rw [if_pos he] at P'
    have tt := fun x => take_tot C1.iv.1 he x
    have xl := (tt 0).2.1
    have bT' := (T'.keep C1.bT C1.nT)
    have b0' := (T'.keep C1.b0 C1.n0)
    have fdb := fun x => C.iv.1.fd.2 x
    have tkl := C.len
    have lT' := blkAt_lt bT'.1
    have hse := blk_self bT'.1
    have sums := C.sum
    have nns := C.nn
    have tnn := fun x => (C.iv.1.parts x)
    simp (disch := ((try simp only [lZ]); omega)) only [aZ, aM, aO, decide_eq_true he, b0'.1, O2, decide_eq_false (show ¬ ((o.mx.length : Int) ≠ p.mt) by omega)]
    refine AWP.loopM g_law35_PlantConserves_1 (fun j : Nat => j ≤ tk.length) (fun j => [(17, .v (.int .i64 j))]) (fun j => K'.set T ⟨0, ints (upM tk o.mx j)⟩) (fun j => tk.length - j) 0 (by omega) ?_ ?_
    · rw [upM_zero, hse]
      exact Cut.fg (by simp (disch := first | omega | simp (disch := omega) only [aG, aM, aO]) only [fZ, aM, aO, fgl_nil, fgl_cons, or_true, true_or])
    rintro j hj
    have ul := upM_len tk o.mx j
    have aT : blkAt (K'.set T ⟨0, ints (upM tk o.mx j)⟩) T 0 = some (ints (upM tk o.mx j)) := blkAt_set_same _ _ _ _ lT'
    have aO : blkAt (K'.set T ⟨0, ints (upM tk o.mx j)⟩) K.length 0 = some [.v (.int .i64 o.k), .v (.int .i64 o.m), .v (.int .i64 o.n), .fs true (ints o.mx)] := by rw [blkAt_set_ne _ _ _ _ _ (by omega)]; exact O2
    by_cases hjt : j < tk.length
    · have e0 : (upM tk o.mx j).getD j 0 = tk.getD j 0 := by rw [upM_get _ _ _ _ hjt, if_neg (by omega)]
      have e1 := upM_set tk o.mx j hjt
      have q1 := tt j
      have q2 := sums j
      have q3 := nns j
      have q4 := fdb j
      have q5 := tnn j
      have q6 := C.iv.1.tt j
      have q7 : (s.bef o.m.toNat).getD j 0 ≤ 1073741824 := ((C.iv.1.ok.bef _ q1.2.2.2.2.1.1).2 j).2
      have q8 : 0 ≤ tot p s j := by unfold tot; omega
      simp (disch := ((try simp only [lZ]); omega)) only [aZ, aM, aO, aT, aO, e0, e1]
      refine ⟨j + 1, by omega, by omega, ?_⟩
      try simp (disch := ((try simp only [lZ]); omega)) only [aZ, aM, aO]
      exact Cut.fg (by simp (disch := first | omega | simp (disch := omega) only [aG, aM, aO]) only [fZ, aM, aO, fgl_nil, fgl_cons, or_true, true_or])
    have hje : j = tk.length := by omega
    subst hje
    have C2 : CInv p a (takS s o.m o.mx) (plusM tk o.mx) T (K'.set T ⟨0, ints (plusM tk o.mx)⟩) :=
      ⟨P'.gr (Gr.set (F := one T) _ _ _ rfl) fun c hc hf => C1.nT ⟨c, hc, hf⟩, C1.iv.take he, by rw [blkAt_set_ne _ _ _ _ _ (by have := C.T0; omega)]; exact b0'.1, b0'.2, blkAt_set_same _ _ _ _ lT', bT'.2, C.T0, by rw [plusM_len]; exact tkl, fun x => by
        rw [(tt x).1, plus_get tkl xl]
        have := sums x
        show _ = s.fed.getD x 0
        omega, fun x => by
        rw [plus_get tkl xl]
        have := nns x
        have := (tt x).2.2.1
        omega⟩
    rw [upM_all _ _ _ (Nat.le_refl _)]
    simp (disch := ((try simp only [lZ]); omega)) only [aZ, aM, aO]
    refine ⟨(k + 1, a, _, plusM tk o.mx, _), hfin _ _ _ _ C2 rfl, by simp only; omega, ?_⟩
    try simp (disch := ((try simp only [lZ]); omega)) only [aZ, aM, aO]
    exact Cut.fg (by simp (disch := first | omega | simp (disch := omega) only [aG, aM, aO]) only [fZ, aM, aO, fgl_nil, fgl_cons, or_true, true_or])
  have hke : k = l.length := by omega
  subst hke
  clear hc0 I0 P0 N0
  obtain ⟨cP, cI, cB, cN, cT, cN2, cT0, cL, cS, cNN⟩ := C
  have hi := inside_m hpc cP cI.1
  rw [ra] at hi
  have lT := blkAt_lt cT
  simp (disch := ((try simp only [lZ]); omega)) only [aZ, aM, aO]
  refine hi.mono ?_
  rintro r K2 ⟨rfl, G2, O2⟩
  have P2 : PM K2 p a s := cP.gr G2 fun _ _ h => h
  have B2 := G2.at cB fun h => h
  have T2 := G2.at cT fun h => h
  have hfd := fed_pm ok P2 cI.1.ok
  rw [ra] at hfd
  refine aret_of ?_
  simp (disch := ((try simp only [lZ]); omega)) only [aZ, aM, aO]
  refine hfd.mono ?_
  rintro r K3 ⟨rfl, hK3⟩
  have P3 : PM K3 p a s := by rw [hK3]; exact P2.grow _
  have G3 : Gr nof K2 K3 := by rw [hK3]; exact Gr.app _ _
  have B3 := G3.at B2 fun h => h
  have T3 := G3.at T2 fun h => h
  have O3 := G3.at O2 fun h => h
  have F3 : blkAt K3 K2.length 1 = some (ints s.fed) := by rw [hK3, blkAt_new0]; rfl
  clear hK3
  refine aret_of ?_
  simp (disch := ((try simp only [lZ]); omega)) only [aZ, aM, aO, B3, decide_eq_false (show ¬ ((p.mt : Int) ≠ p.mt) by omega)]
  have n2x := ok.n2
  have mtl := fun (x : Nat) => (rfl : True = True)
  refine AWP.loopM g_law35_PlantConserves_2 (fun x : Nat × List Blk => x.1 ≤ p.ms.length ∧ PM x.2 p a s ∧ blkAt x.2 0 0 = some [.v (.int .i64 p.mt), .fs true (mcs true p.ms), .fs true (bts p.bs), .v (.int .i64 p.fd)] ∧ blkAt x.2 T 0 = some (ints (tb p.mt fun y => tk.getD y 0 + sm x.1 (binM p s y))) ∧ blkAt x.2 K.length 0 = some (ints (insL p s)) ∧ blkAt x.2 K2.length 1 = some (ints s.fed)) (fun x => [(23, .v (.int .i64 x.1))]) (fun x => x.2) (fun x => p.ms.length - x.1) (0, K3) ⟨by omega, P3, B3, ?_, O3, F3⟩ ?_ ?_
  · have := tb_self tk cL; simp only [sm] at this ⊢; rw [this]; exact T3
  · exact Cut.fg (by simp (disch := first | omega | simp (disch := omega) only [aG, aM, aO]) only [fZ, aM, aO, fgl_nil, fgl_cons, or_true, true_or])
  have hKK := G2.1
  clear P2 P3 B2 B3 T2 T3 O2 O3 F3 G2 G3 hi hfd
  rintro ⟨m, Q⟩ ⟨hm, qP, qB, qT, qO, qF⟩
  simp only at hm qP qB qT qO qF
  have lK2 := blkAt_lt qF
  have lKK := blkAt_lt qO
  have lQT := blkAt_lt qT
  by_cases hmt : m < p.ms.length
  · have hbm := hbe m
    by_cases he : fndE p m = 0
    · have hb := bin_ok ok qP cI.1.ok m he
      rw [ra, Int.toNat_natCast] at hb
      rw [he] at hbm
      simp (disch := ((try simp only [lZ]); omega)) only [aZ, aM, aO]
      refine hb.mono ?_
      rintro r Q2 ⟨rfl, hQ2⟩
      have P2 : PM Q2 p a s := by rw [hQ2]; exact qP.grow _
      have G2 : Gr nof Q Q2 := by rw [hQ2]; exact Gr.app _ _
      have b2 := G2.at qB fun h => h
      have t2 := G2.at qT fun h => h
      have o2 := G2.at qO fun h => h
      have f2 := G2.at qF fun h => h
      have x2 : blkAt Q2 Q.length 1 = some (ints (s.bef m)) := by rw [hQ2, blkAt_new0]; rfl
      clear hQ2
      refine aret_of ?_
      simp (disch := ((try simp only [lZ]); omega)) only [aZ, aM, aO, b2]
      obtain ⟨W, hW⟩ : ∃ W, W = tb p.mt fun y => tk.getD y 0 + sm m (binM p s y) := ⟨_, rfl⟩
      have wl : W.length = p.mt := by rw [hW, tb_len]
      have bl := cI.1.bl m hmt
      have hz : outsN (p.ms.getD m []) = 0 := (fnd_bin hmt).1 he
      have wb : ∀ x, 0 ≤ W.getD x 0 ∧ W.getD x 0 + (s.bef m).getD x 0 ≤ 1073741824 := fun x => by
        by_cases hx : x < p.mt
        · rw [hW, tb_get _ _ _ hx]
          have q1 := cS x
          have q2 := cNN x
          have q3 := (cI.1.fd.2 x).2
          have q4 := tot_ins p s x
          have q5 := (ins_tot cI.1 x).2
          have q6 := sm_part (n := p.ms.length) (k := m + 1) (f := binM p s x) (fun j hj => by unfold binM; split <;> first | exact (cI.1.bl j hj).2 x | exact Int.le_refl _) (by omega)
          have q7 : binT p s x = sm p.ms.length (binM p s x) := rfl
          have q8 : sm (m + 1) (binM p s x) = sm m (binM p s x) + (s.bef m).getD x 0 := by simp only [sm, binM]; rw [if_pos hz]
          have q9 : 0 ≤ sm m (binM p s x) := sm_nn fun j hj => by unfold binM; split <;> first | exact (cI.1.bl j (by omega)).2 x | exact Int.le_refl _
          omega
        · rw [get_out wl (by omega), get_out bl.1 (by omega)]; omega
      rw [← hW] at t2
      have lT2 := blkAt_lt t2
      have hse := blk_self t2
      refine AWP.loopM g_law35_PlantConserves_3 (fun j : Nat => j ≤ p.mt) (fun j => [(29, .v (.int .i64 j))]) (fun j => Q2.set T ⟨0, ints (upM W (s.bef m) j)⟩) (fun j => p.mt - j) 0 (by omega) ?_ ?_
      · rw [upM_zero, hse]
        exact Cut.fg (by simp (disch := first | omega | simp (disch := omega) only [aG, aM, aO]) only [fZ, aM, aO, fgl_nil, fgl_cons, or_true, true_or])
      rintro j hj
      have ul := upM_len W (s.bef m) j
      have aT : blkAt (Q2.set T ⟨0, ints (upM W (s.bef m) j)⟩) T 0 = some (ints (upM W (s.bef m) j)) := blkAt_set_same _ _ _ _ lT2
      have aX : blkAt (Q2.set T ⟨0, ints (upM W (s.bef m) j)⟩) Q.length 1 = some (ints (s.bef m)) := by rw [blkAt_set_ne _ _ _ _ _ (by omega)]; exact x2
      have aB : blkAt (Q2.set T ⟨0, ints (upM W (s.bef m) j)⟩) 0 0 = some [.v (.int .i64 p.mt), .fs true (mcs true p.ms), .fs true (bts p.bs), .v (.int .i64 p.fd)] := by rw [blkAt_set_ne _ _ _ _ _ (by omega)]; exact b2
      have bll := bl.1
      by_cases hjt : j < p.mt
      · have e0 : (upM W (s.bef m) j).getD j 0 = W.getD j 0 := by rw [upM_get _ _ _ _ (by omega), if_neg (by omega)]
        have e1 := upM_set W (s.bef m) j (by omega)
        have q1 := wb j
        have q2 := bl.2 j
        simp (disch := ((try simp only [lZ]); omega)) only [aZ, aM, aO, aT, aX, e0, e1]
        refine ⟨j + 1, by omega, by omega, ?_⟩
        try simp (disch := ((try simp only [lZ]); omega)) only [aZ, aM, aO]
        exact Cut.fg (by simp (disch := first | omega | simp (disch := omega) only [aG, aM, aO]) only [fZ, aM, aO, fgl_nil, fgl_cons, or_true, true_or])
      have hje : j = p.mt := by omega
      subst hje
      have e1 : plusM W (s.bef m) = tb p.mt fun y => tk.getD y 0 + sm (m + 1) (binM p s y) := by
        rw [hW, tb_plus]
        refine tb_ext fun x _ => ?_
        simp only [sm, binM]; rw [if_pos hz]; omega
      rw [upM_all _ _ _ (by omega)] at aT aB ⊢
      have aO : blkAt (Q2.set T ⟨0, ints (plusM W (s.bef m))⟩) K.length 0 = some (ints (insL p s)) := by rw [blkAt_set_ne _ _ _ _ _ (by omega)]; exact o2
      have aF : blkAt (Q2.set T ⟨0, ints (plusM W (s.bef m))⟩) K2.length 1 = some (ints s.fed) := by rw [blkAt_set_ne _ _ _ _ _ (by omega)]; exact f2
      have P3 : PM (Q2.set T ⟨0, ints (plusM W (s.bef m))⟩) p a s := P2.gr (Gr.set (F := one T) _ _ _ rfl) fun c hc hf => cN2 ⟨c, hc, hf⟩
      simp (disch := ((try simp only [lZ]); omega)) only [aZ, aM, aO, aB]
      refine hbm.same (by simp (disch := first | omega | simp (disch := omega) only [aG, aM, aO]) only [fZ, aM, aO]) rfl (aret_of ?_)
      simp (disch := ((try simp only [lZ]); omega)) only [aZ, aM, aO]
      rw [e1] at P3 aB aT aO aF ⊢
      refine ⟨(m + 1, _), ⟨by simp only; omega, P3, aB, aT, aO, aF⟩, by simp only; omega, ?_⟩
      try simp (disch := ((try simp only [lZ]); omega)) only [aZ, aM, aO]
      exact Cut.fg (by simp (disch := first | omega | simp (disch := omega) only [aG, aM, aO]) only [fZ, aM, aO, fgl_nil, fgl_cons, or_true, true_or])
    · have hb := bin_err ok qP m he
      rw [ra] at hb
      have hz : ¬ outsN (p.ms.getD m []) = 0 := fun hc => he ((fnd_bin hmt).2 hc)
      have e1 : (fun y => tk.getD y 0 + sm (m + 1) (binM p s y)) = fun y => tk.getD y 0 + sm m (binM p s y) := by
        funext y
        simp only [sm, binM]; rw [if_neg hz]; omega
      generalize fndE p m = fe at *
      simp (disch := ((try simp only [lZ]); omega)) only [aZ, aM, aO]
      refine hb.mono ?_
      rintro r Q2 ⟨rfl, hQ2⟩
      subst hQ2
      refine aret_of ?_
      simp (disch := ((try simp only [lZ]); omega)) only [aZ, aM, aO, qB]
      refine AWP.once ?_
      simp (disch := ((try simp only [lZ]); omega)) only [aZ, aM, aO, qB]
      refine hbm.same (by simp (disch := first | omega | simp (disch := omega) only [aG, aM, aO]) only [fZ, aM, aO]) rfl (aret_of ?_)
      simp (disch := ((try simp only [lZ]); omega)) only [aZ, aM, aO, decide_eq_false he]
      refine ⟨(m + 1, Q2), ⟨by simp only; omega, qP, qB, by simp only; rw [e1]; exact qT, qO, qF⟩, by simp only; omega, ?_⟩
      try simp (disch := ((try simp only [lZ]); omega)) only [aZ, aM, aO]
      exact Cut.fg (by simp (disch := first | omega | simp (disch := omega) only [aG, aM, aO]) only [fZ, aM, aO, fgl_nil, fgl_cons, or_true, true_or])
  have hme : m = p.ms.length := by omega
  subst hme
  have il := insL_len p s
  have fl := cI.1.fd.1
  simp (disch := ((try simp only [lZ]); omega)) only [aZ, aM, aO]
  refine AWP.loopP g_law35_PlantConserves_4 (fun x : Nat => x ≤ p.mt) (fun x => [(33, .v (.int .i64 x))]) (fun _ => []) (fun x => p.mt - x) 0 (by omega) ?_ ?_
  · exact Cut.fg (by simp (disch := first | omega | simp (disch := omega) only [aG, aM, aO]) only [fZ, aM, aO, fgl_nil, fgl_cons, or_true, true_or])
  rintro x hx
  have tl : (tb p.mt fun y => tk.getD y 0 + sm p.ms.length (binM p s y)).length = p.mt := tb_len _ _
  by_cases hxt : x < p.mt
  · have g1 : (tb p.mt fun y => tk.getD y 0 + sm p.ms.length (binM p s y)).getD x 0 = s.fed.getD x 0 - insT p s x := by
      rw [tb_get _ _ _ hxt]
      have q1 := cS x
      have q4 := tot_ins p s x
      have q7 : binT p s x = sm p.ms.length (binM p s x) := rfl
      omega
    have g2 : (insL p s).getD x 0 = insT p s x := tb_get _ _ _ hxt
    have q1 := (ins_tot cI.1 x)
    have q2 := cI.1.tt x
    have q3 := cI.1.fd.2 x
    have g3 : insT p s x + (s.fed.getD x 0 - insT p s x) = s.fed.getD x 0 := by omega
    have hd : ¬ insT p s x < 0 := by omega
    simp (disch := ((try simp only [lZ]); omega)) only [aZ, aM, aO, qT, qO, qF, g1, g2, g3, decide_eq_false hd]
    refine ⟨x + 1, by omega, by omega, ?_⟩
    try simp (disch := ((try simp only [lZ]); omega)) only [aZ, aM, aO]
    exact Cut.fg (by simp (disch := first | omega | simp (disch := omega) only [aG, aM, aO]) only [fZ, aM, aO, fgl_nil, fgl_cons, or_true, true_or])
  · simp (disch := ((try simp only [lZ]); omega)) only [aZ, aM, aO]
    refine hex.same rfl rfl (aret_of ?_)
    simp (disch := ((try simp only [lZ]); omega)) only [aZ, aM, aO, r_law35_PlantConserves]
    exact post_v ⟨rfl, rfl⟩
end Go.Proofs.Ytdkoindoljngmaa
