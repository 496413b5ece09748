/- Lemmas and walks that the proof of PlantCalls uses. No statement is claimed here. -/
import Derived.Test.YtdkoindoljngmaaGreatPlantCallsZap
namespace Go.Proofs.YtdkoindoljngmaaGreat
open Go Go.Lft
set_option linter.unusedSimpArgs false
set_option linter.unusedVariables false
attribute [local congr] ob_congr bw_congr ib_congr ck_congr iwA_congr itA_congr aw_congr awp_congr sqA_congr bkA_congr vr_congr gd_congr
def newS (p : Pl) : Sy:={bef:=fun _=>zeros p.mt,fst:=fun _=>zeros p.mt,pos:=fun _=>0,rng:=fun _ _=>zeros p.mt,hal:=List.replicate p.ms.length false,fed:=zeros p.mt}
theorem sm_zero (n : Nat) : sm n (fun _=>(0 : Int))=0:=by
  induction n with
  | zero=>rfl
  | succ n ih=>simp only [sm,ih]; rfl
theorem new_tot (p : Pl) (x : Nat) : tot p (newS p) x=0:=by
  unfold tot befT fstT rngT newS
  simp only [zeros_get,sm_zero]; rfl
theorem Gd.new (p : Pl) : Gd p (newS p) :=
  ⟨fun m _=>⟨(zeros_ok _).1,fun x=>by simp only [newS]; rw [zeros_get]; omega⟩,fun i _=>⟨(zeros_ok _).1,fun x=>by simp only [newS]; rw [zeros_get]; omega⟩,fun i _ q _=>⟨(zeros_ok _).1,fun x=>by simp only [newS]; rw [zeros_get]; omega⟩,
    fun i _ h=>h,by simp [newS],zeros_ok _,fun x=>by rw [new_tot]; omega⟩
def usK (p : Pl) (k b : Nat) : Pc→Bool
  | .root=>true | .bef=>true | .bel=>true | .hal=>true | .fed=>true
  | .bm m=>decide (m < k)
  | .fi i=>decide (i < b)
  | .re i=>decide (i < b) && decide (0 < p.rl i)
  | .ri i q=>decide (i < b) && decide (q < p.rl i)
theorem usK_all (p : Pl) : usK p p.ms.length p.bs.length=usd p:=by funext c; cases c<;>rfl
def befK (p : Pl) (k : Nat) (ad : Ad) : List A:=(List.range k).map fun m=>slA (ad (.bm m)) p.mt
def belsK (p : Pl) (b : Nat) (ad : Ad) : List A:=(List.range b).flatMap (cvC p ad)
def rootK (p : Pl) (k b : Nat) (ad : Ad) : List A:=[.v (.int .i64 p.mt),.fs true (mcs true p.ms),.fs true (bts p.bs),.v (.int .i64 p.fd),.vs (ad .bef).1 (ad .bef).2 1 k,.vs (ad .bel).1 (ad .bel).2 2 b,slA (ad .hal) p.ms.length,slA (ad .fed) p.mt]
def ctK (p : Pl) (k b : Nat) (ad : Ad) : Pc→List A
  | .root=>rootK p k b ad
  | .bef=>befK p k ad
  | .bel=>belsK p b ad
  | .hal=>bools (List.replicate p.ms.length false)
  | .fed=>ints (zeros p.mt)
  | .bm _=>ints (zeros p.mt)
  | .fi _=>ints (zeros p.mt)
  | .re i=>belC (p.rl i) p.mt 0 fun q=>ad (.ri i q)
  | .ri _ _=>ints (zeros p.mt)
structure PN (n : Nat) (K : List Blk) (p : Pl) (k b : Nat) (ad : Ad) : Prop where
  get : ∀ c,usK p k b c=true→blkAt K (ad c).1 (ad c).2=some (ctK p k b ad c)
  inj : ∀ c d,usK p k b c=true→usK p k b d=true→(ad c).1=(ad d).1→c=d
  zr : (ad .root).2=0∧∀ i,(ad (.re i)).2=0
  hi : ∀ c,usK p k b c=true→n < (ad c).1
theorem PN.lt {n : Nat} {K : List Blk} {p : Pl} {k b : Nat} {ad : Ad} (h : PN n K p k b ad) {c : Pc} (hc : usK p k b c=true) : (ad c).1 < K.length:=blkAt_lt (h.get c hc)
theorem PN.ne {n : Nat} {K : List Blk} {p : Pl} {k b : Nat} {ad : Ad} (h : PN n K p k b ad) {c d : Pc} (hc : usK p k b c=true) (hd : usK p k b d=true) (hn : c≠d) : (ad c).1≠(ad d).1:=fun he=>hn (h.inj c d hc hd he)
theorem PN.rt {n : Nat} {K : List Blk} {p : Pl} {k b : Nat} {ad : Ad} (h : PN n K p k b ad) : blkAt K (ad .root).1 0=some (rootK p k b ad):=by have:=h.get .root rfl; rw [h.zr.1] at this; exact this
theorem PN.next {n : Nat} {K K' : List Blk} {p : Pl} {k b k' b' : Nat} {ad ad' : Ad} (h : PN n K p k b ad) (hr : ad' .root = ad .root) (hz : ∀ i, (ad' (.re i)).2 = 0)
    (hold : ∀ c,usK p k b c=true→(ad' c).1=(ad c).1) (hnew : ∀ c,usK p k' b' c=true→usK p k b c=false→K.length≤(ad' c).1)
    (hin : ∀ c d,usK p k' b' c=true→usK p k' b' d=true→usK p k b c=false→usK p k b d=false→(ad' c).1=(ad' d).1→c=d)
    (hget : ∀ c,usK p k' b' c=true→blkAt K' (ad' c).1 (ad' c).2=some (ctK p k' b' ad' c)) : PN n K' p k' b' ad':=by
  refine ⟨hget,fun c d hc hd he=>?_,⟨by rw [hr]; exact h.zr.1,hz⟩,fun c hc=>?_⟩
  · cases uc : usK p k b c with
    | false =>
      cases ud : usK p k b d with
      | false=>exact hin c d hc hd uc ud he
      | true =>
        have h1:=hnew c hc uc
        have h2:=h.lt ud
        have h3:=hold d ud
        omega
    | true =>
      cases ud : usK p k b d with
      | false =>
        have h1:=hnew d hd ud
        have h2:=h.lt uc
        have h3:=hold c uc
        omega
      | true=>exact h.inj c d uc ud (by rw [← hold c uc,← hold d ud,he])
  · cases uc : usK p k b c with
    | false =>
      have h1:=hnew c hc uc
      have h2:=h.lt (c:=.root) rfl
      have h3:=h.hi .root rfl
      omega
    | true=>rw [hold c uc]; exact h.hi c uc
theorem blk_ta {K T : List Blk} {i1 i2 j : Nat} {B1 B2 : Blk} {l L : Nat} (hL : L=K.length) : blkAt ((K.set i1 B1).set i2 B2++T) (L+j) l=blkAt T j l:=by
  subst hL
  have:=blkAt_new ((K.set i1 B1).set i2 B2) T j l
  simpa using this
theorem blk_to {K T : List Blk} {i1 i2 j l : Nat} {B1 B2 : Blk} {x : List A} (h : blkAt K j l=some x) (h1 : j≠i1) (h2 : j≠i2) : blkAt ((K.set i1 B1).set i2 B2++T) j l=some x:=by
  rw [blkAt_app _ _ _ _ (by simp; exact blkAt_lt h),blkAt_set_ne _ _ _ _ _ h2,blkAt_set_ne _ _ _ _ _ h1]; exact h
theorem blk_t1 {K T : List Blk} {i1 i2 v : Nat} {B2 : Blk} {x : List A} (h : i1 < K.length) (h2 : i1≠i2) : blkAt ((K.set i1 ⟨v,x⟩).set i2 B2++T) i1 v=some x:=by
  rw [blkAt_app _ _ _ _ (by simp; exact h),blkAt_set_ne _ _ _ _ _ h2]; exact blkAt_set_same _ _ _ _ h
theorem blk_t2 {K T : List Blk} {i1 i2 v : Nat} {B1 : Blk} {x : List A} (h : i2 < K.length) : blkAt ((K.set i1 B1).set i2 ⟨v,x⟩++T) i2 v=some x:=by
  rw [blkAt_app _ _ _ _ (by simp; exact h)]; exact blkAt_set_same _ _ _ _ (by simpa using h)
theorem gr_t {K T : List Blk} {n i1 i2 : Nat} {B1 B2 : Blk} (h1 : n < i1) (h2 : n < i2) : Gr (fun i=>n < i) K ((K.set i1 B1).set i2 B2++T) :=
  ⟨by simp,fun i ver hi hn=>by
    have hn' : ¬ n < i:=hn
    rw [blkAt_app _ _ _ _ (by simp; exact hi),blkAt_set_ne _ _ _ _ _ (by omega),blkAt_set_ne _ _ _ _ _ (by omega)]⟩
def adM (ad : Ad) (L k : Nat) : Ad
  | .bm m=>if m=k then (L,0) else ad (.bm m)
  | .bef=>((ad .bef).1,(ad .bef).2+1)
  | c=>ad c
def adT (ad : Ad) (L b : Nat) : Ad
  | .fi i=>if i=b then (L+1,0) else ad (.fi i)
  | .re i=>if i=b then (L+3,0) else ad (.re i)
  | .ri i q=>if i=b then (L+(4+q),0) else ad (.ri i q)
  | .bel=>((ad .bel).1,(ad .bel).2+1)
  | c=>ad c
theorem befK_app (p : Pl) (k : Nat) (ad : Ad) (L : Nat) : befK p k ad++[.sl L 0 1 0 p.mt]=befK p (k+1) (adM ad L k):=by
  unfold befK
  rw [List.range_succ,List.map_append]
  congr 1
  · refine List.map_congr_left fun m hm=>?_
    have : m < k:=List.mem_range.1 hm
    simp only [adM]; rw [if_neg (by omega)]
  · simp [adM,slA]
theorem befK_len (p : Pl) (k : Nat) (ad : Ad) : (befK p k ad).length=k:=by simp [befK]
theorem belsK_app (p : Pl) (b : Nat) (ad : Ad) (L : Nat) : belsK p b ad++[.sl (L+1) 0 1 0 p.mt,if 0 < p.rl b then .lp (L+3) 0 0 else .v (.pointer none)]=belsK p (b+1) (adT ad L b):=by
  unfold belsK
  rw [List.range_succ,List.flatMap_append]
  congr 1
  · rw [List.flatMap_def,List.flatMap_def]
    congr 1
    refine List.map_congr_left fun m hm=>?_
    have : m < b:=List.mem_range.1 hm
    simp only [adT,cvC,if_neg (show ¬ m=b by omega)]
  · simp [adT,slA,cvC]
theorem belsK_len (p : Pl) (b : Nat) (ad : Ad) : (belsK p b ad).length=b*2:=flat2_len _ (cvC_len p ad) _
theorem PN.addM {n : Nat} {K : List Blk} {p : Pl} {k : Nat} {ad : Ad} (h : PN n K p k 0 ad) (T : List Blk) (hT : blkAt T 0 0 = some (ints (zeros p.mt))) :
    PN n ((K.set (ad .bef).1 ⟨(ad .bef).2+1,befK p (k+1) (adM ad K.length k)⟩).set (ad .root).1 ⟨0,rootK p (k+1) 0 (adM ad K.length k)⟩++T) p (k+1) 0 (adM ad K.length k):=by
  have nb:=h.ne (c:=.bef) (d:=.root) rfl rfl (by simp)
  have lb:=h.lt (c:=.bef) rfl
  have lr:=h.lt (c:=.root) rfl
  have ub : ∀ m,usK p k 0 (.bm m)=true→m≠k:=fun m hm=>by simp [usK] at hm; omega
  refine h.next rfl (fun i=>h.zr.2 i) (fun c hc=>?_) (fun c hc hn=>?_) (fun c d hc hd hcn hdn he=>?_) (fun c hc=>?_)
  · cases c with
    | bm m=>simp only [adM]; rw [if_neg (ub m hc)]
    | _=>rfl
  · cases c with
    | bm m =>
      simp [usK] at hc hn
      simp only [adM]; rw [if_pos (by omega)]; exact Nat.le_refl _
    | _=>simp_all [usK]
  · cases c with
    | bm m =>
      cases d with
      | bm m'=>simp [usK] at hc hd hcn hdn; congr 1; omega
      | _=>simp_all [usK]
    | _=>simp_all [usK]
  · cases c with
    | bm m =>
      simp only [adM]
      by_cases e : m=k
      · rw [if_pos e]
        have:=blk_ta (K:=K) (T:=T) (i1:=(ad .bef).1) (i2:=(ad .root).1) (B1:=⟨(ad .bef).2+1,befK p (k+1) (adM ad K.length k)⟩) (B2:=⟨0,rootK p (k+1) 0 (adM ad K.length k)⟩) (j:=0) (l:=0) rfl
        rw [Nat.add_zero] at this
        exact this.trans hT
      · rw [if_neg e]
        have hu : usK p k 0 (.bm m)=true:=by simp [usK] at hc ⊢; omega
        exact blk_to (h.get _ hu) (h.ne hu rfl (by simp)) (h.ne hu rfl (by simp))
    | bef=>exact blk_t1 lb nb
    | root=>simp only [adM]; rw [h.zr.1]; exact blk_t2 lr
    | bel=>exact blk_to (h.get .bel rfl) (h.ne rfl rfl (by simp)) (h.ne rfl rfl (by simp))
    | hal=>exact blk_to (h.get .hal rfl) (h.ne rfl rfl (by simp)) (h.ne rfl rfl (by simp))
    | fed=>exact blk_to (h.get .fed rfl) (h.ne rfl rfl (by simp)) (h.ne rfl rfl (by simp))
    | _=>simp [usK] at hc
theorem PN.addT {n : Nat} {K : List Blk} {p : Pl} {k b : Nat} {ad : Ad} (h : PN n K p k b ad) (T : List Blk) (hT : blkAt T 1 0 = some (ints (zeros p.mt)))
    (hR : 0 < p.rl b→blkAt T 3 0=some (belC (p.rl b) p.mt 0 (fun q=>(K.length+(4+q),0)))∧∀ q,q < p.rl b→blkAt T (4+q) 0=some (ints (zeros p.mt))) :
    PN n ((K.set (ad .bel).1 ⟨(ad .bel).2+1,belsK p (b+1) (adT ad K.length b)⟩).set (ad .root).1 ⟨0,rootK p k (b+1) (adT ad K.length b)⟩++T) p k (b+1) (adT ad K.length b):=by
  have nb:=h.ne (c:=.bel) (d:=.root) rfl rfl (by simp)
  have lb:=h.lt (c:=.bel) rfl
  have lr:=h.lt (c:=.root) rfl
  refine h.next rfl (fun i=>?_) (fun c hc=>?_) (fun c hc hn=>?_) (fun c d hc hd hcn hdn he=>?_) (fun c hc=>?_)
  · simp only [adT]; split
    · rfl
    · exact h.zr.2 i
  · cases c with
    | fi i=>simp only [usK,decide_eq_true_eq] at hc; simp only [adT]; rw [if_neg (by omega)]
    | re i=>simp only [usK,Bool.and_eq_true,decide_eq_true_eq] at hc; simp only [adT]; rw [if_neg (by omega)]
    | ri i q=>simp only [usK,Bool.and_eq_true,decide_eq_true_eq] at hc; simp only [adT]; rw [if_neg (by omega)]
    | _=>rfl
  · cases c with
    | fi i =>
      simp [usK] at hc hn
      simp only [adT]; rw [if_pos (by omega)]; simp only; omega
    | re i =>
      simp [usK] at hc hn
      have : i=b:=by
        by_cases e : i < b
        · have:=hn e; omega
        · omega
      simp only [adT]; rw [if_pos this]; simp only; omega
    | ri i q =>
      simp [usK] at hc hn
      have : i=b:=by
        by_cases e : i < b
        · have:=hn e; omega
        · omega
      simp only [adT]; rw [if_pos this]; simp only; omega
    | _=>simp_all [usK]
  · have key : ∀ c, usK p k (b + 1) c = true → usK p k b c = false → c = .fi b ∨ c = .re b ∨ ∃ q, c = .ri b q := fun c hc hn => by
      cases c with
      | fi i=>simp [usK] at hc hn; left; congr 1; omega
      | re i =>
        simp [usK] at hc hn; right; left; congr 1
        by_cases e : i < b
        · have:=hn e; omega
        · omega
      | ri i q =>
        simp [usK] at hc hn; right; right; refine ⟨q,?_⟩; congr 1
        by_cases e : i < b
        · have:=hn e; omega
        · omega
      | _=>simp_all [usK]
    rcases key c hc hcn with rfl | rfl | ⟨q,rfl⟩<;>rcases key d hd hdn with rfl | rfl | ⟨q',rfl⟩<;>simp only [adT,if_true] at he<;>first | rfl | omega | (congr 1; omega)
  · cases c with
    | fi i =>
      simp only [adT]
      by_cases e : i=b
      · rw [if_pos e]; exact (blk_ta rfl).trans hT
      · rw [if_neg e]
        have hu : usK p k b (.fi i)=true:=by simp [usK] at hc ⊢; omega
        exact blk_to (h.get _ hu) (h.ne hu rfl (by simp)) (h.ne hu rfl (by simp))
    | re i =>
      simp only [adT]
      simp only [usK,Bool.and_eq_true,decide_eq_true_eq] at hc
      by_cases e : i=b
      · subst e
        rw [if_pos rfl]
        simp only [ctK,adT,if_true]
        exact (blk_ta rfl).trans (hR hc.2).1
      · rw [if_neg e]
        have hu : usK p k b (.re i)=true:=by simp [usK]; omega
        have:=blk_to (T:=T) (B1:=⟨(ad .bel).2+1,belsK p (b+1) (adT ad K.length b)⟩) (B2:=⟨0,rootK p k (b+1) (adT ad K.length b)⟩) (h.get _ hu) (h.ne hu (d:=.bel) rfl (by simp)) (h.ne hu (d:=.root) rfl (by simp))
        simp only [ctK,adT] at this ⊢
        simp only [if_neg e]
        exact this
    | ri i q =>
      simp only [adT]
      simp only [usK,Bool.and_eq_true,decide_eq_true_eq] at hc
      by_cases e : i=b
      · subst e
        rw [if_pos rfl]
        exact (blk_ta rfl).trans ((hR (by omega)).2 q hc.2)
      · rw [if_neg e]
        have hu : usK p k b (.ri i q)=true:=by simp [usK]; omega
        exact blk_to (h.get _ hu) (h.ne hu rfl (by simp)) (h.ne hu rfl (by simp))
    | bel=>exact blk_t1 lb nb
    | root=>simp only [adT]; rw [h.zr.1]; exact blk_t2 lr
    | bef=>exact blk_to (h.get .bef rfl) (h.ne rfl rfl (by simp)) (h.ne rfl rfl (by simp))
    | hal=>exact blk_to (h.get .hal rfl) (h.ne rfl rfl (by simp)) (h.ne rfl rfl (by simp))
    | fed=>exact blk_to (h.get .fed rfl) (h.ne rfl rfl (by simp)) (h.ne rfl rfl (by simp))
    | bm m =>
      have hu : usK p k b (.bm m)=true:=hc
      exact blk_to (h.get _ hu) (h.ne hu rfl (by simp)) (h.ne hu rfl (by simp))
def ad0 (n : Nat) : Ad
  | .root=>(n+2,0) | .hal=>(n+1,0) | .fed=>(n+3,0) | .bef=>(n+4,0) | .bel=>(n+5,0)
  | _=>(0,0)
theorem PN.init (H : List Blk) (p : Pl) (B : Blk) : PN H.length (H++[B,⟨0,bools (List.replicate p.ms.length false)⟩,⟨0,rootK p 0 0 (ad0 H.length)⟩,⟨0,ints (zeros p.mt)⟩,⟨0,[]⟩,⟨0,[]⟩]) p 0 0 (ad0 H.length):=by
  refine ⟨fun c hc=>?_,fun c d hc hd he=>?_,⟨rfl,fun i=>rfl⟩,fun c hc=>?_⟩
  · cases c<;>first | (simp [usK] at hc; done) | (simp only [ad0]; rw [blkAt_new]; rfl)
  · cases c<;>first | (simp [usK] at hc; done) | (cases d<;>first | rfl | (simp [usK] at hd; done) | (simp only [ad0] at he; omega))
  · cases c<;>first | (simp [usK] at hc; done) | (simp only [ad0]; omega)
theorem bel_sh (n len mat : Nat) : A.shL n (belC len mat 0 (newA 1))=belC len mat 0 (newA (n+1)):=by
  rw [shL_map]
  unfold belC belK ringC
  rw [List.map_append,List.map_map]
  congr 1
  refine List.map_congr_left fun q _=>?_
  simp only [Function.comp,newA]
  split
  · simp only [A.sh]; congr 1; omega
  · rfl
theorem bel_cl (len mat : Nat) (ad : Nat→Nat×Nat) : A.clL (belC len mat 0 ad)=true:=clL_iff.2 fun a ha=>by
  rcases List.mem_append.1 ha with h | h
  · obtain ⟨q,_,rfl⟩:=List.mem_map.1 h
    split<;>rfl
  · simp only [List.mem_cons,List.not_mem_nil,or_false] at h
    rcases h with rfl | rfl | rfl<;>rfl
def beltN (n len mat : Nat) : List Blk:=⟨0,belC len mat 0 (newA (n+1))⟩ :: List.replicate len ⟨0,ints (zeros mat)⟩
theorem bnew_ps {kp : Bool} {H : List Blk} {mat len : Nat} (h1 : 1≤len) (h16 : len≤16) (hm : 1≤mat∧mat≤16) : VR P kp n_belt_New [.v (.int .i64 len),.v (.int .i64 mat)] H (fun r H'=>r=.tup [.lp H.length 0 0,.v (.int .i64 0)]∧H'=H++beltN H.length len mat):=by
  refine (bnew_vr h1 h16 hm).useO (LdL.refl rfl) ?_ ⟨rfl,?_⟩
  · simp only [Bool.and_eq_true,List.all_eq_true]
    refine ⟨rfl,fun B hB=>?_⟩
    rcases List.mem_cons.1 hB with rfl | h
    · exact bel_cl _ _ _
    · rw [(List.mem_replicate.1 h).2]; exact ii_cl _
  · unfold beltG beltN
    rw [List.map_cons,List.map_replicate]
    simp only [Blk.sh,bel_sh,shL_bd _ (ii_bd 0 _)]
theorem beltN_at (n len mat q : Nat) (h : q < len) : blkAt (beltN n len mat) (1+q) 0=some (ints (zeros mat)):=by
  have : (beltN n len mat)[1+q]?=some ⟨0,ints (zeros mat)⟩:=by
    unfold beltN
    rw [Nat.add_comm 1 q,List.getElem?_cons_succ,List.getElem?_replicate,if_pos h]
  exact blkAt_iff.2 ⟨_,this,rfl,rfl⟩
theorem Rel.cells_vs {g : Bool→Heap} {σ : Nam} {i ver k n : Nat} {v : Value} (hn : 0 < n) (h : Rel g σ (.vs i ver k n) v) : Rel g σ (.sl i ver k 0 n) v:=by
  cases h with
  | vs0=>omega
  | vs i ver k n b s o' cp e1 e2 e3=>exact .sl i ver k 0 n b s o' cp e1 e2 fun hc=>by have:=e3 hc; omega
theorem Cut.cellS {n0 : Nat} {e : List A} {H : List Blk} (i ver j : Nat) {i' v' k n : Nat} {l : List A} (hb : blkAt H i ver=some l) (hj : l[j]?=some (.vs i' v' k n)) (hn : 0 < n) : Cut n0 e H e (H.set i (⟨ver,l.set j (.sl i' v' k 0 n)⟩ : Blk)):=by
  intro c ev hH h0 hs he
  subst hH
  obtain ⟨B,q1,q2,q3⟩:=blkAt_iff.1 hb
  subst q2; subst q3
  rcases hs.blk i B q1 with ⟨_,k0⟩ | ⟨b,s,vs,z,t,f1,f2,f3,f4,f5⟩
  · rw [k0] at hj; simp at hj
  · obtain ⟨x,hx,hxr⟩:=f5.get hj
    have h2:=f5.set j (Rel.cells_vs hn hxr)
    have h3 : vs.set j x=vs:=by
      apply List.ext_getElem?
      intro i
      rw [List.getElem?_set]
      split
      · rename_i hi; subst hi
        rw [if_pos (List.getElem?_eq_some_iff.1 hx).1,hx]
      · rfl
    rw [h3] at h2
    obtain ⟨e1,e2,e3⟩:=St.turn hs n0 q1 (v':=B.ver) (b':=b) (s':=s) (t:=t) (vs:=vs) (z:=z) (Or.inl (And.intro f1 (Nat.le_refl _))) f4 h2
    have h4 : Go.Lft.upd c.h b (.cells (vs++z).toArray t)=c.h:=upd_self f3
    refine ⟨_,rfl,?_,e2,e1,he.mono (fun _=>Ext.refl _) e3⟩
    simp only; exact h4
theorem both_of {A B C : Prop} (ha : C→A) (hb : C→B) (hc : C) : A∧B:=⟨ha hc,hb hc⟩
theorem new_vr {H : List Blk} {w v : Bool} (p : Pl) (hp : chkP p=0) : VR P false n_plant_New [plA w v p] H (fun r H'=>∃ ad : Ad,r=.tup [.lp (ad .root).1 0 0,.v (.int .i64 0)]∧PM H' p ad (newS p)∧Gr nof H H'∧∀ c,usd p c=true→H.length≤(ad c).1):=by
  refine vr_plant_New (by simp) (.inl rfl) fun _ _=>?_
  have hpc:=(chkP_ok hp).1
  have ok:=pcheck_ok hpc
  obtain ⟨m1,m2,m3⟩:=ok.mt1
  have n1:=ok.n1
  have n2:=ok.n2
  have b2:=ok.b2
  have hck:=plantCheck_vr (w:=w) (v:=v) p
  have hcp:=copied_vr (w:=w) (v:=v) p hpc
  rw [hp] at hck
  unfold plA plC at *
  rw [m3] at *
  simp (disch:=((try simp only [lZ]); omega)) only [aZ,aM,s_plant_New,v_plant_New]
  refine hck.same (by simp (disch:=first | omega | simp (disch:=omega) only [aG,aM]) only [fZ,aM]) rfl (aret_of ?_)
  simp (disch:=((try simp only [lZ]); omega)) only [aZ,aM]
  apply both_of
  · intro hc
    refine hcp.same (by simp (disch:=first | omega | simp (disch:=omega) only [aG,aM]) only [fZ,aM]) (by simp (disch:=first | omega | simp (disch:=omega) only [aG,aM]) only [fZ,aM]) (aret_of ?_)
    simp (disch:=((try simp only [lZ]); omega)) only [aZ,aM]
    exact hc
  · intro hc
    refine hcp.same (by simp (disch:=first | omega | simp (disch:=omega) only [aG,aM]) only [fZ,aM]) (by simp (disch:=first | omega | simp (disch:=omega) only [aG,aM]) only [fZ,aM]) (aret_of ?_)
    simp (disch:=((try simp only [lZ]); omega)) only [aZ,aM]
    exact hc
  refine (empty_ps m2 (by simp (disch:=((try simp only [lZ]); omega)) only [aZ,aM]; rfl)).mono ?_
  rintro r H' ⟨rfl,hH⟩
  rw [hH]
  refine aret_of ?_
  simp (disch:=((try simp only [lZ]); omega)) only [aZ,aM]
  refine AWP.cut (Cut.virtB (H.length+2) 0 4 1 (by simp (disch:=((try simp only [lZ]); omega)) only [aZ,aM]; rfl) rfl) ?_
  simp (disch:=((try simp only [lZ]); omega)) only [aZ,aM]
  refine AWP.cut (Cut.virtB (H.length+2) 0 5 2 (by simp (disch:=((try simp only [lZ]); omega)) only [aZ,aM]; rfl) rfl) ?_
  simp (disch:=((try simp only [lZ]); omega)) only [aZ,aM]
  refine AWP.cut (Cut.drop 19) ?_
  simp (disch:=((try simp only [lZ]); omega)) only [aZ,aM]
  generalize hr2 : H.length+(1+1)=r
  have gr0 : ∀ K K' : List Blk,Gr nof H K→Gr (fun i=>H.length < i) K K'→Gr nof H K':=fun K K' h1 h2=>h1.trans h2 fun i hi hf=>by have : H.length < i:=hf; omega
  have pa0 : ∀ (K K' : List Blk) (l : List A),blkAt K H.length 0=some l→Gr (fun i=>H.length < i) K K'→blkAt K' H.length 0=some l:=fun K K' l h1 h2=>h2.at h1 (by simp)
  refine AWP.loopM g_plant_New_0 (fun x : Nat×Ad×List Blk=>x.1≤p.ms.length∧PN H.length x.2.2 p x.1 0 x.2.1∧(x.2.1 .root).1=r∧Gr nof H x.2.2∧blkAt x.2.2 H.length 0=some [.v (.int .i64 p.mt),.fs w (mcs w p.ms),.fs v (bts p.bs),.v (.int .i64 p.fd)]) (fun x=>[(6,.v (.int .i64 x.1))]) (fun x=>x.2.2) (fun x=>p.ms.length - x.1) (0,ad0 H.length,_) ⟨by omega,PN.init H p ⟨0,[.v (.int .i64 p.mt),.fs w (mcs w p.ms),.fs v (bts p.bs),.v (.int .i64 p.fd)]⟩,hr2,Gr.app _ _,by rw [blkAt_new0]; rfl⟩ ?_ ?_
  · exact Cut.fg (by simp (disch:=first | omega | simp (disch:=omega) only [aG,aM]) only [fZ,aM,fgl_nil,fgl_cons,or_true,true_or])
  rintro ⟨k,ad,K⟩ ⟨hk,hP,hr,hG,hB⟩
  simp only at hk hP hr hG hB
  have kr:=hP.rt
  rw [hr] at kr
  have kb:=hP.get .bef rfl
  simp only [ctK] at kb
  have lr:=hP.lt (c:=.root) rfl
  rw [hr] at lr
  have lb:=hP.lt (c:=.bef) rfl
  have nb:=hP.ne (c:=.bef) (d:=.root) rfl rfl (by simp)
  rw [hr] at nb
  by_cases hlt : k < p.ms.length
  · unfold rootK slA at kr
    simp (disch:=((try simp only [lZ]); omega)) only [aZ,aM,kr]
    refine (empty_ps m2 kr).mono ?_
    rintro x H' ⟨rfl,hH⟩
    rw [hH]
    refine aret_of ?_
    have bl:=befK_len p k ad
    have ap:=befK_app p k ad K.length
    have tk : (befK p k ad).take k=befK p k ad:=List.take_of_length_le (by omega)
    have hN:=hP.addM [⟨0,ints (zeros p.mt)⟩,⟨0,[.sl K.length 0 1 0 p.mt]⟩] rfl
    have hg:=gr_t (K:=K) (T:=[⟨0,ints (zeros p.mt)⟩,⟨0,[.sl K.length 0 1 0 p.mt]⟩]) (B1:=⟨(ad .bef).2+1,befK p (k+1) (adM ad K.length k)⟩) (B2:=⟨0,rootK p (k+1) 0 (adM ad K.length k)⟩) (hP.hi .bef rfl) (hP.hi .root rfl)
    rw [hr] at hN hg
    simp (disch:=((try simp only [lZ]); omega)) only [aZ,aM,kr,kb,bl,ap,tk]
    refine ⟨(k+1,adM ad K.length k,_),⟨by simp only; omega,hN,hr,gr0 _ _ hG hg,pa0 _ _ _ hB hg⟩,by simp only; omega,?_⟩
    unfold rootK slA
    simp only [adM]
    try simp (disch:=((try simp only [lZ]); omega)) only [aZ,aM]
    exact Cut.fg (by simp (disch:=first | omega | simp (disch:=omega) only [aG,aM]) only [fZ,aM,fgl_nil,fgl_cons,or_true,true_or])
  have hke : k=p.ms.length:=by omega
  rw [hke] at hP
  clear kr kb lr lb nb
  simp (disch:=((try simp only [lZ]); omega)) only [aZ,aM,hB]
  refine AWP.loopM g_plant_New_1 (fun x : Nat×Ad×List Blk=>x.1≤p.bs.length∧PN H.length x.2.2 p p.ms.length x.1 x.2.1∧(x.2.1 .root).1=r∧Gr nof H x.2.2∧blkAt x.2.2 H.length 0=some [.v (.int .i64 p.mt),.fs w (mcs w p.ms),.fs v (bts p.bs),.v (.int .i64 p.fd)]) (fun x=>[(9,.v (.int .i64 x.1))]) (fun x=>x.2.2) (fun x=>p.bs.length - x.1) (0,ad,K) ⟨by omega,hP,hr,hG,hB⟩ ?_ ?_
  · exact Cut.fg (by simp (disch:=first | omega | simp (disch:=omega) only [aG,aM]) only [fZ,aM,fgl_nil,fgl_cons,or_true,true_or])
  clear hB hG hr hP hke hlt hk
  rintro ⟨b,ad,K⟩ ⟨hk,hP,hr,hG,hB⟩
  simp only at hk hP hr hG hB
  have kr:=hP.rt
  rw [hr] at kr
  have kb:=hP.get .bel rfl
  simp only [ctK] at kb
  have lr:=hP.lt (c:=.root) rfl
  rw [hr] at lr
  have lb:=hP.lt (c:=.bel) rfl
  have nb:=hP.ne (c:=.bel) (d:=.root) rfl rfl (by simp)
  rw [hr] at nb
  by_cases hlt : b < p.bs.length
  · unfold rootK slA at kr
    have lp:=blkAt_lt hB
    simp (disch:=((try simp only [lZ]); omega)) only [aZ,aM]
    refine (empty_ps m2 (r:=r) (by simp (disch:=((try simp only [lZ]); omega)) only [aZ,aM,kr]; rfl)).mono ?_
    rintro x H' ⟨rfl,hH⟩
    rw [hH]
    refine aret_of ?_
    simp (disch:=((try simp only [lZ]); omega)) only [aZ,aM]
    have hbl:=belsK_len p b ad
    have hap:=belsK_app p b ad K.length
    have tk : (belsK p b ad).take (b*2)=belsK p b ad:=List.take_of_length_le (by omega)
    have hbt:=ok.bt _ (mem_get b0 hlt)
    refine ib_intro (fun h1=>?_) (fun h1=>?_)
    · have hrl : ((p.bs.getD b b0).ln - 1)=(p.rl b : Nat):=by unfold Pl.rl; omega
      have hr0 : 0 < p.rl b:=by unfold Pl.rl; omega
      have hr16 : p.rl b≤16:=by have:=ok.rl hlt; omega
      have hbn:=fun (kp : Bool) (H : List Blk)=>bnew_ps (kp:=kp) (H:=H) (mat:=p.mt) (len:=p.rl b) (by omega) hr16 ⟨m1,m2⟩
      have q1:=beltN_at (K.length+3) (p.rl b) p.mt
      have q0 : blkAt (beltN (K.length+3) (p.rl b) p.mt) 0 0=some (belC (p.rl b) p.mt 0 (newA (K.length+3+1))):=rfl
      simp (disch:=((try simp only [lZ]); omega)) only [aZ,aM,hrl,hB]
      refine (hbn _ _).mono ?_
      rintro x H' ⟨rfl,hH⟩
      rw [hH]
      refine aret_of ?_
      simp only [List.length_append,List.length_cons,List.length_nil,Nat.zero_add,Nat.reduceAdd]
      generalize beltN (K.length+3) (p.rl b) p.mt=G at *
      rw [if_pos hr0] at hap
      simp (disch:=((try simp only [lZ]); omega)) only [aZ,aM,kr,kb,hbl,hap,tk]
      obtain ⟨T,hTe⟩ : ∃ T : List Blk,T=((⟨0,[.v (.int .i64 (p.bs.getD b b0).fr),.v (.int .i64 (p.bs.getD b b0).ot),.v (.int .i64 (p.bs.getD b b0).to),.v (.int .i64 (p.bs.getD b b0).ln)]⟩ : Blk) :: ⟨0,ints (zeros p.mt)⟩ :: ⟨0,[.sl (K.length+1) 0 1 0 p.mt,.lp (K.length+3) 0 0]⟩ :: (G++[⟨0,[.sl (K.length+1) 0 1 0 p.mt,.lp (K.length+3) 0 0]⟩])):=⟨_,rfl⟩
      have hT : ∀ q,q < p.rl b→blkAt T (4+q) 0=some (ints (zeros p.mt)):=fun q hq=>by
        rw [hTe,show 4+q=(1+q)+3 by omega]
        show blkAt (G++_) (1+q) 0=_
        rw [blkAt_app _ _ _ _ (blkAt_lt (q1 q hq))]; exact q1 q hq
      have hT0 : blkAt T 3 0=some (belC (p.rl b) p.mt 0 (fun q=>(K.length+(4+q),0))):=by
        rw [hTe]
        show blkAt (G++_) 0 0=_
        rw [blkAt_app _ _ _ _ (blkAt_lt q0),q0]
        congr 2
        funext q
        simp only [newA]; congr 1; omega
      have hN:=hP.addT T (by rw [hTe]; rfl) (fun _=>⟨hT0,hT⟩)
      have hg:=gr_t (K:=K) (T:=T) (B1:=⟨(ad .bel).2+1,belsK p (b+1) (adT ad K.length b)⟩) (B2:=⟨0,rootK p p.ms.length (b+1) (adT ad K.length b)⟩) (hP.hi .bel rfl) (hP.hi .root rfl)
      clear hT hT0
      subst hTe
      rw [hr] at hN hg
      refine ⟨(b+1,adT ad K.length b,_),⟨by simp only; omega,hN,hr,gr0 _ _ hG hg,pa0 _ _ _ hB hg⟩,by simp only; omega,?_⟩
      unfold rootK slA
      simp only [adT]
      try simp (disch:=((try simp only [lZ]); omega)) only [aZ,aM]
      exact Cut.fg (by simp (disch:=first | omega | simp (disch:=omega) only [aG,aM]) only [fZ,aM,fgl_nil,fgl_cons,or_true,true_or])
    · have hrl : p.rl b=0:=by unfold Pl.rl; omega
      rw [hrl,if_neg (by omega)] at hap
      have hN:=hP.addT [⟨0,[.v (.int .i64 (p.bs.getD b b0).fr),.v (.int .i64 (p.bs.getD b b0).ot),.v (.int .i64 (p.bs.getD b b0).to),.v (.int .i64 (p.bs.getD b b0).ln)]⟩,⟨0,ints (zeros p.mt)⟩,⟨0,[.sl (K.length+1) 0 1 0 p.mt,.v (.pointer none)]⟩,⟨0,[.sl (K.length+1) 0 1 0 p.mt,.v (.pointer none)]⟩] rfl (fun hc=>by omega)
      have hg:=gr_t (K:=K) (T:=[⟨0,[.v (.int .i64 (p.bs.getD b b0).fr),.v (.int .i64 (p.bs.getD b b0).ot),.v (.int .i64 (p.bs.getD b b0).to),.v (.int .i64 (p.bs.getD b b0).ln)]⟩,⟨0,ints (zeros p.mt)⟩,⟨0,[.sl (K.length+1) 0 1 0 p.mt,.v (.pointer none)]⟩,⟨0,[.sl (K.length+1) 0 1 0 p.mt,.v (.pointer none)]⟩]) (B1:=⟨(ad .bel).2+1,belsK p (b+1) (adT ad K.length b)⟩) (B2:=⟨0,rootK p p.ms.length (b+1) (adT ad K.length b)⟩) (hP.hi .bel rfl) (hP.hi .root rfl)
      rw [hr] at hN hg
      simp (disch:=((try simp only [lZ]); omega)) only [aZ,aM,kr,kb,hbl,hap,tk]
      refine ⟨(b+1,adT ad K.length b,_),⟨by simp only; omega,hN,hr,gr0 _ _ hG hg,pa0 _ _ _ hB hg⟩,by simp only; omega,?_⟩
      unfold rootK slA
      simp only [adT]
      try simp (disch:=((try simp only [lZ]); omega)) only [aZ,aM]
      exact Cut.fg (by simp (disch:=first | omega | simp (disch:=omega) only [aG,aM]) only [fZ,aM,fgl_nil,fgl_cons,or_true,true_or])
  have hke : b=p.bs.length:=by omega
  subst hke
  have hlo:=fun c hc=>hP.hi c hc
  have hzr:=hP.zr
  obtain ⟨hget,hinj,_,_⟩:=hP
  rw [usK_all] at hget hinj hlo
  simp (disch:=((try simp only [lZ]); omega)) only [aZ,aM,r_plant_New]
  have hm:=(pcheck_ok hpc).mt1.2.2
  have e1 : (rootK p p.ms.length p.bs.length ad).set 4 (.sl (ad .bef).1 (ad .bef).2 1 0 p.ms.length)=rootC p ad:=by
    unfold rootC
    rw [hm]; rfl
  have hset : ∀ c,usd p c=true→c≠.root→blkAt (K.set r ⟨0,rootC p ad⟩) (ad c).1 (ad c).2=some (ctK p p.ms.length p.bs.length ad c):=fun c hc hn=>by
    rw [blkAt_set_ne _ _ _ _ _ (fun he=>hn (hinj c .root hc rfl (he.trans hr.symm)))]; exact hget c hc
  have P1 : PM (K.set r ⟨0,rootC p ad⟩) p ad (newS p):=by
    refine ⟨fun c hc=>?_,hinj,hzr⟩
    cases c with
    | root=>rw [hr,hzr.1]; exact blkAt_set_same _ _ _ _ lr
    | _=>exact hset _ hc (by simp)
  have hc:=Cut.cellS (n0:=H.length) (e:=[.tup [.lp r 0 0,.v (.int .i64 0)]]) r 0 4 kr rfl n1
  rw [e1] at hc
  have h1:=hlo .root rfl
  rw [hr] at h1
  refine ⟨_,K.set r ⟨0,rootC p ad⟩,hc,ad,by rw [hr],P1,hG.trans (Gr.set (F:=one r) _ _ _ rfl) fun i hi hf=>?_,fun c hc=>Nat.le_of_lt (hlo c hc)⟩
  have : i=r:=hf
  omega
end Go.Proofs.YtdkoindoljngmaaGreat
namespace Go.Proofs.YtdkoindoljngmaaGreat
open Go Go.Lft
set_option linter.unusedSimpArgs false
set_option linter.unusedVariables false
def slt (p : Pl) (s : Sy) (i : Nat) : Nat→List Int
  | 0=>s.fst i
  | k+1=>s.rng i ((s.pos i+k) % p.rl i)
theorem out_slt (p : Pl) (s : Sy) (i : Nat) : outM p s i=slt p s i (p.rl i):=by
  unfold outM Pl.nxt
  cases h : p.rl i with
  | zero=>rfl
  | succ r=>rw [if_pos (by omega)]; simp only [slt,h]; rfl
theorem mod_shift {a r k : Nat} (h1 : 0 < k) (h2 : k < r) : ((a+r - 1) % r+k) % r=(a+(k - 1)) % r:=by
  rw [Nat.mod_add_mod,show a+r - 1+k=a+(k - 1)+r by omega,Nat.add_mod_right]
theorem mod_off {a r k : Nat} (h1 : 0 < k) (h2 : k < r) : ((a+r - 1) % r+k) % r≠(a+r - 1) % r:=by
  have h3 : (a+r - 1) % r < r:=Nat.mod_lt _ (by omega)
  generalize (a+r - 1) % r=b at *
  intro hc
  by_cases h : b+k < r
  · rw [Nat.mod_eq_of_lt h] at hc; omega
  · rw [Nat.mod_eq_sub_mod (by omega),Nat.mod_eq_of_lt (by omega)] at hc; omega
theorem mvA_slt (p : Pl) (s : Sy) (i j k : Nat) (hk : k≤p.rl j) : slt p (mvA p s i) j k=if j=i then (if k=0 then zeros p.mt else slt p s i (k - 1)) else slt p s j k:=by
  by_cases e : j=i
  · subst e
    rw [if_pos rfl]
    cases k with
    | zero=>simp [slt,mvA,mov_fst,updF_same]
    | succ k =>
      rw [if_neg (by omega)]
      have hr : 0 < p.rl j:=by omega
      have e1 : (mvA p s j).pos j=p.nxt s j:=by simp only [mvA,movS]; rw [if_pos hr]; simp only [rolS,updF_same]; rfl
      have e2 : (mvA p s j).rng j=updF (s.rng j) (p.nxt s j) (s.fst j):=by simp only [mvA,movS]; rw [if_pos hr]; simp only [rolS,updF_same]; rfl
      simp only [slt,e1,e2]
      have hn : p.nxt s j < p.rl j:=Nat.mod_lt _ hr
      cases k with
      | zero=>simp only [Nat.add_zero,Nat.mod_eq_of_lt hn,updF_same]; rfl
      | succ k =>
        unfold Pl.nxt
        rw [updF_ne _ _ (mod_off (by omega) (by omega)),mod_shift (by omega) (by omega)]
        rfl
  · rw [if_neg e]
    have e0 : (mvA p s i).fst j=s.fst j:=by simp only [mvA,mov_fst]; rw [updF_ne _ _ e]
    have e1 : (mvA p s i).pos j=s.pos j:=by
      simp only [mvA,movS]; split
      · simp only [rolS,empS]; rw [updF_ne _ _ e]
      · rfl
    have e2 : (mvA p s i).rng j=s.rng j:=by
      simp only [mvA,movS]; split
      · simp only [rolS,empS]; rw [updF_ne _ _ e]
      · rfl
    cases k with
    | zero=>exact e0
    | succ k=>simp only [slt,e1,e2]
theorem mvK_slt (p : Pl) (s : Sy) (i k : Nat) (hk : k≤p.rl i) : ∀ j,slt p (mvK p s j) i k=if i < j then (if k=0 then zeros p.mt else slt p s i (k - 1)) else slt p s i k
  | 0=>by simp [mvK]
  | j+1=>by
    simp only [mvK]
    rw [mvA_slt _ _ _ _ _ hk]
    by_cases e : i=j
    · subst e
      rw [if_pos rfl]
      by_cases h0 : k=0
      · simp [h0]
      · have:=mvK_slt p s i (k - 1) (by omega) i
        simp only [h0,if_false,this]; simp
    · rw [if_neg e,mvK_slt p s i k hk j]
      by_cases h : i < j
      · simp [h,show i < j+1 by omega]
      · simp [h,show ¬ i < j+1 by omega]
theorem mvK_out (p : Pl) (s : Sy) (j : Nat) : outM p (mvK p s j) j=outM p s j:=by
  rw [out_slt,out_slt,mvK_slt _ _ _ _ (Nat.le_refl _),if_neg (by omega)]
def arrK (p : Pl) (s : Sy) (m k : Nat) : List Int:=tb p.mt fun x=>(s.bef m).getD x 0+sm k fun i=>if tpS p i=m then (outM p s i).getD x 0 else 0
def arrL (p : Pl) (s : Sy) (m : Nat) : List Int:=arrK p s m p.bs.length
theorem mvK_bef {p : Pl} (ok : POk p) {s : Sy} (h : Gd p s) {m : Nat} (hm : m < p.ms.length) : ∀ k,k≤p.bs.length→(mvK p s k).bef m=arrK p s m k
  | 0,_=>by
    have hl:=(h.bl m hm).1
    unfold arrK
    simp only [mvK,sm]
    refine eq_of_getB 0 (by rw [tb_len,hl]) fun x hx=>?_
    rw [tb_get _ _ _ (by omega)]; omega
  | k+1,hk=>by
    have ih:=mvK_bef ok h hm k (by omega)
    have ho:=((h.ok).out (i:=k) (by omega)).1
    simp only [mvK,mvA]
    rw [mvK_out]
    by_cases e : m=tpS p k
    · rw [← e,updF_same,ih]
      unfold arrK
      rw [tb_plus]
      refine tb_ext fun x hx=>?_
      simp only [sm]; rw [if_pos e.symm]; omega
    · rw [updF_ne _ _ e,ih]
      unfold arrK
      refine tb_ext fun x hx=>?_
      simp only [sm]; rw [if_neg (fun hc=>e hc.symm)]; omega
def runs (p : Pl) (s : Sy) (m : Nat) : Prop:=¬ (outsN (p.ms.getD m [])=0∨s.hal.getD m false=true)
instance (p : Pl) (s : Sy) (m : Nat) : Decidable (runs p s m):=inferInstanceAs (Decidable (¬ _))
theorem dsK_bef (p : Pl) (s : Sy) (m : Nat) : ∀ k,(dsK p s k).bef m=if m < k∧runs p s m then zeros p.mt else s.bef m
  | 0=>by rw [if_neg (by omega)]; rfl
  | k+1=>by
    have ih:=dsK_bef p s m k
    have hh:=(dsK_hal (p:=p) s k).1
    simp only [dsK,disA]
    rw [hh]
    split
    · rename_i hc
      rw [ih]
      by_cases e : m=k
      · subst e; rw [if_neg (by omega),if_neg (fun h=>h.2 hc)]
      · by_cases h : m < k∧runs p s m
        · rw [if_pos h,if_pos ⟨by omega,h.2⟩]
        · rw [if_neg h,if_neg (fun h2=>h ⟨by omega,h2.2⟩)]
    · rename_i hc
      simp only [disS]
      by_cases e : m=k
      · subst e; rw [updF_same,if_pos ⟨by omega,hc⟩]
      · rw [updF_ne _ _ e]
        show (dsK p s k).bef m=_
        rw [ih]
        by_cases h : m < k∧runs p s m
        · rw [if_pos h,if_pos ⟨by omega,h.2⟩]
        · rw [if_neg h,if_neg (fun h2=>h ⟨by omega,h2.2⟩)]
def prtL (p : Pl) (m : Nat) (l : List Int) (o : Nat) : List Int:=(msM (p.ms.getD m []) l).getD o []
def frS (p : Pl) (i : Nat) : Nat:=(p.bs.getD i b0).fr.toNat
def otS (p : Pl) (i : Nat) : Nat:=(p.bs.getD i b0).ot.toNat
theorem dsK_fsts {p : Pl} (ok : POk p) (s : Sy) {i : Nat} (hi : i < p.bs.length) : ∀ k,(dsK p s k).fst i=if frS p i < k∧runs p s (frS p i) then prtL p (frS p i) (s.bef (frS p i)) (otS p i) else s.fst i
  | 0=>by rw [if_neg (by omega)]; rfl
  | k+1=>by
    have ih:=dsK_fsts ok s hi k
    have hh:=(dsK_hal (p:=p) s k).1
    have hb:=ok.bt _ (mem_get b0 hi)
    have hf : (p.bs.getD i b0).fr=(frS p i : Int):=by unfold frS; omega
    simp only [dsK,disA]
    rw [hh]
    split
    · rename_i hc
      rw [ih]
      by_cases e : frS p i=k
      · rw [if_neg (by omega),if_neg (fun h=>h.2 (by rw [e]; exact hc))]
      · by_cases h : frS p i < k∧runs p s (frS p i)
        · rw [if_pos h,if_pos ⟨by omega,h.2⟩]
        · rw [if_neg h,if_neg (fun h2=>h ⟨by omega,h2.2⟩)]
    · rename_i hc
      simp only [disS,disK]
      by_cases e : frS p i=k
      · rw [if_pos ⟨by omega,by rw [← e]; exact hb.2.2.2.1⟩,if_pos ⟨by omega,by rw [e]; exact hc⟩]
        unfold prt prtL
        rw [e,dsK_bef,if_neg (by omega)]; rfl
      · rw [if_neg (fun h=>e (by omega)),ih]
        by_cases h : frS p i < k∧runs p s (frS p i)
        · rw [if_pos h,if_pos ⟨by omega,h.2⟩]
        · rw [if_neg h,if_neg (fun h2=>h ⟨by omega,h2.2⟩)]
theorem dsK_rng (p : Pl) (s : Sy) : ∀ k,(dsK p s k).rng=s.rng∧(dsK p s k).pos=s.pos
  | 0=>⟨rfl,rfl⟩
  | k+1=>by
    have ih:=dsK_rng p s k
    simp only [dsK,disA]
    split
    · exact ih
    · exact ih
theorem runs_mvK (p : Pl) (s : Sy) (k m : Nat) : runs p (mvK p s k) m=runs p s m:=by unfold runs; rw [(mvK_hal p s k).1]
theorem stp_bef {p : Pl} (ok : POk p) {s : Sy} (h : Gd p s) {m : Nat} (hm : m < p.ms.length) : (stpS p s).bef m=if runs p s m then zeros p.mt else arrL p s m:=by
  unfold stpS arrL
  rw [dsK_bef,mvK_bef ok h hm _ (Nat.le_refl _)]
  simp only [runs_mvK]
  by_cases hr : runs p s m
  · rw [if_pos ⟨hm,hr⟩,if_pos hr]
  · rw [if_neg (fun h=>hr h.2),if_neg hr]
theorem fr_lt {p : Pl} (ok : POk p) {i : Nat} (hi : i < p.bs.length) : frS p i < p.ms.length:=by
  have:=ok.bt _ (mem_get b0 hi)
  unfold frS; omega
theorem stp_slt0 {p : Pl} (ok : POk p) {s : Sy} (h : Gd p s) {i : Nat} (hi : i < p.bs.length) : slt p (stpS p s) i 0=if runs p s (frS p i) then prtL p (frS p i) (arrL p s (frS p i)) (otS p i) else zeros p.mt:=by
  have hf:=fr_lt ok hi
  show (stpS p s).fst i=_
  unfold stpS arrL
  rw [dsK_fsts ok _ hi,mvK_bef ok h hf _ (Nat.le_refl _),mvK_fst]
  simp only [runs_mvK]
  by_cases hr : runs p s (frS p i)
  · rw [if_pos ⟨hf,hr⟩,if_pos hr]
  · rw [if_neg (fun h=>hr h.2),if_neg hr,if_pos hi]
theorem stp_sltS {p : Pl} {s : Sy} {i k : Nat} (hi : i < p.bs.length) (hk : k < p.rl i) : slt p (stpS p s) i (k+1)=slt p s i k:=by
  have h1:=mvK_slt p s i (k+1) (by omega) p.bs.length
  rw [if_pos hi,if_neg (by omega),Nat.add_sub_cancel] at h1
  rw [← h1]
  obtain ⟨e1,e2⟩:=dsK_rng p (mvK p s p.bs.length) p.ms.length
  simp only [slt,stpS,e1,e2]
theorem sm_front (n : Nat) (f : Nat→Int) : sm (n+1) f=f 0+sm n fun k=>f (k+1):=by
  induction n with
  | zero=>simp [sm]
  | succ n ih=>rw [show sm (n+1+1) f=sm (n+1) f+f (n+1) from rfl,ih]; simp only [sm]; omega
theorem sm_rot1 (n : Nat) (g : Nat→Int) : sm n (fun k=>g ((1+k) % n))=sm n g:=by
  cases n with
  | zero=>rfl
  | succ m =>
    rw [sm_front m g]
    simp only [sm]
    rw [show (1+m) % (m+1)=0 by rw [Nat.add_comm,Nat.mod_self],Int.add_comm]
    congr 1
    exact sm_congr fun k hk=>by rw [Nat.mod_eq_of_lt (by omega),Nat.add_comm]
theorem sm_rot (n : Nat) (f : Nat→Int) : ∀ c,sm n (fun k=>f ((c+k) % n))=sm n f
  | 0=>sm_congr fun k hk=>by rw [Nat.zero_add,Nat.mod_eq_of_lt hk]
  | c+1=>by
    rw [← sm_rot n f c,← sm_rot1 n fun k=>f ((c+k) % n)]
    refine sm_congr fun k hk=>?_
    rw [Nat.add_mod_mod]; congr 2; omega
theorem inB_slt (p : Pl) (s : Sy) (x i : Nat) : inB p s x i=sm (p.rl i+1) fun k=>(slt p s i k).getD x 0:=by
  rw [sm_front]
  unfold inB
  congr 1
  exact (sm_rot (p.rl i) (fun q=>(s.rng i q).getD x 0) (s.pos i)).symm
structure Eqv (p : Pl) (s t : Sy) : Prop where
  bef : ∀ m,m < p.ms.length→s.bef m=t.bef m
  slt : ∀ i,i < p.bs.length→∀ k,k≤p.rl i→slt p s i k=slt p t i k
  hal : s.hal=t.hal
  fed : s.fed=t.fed
theorem Eqv.refl (p : Pl) (s : Sy) : Eqv p s s:=⟨fun _ _=>rfl,fun _ _ _ _=>rfl,rfl,rfl⟩
theorem Eqv.symm {p : Pl} {s t : Sy} (h : Eqv p s t) : Eqv p t s:=⟨fun m hm=>(h.bef m hm).symm,fun i hi k hk=>(h.slt i hi k hk).symm,h.hal.symm,h.fed.symm⟩
theorem Eqv.trans {p : Pl} {s t u : Sy} (h : Eqv p s t) (g : Eqv p t u) : Eqv p s u:=⟨fun m hm=>(h.bef m hm).trans (g.bef m hm),fun i hi k hk=>(h.slt i hi k hk).trans (g.slt i hi k hk),h.hal.trans g.hal,h.fed.trans g.fed⟩
theorem Eqv.arr {p : Pl} {s t : Sy} (h : Eqv p s t) {m : Nat} (hm : m < p.ms.length) : arrL p s m=arrL p t m:=by
  unfold arrL arrK
  refine tb_ext fun x _=>?_
  rw [h.bef m hm]
  congr 1
  refine sm_congr fun i hi=>?_
  rw [out_slt,out_slt,h.slt i hi _ (Nat.le_refl _)]
theorem Eqv.runs {p : Pl} {s t : Sy} (h : Eqv p s t) (m : Nat) : runs p s m=runs p t m:=by unfold Go.Proofs.YtdkoindoljngmaaGreat.runs; rw [h.hal]
theorem Eqv.stp {p : Pl} (hp : pcheck p=0) {s t : Sy} (hs : Gd p s) (ht : Gd p t) (h : Eqv p s t) : Eqv p (stpS p s) (stpS p t):=by
  have ok:=pcheck_ok hp
  refine ⟨fun m hm=>?_,fun i hi k hk=>?_,?_,?_⟩
  · rw [stp_bef ok hs hm,stp_bef ok ht hm,h.arr hm]; simp only [h.runs m]
  · cases k with
    | zero=>rw [stp_slt0 ok hs hi,stp_slt0 ok ht hi,h.arr (fr_lt ok hi)]; simp only [h.runs (frS p i)]
    | succ k=>rw [stp_sltS hi (by omega),stp_sltS hi (by omega)]; exact h.slt i hi k (by omega)
  · rw [(hs.stp hp).2.2.1,(ht.stp hp).2.2.1,h.hal]
  · rw [(hs.stp hp).2.2.2,(ht.stp hp).2.2.2,h.fed]
theorem Eqv.it {p : Pl} (hp : pcheck p=0) {s t : Sy} (hs : Gd p s) (ht : Gd p t) (h : Eqv p s t) : ∀ k,Eqv p (itS p s k) (itS p t k)
  | 0=>h
  | k+1=>Eqv.stp hp (hs.it hp k).1 (ht.it hp k).1 (Eqv.it hp hs ht h k)
theorem Eqv.ins {p : Pl} {s t : Sy} (h : Eqv p s t) (x : Nat) : insT p s x=insT p t x:=by
  unfold insT
  congr 1
  · exact sm_congr fun m hm=>by unfold inM; rw [h.bef m hm]
  · exact sm_congr fun i hi => by
      rw [inB_slt,inB_slt]
      exact sm_congr fun k hk=>by rw [h.slt i hi k (by omega)]
theorem Eqv.insL {p : Pl} {s t : Sy} (h : Eqv p s t) : insL p s=insL p t:=tb_ext fun x _=>h.ins x
theorem Eqv.tot {p : Pl} {s t : Sy} (h : Eqv p s t) (x : Nat) : tot p s x=tot p t x:=by
  unfold Go.Proofs.YtdkoindoljngmaaGreat.tot
  have h1 : befT p s x=befT p t x:=sm_congr fun m hm=>by rw [h.bef m hm]
  have h2 : ∀ u : Sy,fstT p u x+rngT p u x=sm p.bs.length (inB p u x):=fun u=>by
    unfold fstT rngT; rw [← sm_add]; exact sm_congr fun i _=>rfl
  have h3:=h2 s
  have h4:=h2 t
  have h5 : sm p.bs.length (inB p s x)=sm p.bs.length (inB p t x):=sm_congr fun i hi=>by
    rw [inB_slt,inB_slt]
    exact sm_congr fun k hk=>by rw [h.slt i hi k (by omega)]
  omega
theorem sm_zero_all {n : Nat} {f : Nat→Int} (h : ∀ i,i < n→0≤f i) (hz : sm n f=0) {i : Nat} (hi : i < n) : f i=0:=by
  have:=sm_le h hi
  have:=h i hi
  omega
theorem nil_zero {n : Nat} {l : List Int} (hl : l.length=n) (h : ∀ x,l.getD x 0=0) : l=zeros n :=
  eq_of_getB 0 (by rw [hl]; simp [zeros]) fun x _=>by rw [h x,zeros_get]
theorem emp_bef {p : Pl} {s : Sy} (h : Gd p s) (hz : ∀ x,insT p s x=0) {m : Nat} (hm : m < p.ms.length) (hb : ¬ binN p m) : s.bef m=zeros p.mt:=by
  refine nil_zero (h.bl m hm).1 fun x=>?_
  have h1:=sm_nn (inM_nn h x)
  have h2:=sm_nn (inB_nn h x)
  have h3:=hz x
  unfold insT at h3
  have h4:=sm_zero_all (inM_nn h x) (by omega) hm
  unfold inM at h4
  rwa [if_neg (show ¬ outsN (p.ms.getD m [])=0 from hb)] at h4
theorem slt_ok {p : Pl} {s : Sy} (h : Gd p s) {i k : Nat} (hi : i < p.bs.length) (hk : k≤p.rl i) : (slt p s i k).length=p.mt∧∀ x,0≤(slt p s i k).getD x 0:=by
  cases k with
  | zero=>exact h.fl i hi
  | succ k=>exact h.rl i hi _ (Nat.mod_lt _ (by omega))
theorem emp_slt {p : Pl} {s : Sy} (h : Gd p s) (hz : ∀ x,insT p s x=0) {i k : Nat} (hi : i < p.bs.length) (hk : k≤p.rl i) : slt p s i k=zeros p.mt:=by
  refine nil_zero (slt_ok h hi hk).1 fun x=>?_
  have h1:=sm_nn (inM_nn h x)
  have h2:=sm_nn (inB_nn h x)
  have h3:=hz x
  unfold insT at h3
  have h4:=sm_zero_all (inB_nn h x) (by omega) hi
  rw [inB_slt] at h4
  exact sm_zero_all (n:=p.rl i+1) (f:=fun k=>(slt p s i k).getD x 0) (fun q hq=>(slt_ok h hi (by omega)).2 x) h4 (by omega)
theorem emp_arr {p : Pl} {s : Sy} (h : Gd p s) (hz : ∀ x,insT p s x=0) {m : Nat} (hm : m < p.ms.length) : arrL p s m=s.bef m:=by
  refine eq_of_getB 0 (by unfold arrL arrK; rw [tb_len,(h.bl m hm).1]) fun x hx=>?_
  unfold arrL arrK at hx ⊢
  rw [tb_len] at hx
  rw [tb_get _ _ _ hx,sm_congr (g:=fun _=>0) fun i hi=>by rw [out_slt,emp_slt h hz hi (Nat.le_refl _),zeros_get]; split<;>rfl,sm_zero]; omega
theorem prt_zero {p : Pl} (hp : pcheck p=0) {m : Nat} (hm : m < p.ms.length) (hb : ¬ binN p m) {o : Nat} (ho : o < outsN (p.ms.getD m [])) : prtL p m (zeros p.mt) o=zeros p.mt:=by
  have hx : MixOk p.mt ((newS p).bef m):=zeros_ok _
  have h1:=prt_ok hp hm hb hx ho
  refine nil_zero h1.1 fun x=>?_
  have h2:=prt_sum hp hm hb hx x
  have h3 : ((newS p).bef m).getD x 0=0:=zeros_get _ _
  rw [h3] at h2
  exact sm_zero_all (f:=fun o=>(prt p (newS p) m o).getD x 0) (fun o ho=>((prt_ok hp hm hb hx ho).2 x).1) h2 ho
theorem emp_fix {p : Pl} (hp : pcheck p=0) {s : Sy} (h : Gd p s) (hz : ∀ x,insT p s x=0) : Eqv p (stpS p s) s:=by
  have ok:=pcheck_ok hp
  refine ⟨fun m hm=>?_,fun i hi k hk=>?_,(h.stp hp).2.2.1,(h.stp hp).2.2.2⟩
  · rw [stp_bef ok h hm]
    split
    · rename_i hr
      exact (emp_bef h hz hm fun hb=>hr (.inl hb)).symm
    · exact emp_arr h hz hm
  · rw [emp_slt h hz hi hk]
    cases k with
    | zero =>
      rw [stp_slt0 ok h hi]
      split
      · rename_i hr
        have hb : ¬ binN p (frS p i):=fun hb=>hr (.inl hb)
        have hf:=fr_lt ok hi
        have hbt:=ok.bt _ (mem_get b0 hi)
        rw [emp_arr h hz hf,emp_bef h hz hf hb]
        exact prt_zero hp hf hb (by unfold otS frS; omega)
      · rfl
    | succ k=>rw [stp_sltS hi (by omega)]; exact emp_slt h hz hi (by omega)
theorem emp_it {p : Pl} (hp : pcheck p=0) {s : Sy} (h : Gd p s) (hz : ∀ x,insT p s x=0) : ∀ k,Eqv p (itS p s k) s
  | 0=>Eqv.refl p s
  | k+1=>(Eqv.stp hp (h.it hp k).1 h (emp_it hp h hz k)).trans (emp_fix hp h hz)
theorem it_add (p : Pl) (s : Sy) (j : Nat) : ∀ k,itS p s (j+k)=itS p (itS p s j) k
  | 0=>rfl
  | k+1=>by rw [← Nat.add_assoc]; simp only [itS]; rw [it_add p s j k]
theorem run_eqv {p : Pl} (hp : pcheck p=0) {s : Sy} (h : Gd p s) {k n : Nat} (hk : k≤n) (hz : k=n∨∀ x,insT p (itS p s k) x=0) : Eqv p (itS p s k) (itS p s n):=by
  rcases hz with rfl | hz
  · exact Eqv.refl _ _
  · rw [show n=k+(n - k) by omega,it_add]
    exact (emp_it hp (h.it hp k).1 hz (n - k)).symm
theorem arr_ok {p : Pl} (ok : POk p) {s : Sy} (h : Gd p s) {m : Nat} (hm : m < p.ms.length) : MixOk p.mt (arrL p s m):=by
  have:=(h.mvK ok p.bs.length (Nat.le_refl _)).1.ok.bef m hm
  rw [mvK_bef ok h hm _ (Nat.le_refl _)] at this; exact this
end Go.Proofs.YtdkoindoljngmaaGreat
namespace Go.Proofs.YtdkoindoljngmaaGreat
open Go Go.Lft
set_option linter.unusedSimpArgs false
set_option linter.unusedVariables false
attribute [local congr] ob_congr bw_congr ib_congr ck_congr iwA_congr itA_congr aw_congr awp_congr sqA_congr bkA_congr vr_congr gd_congr
theorem fitE_ok {mt : Nat} {fed xs : List Int} (h : fitE mt fed xs=0) : MixOk mt xs∧∀ x,fed.getD x 0+xs.getD x 0≤1073741824∨mt≤x:=by
  have h1:=(fitE_zero h).2
  have hl:=(fitE_zero h).1
  refine ⟨h1,fun x=>?_⟩
  by_cases hx : x < mt
  · left
    unfold fitE at h
    split at h
    · cases h
    split at h
    · cases h
    split at h
    · cases h
    rename_i h3
    apply Classical.byContradiction
    intro hc
    exact h3 ⟨x,by omega,by omega⟩
  · right; omega
theorem feed_tot {p : Pl} (ok : POk p) {s : Sy} (h : Gd p s) {xs : List Int} (hx : xs.length=p.mt) (x : Nat) : tot p (feedS p s xs) x=tot p s x+xs.getD x 0:=by
  have hfd:=ok.fd
  have ht : p.fd.toNat < p.ms.length:=by omega
  have h1 : befT p (feedS p s xs) x=befT p s x+xs.getD x 0:=by
    unfold befT
    rw [sm_upd (fun m=>(s.bef m).getD x 0) (fun m=>((feedS p s xs).bef m).getD x 0) ht fun j hj _=>by simp only [feedS]; rw [updF_ne _ _ hj]]
    simp only [feedS,updF_same]
    rw [plus_get (h.bl _ ht).1 hx]; omega
  have h2 : fstT p (feedS p s xs) x=fstT p s x:=rfl
  have h3 : rngT p (feedS p s xs) x=rngT p s x:=rfl
  unfold tot; omega
def Iv (p : Pl) (s : Sy) : Prop:=Gd p s∧∀ x,tot p s x≤s.fed.getD x 0
theorem Iv.new (p : Pl) : Iv p (newS p):=⟨Gd.new p,fun x=>by rw [new_tot]; show (0 : Int)≤(zeros p.mt).getD x 0; rw [zeros_get]; exact Int.le_refl _⟩
theorem Iv.feed {p : Pl} (ok : POk p) {s : Sy} (h : Iv p s) {xs : List Int} (he : fitE p.mt s.fed xs=0) : Iv p (feedS p s xs):=by
  obtain ⟨g,hf⟩:=h
  obtain ⟨e1,e2⟩:=fitE_ok he
  have hfd:=ok.fd
  have ht : p.fd.toNat < p.ms.length:=by omega
  have hfed : ∀ x,(plusM s.fed xs).getD x 0=s.fed.getD x 0+xs.getD x 0:=fun x=>plus_get g.fd.1 e1.1 x
  have hbd : ∀ x,s.fed.getD x 0+xs.getD x 0≤1073741824:=fun x=>by
    rcases e2 x with h1 | h1
    · exact h1
    · rw [get_out g.fd.1 h1,get_out e1.1 h1]; omega
  refine ⟨⟨fun m hm=>?_,g.fl,g.rl,g.ps,g.hl,⟨by show (plusM s.fed xs).length=_; rw [plusM_len]; exact g.fd.1,fun x=>?_⟩,fun x=>?_⟩,fun x=>?_⟩
  · simp only [feedS]
    by_cases e : m=p.fd.toNat
    · rw [e,updF_same]
      have hb:=g.bl _ ht
      refine ⟨by rw [plusM_len]; exact hb.1,fun x=>?_⟩
      rw [plus_get hb.1 e1.1]
      have:=hb.2 x
      have:=(e1.2 x).1
      omega
    · rw [updF_ne _ _ e]; exact g.bl m hm
  · simp only [feedS]; rw [hfed]
    have:=hbd x
    have:=(g.fd.2 x).1
    have:=(e1.2 x).1
    omega
  · rw [feed_tot ok g e1.1]
    have:=hf x
    have:=hbd x
    omega
  · rw [feed_tot ok g e1.1]
    show _≤(plusM s.fed xs).getD x 0
    rw [hfed]
    have:=hf x
    omega
theorem take_tot {p : Pl} {s : Sy} (h : Gd p s) {m : Int} {xs : List Int} (he : takE p s m xs=0) (x : Nat) : tot p (takS s m xs) x=tot p s x - xs.getD x 0∧xs.length=p.mt∧0≤xs.getD x 0∧xs.getD x 0≤(s.bef m.toNat).getD x 0∧(m.toNat < p.ms.length∧0≤m)∧(dnM (s.bef m.toNat) xs xs.length).getD x 0=(s.bef m.toNat).getD x 0 - xs.getD x 0:=by
  unfold takE at he
  split at he
  · contradiction
  rename_i h1
  split at he
  · cases he
  rename_i h2
  split at he
  · cases he
  rename_i h3
  have hm : 0≤m∧m.toNat < p.ms.length:=by
    have h0:=Classical.not_not.1 h1
    unfold fndE at h0
    split at h0
    · cases h0
    · omega
  have hl : xs.length=p.mt:=by omega
  have hb:=h.bl _ hm.2
  have hd : (dnM (s.bef m.toNat) xs xs.length).getD x 0=(s.bef m.toNat).getD x 0 - xs.getD x 0:=by
    by_cases hx : x < p.mt
    · rw [dnM_get _ _ _ _ (by omega),if_pos (by omega)]
    · rw [get_out (n:=p.mt) (by rw [dnM_len]; exact hb.1) (by omega),get_out hb.1 (by omega),get_out hl (by omega)]; rfl
  have hxs : 0≤xs.getD x 0∧xs.getD x 0≤(s.bef m.toNat).getD x 0:=by
    by_cases hx : x < xs.length
    · have : ¬ badT (s.bef m.toNat) xs x:=fun hc=>h3 ⟨x,hx,hc⟩
      unfold badT at this; omega
    · rw [get_out rfl (by omega)]
      have:=hb.2 x
      omega
  refine ⟨?_,hl,hxs.1,hxs.2,⟨hm.2,hm.1⟩,hd⟩
  have h1 : befT p (takS s m xs) x=befT p s x - xs.getD x 0:=by
    unfold befT
    rw [sm_upd (fun m=>(s.bef m).getD x 0) (fun j=>((takS s m xs).bef j).getD x 0) hm.2 fun j hj _=>by simp only [takS]; rw [updF_ne _ _ hj]]
    simp only [takS,updF_same]
    rw [hd]; omega
  have h2 : fstT p (takS s m xs) x=fstT p s x:=rfl
  have h3 : rngT p (takS s m xs) x=rngT p s x:=rfl
  unfold tot; omega
theorem Iv.take {p : Pl} {s : Sy} (h : Iv p s) {m : Int} {xs : List Int} (he : takE p s m xs=0) : Iv p (takS s m xs):=by
  obtain ⟨g,hf⟩:=h
  have ht:=fun x=>take_tot g he x
  refine ⟨⟨fun j hj=>?_,g.fl,g.rl,g.ps,g.hl,g.fd,fun x=>?_⟩,fun x=>?_⟩
  · simp only [takS]
    by_cases e : j=m.toNat
    · rw [e,updF_same]
      have hb:=g.bl _ (ht 0).2.2.2.2.1.1
      refine ⟨by rw [dnM_len]; exact hb.1,fun x=>?_⟩
      have:=ht x
      rw [this.2.2.2.2.2]; omega
    · rw [updF_ne _ _ e]; exact g.bl j hj
  · have:=ht x
    have:=g.tt x
    omega
  · have:=ht x
    have:=hf x
    show _≤s.fed.getD x 0
    omega
theorem Iv.halt {p : Pl} {s : Sy} (h : Iv p s) (m : Int) (b : Bool) : Iv p (hltS s m b):=⟨⟨h.1.bl,h.1.fl,h.1.rl,h.1.ps,by simp only [hltS,List.length_set]; exact h.1.hl,h.1.fd,h.1.tt⟩,h.2⟩
theorem Iv.it {p : Pl} (hp : pcheck p=0) {s : Sy} (h : Iv p s) (k : Nat) : Iv p (itS p s k):=by
  obtain ⟨g1,g2,g3,g4⟩:=h.1.it hp k
  exact ⟨g1,fun x=>by rw [g2,g4]; exact h.2 x⟩
theorem run_e {H : List Blk} {p : Pl} {ad : Ad} {s : Sy} (hp : pcheck p = 0) (h : PM H p ad s) (hg : Iv p s) (n : Nat) (hn : n ≤ 100000) :
    VR P false n_plant_Plant_Run [.lp (ad .root).1 0 0,.v (.int .i64 n)] H (fun r H'=>r=.v (.int .i64 0)∧∃ (s' : Sy) (ad' : Ad),PM H' p ad' s'∧Tr p H ad H' ad'∧Iv p s'∧Eqv p s' (itS p s n)) :=
  (run_m hp h hg.1 n hn).mono fun r H' ⟨h1,k,ad',h2,h3,h4,h5⟩=>⟨h1,itS p s k,ad',h3,h4,hg.it hp k,run_eqv hp hg.1 h2 h5⟩
def feedR (p : Pl) (s : Sy) (xs : List Int) : Sy:=if fitE p.mt s.fed xs=0 then feedS p s xs else s
theorem Iv.feedR {p : Pl} (ok : POk p) {s : Sy} (h : Iv p s) (xs : List Int) : Iv p (feedR p s xs):=by
  unfold Go.Proofs.YtdkoindoljngmaaGreat.feedR
  split
  · rename_i he; exact h.feed ok he
  · exact h
theorem feed_f {w : Bool} {H : List Blk} {p : Pl} {ad : Ad} {s : Sy} (hp : pcheck p = 0) (h : PM H p ad s) (hg : Iv p s) {xs : List Int} :
    VR P false n_plant_Plant_Feed [.lp (ad .root).1 0 0,.fs w (ints xs)] H (fun r H'=>r=.v (.int .i64 (fitE p.mt s.fed xs))∧PM H' p ad (feedR p s xs)∧Tr p H ad H' ad):=by
  unfold feedR
  by_cases he : fitE p.mt s.fed xs=0
  · rw [if_pos he,he]; exact feed_fs hp h hg.1 he
  · rw [if_neg he]
    exact (feed_fs_err hp h hg.1 he).mono fun r H' ⟨h1,h2⟩=>⟨h1,h2▸h,h2▸Tr.refl _ _⟩
theorem feed_s {j v : Nat} {H : List Blk} {p : Pl} {ad : Ad} {s : Sy} (hp : pcheck p = 0) (h : PM H p ad s) (hg : Iv p s) {xs : List Int} (hj : blkAt H j v = some (ints xs)) (hj2 : ¬ ftp p ad j) :
    VR P false n_plant_Plant_Feed [.lp (ad .root).1 0 0,.sl j v 1 0 xs.length] H (fun r H'=>r=.v (.int .i64 (fitE p.mt s.fed xs))∧PM H' p ad (feedR p s xs)∧Tr p H ad H' ad):=by
  unfold feedR
  by_cases he : fitE p.mt s.fed xs=0
  · rw [if_pos he,he]; exact feed_sl hp h hg.1 hj hj2 he
  · rw [if_neg he]
    exact (feed_sl_err hp h hg.1 hj hj2 he).mono fun r H' ⟨h1,h2⟩=>⟨h1,h2▸h,h2▸Tr.refl _ _⟩
def loopP : Pl:=⟨1,[[[600,400]],[[]]],[⟨0,0,1,1⟩,⟨0,1,0,2⟩],0⟩
theorem loop_vr : VR P false n_law35_loop [] [] (isR (plA true true loopP)):=by
  refine vr_law35_loop (by simp) (.inr rfl) fun _ _=>?_
  simp (disch:=((try simp only [lZ]); omega)) only [aZ,aM,s_law35_loop,v_law35_loop,r_law35_loop]
  refine post0 (fz_all ?_) ⟨rfl,rfl⟩
  simp [zZ,blkAt,flatA,A.cells,A.one,Lft.one,retA,A.bdL,A.bd,loopP,plA,plC,mcs,mcA,mcC,bts,btA,btC,rows,ints]
theorem loop_chk : chkP loopP=0:=by decide +kernel
theorem loop_bnd : bndR loopP 10=(30,0):=by decide +kernel
theorem loop_fit : fitE loopP.mt (newS loopP).fed [10]=0:=by decide +kernel
theorem loop_bin : (itS loopP (feedS loopP (newS loopP) [10]) 3).bef 1=[6]:=by decide +kernel
theorem loop_ins : insL loopP (itS loopP (feedS loopP (newS loopP) [10]) 3)=[4]:=by decide +kernel
theorem PM.nftp {H : List Blk} {p : Pl} {ad : Ad} {s : Sy} (h : PM H p ad s) {j : Nat} (hj : H.length≤j) : ¬ ftp p ad j:=by
  rintro ⟨c,hc,he⟩
  have:=h.lt hc
  omega
theorem example35_vr : VR P false n_law35_exampleHolds [] [] (isR (.v (.bool true))):=by
  refine vr_law35_exampleHolds (by simp) (.inr rfl) fun _ _=>?_
  have hpc:=(chkP_ok loop_chk).1
  have ok:=pcheck_ok hpc
  have hnw:=new_vr (H:=[]) (w:=true) (v:=true) loopP loop_chk
  have hbd:=plantBound_vr (w:=true) (v:=true) loopP 10
  rw [loop_bnd] at hbd
  have hlp:=loop_vr
  have hpb : A.bd 0 (plA true true loopP)=true:=plA_bd _ _ _ _
  have hpb2 : (plA true true loopP).cl=true:=by decide +kernel
  generalize hA : plA true true loopP=pa at *
  simp (disch:=((try simp only [lZ]); omega)) only [aZ,aM,s_law35_exampleHolds,v_law35_exampleHolds]
  refine hlp.same (by simp (disch:=first | omega | simp (disch:=omega) only [aG,aM]) only [fZ,aM]) (by rw [hpb,hpb2]; rfl) (aret_of ?_)
  simp (disch:=((try simp only [lZ]); omega)) only [aZ,aM]
  refine hnw.mono ?_
  rintro r H1 ⟨ad,rfl,P1,G1,L1⟩
  refine aret_of ?_
  simp (disch:=((try simp only [lZ]); omega)) only [aZ,aM]
  refine hlp.same (by simp (disch:=first | omega | simp (disch:=omega) only [aG,aM]) only [fZ,aM]) (by rw [hpb,hpb2]; rfl) (aret_of ?_)
  simp (disch:=((try simp only [lZ]); omega)) only [aZ,aM]
  refine hbd.same (by simp [A.bdL,hpb,A.bd]) rfl (aret_of ?_)
  simp (disch:=((try simp only [lZ]); omega)) only [aZ,aM]
  have I1:=Iv.new loopP
  have hf:=feed_s (s:=newS loopP) (j:=H1.length) (v:=0) (xs:=[10]) hpc (P1.grow [⟨0,ints [10]⟩]) I1 (by rw [blkAt_new0]; rfl) (P1.nftp (Nat.le_refl _))
  rw [loop_fit] at hf
  unfold feedR at hf
  rw [if_pos loop_fit] at hf
  refine hf.mono ?_
  rintro r H2 ⟨rfl,P2,T2⟩
  refine aret_of ?_
  simp (disch:=((try simp only [lZ]); omega)) only [aZ,aM]
  have I2:=I1.feed ok loop_fit
  have hr:=run_e hpc P2 I2 3 (by omega)
  refine hr.mono ?_
  rintro r H3 ⟨rfl,s3,ad3,P3,T3,I3,E3⟩
  refine aret_of ?_
  have hb:=bin_ok ok P3 I3.1.ok 1 (by decide +kernel)
  have hi:=fun (H' : List Blk) (P : PM H' loopP ad3 s3)=>inside_m hpc P I3.1
  rw [T3.2.2] at hb hi
  simp (disch:=((try simp only [lZ]); omega)) only [aZ,aM]
  refine hb.mono ?_
  rintro r H4 ⟨rfl,hH⟩
  rw [hH]
  have e1 : s3.bef (1 : Int).toNat=[6]:=by rw [← loop_bin]; exact E3.bef 1 (by decide)
  have e2 : insL loopP s3=[4]:=by rw [← loop_ins]; exact E3.insL
  have e3 : loopP.mt=1:=rfl
  rw [e1,e3]
  refine aret_of ?_
  have hi1:=hi _ (P3.grow [⟨1,ints [6]⟩])
  rw [e2,e3] at hi1
  have g6 : ([6] : List Int).getD 0 0=6:=rfl
  have g4 : ([4] : List Int).getD 0 0=4:=rfl
  simp (disch:=((try simp only [lZ]); omega)) only [aZ,aM,g6]
  refine hi1.mono ?_
  rintro r H5 ⟨rfl,G5,O5⟩
  have P5 : PM H5 loopP ad3 s3:=(P3.grow [⟨1,ints [6]⟩]).gr G5 fun _ _ h=>h
  have hi2:=hi _ P5
  rw [e2,e3] at hi2
  refine aret_of ?_
  simp (disch:=((try simp only [lZ]); omega)) only [aZ,aM]
  refine hi2.mono ?_
  rintro r H6 ⟨rfl,G6,O6⟩
  refine aret_of ?_
  simp (disch:=((try simp only [lZ]); omega)) only [aZ,aM,O6,g4,r_law35_exampleHolds]
  exact post_v ⟨rfl,rfl⟩
def litP (p : Pl) : Prop:=p.ms.length≤12∧p.bs.length≤24
instance (p : Pl) : Decidable (litP p):=inferInstanceAs (Decidable (_∧_))
theorem same35_vr {w v : Bool} (a b : List Int) (hl : a.length≤1000) : VR P false n_ref35_Same [.fs w (ints a),.fs v (ints b)] [] (isR (.v (.bool (decide (a=b))))):=by
  refine vr_ref35_Same (by simp) (.inr rfl) fun _ _=>?_
  simp (disch:=((try simp only [lZ]); omega)) only [aZ,aM,s_ref35_Same,v_ref35_Same]
  refine ib_intro (fun h1=>?_) (fun h1=>?_)
  · simp (disch:=((try simp only [lZ]); omega)) only [aZ,aM,r_ref35_Same]
    exact post_v ⟨by rw [decide_eq_false (fun hc=>by rw [hc] at h1; omega)],rfl⟩
  have hll : a.length=b.length:=by omega
  simp (disch:=((try simp only [lZ]); omega)) only [aZ,aM]
  refine AWP.loopP g_ref35_Same_0 (fun k : Nat=>k≤a.length∧∀ i,i < k→a.getD i 0=b.getD i 0) (fun k=>[(2,.v (.bool false)),(3,.v (.int .i64 k))]) (fun _=>[]) (fun k=>a.length - k) 0 ⟨by omega,fun i hi=>by omega⟩ ?_ ?_
  · exact Cut.fg (by simp (disch:=first | omega | simp (disch:=omega) only [aG,aM]) only [fZ,aM,fgl_nil,fgl_cons,or_true,true_or])
  rintro k ⟨hk,he⟩
  by_cases hlt : k < a.length
  · simp (disch:=((try simp only [lZ]); omega)) only [aZ,aM]
    refine ib_intro (fun h3=>?_) (fun h3=>?_)
    · simp (disch:=((try simp only [lZ]); omega)) only [aZ,aM,r_ref35_Same]
      exact post_v ⟨by rw [decide_eq_false (fun hc=>by rw [hc] at h3; exact h3 rfl)],rfl⟩
    · simp (disch:=((try simp only [lZ]); omega)) only [aZ,aM]
      refine ⟨k+1,⟨by omega,fun i hi=>?_⟩,by omega,?_⟩
      · rcases Nat.lt_succ_iff_lt_or_eq.1 hi with h | rfl
        · exact he i h
        · exact Classical.not_not.1 h3
      · exact Cut.fg (by simp (disch:=first | omega | simp (disch:=omega) only [aG,aM]) only [fZ,aM,fgl_nil,fgl_cons,or_true,true_or])
  · have hae : a=b:=eq_of_getB 0 hll fun i hi=>he i (by omega)
    simp (disch:=((try simp only [lZ]); omega)) only [aZ,aM,r_ref35_Same]
    exact post_v ⟨by rw [decide_eq_true hae],rfl⟩
theorem insL_len (p : Pl) (s : Sy) : (insL p s).length=p.mt:=tb_len _ _
theorem zero35_vr {n : Nat} (hn : n≤16) : VR P false n_ref35_zero [.v (.int .i64 n)] [] (isR (.fs true (ints (zeros n)))):=by
  refine vr_ref35_zero (by simp) (.inr rfl) fun _ _=>?_
  simp (disch:=((try simp only [lZ]); omega)) only [aZ,aM,s_ref35_zero,v_ref35_zero,r_ref35_zero]
  exact post0 (fz_slI 0 _ 0 0 n (zeros n) (by omega) (by simp) (by simp (disch:=((try simp only [lZ]); omega)) only [aZ,aM])) ⟨rfl,rfl⟩
theorem plusO_vr {w v : Bool} (a b : List Int) (hl : b.length=a.length) (hs : Sm a b) (h9 : a.length≤16) : VR P false n_ref35_plus [.fs w (ints a),.fs v (ints b)] [] (ownR (.sl 0 a.length 1 0 a.length) [⟨a.length,ints (plusM a b)⟩]):=by
  refine vr_ref35_plus (by simp) (.inr rfl) fun _ _=>?_
  have pl:=plusM_len a b
  simp (disch:=((try simp only [lZ]); omega)) only [aZ,aM,s_ref35_plus,v_ref35_plus]
  refine AWP.loopP g_ref35_plus_0 (fun k : Nat=>k≤a.length) (fun k=>[(3,.sl 0 k 1 0 k),(4,.v (.int .i64 k))]) (fun k=>[(0,⟨k,ints ((plusM a b).take k)⟩)]) (fun k=>a.length - k) 0 (by omega) ?_ ?_
  · rw [List.take_zero]
    exact Cut.fg (by simp (disch:=first | omega | simp (disch:=omega) only [aG,aM]) only [fZ,aM,fgl_nil,fgl_cons,or_true,true_or])
  rintro k hk
  have tl : ((plusM a b).take k).length=k:=by rw [List.length_take,pl]; omega
  by_cases hlt : k < a.length
  · have e1 : (plusM a b).take k++[a.getD k 0+b.getD k 0]=(plusM a b).take (k+1):=by rw [take_succ_get' _ _ 0 (by omega),plusM_get _ _ _ hlt]
    have q:=hs k hlt
    simp (disch:=((try simp only [lZ]); omega)) only [aZ,aM,e1,tl]
    refine ⟨k+1,by omega,by omega,?_⟩
    exact (by refine Cut.of' (1) ?_ (by omega) ?_ ?_<;>simp (disch:=first | omega | simp (disch:=omega) only [aG,aM]) only [fZ,aM])
  · have hke : k=a.length:=by omega
    subst hke
    rw [List.take_of_length_le (by omega)]
    simp (disch:=((try simp only [lZ]); omega)) only [aZ,aM,r_ref35_plus]
    exact post2 (R:=ownR _ _) ⟨rfl,rfl⟩
theorem plus35_vr {w v : Bool} (a b : List Int) (hl : b.length=a.length) (hs : Sm a b) (h9 : a.length≤16) : VR P false n_ref35_plus [.fs w (ints a),.fs v (ints b)] [] (isR (.fs true (ints (plusM a b)))) :=
  (plusO_vr a b hl hs h9).cut fun r G ⟨h1,h2⟩=>⟨_,[],by
    subst h1; subst h2
    exact Cut.of' 0 rfl (by simp) (by simp [FzB]) ⟨fz_slI 0 _ 0 a.length a.length (plusM a b) (by omega) (by rw [plusM_len]) (by simp (disch:=((try simp only [lZ]); omega)) only [aZ,aM]),trivial⟩,rfl,rfl⟩
def befL (p : Pl) (s : Sy) : List (List Int):=(List.range p.ms.length).map s.bef
def belM (p : Pl) (s : Sy) (i : Nat) : List (List Int):=(List.range (p.rl i+1)).map (slt p s i)
def belL (p : Pl) (s : Sy) : List (List (List Int)):=(List.range p.bs.length).map (belM p s)
def mxs (l : List (List (List Int))) : List A:=l.map mxF
def stC (p : Pl) (s : Sy) : List A:=[.v (.int .i64 p.mt),.fs true (mcs true p.ms),.fs true (bts p.bs),.v (.int .i64 p.fd),.fs true (rows true (befL p s)),.fs true (mxs (belL p s)),.fs true (bools s.hal),.fs true (ints s.fed)]
abbrev stA (p : Pl) (s : Sy) : A:=.agg (stC p s)
theorem mxs_len (l : List (List (List Int))) : (mxs l).length=l.length:=by simp [mxs]
theorem mxs_idx (w : Bool) (l : List (List (List Int))) (kk : IntKind) (j : Int) (h1 : 0≤j) (h2 : j < l.length) : idxA 1 (.fs w (mxs l)) (.v (.int kk j))=some (.fp w [.fs true (rows true (l.getD j.toNat []))]) :=
  map_idx 1 w l [] kk j (fun m=>[mxF m]) (fun _=>rfl) (fun _=>rfl) h1 h2
theorem mxs_bd (n : Nat) (l : List (List (List Int))) : A.bdL n (mxs l)=true:=map_bd n l fun m=>by simp [mxF,A.bd,r_bd]
theorem mxs_cl (l : List (List (List Int))) : A.clL (mxs l)=true:=map_cl l fun m=>by simp [mxF,A.cl,r_cl]
theorem mxs_flat (l : List (List (List Int))) : flatA 1 (mxs l)=some (mxs l):=all_one_cells (map_one l fun _=>rfl)
theorem befL_len (p : Pl) (s : Sy) : (befL p s).length=p.ms.length:=by simp [befL]
theorem belM_len (p : Pl) (s : Sy) (i : Nat) : (belM p s i).length=p.rl i+1:=by simp [belM]
theorem belL_len (p : Pl) (s : Sy) : (belL p s).length=p.bs.length:=by simp [belL]
theorem tabD {α : Type} (n : Nat) (f : Nat→α) (d : α) (i : Nat) (h : i < n) : ((List.range n).map f).getD i d=f i:=by simp [List.getD_eq_getElem?_getD,h]
theorem befL_get (p : Pl) (s : Sy) (m : Nat) (h : m < p.ms.length) : (befL p s).getD m []=s.bef m:=tabD _ _ _ _ h
theorem belM_get (p : Pl) (s : Sy) (i k : Nat) (h : k < p.rl i+1) : (belM p s i).getD k []=slt p s i k:=tabD _ _ _ _ h
theorem belL_get (p : Pl) (s : Sy) (i : Nat) (h : i < p.bs.length) : (belL p s).getD i []=belM p s i:=tabD _ _ _ _ h
theorem stC_bd (n : Nat) (p : Pl) (s : Sy) : A.bdL n (stC p s)=true:=by simp [stC,A.bdL,A.bd,mc_bd,bt_bd,r_bd,mxs_bd,b_bd,ii_bd]
theorem stA_bd (n : Nat) (p : Pl) (s : Sy) : A.bd n (stA p s)=true:=stC_bd n p s
theorem stA_cl (p : Pl) (s : Sy) : (stA p s).cl=true:=by
  show A.clL (stC p s)=true
  simp [stC,A.cl,A.clL,mc_cl,r_cl,mxs_cl,b_cl,ii_cl,show A.clL (bts p.bs)=true from map_cl _ fun b=>by simp [btA,btC,A.cl,A.clL]]
theorem stA_eqv {p : Pl} {s t : Sy} (h : Eqv p s t) : stA p s=stA p t:=by
  have e1 : befL p s=befL p t:=List.map_congr_left fun m hm=>h.bef m (List.mem_range.1 hm)
  have e2 : belL p s=belL p t:=List.map_congr_left fun i hi=>List.map_congr_left fun k hk=>h.slt i (List.mem_range.1 hi) k (by have:=List.mem_range.1 hk; omega)
  show A.agg (stC p s)=A.agg (stC p t)
  unfold stC
  rw [e1,e2,h.hal,h.fed]
theorem aT : type_of% (And.intro @mxs_len <| And.intro @mxs_idx <| And.intro @mxs_bd <| And.intro @mxs_cl <| And.intro @befL_len <| And.intro @belM_len <| And.intro @belL_len <| @stC_bd):=And.intro @mxs_len <| And.intro @mxs_idx <| And.intro @mxs_bd <| And.intro @mxs_cl <| And.intro @befL_len <| And.intro @belM_len <| And.intro @belL_len <| @stC_bd
inductive Rc where
  | out | bef | hal | bel | sl (i : Nat)
  deriving DecidableEq
abbrev Rd:=Rc→Nat×Nat
structure Rs where
  bc : Nat→A
  hl : Nat→Bool
  sc : Nat→Nat→A
  fd : List Int
def usR (b : Nat) : Rc→Bool
  | .sl i=>decide (i < b)
  | _=>true
def outC (p : Pl) (k b : Nat) (ad : Rd) (fd : List Int) : List A:=[.v (.int .i64 p.mt),.fs true (mcs true p.ms),.fs true (bts p.bs),.v (.int .i64 p.fd),.vs (ad .bef).1 (ad .bef).2 1 k,.vs (ad .bel).1 (ad .bel).2 1 b,.vs (ad .hal).1 (ad .hal).2 1 k,.fs true (ints fd)]
def celB (p : Pl) (ad : Rd) (i : Nat) : A:=.sl (ad (.sl i)).1 (ad (.sl i)).2 1 0 (p.rl i+1)
def ctR (p : Pl) (k b : Nat) (ad : Rd) (r : Rs) : Rc→List A
  | .out=>outC p k b ad r.fd
  | .bef=>(List.range k).map r.bc
  | .hal=>bools ((List.range k).map r.hl)
  | .bel=>(List.range b).map (celB p ad)
  | .sl i=>(List.range (p.rl i+1)).map (r.sc i)
structure RM (K : List Blk) (p : Pl) (k b : Nat) (ad : Rd) (r : Rs) : Prop where
  get : ∀ c,usR b c=true→blkAt K (ad c).1 (ad c).2=some (ctR p k b ad r c)
  inj : ∀ c d,usR b c=true→usR b d=true→(ad c).1=(ad d).1→c=d
  zr : (ad .out).2=0
theorem RM.lt {K : List Blk} {p : Pl} {k b : Nat} {ad : Rd} {r : Rs} (h : RM K p k b ad r) {c : Rc} (hc : usR b c=true) : (ad c).1 < K.length:=blkAt_lt (h.get c hc)
theorem RM.ne {K : List Blk} {p : Pl} {k b : Nat} {ad : Rd} {r : Rs} (h : RM K p k b ad r) {c d : Rc} (hc : usR b c=true) (hd : usR b d=true) (hn : c≠d) : (ad c).1≠(ad d).1:=fun he=>hn (h.inj c d hc hd he)
theorem RM.ot {K : List Blk} {p : Pl} {k b : Nat} {ad : Rd} {r : Rs} (h : RM K p k b ad r) : blkAt K (ad .out).1 0=some (outC p k b ad r.fd):=by have:=h.get .out rfl; rw [h.zr] at this; exact this
theorem RM.grow {K : List Blk} {p : Pl} {k b : Nat} {ad : Rd} {r : Rs} (h : RM K p k b ad r) (G : List Blk) : RM (K++G) p k b ad r :=
  ⟨fun c hc=>by rw [blkAt_app _ _ _ _ (h.lt hc)]; exact h.get c hc,h.inj,h.zr⟩
def ftR (b : Nat) (ad : Rd) : Nat→Prop:=fun i=>∃ c,usR b c=true∧(ad c).1=i
theorem RM.gr {F : Nat→Prop} {K K' : List Blk} {p : Pl} {k b : Nat} {ad : Rd} {r : Rs} (h : RM K p k b ad r) (g : Gr F K K') (hF : ∀ c,usR b c=true→¬ F (ad c).1) : RM K' p k b ad r :=
  ⟨fun c hc=>g.at (h.get c hc) (hF c hc),h.inj,h.zr⟩
theorem RM.put {K : List Blk} {p : Pl} {k b : Nat} {ad : Rd} {r r' : Rs} (h : RM K p k b ad r) (c : Rc) (hc : usR b c=true) (hd : ∀ d,d≠c→usR b d=true→ctR p k b ad r' d=ctR p k b ad r d) : RM (K.set (ad c).1 ⟨(ad c).2,ctR p k b ad r' c⟩) p k b ad r' :=
  ⟨fun d hdu=>by
    by_cases e : d=c
    · subst e; exact blkAt_set_same _ _ _ _ (h.lt hdu)
    · rw [blkAt_set_ne _ _ _ _ _ (h.ne hdu hc e),hd d e hdu]; exact h.get d hdu,h.inj,h.zr⟩
theorem RM.anew {K : List Blk} {p : Pl} {k b : Nat} {ad : Rd} {r : Rs} (h : RM K p k b ad r) : RM (K++[⟨0,outC p k b ad r.fd⟩]) p k b (fun c=>if c=.out then (K.length,0) else ad c) r:=by
  have hg:=h.grow [⟨0,outC p k b ad r.fd⟩]
  refine ⟨fun c hc=>?_,fun c d hc hd he=>?_,rfl⟩
  · cases c with
    | out=>rw [if_pos rfl,blkAt_new0]; simp [blkAt,ctR,outC]
    | _=>exact hg.get _ hc
  · by_cases e : c=.out
    · by_cases f : d=.out
      · rw [e,f]
      · rw [if_pos e,if_neg f] at he
        have:=h.lt hd
        omega
    · by_cases f : d=.out
      · rw [if_neg e,if_pos f] at he
        have:=h.lt hc
        omega
      · rw [if_neg e,if_neg f] at he; exact h.inj c d hc hd he
theorem mr_len {α : Type} (n : Nat) (f : Nat→α) : ((List.range n).map f).length=n:=by simp
theorem mr_nth (n : Nat) (f : Nat→A) (i : Nat) (h : i < n) : nthA ((List.range n).map f) i=some (f i):=by rw [nthA_get]; simp [h]
theorem mr_set {α : Type} (n : Nat) (f : Nat→α) (i : Nat) (x : α) : ((List.range n).map f).set i x=(List.range n).map (updF f i x):=by
  apply List.ext_getElem?
  intro j
  rw [List.getElem?_set]
  simp only [List.getElem?_map,List.length_map,List.length_range]
  by_cases h : i=j
  · subst h
    rw [if_pos rfl]
    by_cases hi : i < n
    · simp [hi,updF]
    · rw [if_neg hi,List.getElem?_eq_none (by simp; omega)]; rfl
  · rw [if_neg h]
    by_cases hj : j < n
    · simp [hj,updF,Ne.symm h]
    · simp [Nat.not_lt.1 hj]
theorem mr_spl (n : Nat) (f : Nat→A) (i : Nat) (x : A) (h : i < n) : splA ((List.range n).map f) i [x]=(List.range n).map (updF f i x):=by rw [spl_one (by simpa using h),mr_set]
theorem mr_app {α : Type} (n : Nat) (f : Nat→α) (x : α) (h : f n=x) : (List.range n).map f++[x]=(List.range (n+1)).map f:=by rw [List.range_succ,List.map_append]; simp [h]
theorem mr_ext {α : Type} {n : Nat} {f g : Nat→α} (h : ∀ i,i < n→f i=g i) : (List.range n).map f=(List.range n).map g:=List.map_congr_left fun i hi=>h i (List.mem_range.1 hi)
def rs0 (p : Pl) : Rs:=⟨fun _=>.fs true (ints (zeros p.mt)),fun _=>false,fun _ _=>.fs true (ints (zeros p.mt)),zeros p.mt⟩
def adR0 (n : Nat) : Rd
  | .out=>(n+2,0) | .bef=>(n+3,0) | .bel=>(n+4,0) | .hal=>(n+5,0) | _=>(0,0)
structure NI (H : List Blk) (p : Pl) (o k b : Nat) (ad : Rd) (K : List Blk) : Prop where
  rm : RM K p k b ad (rs0 p)
  ro : (ad .out).1=o
  bx : blkAt K H.length 0=some [.v (.int .i64 p.mt),.fs true (mcs true p.ms),.fs true (bts p.bs),.v (.int .i64 p.fd)]
  rv : blkAt K (H.length+1) 0=some [.v (.int .i64 0),nilS,nilS,.v (.int .i64 0),nilS,nilS,nilS,nilS]
  g : Gr nof H K
  hi : ∀ c,usR b c=true→H.length+1 < (ad c).1
theorem NI.init (H : List Blk) (p : Pl) {o : Nat} (ho : H.length+(1+1)=o) : NI H p o 0 0 (adR0 H.length) (H++[⟨0,[.v (.int .i64 p.mt),.fs true (mcs true p.ms),.fs true (bts p.bs),.v (.int .i64 p.fd)]⟩,⟨0,[.v (.int .i64 0),nilS,nilS,.v (.int .i64 0),nilS,nilS,nilS,nilS]⟩,⟨0,outC p 0 0 (adR0 H.length) (zeros p.mt)⟩,⟨0,[]⟩,⟨0,[]⟩,⟨0,[]⟩]):=by
  refine ⟨⟨fun c hc=>?_,fun c d hc hd he=>?_,rfl⟩,ho,by rw [blkAt_new0]; rfl,by rw [blkAt_new]; rfl,Gr.app _ _,fun c hc=>?_⟩
  · cases c<;>first | (simp [usR] at hc; done) | (simp only [adR0]; rw [blkAt_new]; rfl)
  · cases c<;>first | (simp [usR] at hc; done) | (cases d<;>first | rfl | (simp [usR] at hd; done) | (simp only [adR0] at he; omega))
  · cases c<;>first | (simp [usR] at hc; done) | (simp only [adR0]; omega)
def adR1 (ad : Rd) : Rd
  | .bef=>((ad .bef).1,(ad .bef).2+1) | .hal=>((ad .hal).1,(ad .hal).2+1) | c=>ad c
theorem adR1_fst (ad : Rd) (c : Rc) : (adR1 ad c).1=(ad c).1:=by cases c<;>rfl
theorem gr_sets {F : Nat→Prop} {K T : List Blk} {i j l m : Nat} {A B C D : Blk} (h1 : F i) (h2 : F j) (h3 : F l) (h4 : F m) : Gr F K ((((K.set i A).set j B).set l C).set m D++T) :=
  ⟨by simp,fun x ver hx hn=>by
    rw [blkAt_app _ _ _ _ (by simp; exact hx),blkAt_set_ne _ _ _ _ _ (fun h=>hn (by rw [h]; exact h4)),blkAt_set_ne _ _ _ _ _ (fun h=>hn (by rw [h]; exact h3)),blkAt_set_ne _ _ _ _ _ (fun h=>hn (by rw [h]; exact h2)),blkAt_set_ne _ _ _ _ _ (fun h=>hn (by rw [h]; exact h1))]⟩
theorem NI.addM {H : List Blk} {p : Pl} {o k b : Nat} {ad : Rd} {K : List Blk} (h : NI H p o k b ad K) (X : Blk) (T : List Blk) :
    NI H p o (k+1) b (adR1 ad) ((((K.set (ad .bef).1 ⟨(ad .bef).2+1,(List.range (k+1)).map (rs0 p).bc⟩).set o X).set (ad .hal).1 ⟨(ad .hal).2+1,bools ((List.range (k+1)).map (rs0 p).hl)⟩).set o ⟨0,outC p (k+1) b (adR1 ad) (zeros p.mt)⟩++T):=by
  obtain ⟨hr,ho,hx,hv,hg,hi⟩:=h
  have lo:=hr.lt (c:=.out) rfl
  have lb:=hr.lt (c:=.bef) rfl
  have lh:=hr.lt (c:=.hal) rfl
  have nbo:=hr.ne (c:=.bef) (d:=.out) rfl rfl (by simp)
  have nho:=hr.ne (c:=.hal) (d:=.out) rfl rfl (by simp)
  have nbh:=hr.ne (c:=.bef) (d:=.hal) rfl rfl (by simp)
  have qo:=hi .out rfl
  have qb:=hi .bef rfl
  have qh:=hi .hal rfl
  rw [ho] at lo nbo nho qo
  have G1 : Gr (fun i=>i=(ad .bef).1∨i=o∨i=(ad .hal).1) K ((((K.set (ad .bef).1 ⟨(ad .bef).2+1,(List.range (k+1)).map (rs0 p).bc⟩).set o X).set (ad .hal).1 ⟨(ad .hal).2+1,bools ((List.range (k+1)).map (rs0 p).hl)⟩).set o ⟨0,outC p (k+1) b (adR1 ad) (zeros p.mt)⟩++T) :=
    gr_sets (.inl rfl) (.inr (.inl rfl)) (.inr (.inr rfl)) (.inr (.inl rfl))
  refine ⟨⟨fun c hc=>?_,fun c d hc hd he=>hr.inj c d hc hd (by rwa [adR1_fst,adR1_fst] at he),hr.zr⟩,ho,G1.at hx (by omega),G1.at hv (by omega),hg.trans G1 fun i hi hf=>?_,fun c hc=>by rw [adR1_fst]; exact hi c hc⟩
  · cases c with
    | out =>
      show blkAt _ (ad .out).1 (ad .out).2=_
      rw [ho,hr.zr,blkAt_app _ _ _ _ (by simp; exact lo)]; exact blkAt_set_same _ _ _ _ (by simp; exact lo)
    | bef =>
      show blkAt _ (ad .bef).1 ((ad .bef).2+1)=_
      rw [blkAt_app _ _ _ _ (by simp; exact lb),blkAt_set_ne _ _ _ _ _ nbo,blkAt_set_ne _ _ _ _ _ nbh,blkAt_set_ne _ _ _ _ _ nbo]; exact blkAt_set_same _ _ _ _ lb
    | hal =>
      show blkAt _ (ad .hal).1 ((ad .hal).2+1)=_
      rw [blkAt_app _ _ _ _ (by simp; exact lh),blkAt_set_ne _ _ _ _ _ nho]; exact blkAt_set_same _ _ _ _ (by simp; exact lh)
    | bel =>
      refine G1.at (hr.get .bel rfl) fun hf=>?_
      have hf' : (ad .bel).1=(ad .bef).1∨(ad .bel).1=o∨(ad .bel).1=(ad .hal).1:=hf
      have n1:=hr.ne (c:=.bel) (d:=.out) rfl rfl (by simp)
      have n2:=hr.ne (c:=.bel) (d:=.bef) rfl rfl (by simp)
      have n3:=hr.ne (c:=.bel) (d:=.hal) rfl rfl (by simp)
      rw [ho] at n1; omega
    | sl i =>
      refine G1.at (hr.get (.sl i) hc) fun hf=>?_
      have hf' : (ad (.sl i)).1=(ad .bef).1∨(ad (.sl i)).1=o∨(ad (.sl i)).1=(ad .hal).1:=hf
      have n1:=hr.ne (c:=.sl i) (d:=.out) hc rfl (by simp)
      have n2:=hr.ne (c:=.sl i) (d:=.bef) hc rfl (by simp)
      have n3:=hr.ne (c:=.sl i) (d:=.hal) hc rfl (by simp)
      rw [ho] at n1; omega
  · have : i=(ad .bef).1∨i=o∨i=(ad .hal).1:=hf
    omega
theorem NI.gr {H : List Blk} {p : Pl} {o k b : Nat} {ad : Rd} {K K' : List Blk} (h : NI H p o k b ad K) (g : Gr nof K K') : NI H p o k b ad K' :=
  ⟨h.rm.gr g fun _ _ h=>h,h.ro,g.at h.bx fun h=>h,g.at h.rv fun h=>h,h.g.trans g fun _ _ h=>h,h.hi⟩
def adR2 (ad : Rd) (L v b : Nat) : Rd
  | .bel=>((ad .bel).1,(ad .bel).2+1) | .sl i=>if i=b then (L,v) else ad (.sl i) | c=>ad c
theorem celB_app (p : Pl) (ad : Rd) (L v b : Nat) : (List.range b).map (celB p ad)++[.sl L v 1 0 (p.rl b+1)]=(List.range (b+1)).map (celB p (adR2 ad L v b)):=by
  rw [List.range_succ,List.map_append]
  congr 1
  · exact mr_ext fun i hi=>by simp [celB,adR2,show ¬ i=b by omega]
  · simp [celB,adR2]
theorem NI.addB {H : List Blk} {p : Pl} {o k b L v : Nat} {ad : Rd} {K : List Blk} (h : NI H p o k b ad K) (hL : ∀ c, usR b c = true → (ad c).1 < L) (hs : blkAt K L v = some ((List.range (p.rl b + 1)).map ((rs0 p).sc b))) (T : List Blk) :
    NI H p o k (b+1) (adR2 ad L v b) ((K.set (ad .bel).1 ⟨(ad .bel).2+1,(List.range (b+1)).map (celB p (adR2 ad L v b))⟩).set o ⟨0,outC p k (b+1) (adR2 ad L v b) (zeros p.mt)⟩++T):=by
  obtain ⟨hr,ho,hx,hv,hg,hi⟩:=h
  have lo:=hr.lt (c:=.out) rfl
  have lb:=hr.lt (c:=.bel) rfl
  have nbo:=hr.ne (c:=.bel) (d:=.out) rfl rfl (by simp)
  have qo:=hi .out rfl
  have qb:=hi .bel rfl
  have Lo:=hL .out rfl
  have Lb:=hL .bel rfl
  rw [ho] at lo nbo qo Lo
  have G1 : Gr (fun i=>i=(ad .bel).1∨i=o) K ((K.set (ad .bel).1 ⟨(ad .bel).2+1,(List.range (b+1)).map (celB p (adR2 ad L v b))⟩).set o ⟨0,outC p k (b+1) (adR2 ad L v b) (zeros p.mt)⟩++T) :=
    ⟨by simp,fun x ver hx hn=>by
      rw [blkAt_app _ _ _ _ (by simp; exact hx),blkAt_set_ne _ _ _ _ _ (fun h=>hn (.inr h)),blkAt_set_ne _ _ _ _ _ (fun h=>hn (.inl h))]⟩
  have hold : ∀ c,c≠.sl b→(adR2 ad L v b c).1=(ad c).1:=fun c hc=>by
    cases c with
    | sl i=>simp only [adR2]; rw [if_neg (fun h=>hc (by rw [h]))]
    | _=>rfl
  have hu : ∀ c,c≠.sl b→usR (b+1) c=true→usR b c=true:=fun c hc h=>by
    cases c with
    | sl i =>
      have : i≠b:=fun h=>hc (by rw [h])
      simp only [usR,decide_eq_true_eq] at h ⊢; omega
    | _=>rfl
  have hnew : (adR2 ad L v b (.sl b)).1=L:=by simp [adR2]
  refine ⟨⟨fun c hc=>?_,fun c d hc hd he=>?_,hr.zr⟩,ho,G1.at hx (by omega),G1.at hv (by omega),hg.trans G1 fun i hi hf=>?_,fun c hc=>?_⟩
  · cases c with
    | out =>
      show blkAt _ (ad .out).1 (ad .out).2=_
      rw [ho,hr.zr,blkAt_app _ _ _ _ (by simp; exact lo)]; exact blkAt_set_same _ _ _ _ (by simp; exact lo)
    | bel =>
      show blkAt _ (ad .bel).1 ((ad .bel).2+1)=_
      rw [blkAt_app _ _ _ _ (by simp; exact lb),blkAt_set_ne _ _ _ _ _ nbo]; exact blkAt_set_same _ _ _ _ lb
    | bef =>
      refine G1.at (hr.get .bef rfl) fun hf=>?_
      have hf' : (ad .bef).1=(ad .bel).1∨(ad .bef).1=o:=hf
      have n1:=hr.ne (c:=.bef) (d:=.out) rfl rfl (by simp)
      have n2:=hr.ne (c:=.bef) (d:=.bel) rfl rfl (by simp)
      rw [ho] at n1; omega
    | hal =>
      refine G1.at (hr.get .hal rfl) fun hf=>?_
      have hf' : (ad .hal).1=(ad .bel).1∨(ad .hal).1=o:=hf
      have n1:=hr.ne (c:=.hal) (d:=.out) rfl rfl (by simp)
      have n2:=hr.ne (c:=.hal) (d:=.bel) rfl rfl (by simp)
      rw [ho] at n1; omega
    | sl i =>
      by_cases e : i=b
      · subst e
        have e1 : adR2 ad L v i (.sl i)=(L,v):=by simp [adR2]
        rw [e1]
        refine G1.at hs fun hf=>?_
        have hf' : L=(ad .bel).1∨L=o:=hf
        omega
      · have hc' : usR b (.sl i)=true:=hu _ (by simpa using e) hc
        have e1 : adR2 ad L v b (.sl i)=ad (.sl i):=by simp [adR2,e]
        rw [e1]
        refine G1.at (hr.get (.sl i) hc') fun hf=>?_
        have hf' : (ad (.sl i)).1=(ad .bel).1∨(ad (.sl i)).1=o:=hf
        have n1:=hr.ne (c:=.sl i) (d:=.out) hc' rfl (by simp)
        have n2:=hr.ne (c:=.sl i) (d:=.bel) hc' rfl (by simp)
        rw [ho] at n1; omega
  · by_cases e : c=.sl b
    · by_cases f : d=.sl b
      · rw [e,f]
      · rw [e,hnew,hold d f] at he
        have:=hL d (hu d f hd)
        omega
    · by_cases f : d=.sl b
      · rw [f,hnew,hold c e] at he
        have:=hL c (hu c e hc)
        omega
      · rw [hold c e,hold d f] at he; exact hr.inj c d (hu c e hc) (hu d f hd) he
  · have : i=(ad .bel).1∨i=o:=hf
    omega
  · by_cases e : c=.sl b
    · rw [e,hnew]; omega
    · rw [hold c e]; exact hi c (hu c e hc)
theorem new35_vr {H : List Blk} {w v : Bool} (p : Pl) (hp : pcheck p=0) : VR P false n_ref35_New [.agg [.v (.int .i64 p.mt),.fs true (mcs true p.ms),.fs true (bts p.bs),.v (.int .i64 p.fd)]] H (fun r H'=>∃ ad : Rd,r=.agg (outC p p.ms.length p.bs.length ad (zeros p.mt))∧RM H' p p.ms.length p.bs.length ad (rs0 p)∧Gr nof H H'∧∀ c,usR p.bs.length c=true→H.length≤(ad c).1):=by
  refine vr_ref35_New (by simp) (.inl rfl) fun _ _=>?_
  have ok:=pcheck_ok hp
  obtain ⟨m1,m2,m3⟩:=ok.mt1
  have n1:=ok.n1
  have n2:=ok.n2
  have b2:=ok.b2
  have hz:=zero35_vr m2
  simp (disch:=((try simp only [lZ]); omega)) only [aZ,aM,aT,s_ref35_New,v_ref35_New]
  apply both_of
  · intro hc
    refine hz.same rfl (by simp (disch:=first | omega | simp (disch:=omega) only [aG,aM,aT]) only [fZ,aM,aT]) (aret_of ?_)
    simp (disch:=((try simp only [lZ]); omega)) only [aZ,aM,aT]
    exact hc
  · intro hc
    refine hz.same rfl (by simp (disch:=first | omega | simp (disch:=omega) only [aG,aM,aT]) only [fZ,aM,aT]) (aret_of ?_)
    simp (disch:=((try simp only [lZ]); omega)) only [aZ,aM,aT]
    exact hc
  refine AWP.cut (Cut.virtB (H.length+2) 0 4 1 (by simp (disch:=((try simp only [lZ]); omega)) only [aZ,aM,aT]; rfl) rfl) ?_
  simp (disch:=((try simp only [lZ]); omega)) only [aZ,aM,aT]
  refine AWP.cut (Cut.virtB (H.length+2) 0 5 1 (by simp (disch:=((try simp only [lZ]); omega)) only [aZ,aM,aT]; rfl) rfl) ?_
  simp (disch:=((try simp only [lZ]); omega)) only [aZ,aM,aT]
  refine AWP.cut (Cut.virtB (H.length+2) 0 6 1 (by simp (disch:=((try simp only [lZ]); omega)) only [aZ,aM,aT]; rfl) rfl) ?_
  simp (disch:=((try simp only [lZ]); omega)) only [aZ,aM,aT]
  have gr0 : ∀ K K' : List Blk,Gr nof H K→Gr (fun i=>H.length+1 < i) K K'→Gr nof H K':=fun K K' h1 h2=>h1.trans h2 fun i hi hf=>by have : H.length+1 < i:=hf; omega
  generalize hn2 : H.length+(1+1)=o
  refine AWP.loopM g_ref35_New_0 (fun x : Nat×Rd×List Blk=>x.1≤p.ms.length∧NI H p o x.1 0 x.2.1 x.2.2) (fun x=>[(3,.v (.int .i64 x.1))]) (fun x=>x.2.2) (fun x=>p.ms.length - x.1) (0,adR0 H.length,_) ⟨by omega,NI.init H p hn2⟩ ?_ ?_
  · exact Cut.fg (by simp (disch:=first | omega | simp (disch:=omega) only [aG,aM,aT]) only [fZ,aM,aT,fgl_nil,fgl_cons,or_true,true_or])
  rintro ⟨k,ad,K⟩ ⟨hk,hP⟩
  simp only at hk hP
  have ko:=hP.rm.ot
  rw [hP.ro] at ko
  have kb:=hP.rm.get .bef rfl
  have kh:=hP.rm.get .hal rfl
  simp only [ctR] at kb kh
  have kp:=hP.bx
  have lo:=blkAt_lt ko
  by_cases hlt : k < p.ms.length
  · unfold outC at ko
    simp (disch:=((try simp only [lZ]); omega)) only [aZ,aM,aT,kp,ko]
    refine hz.same rfl (by simp (disch:=first | omega | simp (disch:=omega) only [aG,aM,aT]) only [fZ,aM,aT]) (aret_of ?_)
    have ap : (List.range k).map (rs0 p).bc++[.fs true (ints (zeros p.mt))]=(List.range (k+1)).map (rs0 p).bc:=mr_app k (rs0 p).bc _ rfl
    have ah : bools ((List.range k).map (rs0 p).hl)++[.v (.bool false)]=bools ((List.range (k+1)).map (rs0 p).hl):=by rw [← mr_app k (rs0 p).hl false rfl]; simp [bools]
    have bl:=mr_len k (rs0 p).bc
    have hl : (bools ((List.range k).map (rs0 p).hl)).length=k:=by simp [bools]
    have tb' : List.take k ((List.range k).map (rs0 p).bc)=(List.range k).map (rs0 p).bc:=List.take_of_length_le (by omega)
    have th : List.take k (bools ((List.range k).map (rs0 p).hl))=bools ((List.range k).map (rs0 p).hl):=List.take_of_length_le (by omega)
    have nbo:=hP.rm.ne (c:=.bef) (d:=.out) rfl rfl (by simp)
    have nho:=hP.rm.ne (c:=.hal) (d:=.out) rfl rfl (by simp)
    have nbh:=hP.rm.ne (c:=.bef) (d:=.hal) rfl rfl (by simp)
    rw [hP.ro] at nbo nho
    have lb:=blkAt_lt kb
    have lh:=blkAt_lt kh
    generalize (List.range k).map (rs0 p).bc=X1 at *
    generalize hX2 : bools ((List.range k).map (rs0 p).hl)=X2 at *
    have ta:=fun (B1 B2 : Blk) (T : List Blk) (j l : Nat)=>blk_ta (K:=K) (i1:=(ad .bef).1) (i2:=o) (B1:=B1) (B2:=B2) (T:=T) (j:=j) (l:=l) rfl
    simp (disch:=((try simp only [lZ]); omega)) only [aZ,aM,aT,kp,ko,kb,kh,bl,hl,ap,ah,tb',th,ta]
    refine ⟨(k+1,adR1 ad,_),⟨by simp only; omega,hP.addM ⟨0,[.v (.int .i64 p.mt),.fs true (mcs true p.ms),.fs true (bts p.bs),.v (.int .i64 p.fd),.vs (ad .bef).1 ((ad .bef).2+1) 1 (k+1),.vs (ad .bel).1 (ad .bel).2 1 0,.vs (ad .hal).1 (ad .hal).2 1 k,.fs true (ints (zeros p.mt))]⟩ [⟨0,[.fs true (ints (zeros p.mt))]⟩,⟨0,[.v (.bool false)]⟩]⟩,by simp only; omega,?_⟩
    unfold outC
    simp only [adR1]
    try simp (disch:=((try simp only [lZ]); omega)) only [aZ,aM,aT]
    exact Cut.fg (by simp (disch:=first | omega | simp (disch:=omega) only [aG,aM,aT]) only [fZ,aM,aT,fgl_nil,fgl_cons,or_true,true_or])
  have hke : k=p.ms.length:=by omega
  subst hke
  clear kb kh lo
  simp (disch:=((try simp only [lZ]); omega)) only [aZ,aM,aT,kp]
  refine AWP.loopM g_ref35_New_1 (fun x : Nat×Rd×List Blk=>x.1≤p.bs.length∧NI H p o p.ms.length x.1 x.2.1 x.2.2) (fun x=>[(5,.v (.int .i64 x.1))]) (fun x=>x.2.2) (fun x=>p.bs.length - x.1) (0,ad,K) ⟨by omega,hP⟩ ?_ ?_
  · exact Cut.fg (by simp (disch:=first | omega | simp (disch:=omega) only [aG,aM,aT]) only [fZ,aM,aT,fgl_nil,fgl_cons,or_true,true_or])
  clear hP kp ko hk hlt
  rintro ⟨b,ad,K⟩ ⟨hb,hP⟩
  simp only at hb hP
  have ko:=hP.rm.ot
  rw [hP.ro] at ko
  have kb:=hP.rm.get .bel rfl
  simp only [ctR] at kb
  have kp:=hP.bx
  have lo:=blkAt_lt ko
  have lb:=blkAt_lt kb
  have lp:=blkAt_lt kp
  have nbo:=hP.rm.ne (c:=.bel) (d:=.out) rfl rfl (by simp)
  rw [hP.ro] at nbo
  by_cases hbt : b < p.bs.length
  · have hbtt:=ok.bt _ (mem_get b0 hbt)
    have hln : (p.bs.getD b b0).ln=(p.rl b+1 : Nat):=by unfold Pl.rl; omega
    have hrl:=ok.rl hbt
    have bl : ((List.range b).map (celB p ad)).length=b:=mr_len b _
    have tb' : List.take b ((List.range b).map (celB p ad))=(List.range b).map (celB p ad):=List.take_of_length_le (by omega)
    have gr1 : ∀ K' : List Blk,∀ B : Blk,∀ T : List Blk,Gr nof K K'→Gr nof K (K'.set K.length B++T):=fun K' B T g=>(g.trans (Gr.set (F:=one K.length) K' _ B rfl) fun i hi hf=>by have : i=K.length:=hf; omega).trans (Gr.app (F:=nof) _ T) fun _ _ h=>h
    simp (disch:=((try simp only [lZ]); omega)) only [aZ,aM,aT,kp]
    refine AWP.loopM g_ref35_New_2 (fun x : Nat×List Blk=>x.1≤p.rl b+1∧Gr nof K x.2∧blkAt x.2 K.length x.1=some ((List.range x.1).map ((rs0 p).sc b))) (fun x=>[(6,.sl K.length x.1 1 0 x.1),(7,.v (.int .i64 x.1))]) (fun x=>x.2) (fun x=>p.rl b+1 - x.1) (0,K++[(⟨0,[]⟩ : Blk)]) ⟨by omega,Gr.app _ _,by rw [blkAt_new0]; rfl⟩ ?_ ?_
    · exact Cut.fg (by simp (disch:=first | omega | simp (disch:=omega) only [aG,aM,aT]) only [fZ,aM,aT,fgl_nil,fgl_cons,or_true,true_or])
    rintro ⟨j,Q⟩ ⟨hj,hQ,hS⟩
    simp only at hj hQ hS
    have qp:=hQ.at kp fun h=>h
    have lQ:=blkAt_lt hS
    by_cases hjt : j < p.rl b+1
    · have sl:=mr_len j ((rs0 p).sc b)
      have ap : (List.range j).map ((rs0 p).sc b)++[.fs true (ints (zeros p.mt))]=(List.range (j+1)).map ((rs0 p).sc b):=mr_app j ((rs0 p).sc b) _ rfl
      have ts : List.take j ((List.range j).map ((rs0 p).sc b))=(List.range j).map ((rs0 p).sc b):=List.take_of_length_le (by omega)
      generalize (List.range j).map ((rs0 p).sc b)=X1 at *
      have hlj : (j : Int) < (p.bs.getD b b0).ln:=by omega
      simp (disch:=((try simp only [lZ]); omega)) only [aZ,aM,aT,qp,decide_eq_true hlj]
      refine hz.same rfl (by simp (disch:=first | omega | simp (disch:=omega) only [aG,aM,aT]) only [fZ,aM,aT]) (aret_of ?_)
      simp (disch:=((try simp only [lZ]); omega)) only [aZ,aM,aT,qp,hS,sl,ap,ts]
      refine ⟨(j+1,_),⟨by simp only; omega,gr1 Q ⟨j+1,(List.range (j+1)).map ((rs0 p).sc b)⟩ [⟨0,[.fs true (ints (zeros p.mt))]⟩] hQ,by simp only; rw [blkAt_app _ _ _ _ (by simp; exact lQ)]; exact blkAt_set_same _ _ _ _ lQ⟩,by simp only; omega,?_⟩
      try simp (disch:=((try simp only [lZ]); omega)) only [aZ,aM,aT]
      exact Cut.fg (by simp (disch:=first | omega | simp (disch:=omega) only [aG,aM,aT]) only [fZ,aM,aT,fgl_nil,fgl_cons,or_true,true_or])
    have hje : j=p.rl b+1:=by omega
    have hlj : ¬ (j : Int) < (p.bs.getD b b0).ln:=by omega
    have hP2:=hP.gr hQ
    have qo:=hQ.at ko fun h=>h
    have qb:=hQ.at kb fun h=>h
    have hN:=hP2.addB (L:=K.length) (v:=j) (fun c hc=>hP.rm.lt hc) (by rw [hje] at hS ⊢; exact hS) [⟨0,[.sl K.length j 1 0 j]⟩]
    have lbQ:=blkAt_lt qb
    have loQ:=blkAt_lt qo
    have ap:=celB_app p ad K.length j b
    rw [← hje] at ap
    unfold outC at qo
    simp (disch:=((try simp only [lZ]); omega)) only [aZ,aM,aT,qp,decide_eq_false hlj,qo,qb,bl,tb',ap]
    refine ⟨(b+1,adR2 ad K.length j b,_),⟨by simp only; omega,hN⟩,by simp only; omega,?_⟩
    unfold outC
    simp only [adR2]
    try simp (disch:=((try simp only [lZ]); omega)) only [aZ,aM,aT]
    exact Cut.fg (by simp (disch:=first | omega | simp (disch:=omega) only [aG,aM,aT]) only [fZ,aM,aT,fgl_nil,fgl_cons,or_true,true_or])
  have hbe : b=p.bs.length:=by omega
  subst hbe
  unfold outC at ko
  have kv:=hP.rv
  have hne:=hP.hi .out rfl
  rw [hP.ro] at hne
  have lv:=blkAt_lt kv
  simp (disch:=((try simp only [lZ]); omega)) only [aZ,aM,aT,kp,ko,kv,r_ref35_New]
  exact post2 (R:=fun r H'=>∃ ad : Rd,r=.agg (outC p p.ms.length p.bs.length ad (zeros p.mt))∧RM H' p p.ms.length p.bs.length ad (rs0 p)∧Gr nof H H'∧∀ c,usR p.bs.length c=true→H.length≤(ad c).1)
    ⟨ad,rfl,hP.rm.gr (Gr.set (F:=one (H.length+1)) _ _ _ rfl) fun c hc hf=>by have : (ad c).1=H.length+1:=hf; have:=hP.hi c hc; omega,
      hP.g.trans (Gr.set (F:=one (H.length+1)) _ _ _ rfl) fun i hi hf=>by have : i=H.length+1:=hf; omega,fun c hc=>by have:=hP.hi c hc; omega⟩
theorem RM.putB {K : List Blk} {p : Pl} {k b : Nat} {ad : Rd} {r : Rs} (h : RM K p k b ad r) (i : Nat) (x : A) : RM (K.set (ad .bef).1 ⟨(ad .bef).2,(List.range k).map (updF r.bc i x)⟩) p k b ad {r with bc:=updF r.bc i x} :=
  h.put (r':={r with bc:=updF r.bc i x}) .bef rfl fun d hd _=>by cases d<;>first | rfl | exact absurd rfl hd
theorem RM.putH {K : List Blk} {p : Pl} {k b : Nat} {ad : Rd} {r : Rs} (h : RM K p k b ad r) (i : Nat) (x : Bool) : RM (K.set (ad .hal).1 ⟨(ad .hal).2,bools ((List.range k).map (updF r.hl i x))⟩) p k b ad {r with hl:=updF r.hl i x} :=
  h.put (r':={r with hl:=updF r.hl i x}) .hal rfl fun d hd _=>by cases d<;>first | rfl | exact absurd rfl hd
theorem RM.putF {K : List Blk} {p : Pl} {k b : Nat} {ad : Rd} {r : Rs} (h : RM K p k b ad r) (x : List Int) : RM (K.set (ad .out).1 ⟨0,outC p k b ad x⟩) p k b ad {r with fd:=x}:=by
  have:=h.put (r':={r with fd:=x}) .out rfl fun d hd _=>by cases d<;>first | rfl | exact absurd rfl hd
  rw [h.zr] at this; exact this
theorem RM.putS {K : List Blk} {p : Pl} {k b : Nat} {ad : Rd} {r : Rs} (h : RM K p k b ad r) {i : Nat} (hi : i < b) (q : Nat) (x : A) : RM (K.set (ad (.sl i)).1 ⟨(ad (.sl i)).2,(List.range (p.rl i+1)).map (updF (r.sc i) q x)⟩) p k b ad {r with sc:=updF r.sc i (updF (r.sc i) q x)}:=by
  have:=h.put (r':={r with sc:=updF r.sc i (updF (r.sc i) q x)}) (.sl i) (by simpa [usR] using hi) fun d hd _=>by
    cases d with
    | sl j=>simp only [ctR]; rw [updF_ne _ _ (fun hc=>hd (by rw [hc]))]
    | _=>rfl
  simp only [ctR,updF_same] at this
  exact this
abbrev fzI (x : List Int) : A:=.fs true (ints x)
structure Shw (p : Pl) (j : Nat) (r : Rs) (s : Sy) : Prop where
  b : ∀ m,m < p.ms.length→m≠j→r.bc m=fzI (s.bef m)
  h : ∀ m,m < p.ms.length→r.hl m=s.hal.getD m false
  c : ∀ i,i < p.bs.length→∀ q,q≤p.rl i→r.sc i q=fzI (slt p s i q)
  f : r.fd=s.fed
theorem fzL_mr {m : Nat} {H : List Blk} {f g : Nat→A} : ∀ {n : Nat},(∀ i,i < n→Fz m H (f i) (g i))→FzL m H ((List.range n).map f) ((List.range n).map g)
  | 0,_=>trivial
  | n+1,h=>by
    rw [List.range_succ,List.map_append,List.map_append]
    exact FzL.cat (fzL_mr fun i hi=>h i (by omega)) ⟨h n (by omega),trivial⟩
theorem rows_mr (n : Nat) (f : Nat→List Int) : rows true ((List.range n).map f)=(List.range n).map fun i=>fzI (f i):=by simp [rows,Function.comp_def]
theorem fz_state {K : List Blk} {p : Pl} {ad : Rd} {r : Rs} {s : Sy} (h : RM K p p.ms.length p.bs.length ad r) (hb : ∀ m, m < p.ms.length → Fz 0 K (r.bc m) (fzI (s.bef m))) (hh : ∀ m, m < p.ms.length → r.hl m = s.hal.getD m false)
    (hc : ∀ i,i < p.bs.length→∀ q,q≤p.rl i→r.sc i q=fzI (slt p s i q)) (hf : r.fd=s.fed) (hl : s.hal.length=p.ms.length) : Fz 0 K (.agg (outC p p.ms.length p.bs.length ad r.fd)) (stA p s):=by
  rw [hf]
  have e1:=h.get .bef rfl
  have e2:=h.get .bel rfl
  have e3:=h.get .hal rfl
  simp only [ctR] at e1 e2 e3
  have e4 : (List.range p.ms.length).map r.hl=s.hal:=by
    refine eq_of_getB false (by simp [hl]) fun m hm=>?_
    have hm' : m < p.ms.length:=by simpa using hm
    rw [tabD _ _ _ _ hm',hh m hm']
  rw [e4] at e3
  refine Fz.agg ⟨Fz.refl rfl,Fz.refl (by simp [A.bd,mc_bd]),Fz.refl (by simp [A.bd,bt_bd]),Fz.refl rfl,?_,?_,fz_vsB 0 K _ _ _ _ (by omega) hl.symm e3,Fz.refl (by simp [A.bd,ii_bd]),trivial⟩
  · refine Fz.vs (Nat.zero_le _) e1 (r:=rows true (befL p s)) ?_ ?_ (by rw [r_len,befL_len]) (by rw [r_len,befL_len]; omega)
    · unfold befL; rw [rows_mr]; exact fzL_mr hb
    · rw [List.take_of_length_le (by rw [r_len,befL_len]; omega)]; exact r_flat _ _
  · refine Fz.vs (Nat.zero_le _) e2 (r:=mxs (belL p s)) ?_ ?_ (by rw [mxs_len,belL_len]) (by rw [mxs_len,belL_len]; omega)
    · have : mxs (belL p s)=(List.range p.bs.length).map fun i=>mxF (belM p s i):=by simp [mxs,belL,Function.comp_def]
      rw [this]
      refine fzL_mr fun i hi=>?_
      have e5:=h.get (.sl i) (by simpa [usR] using hi)
      simp only [ctR] at e5
      refine fz_slR 0 K _ _ _ (belM p s i) (by omega) (belM_len _ _ _).symm ?_
      rw [e5]
      unfold belM
      rw [rows_mr]
      congr 1
      exact mr_ext fun q hq=>hc i hi q (by omega)
    · rw [List.take_of_length_le (by rw [mxs_len,belL_len]; omega)]; exact mxs_flat _
theorem Shw.fz {K : List Blk} {p : Pl} {ad : Rd} {r : Rs} {s : Sy} (hs : Shw p p.ms.length r s) (h : RM K p p.ms.length p.bs.length ad r) (hl : s.hal.length=p.ms.length) : Fz 0 K (.agg (outC p p.ms.length p.bs.length ad r.fd)) (stA p s) :=
  fz_state h (fun m hm=>by rw [hs.b m hm (by omega)]; exact Fz.refl (by simp [A.bd,ii_bd])) hs.h hs.c hs.f hl
theorem plus_zeros {n : Nat} {a : List Int} (h : a.length=n) : plusM a (zeros n)=a:=by
  refine eq_of_getB 0 (plusM_len _ _) fun i hi=>?_
  rw [plusM_len] at hi
  rw [plusM_get _ _ _ hi,zeros_get]; omega
theorem plus_ps {kp w v : Bool} {H : List Blk} (a b : List Int) (hl : b.length=a.length) (hs : Sm a b) (h9 : a.length≤16) : VR P kp n_ref35_plus [.fs w (ints a),.fs v (ints b)] H (fun r H'=>r=.sl H.length a.length 1 0 a.length∧H'=H++[⟨a.length,ints (plusM a b)⟩]) :=
  (plusO_vr a b hl hs h9).useO (LdL.refl (by simp (disch:=first | omega | simp (disch:=omega) only [aG,aM,aT]) only [fZ,aM,aT])) (by simp [A.cl,ii_cl]) ⟨by simp [A.sh],by simp [Blk.sh,shL_bd _ (ii_bd 0 _)]⟩
theorem sm_zeros {n : Nat} {a : List Int} (h : MixOk n a) : Sm a (zeros n):=fun i _=>by
  have:=h.2 i
  rw [zeros_get]; omega
theorem new35_fz {w v : Bool} (p : Pl) (hp : pcheck p=0) : VR P false n_ref35_New [.agg [.v (.int .i64 p.mt),.fs true (mcs true p.ms),.fs true (bts p.bs),.v (.int .i64 p.fd)]] [] (isR (stA p (newS p))) :=
  (new35_vr (H:=[]) (w:=w) (v:=v) p hp).cut fun r G ⟨ad,h1,h2,_,_⟩=>⟨_,[],by
    subst h1
    refine Cut.of' 0 rfl (by simp) (by simp [FzB]) ⟨?_,trivial⟩
    have hs : Shw p p.ms.length (rs0 p) (newS p):=⟨fun m _ _=>rfl,fun m hm=>by simp [rs0,newS,List.getD_eq_getElem?_getD,List.getElem?_replicate,hm],fun i hi q hq=>by
      simp only [rs0]
      congr 2
      cases q<;>rfl,rfl⟩
    exact hs.fz h2 (by simp [newS]),rfl,rfl⟩
def Own1 (K : List Blk) (n : Nat) (b : Nat) (ad : Rd) (x : A) (l : List Int) : Prop:=∃ q : Nat×Nat,x=slA q l.length∧blkAt K q.1 q.2=some (ints l)∧n≤q.1∧¬ ftR b ad q.1
theorem Own1.gr {F : Nat→Prop} {K K' : List Blk} {n b : Nat} {ad : Rd} {x : A} {l : List Int} (h : Own1 K n b ad x l) (g : Gr F K K') (hF : ∀ i,F i→i < n∨ftR b ad i) : Own1 K' n b ad x l:=by
  obtain ⟨q,h1,h2,h3,h4⟩:=h
  exact ⟨q,h1,g.at h2 fun hf=>by
    rcases hF _ hf with h5 | h5
    · omega
    · exact h4 h5,h3,h4⟩
structure CI (H : List Blk) (p : Pl) (o : Nat) (ad : Rd) (r : Rs) (K : List Blk) (bx : List A) : Prop where
  rm : RM K p p.ms.length p.bs.length ad r
  ro : (ad .out).1=o
  bx : blkAt K H.length 0=some bx
  rv : blkAt K (H.length+1) 0=some [.v (.int .i64 0),nilS,nilS,.v (.int .i64 0),nilS,nilS,nilS,nilS]
  g : Gr nof H K
  hi : ∀ c,usR p.bs.length c=true→H.length+1 < (ad c).1
theorem CI.gr {H : List Blk} {p : Pl} {o : Nat} {ad : Rd} {r : Rs} {K K' : List Blk} {bx : List A} (h : CI H p o ad r K bx) (g : Gr nof K K') : CI H p o ad r K' bx :=
  ⟨h.rm.gr g fun _ _ h=>h,h.ro,g.at h.bx fun h=>h,g.at h.rv fun h=>h,h.g.trans g fun _ _ h=>h,h.hi⟩
theorem CI.put {H : List Blk} {p : Pl} {o : Nat} {ad : Rd} {r r' : Rs} {K K' : List Blk} {bx : List A} (h : CI H p o ad r K bx) (c : Rc) (hc : usR p.bs.length c=true) (hr : RM K' p p.ms.length p.bs.length ad r') (g : Gr (one (ad c).1) K K') : CI H p o ad r' K' bx:=by
  have:=h.hi c hc
  exact ⟨hr,h.ro,g.at h.bx (fun hf=>by have : H.length=(ad c).1:=hf; omega),g.at h.rv (fun hf=>by have : H.length+1=(ad c).1:=hf; omega),h.g.trans g fun i hi hf=>by have : i=(ad c).1:=hf; omega,h.hi⟩
def CB (H : List Blk) (p : Pl) (j : Nat) (ad : Rd) (s : Sy) (r : Rs) (Q : List Blk) : Prop:=(∀ m,m < p.ms.length→m≠j→r.bc m=fzI (s.bef m))∧(∀ m,m < p.ms.length→r.hl m=s.hal.getD m false)∧r.fd=zeros p.mt∧(j < p.ms.length→Own1 Q (H.length+2) p.bs.length ad (r.bc j) (s.bef j))
theorem CB.sl {H : List Blk} {p : Pl} {j : Nat} {ad : Rd} {s : Sy} {r : Rs} {Q : List Blk} (h : CB H p j ad s r Q) {i : Nat} (hi : i < p.bs.length) (B : Blk) (f : Nat→Nat→A) : CB H p j ad s {r with sc:=f} (Q.set (ad (.sl i)).1 B) :=
  ⟨h.1,h.2.1,h.2.2.1,fun hj=>(h.2.2.2 hj).gr (Gr.set (F:=one (ad (.sl i)).1) _ _ _ rfl) fun y hy=>.inr ⟨.sl i,by simpa [usR] using hi,hy.symm⟩⟩
theorem slt_mok {p : Pl} {s : Sy} (h : SyOk p s) {i k : Nat} (hi : i < p.bs.length) (hk : k≤p.rl i) : MixOk p.mt (slt p s i k):=by
  cases k with
  | zero=>exact h.fst i hi
  | succ k=>exact h.rng i hi _ (Nat.mod_lt _ (by omega))
theorem copied35_vr {H : List Blk} (p : Pl) (s : Sy) (hp : pcheck p=0) (hs : SyOk p s) (j : Nat) : VR P false n_ref35_copied [stA p s] H (fun x H'=>∃ (ad : Rd) (r : Rs),x=.agg (outC p p.ms.length p.bs.length ad r.fd)∧RM H' p p.ms.length p.bs.length ad r∧Gr nof H H'∧(∀ c,usR p.bs.length c=true→H.length≤(ad c).1)∧Shw p j r s∧(j < p.ms.length→Own1 H' H.length p.bs.length ad (r.bc j) (s.bef j))):=by
  refine vr_ref35_copied (by simp) (.inl rfl) fun _ _=>?_
  have ok:=pcheck_ok hp
  obtain ⟨m1,m2,m3⟩:=ok.mt1
  have n1:=ok.n1
  have n2:=ok.n2
  have b2:=ok.b2
  have hnw:=fun H=>new35_vr (H:=H) (w:=true) (v:=true) p hp
  unfold stA stC
  simp (disch:=((try simp only [lZ]); omega)) only [aZ,aM,aT,s_ref35_copied,v_ref35_copied]
  refine (hnw _).mono ?_
  rintro x K ⟨ad0,rfl,R0,G0,L0⟩
  have B0:=G0.at (i:=H.length) (ver:=0) (by rw [blkAt_new0]; rfl) fun h=>h
  have V0:=G0.at (i:=H.length+1) (ver:=0) (by rw [blkAt_new]; rfl) fun h=>h
  refine aret_of ?_
  unfold outC
  simp (disch:=((try simp only [lZ]); omega)) only [aZ,aM,aT]
  have C0 : CI H p K.length (fun c=>if c=.out then (K.length,0) else ad0 c) (rs0 p) (K++[⟨0,outC p p.ms.length p.bs.length ad0 (rs0 p).fd⟩]) _:=⟨R0.anew,rfl,by rw [blkAt_app _ _ _ _ (blkAt_lt B0)]; exact B0,by rw [blkAt_app _ _ _ _ (blkAt_lt V0)]; exact V0,((Gr.app (F:=nof) H _).trans G0 fun _ _ h=>h).trans (Gr.app (F:=nof) _ _) fun _ _ h=>h,fun c hc=>by
    have h1:=blkAt_lt V0
    by_cases e : c=.out
    · rw [if_pos e]; exact h1
    · rw [if_neg e]
      have:=L0 c hc
      simp at this; omega⟩
  generalize hA : (fun c=>if c=Rc.out then (K.length,0) else ad0 c)=ad at C0
  obtain ⟨o,ho⟩ : ∃ o,o=K.length:=⟨_,rfl⟩
  rw [← ho] at C0 ⊢
  obtain ⟨Q0,hQ0⟩ : ∃ Q0,Q0=K++[⟨0,outC p p.ms.length p.bs.length ad0 (rs0 p).fd⟩]:=⟨_,rfl⟩
  rw [← hQ0] at C0
  refine AWP.cut (e':=_) (H':=Q0) (by rw [hQ0]; exact Cut.refl _ _ _) ?_
  clear R0 G0 L0 B0 V0 hA hQ0 ho
  generalize hbx : stC p s=bx at C0
  unfold stC at hbx
  subst hbx
  refine AWP.loopM g_ref35_copied_0 (fun x : Nat×Rs×List Blk=>x.1≤p.ms.length∧CI H p o ad x.2.1 x.2.2 _∧(∀ m,m < p.ms.length→x.1≤m→x.2.1.bc m=fzI (zeros p.mt))∧(∀ m,m < x.1→m≠j→x.2.1.bc m=fzI (s.bef m))∧(∀ m,m < x.1→x.2.1.hl m=s.hal.getD m false)∧x.2.1.sc=(rs0 p).sc∧x.2.1.fd=zeros p.mt∧(j < x.1→Own1 x.2.2 (H.length+2) p.bs.length ad (x.2.1.bc j) (s.bef j))) (fun x=>[(3,.v (.int .i64 x.1))]) (fun x=>x.2.2) (fun x=>p.ms.length - x.1) (0,rs0 p,Q0) ⟨by omega,C0,fun m _ _=>rfl,fun m h=>by simp at h,fun m h=>by simp at h,rfl,rfl,fun h=>by simp at h⟩ ?_ ?_
  · exact Cut.fg (by simp (disch:=first | omega | simp (disch:=omega) only [aG,aM,aT]) only [fZ,aM,aT,fgl_nil,fgl_cons,or_true,true_or])
  clear C0
  rintro ⟨i,r,Q⟩ ⟨hi,C,z1,z2,z3,z4,z5,z6⟩
  simp only at hi C z1 z2 z3 z4 z5 z6
  have qo:=C.rm.ot
  rw [C.ro] at qo
  have qx:=C.bx
  have bl:=befL_len p s
  by_cases hlt : i < p.ms.length
  · have qb:=C.rm.get .bef rfl
    have qh:=C.rm.get .hal rfl
    simp only [ctR] at qb qh
    have e1:=befL_get p s i hlt
    have e2:=mr_nth p.ms.length r.bc i hlt
    rw [z1 i hlt (Nat.le_refl _)] at e2
    have e3:=mr_len p.ms.length r.bc
    have e4:=mr_spl p.ms.length r.bc i
    have e5:=mr_len p.ms.length r.hl
    have e6:=fun x=>mr_set p.ms.length r.hl i x
    have hbi:=hs.bef i hlt
    have hbl:=hbi.1
    have hsl:=hs.hal
    have lb:=blkAt_lt qb
    have lh:=blkAt_lt qh
    have lo:=blkAt_lt qo
    have nbo:=C.rm.ne (c:=.bef) (d:=.out) rfl rfl (by simp)
    have nho:=C.rm.ne (c:=.hal) (d:=.out) rfl rfl (by simp)
    have nbh:=C.rm.ne (c:=.bef) (d:=.hal) rfl rfl (by simp)
    rw [C.ro] at nbo nho
    have hib:=C.hi .bef rfl
    have hih:=C.hi .hal rfl
    have hio:=C.hi .out rfl
    rw [C.ro] at hio
    unfold outC at qo
    by_cases hij : i=j
    · subst hij
      have hpv:=fun H=>plus_ps (kp:=true) (w:=true) (v:=true) (H:=H) (s.bef i) (zeros p.mt) (by rw [hbl]; simp) (sm_zeros hbi) (by omega)
      rw [plus_zeros hbl] at hpv
      simp (disch:=((try simp only [lZ]); omega)) only [aZ,aM,aT,qx,qo,qb,qh,e1,e2,e3,e5]
      refine (hpv _).mono ?_
      rintro y Q1 ⟨rfl,hQ1⟩
      have g1 : Gr nof Q Q1:=by rw [hQ1]; exact Gr.app _ _
      have a1 : blkAt Q1 Q.length (s.bef i).length=some (ints (s.bef i)):=by rw [hQ1,blkAt_new0]; simp [blkAt]
      clear hQ1
      have D:=C.gr g1
      have lb1:=Nat.lt_of_lt_of_le lb g1.1
      have lh1:=Nat.lt_of_lt_of_le lh g1.1
      have lo1:=Nat.lt_of_lt_of_le lo g1.1
      replace qo:=g1.at qo fun h=>h
      replace qx:=g1.at qx fun h=>h
      replace qb:=g1.at qb fun h=>h
      replace qh:=g1.at qh fun h=>h
      have own : Own1 Q1 (H.length+2) p.bs.length ad (slA (Q.length,(s.bef i).length) (s.bef i).length) (s.bef i):=⟨_,rfl,a1,by have:=blkAt_lt C.rv; simp only; omega,by
        rintro ⟨c,hc,he⟩
        have:=C.rm.lt hc
        simp only at he; omega⟩
      unfold slA at own
      refine aret_of ?_
      simp (disch:=((try simp only [lZ]); omega)) only [aZ,aM,aT,qx,qo,qb,qh,e1,e2,e3,e4,e5,e6]
      have C1:=D.put .bef rfl (D.rm.putB i (.sl Q.length (s.bef i).length 1 0 (s.bef i).length)) (Gr.set (F:=one (ad .bef).1) _ _ _ rfl)
      have C2:=C1.put .hal rfl (C1.rm.putH i (s.hal.getD i false)) (Gr.set (F:=one (ad .hal).1) _ _ _ rfl)
      refine ⟨(i+1,_,_),⟨by simp only; omega,C2,fun m hm hmi=>by simp only; rw [updF_ne _ _ (by simp only at hmi; omega)]; exact z1 m hm (by simp only at hmi; omega),fun m hm hmj=>by
        simp only at hm ⊢
        rw [updF_ne _ _ hmj]; exact z2 m (by omega) hmj,fun m hm=>by
        simp only at hm ⊢
        by_cases e : m=i
        · rw [e,updF_same]
        · rw [updF_ne _ _ e]; exact z3 m (by omega),z4,z5,fun h=>by
        simp only at h ⊢
        rw [updF_same]
        exact (own.gr (Gr.set (F:=one (ad .bef).1) _ _ _ rfl) fun y hy=>.inr ⟨.bef,rfl,hy.symm⟩).gr (Gr.set (F:=one (ad .hal).1) _ _ _ rfl) fun y hy=>.inr ⟨.hal,rfl,hy.symm⟩⟩,by simp only; omega,?_⟩
      try simp (disch:=((try simp only [lZ]); omega)) only [aZ,aM,aT]
      exact Cut.fg (by simp (disch:=first | omega | simp (disch:=omega) only [aG,aM,aT]) only [fZ,aM,aT,fgl_nil,fgl_cons,or_true,true_or])
    · have hpv:=plus35_vr (w:=true) (v:=true) (s.bef i) (zeros p.mt) (by rw [hbl]; simp) (sm_zeros hbi) (by omega)
      rw [plus_zeros hbl] at hpv
      simp (disch:=((try simp only [lZ]); omega)) only [aZ,aM,aT,qx,qo,qb,qh,e1,e2,e3,e5]
      refine hpv.same (by simp (disch:=first | omega | simp (disch:=omega) only [aG,aM,aT]) only [fZ,aM,aT]) (by simp (disch:=first | omega | simp (disch:=omega) only [aG,aM,aT]) only [fZ,aM,aT]) (aret_of ?_)
      simp (disch:=((try simp only [lZ]); omega)) only [aZ,aM,aT,qx,qo,qb,qh,e1,e2,e3,e4,e5,e6]
      have C1:=C.put .bef rfl (C.rm.putB i (fzI (s.bef i))) (Gr.set (F:=one (ad .bef).1) _ _ _ rfl)
      have C2:=C1.put .hal rfl (C1.rm.putH i (s.hal.getD i false)) (Gr.set (F:=one (ad .hal).1) _ _ _ rfl)
      refine ⟨(i+1,_,_),⟨by simp only; omega,C2,fun m hm hmi=>by simp only; rw [updF_ne _ _ (by omega)]; exact z1 m hm (by simp only at hmi; omega),fun m hm hmj=>by
        simp only at hm ⊢
        by_cases e : m=i
        · rw [e,updF_same]
        · rw [updF_ne _ _ e]; exact z2 m (by omega) hmj,fun m hm=>by
        simp only at hm ⊢
        by_cases e : m=i
        · rw [e,updF_same]
        · rw [updF_ne _ _ e]; exact z3 m (by omega),z4,z5,fun h=>by
        simp only at h ⊢
        rw [updF_ne _ _ (by omega)]
        exact ((z6 (by omega)).gr (Gr.set (F:=one (ad .bef).1) _ _ _ rfl) fun y hy=>.inr ⟨.bef,rfl,hy.symm⟩).gr (Gr.set (F:=one (ad .hal).1) _ _ _ rfl) fun y hy=>.inr ⟨.hal,rfl,hy.symm⟩⟩,by simp only; omega,?_⟩
      try simp (disch:=((try simp only [lZ]); omega)) only [aZ,aM,aT]
      exact Cut.fg (by simp (disch:=first | omega | simp (disch:=omega) only [aG,aM,aT]) only [fZ,aM,aT,fgl_nil,fgl_cons,or_true,true_or])
  have hie : i=p.ms.length:=by omega
  subst hie
  unfold outC at qo
  simp (disch:=((try simp only [lZ]); omega)) only [aZ,aM,aT,qx,qo,bl]
  refine AWP.loopM g_ref35_copied_1 (fun x : Nat×Rs×List Blk=>x.1≤p.bs.length∧CI H p o ad x.2.1 x.2.2 _∧CB H p j ad s x.2.1 x.2.2∧(∀ i,i < x.1→∀ q,q≤p.rl i→x.2.1.sc i q=fzI (slt p s i q))∧∀ i,x.1≤i→∀ q,x.2.1.sc i q=fzI (zeros p.mt)) (fun x=>[(5,.v (.int .i64 x.1))]) (fun x=>x.2.2) (fun x=>p.bs.length - x.1) (0,r,Q) ⟨by omega,C,⟨fun m hm hj=>z2 m hm hj,fun m hm=>z3 m hm,z5,z6⟩,fun i h=>by simp at h,fun i _ q=>by rw [z4]; rfl⟩ ?_ ?_
  · exact Cut.fg (by simp (disch:=first | omega | simp (disch:=omega) only [aG,aM,aT]) only [fZ,aM,aT,fgl_nil,fgl_cons,or_true,true_or])
  clear C z1 z2 z3 z4 z5 z6 qo qx
  rintro ⟨i,r,Q⟩ ⟨hi,C,CBr,z1,z2⟩
  simp only at hi C CBr z1 z2
  have qo:=C.rm.ot
  rw [C.ro] at qo
  have qx:=C.bx
  have bl2:=belL_len p s
  by_cases hit : i < p.bs.length
  · have e1:=belL_get p s i hit
    have e2:=belM_len p s i
    have hrl:=ok.rl hit
    unfold outC at qo
    simp (disch:=((try simp only [lZ]); omega)) only [aZ,aM,aT,qx,qo,e1,e2]
    refine AWP.loopM g_ref35_copied_2 (fun x : Nat×Rs×List Blk=>x.1≤p.rl i+1∧CI H p o ad x.2.1 x.2.2 _∧CB H p j ad s x.2.1 x.2.2∧(∀ i,i < i→∀ q,q≤p.rl i→x.2.1.sc i q=fzI (slt p s i q))∧(∀ y,y < i→∀ q,q≤p.rl y→x.2.1.sc y q=fzI (slt p s y q))∧(∀ y,i < y→∀ q,x.2.1.sc y q=fzI (zeros p.mt))∧(∀ q,q < x.1→x.2.1.sc i q=fzI (slt p s i q))∧∀ q,x.1≤q→x.2.1.sc i q=fzI (zeros p.mt)) (fun x=>[(6,.v (.int .i64 x.1))]) (fun x=>x.2.2) (fun x=>p.rl i+1 - x.1) (0,r,Q) ⟨by omega,C,CBr,fun i h=>by omega,z1,fun y hy q=>z2 y (Nat.le_of_lt hy) q,fun q h=>by simp at h,fun q _=>z2 i (Nat.le_refl _) q⟩ ?_ ?_
    · exact Cut.fg (by simp (disch:=first | omega | simp (disch:=omega) only [aG,aM,aT]) only [fZ,aM,aT,fgl_nil,fgl_cons,or_true,true_or])
    clear C CBr z1 z2 qo qx
    rintro ⟨k,r,Q⟩ ⟨hk,C,CBr,_,z1,z2,z3,z4⟩
    simp only at hk C CBr z1 z2 z3 z4
    have qo:=C.rm.ot
    rw [C.ro] at qo
    have qx:=C.bx
    unfold outC at qo
    by_cases hkt : k < p.rl i+1
    · have us : usR p.bs.length (.sl i)=true:=by simpa [usR] using hit
      have qb:=C.rm.get .bel rfl
      have qs:=C.rm.get (.sl i) us
      simp only [ctR] at qb qs
      have f1 : nthA ((List.range p.bs.length).map (celB p ad)) i=some (.sl (ad (.sl i)).1 (ad (.sl i)).2 1 0 (p.rl i+1)):=mr_nth p.bs.length (celB p ad) i hit
      have f2:=mr_len p.bs.length (celB p ad)
      have f3:=mr_nth (p.rl i+1) (r.sc i) k hkt
      rw [z4 k (Nat.le_refl _)] at f3
      have f4:=mr_len (p.rl i+1) (r.sc i)
      have f5:=mr_spl (p.rl i+1) (r.sc i) k
      have e3:=belM_get p s i k hkt
      have hsk:=slt_mok hs hit (show k≤p.rl i by omega)
      have hpv:=plus35_vr (w:=true) (v:=true) (slt p s i k) (zeros p.mt) (by rw [hsk.1]; simp) (sm_zeros hsk) (by rw [hsk.1]; omega)
      rw [plus_zeros hsk.1] at hpv
      have ls:=blkAt_lt qs
      have his:=C.hi _ us
      simp (disch:=((try simp only [lZ]); omega)) only [aZ,aM,aT,qx,qo,qb,qs,e1,e2,e3,f1,f2,f3,f4]
      refine hpv.same (by simp (disch:=first | omega | simp (disch:=omega) only [aG,aM,aT]) only [fZ,aM,aT]) (by simp (disch:=first | omega | simp (disch:=omega) only [aG,aM,aT]) only [fZ,aM,aT]) (aret_of ?_)
      simp (disch:=((try simp only [lZ]); omega)) only [aZ,aM,aT,qx,qo,qb,qs,e1,e2,e3,f1,f2,f3,f4,f5]
      have C1:=C.put (.sl i) us (C.rm.putS hit k (fzI (slt p s i k))) (Gr.set (F:=one (ad (.sl i)).1) _ _ _ rfl)
      refine ⟨(k+1,_,_),⟨by simp only; omega,C1,CBr.sl hit _ _,fun i h=>by omega,fun y hy q hq=>by simp only; rw [updF_ne _ _ (by omega)]; exact z1 y hy q hq,fun y hy q=>by simp only; rw [updF_ne _ _ (by omega)]; exact z2 y hy q,fun q hq=>by
        simp only at hq ⊢
        rw [updF_same]
        by_cases e : q=k
        · rw [e,updF_same]
        · rw [updF_ne _ _ e]; exact z3 q (by omega),fun q hq=>by
        simp only at hq ⊢
        rw [updF_same,updF_ne _ _ (by omega)]; exact z4 q (by omega)⟩,by simp only; omega,?_⟩
      try simp (disch:=((try simp only [lZ]); omega)) only [aZ,aM,aT]
      exact Cut.fg (by simp (disch:=first | omega | simp (disch:=omega) only [aG,aM,aT]) only [fZ,aM,aT,fgl_nil,fgl_cons,or_true,true_or])
    · simp (disch:=((try simp only [lZ]); omega)) only [aZ,aM,aT,qx,qo,e1,e2]
      refine ⟨(i+1,r,Q),⟨by simp only; omega,C,CBr,fun y hy q hq=>by
        by_cases e : y=i
        · subst e; exact z3 q (by omega)
        · exact z1 y (by simp only at hy; omega) q hq,fun y hy q=>z2 y (by simp only at hy; omega) q⟩,by simp only; omega,?_⟩
      try simp (disch:=((try simp only [lZ]); omega)) only [aZ,aM,aT]
      exact Cut.fg (by simp (disch:=first | omega | simp (disch:=omega) only [aG,aM,aT]) only [fZ,aM,aT,fgl_nil,fgl_cons,or_true,true_or])
  have hie : i=p.bs.length:=by omega
  subst hie
  obtain ⟨b1,b2',b3,b4⟩:=CBr
  rw [b3] at qo
  unfold outC at qo
  have hfl:=hs.fed.1
  have hpv:=plus35_vr (w:=true) (v:=true) s.fed (zeros p.mt) (by rw [hfl]; simp) (sm_zeros hs.fed) (by omega)
  rw [plus_zeros hfl] at hpv
  have lo:=blkAt_lt qo
  have hio:=C.hi .out rfl
  rw [C.ro] at hio
  have qv:=C.rv
  simp (disch:=((try simp only [lZ]); omega)) only [aZ,aM,aT,qx,qo,bl2]
  refine hpv.same (by simp (disch:=first | omega | simp (disch:=omega) only [aG,aM,aT]) only [fZ,aM,aT]) (by simp (disch:=first | omega | simp (disch:=omega) only [aG,aM,aT]) only [fZ,aM,aT]) (aret_of ?_)
  simp (disch:=((try simp only [lZ]); omega)) only [aZ,aM,aT,qx,qo,qv,r_ref35_copied]
  have C1:=C.put .out rfl (C.rm.putF s.fed) (Gr.set (F:=one (ad .out).1) _ _ _ rfl)
  rw [C.ro] at C1
  exact post2 (R:=fun x H'=>∃ (ad : Rd) (r : Rs),x=.agg (outC p p.ms.length p.bs.length ad r.fd)∧RM H' p p.ms.length p.bs.length ad r∧Gr nof H H'∧(∀ c,usR p.bs.length c=true→H.length≤(ad c).1)∧Shw p j r s∧(j < p.ms.length→Own1 H' H.length p.bs.length ad (r.bc j) (s.bef j)))
    ⟨ad,{r with fd:=s.fed},rfl,C1.rm.gr (Gr.set (F:=one (H.length+1)) _ _ _ rfl) fun c hc hf=>by have : (ad c).1=H.length+1:=hf; have:=C.hi c hc; omega,
      C1.g.trans (Gr.set (F:=one (H.length+1)) _ _ _ rfl) fun i hi hf=>by have : i=H.length+1:=hf; omega,fun c hc=>by have:=C.hi c hc; omega,
      ⟨b1,b2',fun i hi q hq=>z1 i hi q hq,rfl⟩,fun hj=>by
        obtain ⟨q,q1,q2,q3,q4⟩:=b4 hj
        refine ⟨q,q1,?_,by omega,q4⟩
        rw [blkAt_set_ne _ _ _ _ _ (by omega),blkAt_set_ne _ _ _ _ _ (fun hc=>q4 ⟨.out,rfl,by rw [C.ro]; exact hc.symm⟩)]
        exact q2⟩

structure Two (K : List Blk) (p : Pl) (a : Ad) (s : Sy) (b : Ad) (t : Sy) : Prop where
  l : PM K p a s
  r : PM K p b t
  d : ∀ i,ftp p a i→¬ ftp p b i
theorem ftp_lt {K : List Blk} {p : Pl} {a : Ad} {s : Sy} (h : PM K p a s) {i : Nat} (hi : ftp p a i) : i < K.length:=by
  obtain ⟨c,hc,rfl⟩:=hi; exact h.lt hc
theorem Two.swap {K : List Blk} {p : Pl} {a b : Ad} {s t : Sy} (h : Two K p a s b t) : Two K p b t a s:=⟨h.r,h.l,fun i hb ha=>h.d i ha hb⟩
theorem Two.left {K K' : List Blk} {p : Pl} {a b a' : Ad} {s t s' : Sy} (h : Two K p a s b t) (hP : PM K' p a' s') (hT : Tr p K a K' a') : Two K' p a' s' b t :=
  ⟨hP,h.r.gr hT.1 fun c hc hf=>h.d _ hf ⟨c,hc,rfl⟩,fun i ha hb=>by
    rcases hT.2.1 i ha with h1 | h1
    · have:=ftp_lt h.r hb; omega
    · exact h.d i h1 hb⟩
theorem Two.right {K K' : List Blk} {p : Pl} {a b b' : Ad} {s t t' : Sy} (h : Two K p a s b t) (hP : PM K' p b' t') (hT : Tr p K b K' b') : Two K' p a s b' t':=(h.swap.left hP hT).swap
theorem Two.gr {K K' : List Blk} {p : Pl} {a b : Ad} {s t : Sy} (h : Two K p a s b t) (g : Gr nof K K') : Two K' p a s b t:=⟨h.l.gr g fun _ _ h=>h,h.r.gr g fun _ _ h=>h,h.d⟩
theorem Eqv.feedR {p : Pl} (ok : POk p) {s t : Sy} (h : Eqv p s t) (xs : List Int) : Eqv p (feedR p s xs) (feedR p t xs):=by
  unfold Go.Proofs.YtdkoindoljngmaaGreat.feedR
  rw [h.fed]
  split
  · have hfd:=ok.fd
    refine ⟨fun m hm=>?_,h.slt,h.hal,?_⟩
    · simp only [feedS]
      by_cases e : m=p.fd.toNat
      · rw [e,updF_same,updF_same,h.bef _ (by omega)]
      · rw [updF_ne _ _ e,updF_ne _ _ e]; exact h.bef m hm
    · simp only [feedS,h.fed]
  · exact h
structure Op where
  k : Int
  m : Int
  n : Int
  mx : List Int
def op0 : Op:=⟨0,0,0,[]⟩
def opC (o : Op) : List A:=[.v (.int .i64 o.k),.v (.int .i64 o.m),.v (.int .i64 o.n),.fs true (ints o.mx)]
def opA (o : Op) : A:=.agg (opC o)
def ops (l : List Op) : List A:=l.map opA
theorem op_len (l : List Op) : (ops l).length=l.length:=by simp [ops]
theorem op_idx (w : Bool) (l : List Op) (kk : IntKind) (j : Int) (h1 : 0≤j) (h2 : j < l.length) : idxA 4 (.fs w (ops l)) (.v (.int kk j))=some (.fp w [.v (.int .i64 (l.getD j.toNat op0).k),.v (.int .i64 (l.getD j.toNat op0).m),.v (.int .i64 (l.getD j.toNat op0).n),.fs true (ints (l.getD j.toNat op0).mx)]) :=
  map_idx 4 w l op0 kk j opC (fun _=>rfl) (fun _=>rfl) h1 h2
theorem op_bd (n : Nat) (l : List Op) : A.bdL n (ops l)=true:=map_bd n l fun o=>by simp [opA,opC,A.bd,A.bdL,ii_bd]
theorem op_cl (l : List Op) : A.clL (ops l)=true:=map_cl l fun o=>by simp [opA,opC,A.cl,A.clL,ii_cl]
theorem aO : type_of% (And.intro @op_len <| And.intro @op_idx <| And.intro @op_bd <| @op_cl):=And.intro @op_len <| And.intro @op_idx <| And.intro @op_bd <| @op_cl
theorem lightL_vr {w v : Bool} (p : Pl) (l : List Op) : VR P false n_law35_light [plA w v p,.fs true (ops l)] [] (isR (.v (.bool (decide (litP p∧l.length≤30))))):=by
  refine vr_law35_light (by simp) (.inr rfl) fun _ _=>?_
  unfold plA plC litP
  simp (disch:=((try simp only [lZ]); omega)) only [aZ,aM,s_law35_light,v_law35_light,r_law35_light,aO]
  refine post_v ⟨?_,rfl⟩
  congr 3
  simp; omega
theorem ref35Bin_vr {w v : Bool} (p : Pl) (m : Nat) (hm : m < p.ms.length) : VR P false n_ref35_Bin [plA w v p,.v (.int .i64 m)] [] (isR (.v (.bool (decide (binN p m))))):=by
  refine vr_ref35_Bin (by simp) (.inr rfl) fun _ _=>?_
  unfold plA plC binN
  simp (disch:=((try simp only [lZ]); omega)) only [aZ,aM,s_ref35_Bin,v_ref35_Bin]
  refine (refOuts_vr (w:=w) (p.ms.getD m [])).same (by unfold mcA mcC; simp (disch:=first | omega | simp (disch:=omega) only [aG,aM]) only [fZ,aM]) rfl (aret_of ?_)
  simp (disch:=((try simp only [lZ]); omega)) only [aZ,aM,r_ref35_Bin]
  refine post_v ⟨?_,rfl⟩
  congr 3
  simp
theorem binErr_vr {w v : Bool} (p : Pl) (m : Int) : VR P false n_ref35_BinError [plA w v p,.v (.int .i64 m)] [] (isR (.v (.int .i64 (fndE p m)))):=by
  refine vr_ref35_BinError (by simp) (.inr rfl) fun _ _=>?_
  have hb:=ref35Bin_vr (w:=w) (v:=v) p m.toNat
  unfold fndE
  unfold plA plC at *
  by_cases h1 : m < 0∨(p.ms.length : Int)≤m
  · rw [if_pos h1]
    simp (disch:=((try simp only [lZ]); omega)) only [aZ,aM,s_ref35_BinError,v_ref35_BinError,decide_eq_true h1,r_ref35_BinError]
    exact post_v ⟨rfl,rfl⟩
  rw [if_neg h1]
  have hm : m.toNat < p.ms.length:=by omega
  have hb:=hb hm
  rw [Int.toNat_of_nonneg (by omega)] at hb
  simp (disch:=((try simp only [lZ]); omega)) only [aZ,aM,s_ref35_BinError,v_ref35_BinError,decide_eq_false h1]
  refine hb.same (by simp (disch:=first | omega | simp (disch:=omega) only [aG,aM]) only [fZ,aM]) rfl (aret_of ?_)
  by_cases h2 : binN p m.toNat
  · rw [if_neg (fun hc=>hc h2),decide_eq_true h2]
    simp (disch:=((try simp only [lZ]); omega)) only [aZ,aM,r_ref35_BinError]
    exact post_v ⟨rfl,rfl⟩
  · rw [if_pos h2,decide_eq_false h2]
    simp (disch:=((try simp only [lZ]); omega)) only [aZ,aM,r_ref35_BinError]
    exact post_v ⟨rfl,rfl⟩
def haltR (p : Pl) (s : Sy) (m : Int) (b : Bool) : Sy:=if hltE p m=0 then hltS s m b else s
theorem halt_a {H : List Blk} {p : Pl} {ad : Ad} {s : Sy} (ok : POk p) (h : PM H p ad s) (hg : Iv p s) (m : Int) (b : Bool) : VR P false n_plant_Plant_Halt [.lp (ad .root).1 0 0,.v (.int .i64 m),.v (.bool b)] H (fun r H'=>r=.v (.int .i64 (hltE p m))∧PM H' p ad (haltR p s m b)∧Tr p H ad H' ad):=by
  unfold haltR
  by_cases he : hltE p m=0
  · rw [if_pos he,he]; exact halt_pm ok h hg.1 m b he
  · rw [if_neg he]
    exact (halt_err ok h m b he).mono fun r H' ⟨h1,h2⟩=>⟨h1,h2▸h,h2▸Tr.refl _ _⟩
theorem Iv.haltR {p : Pl} {s : Sy} (h : Iv p s) (m : Int) (b : Bool) : Iv p (haltR p s m b):=by
  unfold Go.Proofs.YtdkoindoljngmaaGreat.haltR
  split
  · exact h.halt m b
  · exact h
def takR (p : Pl) (s : Sy) (m : Int) (xs : List Int) : Sy:=if takE p s m xs=0 then takS s m xs else s
theorem Iv.takR {p : Pl} {s : Sy} (h : Iv p s) (m : Int) (xs : List Int) : Iv p (takR p s m xs):=by
  unfold Go.Proofs.YtdkoindoljngmaaGreat.takR
  split
  · rename_i he; exact h.take he
  · exact h
end Go.Proofs.YtdkoindoljngmaaGreat
