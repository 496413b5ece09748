/- Lemmas and walks that the proof of TopPlantBales uses. No statement is claimed here. -/
import Derived.Test.YtdkoindoljngmaaTopPlantBalesZap
namespace Go.Proofs.Ytdkoindoljngmaa
open Go Go.Lft
set_option linter.unusedSimpArgs false
set_option linter.unusedVariables false
attribute [local congr] ob_congr bw_congr ib_congr ck_congr iwA_congr itA_congr aw_congr awp_congr sqA_congr bkA_congr vr_congr gd_congr
def newS (p : Pl) : Sy:={bef:=fun _=>zeros p.mt,fst:=fun _=>zeros p.mt,pos:=fun _=>0,rng:=fun _ _=>zeros p.mt,hal:=List.replicate p.ms.length false,fed:=zeros p.mt}
theorem sm_zero (n : Nat) : sm n (fun _=>(0 : Int))=0:=by
  induction n with
  | zero=>rfl
  | succ n ih=>simp only [sm,ih]; rfl
theorem new_tot (p : Pl) (x : Nat) : tot p (newS p) x=0:=by
  unfold tot befT fstT rngT newS
  simp only [zeros_get,sm_zero]; rfl
theorem Gd.new (p : Pl) : Gd p (newS p) :=
  ⟨fun m _=>⟨(zeros_ok _).1,fun x=>by simp only [newS]; rw [zeros_get]; omega⟩,fun i _=>⟨(zeros_ok _).1,fun x=>by simp only [newS]; rw [zeros_get]; omega⟩,fun i _ q _=>⟨(zeros_ok _).1,fun x=>by simp only [newS]; rw [zeros_get]; omega⟩,
    fun i _ h=>h,by simp [newS],zeros_ok _,fun x=>by rw [new_tot]; omega⟩
def usK (p : Pl) (k b : Nat) : Pc→Bool
  | .root=>true | .bef=>true | .bel=>true | .hal=>true | .fed=>true
  | .bm m=>decide (m < k)
  | .fi i=>decide (i < b)
  | .re i=>decide (i < b) && decide (0 < p.rl i)
  | .ri i q=>decide (i < b) && decide (q < p.rl i)
theorem usK_all (p : Pl) : usK p p.ms.length p.bs.length=usd p:=by funext c; cases c<;>rfl
def befK (p : Pl) (k : Nat) (ad : Ad) : List A:=(List.range k).map fun m=>slA (ad (.bm m)) p.mt
def belsK (p : Pl) (b : Nat) (ad : Ad) : List A:=(List.range b).flatMap (cvC p ad)
def rootK (p : Pl) (k b : Nat) (ad : Ad) : List A:=[.v (.int .i64 p.mt),.fs true (mcs true p.ms),.fs true (bts p.bs),.v (.int .i64 p.fd),.vs (ad .bef).1 (ad .bef).2 1 k,.vs (ad .bel).1 (ad .bel).2 2 b,slA (ad .hal) p.ms.length,slA (ad .fed) p.mt]
def ctK (p : Pl) (k b : Nat) (ad : Ad) : Pc→List A
  | .root=>rootK p k b ad
  | .bef=>befK p k ad
  | .bel=>belsK p b ad
  | .hal=>bools (List.replicate p.ms.length false)
  | .fed=>ints (zeros p.mt)
  | .bm _=>ints (zeros p.mt)
  | .fi _=>ints (zeros p.mt)
  | .re i=>belC (p.rl i) p.mt 0 fun q=>ad (.ri i q)
  | .ri _ _=>ints (zeros p.mt)
structure PN (n : Nat) (K : List Blk) (p : Pl) (k b : Nat) (ad : Ad) : Prop where
  get : ∀ c,usK p k b c=true→blkAt K (ad c).1 (ad c).2=some (ctK p k b ad c)
  inj : ∀ c d,usK p k b c=true→usK p k b d=true→(ad c).1=(ad d).1→c=d
  zr : (ad .root).2=0∧∀ i,(ad (.re i)).2=0
  hi : ∀ c,usK p k b c=true→n < (ad c).1
theorem PN.lt {n : Nat} {K : List Blk} {p : Pl} {k b : Nat} {ad : Ad} (h : PN n K p k b ad) {c : Pc} (hc : usK p k b c=true) : (ad c).1 < K.length:=blkAt_lt (h.get c hc)
theorem PN.ne {n : Nat} {K : List Blk} {p : Pl} {k b : Nat} {ad : Ad} (h : PN n K p k b ad) {c d : Pc} (hc : usK p k b c=true) (hd : usK p k b d=true) (hn : c≠d) : (ad c).1≠(ad d).1:=fun he=>hn (h.inj c d hc hd he)
theorem PN.rt {n : Nat} {K : List Blk} {p : Pl} {k b : Nat} {ad : Ad} (h : PN n K p k b ad) : blkAt K (ad .root).1 0=some (rootK p k b ad):=by have:=h.get .root rfl; rw [h.zr.1] at this; exact this
theorem PN.next {n : Nat} {K K' : List Blk} {p : Pl} {k b k' b' : Nat} {ad ad' : Ad} (h : PN n K p k b ad) (hr : ad' .root = ad .root) (hz : ∀ i, (ad' (.re i)).2 = 0)
    (hold : ∀ c,usK p k b c=true→(ad' c).1=(ad c).1) (hnew : ∀ c,usK p k' b' c=true→usK p k b c=false→K.length≤(ad' c).1)
    (hin : ∀ c d,usK p k' b' c=true→usK p k' b' d=true→usK p k b c=false→usK p k b d=false→(ad' c).1=(ad' d).1→c=d)
    (hget : ∀ c,usK p k' b' c=true→blkAt K' (ad' c).1 (ad' c).2=some (ctK p k' b' ad' c)) : PN n K' p k' b' ad':=by
  refine ⟨hget,fun c d hc hd he=>?_,⟨by rw [hr]; exact h.zr.1,hz⟩,fun c hc=>?_⟩
  · cases uc : usK p k b c with
    | false =>
      cases ud : usK p k b d with
      | false=>exact hin c d hc hd uc ud he
      | true =>
        have h1:=hnew c hc uc
        have h2:=h.lt ud
        have h3:=hold d ud
        omega
    | true =>
      cases ud : usK p k b d with
      | false =>
        have h1:=hnew d hd ud
        have h2:=h.lt uc
        have h3:=hold c uc
        omega
      | true=>exact h.inj c d uc ud (by rw [← hold c uc,← hold d ud,he])
  · cases uc : usK p k b c with
    | false =>
      have h1:=hnew c hc uc
      have h2:=h.lt (c:=.root) rfl
      have h3:=h.hi .root rfl
      omega
    | true=>rw [hold c uc]; exact h.hi c uc
theorem blk_ta {K T : List Blk} {i1 i2 j : Nat} {B1 B2 : Blk} {l L : Nat} (hL : L=K.length) : blkAt ((K.set i1 B1).set i2 B2++T) (L+j) l=blkAt T j l:=by
  subst hL
  have:=blkAt_new ((K.set i1 B1).set i2 B2) T j l
  simpa using this
theorem blk_to {K T : List Blk} {i1 i2 j l : Nat} {B1 B2 : Blk} {x : List A} (h : blkAt K j l=some x) (h1 : j≠i1) (h2 : j≠i2) : blkAt ((K.set i1 B1).set i2 B2++T) j l=some x:=by
  rw [blkAt_app _ _ _ _ (by simp; exact blkAt_lt h),blkAt_set_ne _ _ _ _ _ h2,blkAt_set_ne _ _ _ _ _ h1]; exact h
theorem blk_t1 {K T : List Blk} {i1 i2 v : Nat} {B2 : Blk} {x : List A} (h : i1 < K.length) (h2 : i1≠i2) : blkAt ((K.set i1 ⟨v,x⟩).set i2 B2++T) i1 v=some x:=by
  rw [blkAt_app _ _ _ _ (by simp; exact h),blkAt_set_ne _ _ _ _ _ h2]; exact blkAt_set_same _ _ _ _ h
theorem blk_t2 {K T : List Blk} {i1 i2 v : Nat} {B1 : Blk} {x : List A} (h : i2 < K.length) : blkAt ((K.set i1 B1).set i2 ⟨v,x⟩++T) i2 v=some x:=by
  rw [blkAt_app _ _ _ _ (by simp; exact h)]; exact blkAt_set_same _ _ _ _ (by simpa using h)
theorem gr_t {K T : List Blk} {n i1 i2 : Nat} {B1 B2 : Blk} (h1 : n < i1) (h2 : n < i2) : Gr (fun i=>n < i) K ((K.set i1 B1).set i2 B2++T) :=
  ⟨by simp,fun i ver hi hn=>by
    have hn' : ¬ n < i:=hn
    rw [blkAt_app _ _ _ _ (by simp; exact hi),blkAt_set_ne _ _ _ _ _ (by omega),blkAt_set_ne _ _ _ _ _ (by omega)]⟩
def adM (ad : Ad) (L k : Nat) : Ad
  | .bm m=>if m=k then (L,0) else ad (.bm m)
  | .bef=>((ad .bef).1,(ad .bef).2+1)
  | c=>ad c
def adT (ad : Ad) (L b : Nat) : Ad
  | .fi i=>if i=b then (L+1,0) else ad (.fi i)
  | .re i=>if i=b then (L+3,0) else ad (.re i)
  | .ri i q=>if i=b then (L+(4+q),0) else ad (.ri i q)
  | .bel=>((ad .bel).1,(ad .bel).2+1)
  | c=>ad c
theorem befK_app (p : Pl) (k : Nat) (ad : Ad) (L : Nat) : befK p k ad++[.sl L 0 1 0 p.mt]=befK p (k+1) (adM ad L k):=by
  unfold befK
  rw [List.range_succ,List.map_append]
  congr 1
  · refine List.map_congr_left fun m hm=>?_
    have : m < k:=List.mem_range.1 hm
    simp only [adM]; rw [if_neg (by omega)]
  · simp [adM,slA]
theorem befK_len (p : Pl) (k : Nat) (ad : Ad) : (befK p k ad).length=k:=by simp [befK]
theorem belsK_app (p : Pl) (b : Nat) (ad : Ad) (L : Nat) : belsK p b ad++[.sl (L+1) 0 1 0 p.mt,if 0 < p.rl b then .lp (L+3) 0 0 else .v (.pointer none)]=belsK p (b+1) (adT ad L b):=by
  unfold belsK
  rw [List.range_succ,List.flatMap_append]
  congr 1
  · rw [List.flatMap_def,List.flatMap_def]
    congr 1
    refine List.map_congr_left fun m hm=>?_
    have : m < b:=List.mem_range.1 hm
    simp only [adT,cvC,if_neg (show ¬ m=b by omega)]
  · simp [adT,slA,cvC]
theorem belsK_len (p : Pl) (b : Nat) (ad : Ad) : (belsK p b ad).length=b*2:=flat2_len _ (cvC_len p ad) _
theorem PN.addM {n : Nat} {K : List Blk} {p : Pl} {k : Nat} {ad : Ad} (h : PN n K p k 0 ad) (T : List Blk) (hT : blkAt T 0 0 = some (ints (zeros p.mt))) :
    PN n ((K.set (ad .bef).1 ⟨(ad .bef).2+1,befK p (k+1) (adM ad K.length k)⟩).set (ad .root).1 ⟨0,rootK p (k+1) 0 (adM ad K.length k)⟩++T) p (k+1) 0 (adM ad K.length k):=by
  have nb:=h.ne (c:=.bef) (d:=.root) rfl rfl (by simp)
  have lb:=h.lt (c:=.bef) rfl
  have lr:=h.lt (c:=.root) rfl
  have ub : ∀ m,usK p k 0 (.bm m)=true→m≠k:=fun m hm=>by simp [usK] at hm; omega
  refine h.next rfl (fun i=>h.zr.2 i) (fun c hc=>?_) (fun c hc hn=>?_) (fun c d hc hd hcn hdn he=>?_) (fun c hc=>?_)
  · cases c with
    | bm m=>simp only [adM]; rw [if_neg (ub m hc)]
    | _=>rfl
  · cases c with
    | bm m =>
      simp [usK] at hc hn
      simp only [adM]; rw [if_pos (by omega)]; exact Nat.le_refl _
    | _=>simp_all [usK]
  · cases c with
    | bm m =>
      cases d with
      | bm m'=>simp [usK] at hc hd hcn hdn; congr 1; omega
      | _=>simp_all [usK]
    | _=>simp_all [usK]
  · cases c with
    | bm m =>
      simp only [adM]
      by_cases e : m=k
      · rw [if_pos e]
        have:=blk_ta (K:=K) (T:=T) (i1:=(ad .bef).1) (i2:=(ad .root).1) (B1:=⟨(ad .bef).2+1,befK p (k+1) (adM ad K.length k)⟩) (B2:=⟨0,rootK p (k+1) 0 (adM ad K.length k)⟩) (j:=0) (l:=0) rfl
        rw [Nat.add_zero] at this
        exact this.trans hT
      · rw [if_neg e]
        have hu : usK p k 0 (.bm m)=true:=by simp [usK] at hc ⊢; omega
        exact blk_to (h.get _ hu) (h.ne hu rfl (by simp)) (h.ne hu rfl (by simp))
    | bef=>exact blk_t1 lb nb
    | root=>simp only [adM]; rw [h.zr.1]; exact blk_t2 lr
    | bel=>exact blk_to (h.get .bel rfl) (h.ne rfl rfl (by simp)) (h.ne rfl rfl (by simp))
    | hal=>exact blk_to (h.get .hal rfl) (h.ne rfl rfl (by simp)) (h.ne rfl rfl (by simp))
    | fed=>exact blk_to (h.get .fed rfl) (h.ne rfl rfl (by simp)) (h.ne rfl rfl (by simp))
    | _=>simp [usK] at hc
theorem PN.addT {n : Nat} {K : List Blk} {p : Pl} {k b : Nat} {ad : Ad} (h : PN n K p k b ad) (T : List Blk) (hT : blkAt T 1 0 = some (ints (zeros p.mt)))
    (hR : 0 < p.rl b→blkAt T 3 0=some (belC (p.rl b) p.mt 0 (fun q=>(K.length+(4+q),0)))∧∀ q,q < p.rl b→blkAt T (4+q) 0=some (ints (zeros p.mt))) :
    PN n ((K.set (ad .bel).1 ⟨(ad .bel).2+1,belsK p (b+1) (adT ad K.length b)⟩).set (ad .root).1 ⟨0,rootK p k (b+1) (adT ad K.length b)⟩++T) p k (b+1) (adT ad K.length b):=by
  have nb:=h.ne (c:=.bel) (d:=.root) rfl rfl (by simp)
  have lb:=h.lt (c:=.bel) rfl
  have lr:=h.lt (c:=.root) rfl
  refine h.next rfl (fun i=>?_) (fun c hc=>?_) (fun c hc hn=>?_) (fun c d hc hd hcn hdn he=>?_) (fun c hc=>?_)
  · simp only [adT]; split
    · rfl
    · exact h.zr.2 i
  · cases c with
    | fi i=>simp only [usK,decide_eq_true_eq] at hc; simp only [adT]; rw [if_neg (by omega)]
    | re i=>simp only [usK,Bool.and_eq_true,decide_eq_true_eq] at hc; simp only [adT]; rw [if_neg (by omega)]
    | ri i q=>simp only [usK,Bool.and_eq_true,decide_eq_true_eq] at hc; simp only [adT]; rw [if_neg (by omega)]
    | _=>rfl
  · cases c with
    | fi i =>
      simp [usK] at hc hn
      simp only [adT]; rw [if_pos (by omega)]; simp only; omega
    | re i =>
      simp [usK] at hc hn
      have : i=b:=by
        by_cases e : i < b
        · have:=hn e; omega
        · omega
      simp only [adT]; rw [if_pos this]; simp only; omega
    | ri i q =>
      simp [usK] at hc hn
      have : i=b:=by
        by_cases e : i < b
        · have:=hn e; omega
        · omega
      simp only [adT]; rw [if_pos this]; simp only; omega
    | _=>simp_all [usK]
  · have key : ∀ c, usK p k (b + 1) c = true → usK p k b c = false → c = .fi b ∨ c = .re b ∨ ∃ q, c = .ri b q := fun c hc hn => by
      cases c with
      | fi i=>simp [usK] at hc hn; left; congr 1; omega
      | re i =>
        simp [usK] at hc hn; right; left; congr 1
        by_cases e : i < b
        · have:=hn e; omega
        · omega
      | ri i q =>
        simp [usK] at hc hn; right; right; refine ⟨q,?_⟩; congr 1
        by_cases e : i < b
        · have:=hn e; omega
        · omega
      | _=>simp_all [usK]
    rcases key c hc hcn with rfl | rfl | ⟨q,rfl⟩<;>rcases key d hd hdn with rfl | rfl | ⟨q',rfl⟩<;>simp only [adT,if_true] at he<;>first | rfl | omega | (congr 1; omega)
  · cases c with
    | fi i =>
      simp only [adT]
      by_cases e : i=b
      · rw [if_pos e]; exact (blk_ta rfl).trans hT
      · rw [if_neg e]
        have hu : usK p k b (.fi i)=true:=by simp [usK] at hc ⊢; omega
        exact blk_to (h.get _ hu) (h.ne hu rfl (by simp)) (h.ne hu rfl (by simp))
    | re i =>
      simp only [adT]
      simp only [usK,Bool.and_eq_true,decide_eq_true_eq] at hc
      by_cases e : i=b
      · subst e
        rw [if_pos rfl]
        simp only [ctK,adT,if_true]
        exact (blk_ta rfl).trans (hR hc.2).1
      · rw [if_neg e]
        have hu : usK p k b (.re i)=true:=by simp [usK]; omega
        have:=blk_to (T:=T) (B1:=⟨(ad .bel).2+1,belsK p (b+1) (adT ad K.length b)⟩) (B2:=⟨0,rootK p k (b+1) (adT ad K.length b)⟩) (h.get _ hu) (h.ne hu (d:=.bel) rfl (by simp)) (h.ne hu (d:=.root) rfl (by simp))
        simp only [ctK,adT] at this ⊢
        simp only [if_neg e]
        exact this
    | ri i q =>
      simp only [adT]
      simp only [usK,Bool.and_eq_true,decide_eq_true_eq] at hc
      by_cases e : i=b
      · subst e
        rw [if_pos rfl]
        exact (blk_ta rfl).trans ((hR (by omega)).2 q hc.2)
      · rw [if_neg e]
        have hu : usK p k b (.ri i q)=true:=by simp [usK]; omega
        exact blk_to (h.get _ hu) (h.ne hu rfl (by simp)) (h.ne hu rfl (by simp))
    | bel=>exact blk_t1 lb nb
    | root=>simp only [adT]; rw [h.zr.1]; exact blk_t2 lr
    | bef=>exact blk_to (h.get .bef rfl) (h.ne rfl rfl (by simp)) (h.ne rfl rfl (by simp))
    | hal=>exact blk_to (h.get .hal rfl) (h.ne rfl rfl (by simp)) (h.ne rfl rfl (by simp))
    | fed=>exact blk_to (h.get .fed rfl) (h.ne rfl rfl (by simp)) (h.ne rfl rfl (by simp))
    | bm m =>
      have hu : usK p k b (.bm m)=true:=hc
      exact blk_to (h.get _ hu) (h.ne hu rfl (by simp)) (h.ne hu rfl (by simp))
def ad0 (n : Nat) : Ad
  | .root=>(n+2,0) | .hal=>(n+1,0) | .fed=>(n+3,0) | .bef=>(n+4,0) | .bel=>(n+5,0)
  | _=>(0,0)
theorem PN.init (H : List Blk) (p : Pl) (B : Blk) : PN H.length (H++[B,⟨0,bools (List.replicate p.ms.length false)⟩,⟨0,rootK p 0 0 (ad0 H.length)⟩,⟨0,ints (zeros p.mt)⟩,⟨0,[]⟩,⟨0,[]⟩]) p 0 0 (ad0 H.length):=by
  refine ⟨fun c hc=>?_,fun c d hc hd he=>?_,⟨rfl,fun i=>rfl⟩,fun c hc=>?_⟩
  · cases c<;>first | (simp [usK] at hc; done) | (simp only [ad0]; rw [blkAt_new]; rfl)
  · cases c<;>first | (simp [usK] at hc; done) | (cases d<;>first | rfl | (simp [usK] at hd; done) | (simp only [ad0] at he; omega))
  · cases c<;>first | (simp [usK] at hc; done) | (simp only [ad0]; omega)
theorem bel_sh (n len mat : Nat) : A.shL n (belC len mat 0 (newA 1))=belC len mat 0 (newA (n+1)):=by
  rw [shL_map]
  unfold belC belK ringC
  rw [List.map_append,List.map_map]
  congr 1
  refine List.map_congr_left fun q _=>?_
  simp only [Function.comp,newA]
  split
  · simp only [A.sh]; congr 1; omega
  · rfl
theorem bel_cl (len mat : Nat) (ad : Nat→Nat×Nat) : A.clL (belC len mat 0 ad)=true:=clL_iff.2 fun a ha=>by
  rcases List.mem_append.1 ha with h | h
  · obtain ⟨q,_,rfl⟩:=List.mem_map.1 h
    split<;>rfl
  · simp only [List.mem_cons,List.not_mem_nil,or_false] at h
    rcases h with rfl | rfl | rfl<;>rfl
def beltN (n len mat : Nat) : List Blk:=⟨0,belC len mat 0 (newA (n+1))⟩ :: List.replicate len ⟨0,ints (zeros mat)⟩
theorem bnew_ps {kp : Bool} {H : List Blk} {mat len : Nat} (h1 : 1≤len) (h16 : len≤16) (hm : 1≤mat∧mat≤16) : VR P kp n_belt_New [.v (.int .i64 len),.v (.int .i64 mat)] H (fun r H'=>r=.tup [.lp H.length 0 0,.v (.int .i64 0)]∧H'=H++beltN H.length len mat):=by
  refine (bnew_vr h1 h16 hm).useO (LdL.refl rfl) ?_ ⟨rfl,?_⟩
  · simp only [Bool.and_eq_true,List.all_eq_true]
    refine ⟨rfl,fun B hB=>?_⟩
    rcases List.mem_cons.1 hB with rfl | h
    · exact bel_cl _ _ _
    · rw [(List.mem_replicate.1 h).2]; exact ii_cl _
  · unfold beltG beltN
    rw [List.map_cons,List.map_replicate]
    simp only [Blk.sh,bel_sh,shL_bd _ (ii_bd 0 _)]
theorem beltN_at (n len mat q : Nat) (h : q < len) : blkAt (beltN n len mat) (1+q) 0=some (ints (zeros mat)):=by
  have : (beltN n len mat)[1+q]?=some ⟨0,ints (zeros mat)⟩:=by
    unfold beltN
    rw [Nat.add_comm 1 q,List.getElem?_cons_succ,List.getElem?_replicate,if_pos h]
  exact blkAt_iff.2 ⟨_,this,rfl,rfl⟩
theorem Rel.cells_vs {g : Bool→Heap} {σ : Nam} {i ver k n : Nat} {v : Value} (hn : 0 < n) (h : Rel g σ (.vs i ver k n) v) : Rel g σ (.sl i ver k 0 n) v:=by
  cases h with
  | vs0=>omega
  | vs i ver k n b s o' cp e1 e2 e3=>exact .sl i ver k 0 n b s o' cp e1 e2 fun hc=>by have:=e3 hc; omega
theorem Cut.cellS {n0 : Nat} {e : List A} {H : List Blk} (i ver j : Nat) {i' v' k n : Nat} {l : List A} (hb : blkAt H i ver=some l) (hj : l[j]?=some (.vs i' v' k n)) (hn : 0 < n) : Cut n0 e H e (H.set i (⟨ver,l.set j (.sl i' v' k 0 n)⟩ : Blk)):=by
  intro c ev hH h0 hs he
  subst hH
  obtain ⟨B,q1,q2,q3⟩:=blkAt_iff.1 hb
  subst q2; subst q3
  rcases hs.blk i B q1 with ⟨_,k0⟩ | ⟨b,s,vs,z,t,f1,f2,f3,f4,f5⟩
  · rw [k0] at hj; simp at hj
  · obtain ⟨x,hx,hxr⟩:=f5.get hj
    have h2:=f5.set j (Rel.cells_vs hn hxr)
    have h3 : vs.set j x=vs:=by
      apply List.ext_getElem?
      intro i
      rw [List.getElem?_set]
      split
      · rename_i hi; subst hi
        rw [if_pos (List.getElem?_eq_some_iff.1 hx).1,hx]
      · rfl
    rw [h3] at h2
    obtain ⟨e1,e2,e3⟩:=St.turn hs n0 q1 (v':=B.ver) (b':=b) (s':=s) (t:=t) (vs:=vs) (z:=z) (Or.inl (And.intro f1 (Nat.le_refl _))) f4 h2
    have h4 : Go.Lft.upd c.h b (.cells (vs++z).toArray t)=c.h:=upd_self f3
    refine ⟨_,rfl,?_,e2,e1,he.mono (fun _=>Ext.refl _) e3⟩
    simp only; exact h4
theorem both_of {A B C : Prop} (ha : C→A) (hb : C→B) (hc : C) : A∧B:=⟨ha hc,hb hc⟩
theorem new_vr {H : List Blk} {w v : Bool} (p : Pl) (hp : chkP p=0) : VR P false n_plant_New [plA w v p] H (fun r H'=>∃ ad : Ad,r=.tup [.lp (ad .root).1 0 0,.v (.int .i64 0)]∧PM H' p ad (newS p)∧Gr nof H H'∧∀ c,usd p c=true→H.length≤(ad c).1):=by
  refine vr_plant_New (by simp) (.inl rfl) fun _ _=>?_
  have hpc:=(chkP_ok hp).1
  have ok:=pcheck_ok hpc
  obtain ⟨m1,m2,m3⟩:=ok.mt1
  have n1:=ok.n1
  have n2:=ok.n2
  have b2:=ok.b2
  have hck:=plantCheck_vr (w:=w) (v:=v) p
  have hcp:=copied_vr (w:=w) (v:=v) p hpc
  rw [hp] at hck
  unfold plA plC at *
  rw [m3] at *
  simp (disch:=((try simp only [lZ]); omega)) only [aZ,aM,s_plant_New,v_plant_New]
  refine hck.same (by simp (disch:=first | omega | simp (disch:=omega) only [aG,aM]) only [fZ,aM]) rfl (aret_of ?_)
  simp (disch:=((try simp only [lZ]); omega)) only [aZ,aM]
  apply both_of
  · intro hc
    refine hcp.same (by simp (disch:=first | omega | simp (disch:=omega) only [aG,aM]) only [fZ,aM]) (by simp (disch:=first | omega | simp (disch:=omega) only [aG,aM]) only [fZ,aM]) (aret_of ?_)
    simp (disch:=((try simp only [lZ]); omega)) only [aZ,aM]
    exact hc
  · intro hc
    refine hcp.same (by simp (disch:=first | omega | simp (disch:=omega) only [aG,aM]) only [fZ,aM]) (by simp (disch:=first | omega | simp (disch:=omega) only [aG,aM]) only [fZ,aM]) (aret_of ?_)
    simp (disch:=((try simp only [lZ]); omega)) only [aZ,aM]
    exact hc
  refine (empty_ps m2 (by simp (disch:=((try simp only [lZ]); omega)) only [aZ,aM]; rfl)).mono ?_
  rintro r H' ⟨rfl,hH⟩
  rw [hH]
  refine aret_of ?_
  simp (disch:=((try simp only [lZ]); omega)) only [aZ,aM]
  refine AWP.cut (Cut.virtB (H.length+2) 0 4 1 (by simp (disch:=((try simp only [lZ]); omega)) only [aZ,aM]; rfl) rfl) ?_
  simp (disch:=((try simp only [lZ]); omega)) only [aZ,aM]
  refine AWP.cut (Cut.virtB (H.length+2) 0 5 2 (by simp (disch:=((try simp only [lZ]); omega)) only [aZ,aM]; rfl) rfl) ?_
  simp (disch:=((try simp only [lZ]); omega)) only [aZ,aM]
  refine AWP.cut (Cut.drop 19) ?_
  simp (disch:=((try simp only [lZ]); omega)) only [aZ,aM]
  generalize hr2 : H.length+(1+1)=r
  have gr0 : ∀ K K' : List Blk,Gr nof H K→Gr (fun i=>H.length < i) K K'→Gr nof H K':=fun K K' h1 h2=>h1.trans h2 fun i hi hf=>by have : H.length < i:=hf; omega
  have pa0 : ∀ (K K' : List Blk) (l : List A),blkAt K H.length 0=some l→Gr (fun i=>H.length < i) K K'→blkAt K' H.length 0=some l:=fun K K' l h1 h2=>h2.at h1 (by simp)
  refine AWP.loopM g_plant_New_0 (fun x : Nat×Ad×List Blk=>x.1≤p.ms.length∧PN H.length x.2.2 p x.1 0 x.2.1∧(x.2.1 .root).1=r∧Gr nof H x.2.2∧blkAt x.2.2 H.length 0=some [.v (.int .i64 p.mt),.fs w (mcs w p.ms),.fs v (bts p.bs),.v (.int .i64 p.fd)]) (fun x=>[(6,.v (.int .i64 x.1))]) (fun x=>x.2.2) (fun x=>p.ms.length - x.1) (0,ad0 H.length,_) ⟨by omega,PN.init H p ⟨0,[.v (.int .i64 p.mt),.fs w (mcs w p.ms),.fs v (bts p.bs),.v (.int .i64 p.fd)]⟩,hr2,Gr.app _ _,by rw [blkAt_new0]; rfl⟩ ?_ ?_
  · exact Cut.fg (by simp (disch:=first | omega | simp (disch:=omega) only [aG,aM]) only [fZ,aM,fgl_nil,fgl_cons,or_true,true_or])
  rintro ⟨k,ad,K⟩ ⟨hk,hP,hr,hG,hB⟩
  simp only at hk hP hr hG hB
  have kr:=hP.rt
  rw [hr] at kr
  have kb:=hP.get .bef rfl
  simp only [ctK] at kb
  have lr:=hP.lt (c:=.root) rfl
  rw [hr] at lr
  have lb:=hP.lt (c:=.bef) rfl
  have nb:=hP.ne (c:=.bef) (d:=.root) rfl rfl (by simp)
  rw [hr] at nb
  by_cases hlt : k < p.ms.length
  · unfold rootK slA at kr
    simp (disch:=((try simp only [lZ]); omega)) only [aZ,aM,kr]
    refine (empty_ps m2 kr).mono ?_
    rintro x H' ⟨rfl,hH⟩
    rw [hH]
    refine aret_of ?_
    have bl:=befK_len p k ad
    have ap:=befK_app p k ad K.length
    have tk : (befK p k ad).take k=befK p k ad:=List.take_of_length_le (by omega)
    have hN:=hP.addM [⟨0,ints (zeros p.mt)⟩,⟨0,[.sl K.length 0 1 0 p.mt]⟩] rfl
    have hg:=gr_t (K:=K) (T:=[⟨0,ints (zeros p.mt)⟩,⟨0,[.sl K.length 0 1 0 p.mt]⟩]) (B1:=⟨(ad .bef).2+1,befK p (k+1) (adM ad K.length k)⟩) (B2:=⟨0,rootK p (k+1) 0 (adM ad K.length k)⟩) (hP.hi .bef rfl) (hP.hi .root rfl)
    rw [hr] at hN hg
    simp (disch:=((try simp only [lZ]); omega)) only [aZ,aM,kr,kb,bl,ap,tk]
    refine ⟨(k+1,adM ad K.length k,_),⟨by simp only; omega,hN,hr,gr0 _ _ hG hg,pa0 _ _ _ hB hg⟩,by simp only; omega,?_⟩
    unfold rootK slA
    simp only [adM]
    try simp (disch:=((try simp only [lZ]); omega)) only [aZ,aM]
    exact Cut.fg (by simp (disch:=first | omega | simp (disch:=omega) only [aG,aM]) only [fZ,aM,fgl_nil,fgl_cons,or_true,true_or])
  have hke : k=p.ms.length:=by omega
  rw [hke] at hP
  clear kr kb lr lb nb
  simp (disch:=((try simp only [lZ]); omega)) only [aZ,aM,hB]
  refine AWP.loopM g_plant_New_1 (fun x : Nat×Ad×List Blk=>x.1≤p.bs.length∧PN H.length x.2.2 p p.ms.length x.1 x.2.1∧(x.2.1 .root).1=r∧Gr nof H x.2.2∧blkAt x.2.2 H.length 0=some [.v (.int .i64 p.mt),.fs w (mcs w p.ms),.fs v (bts p.bs),.v (.int .i64 p.fd)]) (fun x=>[(9,.v (.int .i64 x.1))]) (fun x=>x.2.2) (fun x=>p.bs.length - x.1) (0,ad,K) ⟨by omega,hP,hr,hG,hB⟩ ?_ ?_
  · exact Cut.fg (by simp (disch:=first | omega | simp (disch:=omega) only [aG,aM]) only [fZ,aM,fgl_nil,fgl_cons,or_true,true_or])
  clear hB hG hr hP hke hlt hk
  rintro ⟨b,ad,K⟩ ⟨hk,hP,hr,hG,hB⟩
  simp only at hk hP hr hG hB
  have kr:=hP.rt
  rw [hr] at kr
  have kb:=hP.get .bel rfl
  simp only [ctK] at kb
  have lr:=hP.lt (c:=.root) rfl
  rw [hr] at lr
  have lb:=hP.lt (c:=.bel) rfl
  have nb:=hP.ne (c:=.bel) (d:=.root) rfl rfl (by simp)
  rw [hr] at nb
  by_cases hlt : b < p.bs.length
  · unfold rootK slA at kr
    have lp:=blkAt_lt hB
    simp (disch:=((try simp only [lZ]); omega)) only [aZ,aM]
    refine (empty_ps m2 (r:=r) (by simp (disch:=((try simp only [lZ]); omega)) only [aZ,aM,kr]; rfl)).mono ?_
    rintro x H' ⟨rfl,hH⟩
    rw [hH]
    refine aret_of ?_
    simp (disch:=((try simp only [lZ]); omega)) only [aZ,aM]
    have hbl:=belsK_len p b ad
    have hap:=belsK_app p b ad K.length
    have tk : (belsK p b ad).take (b*2)=belsK p b ad:=List.take_of_length_le (by omega)
    have hbt:=ok.bt _ (mem_get b0 hlt)
    refine ib_intro (fun h1=>?_) (fun h1=>?_)
    · have hrl : ((p.bs.getD b b0).ln - 1)=(p.rl b : Nat):=by unfold Pl.rl; omega
      have hr0 : 0 < p.rl b:=by unfold Pl.rl; omega
      have hr16 : p.rl b≤16:=by have:=ok.rl hlt; omega
      have hbn:=fun (kp : Bool) (H : List Blk)=>bnew_ps (kp:=kp) (H:=H) (mat:=p.mt) (len:=p.rl b) (by omega) hr16 ⟨m1,m2⟩
      have q1:=beltN_at (K.length+3) (p.rl b) p.mt
      have q0 : blkAt (beltN (K.length+3) (p.rl b) p.mt) 0 0=some (belC (p.rl b) p.mt 0 (newA (K.length+3+1))):=rfl
      simp (disch:=((try simp only [lZ]); omega)) only [aZ,aM,hrl,hB]
      refine (hbn _ _).mono ?_
      rintro x H' ⟨rfl,hH⟩
      rw [hH]
      refine aret_of ?_
      simp only [List.length_append,List.length_cons,List.length_nil,Nat.zero_add,Nat.reduceAdd]
      generalize beltN (K.length+3) (p.rl b) p.mt=G at *
      rw [if_pos hr0] at hap
      simp (disch:=((try simp only [lZ]); omega)) only [aZ,aM,kr,kb,hbl,hap,tk]
      obtain ⟨T,hTe⟩ : ∃ T : List Blk,T=((⟨0,[.v (.int .i64 (p.bs.getD b b0).fr),.v (.int .i64 (p.bs.getD b b0).ot),.v (.int .i64 (p.bs.getD b b0).to),.v (.int .i64 (p.bs.getD b b0).ln)]⟩ : Blk) :: ⟨0,ints (zeros p.mt)⟩ :: ⟨0,[.sl (K.length+1) 0 1 0 p.mt,.lp (K.length+3) 0 0]⟩ :: (G++[⟨0,[.sl (K.length+1) 0 1 0 p.mt,.lp (K.length+3) 0 0]⟩])):=⟨_,rfl⟩
      have hT : ∀ q,q < p.rl b→blkAt T (4+q) 0=some (ints (zeros p.mt)):=fun q hq=>by
        rw [hTe,show 4+q=(1+q)+3 by omega]
        show blkAt (G++_) (1+q) 0=_
        rw [blkAt_app _ _ _ _ (blkAt_lt (q1 q hq))]; exact q1 q hq
      have hT0 : blkAt T 3 0=some (belC (p.rl b) p.mt 0 (fun q=>(K.length+(4+q),0))):=by
        rw [hTe]
        show blkAt (G++_) 0 0=_
        rw [blkAt_app _ _ _ _ (blkAt_lt q0),q0]
        congr 2
        funext q
        simp only [newA]; congr 1; omega
      have hN:=hP.addT T (by rw [hTe]; rfl) (fun _=>⟨hT0,hT⟩)
      have hg:=gr_t (K:=K) (T:=T) (B1:=⟨(ad .bel).2+1,belsK p (b+1) (adT ad K.length b)⟩) (B2:=⟨0,rootK p p.ms.length (b+1) (adT ad K.length b)⟩) (hP.hi .bel rfl) (hP.hi .root rfl)
      clear hT hT0
      subst hTe
      rw [hr] at hN hg
      refine ⟨(b+1,adT ad K.length b,_),⟨by simp only; omega,hN,hr,gr0 _ _ hG hg,pa0 _ _ _ hB hg⟩,by simp only; omega,?_⟩
      unfold rootK slA
      simp only [adT]
      try simp (disch:=((try simp only [lZ]); omega)) only [aZ,aM]
      exact Cut.fg (by simp (disch:=first | omega | simp (disch:=omega) only [aG,aM]) only [fZ,aM,fgl_nil,fgl_cons,or_true,true_or])
    · have hrl : p.rl b=0:=by unfold Pl.rl; omega
      rw [hrl,if_neg (by omega)] at hap
      have hN:=hP.addT [⟨0,[.v (.int .i64 (p.bs.getD b b0).fr),.v (.int .i64 (p.bs.getD b b0).ot),.v (.int .i64 (p.bs.getD b b0).to),.v (.int .i64 (p.bs.getD b b0).ln)]⟩,⟨0,ints (zeros p.mt)⟩,⟨0,[.sl (K.length+1) 0 1 0 p.mt,.v (.pointer none)]⟩,⟨0,[.sl (K.length+1) 0 1 0 p.mt,.v (.pointer none)]⟩] rfl (fun hc=>by omega)
      have hg:=gr_t (K:=K) (T:=[⟨0,[.v (.int .i64 (p.bs.getD b b0).fr),.v (.int .i64 (p.bs.getD b b0).ot),.v (.int .i64 (p.bs.getD b b0).to),.v (.int .i64 (p.bs.getD b b0).ln)]⟩,⟨0,ints (zeros p.mt)⟩,⟨0,[.sl (K.length+1) 0 1 0 p.mt,.v (.pointer none)]⟩,⟨0,[.sl (K.length+1) 0 1 0 p.mt,.v (.pointer none)]⟩]) (B1:=⟨(ad .bel).2+1,belsK p (b+1) (adT ad K.length b)⟩) (B2:=⟨0,rootK p p.ms.length (b+1) (adT ad K.length b)⟩) (hP.hi .bel rfl) (hP.hi .root rfl)
      rw [hr] at hN hg
      simp (disch:=((try simp only [lZ]); omega)) only [aZ,aM,kr,kb,hbl,hap,tk]
      refine ⟨(b+1,adT ad K.length b,_),⟨by simp only; omega,hN,hr,gr0 _ _ hG hg,pa0 _ _ _ hB hg⟩,by simp only; omega,?_⟩
      unfold rootK slA
      simp only [adT]
      try simp (disch:=((try simp only [lZ]); omega)) only [aZ,aM]
      exact Cut.fg (by simp (disch:=first | omega | simp (disch:=omega) only [aG,aM]) only [fZ,aM,fgl_nil,fgl_cons,or_true,true_or])
  have hke : b=p.bs.length:=by omega
  subst hke
  have hlo:=fun c hc=>hP.hi c hc
  have hzr:=hP.zr
  obtain ⟨hget,hinj,_,_⟩:=hP
  rw [usK_all] at hget hinj hlo
  simp (disch:=((try simp only [lZ]); omega)) only [aZ,aM,r_plant_New]
  have hm:=(pcheck_ok hpc).mt1.2.2
  have e1 : (rootK p p.ms.length p.bs.length ad).set 4 (.sl (ad .bef).1 (ad .bef).2 1 0 p.ms.length)=rootC p ad:=by
    unfold rootC
    rw [hm]; rfl
  have hset : ∀ c,usd p c=true→c≠.root→blkAt (K.set r ⟨0,rootC p ad⟩) (ad c).1 (ad c).2=some (ctK p p.ms.length p.bs.length ad c):=fun c hc hn=>by
    rw [blkAt_set_ne _ _ _ _ _ (fun he=>hn (hinj c .root hc rfl (he.trans hr.symm)))]; exact hget c hc
  have P1 : PM (K.set r ⟨0,rootC p ad⟩) p ad (newS p):=by
    refine ⟨fun c hc=>?_,hinj,hzr⟩
    cases c with
    | root=>rw [hr,hzr.1]; exact blkAt_set_same _ _ _ _ lr
    | _=>exact hset _ hc (by simp)
  have hc:=Cut.cellS (n0:=H.length) (e:=[.tup [.lp r 0 0,.v (.int .i64 0)]]) r 0 4 kr rfl n1
  rw [e1] at hc
  have h1:=hlo .root rfl
  rw [hr] at h1
  refine ⟨_,K.set r ⟨0,rootC p ad⟩,hc,ad,by rw [hr],P1,hG.trans (Gr.set (F:=one r) _ _ _ rfl) fun i hi hf=>?_,fun c hc=>Nat.le_of_lt (hlo c hc)⟩
  have : i=r:=hf
  omega
end Go.Proofs.Ytdkoindoljngmaa
namespace Go.Proofs.Ytdkoindoljngmaa
open Go Go.Lft
set_option linter.unusedSimpArgs false
set_option linter.unusedVariables false
def slt (p : Pl) (s : Sy) (i : Nat) : Nat→List Int
  | 0=>s.fst i
  | k+1=>s.rng i ((s.pos i+k) % p.rl i)
theorem out_slt (p : Pl) (s : Sy) (i : Nat) : outM p s i=slt p s i (p.rl i):=by
  unfold outM Pl.nxt
  cases h : p.rl i with
  | zero=>rfl
  | succ r=>rw [if_pos (by omega)]; simp only [slt,h]; rfl
theorem mod_shift {a r k : Nat} (h1 : 0 < k) (h2 : k < r) : ((a+r - 1) % r+k) % r=(a+(k - 1)) % r:=by
  rw [Nat.mod_add_mod,show a+r - 1+k=a+(k - 1)+r by omega,Nat.add_mod_right]
theorem mod_off {a r k : Nat} (h1 : 0 < k) (h2 : k < r) : ((a+r - 1) % r+k) % r≠(a+r - 1) % r:=by
  have h3 : (a+r - 1) % r < r:=Nat.mod_lt _ (by omega)
  generalize (a+r - 1) % r=b at *
  intro hc
  by_cases h : b+k < r
  · rw [Nat.mod_eq_of_lt h] at hc; omega
  · rw [Nat.mod_eq_sub_mod (by omega),Nat.mod_eq_of_lt (by omega)] at hc; omega
theorem mvA_slt (p : Pl) (s : Sy) (i j k : Nat) (hk : k≤p.rl j) : slt p (mvA p s i) j k=if j=i then (if k=0 then zeros p.mt else slt p s i (k - 1)) else slt p s j k:=by
  by_cases e : j=i
  · subst e
    rw [if_pos rfl]
    cases k with
    | zero=>simp [slt,mvA,mov_fst,updF_same]
    | succ k =>
      rw [if_neg (by omega)]
      have hr : 0 < p.rl j:=by omega
      have e1 : (mvA p s j).pos j=p.nxt s j:=by simp only [mvA,movS]; rw [if_pos hr]; simp only [rolS,updF_same]; rfl
      have e2 : (mvA p s j).rng j=updF (s.rng j) (p.nxt s j) (s.fst j):=by simp only [mvA,movS]; rw [if_pos hr]; simp only [rolS,updF_same]; rfl
      simp only [slt,e1,e2]
      have hn : p.nxt s j < p.rl j:=Nat.mod_lt _ hr
      cases k with
      | zero=>simp only [Nat.add_zero,Nat.mod_eq_of_lt hn,updF_same]; rfl
      | succ k =>
        unfold Pl.nxt
        rw [updF_ne _ _ (mod_off (by omega) (by omega)),mod_shift (by omega) (by omega)]
        rfl
  · rw [if_neg e]
    have e0 : (mvA p s i).fst j=s.fst j:=by simp only [mvA,mov_fst]; rw [updF_ne _ _ e]
    have e1 : (mvA p s i).pos j=s.pos j:=by
      simp only [mvA,movS]; split
      · simp only [rolS,empS]; rw [updF_ne _ _ e]
      · rfl
    have e2 : (mvA p s i).rng j=s.rng j:=by
      simp only [mvA,movS]; split
      · simp only [rolS,empS]; rw [updF_ne _ _ e]
      · rfl
    cases k with
    | zero=>exact e0
    | succ k=>simp only [slt,e1,e2]
theorem mvK_slt (p : Pl) (s : Sy) (i k : Nat) (hk : k≤p.rl i) : ∀ j,slt p (mvK p s j) i k=if i < j then (if k=0 then zeros p.mt else slt p s i (k - 1)) else slt p s i k
  | 0=>by simp [mvK]
  | j+1=>by
    simp only [mvK]
    rw [mvA_slt _ _ _ _ _ hk]
    by_cases e : i=j
    · subst e
      rw [if_pos rfl]
      by_cases h0 : k=0
      · simp [h0]
      · have:=mvK_slt p s i (k - 1) (by omega) i
        simp only [h0,if_false,this]; simp
    · rw [if_neg e,mvK_slt p s i k hk j]
      by_cases h : i < j
      · simp [h,show i < j+1 by omega]
      · simp [h,show ¬ i < j+1 by omega]
theorem mvK_out (p : Pl) (s : Sy) (j : Nat) : outM p (mvK p s j) j=outM p s j:=by
  rw [out_slt,out_slt,mvK_slt _ _ _ _ (Nat.le_refl _),if_neg (by omega)]
def arrK (p : Pl) (s : Sy) (m k : Nat) : List Int:=tb p.mt fun x=>(s.bef m).getD x 0+sm k fun i=>if tpS p i=m then (outM p s i).getD x 0 else 0
def arrL (p : Pl) (s : Sy) (m : Nat) : List Int:=arrK p s m p.bs.length
theorem mvK_bef {p : Pl} (ok : POk p) {s : Sy} (h : Gd p s) {m : Nat} (hm : m < p.ms.length) : ∀ k,k≤p.bs.length→(mvK p s k).bef m=arrK p s m k
  | 0,_=>by
    have hl:=(h.bl m hm).1
    unfold arrK
    simp only [mvK,sm]
    refine eq_of_getB 0 (by rw [tb_len,hl]) fun x hx=>?_
    rw [tb_get _ _ _ (by omega)]; omega
  | k+1,hk=>by
    have ih:=mvK_bef ok h hm k (by omega)
    have ho:=((h.ok).out (i:=k) (by omega)).1
    simp only [mvK,mvA]
    rw [mvK_out]
    by_cases e : m=tpS p k
    · rw [← e,updF_same,ih]
      unfold arrK
      rw [tb_plus]
      refine tb_ext fun x hx=>?_
      simp only [sm]; rw [if_pos e.symm]; omega
    · rw [updF_ne _ _ e,ih]
      unfold arrK
      refine tb_ext fun x hx=>?_
      simp only [sm]; rw [if_neg (fun hc=>e hc.symm)]; omega
def runs (p : Pl) (s : Sy) (m : Nat) : Prop:=¬ (outsN (p.ms.getD m [])=0∨s.hal.getD m false=true)
instance (p : Pl) (s : Sy) (m : Nat) : Decidable (runs p s m):=inferInstanceAs (Decidable (¬ _))
theorem dsK_bef (p : Pl) (s : Sy) (m : Nat) : ∀ k,(dsK p s k).bef m=if m < k∧runs p s m then zeros p.mt else s.bef m
  | 0=>by rw [if_neg (by omega)]; rfl
  | k+1=>by
    have ih:=dsK_bef p s m k
    have hh:=(dsK_hal (p:=p) s k).1
    simp only [dsK,disA]
    rw [hh]
    split
    · rename_i hc
      rw [ih]
      by_cases e : m=k
      · subst e; rw [if_neg (by omega),if_neg (fun h=>h.2 hc)]
      · by_cases h : m < k∧runs p s m
        · rw [if_pos h,if_pos ⟨by omega,h.2⟩]
        · rw [if_neg h,if_neg (fun h2=>h ⟨by omega,h2.2⟩)]
    · rename_i hc
      simp only [disS]
      by_cases e : m=k
      · subst e; rw [updF_same,if_pos ⟨by omega,hc⟩]
      · rw [updF_ne _ _ e]
        show (dsK p s k).bef m=_
        rw [ih]
        by_cases h : m < k∧runs p s m
        · rw [if_pos h,if_pos ⟨by omega,h.2⟩]
        · rw [if_neg h,if_neg (fun h2=>h ⟨by omega,h2.2⟩)]
def prtL (p : Pl) (m : Nat) (l : List Int) (o : Nat) : List Int:=(msM (p.ms.getD m []) l).getD o []
def frS (p : Pl) (i : Nat) : Nat:=(p.bs.getD i b0).fr.toNat
def otS (p : Pl) (i : Nat) : Nat:=(p.bs.getD i b0).ot.toNat
theorem dsK_fsts {p : Pl} (ok : POk p) (s : Sy) {i : Nat} (hi : i < p.bs.length) : ∀ k,(dsK p s k).fst i=if frS p i < k∧runs p s (frS p i) then prtL p (frS p i) (s.bef (frS p i)) (otS p i) else s.fst i
  | 0=>by rw [if_neg (by omega)]; rfl
  | k+1=>by
    have ih:=dsK_fsts ok s hi k
    have hh:=(dsK_hal (p:=p) s k).1
    have hb:=ok.bt _ (mem_get b0 hi)
    have hf : (p.bs.getD i b0).fr=(frS p i : Int):=by unfold frS; omega
    simp only [dsK,disA]
    rw [hh]
    split
    · rename_i hc
      rw [ih]
      by_cases e : frS p i=k
      · rw [if_neg (by omega),if_neg (fun h=>h.2 (by rw [e]; exact hc))]
      · by_cases h : frS p i < k∧runs p s (frS p i)
        · rw [if_pos h,if_pos ⟨by omega,h.2⟩]
        · rw [if_neg h,if_neg (fun h2=>h ⟨by omega,h2.2⟩)]
    · rename_i hc
      simp only [disS,disK]
      by_cases e : frS p i=k
      · rw [if_pos ⟨by omega,by rw [← e]; exact hb.2.2.2.1⟩,if_pos ⟨by omega,by rw [e]; exact hc⟩]
        unfold prt prtL
        rw [e,dsK_bef,if_neg (by omega)]; rfl
      · rw [if_neg (fun h=>e (by omega)),ih]
        by_cases h : frS p i < k∧runs p s (frS p i)
        · rw [if_pos h,if_pos ⟨by omega,h.2⟩]
        · rw [if_neg h,if_neg (fun h2=>h ⟨by omega,h2.2⟩)]
theorem dsK_rng (p : Pl) (s : Sy) : ∀ k,(dsK p s k).rng=s.rng∧(dsK p s k).pos=s.pos
  | 0=>⟨rfl,rfl⟩
  | k+1=>by
    have ih:=dsK_rng p s k
    simp only [dsK,disA]
    split
    · exact ih
    · exact ih
theorem runs_mvK (p : Pl) (s : Sy) (k m : Nat) : runs p (mvK p s k) m=runs p s m:=by unfold runs; rw [(mvK_hal p s k).1]
theorem stp_bef {p : Pl} (ok : POk p) {s : Sy} (h : Gd p s) {m : Nat} (hm : m < p.ms.length) : (stpS p s).bef m=if runs p s m then zeros p.mt else arrL p s m:=by
  unfold stpS arrL
  rw [dsK_bef,mvK_bef ok h hm _ (Nat.le_refl _)]
  simp only [runs_mvK]
  by_cases hr : runs p s m
  · rw [if_pos ⟨hm,hr⟩,if_pos hr]
  · rw [if_neg (fun h=>hr h.2),if_neg hr]
theorem fr_lt {p : Pl} (ok : POk p) {i : Nat} (hi : i < p.bs.length) : frS p i < p.ms.length:=by
  have:=ok.bt _ (mem_get b0 hi)
  unfold frS; omega
theorem stp_slt0 {p : Pl} (ok : POk p) {s : Sy} (h : Gd p s) {i : Nat} (hi : i < p.bs.length) : slt p (stpS p s) i 0=if runs p s (frS p i) then prtL p (frS p i) (arrL p s (frS p i)) (otS p i) else zeros p.mt:=by
  have hf:=fr_lt ok hi
  show (stpS p s).fst i=_
  unfold stpS arrL
  rw [dsK_fsts ok _ hi,mvK_bef ok h hf _ (Nat.le_refl _),mvK_fst]
  simp only [runs_mvK]
  by_cases hr : runs p s (frS p i)
  · rw [if_pos ⟨hf,hr⟩,if_pos hr]
  · rw [if_neg (fun h=>hr h.2),if_neg hr,if_pos hi]
theorem stp_sltS {p : Pl} {s : Sy} {i k : Nat} (hi : i < p.bs.length) (hk : k < p.rl i) : slt p (stpS p s) i (k+1)=slt p s i k:=by
  have h1:=mvK_slt p s i (k+1) (by omega) p.bs.length
  rw [if_pos hi,if_neg (by omega),Nat.add_sub_cancel] at h1
  rw [← h1]
  obtain ⟨e1,e2⟩:=dsK_rng p (mvK p s p.bs.length) p.ms.length
  simp only [slt,stpS,e1,e2]
theorem sm_front (n : Nat) (f : Nat→Int) : sm (n+1) f=f 0+sm n fun k=>f (k+1):=by
  induction n with
  | zero=>simp [sm]
  | succ n ih=>rw [show sm (n+1+1) f=sm (n+1) f+f (n+1) from rfl,ih]; simp only [sm]; omega
theorem sm_rot1 (n : Nat) (g : Nat→Int) : sm n (fun k=>g ((1+k) % n))=sm n g:=by
  cases n with
  | zero=>rfl
  | succ m =>
    rw [sm_front m g]
    simp only [sm]
    rw [show (1+m) % (m+1)=0 by rw [Nat.add_comm,Nat.mod_self],Int.add_comm]
    congr 1
    exact sm_congr fun k hk=>by rw [Nat.mod_eq_of_lt (by omega),Nat.add_comm]
theorem sm_rot (n : Nat) (f : Nat→Int) : ∀ c,sm n (fun k=>f ((c+k) % n))=sm n f
  | 0=>sm_congr fun k hk=>by rw [Nat.zero_add,Nat.mod_eq_of_lt hk]
  | c+1=>by
    rw [← sm_rot n f c,← sm_rot1 n fun k=>f ((c+k) % n)]
    refine sm_congr fun k hk=>?_
    rw [Nat.add_mod_mod]; congr 2; omega
theorem inB_slt (p : Pl) (s : Sy) (x i : Nat) : inB p s x i=sm (p.rl i+1) fun k=>(slt p s i k).getD x 0:=by
  rw [sm_front]
  unfold inB
  congr 1
  exact (sm_rot (p.rl i) (fun q=>(s.rng i q).getD x 0) (s.pos i)).symm
structure Eqv (p : Pl) (s t : Sy) : Prop where
  bef : ∀ m,m < p.ms.length→s.bef m=t.bef m
  slt : ∀ i,i < p.bs.length→∀ k,k≤p.rl i→slt p s i k=slt p t i k
  hal : s.hal=t.hal
  fed : s.fed=t.fed
theorem Eqv.refl (p : Pl) (s : Sy) : Eqv p s s:=⟨fun _ _=>rfl,fun _ _ _ _=>rfl,rfl,rfl⟩
theorem Eqv.symm {p : Pl} {s t : Sy} (h : Eqv p s t) : Eqv p t s:=⟨fun m hm=>(h.bef m hm).symm,fun i hi k hk=>(h.slt i hi k hk).symm,h.hal.symm,h.fed.symm⟩
theorem Eqv.trans {p : Pl} {s t u : Sy} (h : Eqv p s t) (g : Eqv p t u) : Eqv p s u:=⟨fun m hm=>(h.bef m hm).trans (g.bef m hm),fun i hi k hk=>(h.slt i hi k hk).trans (g.slt i hi k hk),h.hal.trans g.hal,h.fed.trans g.fed⟩
theorem Eqv.arr {p : Pl} {s t : Sy} (h : Eqv p s t) {m : Nat} (hm : m < p.ms.length) : arrL p s m=arrL p t m:=by
  unfold arrL arrK
  refine tb_ext fun x _=>?_
  rw [h.bef m hm]
  congr 1
  refine sm_congr fun i hi=>?_
  rw [out_slt,out_slt,h.slt i hi _ (Nat.le_refl _)]
theorem Eqv.runs {p : Pl} {s t : Sy} (h : Eqv p s t) (m : Nat) : runs p s m=runs p t m:=by unfold Go.Proofs.Ytdkoindoljngmaa.runs; rw [h.hal]
theorem Eqv.stp {p : Pl} (hp : pcheck p=0) {s t : Sy} (hs : Gd p s) (ht : Gd p t) (h : Eqv p s t) : Eqv p (stpS p s) (stpS p t):=by
  have ok:=pcheck_ok hp
  refine ⟨fun m hm=>?_,fun i hi k hk=>?_,?_,?_⟩
  · rw [stp_bef ok hs hm,stp_bef ok ht hm,h.arr hm]; simp only [h.runs m]
  · cases k with
    | zero=>rw [stp_slt0 ok hs hi,stp_slt0 ok ht hi,h.arr (fr_lt ok hi)]; simp only [h.runs (frS p i)]
    | succ k=>rw [stp_sltS hi (by omega),stp_sltS hi (by omega)]; exact h.slt i hi k (by omega)
  · rw [(hs.stp hp).2.2.1,(ht.stp hp).2.2.1,h.hal]
  · rw [(hs.stp hp).2.2.2,(ht.stp hp).2.2.2,h.fed]
theorem Eqv.it {p : Pl} (hp : pcheck p=0) {s t : Sy} (hs : Gd p s) (ht : Gd p t) (h : Eqv p s t) : ∀ k,Eqv p (itS p s k) (itS p t k)
  | 0=>h
  | k+1=>Eqv.stp hp (hs.it hp k).1 (ht.it hp k).1 (Eqv.it hp hs ht h k)
theorem Eqv.ins {p : Pl} {s t : Sy} (h : Eqv p s t) (x : Nat) : insT p s x=insT p t x:=by
  unfold insT
  congr 1
  · exact sm_congr fun m hm=>by unfold inM; rw [h.bef m hm]
  · exact sm_congr fun i hi => by
      rw [inB_slt,inB_slt]
      exact sm_congr fun k hk=>by rw [h.slt i hi k (by omega)]
theorem Eqv.insL {p : Pl} {s t : Sy} (h : Eqv p s t) : insL p s=insL p t:=tb_ext fun x _=>h.ins x
theorem Eqv.tot {p : Pl} {s t : Sy} (h : Eqv p s t) (x : Nat) : tot p s x=tot p t x:=by
  unfold Go.Proofs.Ytdkoindoljngmaa.tot
  have h1 : befT p s x=befT p t x:=sm_congr fun m hm=>by rw [h.bef m hm]
  have h2 : ∀ u : Sy,fstT p u x+rngT p u x=sm p.bs.length (inB p u x):=fun u=>by
    unfold fstT rngT; rw [← sm_add]; exact sm_congr fun i _=>rfl
  have h3:=h2 s
  have h4:=h2 t
  have h5 : sm p.bs.length (inB p s x)=sm p.bs.length (inB p t x):=sm_congr fun i hi=>by
    rw [inB_slt,inB_slt]
    exact sm_congr fun k hk=>by rw [h.slt i hi k (by omega)]
  omega
theorem sm_zero_all {n : Nat} {f : Nat→Int} (h : ∀ i,i < n→0≤f i) (hz : sm n f=0) {i : Nat} (hi : i < n) : f i=0:=by
  have:=sm_le h hi
  have:=h i hi
  omega
theorem nil_zero {n : Nat} {l : List Int} (hl : l.length=n) (h : ∀ x,l.getD x 0=0) : l=zeros n :=
  eq_of_getB 0 (by rw [hl]; simp [zeros]) fun x _=>by rw [h x,zeros_get]
theorem emp_bef {p : Pl} {s : Sy} (h : Gd p s) (hz : ∀ x,insT p s x=0) {m : Nat} (hm : m < p.ms.length) (hb : ¬ binN p m) : s.bef m=zeros p.mt:=by
  refine nil_zero (h.bl m hm).1 fun x=>?_
  have h1:=sm_nn (inM_nn h x)
  have h2:=sm_nn (inB_nn h x)
  have h3:=hz x
  unfold insT at h3
  have h4:=sm_zero_all (inM_nn h x) (by omega) hm
  unfold inM at h4
  rwa [if_neg (show ¬ outsN (p.ms.getD m [])=0 from hb)] at h4
theorem slt_ok {p : Pl} {s : Sy} (h : Gd p s) {i k : Nat} (hi : i < p.bs.length) (hk : k≤p.rl i) : (slt p s i k).length=p.mt∧∀ x,0≤(slt p s i k).getD x 0:=by
  cases k with
  | zero=>exact h.fl i hi
  | succ k=>exact h.rl i hi _ (Nat.mod_lt _ (by omega))
theorem emp_slt {p : Pl} {s : Sy} (h : Gd p s) (hz : ∀ x,insT p s x=0) {i k : Nat} (hi : i < p.bs.length) (hk : k≤p.rl i) : slt p s i k=zeros p.mt:=by
  refine nil_zero (slt_ok h hi hk).1 fun x=>?_
  have h1:=sm_nn (inM_nn h x)
  have h2:=sm_nn (inB_nn h x)
  have h3:=hz x
  unfold insT at h3
  have h4:=sm_zero_all (inB_nn h x) (by omega) hi
  rw [inB_slt] at h4
  exact sm_zero_all (n:=p.rl i+1) (f:=fun k=>(slt p s i k).getD x 0) (fun q hq=>(slt_ok h hi (by omega)).2 x) h4 (by omega)
theorem emp_arr {p : Pl} {s : Sy} (h : Gd p s) (hz : ∀ x,insT p s x=0) {m : Nat} (hm : m < p.ms.length) : arrL p s m=s.bef m:=by
  refine eq_of_getB 0 (by unfold arrL arrK; rw [tb_len,(h.bl m hm).1]) fun x hx=>?_
  unfold arrL arrK at hx ⊢
  rw [tb_len] at hx
  rw [tb_get _ _ _ hx,sm_congr (g:=fun _=>0) fun i hi=>by rw [out_slt,emp_slt h hz hi (Nat.le_refl _),zeros_get]; split<;>rfl,sm_zero]; omega
theorem prt_zero {p : Pl} (hp : pcheck p=0) {m : Nat} (hm : m < p.ms.length) (hb : ¬ binN p m) {o : Nat} (ho : o < outsN (p.ms.getD m [])) : prtL p m (zeros p.mt) o=zeros p.mt:=by
  have hx : MixOk p.mt ((newS p).bef m):=zeros_ok _
  have h1:=prt_ok hp hm hb hx ho
  refine nil_zero h1.1 fun x=>?_
  have h2:=prt_sum hp hm hb hx x
  have h3 : ((newS p).bef m).getD x 0=0:=zeros_get _ _
  rw [h3] at h2
  exact sm_zero_all (f:=fun o=>(prt p (newS p) m o).getD x 0) (fun o ho=>((prt_ok hp hm hb hx ho).2 x).1) h2 ho
theorem emp_fix {p : Pl} (hp : pcheck p=0) {s : Sy} (h : Gd p s) (hz : ∀ x,insT p s x=0) : Eqv p (stpS p s) s:=by
  have ok:=pcheck_ok hp
  refine ⟨fun m hm=>?_,fun i hi k hk=>?_,(h.stp hp).2.2.1,(h.stp hp).2.2.2⟩
  · rw [stp_bef ok h hm]
    split
    · rename_i hr
      exact (emp_bef h hz hm fun hb=>hr (.inl hb)).symm
    · exact emp_arr h hz hm
  · rw [emp_slt h hz hi hk]
    cases k with
    | zero =>
      rw [stp_slt0 ok h hi]
      split
      · rename_i hr
        have hb : ¬ binN p (frS p i):=fun hb=>hr (.inl hb)
        have hf:=fr_lt ok hi
        have hbt:=ok.bt _ (mem_get b0 hi)
        rw [emp_arr h hz hf,emp_bef h hz hf hb]
        exact prt_zero hp hf hb (by unfold otS frS; omega)
      · rfl
    | succ k=>rw [stp_sltS hi (by omega)]; exact emp_slt h hz hi (by omega)
theorem emp_it {p : Pl} (hp : pcheck p=0) {s : Sy} (h : Gd p s) (hz : ∀ x,insT p s x=0) : ∀ k,Eqv p (itS p s k) s
  | 0=>Eqv.refl p s
  | k+1=>(Eqv.stp hp (h.it hp k).1 h (emp_it hp h hz k)).trans (emp_fix hp h hz)
theorem it_add (p : Pl) (s : Sy) (j : Nat) : ∀ k,itS p s (j+k)=itS p (itS p s j) k
  | 0=>rfl
  | k+1=>by rw [← Nat.add_assoc]; simp only [itS]; rw [it_add p s j k]
theorem run_eqv {p : Pl} (hp : pcheck p=0) {s : Sy} (h : Gd p s) {k n : Nat} (hk : k≤n) (hz : k=n∨∀ x,insT p (itS p s k) x=0) : Eqv p (itS p s k) (itS p s n):=by
  rcases hz with rfl | hz
  · exact Eqv.refl _ _
  · rw [show n=k+(n - k) by omega,it_add]
    exact (emp_it hp (h.it hp k).1 hz (n - k)).symm
def rcv (p : Pl) (s : Sy) (m : Nat) (x : Nat) : Int:=sm p.bs.length fun i=>if tpS p i=m then (outM p s i).getD x 0 else 0
theorem rcv_nn {p : Pl} {s : Sy} (h : Gd p s) (m x i : Nat) (hi : i < p.bs.length) : 0≤(if tpS p i=m then (outM p s i).getD x 0 else 0):=by
  split
  · exact ((h.ok.out hi).2 x).1
  · omega
theorem rcv_ge {p : Pl} {s : Sy} (h : Gd p s) (x : Nat) {i : Nat} (hi : i < p.bs.length) : (outM p s i).getD x 0≤rcv p s (tpS p i) x:=by
  have:=sm_le (f:=fun j=>if tpS p j=tpS p i then (outM p s j).getD x 0 else 0) (fun j hj=>rcv_nn h _ x j hj) hi
  rw [if_pos rfl] at this; exact this
theorem arr_get {p : Pl} {s : Sy} (h : Gd p s) {m : Nat} (hm : m < p.ms.length) (x : Nat) : (arrL p s m).getD x 0=(s.bef m).getD x 0+rcv p s m x:=by
  unfold arrL arrK
  by_cases hx : x < p.mt
  · rw [tb_get _ _ _ hx]; rfl
  · rw [get_out (n:=p.mt) (tb_len _ _) (by omega),get_out (h.bl m hm).1 (by omega)]
    unfold rcv
    rw [sm_congr (g:=fun _=>0) fun i hi=>by
      split
      · exact get_out (h.ok.out hi).1 (by omega)
      · rfl,sm_zero]; rfl
theorem arr_ok {p : Pl} (ok : POk p) {s : Sy} (h : Gd p s) {m : Nat} (hm : m < p.ms.length) : MixOk p.mt (arrL p s m):=by
  have:=(h.mvK ok p.bs.length (Nat.le_refl _)).1.ok.bef m hm
  rw [mvK_bef ok h hm _ (Nat.le_refl _)] at this; exact this
def binT (p : Pl) (s : Sy) (x : Nat) : Int:=sm p.ms.length fun m=>if outsN (p.ms.getD m [])=0 then (s.bef m).getD x 0 else 0
theorem tot_ins (p : Pl) (s : Sy) (x : Nat) : tot p s x=insT p s x+binT p s x:=by
  unfold tot insT binT befT
  have h1 : (sm p.ms.length fun m=>(s.bef m).getD x 0)=sm p.ms.length (inM p s x)+sm p.ms.length fun m=>if outsN (p.ms.getD m [])=0 then (s.bef m).getD x 0 else 0:=by
    rw [← sm_add]
    refine sm_congr fun m hm=>?_
    unfold inM; split<;>omega
  have h2 : fstT p s x+rngT p s x=sm p.bs.length (inB p s x):=by
    unfold fstT rngT; rw [← sm_add]; exact sm_congr fun i _=>rfl
  omega
theorem bin_stp {p : Pl} (ok : POk p) {s : Sy} (h : Gd p s) (x : Nat) : binT p (stpS p s) x=binT p s x+sm p.ms.length fun m=>if outsN (p.ms.getD m [])=0 then rcv p s m x else 0:=by
  unfold binT
  rw [← sm_add]
  refine sm_congr fun m hm=>?_
  split
  · rename_i hb
    rw [stp_bef ok h hm,if_neg (fun hr=>hr (.inl hb)),arr_get h hm]
  · rfl
theorem bin_nn {p : Pl} {s : Sy} (h : Gd p s) (x m : Nat) : 0≤(if outsN (p.ms.getD m [])=0 then rcv p s m x else 0):=by
  split
  · exact sm_nn fun i hi=>rcv_nn h m x i hi
  · omega
theorem ins_stp {p : Pl} (hp : pcheck p=0) {s : Sy} (h : Gd p s) (x : Nat) : insT p (stpS p s) x≤insT p s x∧∀ b,b < p.ms.length→binN p b→insT p (stpS p s) x≤insT p s x - rcv p s b x:=by
  have h1:=(h.stp hp).2.1 x
  rw [tot_ins,tot_ins,bin_stp (pcheck_ok hp) h] at h1
  have h2:=sm_nn (n:=p.ms.length) (f:=fun m=>if outsN (p.ms.getD m [])=0 then rcv p s m x else 0) fun m _=>bin_nn h x m
  refine ⟨by omega,fun b hb hbin=>?_⟩
  have h3:=sm_le (f:=fun m=>if outsN (p.ms.getD m [])=0 then rcv p s m x else 0) (fun m _=>bin_nn h x m) hb
  rw [if_pos (show outsN (p.ms.getD b [])=0 from hbin)] at h3
  omega
theorem ins_it {p : Pl} (hp : pcheck p=0) {s : Sy} (h : Gd p s) (x : Nat) : ∀ k j,insT p (itS p s (j+k)) x≤insT p (itS p s j) x
  | 0,j=>Int.le_refl _
  | k+1,j=>Int.le_trans (ins_stp hp (h.it hp (j+k)).1 x).1 (ins_it hp h x k j)
theorem posR_next (p : Pl) (mt : Int) (i : Nat) : ∀ j,posR p mt (nx p mt i) j=posR p mt i (j+1)
  | 0=>rfl
  | j+1=>by simp only [posR,posR_next p mt i j]
theorem farR_next (p : Pl) (mt : Int) (i : Nat) : ∀ j,farR p mt i (j+1)=lx p mt i+farR p mt (nx p mt i) j
  | 0=>by simp [farR,posR]
  | j+1=>by
    have:=farR_next p mt i j
    simp only [farR] at this ⊢
    rw [posR_next,Int.add_assoc,← Int.add_assoc,← Int.add_assoc]
    simp only [posR] at this ⊢
    omega
theorem way_next {p : Pl} (h : POk p) {mt : Int} (h0 : 0 ≤ mt) (h1 : mt < p.mat) {i : Nat} (hi : i < p.ms.length) (hb : ¬ binN p i) (hw : (wayV p mt i).2 = true) :
    (wayV p mt (nx p mt i)).2=true∧(wayV p mt i).1=(wayV p mt (nx p mt i)).1+lx p mt i∧0≤(wayV p mt (nx p mt i)).1:=by
  have hn:=(out_ok h h0 h1 hi hb).2.2.2.1
  have hn2:=h.n2
  rcases wayR_cases h h0 h1 hi with ⟨k,k1,k2,k3,k4⟩ | ⟨k1,k2⟩
  · match k,k1,k2,k3,k4 with
    | 0,_,_,k3,_=>exact (hb k3).elim
    | k+1,k1,k2,k3,k4 =>
      have c1 : ∀ j,j < k→¬ binN p (posR p mt (nx p mt i) j):=fun j hj=>by rw [posR_next]; exact k2 (j+1) (by omega)
      have c2 : binN p (posR p mt (nx p mt i) k):=by rw [posR_next]; exact k3
      have c3:=wayR_of (f:=p.ms.length) (by omega) c1 c2
      have c4:=farR_bd h h0 h1 hn k c1
      unfold wayV
      rw [k4,c3,farR_next]
      exact ⟨rfl,by simp only; omega,c4.1⟩
  · unfold wayV at hw
    rw [k2] at hw; cases hw
theorem way_far {p : Pl} (h : POk p) {mt : Int} (h0 : 0≤mt) (h1 : mt < p.mat) {i : Nat} (hi : i < p.ms.length) (hw : (wayV p mt i).2=true) : 0≤(wayV p mt i).1∧(wayV p mt i).1≤16*p.ms.length:=by
  rcases wayR_cases h h0 h1 hi with ⟨k,k1,k2,k3,k4⟩ | ⟨k1,k2⟩
  · have:=farR_bd h h0 h1 hi k k2
    unfold wayV
    rw [k4]
    simp only; omega
  · unfold wayV at hw
    rw [k2] at hw; cases hw
theorem belt_way {p : Pl} {s : Sy} {i : Nat} (hi : i < p.bs.length) (j k : Nat) : ∀ d,k+d≤p.rl i→slt p (itS p s (j+d)) i (k+d)=slt p (itS p s j) i k
  | 0,_=>rfl
  | d+1,hd=>by
    rw [← Nat.add_assoc,← Nat.add_assoc]
    simp only [itS]
    rw [stp_sltS hi (by omega)]; exact belt_way hi j k d (by omega)
theorem belt_end {p : Pl} {s : Sy} {i k : Nat} (hi : i < p.bs.length) (hk : k≤p.rl i) (j : Nat) : outM p (itS p s (j+(p.rl i - k))) i=slt p (itS p s j) i k:=by
  have:=belt_way (p:=p) (s:=s) hi j k (p.rl i - k) (by omega)
  rw [show k+(p.rl i - k)=p.rl i by omega] at this
  rw [out_slt,this]
theorem prt_main {p : Pl} (hp : pcheck p=0) {m x : Nat} (hm : m < p.ms.length) (hb : ¬ binN p m) {l : List Int} (hl : MixOk p.mt l) (hx : x < p.mt) (h1 : 1≤l.getD x 0) : 1≤(prtL p m l (mainN (p.ms.getD m []) x).toNat).getD x 0:=by
  obtain ⟨z1,z2,z3⟩:=msE_zero (msE_good hp hm hb hl)
  have ok:=pcheck_ok hp
  obtain ⟨m1,m2,m3⟩:=ok.mt1
  have hxl : x < l.length:=by rw [hl.1]; exact hx
  have hk : x < (p.ms.getD m []).length:=by have:=z1.len; omega
  have d:=divM_ok z1 z2 hk (z3 x hxl)
  obtain ⟨g1,g2,g3⟩:=mainN_ok (ok.mc _ (mem_get [] hm)) hb (k:=x) (by omega) (by omega)
  unfold prtL
  rw [msM_at _ _ (by omega) hxl]
  exact d.first (by omega)
def noH (s : Sy) : Prop:=∀ m : Nat,s.hal.getD m false=false
theorem noH_it {p : Pl} (hp : pcheck p=0) {s : Sy} (h : Gd p s) (hh : noH s) (k : Nat) : noH (itS p s k):=fun m=>by rw [(h.it hp k).2.2.1]; exact hh m
theorem way_out {p : Pl} (hc : chkP p = 0) {s : Sy} (h : Gd p s) (hh : noH s) {x : Nat} (hx : x < p.mt) : ∀ (n m j : Nat), m < p.ms.length → ¬ binN p m → (wayV p x m).1 = n → 1 ≤ (arrL p (itS p s j) m).getD x 0 →
    ∃ t b,t≤j+n∧b < p.ms.length∧binN p b∧1≤rcv p (itS p s t) b x:=by
  obtain ⟨hp,hd⟩:=chkP_ok hc
  have ok:=pcheck_ok hp
  obtain ⟨m1,m2,m3⟩:=ok.mt1
  have hdr:=(drB_iff ok).1 hd
  intro n
  induction n using Nat.strongRecOn with
  | ind n ih =>
    intro m j hm hb hn ha
    obtain ⟨o1,o2,o3,o4,o5,o6,o7⟩:=out_ok ok (mt:=x) (by omega) (by omega) hm hb
    obtain ⟨w1,w2,w3⟩:=way_next ok (mt:=x) (by omega) (by omega) hm hb (hdr m hm x (by omega))
    obtain ⟨f1,f2,f3⟩:=findB_ok o1
    have hgj:=(h.it hp j).1
    have hrl : (p.rl (outB p x m) : Int)+1=lx p x m:=by
      have : lx p x m=(p.bs.getD (outB p x m) b0).ln:=rfl
      unfold Pl.rl; omega
    have hfr : frS p (outB p x m)=m:=by unfold frS; rw [o3]; rfl
    have hot : otS p (outB p x m)=(mainN (p.ms.getD m []) x).toNat:=by
      unfold otS outB; rw [f3]
    have hto : tpS p (outB p x m)=nx p x m:=rfl
    have hs0 : 1≤(slt p (itS p s (j+1)) (outB p x m) 0).getD x 0:=by
      show 1≤(slt p (stpS p (itS p s j)) (outB p x m) 0).getD x 0
      rw [stp_slt0 ok hgj o2,hfr,if_pos,hot]
      · exact prt_main hp hm hb (arr_ok ok hgj hm) hx ha
      · rintro (h1 | h1)
        · exact hb h1
        · rw [noH_it hp h hh j m] at h1; cases h1
    have he:=belt_end (p:=p) (s:=s) o2 (Nat.zero_le _) (j+1)
    rw [← he] at hs0
    have hg2:=(h.it hp (j+1+(p.rl (outB p x m) - 0))).1
    have hr:=rcv_ge hg2 x o2
    rw [hto] at hr
    by_cases hbn : binN p (nx p x m)
    · exact ⟨j+1+(p.rl (outB p x m) - 0),nx p x m,by omega,o4,hbn,by omega⟩
    · have hq:=out_ok ok (mt:=x) (by omega) (by omega) o4 hbn
      have ha2:=arr_get hg2 o4 x
      have hbb:=(hg2.bl _ o4).2 x
      obtain ⟨t,b,t1,t2,t3,t4⟩:=ih (wayV p x (nx p x m)).1.toNat (by omega) (nx p x m) _ o4 hbn (by omega) (by omega : 1≤(arrL p (itS p s (j+1+(p.rl (outB p x m) - 0))) (nx p x m)).getD x 0)
      exact ⟨t,b,by omega,t2,t3,t4⟩
theorem mxN_ge {n : Nat} {f : Nat→Int} : ∀ {i : Nat},i < n→f i≤mxN n f:=by
  induction n with
  | zero=>intro i hi; omega
  | succ n ih =>
    intro i hi
    simp only [mxN]
    by_cases e : i=n
    · subst e; exact Int.le_max_right _ _
    · exact Int.le_trans (ih (by omega)) (Int.le_max_left _ _)
theorem hgI_ge (p : Pl) (m : Nat) (h0 : Int) : ∀ k,h0≤hgI p m h0 k∧∀ x,x < k→(heightR p m x).1≤hgI p m h0 k
  | 0=>⟨Int.le_refl _,fun x hx=>by omega⟩
  | k+1=>by
    have ih:=hgI_ge p m h0 k
    simp only [hgI]
    refine ⟨Int.le_trans ih.1 (Int.le_max_left _ _),fun x hx=>?_⟩
    by_cases e : x=k
    · subst e; exact Int.le_max_right _ _
    · exact Int.le_trans (ih.2 x (by omega)) (Int.le_max_left _ _)
theorem hgO_ge (p : Pl) {x : Nat} (hx : x < p.mt) : ∀ (n m : Nat),m < n→(heightR p m x).1≤hgO p n
  | 0,m,h=>by omega
  | n+1,m,h=>by
    simp only [hgO]
    by_cases e : m=n
    · subst e; exact (hgI_ge p m _ _).2 x hx
    · exact Int.le_trans (hgO_ge p hx n m (by omega)) (hgI_ge p n _ _).1
theorem height_way {p : Pl} (hp : pcheck p=0) {m x : Nat} (hm : m < p.ms.length) (hx : x < p.mt) (hw : (wayV p x m).2=true) : (heightR p m x).1=(wayV p x m).1:=by
  obtain ⟨m1,m2,m3⟩:=(pcheck_ok hp).mt1
  unfold heightR
  rw [if_neg (fun hc=>hc hp),if_neg (by omega),if_neg (by omega),Int.toNat_natCast,hw,if_neg (by decide)]
theorem hgI_le {p : Pl} (hc : chkP p=0) {m : Nat} (hm : m < p.ms.length) {h0 : Int} (hh : h0≤16*p.ms.length) : ∀ k,k≤p.mt→hgI p m h0 k≤16*p.ms.length
  | 0,_=>hh
  | k+1,hk=>by
    obtain ⟨hp,hd⟩:=chkP_ok hc
    have ok:=pcheck_ok hp
    obtain ⟨m1,m2,m3⟩:=ok.mt1
    have ih:=hgI_le hc hm hh k (by omega)
    have hw:=(drB_iff ok).1 hd m hm k (by omega)
    have h1:=height_way hp hm (x:=k) (by omega) hw
    have h2:=way_far ok (mt:=k) (by omega) (by omega) hm hw
    simp only [hgI]
    omega
theorem per_le {p : Pl} (hc : chkP p=0) : 0≤perP p∧perP p≤16*p.ms.length+16:=by
  have q1:=lng_bd (pcheck_ok (chkP_ok hc).1) p.bs.length (Nat.le_refl _)
  have q2 : ∀ n,n≤p.ms.length→0≤hgO p n∧hgO p n≤16*p.ms.length:=by
    intro n
    induction n with
    | zero=>intro _; simp [hgO]; omega
    | succ n ih =>
      intro hn
      exact ⟨(hgO_bd hc (n+1) hn).1,hgI_le hc (by omega) (ih (by omega)).2 _ (Nat.le_refl _)⟩
  have:=q2 p.ms.length (Nat.le_refl _)
  unfold perP; omega
theorem sm_pos {n : Nat} {f : Nat→Int} (h : ∀ i,i < n→0≤f i) (hp : 0 < sm n f) : ∃ i,i < n∧0 < f i:=by
  apply Classical.byContradiction
  intro hc
  have : sm n f=0:=by
    rw [sm_congr (g:=fun _=>0) fun i hi=>by
      have:=h i hi
      have : ¬ 0 < f i:=fun h1=>hc ⟨i,hi,h1⟩
      omega,sm_zero]
  omega
theorem per_out {p : Pl} (hc : chkP p=0) {s : Sy} (h : Gd p s) (hh : noH s) {x : Nat} (hx : 0 < insT p s x) : insT p (itS p s (perP p).toNat) x+1≤insT p s x:=by
  obtain ⟨hp,hd⟩:=chkP_ok hc
  have ok:=pcheck_ok hp
  obtain ⟨m1,m2,m3⟩:=ok.mt1
  have hdr:=(drB_iff ok).1 hd
  have hper:=per_le hc
  have hlng:=lng_bd ok p.bs.length (Nat.le_refl _)
  have hxm : x < p.mt:=by
    apply Classical.byContradiction
    intro hcx
    have e1 : sm p.ms.length (inM p s x)=0:=by
      rw [sm_congr (g:=fun _=>0) fun m hm=>by unfold inM; split; rfl; exact get_out (h.bl m hm).1 (by omega),sm_zero]
    have e2 : sm p.bs.length (inB p s x)=0:=by
      rw [sm_congr (g:=fun _=>0) fun i hi=>by
        rw [inB_slt,sm_congr (g:=fun _=>0) fun k hk=>get_out (slt_ok h hi (by omega)).1 (by omega),sm_zero],sm_zero]
    unfold insT at hx; omega
  have hhg : ∀ m,m < p.ms.length→0≤(wayV p x m).1∧(wayV p x m).1≤hgO p p.ms.length:=fun m hm=>by
    have hw:=hdr m hm x (by omega)
    have h1:=height_way hp hm hxm hw
    have h2:=hgO_ge p hxm p.ms.length m hm
    have h3:=way_far ok (mt:=x) (by omega) (by omega) hm hw
    omega
  have hln : ∀ i,i < p.bs.length→(p.rl i : Int)+1≤lngP p p.bs.length:=fun i hi=>by
    have h1:=mxN_ge (f:=fun i=>(p.bs.getD i b0).ln) hi
    have h2:=ok.bt _ (mem_get b0 hi)
    unfold lngP Pl.rl; omega
  have key : ∃ t b : Nat,(t : Int) < perP p∧b < p.ms.length∧binN p b∧1≤rcv p (itS p s t) b x:=by
    unfold insT at hx
    by_cases h1 : 0 < sm p.ms.length (inM p s x)
    · obtain ⟨m,hm,h2⟩:=sm_pos (inM_nn h x) h1
      unfold inM at h2
      by_cases hb : outsN (p.ms.getD m [])=0
      · rw [if_pos hb] at h2; omega
      · rw [if_neg hb] at h2
        have ha:=arr_get h hm x
        have hr : 0≤rcv p s m x:=sm_nn fun i hi=>rcv_nn h m x i hi
        obtain ⟨t,b,t1,t2,t3,t4⟩:=way_out hc h hh hxm (wayV p x m).1.toNat m 0 hm hb (by have:=hhg m hm; omega) (by show 1≤(arrL p s m).getD x 0; omega)
        have h3:=hhg m hm
        have h4:=out_ok ok (mt:=x) (by omega) (by omega) hm hb
        have h5:=hln _ h4.2.1
        exact ⟨t,b,by unfold perP; omega,t2,t3,t4⟩
    · have h2:=sm_nn (inM_nn h x)
      obtain ⟨i,hi,h3⟩:=sm_pos (inB_nn h x) (by omega)
      rw [inB_slt] at h3
      obtain ⟨k,hk,h4⟩:=sm_pos (fun k hk=>(slt_ok h hi (by omega)).2 x) h3
      have he:=belt_end (p:=p) (s:=s) hi (k:=k) (by omega) 0
      have hg2:=(h.it hp (0+(p.rl i - k))).1
      have hr:=rcv_ge hg2 x hi
      rw [he] at hr
      have hr1 : (slt p (itS p s 0) i k).getD x 0=(slt p s i k).getD x 0:=rfl
      have ht:=tp_lt ok hi
      have hl:=hln i hi
      by_cases hb : binN p (tpS p i)
      · exact ⟨0+(p.rl i - k),tpS p i,by have:=hhg _ ht; unfold perP; omega,ht,hb,by omega⟩
      · have ha:=arr_get hg2 ht x
        have hbb:=(hg2.bl _ ht).2 x
        have h5:=hhg _ ht
        obtain ⟨t,b,t1,t2,t3,t4⟩:=way_out hc h hh hxm (wayV p x (tpS p i)).1.toNat (tpS p i) (0+(p.rl i - k)) ht hb (by omega) (by omega)
        exact ⟨t,b,by unfold perP; omega,t2,t3,t4⟩
  obtain ⟨t,b,t1,t2,t3,t4⟩:=key
  have h1:=(ins_stp hp (h.it hp t).1 x).2 b t2 t3
  have h2:=ins_it hp h x t 0
  rw [Nat.zero_add] at h2
  have h3:=ins_it hp h x ((perP p).toNat - (t+1)) (t+1)
  rw [show t+1+((perP p).toNat - (t+1))=(perP p).toNat by omega] at h3
  have h4 : insT p (itS p s (t+1)) x=insT p (stpS p (itS p s t)) x:=rfl
  have h5 : insT p (itS p s 0) x=insT p s x:=rfl
  omega
def sumI (p : Pl) (s : Sy) : Int:=sm p.mt (insT p s)
theorem sumI_nn {p : Pl} {s : Sy} (h : Gd p s) : 0≤sumI p s:=sm_nn fun x _=>(ins_tot h x).2
theorem sm_mono {n : Nat} {f g : Nat→Int} (h : ∀ i,i < n→f i≤g i) : sm n f≤sm n g:=by
  induction n with
  | zero=>exact Int.le_refl _
  | succ n ih=>simp only [sm]; have:=ih fun i hi=>h i (by omega); have:=h n (by omega); omega
theorem sm_less {n : Nat} {f g : Nat→Int} (h : ∀ i,i < n→f i≤g i) {i : Nat} (hi : i < n) (hl : f i+1≤g i) : sm n f+1≤sm n g:=by
  induction n with
  | zero=>omega
  | succ n ih =>
    simp only [sm]
    by_cases e : i=n
    · subst e
      have:=sm_mono (n:=i) fun j hj=>h j (by omega)
      omega
    · have:=ih (fun j hj=>h j (by omega)) (by omega)
      have:=h n (by omega)
      omega
theorem sumI_it {p : Pl} (hp : pcheck p=0) {s : Sy} (h : Gd p s) (k : Nat) : sumI p (itS p s k)≤sumI p s:=sm_mono fun x _=>by
  have:=ins_it hp h x k 0
  rw [Nat.zero_add] at this; exact this
theorem sumI_per {p : Pl} (hc : chkP p=0) {s : Sy} (h : Gd p s) (hh : noH s) (hx : 0 < sumI p s) : sumI p (itS p s (perP p).toNat)+1≤sumI p s:=by
  obtain ⟨hp,_⟩:=chkP_ok hc
  obtain ⟨x,h1,h2⟩:=sm_pos (fun x _=>(ins_tot h x).2) hx
  refine sm_less (fun y _=>?_) h1 (per_out hc h hh h2)
  have:=ins_it hp h y (perP p).toNat 0
  rw [Nat.zero_add] at this; exact this
theorem sumI_bnd {p : Pl} (hc : chkP p=0) : ∀ (g : Nat) {s : Sy},Gd p s→noH s→sumI p s≤g→sumI p (itS p s (g*(perP p).toNat))=0
  | 0,s,h,hh,hg=>by
    have:=sumI_nn h
    rw [Nat.zero_mul]
    show sumI p s=0
    omega
  | g+1,s,h,hh,hg=>by
    obtain ⟨hp,_⟩:=chkP_ok hc
    rw [Nat.succ_mul,Nat.add_comm,it_add]
    have h1:=(h.it hp (perP p).toNat).1
    refine sumI_bnd hc g h1 (noH_it hp h hh _) ?_
    by_cases hx : 0 < sumI p s
    · have:=sumI_per hc h hh hx; omega
    · have:=sumI_it hp h (perP p).toNat; omega
end Go.Proofs.Ytdkoindoljngmaa
namespace Go.Proofs.Ytdkoindoljngmaa
open Go Go.Lft
set_option linter.unusedSimpArgs false
set_option linter.unusedVariables false
attribute [local congr] ob_congr bw_congr ib_congr ck_congr iwA_congr itA_congr aw_congr awp_congr sqA_congr bkA_congr vr_congr gd_congr
theorem fitE_ok {mt : Nat} {fed xs : List Int} (h : fitE mt fed xs=0) : MixOk mt xs∧∀ x,fed.getD x 0+xs.getD x 0≤1073741824∨mt≤x:=by
  have h1:=(fitE_zero h).2
  have hl:=(fitE_zero h).1
  refine ⟨h1,fun x=>?_⟩
  by_cases hx : x < mt
  · left
    unfold fitE at h
    split at h
    · cases h
    split at h
    · cases h
    split at h
    · cases h
    rename_i h3
    apply Classical.byContradiction
    intro hc
    exact h3 ⟨x,by omega,by omega⟩
  · right; omega
theorem feed_tot {p : Pl} (ok : POk p) {s : Sy} (h : Gd p s) {xs : List Int} (hx : xs.length=p.mt) (x : Nat) : tot p (feedS p s xs) x=tot p s x+xs.getD x 0:=by
  have hfd:=ok.fd
  have ht : p.fd.toNat < p.ms.length:=by omega
  have h1 : befT p (feedS p s xs) x=befT p s x+xs.getD x 0:=by
    unfold befT
    rw [sm_upd (fun m=>(s.bef m).getD x 0) (fun m=>((feedS p s xs).bef m).getD x 0) ht fun j hj _=>by simp only [feedS]; rw [updF_ne _ _ hj]]
    simp only [feedS,updF_same]
    rw [plus_get (h.bl _ ht).1 hx]; omega
  have h2 : fstT p (feedS p s xs) x=fstT p s x:=rfl
  have h3 : rngT p (feedS p s xs) x=rngT p s x:=rfl
  unfold tot; omega
def Iv (p : Pl) (s : Sy) : Prop:=Gd p s∧∀ x,tot p s x≤s.fed.getD x 0
theorem Iv.new (p : Pl) : Iv p (newS p):=⟨Gd.new p,fun x=>by rw [new_tot]; show (0 : Int)≤(zeros p.mt).getD x 0; rw [zeros_get]; exact Int.le_refl _⟩
theorem Iv.feed {p : Pl} (ok : POk p) {s : Sy} (h : Iv p s) {xs : List Int} (he : fitE p.mt s.fed xs=0) : Iv p (feedS p s xs):=by
  obtain ⟨g,hf⟩:=h
  obtain ⟨e1,e2⟩:=fitE_ok he
  have hfd:=ok.fd
  have ht : p.fd.toNat < p.ms.length:=by omega
  have hfed : ∀ x,(plusM s.fed xs).getD x 0=s.fed.getD x 0+xs.getD x 0:=fun x=>plus_get g.fd.1 e1.1 x
  have hbd : ∀ x,s.fed.getD x 0+xs.getD x 0≤1073741824:=fun x=>by
    rcases e2 x with h1 | h1
    · exact h1
    · rw [get_out g.fd.1 h1,get_out e1.1 h1]; omega
  refine ⟨⟨fun m hm=>?_,g.fl,g.rl,g.ps,g.hl,⟨by show (plusM s.fed xs).length=_; rw [plusM_len]; exact g.fd.1,fun x=>?_⟩,fun x=>?_⟩,fun x=>?_⟩
  · simp only [feedS]
    by_cases e : m=p.fd.toNat
    · rw [e,updF_same]
      have hb:=g.bl _ ht
      refine ⟨by rw [plusM_len]; exact hb.1,fun x=>?_⟩
      rw [plus_get hb.1 e1.1]
      have:=hb.2 x
      have:=(e1.2 x).1
      omega
    · rw [updF_ne _ _ e]; exact g.bl m hm
  · simp only [feedS]; rw [hfed]
    have:=hbd x
    have:=(g.fd.2 x).1
    have:=(e1.2 x).1
    omega
  · rw [feed_tot ok g e1.1]
    have:=hf x
    have:=hbd x
    omega
  · rw [feed_tot ok g e1.1]
    show _≤(plusM s.fed xs).getD x 0
    rw [hfed]
    have:=hf x
    omega
theorem take_tot {p : Pl} {s : Sy} (h : Gd p s) {m : Int} {xs : List Int} (he : takE p s m xs=0) (x : Nat) : tot p (takS s m xs) x=tot p s x - xs.getD x 0∧xs.length=p.mt∧0≤xs.getD x 0∧xs.getD x 0≤(s.bef m.toNat).getD x 0∧(m.toNat < p.ms.length∧0≤m)∧(dnM (s.bef m.toNat) xs xs.length).getD x 0=(s.bef m.toNat).getD x 0 - xs.getD x 0:=by
  unfold takE at he
  split at he
  · contradiction
  rename_i h1
  split at he
  · cases he
  rename_i h2
  split at he
  · cases he
  rename_i h3
  have hm : 0≤m∧m.toNat < p.ms.length:=by
    have h0:=Classical.not_not.1 h1
    unfold fndE at h0
    split at h0
    · cases h0
    · omega
  have hl : xs.length=p.mt:=by omega
  have hb:=h.bl _ hm.2
  have hd : (dnM (s.bef m.toNat) xs xs.length).getD x 0=(s.bef m.toNat).getD x 0 - xs.getD x 0:=by
    by_cases hx : x < p.mt
    · rw [dnM_get _ _ _ _ (by omega),if_pos (by omega)]
    · rw [get_out (n:=p.mt) (by rw [dnM_len]; exact hb.1) (by omega),get_out hb.1 (by omega),get_out hl (by omega)]; rfl
  have hxs : 0≤xs.getD x 0∧xs.getD x 0≤(s.bef m.toNat).getD x 0:=by
    by_cases hx : x < xs.length
    · have : ¬ badT (s.bef m.toNat) xs x:=fun hc=>h3 ⟨x,hx,hc⟩
      unfold badT at this; omega
    · rw [get_out rfl (by omega)]
      have:=hb.2 x
      omega
  refine ⟨?_,hl,hxs.1,hxs.2,⟨hm.2,hm.1⟩,hd⟩
  have h1 : befT p (takS s m xs) x=befT p s x - xs.getD x 0:=by
    unfold befT
    rw [sm_upd (fun m=>(s.bef m).getD x 0) (fun j=>((takS s m xs).bef j).getD x 0) hm.2 fun j hj _=>by simp only [takS]; rw [updF_ne _ _ hj]]
    simp only [takS,updF_same]
    rw [hd]; omega
  have h2 : fstT p (takS s m xs) x=fstT p s x:=rfl
  have h3 : rngT p (takS s m xs) x=rngT p s x:=rfl
  unfold tot; omega
theorem Iv.take {p : Pl} {s : Sy} (h : Iv p s) {m : Int} {xs : List Int} (he : takE p s m xs=0) : Iv p (takS s m xs):=by
  obtain ⟨g,hf⟩:=h
  have ht:=fun x=>take_tot g he x
  refine ⟨⟨fun j hj=>?_,g.fl,g.rl,g.ps,g.hl,g.fd,fun x=>?_⟩,fun x=>?_⟩
  · simp only [takS]
    by_cases e : j=m.toNat
    · rw [e,updF_same]
      have hb:=g.bl _ (ht 0).2.2.2.2.1.1
      refine ⟨by rw [dnM_len]; exact hb.1,fun x=>?_⟩
      have:=ht x
      rw [this.2.2.2.2.2]; omega
    · rw [updF_ne _ _ e]; exact g.bl j hj
  · have:=ht x
    have:=g.tt x
    omega
  · have:=ht x
    have:=hf x
    show _≤s.fed.getD x 0
    omega
theorem Iv.halt {p : Pl} {s : Sy} (h : Iv p s) (m : Int) (b : Bool) : Iv p (hltS s m b):=⟨⟨h.1.bl,h.1.fl,h.1.rl,h.1.ps,by simp only [hltS,List.length_set]; exact h.1.hl,h.1.fd,h.1.tt⟩,h.2⟩
theorem Iv.it {p : Pl} (hp : pcheck p=0) {s : Sy} (h : Iv p s) (k : Nat) : Iv p (itS p s k):=by
  obtain ⟨g1,g2,g3,g4⟩:=h.1.it hp k
  exact ⟨g1,fun x=>by rw [g2,g4]; exact h.2 x⟩
theorem run_e {H : List Blk} {p : Pl} {ad : Ad} {s : Sy} (hp : pcheck p = 0) (h : PM H p ad s) (hg : Iv p s) (n : Nat) (hn : n ≤ 100000) :
    VR P false n_plant_Plant_Run [.lp (ad .root).1 0 0,.v (.int .i64 n)] H (fun r H'=>r=.v (.int .i64 0)∧∃ (s' : Sy) (ad' : Ad),PM H' p ad' s'∧Tr p H ad H' ad'∧Iv p s'∧Eqv p s' (itS p s n)) :=
  (run_m hp h hg.1 n hn).mono fun r H' ⟨h1,k,ad',h2,h3,h4,h5⟩=>⟨h1,itS p s k,ad',h3,h4,hg.it hp k,run_eqv hp hg.1 h2 h5⟩
def feedR (p : Pl) (s : Sy) (xs : List Int) : Sy:=if fitE p.mt s.fed xs=0 then feedS p s xs else s
theorem Iv.feedR {p : Pl} (ok : POk p) {s : Sy} (h : Iv p s) (xs : List Int) : Iv p (feedR p s xs):=by
  unfold Go.Proofs.Ytdkoindoljngmaa.feedR
  split
  · rename_i he; exact h.feed ok he
  · exact h
theorem feed_s {j v : Nat} {H : List Blk} {p : Pl} {ad : Ad} {s : Sy} (hp : pcheck p = 0) (h : PM H p ad s) (hg : Iv p s) {xs : List Int} (hj : blkAt H j v = some (ints xs)) (hj2 : ¬ ftp p ad j) :
    VR P false n_plant_Plant_Feed [.lp (ad .root).1 0 0,.sl j v 1 0 xs.length] H (fun r H'=>r=.v (.int .i64 (fitE p.mt s.fed xs))∧PM H' p ad (feedR p s xs)∧Tr p H ad H' ad):=by
  unfold feedR
  by_cases he : fitE p.mt s.fed xs=0
  · rw [if_pos he,he]; exact feed_sl hp h hg.1 hj hj2 he
  · rw [if_neg he]
    exact (feed_sl_err hp h hg.1 hj hj2 he).mono fun r H' ⟨h1,h2⟩=>⟨h1,h2▸h,h2▸Tr.refl _ _⟩
def loopP : Pl:=⟨1,[[[600,400]],[[]]],[⟨0,0,1,1⟩,⟨0,1,0,2⟩],0⟩
theorem PM.nftp {H : List Blk} {p : Pl} {ad : Ad} {s : Sy} (h : PM H p ad s) {j : Nat} (hj : H.length≤j) : ¬ ftp p ad j:=by
  rintro ⟨c,hc,he⟩
  have:=h.lt hc
  omega
theorem nftp_lo {p : Pl} {ad : Ad} {n j : Nat} (h : ∀ c,usd p c=true→n≤(ad c).1) (hj : j < n) : ¬ ftp p ad j:=by
  rintro ⟨c,hc,he⟩
  have:=h c hc
  omega
def litP (p : Pl) : Prop:=p.ms.length≤12∧p.bs.length≤24
instance (p : Pl) : Decidable (litP p):=inferInstanceAs (Decidable (_∧_))
theorem sum35_vr {w : Bool} (xs : List Int) (hl : xs.length≤1000) (hb : ∀ x,0≤xs.getD x 0∧xs.getD x 0≤1073741824) : VR P false n_ref35_Total [.fs w (ints xs)] [] (isR (.v (.int .i64 (sm xs.length fun x=>xs.getD x 0)))):=by
  refine vr_ref35_Total (by simp) (.inr rfl) fun _ _=>?_
  have bd : ∀ k,k≤xs.length→0≤sm k (fun x=>xs.getD x 0)∧sm k (fun x=>xs.getD x 0)≤k*1073741824:=by
    intro k
    induction k with
    | zero=>intro _; simp [sm]
    | succ k ih =>
      intro hk
      have h1:=ih (by omega)
      have h2:=hb k
      simp only [sm]; omega
  simp (disch:=((try simp only [lZ]); omega)) only [aZ,aM,s_ref35_Total,v_ref35_Total]
  refine AWP.loopP g_ref35_Total_0 (fun k : Nat=>k≤xs.length) (fun k=>[(2,.v (.int .i64 (sm k fun x=>xs.getD x 0))),(3,.v (.int .i64 k))]) (fun _=>[]) (fun k=>xs.length - k) 0 (by omega) ?_ ?_
  · exact Cut.fg (by simp (disch:=first | omega | simp (disch:=omega) only [aG,aM]) only [fZ,aM,fgl_nil,fgl_cons,or_true,true_or,sm])
  rintro k hk
  have h1:=bd k hk
  by_cases hlt : k < xs.length
  · have h2:=hb k
    simp (disch:=((try simp only [lZ]); omega)) only [aZ,aM]
    refine ⟨k+1,by omega,by omega,?_⟩
    simp only [sm]
    try simp (disch:=((try simp only [lZ]); omega)) only [aZ,aM]
    exact Cut.fg (by simp (disch:=first | omega | simp (disch:=omega) only [aG,aM]) only [fZ,aM,fgl_nil,fgl_cons,or_true,true_or])
  · have hke : k=xs.length:=by omega
    subst hke
    simp (disch:=((try simp only [lZ]); omega)) only [aZ,aM,r_ref35_Total]
    exact post_v ⟨rfl,rfl⟩
theorem Eqv.sumI {p : Pl} {s t : Sy} (h : Eqv p s t) : sumI p s=sumI p t:=sm_congr fun x _=>h.ins x
theorem noH_new (p : Pl) : noH (newS p):=fun m=>by
  simp only [newS,List.getD_eq_getElem?_getD,List.getElem?_replicate]
  split<;>rfl
theorem noH_eqv {p : Pl} {s t : Sy} (h : Eqv p s t) (ht : noH t) : noH s:=fun m=>by rw [h.hal]; exact ht m
theorem noH_feed {p : Pl} {s : Sy} (xs : List Int) (h : noH s) : noH (feedR p s xs):=by
  unfold feedR; split<;>exact h

structure Two (K : List Blk) (p : Pl) (a : Ad) (s : Sy) (b : Ad) (t : Sy) : Prop where
  l : PM K p a s
  r : PM K p b t
  d : ∀ i,ftp p a i→¬ ftp p b i
theorem ftp_lt {K : List Blk} {p : Pl} {a : Ad} {s : Sy} (h : PM K p a s) {i : Nat} (hi : ftp p a i) : i < K.length:=by
  obtain ⟨c,hc,rfl⟩:=hi; exact h.lt hc
theorem Two.swap {K : List Blk} {p : Pl} {a b : Ad} {s t : Sy} (h : Two K p a s b t) : Two K p b t a s:=⟨h.r,h.l,fun i hb ha=>h.d i ha hb⟩
theorem Two.left {K K' : List Blk} {p : Pl} {a b a' : Ad} {s t s' : Sy} (h : Two K p a s b t) (hP : PM K' p a' s') (hT : Tr p K a K' a') : Two K' p a' s' b t :=
  ⟨hP,h.r.gr hT.1 fun c hc hf=>h.d _ hf ⟨c,hc,rfl⟩,fun i ha hb=>by
    rcases hT.2.1 i ha with h1 | h1
    · have:=ftp_lt h.r hb; omega
    · exact h.d i h1 hb⟩
theorem Two.right {K K' : List Blk} {p : Pl} {a b b' : Ad} {s t t' : Sy} (h : Two K p a s b t) (hP : PM K' p b' t') (hT : Tr p K b K' b') : Two K' p a s b' t':=(h.swap.left hP hT).swap
theorem Two.gr {K K' : List Blk} {p : Pl} {a b : Ad} {s t : Sy} (h : Two K p a s b t) (g : Gr nof K K') : Two K' p a s b t:=⟨h.l.gr g fun _ _ h=>h,h.r.gr g fun _ _ h=>h,h.d⟩
theorem Eqv.feedR {p : Pl} (ok : POk p) {s t : Sy} (h : Eqv p s t) (xs : List Int) : Eqv p (feedR p s xs) (feedR p t xs):=by
  unfold Go.Proofs.Ytdkoindoljngmaa.feedR
  rw [h.fed]
  split
  · have hfd:=ok.fd
    refine ⟨fun m hm=>?_,h.slt,h.hal,?_⟩
    · simp only [feedS]
      by_cases e : m=p.fd.toNat
      · rw [e,updF_same,updF_same,h.bef _ (by omega)]
      · rw [updF_ne _ _ e,updF_ne _ _ e]; exact h.bef m hm
    · simp only [feedS,h.fed]
  · exact h
structure Op where
  k : Int
  m : Int
  n : Int
  mx : List Int
def opC (o : Op) : List A:=[.v (.int .i64 o.k),.v (.int .i64 o.m),.v (.int .i64 o.n),.fs true (ints o.mx)]
def opA (o : Op) : A:=.agg (opC o)
def ops (l : List Op) : List A:=l.map opA
end Go.Proofs.Ytdkoindoljngmaa
namespace Go.Proofs.Ytdkoindoljngmaa
open Go Go.Lft
set_option linter.unusedSimpArgs false
set_option linter.unusedVariables false

end Go.Proofs.Ytdkoindoljngmaa
namespace Go.Proofs.Ytdkoindoljngmaa
open Go Go.Lft
set_option linter.unusedSimpArgs false
set_option linter.unusedVariables false
attribute [local congr] ob_congr bw_congr ib_congr ck_congr iwA_congr itA_congr aw_congr awp_congr sqA_congr bkA_congr vr_congr gd_congr
def tbK (n : Nat) (f : Nat→Int) (k : Nat) : List Int:=tb n fun x=>if x < k then f x else 0
theorem tbK_len (n : Nat) (f : Nat→Int) (k : Nat) : (tbK n f k).length=n:=tb_len _ _
theorem tbK_zero (n : Nat) (f : Nat→Int) : tbK n f 0=zeros n:=by rw [tb_zero]; exact tb_ext fun x _=>by simp
theorem tbK_set (n : Nat) (f : Nat→Int) (k : Nat) (h : k < n) : (tbK n f k).set k (f k)=tbK n f (k+1):=by
  refine eq_of_getB 0 (by simp [tbK_len]) fun i hi=>?_
  simp only [List.length_set,tbK_len] at hi
  unfold tbK
  rw [getD_seti,tb_get _ _ _ hi,tb_get _ _ _ hi,tb_len]
  by_cases hik : i=k
  · subst hik; rw [if_pos ⟨rfl,h⟩,if_pos (by omega)]
  · rw [if_neg (fun hc=>hik hc.1.symm)]
    by_cases hlt : i < k
    · rw [if_pos hlt,if_pos (by omega)]
    · rw [if_neg hlt,if_neg (by omega)]
theorem tbK_same (n : Nat) (f : Nat→Int) (k : Nat) (h : k < n) (hz : f k=0) : tbK n f k=tbK n f (k+1):=by
  refine tb_ext fun x _=>?_
  by_cases hx : x=k
  · subst hx; rw [if_neg (by omega),if_pos (by omega),hz]
  · by_cases hlt : x < k
    · rw [if_pos hlt,if_pos (by omega)]
    · rw [if_neg hlt,if_neg (by omega)]
theorem tbK_all (n : Nat) (f : Nat→Int) : tbK n f n=tb n f:=tb_ext fun x hx=>by rw [if_pos hx]
theorem fit_small {mt : Nat} (h16 : mt≤16) {fed : List Int} {f : Nat→Int} {c bd : Int} (hf : ∀ x,x < mt→0≤f x∧f x≤c) (hb : ∀ x,fed.getD x 0≤bd) (h : bd+c≤1073741824∧c≤1073741824) : fitE mt fed (tb mt f)=0:=by
  unfold fitE
  rw [if_neg (by rw [tb_len]; omega),if_neg,if_neg]
  · rintro ⟨i,hi,h3⟩
    rw [tb_len] at hi
    rw [tb_get _ _ _ hi] at h3
    have:=hf i hi
    have:=hb i
    omega
  · refine fun hc=>hc (mixE_ok.2 ⟨by rw [tb_len]; exact h16,fun x hx=>?_⟩)
    obtain ⟨i,hi,rfl⟩:=get_mem 0 hx
    rw [tb_len] at hi
    rw [tb_get _ _ _ hi]
    have:=hf i hi
    omega
structure DInv (p : Pl) (a : Ad) (s : Sy) (bd : Int) (K : List Blk) : Prop where
  pm : PM K p a s
  iv : Iv p s
  nh : noH s
  b0 : blkAt K 0 0=some [.v (.int .i64 p.mt),.fs true (mcs true p.ms),.fs true (bts p.bs),.v (.int .i64 p.fd)]
  n0 : ¬ ftp p a 0
  eq : ∀ x,tot p s x=s.fed.getD x 0
  fd : ∀ x,s.fed.getD x 0≤bd
theorem DInv.gr {p : Pl} {a : Ad} {s : Sy} {bd : Int} {K K' : List Blk} (h : DInv p a s bd K) (g : Gr nof K K') : DInv p a s bd K' :=
  ⟨h.pm.gr g fun _ _ h=>h,h.iv,h.nh,g.at h.b0 fun h=>h,h.n0,h.eq,h.fd⟩
theorem feedR_dif' {p : Pl} (ok : POk p) {s : Sy} (h : Iv p s) (xs : List Int) (x : Nat) : tot p (feedR p s xs) x - (feedR p s xs).fed.getD x 0=tot p s x - s.fed.getD x 0:=by
  unfold feedR
  split
  · rename_i he
    obtain ⟨e1,e2⟩:=fitE_ok he
    rw [feed_tot ok h.1 e1.1]
    show _ - (plusM s.fed xs).getD x 0=_
    rw [plus_get h.1.fd.1 e1.1]; omega
  · rfl
theorem DInv.feed {p : Pl} (ok : POk p) {a : Ad} {s : Sy} {bd c : Int} {K K' : List Blk} (h : DInv p a s bd K) {xs : List Int} (he : fitE p.mt s.fed xs=0) (hx : ∀ x,xs.getD x 0≤c) (hP : PM K' p a (feedR p s xs)) (hT : Tr p K a K' a) : DInv p a (feedR p s xs) (bd+c) K':=by
  have k:=hT.keep h.b0 h.n0
  refine ⟨hP,h.iv.feedR ok xs,noH_feed xs h.nh,k.1,k.2,fun x=>by have:=feedR_dif' ok h.iv xs x; have:=h.eq x; omega,fun x=>?_⟩
  unfold feedR
  rw [if_pos he]
  show (plusM s.fed xs).getD x 0≤_
  rw [plus_get h.iv.1.fd.1 (fitE_ok he).1.1]
  have:=h.fd x
  have:=hx x
  omega
theorem DInv.run {p : Pl} (hp : pcheck p=0) {a a' : Ad} {s s' : Sy} {bd : Int} {K K' : List Blk} (h : DInv p a s bd K) {n : Nat} (hP : PM K' p a' s') (hT : Tr p K a K' a') (hI : Iv p s') (hE : Eqv p s' (itS p s n)) : DInv p a' s' bd K':=by
  have k:=hT.keep h.b0 h.n0
  obtain ⟨g1,g2,g3,g4⟩:=h.iv.1.it hp n
  have ef : s'.fed=s.fed:=hE.fed.trans g4
  exact ⟨hP,hI,noH_eqv hE (noH_it hp h.iv.1 h.nh n),k.1,k.2,fun x=>by rw [hE.tot x,g2 x,ef]; exact h.eq x,fun x=>by rw [ef]; exact h.fd x⟩
theorem bins_fed {p : Pl} {s : Sy} (hg : Gd p s) (he : ∀ x,tot p s x=s.fed.getD x 0) (hz : sumI p s=0) {x : Nat} (hx : x < p.mt) : binT p s x=s.fed.getD x 0:=by
  have h1:=sm_zero_all (fun x _=>(ins_tot hg x).2) hz hx
  have h2:=tot_ins p s x
  have:=he x
  omega
theorem sm_bd {n : Nat} {f : Nat→Int} {c : Int} (h : ∀ i,i < n→0≤f i∧f i≤c) : 0≤sm n f∧sm n f≤n*c:=by
  induction n with
  | zero=>simp [sm]
  | succ n ih =>
    have h1:=ih fun i hi=>h i (by omega)
    have h2:=h n (by omega)
    simp only [sm]
    have h4 : ((n+1 : Nat) : Int)*c=n*c+c:=by rw [Int.natCast_add,Int.add_mul]; simp
    omega
theorem fnd_bin {p : Pl} {m : Nat} (hm : m < p.ms.length) : fndE p m=0↔outsN (p.ms.getD m [])=0:=by
  unfold fndE
  rw [if_neg (by omega),Int.toNat_natCast]
  by_cases h : binN p m
  · rw [if_neg (fun hc=>hc h)]; exact ⟨fun _=>h,fun _=>rfl⟩
  · rw [if_pos h]; exact ⟨fun hc=>(by cases hc),fun hc=>absurd hc h⟩
structure CInv (p : Pl) (a : Ad) (s : Sy) (tk : List Int) (T : Nat) (K : List Blk) : Prop where
  pm : PM K p a s
  iv : Iv p s
  b0 : blkAt K 0 0=some [.v (.int .i64 p.mt),.fs true (mcs true p.ms),.fs true (bts p.bs),.v (.int .i64 p.fd)]
  n0 : ¬ ftp p a 0
  bT : blkAt K T 0=some (ints tk)
  nT : ¬ ftp p a T
  T0 : 0 < T
  len : tk.length=p.mt
  sum : ∀ x,tot p s x+tk.getD x 0=s.fed.getD x 0
  nn : ∀ x,0≤tk.getD x 0
theorem CInv.grow {p : Pl} {a : Ad} {s : Sy} {tk : List Int} {T : Nat} {K : List Blk} (h : CInv p a s tk T K) (G : List Blk) : CInv p a s tk T (K++G) :=
  ⟨h.pm.grow G,h.iv,by rw [blkAt_app _ _ _ _ (blkAt_lt h.b0)]; exact h.b0,h.n0,by rw [blkAt_app _ _ _ _ (blkAt_lt h.bT)]; exact h.bT,h.nT,h.T0,h.len,h.sum,h.nn⟩
theorem CInv.step {p : Pl} {a a' : Ad} {s s' : Sy} {tk : List Int} {T : Nat} {K K' : List Blk} (h : CInv p a s tk T K) (hP : PM K' p a' s') (hI : Iv p s') (hT : Tr p K a K' a') (hd : ∀ x,tot p s' x - s'.fed.getD x 0=tot p s x - s.fed.getD x 0) : CInv p a' s' tk T K':=by
  have h1:=hT.keep h.b0 h.n0
  have h2:=hT.keep h.bT h.nT
  exact ⟨hP,hI,h1.1,h1.2,h2.1,h2.2,h.T0,h.len,fun x=>by have:=h.sum x; have:=hd x; omega,h.nn⟩
def binM (p : Pl) (s : Sy) (x m : Nat) : Int:=if outsN (p.ms.getD m [])=0 then (s.bef m).getD x 0 else 0
end Go.Proofs.Ytdkoindoljngmaa
namespace Go.Lft
open Go
theorem AWP.seq {P : Program} {n0 : Nat} {a b : S} {Q : QA} {e : List A} {H : List Blk} (h : AWP P n0 a (fun x e H=>match x with | .nxt=>AWP P n0 b Q e H | x=>Q x e H) e H) : AWP P n0 (.seq a b) Q e H:=fun c ev hH hn hs he=>by
  subst hH
  refine S.wp_mono a (fun x e' h' hq=>?_) (h c ev rfl hn hs he)
  obtain ⟨e2,d,rfl,h2,h3,h4,h5⟩:=hq
  cases x with
  | nxt=>exact S.wp_mono b (fun x e' h'' hq=>hq.up h3) (h2 d _ rfl (h3.len hn) h4 h5)
  | exit i=>exact ⟨e2,d,rfl,h2,h3,h4,h5⟩
  | ret=>exact ⟨e2,d,rfl,h2,h3,h4,h5⟩
def S.pre : Nat→S→S
  | n+1,.set i x k=>.set i x (k.pre n)
  | n+1,.chk x k=>.chk x (k.pre n)
  | n+1,.eff kp d f k=>.eff kp d f (k.pre n)
  | _,_=>.nxt
def S.post : Nat→S→S
  | n+1,.set _ _ k=>k.post n
  | n+1,.chk _ k=>k.post n
  | n+1,.eff _ _ _ k=>k.post n
  | _,s=>s
end Go.Lft
namespace Go.Proofs.Ytdkoindoljngmaa
open Go Go.Lft
set_option linter.unusedSimpArgs false
set_option linter.unusedVariables false
attribute [local congr] ob_congr bw_congr ib_congr ck_congr iwA_congr itA_congr aw_congr awp_congr sqA_congr bkA_congr vr_congr gd_congr
end Go.Proofs.Ytdkoindoljngmaa
namespace Go.Proofs.Ytdkoindoljngmaa
open Go Go.Lft
set_option linter.unusedSimpArgs false
set_option linter.unusedVariables false
attribute [local congr] ob_congr bw_congr ib_congr ck_congr iwA_congr itA_congr aw_congr awp_congr sqA_congr bkA_congr vr_congr gd_congr

theorem moment_vr (x : Int) : VR P false n_bale_moment [.v (.int .i64 x)] [] (isR (.v (.bool (decide (0≤x∧x≤3155759999))))):=by
  refine vr_bale_moment (by simp) (.inr rfl) fun _ _=>?_
  simp (disch:=((try simp only [lZ]); omega)) only [aZ,aM,aBl,s_bale_moment,v_bale_moment,r_bale_moment]
  exact post_v ⟨rfl,rfl⟩
end Go.Proofs.Ytdkoindoljngmaa
namespace Go.Proofs.Ytdkoindoljngmaa
open Go Go.Lft
set_option linter.unusedSimpArgs false
set_option linter.unusedVariables false
def subM (a b : List Int) : List Int:=(List.range a.length).map fun i=>a.getD i 0 - b.getD i 0
theorem subM_len (a b : List Int) : (subM a b).length=a.length:=by simp [subM]
theorem subM_get (a b : List Int) (i : Nat) (h : i < a.length) : (subM a b).getD i 0=a.getD i 0 - b.getD i 0:=by simp [subM,List.getD_eq_getElem?_getD,h]
theorem sum_subM : ∀ (a b : List Int),a.length=b.length→(subM a b).sum=a.sum - b.sum
  | [],[],_=>by simp [subM]
  | x :: a,y :: b,h=>by
    have ih:=sum_subM a b (by simpa using h)
    have e : subM (x :: a) (y :: b)=(x - y) :: subM a b:=by
      simp [subM,List.range_succ_eq_map]
    rw [e,List.sum_cons,ih,List.sum_cons,List.sum_cons]; omega
  | [],_ :: _,h=>by simp at h
  | _ :: _,[],h=>by simp at h
theorem splitE_mix {t : Int} {ws : List Int} (h : mixE ws=0) (ht : 0 < t∧t≤ws.sum) : splitE t ws=0:=by
  have h1:=sum_mix h
  have hl:=(mixE_ok.1 h).1
  have hne : ws.length≠0:=fun hc=>by
    rw [List.eq_nil_of_length_eq_zero hc] at ht; simp at ht; omega
  have h2 : weighE ws=(ws.sum,0):=by
    rw [weigh_sum (by omega) (by
      rintro ⟨i,hi,h2⟩
      have:=mixE_get h i hi
      unfold badW at h2; omega),if_pos (by omega)]
  unfold splitE
  rw [h2,if_neg (by omega),if_neg (by simp),if_neg (by simp; omega)]
theorem parts_le {t : Int} {ws p : List Int} (h : SpR t ws p) (hw : ∀ i,i < ws.length→0≤ws.getD i 0) (ht : 0 < t∧t≤ws.sum) {i : Nat} (hi : i < ws.length) : 0≤p.getD i 0∧p.getD i 0≤ws.getD i 0:=by
  have h0:=hw i hi
  have hW : 0 < ws.sum:=by omega
  have h1 : 0≤t*ws.getD i 0:=Int.mul_nonneg (by omega) h0
  have h2 : t*ws.getD i 0≤ws.sum*ws.getD i 0:=Int.mul_le_mul_of_nonneg_right ht.2 h0
  have h3:=Int.mul_ediv_add_emod (t*ws.getD i 0) ws.sum
  have h4:=Int.emod_nonneg (t*ws.getD i 0) (show ws.sum≠0 by omega)
  have h5 : 0≤t*ws.getD i 0 / ws.sum:=Int.ediv_nonneg h1 (by omega)
  have h8:=h.two i hi
  generalize t*ws.getD i 0 / ws.sum=q at *
  generalize t*ws.getD i 0 % ws.sum=r at *
  generalize t*ws.getD i 0=m at *
  rcases h8 with h6 | ⟨h6,h7⟩
  · refine ⟨by omega,?_⟩
    rw [h6]
    exact Int.le_of_mul_le_mul_left (a:=ws.sum) (by omega) hW
  · refine ⟨by omega,?_⟩
    have : q < ws.getD i 0:=Int.lt_of_mul_lt_mul_left (a:=ws.sum) (by omega) (by omega)
    omega
def leftP (xs : List Int) (size : Int) : Nat→List Int
  | 0=>xs
  | k+1=>subM (leftP xs size k) (partsR size (leftP xs size k))
structure LeftI (xs : List Int) (size : Int) (k : Nat) : Prop where
  mix : mixE (leftP xs size k)=0
  len : (leftP xs size k).length=xs.length
  sum : (leftP xs size k).sum=xs.sum - k*size
theorem left_parts {xs : List Int} {size : Int} {k : Nat} (h : LeftI xs size k) (hs : 1 ≤ size) (hk : (k + 1) * size ≤ xs.sum) :
    splitE size (leftP xs size k)=0∧SpR size (leftP xs size k) (partsR size (leftP xs size k))∧∀ i,i < xs.length→0≤(partsR size (leftP xs size k)).getD i 0∧(partsR size (leftP xs size k)).getD i 0≤(leftP xs size k).getD i 0:=by
  have h1:=h.sum
  have h2 : ((k : Int)+1)*size=k*size+size:=by rw [Int.add_mul,Int.one_mul]
  have ht : 0 < size∧size≤(leftP xs size k).sum:=by omega
  have e:=splitE_mix h.mix ht
  have sp:=partsR_ok (splitE_ok e).sp
  exact ⟨e,sp,fun i hi=>parts_le sp (fun i hi=>(mixE_get h.mix i hi).1) ht (by rw [h.len]; exact hi)⟩
theorem left_inv {xs : List Int} {size : Int} (hm : mixE xs=0) (hs : 1≤size) : ∀ k : Nat,k*size≤xs.sum→LeftI xs size k
  | 0,_=>⟨hm,rfl,by simp [leftP]⟩
  | k+1,hk=>by
    have hk' : ((k : Int)+1)*size≤xs.sum:=by simpa using hk
    have h2 : ((k : Int)+1)*size=k*size+size:=by rw [Int.add_mul,Int.one_mul]
    have ih:=left_inv hm hs k (by omega)
    obtain ⟨e,sp,hp⟩:=left_parts ih hs hk'
    have hl:=ih.len
    have hpl:=sp.len
    have hps:=sp.sum
    have hg:=mixE_get ih.mix
    have hle:=(mixE_ok.1 ih.mix).1
    have hsum:=ih.sum
    refine ⟨mixE_ok.2 ⟨?_,fun x hx=>?_⟩,?_,?_⟩
    · show (subM _ _).length≤16
      rw [subM_len]; exact hle
    · obtain ⟨i,hi,rfl⟩:=get_mem 0 (show x∈subM (leftP xs size k) (partsR size (leftP xs size k)) from hx)
      rw [subM_len] at hi
      have h3:=hp i (by omega)
      have h4:=hg i hi
      rw [subM_get _ _ _ hi]; omega
    · show (subM _ _).length=_
      rw [subM_len]; exact hl
    · show (subM _ _).sum=_
      rw [sum_subM _ _ hpl.symm,hsum,hps]
      push_cast; omega
def baleP (xs : List Int) (size kind first tm : Int) (i : Nat) : Bl:=⟨first+i,kind,tm,partsR size (leftP xs size i)⟩
def balesP (xs : List Int) (size kind first tm : Int) (n : Nat) : List Bl:=(List.range n).map (baleP xs size kind first tm)
theorem balesP_len (xs : List Int) (size kind first tm : Int) (n : Nat) : (balesP xs size kind first tm n).length=n:=by simp [balesP]
theorem balesP_get (xs : List Int) (size kind first tm : Int) (n i : Nat) (h : i < n) : (balesP xs size kind first tm n).getD i bl0=baleP xs size kind first tm i:=by simp [balesP,List.getD_eq_getElem?_getD,h]
theorem balesP_succ (xs : List Int) (size kind first tm : Int) (n : Nat) : balesP xs size kind first tm (n+1)=balesP xs size kind first tm n++[baleP xs size kind first tm n]:=by simp [balesP,List.range_succ]
def pressN (xs : List Int) (size : Int) : Nat:=(xs.sum / size).toNat
def pressE (xs : List Int) (size kind first tm : Int) : Int :=
  if mixE xs≠0 then mixE xs else if size < 1∨1073741824 < size∨kind < 0∨(xs.length : Int)≤kind∨first < 1∨1000000 < first∨tm < 0∨3155759999 < tm then 1
  else if 64 < xs.sum / size then 8 else if 0 < xs.sum / size∧1000000 < first+xs.sum / size - 1 then 2 else 0
def pressV (xs : List Int) (size kind first tm : Int) : List Bl×List Int×Int :=
  if pressE xs size kind first tm≠0 then ([],[],pressE xs size kind first tm) else (balesP xs size kind first tm (pressN xs size),leftP xs size (pressN xs size),0)
structure PressOk (xs : List Int) (size kind first tm : Int) : Prop where
  mix : mixE xs=0
  s1 : 1≤size
  s2 : size≤1073741824
  k1 : 0≤kind
  k2 : kind < xs.length
  f1 : 1≤first
  f2 : first≤1000000
  t1 : 0≤tm
  t2 : tm≤3155759999
  n1 : xs.sum / size=pressN xs size
  n2 : pressN xs size≤64
  n3 : first+pressN xs size≤1000001
  n4 : pressN xs size*size≤xs.sum
  n5 : xs.sum < (pressN xs size+1)*size
theorem div_facts {s z : Int} (h : 0≤s) (hz : 1≤z) : 0≤s / z∧s / z*z≤s∧s < (s / z+1)*z:=by
  have h3:=Int.mul_ediv_add_emod s z
  have h4:=Int.emod_nonneg s (show z≠0 by omega)
  have h5:=Int.emod_lt_of_pos s (show 0 < z by omega)
  have e : z*(s / z)=s / z*z:=Int.mul_comm _ _
  refine ⟨Int.ediv_nonneg h (by omega),by omega,by rw [Int.add_mul,Int.one_mul]; omega⟩
theorem press_ok {xs : List Int} {size kind first tm : Int} (h1 : mixE xs=0) (h2 : ¬ (size < 1∨1073741824 < size∨kind < 0∨(xs.length : Int)≤kind∨first < 1∨1000000 < first∨tm < 0∨3155759999 < tm)) (h3 : ¬ 64 < xs.sum / size) (h4 : ¬ 1000000 < first+xs.sum / size - 1) : pressE xs size kind first tm=0∧PressOk xs size kind first tm:=by
  have hs:=sum_mix h1
  obtain ⟨d1,d2,d3⟩:=div_facts hs.1 (show 1≤size by omega)
  have hn : xs.sum / size=pressN xs size:=by unfold pressN; omega
  rw [hn] at d2 d3 h3 h4
  refine ⟨?_,⟨h1,by omega,by omega,by omega,by omega,by omega,by omega,by omega,by omega,hn,by omega,by omega,d2,d3⟩⟩
  unfold pressE
  rw [if_neg (by omega),if_neg h2,if_neg (by omega),if_neg (by omega)]
theorem pressE_ok {xs : List Int} {size kind first tm : Int} (h : pressE xs size kind first tm=0) : PressOk xs size kind first tm:=by
  unfold pressE at h
  split at h
  · contradiction
  rename_i h1
  split at h
  · cases h
  rename_i h2
  split at h
  · cases h
  rename_i h3
  split at h
  · cases h
  rename_i h4
  refine (press_ok (Classical.not_not.1 h1) h2 h3 ?_).2
  intro hc
  by_cases h0 : 0 < xs.sum / size
  · exact h4 ⟨h0,hc⟩
  · omega
theorem press_e1 {xs : List Int} {size kind first tm : Int} (h1 : mixE xs≠0) : pressV xs size kind first tm=([],[],mixE xs):=by
  have e : pressE xs size kind first tm=mixE xs:=by unfold pressE; rw [if_pos h1]
  unfold pressV; rw [e,if_pos h1]
theorem press_e2 {xs : List Int} {size kind first tm : Int} (h1 : mixE xs=0) (h2 : size < 1∨1073741824 < size∨kind < 0∨(xs.length : Int)≤kind∨first < 1∨1000000 < first∨tm < 0∨3155759999 < tm) : pressV xs size kind first tm=([],[],1):=by
  have e : pressE xs size kind first tm=1:=by unfold pressE; rw [if_neg (by omega),if_pos h2]
  unfold pressV; rw [e,if_pos (by omega)]
theorem press_e3 {xs : List Int} {size kind first tm : Int} (h1 : mixE xs=0) (h2 : ¬ (size < 1∨1073741824 < size∨kind < 0∨(xs.length : Int)≤kind∨first < 1∨1000000 < first∨tm < 0∨3155759999 < tm)) (h3 : 64 < xs.sum / size) : pressV xs size kind first tm=([],[],8):=by
  have e : pressE xs size kind first tm=8:=by unfold pressE; rw [if_neg (by omega),if_neg h2,if_pos h3]
  unfold pressV; rw [e,if_pos (by omega)]
theorem press_e4 {xs : List Int} {size kind first tm : Int} (h1 : mixE xs=0) (h2 : ¬ (size < 1∨1073741824 < size∨kind < 0∨(xs.length : Int)≤kind∨first < 1∨1000000 < first∨tm < 0∨3155759999 < tm)) (h3 : ¬ 64 < xs.sum / size) (h4 : 1000000 < first+xs.sum / size - 1) : pressV xs size kind first tm=([],[],2):=by
  have hs:=sum_mix h1
  obtain ⟨d1,d2,d3⟩:=div_facts hs.1 (show 1≤size by omega)
  have e : pressE xs size kind first tm=2:=by unfold pressE; rw [if_neg (by omega),if_neg h2,if_neg h3,if_pos ⟨by omega,h4⟩]
  unfold pressV; rw [e,if_pos (by omega)]
theorem press_v {xs : List Int} {size kind first tm : Int} (h : pressE xs size kind first tm=0) : pressV xs size kind first tm=(balesP xs size kind first tm (pressN xs size),leftP xs size (pressN xs size),0):=by
  unfold pressV; rw [if_neg (by omega)]
theorem PressOk.left {xs : List Int} {size kind first tm : Int} (h : PressOk xs size kind first tm) {k : Nat} (hk : k≤pressN xs size) : LeftI xs size k:=by
  refine left_inv h.mix h.s1 k ?_
  have h1 : (k : Int)*size≤pressN xs size*size:=Int.mul_le_mul_of_nonneg_right (by omega) (by have:=h.s1; omega)
  have:=h.n4; omega
theorem PressOk.parts {xs : List Int} {size kind first tm : Int} (h : PressOk xs size kind first tm) {k : Nat} (hk : k < pressN xs size) :
    splitE size (leftP xs size k)=0∧SpR size (leftP xs size k) (partsR size (leftP xs size k))∧∀ i,i < xs.length→0≤(partsR size (leftP xs size k)).getD i 0∧(partsR size (leftP xs size k)).getD i 0≤(leftP xs size k).getD i 0:=by
  refine left_parts (h.left (by omega)) h.s1 ?_
  have h1 : ((k : Int)+1)*size≤pressN xs size*size:=Int.mul_le_mul_of_nonneg_right (by omega) (by have:=h.s1; omega)
  have:=h.n4; omega
def pressT (r : List Bl×List Int×Int) : A:=.tup [.fs true (bls true r.1),.fs true (ints r.2.1),.v (.int .i64 r.2.2)]
theorem post_err2 {H : List Blk} {R : A→List Blk→Prop} {x : Value} (h : R (.tup [.fs true [],.fs true [],.v x]) []) : apost 0 H R [.v (.slice none 0 0),.v (.slice none 0 0),.v x] :=
  post0 (Fz.tup (l:=[.v (.slice none 0 0),.v (.slice none 0 0),.v x]) (r:=[.fs true [],.fs true [],.v x]) ⟨fz_nil _ _,fz_nil _ _,Fz.refl rfl,trivial⟩) h
def frontS (a b : List Int) (k : Nat) : List Int:=(subM a b).take k++a.drop k
theorem frontS_len (a b : List Int) (k : Nat) (h : k≤a.length) : (frontS a b k).length=a.length:=by simp [frontS,subM_len]; omega
theorem frontS_zero (a b : List Int) : frontS a b 0=a:=by simp [frontS]
theorem frontS_all (a b : List Int) : frontS a b a.length=subM a b:=by
  unfold frontS; rw [List.take_of_length_le (by rw [subM_len]; exact Nat.le_refl _)]; simp
theorem frontS_get (a b : List Int) (k : Nat) (h : k < a.length) : (frontS a b k).getD k 0=a.getD k 0:=by
  have hl:=subM_len a b
  unfold frontS
  rw [List.getD_eq_getElem?_getD,List.getElem?_append_right (by simp; omega)]
  have : k - (List.take k (subM a b)).length=0:=by simp; omega
  rw [this,List.getElem?_drop,List.getD_eq_getElem?_getD]; simp
theorem frontS_set (a b : List Int) (k : Nat) (h : k < a.length) : (frontS a b k).set k (a.getD k 0 - b.getD k 0)=frontS a b (k+1):=by
  have hl:=subM_len a b
  have hg:=subM_get a b k h
  unfold frontS
  rw [List.set_append_right _ _ (by simp; omega),take_succ_get' _ k 0 (by omega),hg,List.append_assoc]
  congr 1
  rw [show k - (List.take k (subM a b)).length=0 by simp; omega,List.drop_eq_getElem_cons h]
  rfl
end Go.Proofs.Ytdkoindoljngmaa
namespace Go.Proofs.Ytdkoindoljngmaa
open Go Go.Lft
set_option linter.unusedSimpArgs false
set_option linter.unusedVariables false
attribute [local congr] ob_congr bw_congr ib_congr ck_congr iwA_congr itA_congr aw_congr awp_congr sqA_congr bkA_congr vr_congr gd_congr
theorem splitMix_vr {w : Bool} {t : Int} {ws : List Int} (h : mixE ws=0) (ht : 0 < t∧t≤1073741824) (he : splitE t ws=0) : VR P false n_share_Split [.v (.int .i64 t),.fs w (ints ws)] [] (isR (.tup [.fs true (ints (partsR t ws)),.v (.int .i64 0)])):=by
  have h1:=shareSplit_vr (w:=w) t ws fun _=>divOk_small (splitE_ok he) fun i hi=>by
    have h2:=mixE_get h i hi
    have h3 : t*ws.getD i 0≤1073741824*1073741824:=Int.mul_le_mul ht.2 h2.2 h2.1 (by omega)
    omega
  have e : splitV t ws=(partsR t ws,0):=by unfold splitV; rw [if_neg (by omega)]
  rw [e] at h1
  exact h1
theorem balePress_vr {w : Bool} (xs : List Int) (size kind first tm : Int) : VR P false n_bale_Press [.fs w (ints xs),.v (.int .i64 size),.v (.int .i64 kind),.v (.int .i64 first),.v (.int .i64 tm)] [] (isR (pressT (pressV xs size kind first tm))):=by
  refine vr_bale_Press (by simp) (.inr rfl) fun _ _=>?_
  have ht:=materialTotal_vr (w:=w) xs
  unfold pairT at ht
  unfold pressT
  by_cases h1 : mixE xs=0
  case neg =>
    rw [totM_err h1] at ht
    rw [press_e1 h1]
    simp (disch:=((try simp only [lZ]); omega)) only [aZ,aM,aBl,s_bale_Press,v_bale_Press]
    refine ht.same (by simp (disch:=first | omega | simp (disch:=omega) only [aG,aM,aBl]) only [fZ,aM,aBl]) (by simp (disch:=first | omega | simp (disch:=omega) only [aG,aM,aBl]) only [fZ,aM,aBl]) (aret_of ?_)
    simp (disch:=((try simp only [lZ]); omega)) only [aZ,aM,aBl,r_bale_Press]
    exact post_err2 ⟨rfl,rfl⟩
  rw [totM_ok h1] at ht
  have hs:=sum_mix h1
  have hl:=(mixE_ok.1 h1).1
  simp (disch:=((try simp only [lZ]); omega)) only [aZ,aM,aBl,s_bale_Press,v_bale_Press]
  refine ht.same (by simp (disch:=first | omega | simp (disch:=omega) only [aG,aM,aBl]) only [fZ,aM,aBl]) (by simp (disch:=first | omega | simp (disch:=omega) only [aG,aM,aBl]) only [fZ,aM,aBl]) (aret_of ?_)
  by_cases h2 : size < 1∨1073741824 < size∨kind < 0∨(xs.length : Int)≤kind∨first < 1∨1000000 < first
  · rw [press_e2 h1 (by omega)]
    simp (disch:=((try simp only [lZ]); omega)) only [aZ,aM,aBl,r_bale_Press]
    exact post_err2 ⟨rfl,rfl⟩
  simp (disch:=((try simp only [lZ]); omega)) only [aZ,aM,aBl]
  refine (moment_vr tm).same (by simp (disch:=first | omega | simp (disch:=omega) only [aG,aM,aBl]) only [fZ,aM,aBl]) rfl (aret_of ?_)
  by_cases h3 : 0≤tm∧tm≤3155759999
  case neg =>
    rw [press_e2 h1 (by omega),decide_eq_false h3]
    simp (disch:=((try simp only [lZ]); omega)) only [aZ,aM,aBl,r_bale_Press]
    exact post_err2 ⟨rfl,rfl⟩
  rw [decide_eq_true h3]
  have h4 : ¬ (size < 1∨1073741824 < size∨kind < 0∨(xs.length : Int)≤kind∨first < 1∨1000000 < first∨tm < 0∨3155759999 < tm):=by omega
  obtain ⟨d1,d2,d3⟩:=div_facts hs.1 (show 1≤size by omega)
  have d4 : xs.sum / size≤xs.sum:=Int.ediv_le_self _ hs.1
  simp (disch:=((try simp only [lZ]); omega)) only [aZ,aM,aBl]
  refine ib_intro (fun h5=>?_) (fun h5=>?_)
  · rw [press_e3 h1 h4 h5]
    simp (disch:=((try simp only [lZ]); omega)) only [aZ,aM,aBl,r_bale_Press]
    exact post_err2 ⟨rfl,rfl⟩
  simp (disch:=((try simp only [lZ]); omega)) only [aZ,aM,aBl]
  refine ib_intro (fun h6=>?_) (fun h6=>?_)
  · rw [press_e4 h1 h4 h5 h6]
    simp (disch:=((try simp only [lZ]); omega)) only [aZ,aM,aBl,r_bale_Press]
    exact post_err2 ⟨rfl,rfl⟩
  obtain ⟨e0,ok⟩:=press_ok h1 h4 h5 h6
  rw [press_v e0,ok.n1]
  have hn2:=ok.n2
  have hn3:=ok.n3
  have hbl:=fun k=>balesP_len xs size kind first tm k
  simp (disch:=((try simp only [lZ]); omega)) only [aZ,aM,aBl,Int.toNat_natCast]
  refine AWP.cut (Cut.virt 12 4 rfl) ?_
  refine AWP.loopP (α:=Nat×Nat) g_bale_Press_0 (fun q=>q.1≤pressN xs size) (fun q=>[(5,.v (.slice none 0 0)),(6,.v (.slice none 0 0)),(7,.v (.int .i64 0)),(12,.vs 1 q.2 4 q.1),(13,.v (.int .i64 q.1))]) (fun q=>[(0,⟨0,ints (leftP xs size q.1)⟩),(1,⟨q.2,blcs true (balesP xs size kind first tm q.1)⟩)]) (fun q=>pressN xs size - q.1) (0,0) (by simp) ?_ ?_
  · have z1 : leftP xs size 0=xs:=rfl
    have z2 : blcs true (balesP xs size kind first tm 0)=[]:=rfl
    have z3 : splA (ints (List.replicate xs.length 0)) 0 (ints xs)=ints xs:=spl_zero _ _ (by simp [ii_len])
    simp only [z1,z2]
    try simp (disch:=((try simp only [lZ]); omega)) only [aZ,aM,aBl]
    exact Cut.of' 2 rfl (by omega) (by simp (disch:=first | omega | simp (disch:=omega) only [aG,aM,aBl]) only [fZ,aM,aBl,z3]) (by simp (disch:=first | omega | simp (disch:=omega) only [aG,aM,aBl]) only [fZ,aM,aBl])
  rintro ⟨k,ver⟩ hk
  simp only at hk
  have hL:=ok.left hk
  have hLl:=hL.len
  by_cases hlt : k < pressN xs size
  · obtain ⟨p1,p2,p3⟩:=ok.parts hlt
    have hpl:=p2.len
    have hv:=splitMix_vr (w:=false) hL.mix (t:=size) (by omega) p1
    have hsucc:=balesP_succ xs size kind first tm k
    have hsl : leftP xs size (k+1)=subM (leftP xs size k) (partsR size (leftP xs size k)):=rfl
    have hbp : baleP xs size kind first tm k=⟨first+k,kind,tm,partsR size (leftP xs size k)⟩:=rfl
    have hkl:=hbl k
    generalize partsR size (leftP xs size k)=p at *
    have hmx:=mixE_get hL.mix
    generalize hW : leftP xs size k=W at *
    simp (disch:=((try simp only [lZ]); omega)) only [aZ,aM,aBl]
    refine hv.use ⟨Ld.refl rfl,ld_slI _ 0 0 _ W hLl.symm rfl,trivial⟩ (by simp (disch:=first | omega | simp (disch:=omega) only [aG,aM,aBl]) only [fZ,aM,aBl]) (aret_of ?_)
    simp (disch:=((try simp only [lZ]); omega)) only [aZ,aM,aBl]
    refine AWP.loopP g_bale_Press_1 (fun j : Nat=>j≤W.length) (fun j=>[(19,.v (.int .i64 j))]) (fun j=>[(0,⟨0,ints (frontS W p j)⟩)]) (fun j=>W.length - j) 0 (by omega) ?_ ?_
    · rw [frontS_zero]
      try simp (disch:=((try simp only [lZ]); omega)) only [aZ,aM,aBl]
      exact Cut.of' 2 rfl (by omega) (by simp (disch:=first | omega | simp (disch:=omega) only [aG,aM,aBl]) only [fZ,aM,aBl]) (by simp (disch:=first | omega | simp (disch:=omega) only [aG,aM,aBl]) only [fZ,aM,aBl])
    rintro j hj
    have fl:=frontS_len W p j hj
    by_cases hjl : j < W.length
    · have q1:=p3 j (by omega)
      have q2:=hmx j hjl
      have q3:=frontS_get W p j hjl
      have q4:=frontS_set W p j hjl
      simp (disch:=((try simp only [lZ]); omega)) only [aZ,aM,aBl,q3,q4]
      refine ⟨j+1,by omega,by omega,?_⟩
      exact Cut.of' 2 rfl (by omega) (by simp (disch:=first | omega | simp (disch:=omega) only [aG,aM,aBl]) only [fZ,aM,aBl]) (by simp (disch:=first | omega | simp (disch:=omega) only [aG,aM,aBl]) only [fZ,aM,aBl])
    have hje : j=W.length:=by omega
    subst hje
    rw [frontS_all,← hsl]
    simp (disch:=((try simp only [lZ]); omega)) only [aZ,aM,aBl,← hbp]
    refine ⟨(k+1,ver+1),by simp only; omega,by simp only; omega,?_⟩
    simp only
    rw [hsucc,hbp]
    exact Cut.of' 2 rfl (by omega) (by simp (disch:=first | omega | simp (disch:=omega) only [aG,aM,aBl]) only [fZ,aM,aBl]) (by simp (disch:=first | omega | simp (disch:=omega) only [aG,aM,aBl]) only [fZ,aM,aBl])
  have hke : k=pressN xs size:=by omega
  subst hke
  simp (disch:=((try simp only [lZ]); omega)) only [aZ,aM,aBl,r_bale_Press]
  exact post0 (r:=.tup [.fs true (bls true (balesP xs size kind first tm (pressN xs size))),.fs true (ints (leftP xs size (pressN xs size))),.v (.int .i64 0)]) (Fz.tup ⟨fz_vsBl 0 _ 1 ver _ _ (by omega) (hbl _).symm (by simp [blkAt]),fz_slI 0 _ 0 0 _ _ (by omega) hLl.symm rfl,Fz.refl rfl,trivial⟩) ⟨rfl,rfl⟩
theorem grams_vr {w : Bool} (b : Bl) : VR P false n_bale_Grams [blA w b] [] (isR (pairT (totM b.mix))):=by
  refine vr_bale_Grams (by simp) (.inr rfl) fun _ _=>?_
  have h:=materialTotal_vr (w:=w) b.mix
  unfold pairT at h ⊢
  unfold blA blC
  generalize totM b.mix=r at *
  simp (disch:=((try simp only [lZ]); omega)) only [aZ,aM,aBl,s_bale_Grams,v_bale_Grams]
  refine h.same (by simp (disch:=first | omega | simp (disch:=omega) only [aG,aM,aBl]) only [fZ,aM,aBl]) (by simp (disch:=first | omega | simp (disch:=omega) only [aG,aM,aBl]) only [fZ,aM,aBl]) (aret_of ?_)
  simp (disch:=((try simp only [lZ]); omega)) only [aZ,aM,aBl,r_bale_Grams]
  exact post0 (Fz.refl rfl) ⟨rfl,rfl⟩
end Go.Proofs.Ytdkoindoljngmaa
