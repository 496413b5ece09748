/- Lemmas and walks that the proof of SetpointBests uses. No statement is claimed here. -/
import Derived.Test.YtcppaddgclkekaaGreatSetpointBestsZar
namespace Go.Proofs.YtcppaddgclkekaaGreat
open Go Go.Lft
set_option linter.unusedSimpArgs false
set_option linter.unusedVariables false
attribute [local congr] Q7 Q8 Q9 za1 Z9 Y0 za2 Y2 Y3 Y4 za3 za0
def newS(p:Pl):Sy:={bef:=fun _=>y9 p.mt,fst:=fun _=>y9 p.mt,pos:=fun _=>0,rng:=fun _ _=>y9 p.mt,hal:=List.replicate p.ms.length false,fed:=y9 p.mt}
theorem zK1(n:Nat):sm n (fun _=>(0:Int))=0:=by
 induction n with
 | zero=>rfl
 | succ n ih=>simp only[sm,ih];rfl
theorem yr2(p:Pl)(x:Nat):tot p (newS p) x=0:=by
 unfold tot befT fstT rngT newS
 simp only[Y5,zK1];rfl
theorem Gd.new(p:Pl):Gd p (newS p) :=
 ⟨fun m _=>⟨(zi2 _).1,fun x=>by simp only[newS];rw[Y5];omega⟩,fun i _=>⟨(zi2 _).1,fun x=>by simp only[newS];rw[Y5];omega⟩,fun i _ q _=>⟨(zi2 _).1,fun x=>by simp only[newS];rw[Y5];omega⟩,
  fun i _ h=>h,by simp [newS],zi2 _,fun x=>by rw[yr2];omega⟩
def usK(p:Pl)(k b:Nat):Pc→Bool
 | .root=>true | .bef=>true | .bel=>true | .hal=>true | .fed=>true
 | .bm m=>decide (m<k)
 | .fi i=>decide (i<b)
 | .re i=>decide (i<b) && decide (0<p.rl i)
 | .ri i q=>decide (i<b) && decide (q<p.rl i)
theorem y9R(p:Pl):usK p p.ms.length p.bs.length=usd p:=by funext c;cases c<;>rfl
def befK(p:Pl)(k:Nat)(ad:Ad):List A:=(List.range k).map fun m=>slA (ad (.bm m)) p.mt
def z9V(p:Pl)(b:Nat)(ad:Ad):List A:=(List.range b).flatMap (cvC p ad)
def z1A(p:Pl)(k b:Nat)(ad:Ad):List A:=[.v (.int .i64 p.mt),.fs true (mcs true p.ms),.fs true (bts p.bs),.v (.int .i64 p.fd),.vs (ad .bef).1 (ad .bef).2 1 k,.vs (ad .bel).1 (ad .bel).2 2 b,slA (ad .hal) p.ms.length,slA (ad .fed) p.mt]
def ctK(p:Pl)(k b:Nat)(ad:Ad):Pc→List A
 | .root=>z1A p k b ad
 | .bef=>befK p k ad
 | .bel=>z9V p b ad
 | .hal=>za9 (List.replicate p.ms.length false)
 | .fed=>ints (y9 p.mt)
 | .bm _=>ints (y9 p.mt)
 | .fi _=>ints (y9 p.mt)
 | .re i=>belC (p.rl i) p.mt 0 fun q=>ad (.ri i q)
 | .ri _ _=>ints (y9 p.mt)
structure PN(n:Nat)(K:List Blk)(p:Pl)(k b:Nat)(ad:Ad):Prop where
 get:∀c,usK p k b c=true→blkAt K (ad c).1 (ad c).2=some (ctK p k b ad c)
 inj:∀c d,usK p k b c=true→usK p k b d=true→(ad c).1=(ad d).1→c=d
 zr:(ad .root).2=0∧∀i,(ad (.re i)).2=0
 hi:∀c,usK p k b c=true→n<(ad c).1
theorem PN.lt{n:Nat}{K:List Blk}{p:Pl}{k b:Nat}{ad:Ad}(h:PN n K p k b ad){c:Pc}(hc:usK p k b c=true):(ad c).1<K.length:=y4 (h.get c hc)
theorem PN.ne{n:Nat}{K:List Blk}{p:Pl}{k b:Nat}{ad:Ad}(h:PN n K p k b ad){c d:Pc}(hc:usK p k b c=true)(hd:usK p k b d=true)(hn:c≠d):(ad c).1≠(ad d).1:=fun he=>hn (h.inj c d hc hd he)
theorem PN.rt{n:Nat}{K:List Blk}{p:Pl}{k b:Nat}{ad:Ad}(h:PN n K p k b ad):blkAt K (ad .root).1 0=some (z1A p k b ad):=by have:=h.get .root rfl;rw[h.zr.1]at this;exact this
theorem PN.next {n : Nat} {K K' : List Blk} {p : Pl} {k b k' b' : Nat} {ad ad' : Ad} (h : PN n K p k b ad) (hr : ad' .root = ad .root) (hz : ∀ i, (ad' (.re i)).2 = 0)
    (hold:∀c,usK p k b c=true→(ad' c).1=(ad c).1) (hnew:∀c,usK p k' b' c=true→usK p k b c=false→K.length≤(ad' c).1)
    (hin:∀c d,usK p k' b' c=true→usK p k' b' d=true→usK p k b c=false→usK p k b d=false→(ad' c).1=(ad' d).1→c=d)
    (hget:∀c,usK p k' b' c=true→blkAt K' (ad' c).1 (ad' c).2=some (ctK p k' b' ad' c)):PN n K' p k' b' ad':=by
  refine⟨hget,fun c d hc hd he=>?_,⟨by rw[hr];exact h.zr.1,hz⟩,fun c hc=>?_⟩
  · cases uc:usK p k b c with
    | false =>
      cases ud:usK p k b d with
      | false=>exact hin c d hc hd uc ud he
      | true =>
        have h1:=hnew c hc uc
        have h2:=h.lt ud
        have h3:=hold d ud
        omega
    | true =>
      cases ud:usK p k b d with
      | false =>
        have h1:=hnew d hd ud
        have h2:=h.lt uc
        have h3:=hold c uc
        omega
      | true=>exact h.inj c d uc ud (by rw[← hold c uc,← hold d ud,he])
  · cases uc:usK p k b c with
    | false =>
      have h1:=hnew c hc uc
      have h2:=h.lt (c:=.root) rfl
      have h3:=h.hi .root rfl
      omega
    | true=>rw[hold c uc];exact h.hi c uc
theorem yD3{K T:List Blk}{i1 i2 j:Nat}{B1 B2:Blk}{l L:Nat}(hL:L=K.length):blkAt ((K.set i1 B1).set i2 B2++T) (L+j) l=blkAt T j l:=by
 subst hL
 have:=zg6 ((K.set i1 B1).set i2 B2) T j l
 simpa using this
theorem z03{K T:List Blk}{i1 i2 j l:Nat}{B1 B2:Blk}{x:List A}(h:blkAt K j l=some x)(h1:j≠i1)(h2:j≠i2):blkAt ((K.set i1 B1).set i2 B2++T) j l=some x:=by
 rw[x2 _ _ _ _ (by simp;exact y4 h),y5 _ _ _ _ _ h2,y5 _ _ _ _ _ h1];exact h
theorem y8x{K T:List Blk}{i1 i2 v:Nat}{B2:Blk}{x:List A}(h:i1<K.length)(h2:i1≠i2):blkAt ((K.set i1 ⟨v,x⟩).set i2 B2++T) i1 v=some x:=by
 rw[x2 _ _ _ _ (by simp;exact h),y5 _ _ _ _ _ h2];exact x0 _ _ _ _ h
theorem y8y{K T:List Blk}{i1 i2 v:Nat}{B1:Blk}{x:List A}(h:i2<K.length):blkAt ((K.set i1 B1).set i2 ⟨v,x⟩++T) i2 v=some x:=by
 rw[x2 _ _ _ _ (by simp;exact h)];exact x0 _ _ _ _ (by simpa using h)
theorem gr_t{K T:List Blk}{n i1 i2:Nat}{B1 B2:Blk}(h1:n<i1)(h2:n<i2):Gr (fun i=>n<i) K ((K.set i1 B1).set i2 B2++T) :=
 ⟨by simp,fun i ver hi hn=>by
  have hn':¬n<i:=hn
  rw[x2 _ _ _ _ (by simp;exact hi),y5 _ _ _ _ _ (by omega),y5 _ _ _ _ _ (by omega)]⟩
def adM(ad:Ad)(L k:Nat):Ad
 | .bm m=>if m=k then(L,0)else ad (.bm m)
 | .bef=>((ad .bef).1,(ad .bef).2+1)
 | c=>ad c
def adT(ad:Ad)(L b:Nat):Ad
 | .fi i=>if i=b then(L+1,0)else ad (.fi i)
 | .re i=>if i=b then(L+3,0)else ad (.re i)
 | .ri i q=>if i=b then(L+(4+q),0)else ad (.ri i q)
 | .bel=>((ad .bel).1,(ad .bel).2+1)
 | c=>ad c
theorem y6t(p:Pl)(k:Nat)(ad:Ad)(L:Nat):befK p k ad++[.sl L 0 1 0 p.mt]=befK p (k+1) (adM ad L k):=by
 unfold befK
 rw[List.range_succ,List.map_append]
 congr 1
 ·refine List.map_congr_left fun m hm=>?_
  have:m<k:=List.mem_range.1 hm
  simp only[adM];rw[if_neg (by omega)]
 ·simp [adM,slA]
theorem y6u(p:Pl)(k:Nat)(ad:Ad):(befK p k ad).length=k:=by simp [befK]
theorem y43(p:Pl)(b:Nat)(ad:Ad)(L:Nat):z9V p b ad++[.sl (L+1) 0 1 0 p.mt,if 0<p.rl b then .lp (L+3) 0 0 else .v (.pointer none)]=z9V p (b+1) (adT ad L b):=by
 unfold z9V
 rw[List.range_succ,List.flatMap_append]
 congr 1
 ·rw[List.flatMap_def,List.flatMap_def]
  congr 1
  refine List.map_congr_left fun m hm=>?_
  have:m<b:=List.mem_range.1 hm
  simp only[adT,cvC,if_neg (show ¬m=b by omega)]
 ·simp [adT,slA,cvC]
theorem y44(p:Pl)(b:Nat)(ad:Ad):(z9V p b ad).length=b*2:=z9I _ (z00 p ad) _
theorem PN.addM{n:Nat}{K:List Blk}{p:Pl}{k:Nat}{ad:Ad}(h:PN n K p k 0 ad)(T:List Blk)(hT:blkAt T 0 0=some (ints (y9 p.mt))):
    PN n ((K.set (ad .bef).1 ⟨(ad .bef).2+1,befK p (k+1) (adM ad K.length k)⟩).set (ad .root).1 ⟨0,z1A p (k+1) 0 (adM ad K.length k)⟩++T) p (k+1) 0 (adM ad K.length k):=by
  have nb:=h.ne (c:=.bef) (d:=.root) rfl rfl (by simp)
  have lb:=h.lt (c:=.bef) rfl
  have lr:=h.lt (c:=.root) rfl
  have ub:∀m,usK p k 0 (.bm m)=true→m≠k:=fun m hm=>by simp [usK]at hm;omega
  refine h.next rfl (fun i=>h.zr.2 i) (fun c hc=>?_) (fun c hc hn=>?_) (fun c d hc hd hcn hdn he=>?_) (fun c hc=>?_)
  · cases c with
    | bm m=>simp only[adM];rw[if_neg (ub m hc)]
    | _=>rfl
  · cases c with
    | bm m =>
      simp [usK]at hc hn
      simp only[adM];rw[if_pos (by omega)];exact Nat.le_refl _
    | _=>simp_all [usK]
  · cases c with
    | bm m =>
      cases d with
      | bm m'=>simp [usK]at hc hd hcn hdn;congr 1;omega
      | _=>simp_all [usK]
    | _=>simp_all [usK]
  · cases c with
    | bm m =>
      simp only[adM]
      by_cases e:m=k
      · rw[if_pos e]
        have:=yD3 (K:=K) (T:=T) (i1:=(ad .bef).1) (i2:=(ad .root).1) (B1:=⟨(ad .bef).2+1,befK p (k+1) (adM ad K.length k)⟩) (B2:=⟨0,z1A p (k+1) 0 (adM ad K.length k)⟩) (j:=0) (l:=0) rfl
        rw[Nat.add_zero]at this
        exact this.trans hT
      · rw[if_neg e]
        have hu:usK p k 0 (.bm m)=true:=by simp [usK]at hc ⊢;omega
        exact z03 (h.get _ hu) (h.ne hu rfl (by simp)) (h.ne hu rfl (by simp))
    | bef=>exact y8x lb nb
    | root=>simp only[adM];rw[h.zr.1];exact y8y lr
    | bel=>exact z03 (h.get .bel rfl) (h.ne rfl rfl (by simp)) (h.ne rfl rfl (by simp))
    | hal=>exact z03 (h.get .hal rfl) (h.ne rfl rfl (by simp)) (h.ne rfl rfl (by simp))
    | fed=>exact z03 (h.get .fed rfl) (h.ne rfl rfl (by simp)) (h.ne rfl rfl (by simp))
    | _=>simp [usK]at hc
theorem PN.addT {n : Nat} {K : List Blk} {p : Pl} {k b : Nat} {ad : Ad} (h : PN n K p k b ad) (T : List Blk) (hT : blkAt T 1 0 = some (ints (y9 p.mt)))
    (hR:0<p.rl b→blkAt T 3 0=some (belC (p.rl b) p.mt 0 (fun q=>(K.length+(4+q),0)))∧∀q,q<p.rl b→blkAt T (4+q) 0=some (ints (y9 p.mt))) :
    PN n ((K.set (ad .bel).1 ⟨(ad .bel).2+1,z9V p (b+1) (adT ad K.length b)⟩).set (ad .root).1 ⟨0,z1A p k (b+1) (adT ad K.length b)⟩++T) p k (b+1) (adT ad K.length b):=by
  have nb:=h.ne (c:=.bel) (d:=.root) rfl rfl (by simp)
  have lb:=h.lt (c:=.bel) rfl
  have lr:=h.lt (c:=.root) rfl
  refine h.next rfl (fun i=>?_) (fun c hc=>?_) (fun c hc hn=>?_) (fun c d hc hd hcn hdn he=>?_) (fun c hc=>?_)
  · simp only[adT];split
    · rfl
    · exact h.zr.2 i
  · cases c with
    | fi i=>simp only[usK,decide_eq_true_eq]at hc;simp only[adT];rw[if_neg (by omega)]
    | re i=>simp only[usK,Bool.and_eq_true,decide_eq_true_eq]at hc;simp only[adT];rw[if_neg (by omega)]
    | ri i q=>simp only[usK,Bool.and_eq_true,decide_eq_true_eq]at hc;simp only[adT];rw[if_neg (by omega)]
    | _=>rfl
  · cases c with
    | fi i =>
      simp [usK]at hc hn
      simp only[adT];rw[if_pos (by omega)];simp only;omega
    | re i =>
      simp [usK]at hc hn
      have:i=b:=by
        by_cases e:i<b
        · have:=hn e;omega
        · omega
      simp only[adT];rw[if_pos this];simp only;omega
    | ri i q =>
      simp [usK]at hc hn
      have:i=b:=by
        by_cases e:i<b
        · have:=hn e;omega
        · omega
      simp only[adT];rw[if_pos this];simp only;omega
    | _=>simp_all [usK]
  · have key : ∀ c, usK p k (b + 1) c = true → usK p k b c = false → c = .fi b ∨ c = .re b ∨ ∃ q, c = .ri b q := fun c hc hn => by
      cases c with
      | fi i=>simp [usK]at hc hn;left;congr 1;omega
      | re i =>
        simp [usK]at hc hn;right;left;congr 1
        by_cases e:i<b
        · have:=hn e;omega
        · omega
      | ri i q =>
        simp [usK]at hc hn;right;right;refine⟨q,?_⟩;congr 1
        by_cases e:i<b
        · have:=hn e;omega
        · omega
      | _=>simp_all [usK]
    rcases key c hc hcn with rfl|rfl|⟨q,rfl⟩<;>rcases key d hd hdn with rfl|rfl|⟨q',rfl⟩<;>simp only[adT,if_true]at he<;>first|rfl|omega|(congr 1;omega)
  · cases c with
    | fi i =>
      simp only[adT]
      by_cases e:i=b
      · rw[if_pos e];exact(yD3 rfl).trans hT
      · rw[if_neg e]
        have hu:usK p k b (.fi i)=true:=by simp [usK]at hc ⊢;omega
        exact z03 (h.get _ hu) (h.ne hu rfl (by simp)) (h.ne hu rfl (by simp))
    | re i =>
      simp only[adT]
      simp only[usK,Bool.and_eq_true,decide_eq_true_eq]at hc
      by_cases e:i=b
      · subst e
        rw[if_pos rfl]
        simp only[ctK,adT,if_true]
        exact(yD3 rfl).trans (hR hc.2).1
      · rw[if_neg e]
        have hu:usK p k b (.re i)=true:=by simp [usK];omega
        have:=z03 (T:=T) (B1:=⟨(ad .bel).2+1,z9V p (b+1) (adT ad K.length b)⟩) (B2:=⟨0,z1A p k (b+1) (adT ad K.length b)⟩) (h.get _ hu) (h.ne hu (d:=.bel) rfl (by simp)) (h.ne hu (d:=.root) rfl (by simp))
        simp only[ctK,adT]at this ⊢
        simp only[if_neg e]
        exact this
    | ri i q =>
      simp only[adT]
      simp only[usK,Bool.and_eq_true,decide_eq_true_eq]at hc
      by_cases e:i=b
      · subst e
        rw[if_pos rfl]
        exact(yD3 rfl).trans ((hR (by omega)).2 q hc.2)
      · rw[if_neg e]
        have hu:usK p k b (.ri i q)=true:=by simp [usK];omega
        exact z03 (h.get _ hu) (h.ne hu rfl (by simp)) (h.ne hu rfl (by simp))
    | bel=>exact y8x lb nb
    | root=>simp only[adT];rw[h.zr.1];exact y8y lr
    | bef=>exact z03 (h.get .bef rfl) (h.ne rfl rfl (by simp)) (h.ne rfl rfl (by simp))
    | hal=>exact z03 (h.get .hal rfl) (h.ne rfl rfl (by simp)) (h.ne rfl rfl (by simp))
    | fed=>exact z03 (h.get .fed rfl) (h.ne rfl rfl (by simp)) (h.ne rfl rfl (by simp))
    | bm m =>
      have hu:usK p k b (.bm m)=true:=hc
      exact z03 (h.get _ hu) (h.ne hu rfl (by simp)) (h.ne hu rfl (by simp))
def ad0(n:Nat):Ad
 | .root=>(n+2,0) | .hal=>(n+1,0) | .fed=>(n+3,0) | .bef=>(n+4,0) | .bel=>(n+5,0)
 | _=>(0,0)
theorem PN.init(H:List Blk)(p:Pl)(B:Blk):PN H.length (H++[B,⟨0,za9 (List.replicate p.ms.length false)⟩,⟨0,z1A p 0 0 (ad0 H.length)⟩,⟨0,ints (y9 p.mt)⟩,⟨0,[]⟩,⟨0,[]⟩]) p 0 0 (ad0 H.length):=by
 refine⟨fun c hc=>?_,fun c d hc hd he=>?_,⟨rfl,fun i=>rfl⟩,fun c hc=>?_⟩
 ·cases c<;>first|(simp [usK]at hc;done)|(simp only[ad0];rw[zg6];rfl)
 ·cases c<;>first|(simp [usK]at hc;done)|(cases d<;>first|rfl|(simp [usK]at hd;done)|(simp only[ad0]at he;omega))
 ·cases c<;>first|(simp [usK]at hc;done)|(simp only[ad0];omega)
theorem xu3(n len mat:Nat):A.shL n (belC len mat 0 (newA 1))=belC len mat 0 (newA (n+1)):=by
 rw[z2v]
 unfold belC belK yC3
 rw[List.map_append,List.map_map]
 congr 1
 refine List.map_congr_left fun q _=>?_
 simp only[Function.comp,newA]
 split
 ·simp only[A.sh];congr 1;omega
 ·rfl
theorem xu4(len mat:Nat)(ad:Nat→Nat×Nat):A.clL (belC len mat 0 ad)=true:=zH6.2 fun a ha=>by
 rcases List.mem_append.1 ha with h|h
 ·obtain⟨q,_,rfl⟩:=List.mem_map.1 h
  split<;>rfl
 ·simp only[List.mem_cons,List.not_mem_nil,or_false]at h
  rcases h with rfl|rfl|rfl<;>rfl
def yK7(n len mat:Nat):List Blk:=⟨0,belC len mat 0 (newA (n+1))⟩ :: List.replicate len ⟨0,ints (y9 mat)⟩
theorem y9S{kp:Bool}{H:List Blk}{mat len:Nat}(h1:1≤len)(h16:len≤16)(hm:1≤mat∧mat≤16):VR P kp z5z [.v (.int .i64 len),.v (.int .i64 mat)] H (fun r H'=>r=.tup [.lp H.length 0 0,.v (.int .i64 0)]∧H'=H++yK7 H.length len mat):=by
 refine(y9x h1 h16 hm).useO (LdL.refl rfl) ?_ ⟨rfl,?_⟩
 ·simp only[Bool.and_eq_true,List.all_eq_true]
  refine⟨rfl,fun B hB=>?_⟩
  rcases List.mem_cons.1 hB with rfl|h
  ·exact xu4 _ _ _
  ·rw[(List.mem_replicate.1 h).2];exact yl3 _
 ·unfold xs2 yK7
  rw[List.map_cons,List.map_replicate]
  simp only[Blk.sh,xu3,zU0 _ (zl4 0 _)]
theorem y6v(n len mat q:Nat)(h:q<len):blkAt (yK7 n len mat) (1+q) 0=some (ints (y9 mat)):=by
 have:(yK7 n len mat)[1+q]?=some ⟨0,ints (y9 mat)⟩:=by
  unfold yK7
  rw[Nat.add_comm 1 q,List.getElem?_cons_succ,List.getElem?_replicate,if_pos h]
 exact w8.2 ⟨_,this,rfl,rfl⟩
theorem Rel.cells_vs{g:Bool→Heap}{σ:Nam}{i ver k n:Nat}{v:Value}(hn:0<n)(h:Rel g σ (.vs i ver k n) v):Rel g σ (.sl i ver k 0 n) v:=by
 cases h with
 | vs0=>omega
 | vs i ver k n b s o' cp e1 e2 e3=>exact .sl i ver k 0 n b s o' cp e1 e2 fun hc=>by have:=e3 hc;omega
theorem Cut.cellS{n0:Nat}{e:List A}{H:List Blk}(i ver j:Nat){i' v' k n:Nat}{l:List A}(hb:blkAt H i ver=some l)(hj:l[j]?=some (.vs i' v' k n))(hn:0<n):Cut n0 e H e (H.set i (⟨ver,l.set j (.sl i' v' k 0 n)⟩:Blk)):=by
 intro c ev hH h0 hs he
 subst hH
 obtain⟨B,q1,q2,q3⟩:=w8.1 hb
 subst q2;subst q3
 rcases hs.blk i B q1 with⟨_,k0⟩|⟨b,s,vs,z,t,f1,f2,f3,f4,f5⟩
 ·rw[k0]at hj;simp at hj
 ·obtain⟨x,hx,hxr⟩:=f5.get hj
  have h2:=f5.set j (Rel.cells_vs hn hxr)
  have h3:vs.set j x=vs:=by
   apply List.ext_getElem?
   intro i
   rw[List.getElem?_set]
   split
   ·rename_i hi;subst hi
    rw[if_pos (List.getElem?_eq_some_iff.1 hx).1,hx]
   ·rfl
  rw[h3]at h2
  obtain⟨e1,e2,e3⟩:=St.turn hs n0 q1 (v':=B.ver) (b':=b) (s':=s) (t:=t) (vs:=vs) (z:=z) (Or.inl (And.intro f1 (Nat.le_refl _))) f4 h2
  have h4:Go.Lft.upd c.h b (.cells (vs++z).toArray t)=c.h:=z1a f3
  refine⟨_,rfl,?_,e2,e1,he.mono (fun _=>Ext.refl _) e3⟩
  simp only;exact h4
theorem y45{A B C:Prop}(ha:C→A)(hb:C→B)(hc:C):A∧B:=⟨ha hc,hb hc⟩
theorem xu5{H:List Blk}{w v:Bool}(p:Pl)(hp:chkP p=0):VR P false z2w [plA w v p] H (fun r H'=>∃ad:Ad,r=.tup [.lp (ad .root).1 0 0,.v (.int .i64 0)]∧PM H' p ad (newS p)∧Gr nof H H'∧∀c,usd p c=true→H.length≤(ad c).1):=by
 refine z6j (by simp) (.inl rfl) fun _ _=>?_
 have hpc:=(zc7 hp).1
 have ok:=y7 hpc
 obtain⟨m1,m2,m3⟩:=ok.mt1
 have n1:=ok.n1
 have n2:=ok.n2
 have b2:=ok.b2
 have hck:=z4X (w:=w) (v:=v) p
 have hcp:=y42 (w:=w) (v:=v) p hpc
 rw[hp]at hck
 unfold plA plC at *
 rw[m3]at *
 simp (disch:=(try simp only[lZ]);omega) only[aZ,aM,zP6,z2x]
 refine hck.same (by simp (disch:=first|omega|simp (disch:=omega) only[aG,aM]) only[fZ,aM]) rfl (z7 ?_)
 simp (disch:=(try simp only[lZ]);omega) only[aZ,aM]
 apply y45
 ·intro hc
  refine hcp.same (by simp (disch:=first|omega|simp (disch:=omega) only[aG,aM]) only[fZ,aM]) (by simp (disch:=first|omega|simp (disch:=omega) only[aG,aM]) only[fZ,aM]) (z7 ?_)
  simp (disch:=(try simp only[lZ]);omega) only[aZ,aM]
  exact hc
 ·intro hc
  refine hcp.same (by simp (disch:=first|omega|simp (disch:=omega) only[aG,aM]) only[fZ,aM]) (by simp (disch:=first|omega|simp (disch:=omega) only[aG,aM]) only[fZ,aM]) (z7 ?_)
  simp (disch:=(try simp only[lZ]);omega) only[aZ,aM]
  exact hc
 refine(z1i m2 (by simp (disch:=(try simp only[lZ]);omega) only[aZ,aM];rfl)).mono ?_
 rintro r H' ⟨rfl,hH⟩
 rw[hH]
 refine z7 ?_
 simp (disch:=(try simp only[lZ]);omega) only[aZ,aM]
 refine AWP.cut (Cut.virtB (H.length+2) 0 4 1 (by simp (disch:=(try simp only[lZ]);omega) only[aZ,aM];rfl) rfl) ?_
 simp (disch:=(try simp only[lZ]);omega) only[aZ,aM]
 refine AWP.cut (Cut.virtB (H.length+2) 0 5 2 (by simp (disch:=(try simp only[lZ]);omega) only[aZ,aM];rfl) rfl) ?_
 simp (disch:=(try simp only[lZ]);omega) only[aZ,aM]
 refine AWP.cut (Cut.drop 19) ?_
 simp (disch:=(try simp only[lZ]);omega) only[aZ,aM]
 generalize hr2:H.length+(1+1)=r
 have gr0:∀K K':List Blk,Gr nof H K→Gr (fun i=>H.length<i) K K'→Gr nof H K':=fun K K' h1 h2=>h1.trans h2 fun i hi hf=>by have:H.length<i:=hf;omega
 have pa0:∀(K K':List Blk) (l:List A),blkAt K H.length 0=some l→Gr (fun i=>H.length<i) K K'→blkAt K' H.length 0=some l:=fun K K' l h1 h2=>h2.at h1 (by simp)
 refine AWP.loopM ym0 (fun x:Nat×Ad×List Blk=>x.1≤p.ms.length∧PN H.length x.2.2 p x.1 0 x.2.1∧(x.2.1 .root).1=r∧Gr nof H x.2.2∧blkAt x.2.2 H.length 0=some [.v (.int .i64 p.mt),.fs w (mcs w p.ms),.fs v (bts p.bs),.v (.int .i64 p.fd)]) (fun x=>[(6,.v (.int .i64 x.1))]) (fun x=>x.2.2) (fun x=>p.ms.length-x.1) (0,ad0 H.length,_) ⟨by omega,PN.init H p ⟨0,[.v (.int .i64 p.mt),.fs w (mcs w p.ms),.fs v (bts p.bs),.v (.int .i64 p.fd)]⟩,hr2,Gr.app _ _,by rw[x5];rfl⟩ ?_ ?_
 ·exact Cut.fg (by simp (disch:=first|omega|simp (disch:=omega) only[aG,aM]) only[fZ,aM,y0,z9,or_true,true_or])
 rintro⟨k,ad,K⟩ ⟨hk,hP,hr,hG,hB⟩
 simp only at hk hP hr hG hB
 have kr:=hP.rt
 rw[hr]at kr
 have kb:=hP.get .bef rfl
 simp only[ctK]at kb
 have lr:=hP.lt (c:=.root) rfl
 rw[hr]at lr
 have lb:=hP.lt (c:=.bef) rfl
 have nb:=hP.ne (c:=.bef) (d:=.root) rfl rfl (by simp)
 rw[hr]at nb
 by_cases hlt:k<p.ms.length
 ·unfold z1A slA at kr
  simp (disch:=(try simp only[lZ]);omega) only[aZ,aM,kr]
  refine(z1i m2 kr).mono ?_
  rintro x H' ⟨rfl,hH⟩
  rw[hH]
  refine z7 ?_
  have bl:=y6u p k ad
  have ap:=y6t p k ad K.length
  have tk:(befK p k ad).take k=befK p k ad:=List.take_of_length_le (by omega)
  have hN:=hP.addM [⟨0,ints (y9 p.mt)⟩,⟨0,[.sl K.length 0 1 0 p.mt]⟩] rfl
  have hg:=gr_t (K:=K) (T:=[⟨0,ints (y9 p.mt)⟩,⟨0,[.sl K.length 0 1 0 p.mt]⟩]) (B1:=⟨(ad .bef).2+1,befK p (k+1) (adM ad K.length k)⟩) (B2:=⟨0,z1A p (k+1) 0 (adM ad K.length k)⟩) (hP.hi .bef rfl) (hP.hi .root rfl)
  rw[hr]at hN hg
  simp (disch:=(try simp only[lZ]);omega) only[aZ,aM,kr,kb,bl,ap,tk]
  refine⟨(k+1,adM ad K.length k,_),⟨by simp only;omega,hN,hr,gr0 _ _ hG hg,pa0 _ _ _ hB hg⟩,by simp only;omega,?_⟩
  unfold z1A slA
  simp only[adM]
  try simp (disch:=(try simp only[lZ]);omega) only[aZ,aM]
  exact Cut.fg (by simp (disch:=first|omega|simp (disch:=omega) only[aG,aM]) only[fZ,aM,y0,z9,or_true,true_or])
 have hke:k=p.ms.length:=by omega
 rw[hke]at hP
 clear kr kb lr lb nb
 simp (disch:=(try simp only[lZ]);omega) only[aZ,aM,hB]
 refine AWP.loopM ym1 (fun x:Nat×Ad×List Blk=>x.1≤p.bs.length∧PN H.length x.2.2 p p.ms.length x.1 x.2.1∧(x.2.1 .root).1=r∧Gr nof H x.2.2∧blkAt x.2.2 H.length 0=some [.v (.int .i64 p.mt),.fs w (mcs w p.ms),.fs v (bts p.bs),.v (.int .i64 p.fd)]) (fun x=>[(9,.v (.int .i64 x.1))]) (fun x=>x.2.2) (fun x=>p.bs.length-x.1) (0,ad,K) ⟨by omega,hP,hr,hG,hB⟩ ?_ ?_
 ·exact Cut.fg (by simp (disch:=first|omega|simp (disch:=omega) only[aG,aM]) only[fZ,aM,y0,z9,or_true,true_or])
 clear hB hG hr hP hke hlt hk
 rintro⟨b,ad,K⟩ ⟨hk,hP,hr,hG,hB⟩
 simp only at hk hP hr hG hB
 have kr:=hP.rt
 rw[hr]at kr
 have kb:=hP.get .bel rfl
 simp only[ctK]at kb
 have lr:=hP.lt (c:=.root) rfl
 rw[hr]at lr
 have lb:=hP.lt (c:=.bel) rfl
 have nb:=hP.ne (c:=.bel) (d:=.root) rfl rfl (by simp)
 rw[hr]at nb
 by_cases hlt:b<p.bs.length
 ·unfold z1A slA at kr
  have lp:=y4 hB
  simp (disch:=(try simp only[lZ]);omega) only[aZ,aM]
  refine(z1i m2 (r:=r) (by simp (disch:=(try simp only[lZ]);omega) only[aZ,aM,kr];rfl)).mono ?_
  rintro x H' ⟨rfl,hH⟩
  rw[hH]
  refine z7 ?_
  simp (disch:=(try simp only[lZ]);omega) only[aZ,aM]
  have hbl:=y44 p b ad
  have hap:=y43 p b ad K.length
  have tk:(z9V p b ad).take (b*2)=z9V p b ad:=List.take_of_length_le (by omega)
  have hbt:=ok.bt _ (x3 b0 hlt)
  refine y2 (fun h1=>?_) (fun h1=>?_)
  ·have hrl:((p.bs.getD b b0).ln-1)=(p.rl b:Nat):=by unfold Pl.rl;omega
   have hr0:0<p.rl b:=by unfold Pl.rl;omega
   have hr16:p.rl b≤16:=by have:=ok.rl hlt;omega
   have hbn:=fun(kp:Bool) (H:List Blk)=>y9S (kp:=kp) (H:=H) (mat:=p.mt) (len:=p.rl b) (by omega) hr16 ⟨m1,m2⟩
   have q1:=y6v (K.length+3) (p.rl b) p.mt
   have q0:blkAt (yK7 (K.length+3) (p.rl b) p.mt) 0 0=some (belC (p.rl b) p.mt 0 (newA (K.length+3+1))):=rfl
   simp (disch:=(try simp only[lZ]);omega) only[aZ,aM,hrl,hB]
   refine(hbn _ _).mono ?_
   rintro x H' ⟨rfl,hH⟩
   rw[hH]
   refine z7 ?_
   simp only[List.length_append,List.length_cons,List.length_nil,Nat.zero_add,Nat.reduceAdd]
   generalize yK7 (K.length+3) (p.rl b) p.mt=G at *
   rw[if_pos hr0]at hap
   simp (disch:=(try simp only[lZ]);omega) only[aZ,aM,kr,kb,hbl,hap,tk]
   obtain⟨T,hTe⟩:∃T:List Blk,T=((⟨0,[.v (.int .i64 (p.bs.getD b b0).fr),.v (.int .i64 (p.bs.getD b b0).ot),.v (.int .i64 (p.bs.getD b b0).to),.v (.int .i64 (p.bs.getD b b0).ln)]⟩:Blk) :: ⟨0,ints (y9 p.mt)⟩ :: ⟨0,[.sl (K.length+1) 0 1 0 p.mt,.lp (K.length+3) 0 0]⟩ :: (G++[⟨0,[.sl (K.length+1) 0 1 0 p.mt,.lp (K.length+3) 0 0]⟩])):=⟨_,rfl⟩
   have hT:∀q,q<p.rl b→blkAt T (4+q) 0=some (ints (y9 p.mt)):=fun q hq=>by
    rw[hTe,show 4+q=(1+q)+3 by omega]
    show blkAt (G++_) (1+q) 0=_
    rw[x2 _ _ _ _ (y4 (q1 q hq))];exact q1 q hq
   have hT0:blkAt T 3 0=some (belC (p.rl b) p.mt 0 (fun q=>(K.length+(4+q),0))):=by
    rw[hTe]
    show blkAt (G++_) 0 0=_
    rw[x2 _ _ _ _ (y4 q0),q0]
    congr 2
    funext q
    simp only[newA];congr 1;omega
   have hN:=hP.addT T (by rw[hTe];rfl) (fun _=>⟨hT0,hT⟩)
   have hg:=gr_t (K:=K) (T:=T) (B1:=⟨(ad .bel).2+1,z9V p (b+1) (adT ad K.length b)⟩) (B2:=⟨0,z1A p p.ms.length (b+1) (adT ad K.length b)⟩) (hP.hi .bel rfl) (hP.hi .root rfl)
   clear hT hT0
   subst hTe
   rw[hr]at hN hg
   refine⟨(b+1,adT ad K.length b,_),⟨by simp only;omega,hN,hr,gr0 _ _ hG hg,pa0 _ _ _ hB hg⟩,by simp only;omega,?_⟩
   unfold z1A slA
   simp only[adT]
   try simp (disch:=(try simp only[lZ]);omega) only[aZ,aM]
   exact Cut.fg (by simp (disch:=first|omega|simp (disch:=omega) only[aG,aM]) only[fZ,aM,y0,z9,or_true,true_or])
  ·have hrl:p.rl b=0:=by unfold Pl.rl;omega
   rw[hrl,if_neg (by omega)]at hap
   have hN:=hP.addT [⟨0,[.v (.int .i64 (p.bs.getD b b0).fr),.v (.int .i64 (p.bs.getD b b0).ot),.v (.int .i64 (p.bs.getD b b0).to),.v (.int .i64 (p.bs.getD b b0).ln)]⟩,⟨0,ints (y9 p.mt)⟩,⟨0,[.sl (K.length+1) 0 1 0 p.mt,.v (.pointer none)]⟩,⟨0,[.sl (K.length+1) 0 1 0 p.mt,.v (.pointer none)]⟩] rfl (fun hc=>by omega)
   have hg:=gr_t (K:=K) (T:=[⟨0,[.v (.int .i64 (p.bs.getD b b0).fr),.v (.int .i64 (p.bs.getD b b0).ot),.v (.int .i64 (p.bs.getD b b0).to),.v (.int .i64 (p.bs.getD b b0).ln)]⟩,⟨0,ints (y9 p.mt)⟩,⟨0,[.sl (K.length+1) 0 1 0 p.mt,.v (.pointer none)]⟩,⟨0,[.sl (K.length+1) 0 1 0 p.mt,.v (.pointer none)]⟩]) (B1:=⟨(ad .bel).2+1,z9V p (b+1) (adT ad K.length b)⟩) (B2:=⟨0,z1A p p.ms.length (b+1) (adT ad K.length b)⟩) (hP.hi .bel rfl) (hP.hi .root rfl)
   rw[hr]at hN hg
   simp (disch:=(try simp only[lZ]);omega) only[aZ,aM,kr,kb,hbl,hap,tk]
   refine⟨(b+1,adT ad K.length b,_),⟨by simp only;omega,hN,hr,gr0 _ _ hG hg,pa0 _ _ _ hB hg⟩,by simp only;omega,?_⟩
   unfold z1A slA
   simp only[adT]
   try simp (disch:=(try simp only[lZ]);omega) only[aZ,aM]
   exact Cut.fg (by simp (disch:=first|omega|simp (disch:=omega) only[aG,aM]) only[fZ,aM,y0,z9,or_true,true_or])
 have hke:b=p.bs.length:=by omega
 subst hke
 have hlo:=fun c hc=>hP.hi c hc
 have hzr:=hP.zr
 obtain⟨hget,hinj,_,_⟩:=hP
 rw[y9R]at hget hinj hlo
 simp (disch:=(try simp only[lZ]);omega) only[aZ,aM,z8t]
 have hm:=(y7 hpc).mt1.2.2
 have e1:(z1A p p.ms.length p.bs.length ad).set 4 (.sl (ad .bef).1 (ad .bef).2 1 0 p.ms.length)=zw3 p ad:=by
  unfold zw3
  rw[hm];rfl
 have hset:∀c,usd p c=true→c≠.root→blkAt (K.set r ⟨0,zw3 p ad⟩) (ad c).1 (ad c).2=some (ctK p p.ms.length p.bs.length ad c):=fun c hc hn=>by
  rw[y5 _ _ _ _ _ (fun he=>hn (hinj c .root hc rfl (he.trans hr.symm)))];exact hget c hc
 have P1:PM (K.set r ⟨0,zw3 p ad⟩) p ad (newS p):=by
  refine⟨fun c hc=>?_,hinj,hzr⟩
  cases c with
  | root=>rw[hr,hzr.1];exact x0 _ _ _ _ lr
  | _=>exact hset _ hc (by simp)
 have hc:=Cut.cellS (n0:=H.length) (e:=[.tup [.lp r 0 0,.v (.int .i64 0)]]) r 0 4 kr rfl n1
 rw[e1]at hc
 have h1:=hlo .root rfl
 rw[hr]at h1
 refine⟨_,K.set r ⟨0,zw3 p ad⟩,hc,ad,by rw[hr],P1,hG.trans (Gr.set (F:=one r) _ _ _ rfl) fun i hi hf=>?_,fun c hc=>Nat.le_of_lt (hlo c hc)⟩
 have:i=r:=hf
 omega
theorem y9T{H:List Blk}{w v:Bool}(p:Pl)(hp:chkP p≠0):VR P false z2w [plA w v p] H (fun r H'=>r=.tup [.v (.pointer none),.v (.int .i64 (chkP p))]∧Gr nof H H'):=by
 refine z6j (by simp) (.inl rfl) fun _ _=>?_
 have hck:=z4X (w:=w) (v:=v) p
 generalize chkP p=e at *
 unfold plA plC at *
 simp (disch:=(try simp only[lZ]);omega) only[aZ,aM,zP6,z2x]
 refine hck.same (by simp (disch:=first|omega|simp (disch:=omega) only[aG,aM]) only[fZ,aM]) rfl (z7 ?_)
 simp (disch:=(try simp only[lZ]);omega) only[aZ,aM,decide_eq_true hp,z8t]
 exact zd5 (R:=fun r H'=>_) ⟨rfl,Gr.app _ _⟩
end Go.Proofs.YtcppaddgclkekaaGreat
namespace Go.Proofs.YtcppaddgclkekaaGreat
open Go Go.Lft
set_option linter.unusedSimpArgs false
set_option linter.unusedVariables false
def slt(p:Pl)(s:Sy)(i:Nat):Nat→List Int
 | 0=>s.fst i
 | k+1=>s.rng i ((s.pos i+k) % p.rl i)
theorem z21(p:Pl)(s:Sy)(i:Nat):outM p s i=slt p s i (p.rl i):=by
 unfold outM Pl.nxt
 cases h:p.rl i with
 | zero=>rfl
 | succ r=>rw[if_pos (by omega)];simp only[slt,h];rfl
theorem y46{a r k:Nat}(h1:0<k)(h2:k<r):((a+r-1) % r+k) % r=(a+(k-1)) % r:=by
 rw[Nat.mod_add_mod,show a+r-1+k=a+(k-1)+r by omega,Nat.add_mod_right]
theorem y9U{a r k:Nat}(h1:0<k)(h2:k<r):((a+r-1) % r+k) % r≠(a+r-1) % r:=by
 have h3:(a+r-1) % r<r:=Nat.mod_lt _ (by omega)
 generalize (a+r-1) % r=b at *
 intro hc
 by_cases h:b+k<r
 ·rw[Nat.mod_eq_of_lt h]at hc;omega
 ·rw[Nat.mod_eq_sub_mod (by omega),Nat.mod_eq_of_lt (by omega)]at hc;omega
theorem y9V(p:Pl)(s:Sy)(i j k:Nat)(hk:k≤p.rl j):slt p (mvA p s i) j k=if j=i then(if k=0 then y9 p.mt else slt p s i (k-1))else slt p s j k:=by
 by_cases e:j=i
 ·subst e
  rw[if_pos rfl]
  cases k with
  | zero=>simp [slt,mvA,z9Q,x1]
  | succ k =>
   rw[if_neg (by omega)]
   have hr:0<p.rl j:=by omega
   have e1:(mvA p s j).pos j=p.nxt s j:=by simp only[mvA,movS];rw[if_pos hr];simp only[rolS,x1];rfl
   have e2:(mvA p s j).rng j=updF (s.rng j) (p.nxt s j) (s.fst j):=by simp only[mvA,movS];rw[if_pos hr];simp only[rolS,x1];rfl
   simp only[slt,e1,e2]
   have hn:p.nxt s j<p.rl j:=Nat.mod_lt _ hr
   cases k with
   | zero=>simp only[Nat.add_zero,Nat.mod_eq_of_lt hn,x1];rfl
   | succ k =>
    unfold Pl.nxt
    rw[x9 _ _ (y9U (by omega) (by omega)),y46 (by omega) (by omega)]
    rfl
 ·rw[if_neg e]
  have e0:(mvA p s i).fst j=s.fst j:=by simp only[mvA,z9Q];rw[x9 _ _ e]
  have e1:(mvA p s i).pos j=s.pos j:=by
   simp only[mvA,movS];split
   ·simp only[rolS,empS];rw[x9 _ _ e]
   ·rfl
  have e2:(mvA p s i).rng j=s.rng j:=by
   simp only[mvA,movS];split
   ·simp only[rolS,empS];rw[x9 _ _ e]
   ·rfl
  cases k with
  | zero=>exact e0
  | succ k=>simp only[slt,e1,e2]
theorem yr3(p:Pl)(s:Sy)(i k:Nat)(hk:k≤p.rl i):∀j,slt p (mvK p s j) i k=if i<j then(if k=0 then y9 p.mt else slt p s i (k-1))else slt p s i k
 | 0=>by simp [mvK]
 | j+1=>by
  simp only[mvK]
  rw[y9V _ _ _ _ _ hk]
  by_cases e:i=j
  ·subst e
   rw[if_pos rfl]
   by_cases h0:k=0
   ·simp [h0]
   ·have:=yr3 p s i (k-1) (by omega) i
    simp only[h0,if_false,this];simp
  ·rw[if_neg e,yr3 p s i k hk j]
   by_cases h:i<j
   ·simp [h,show i<j+1 by omega]
   ·simp [h,show ¬i<j+1 by omega]
theorem y9W(p:Pl)(s:Sy)(j:Nat):outM p (mvK p s j) j=outM p s j:=by
 rw[z21,z21,yr3 _ _ _ _ (Nat.le_refl _),if_neg (by omega)]
def arrK(p:Pl)(s:Sy)(m k:Nat):List Int:=tb p.mt fun x=>(s.bef m).getD x 0+sm k fun i=>if tpS p i=m then(outM p s i).getD x 0 else 0
def arrL(p:Pl)(s:Sy)(m:Nat):List Int:=arrK p s m p.bs.length
theorem z9W{p:Pl}(ok:POk p){s:Sy}(h:Gd p s){m:Nat}(hm:m<p.ms.length):∀k,k≤p.bs.length→(mvK p s k).bef m=arrK p s m k
 | 0,_=>by
  have hl:=(h.bl m hm).1
  unfold arrK
  simp only[mvK,sm]
  refine Z5 0 (by rw[zb2,hl]) fun x hx=>?_
  rw[zx3 _ _ _ (by omega)];omega
 | k+1,hk=>by
  have ih:=z9W ok h hm k (by omega)
  have ho:=((h.ok).out (i:=k) (by omega)).1
  simp only[mvK,mvA]
  rw[y9W]
  by_cases e:m=tpS p k
  ·rw[← e,x1,ih]
   unfold arrK
   rw[z20]
   refine z9S fun x hx=>?_
   simp only[sm];rw[if_pos e.symm];omega
  ·rw[x9 _ _ e,ih]
   unfold arrK
   refine z9S fun x hx=>?_
   simp only[sm];rw[if_neg (fun hc=>e hc.symm)];omega
def runs(p:Pl)(s:Sy)(m:Nat):Prop:=¬(y3 (p.ms.getD m [])=0∨s.hal.getD m false=true)
instance(p:Pl)(s:Sy)(m:Nat):Decidable (runs p s m):=inferInstanceAs (Decidable (¬_))
theorem yK8(p:Pl)(s:Sy)(m:Nat):∀k,(dsK p s k).bef m=if m<k∧runs p s m then y9 p.mt else s.bef m
 | 0=>by rw[if_neg (by omega)];rfl
 | k+1=>by
  have ih:=yK8 p s m k
  have hh:=(z54 (p:=p) s k).1
  simp only[dsK,disA]
  rw[hh]
  split
  ·rename_i hc
   rw[ih]
   by_cases e:m=k
   ·subst e;rw[if_neg (by omega),if_neg (fun h=>h.2 hc)]
   ·by_cases h:m<k∧runs p s m
    ·rw[if_pos h,if_pos ⟨by omega,h.2⟩]
    ·rw[if_neg h,if_neg (fun h2=>h ⟨by omega,h2.2⟩)]
  ·rename_i hc
   simp only[disS]
   by_cases e:m=k
   ·subst e;rw[x1,if_pos ⟨by omega,hc⟩]
   ·rw[x9 _ _ e]
    show(dsK p s k).bef m=_
    rw[ih]
    by_cases h:m<k∧runs p s m
    ·rw[if_pos h,if_pos ⟨by omega,h.2⟩]
    ·rw[if_neg h,if_neg (fun h2=>h ⟨by omega,h2.2⟩)]
def prtL(p:Pl)(m:Nat)(l:List Int)(o:Nat):List Int:=(msM (p.ms.getD m []) l).getD o []
def frS(p:Pl)(i:Nat):Nat:=(p.bs.getD i b0).fr.toNat
def otS(p:Pl)(i:Nat):Nat:=(p.bs.getD i b0).ot.toNat
theorem y0l{p:Pl}(ok:POk p)(s:Sy){i:Nat}(hi:i<p.bs.length):∀k,(dsK p s k).fst i=if frS p i<k∧runs p s (frS p i)then prtL p (frS p i) (s.bef (frS p i)) (otS p i)else s.fst i
 | 0=>by rw[if_neg (by omega)];rfl
 | k+1=>by
  have ih:=y0l ok s hi k
  have hh:=(z54 (p:=p) s k).1
  have hb:=ok.bt _ (x3 b0 hi)
  have hf:(p.bs.getD i b0).fr=(frS p i:Int):=by unfold frS;omega
  simp only[dsK,disA]
  rw[hh]
  split
  ·rename_i hc
   rw[ih]
   by_cases e:frS p i=k
   ·rw[if_neg (by omega),if_neg (fun h=>h.2 (by rw[e];exact hc))]
   ·by_cases h:frS p i<k∧runs p s (frS p i)
    ·rw[if_pos h,if_pos ⟨by omega,h.2⟩]
    ·rw[if_neg h,if_neg (fun h2=>h ⟨by omega,h2.2⟩)]
  ·rename_i hc
   simp only[disS,disK]
   by_cases e:frS p i=k
   ·rw[if_pos ⟨by omega,by rw[← e];exact hb.2.2.2.1⟩,if_pos ⟨by omega,by rw[e];exact hc⟩]
    unfold prt prtL
    rw[e,yK8,if_neg (by omega)];rfl
   ·rw[if_neg (fun h=>e (by omega)),ih]
    by_cases h:frS p i<k∧runs p s (frS p i)
    ·rw[if_pos h,if_pos ⟨by omega,h.2⟩]
    ·rw[if_neg h,if_neg (fun h2=>h ⟨by omega,h2.2⟩)]
theorem y47(p:Pl)(s:Sy):∀k,(dsK p s k).rng=s.rng∧(dsK p s k).pos=s.pos
 | 0=>⟨rfl,rfl⟩
 | k+1=>by
  have ih:=y47 p s k
  simp only[dsK,disA]
  split
  ·exact ih
  ·exact ih
theorem y0m(p:Pl)(s:Sy)(k m:Nat):runs p (mvK p s k) m=runs p s m:=by unfold runs;rw[(z9R p s k).1]
theorem z9X{p:Pl}(ok:POk p){s:Sy}(h:Gd p s){m:Nat}(hm:m<p.ms.length):(stpS p s).bef m=if runs p s m then y9 p.mt else arrL p s m:=by
 unfold stpS arrL
 rw[yK8,z9W ok h hm _ (Nat.le_refl _)]
 simp only[y0m]
 by_cases hr:runs p s m
 ·rw[if_pos ⟨hm,hr⟩,if_pos hr]
 ·rw[if_neg (fun h=>hr h.2),if_neg hr]
theorem y6w{p:Pl}(ok:POk p){i:Nat}(hi:i<p.bs.length):frS p i<p.ms.length:=by
 have:=ok.bt _ (x3 b0 hi)
 unfold frS;omega
theorem z4Z{p:Pl}(ok:POk p){s:Sy}(h:Gd p s){i:Nat}(hi:i<p.bs.length):slt p (stpS p s) i 0=if runs p s (frS p i)then prtL p (frS p i) (arrL p s (frS p i)) (otS p i)else y9 p.mt:=by
 have hf:=y6w ok hi
 show(stpS p s).fst i=_
 unfold stpS arrL
 rw[y0l ok _ hi,z9W ok h hf _ (Nat.le_refl _),yq8]
 simp only[y0m]
 by_cases hr:runs p s (frS p i)
 ·rw[if_pos ⟨hf,hr⟩,if_pos hr]
 ·rw[if_neg (fun h=>hr h.2),if_neg hr,if_pos hi]
theorem z40{p:Pl}{s:Sy}{i k:Nat}(hi:i<p.bs.length)(hk:k<p.rl i):slt p (stpS p s) i (k+1)=slt p s i k:=by
 have h1:=yr3 p s i (k+1) (by omega) p.bs.length
 rw[if_pos hi,if_neg (by omega),Nat.add_sub_cancel]at h1
 rw[← h1]
 obtain⟨e1,e2⟩:=y47 p (mvK p s p.bs.length) p.ms.length
 simp only[slt,stpS,e1,e2]
theorem y0n(n:Nat)(f:Nat→Int):sm (n+1) f=f 0+sm n fun k=>f (k+1):=by
 induction n with
 | zero=>simp [sm]
 | succ n ih=>rw[show sm (n+1+1) f=sm (n+1) f+f (n+1)from rfl,ih];simp only[sm];omega
theorem y9X(n:Nat)(g:Nat→Int):sm n (fun k=>g ((1+k) % n))=sm n g:=by
 cases n with
 | zero=>rfl
 | succ m =>
  rw[y0n m g]
  simp only[sm]
  rw[show(1+m) % (m+1)=0 by rw[Nat.add_comm,Nat.mod_self],Int.add_comm]
  congr 1
  exact Z7 fun k hk=>by rw[Nat.mod_eq_of_lt (by omega),Nat.add_comm]
theorem y8z(n:Nat)(f:Nat→Int):∀c,sm n (fun k=>f ((c+k) % n))=sm n f
 | 0=>Z7 fun k hk=>by rw[Nat.zero_add,Nat.mod_eq_of_lt hk]
 | c+1=>by
  rw[← y8z n f c,← y9X n fun k=>f ((c+k) % n)]
  refine Z7 fun k hk=>?_
  rw[Nat.add_mod_mod];congr 2;omega
theorem z9Y(p:Pl)(s:Sy)(x i:Nat):inB p s x i=sm (p.rl i+1) fun k=>(slt p s i k).getD x 0:=by
 rw[y0n]
 unfold inB
 congr 1
 exact(y8z (p.rl i) (fun q=>(s.rng i q).getD x 0) (s.pos i)).symm
structure Eqv(p:Pl)(s t:Sy):Prop where
 bef:∀m,m<p.ms.length→s.bef m=t.bef m
 slt:∀i,i<p.bs.length→∀k,k≤p.rl i→slt p s i k=slt p t i k
 hal:s.hal=t.hal
 fed:s.fed=t.fed
theorem Eqv.refl(p:Pl)(s:Sy):Eqv p s s:=⟨fun _ _=>rfl,fun _ _ _ _=>rfl,rfl,rfl⟩
theorem Eqv.symm{p:Pl}{s t:Sy}(h:Eqv p s t):Eqv p t s:=⟨fun m hm=>(h.bef m hm).symm,fun i hi k hk=>(h.slt i hi k hk).symm,h.hal.symm,h.fed.symm⟩
theorem Eqv.trans{p:Pl}{s t u:Sy}(h:Eqv p s t)(g:Eqv p t u):Eqv p s u:=⟨fun m hm=>(h.bef m hm).trans (g.bef m hm),fun i hi k hk=>(h.slt i hi k hk).trans (g.slt i hi k hk),h.hal.trans g.hal,h.fed.trans g.fed⟩
theorem Eqv.arr{p:Pl}{s t:Sy}(h:Eqv p s t){m:Nat}(hm:m<p.ms.length):arrL p s m=arrL p t m:=by
 unfold arrL arrK
 refine z9S fun x _=>?_
 rw[h.bef m hm]
 congr 1
 refine Z7 fun i hi=>?_
 rw[z21,z21,h.slt i hi _ (Nat.le_refl _)]
theorem Eqv.runs{p:Pl}{s t:Sy}(h:Eqv p s t)(m:Nat):runs p s m=runs p t m:=by unfold Go.Proofs.YtcppaddgclkekaaGreat.runs;rw[h.hal]
theorem Eqv.stp{p:Pl}(hp:y6 p=0){s t:Sy}(hs:Gd p s)(ht:Gd p t)(h:Eqv p s t):Eqv p (stpS p s) (stpS p t):=by
 have ok:=y7 hp
 refine⟨fun m hm=>?_,fun i hi k hk=>?_,?_,?_⟩
 ·rw[z9X ok hs hm,z9X ok ht hm,h.arr hm];simp only[h.runs m]
 ·cases k with
  | zero=>rw[z4Z ok hs hi,z4Z ok ht hi,h.arr (y6w ok hi)];simp only[h.runs (frS p i)]
  | succ k=>rw[z40 hi (by omega),z40 hi (by omega)];exact h.slt i hi k (by omega)
 ·rw[(hs.stp hp).2.2.1,(ht.stp hp).2.2.1,h.hal]
 ·rw[(hs.stp hp).2.2.2,(ht.stp hp).2.2.2,h.fed]
theorem zq7{n:Nat}{f:Nat→Int}(h:∀i,i<n→0≤f i)(hz:sm n f=0){i:Nat}(hi:i<n):f i=0:=by
 have:=yK4 h hi
 have:=h i hi
 omega
theorem yr4{n:Nat}{l:List Int}(hl:l.length=n)(h:∀x,l.getD x 0=0):l=y9 n :=
 Z5 0 (by rw[hl];simp [y9]) fun x _=>by rw[h x,Y5]
theorem yr5{p:Pl}{s:Sy}(h:Gd p s)(hz:∀x,insT p s x=0){m:Nat}(hm:m<p.ms.length)(hb:¬binN p m):s.bef m=y9 p.mt:=by
 refine yr4 (h.bl m hm).1 fun x=>?_
 have h1:=zn8 (zY1 h x)
 have h2:=zn8 (zY2 h x)
 have h3:=hz x
 unfold insT at h3
 have h4:=zq7 (zY1 h x) (by omega) hm
 unfold inM at h4
 rwa [if_neg (show ¬y3 (p.ms.getD m [])=0 from hb)]at h4
theorem yj7{p:Pl}{s:Sy}(h:Gd p s){i k:Nat}(hi:i<p.bs.length)(hk:k≤p.rl i):(slt p s i k).length=p.mt∧∀x,0≤(slt p s i k).getD x 0:=by
 cases k with
 | zero=>exact h.fl i hi
 | succ k=>exact h.rl i hi _ (Nat.mod_lt _ (by omega))
theorem yK9{p:Pl}{s:Sy}(h:Gd p s)(hz:∀x,insT p s x=0){i k:Nat}(hi:i<p.bs.length)(hk:k≤p.rl i):slt p s i k=y9 p.mt:=by
 refine yr4 (yj7 h hi hk).1 fun x=>?_
 have h1:=zn8 (zY1 h x)
 have h2:=zn8 (zY2 h x)
 have h3:=hz x
 unfold insT at h3
 have h4:=zq7 (zY2 h x) (by omega) hi
 rw[z9Y]at h4
 exact zq7 (n:=p.rl i+1) (f:=fun k=>(slt p s i k).getD x 0) (fun q hq=>(yj7 h hi (by omega)).2 x) h4 (by omega)
theorem y48{p:Pl}{s:Sy}(h:Gd p s)(hz:∀x,insT p s x=0){m:Nat}(hm:m<p.ms.length):arrL p s m=s.bef m:=by
 refine Z5 0 (by unfold arrL arrK;rw[zb2,(h.bl m hm).1]) fun x hx=>?_
 unfold arrL arrK at hx ⊢
 rw[zb2]at hx
 rw[zx3 _ _ _ hx,Z7 (g:=fun _=>0) fun i hi=>by rw[z21,yK9 h hz hi (Nat.le_refl _),Y5];split<;>rfl,zK1];omega
theorem y6x{p:Pl}(hp:y6 p=0){m:Nat}(hm:m<p.ms.length)(hb:¬binN p m){o:Nat}(ho:o<y3 (p.ms.getD m [])):prtL p m (y9 p.mt) o=y9 p.mt:=by
 have hx:zn7 p.mt ((newS p).bef m):=zi2 _
 have h1:=y0e hp hm hb hx ho
 refine yr4 h1.1 fun x=>?_
 have h2:=y4R hp hm hb hx x
 have h3:((newS p).bef m).getD x 0=0:=Y5 _ _
 rw[h3]at h2
 exact zq7 (f:=fun o=>(prt p (newS p) m o).getD x 0) (fun o ho=>((y0e hp hm hb hx ho).2 x).1) h2 ho
theorem y9Y{p:Pl}(hp:y6 p=0){s:Sy}(h:Gd p s)(hz:∀x,insT p s x=0):Eqv p (stpS p s) s:=by
 have ok:=y7 hp
 refine⟨fun m hm=>?_,fun i hi k hk=>?_,(h.stp hp).2.2.1,(h.stp hp).2.2.2⟩
 ·rw[z9X ok h hm]
  split
  ·rename_i hr
   exact(yr5 h hz hm fun hb=>hr (.inl hb)).symm
  ·exact y48 h hz hm
 ·rw[yK9 h hz hi hk]
  cases k with
  | zero =>
   rw[z4Z ok h hi]
   split
   ·rename_i hr
    have hb:¬binN p (frS p i):=fun hb=>hr (.inl hb)
    have hf:=y6w ok hi
    have hbt:=ok.bt _ (x3 b0 hi)
    rw[y48 h hz hf,yr5 h hz hf hb]
    exact y6x hp hf hb (by unfold otS frS;omega)
   ·rfl
  | succ k=>rw[z40 hi (by omega)];exact yK9 h hz hi (by omega)
theorem y8A{p:Pl}(hp:y6 p=0){s:Sy}(h:Gd p s)(hz:∀x,insT p s x=0):∀k,Eqv p (itS p s k) s
 | 0=>Eqv.refl p s
 | k+1=>(Eqv.stp hp (h.it hp k).1 h (y8A hp h hz k)).trans (y9Y hp h hz)
theorem y49(p:Pl)(s:Sy)(j:Nat):∀k,itS p s (j+k)=itS p (itS p s j) k
 | 0=>rfl
 | k+1=>by rw[← Nat.add_assoc];simp only[itS];rw[y49 p s j k]
theorem y5a{p:Pl}(hp:y6 p=0){s:Sy}(h:Gd p s){k n:Nat}(hk:k≤n)(hz:k=n∨∀x,insT p (itS p s k) x=0):Eqv p (itS p s k) (itS p s n):=by
 rcases hz with rfl|hz
 ·exact Eqv.refl _ _
 ·rw[show n=k+(n-k) by omega,y49]
  exact(y8A hp (h.it hp k).1 hz (n-k)).symm
def rcv(p:Pl)(s:Sy)(m:Nat)(x:Nat):Int:=sm p.bs.length fun i=>if tpS p i=m then(outM p s i).getD x 0 else 0
theorem y5b{p:Pl}{s:Sy}(h:Gd p s)(m x i:Nat)(hi:i<p.bs.length):0≤(if tpS p i=m then(outM p s i).getD x 0 else 0):=by
 split
 ·exact((h.ok.out hi).2 x).1
 ·omega
theorem y8B{p:Pl}{s:Sy}(h:Gd p s)(x:Nat){i:Nat}(hi:i<p.bs.length):(outM p s i).getD x 0≤rcv p s (tpS p i) x:=by
 have:=yK4 (f:=fun j=>if tpS p j=tpS p i then(outM p s j).getD x 0 else 0) (fun j hj=>y5b h _ x j hj) hi
 rw[if_pos rfl]at this;exact this
theorem yr6{p:Pl}{s:Sy}(h:Gd p s){m:Nat}(hm:m<p.ms.length)(x:Nat):(arrL p s m).getD x 0=(s.bef m).getD x 0+rcv p s m x:=by
 unfold arrL arrK
 by_cases hx:x<p.mt
 ·rw[zx3 _ _ _ hx];rfl
 ·rw[zi7 (n:=p.mt) (zb2 _ _) (by omega),zi7 (h.bl m hm).1 (by omega)]
  unfold rcv
  rw[Z7 (g:=fun _=>0) fun i hi=>by
   split
   ·exact zi7 (h.ok.out hi).1 (by omega)
   ·rfl,zK1];rfl
theorem y8C{p:Pl}(ok:POk p){s:Sy}(h:Gd p s){m:Nat}(hm:m<p.ms.length):zn7 p.mt (arrL p s m):=by
 have:=(h.mvK ok p.bs.length (Nat.le_refl _)).1.ok.bef m hm
 rw[z9W ok h hm _ (Nat.le_refl _)]at this;exact this
def binT(p:Pl)(s:Sy)(x:Nat):Int:=sm p.ms.length fun m=>if y3 (p.ms.getD m [])=0 then(s.bef m).getD x 0 else 0
theorem yL0(p:Pl)(s:Sy)(x:Nat):tot p s x=insT p s x+binT p s x:=by
 unfold tot insT binT befT
 have h1:(sm p.ms.length fun m=>(s.bef m).getD x 0)=sm p.ms.length (inM p s x)+sm p.ms.length fun m=>if y3 (p.ms.getD m [])=0 then(s.bef m).getD x 0 else 0:=by
  rw[← y0f]
  refine Z7 fun m hm=>?_
  unfold inM;split<;>omega
 have h2:fstT p s x+rngT p s x=sm p.bs.length (inB p s x):=by
  unfold fstT rngT;rw[← y0f];exact Z7 fun i _=>rfl
 omega
theorem y9Z{p:Pl}(ok:POk p){s:Sy}(h:Gd p s)(x:Nat):binT p (stpS p s) x=binT p s x+sm p.ms.length fun m=>if y3 (p.ms.getD m [])=0 then rcv p s m x else 0:=by
 unfold binT
 rw[← y0f]
 refine Z7 fun m hm=>?_
 split
 ·rename_i hb
  rw[z9X ok h hm,if_neg (fun hr=>hr (.inl hb)),yr6 h hm]
 ·rfl
theorem y8D{p:Pl}{s:Sy}(h:Gd p s)(x m:Nat):0≤(if y3 (p.ms.getD m [])=0 then rcv p s m x else 0):=by
 split
 ·exact zn8 fun i hi=>y5b h m x i hi
 ·omega
theorem y5c{p:Pl}(hp:y6 p=0){s:Sy}(h:Gd p s)(x:Nat):insT p (stpS p s) x≤insT p s x∧∀b,b<p.ms.length→binN p b→insT p (stpS p s) x≤insT p s x-rcv p s b x:=by
 have h1:=(h.stp hp).2.1 x
 rw[yL0,yL0,y9Z (y7 hp) h]at h1
 have h2:=zn8 (n:=p.ms.length) (f:=fun m=>if y3 (p.ms.getD m [])=0 then rcv p s m x else 0) fun m _=>y8D h x m
 refine⟨by omega,fun b hb hbin=>?_⟩
 have h3:=yK4 (f:=fun m=>if y3 (p.ms.getD m [])=0 then rcv p s m x else 0) (fun m _=>y8D h x m) hb
 rw[if_pos (show y3 (p.ms.getD b [])=0 from hbin)]at h3
 omega
theorem yD4{p:Pl}(hp:y6 p=0){s:Sy}(h:Gd p s)(x:Nat):∀k j,insT p (itS p s (j+k)) x≤insT p (itS p s j) x
 | 0,j=>Int.le_refl _
 | k+1,j=>Int.le_trans (y5c hp (h.it hp (j+k)).1 x).1 (yD4 hp h x k j)
theorem z41(p:Pl)(mt:Int)(i:Nat):∀j,posR p mt (nx p mt i) j=posR p mt i (j+1)
 | 0=>rfl
 | j+1=>by simp only[posR,z41 p mt i j]
theorem yD5(p:Pl)(mt:Int)(i:Nat):∀j,farR p mt i (j+1)=lx p mt i+farR p mt (nx p mt i) j
 | 0=>by simp [farR,posR]
 | j+1=>by
  have:=yD5 p mt i j
  simp only[farR]at this ⊢
  rw[z41,Int.add_assoc,← Int.add_assoc,← Int.add_assoc]
  simp only[posR]at this ⊢
  omega
theorem y6y{p:Pl}(h:POk p){mt:Int}(h0:0≤mt)(h1:mt<p.mat){i:Nat}(hi:i<p.ms.length)(hb:¬binN p i)(hw:(wayV p mt i).2=true):
    (wayV p mt (nx p mt i)).2=true∧(wayV p mt i).1=(wayV p mt (nx p mt i)).1+lx p mt i∧0≤(wayV p mt (nx p mt i)).1:=by
  have hn:=(z6Z h h0 h1 hi hb).2.2.2.1
  have hn2:=h.n2
  rcases z1h h h0 h1 hi with⟨k,k1,k2,k3,k4⟩|⟨k1,k2⟩
  · match k,k1,k2,k3,k4 with
    | 0,_,_,k3,_=>exact(hb k3).elim
    | k+1,k1,k2,k3,k4 =>
      have c1:∀j,j<k→¬binN p (posR p mt (nx p mt i) j):=fun j hj=>by rw[z41];exact k2 (j+1) (by omega)
      have c2:binN p (posR p mt (nx p mt i) k):=by rw[z41];exact k3
      have c3:=yp8 (f:=p.ms.length) (by omega) c1 c2
      have c4:=z50 h h0 h1 hn k c1
      unfold wayV
      rw[k4,c3,yD5]
      exact⟨rfl,by simp only;omega,c4.1⟩
  · unfold wayV at hw
    rw[k2]at hw;cases hw
theorem y5d{p:Pl}(h:POk p){mt:Int}(h0:0≤mt)(h1:mt<p.mat){i:Nat}(hi:i<p.ms.length)(hw:(wayV p mt i).2=true):0≤(wayV p mt i).1∧(wayV p mt i).1≤16*p.ms.length:=by
 rcases z1h h h0 h1 hi with⟨k,k1,k2,k3,k4⟩|⟨k1,k2⟩
 ·have:=z50 h h0 h1 hi k k2
  unfold wayV
  rw[k4]
  simp only;omega
 ·unfold wayV at hw
  rw[k2]at hw;cases hw
theorem y0o{p:Pl}{s:Sy}{i:Nat}(hi:i<p.bs.length)(j k:Nat):∀d,k+d≤p.rl i→slt p (itS p s (j+d)) i (k+d)=slt p (itS p s j) i k
 | 0,_=>rfl
 | d+1,hd=>by
  rw[← Nat.add_assoc,← Nat.add_assoc]
  simp only[itS]
  rw[z40 hi (by omega)];exact y0o hi j k d (by omega)
theorem y0p{p:Pl}{s:Sy}{i k:Nat}(hi:i<p.bs.length)(hk:k≤p.rl i)(j:Nat):outM p (itS p s (j+(p.rl i-k))) i=slt p (itS p s j) i k:=by
 have:=y0o (p:=p) (s:=s) hi j k (p.rl i-k) (by omega)
 rw[show k+(p.rl i-k)=p.rl i by omega]at this
 rw[z21,this]
theorem y6z{p:Pl}(hp:y6 p=0){m x:Nat}(hm:m<p.ms.length)(hb:¬binN p m){l:List Int}(hl:zn7 p.mt l)(hx:x<p.mt)(h1:1≤l.getD x 0):1≤(prtL p m l (zf0 (p.ms.getD m []) x).toNat).getD x 0:=by
 obtain⟨z1,z2,z3⟩:=yq4 (z4W hp hm hb hl)
 have ok:=y7 hp
 obtain⟨m1,m2,m3⟩:=ok.mt1
 have hxl:x<l.length:=by rw[hl.1];exact hx
 have hk:x<(p.ms.getD m []).length:=by have:=z1.len;omega
 have d:=yK1 z1 z2 hk (z3 x hxl)
 obtain⟨g1,g2,g3⟩:=z4O (ok.mc _ (x3 [] hm)) hb (k:=x) (by omega) (by omega)
 unfold prtL
 rw[y4D _ _ (by omega) hxl]
 exact d.first (by omega)
def noH(s:Sy):Prop:=∀m:Nat,s.hal.getD m false=false
theorem y8E{p:Pl}(hp:y6 p=0){s:Sy}(h:Gd p s)(hh:noH s)(k:Nat):noH (itS p s k):=fun m=>by rw[(h.it hp k).2.2.1];exact hh m
theorem y5e{p:Pl}(hc:chkP p=0){s:Sy}(h:Gd p s)(hh:noH s){x:Nat}(hx:x<p.mt):∀(n m j:Nat),m<p.ms.length→¬binN p m→(wayV p x m).1=n→1≤(arrL p (itS p s j) m).getD x 0 →
    ∃t b,t≤j+n∧b<p.ms.length∧binN p b∧1≤rcv p (itS p s t) b x:=by
  obtain⟨hp,hd⟩:=zc7 hc
  have ok:=y7 hp
  obtain⟨m1,m2,m3⟩:=ok.mt1
  have hdr:=(z2Z ok).1 hd
  intro n
  induction n using Nat.strongRecOn with
  | ind n ih =>
    intro m j hm hb hn ha
    obtain⟨o1,o2,o3,o4,o5,o6,o7⟩:=z6Z ok (mt:=x) (by omega) (by omega) hm hb
    obtain⟨w1,w2,w3⟩:=y6y ok (mt:=x) (by omega) (by omega) hm hb (hdr m hm x (by omega))
    obtain⟨f1,f2,f3⟩:=z7O o1
    have hgj:=(h.it hp j).1
    have hrl:(p.rl (outB p x m):Int)+1=lx p x m:=by
      have:lx p x m=(p.bs.getD (outB p x m) b0).ln:=rfl
      unfold Pl.rl;omega
    have hfr:frS p (outB p x m)=m:=by unfold frS;rw[o3];rfl
    have hot:otS p (outB p x m)=(zf0 (p.ms.getD m []) x).toNat:=by
      unfold otS outB;rw[f3]
    have hto:tpS p (outB p x m)=nx p x m:=rfl
    have hs0:1≤(slt p (itS p s (j+1)) (outB p x m) 0).getD x 0:=by
      show 1≤(slt p (stpS p (itS p s j)) (outB p x m) 0).getD x 0
      rw[z4Z ok hgj o2,hfr,if_pos,hot]
      · exact y6z hp hm hb (y8C ok hgj hm) hx ha
      · rintro(h1|h1)
        · exact hb h1
        · rw[y8E hp h hh j m]at h1;cases h1
    have he:=y0p (p:=p) (s:=s) o2 (Nat.zero_le _) (j+1)
    rw[← he]at hs0
    have hg2:=(h.it hp (j+1+(p.rl (outB p x m)-0))).1
    have hr:=y8B hg2 x o2
    rw[hto]at hr
    by_cases hbn:binN p (nx p x m)
    · exact⟨j+1+(p.rl (outB p x m)-0),nx p x m,by omega,o4,hbn,by omega⟩
    · have hq:=z6Z ok (mt:=x) (by omega) (by omega) o4 hbn
      have ha2:=yr6 hg2 o4 x
      have hbb:=(hg2.bl _ o4).2 x
      obtain⟨t,b,t1,t2,t3,t4⟩:=ih (wayV p x (nx p x m)).1.toNat (by omega) (nx p x m) _ o4 hbn (by omega) (by omega:1≤(arrL p (itS p s (j+1+(p.rl (outB p x m)-0))) (nx p x m)).getD x 0)
      exact⟨t,b,by omega,t2,t3,t4⟩
theorem xu6{n:Nat}{f:Nat→Int}:∀{i:Nat},i<n→f i≤mxN n f:=by
 induction n with
 | zero=>intro i hi;omega
 | succ n ih =>
  intro i hi
  simp only[mxN]
  by_cases e:i=n
  ·subst e;exact Int.le_max_right _ _
  ·exact Int.le_trans (ih (by omega)) (Int.le_max_left _ _)
theorem y5f(p:Pl)(m:Nat)(h0:Int):∀k,h0≤hgI p m h0 k∧∀x,x<k→(zq6 p m x).1≤hgI p m h0 k
 | 0=>⟨Int.le_refl _,fun x hx=>by omega⟩
 | k+1=>by
  have ih:=y5f p m h0 k
  simp only[hgI]
  refine⟨Int.le_trans ih.1 (Int.le_max_left _ _),fun x hx=>?_⟩
  by_cases e:x=k
  ·subst e;exact Int.le_max_right _ _
  ·exact Int.le_trans (ih.2 x (by omega)) (Int.le_max_left _ _)
theorem y8F(p:Pl){x:Nat}(hx:x<p.mt):∀(n m:Nat),m<n→(zq6 p m x).1≤hgO p n
 | 0,m,h=>by omega
 | n+1,m,h=>by
  simp only[hgO]
  by_cases e:m=n
  ·subst e;exact(y5f p m _ _).2 x hx
  ·exact Int.le_trans (y8F p hx n m (by omega)) (y5f p n _ _).1
theorem yj8{p:Pl}(hp:y6 p=0){m x:Nat}(hm:m<p.ms.length)(hx:x<p.mt)(hw:(wayV p x m).2=true):(zq6 p m x).1=(wayV p x m).1:=by
 obtain⟨m1,m2,m3⟩:=(y7 hp).mt1
 unfold zq6
 rw[if_neg (fun hc=>hc hp),if_neg (by omega),if_neg (by omega),Int.toNat_natCast,hw,if_neg (by decide)]
theorem y8G{p:Pl}(hc:chkP p=0){m:Nat}(hm:m<p.ms.length){h0:Int}(hh:h0≤16*p.ms.length):∀k,k≤p.mt→hgI p m h0 k≤16*p.ms.length
 | 0,_=>hh
 | k+1,hk=>by
  obtain⟨hp,hd⟩:=zc7 hc
  have ok:=y7 hp
  obtain⟨m1,m2,m3⟩:=ok.mt1
  have ih:=y8G hc hm hh k (by omega)
  have hw:=(z2Z ok).1 hd m hm k (by omega)
  have h1:=yj8 hp hm (x:=k) (by omega) hw
  have h2:=y5d ok (mt:=k) (by omega) (by omega) hm hw
  simp only[hgI]
  omega
theorem xu7{p:Pl}(hc:chkP p=0):0≤perP p∧perP p≤16*p.ms.length+16:=by
 have q1:=yj6 (y7 (zc7 hc).1) p.bs.length (Nat.le_refl _)
 have q2:∀n,n≤p.ms.length→0≤hgO p n∧hgO p n≤16*p.ms.length:=by
  intro n
  induction n with
  | zero=>intro _;simp [hgO];omega
  | succ n ih =>
   intro hn
   exact⟨(y0j hc (n+1) hn).1,y8G hc (by omega) (ih (by omega)).2 _ (Nat.le_refl _)⟩
 have:=q2 p.ms.length (Nat.le_refl _)
 unfold perP;omega
theorem y0q{n:Nat}{f:Nat→Int}(h:∀i,i<n→0≤f i)(hp:0<sm n f):∃i,i<n∧0<f i:=by
 apply Classical.byContradiction
 intro hc
 have:sm n f=0:=by
  rw[Z7 (g:=fun _=>0) fun i hi=>by
   have:=h i hi
   have:¬0<f i:=fun h1=>hc ⟨i,hi,h1⟩
   omega,zK1]
 omega
theorem y90{p:Pl}(hc:chkP p=0){s:Sy}(h:Gd p s)(hh:noH s){x:Nat}(hx:0<insT p s x):insT p (itS p s (perP p).toNat) x+1≤insT p s x:=by
 obtain⟨hp,hd⟩:=zc7 hc
 have ok:=y7 hp
 obtain⟨m1,m2,m3⟩:=ok.mt1
 have hdr:=(z2Z ok).1 hd
 have hper:=xu7 hc
 have hlng:=yj6 ok p.bs.length (Nat.le_refl _)
 have hxm:x<p.mt:=by
  apply Classical.byContradiction
  intro hcx
  have e1:sm p.ms.length (inM p s x)=0:=by
   rw[Z7 (g:=fun _=>0) fun m hm=>by unfold inM;split;rfl;exact zi7 (h.bl m hm).1 (by omega),zK1]
  have e2:sm p.bs.length (inB p s x)=0:=by
   rw[Z7 (g:=fun _=>0) fun i hi=>by
    rw[z9Y,Z7 (g:=fun _=>0) fun k hk=>zi7 (yj7 h hi (by omega)).1 (by omega),zK1],zK1]
  unfold insT at hx;omega
 have hhg:∀m,m<p.ms.length→0≤(wayV p x m).1∧(wayV p x m).1≤hgO p p.ms.length:=fun m hm=>by
  have hw:=hdr m hm x (by omega)
  have h1:=yj8 hp hm hxm hw
  have h2:=y8F p hxm p.ms.length m hm
  have h3:=y5d ok (mt:=x) (by omega) (by omega) hm hw
  omega
 have hln:∀i,i<p.bs.length→(p.rl i:Int)+1≤lngP p p.bs.length:=fun i hi=>by
  have h1:=xu6 (f:=fun i=>(p.bs.getD i b0).ln) hi
  have h2:=ok.bt _ (x3 b0 hi)
  unfold lngP Pl.rl;omega
 have key:∃t b:Nat,(t:Int)<perP p∧b<p.ms.length∧binN p b∧1≤rcv p (itS p s t) b x:=by
  unfold insT at hx
  by_cases h1:0<sm p.ms.length (inM p s x)
  ·obtain⟨m,hm,h2⟩:=y0q (zY1 h x) h1
   unfold inM at h2
   by_cases hb:y3 (p.ms.getD m [])=0
   ·rw[if_pos hb]at h2;omega
   ·rw[if_neg hb]at h2
    have ha:=yr6 h hm x
    have hr:0≤rcv p s m x:=zn8 fun i hi=>y5b h m x i hi
    obtain⟨t,b,t1,t2,t3,t4⟩:=y5e hc h hh hxm (wayV p x m).1.toNat m 0 hm hb (by have:=hhg m hm;omega) (by show 1≤(arrL p s m).getD x 0;omega)
    have h3:=hhg m hm
    have h4:=z6Z ok (mt:=x) (by omega) (by omega) hm hb
    have h5:=hln _ h4.2.1
    exact⟨t,b,by unfold perP;omega,t2,t3,t4⟩
  ·have h2:=zn8 (zY1 h x)
   obtain⟨i,hi,h3⟩:=y0q (zY2 h x) (by omega)
   rw[z9Y]at h3
   obtain⟨k,hk,h4⟩:=y0q (fun k hk=>(yj7 h hi (by omega)).2 x) h3
   have he:=y0p (p:=p) (s:=s) hi (k:=k) (by omega) 0
   have hg2:=(h.it hp (0+(p.rl i-k))).1
   have hr:=y8B hg2 x hi
   rw[he]at hr
   have hr1:(slt p (itS p s 0) i k).getD x 0=(slt p s i k).getD x 0:=rfl
   have ht:=y4P ok hi
   have hl:=hln i hi
   by_cases hb:binN p (tpS p i)
   ·exact⟨0+(p.rl i-k),tpS p i,by have:=hhg _ ht;unfold perP;omega,ht,hb,by omega⟩
   ·have ha:=yr6 hg2 ht x
    have hbb:=(hg2.bl _ ht).2 x
    have h5:=hhg _ ht
    obtain⟨t,b,t1,t2,t3,t4⟩:=y5e hc h hh hxm (wayV p x (tpS p i)).1.toNat (tpS p i) (0+(p.rl i-k)) ht hb (by omega) (by omega)
    exact⟨t,b,by unfold perP;omega,t2,t3,t4⟩
 obtain⟨t,b,t1,t2,t3,t4⟩:=key
 have h1:=(y5c hp (h.it hp t).1 x).2 b t2 t3
 have h2:=yD4 hp h x t 0
 rw[Nat.zero_add]at h2
 have h3:=yD4 hp h x ((perP p).toNat-(t+1)) (t+1)
 rw[show t+1+((perP p).toNat-(t+1))=(perP p).toNat by omega]at h3
 have h4:insT p (itS p s (t+1)) x=insT p (stpS p (itS p s t)) x:=rfl
 have h5:insT p (itS p s 0) x=insT p s x:=rfl
 omega
def sumI(p:Pl)(s:Sy):Int:=sm p.mt (insT p s)
theorem y91{p:Pl}{s:Sy}(h:Gd p s):0≤sumI p s:=zn8 fun x _=>(zB9 h x).2
theorem yL1{n:Nat}{f g:Nat→Int}(h:∀i,i<n→f i≤g i):sm n f≤sm n g:=by
 induction n with
 | zero=>exact Int.le_refl _
 | succ n ih=>simp only[sm];have:=ih fun i hi=>h i (by omega);have:=h n (by omega);omega
theorem y92{n:Nat}{f g:Nat→Int}(h:∀i,i<n→f i≤g i){i:Nat}(hi:i<n)(hl:f i+1≤g i):sm n f+1≤sm n g:=by
 induction n with
 | zero=>omega
 | succ n ih =>
  simp only[sm]
  by_cases e:i=n
  ·subst e
   have:=yL1 (n:=i) fun j hj=>h j (by omega)
   omega
  ·have:=ih (fun j hj=>h j (by omega)) (by omega)
   have:=h n (by omega)
   omega
theorem y93{p:Pl}(hp:y6 p=0){s:Sy}(h:Gd p s)(k:Nat):sumI p (itS p s k)≤sumI p s:=yL1 fun x _=>by
 have:=yD4 hp h x k 0
 rw[Nat.zero_add]at this;exact this
theorem y6A{p:Pl}(hc:chkP p=0){s:Sy}(h:Gd p s)(hh:noH s)(hx:0<sumI p s):sumI p (itS p s (perP p).toNat)+1≤sumI p s:=by
 obtain⟨hp,_⟩:=zc7 hc
 obtain⟨x,h1,h2⟩:=y0q (fun x _=>(zB9 h x).2) hx
 refine y92 (fun y _=>?_) h1 (y90 hc h hh h2)
 have:=yD4 hp h y (perP p).toNat 0
 rw[Nat.zero_add]at this;exact this
theorem y0r{p:Pl}(hc:chkP p=0):∀(g:Nat) {s:Sy},Gd p s→noH s→sumI p s≤g→sumI p (itS p s (g*(perP p).toNat))=0
 | 0,s,h,hh,hg=>by
  have:=y91 h
  rw[Nat.zero_mul]
  show sumI p s=0
  omega
 | g+1,s,h,hh,hg=>by
  obtain⟨hp,_⟩:=zc7 hc
  rw[Nat.succ_mul,Nat.add_comm,y49]
  have h1:=(h.it hp (perP p).toNat).1
  refine y0r hc g h1 (y8E hp h hh _) ?_
  by_cases hx:0<sumI p s
  ·have:=y6A hc h hh hx;omega
  ·have:=y93 hp h (perP p).toNat;omega
end Go.Proofs.YtcppaddgclkekaaGreat
namespace Go.Proofs.YtcppaddgclkekaaGreat
open Go Go.Lft
set_option linter.unusedSimpArgs false
set_option linter.unusedVariables false
attribute [local congr] Q7 Q8 Q9 za1 Z9 Y0 za2 Y2 Y3 Y4 za3 za0
theorem y94{mt:Nat}{fed xs:List Int}(h:fitE mt fed xs=0):zn7 mt xs∧∀x,fed.getD x 0+xs.getD x 0≤1073741824∨mt≤x:=by
 have h1:=(z9U h).2
 have hl:=(z9U h).1
 refine⟨h1,fun x=>?_⟩
 by_cases hx:x<mt
 ·left
  unfold fitE at h
  split at h
  ·cases h
  split at h
  ·cases h
  split at h
  ·cases h
  rename_i h3
  apply Classical.byContradiction
  intro hc
  exact h3 ⟨x,by omega,by omega⟩
 ·right;omega
theorem z7T{p:Pl}(ok:POk p){s:Sy}(h:Gd p s){xs:List Int}(hx:xs.length=p.mt)(x:Nat):tot p (zd9 p s xs) x=tot p s x+xs.getD x 0:=by
 have hfd:=ok.fd
 have ht:p.fd.toNat<p.ms.length:=by omega
 have h1:befT p (zd9 p s xs) x=befT p s x+xs.getD x 0:=by
  unfold befT
  rw[z9P (fun m=>(s.bef m).getD x 0) (fun m=>((zd9 p s xs).bef m).getD x 0) ht fun j hj _=>by simp only[zd9];rw[x9 _ _ hj]]
  simp only[zd9,x1]
  rw[zT5 (h.bl _ ht).1 hx];omega
 have h2:fstT p (zd9 p s xs) x=fstT p s x:=rfl
 have h3:rngT p (zd9 p s xs) x=rngT p s x:=rfl
 unfold tot;omega
def Iv(p:Pl)(s:Sy):Prop:=Gd p s∧∀x,tot p s x≤s.fed.getD x 0
theorem Iv.new(p:Pl):Iv p (newS p):=⟨Gd.new p,fun x=>by rw[yr2];show(0:Int)≤(y9 p.mt).getD x 0;rw[Y5];exact Int.le_refl _⟩
theorem Iv.feed{p:Pl}(ok:POk p){s:Sy}(h:Iv p s){xs:List Int}(he:fitE p.mt s.fed xs=0):Iv p (zd9 p s xs):=by
 obtain⟨g,hf⟩:=h
 obtain⟨e1,e2⟩:=y94 he
 have hfd:=ok.fd
 have ht:p.fd.toNat<p.ms.length:=by omega
 have hfed:∀x,(zc9 s.fed xs).getD x 0=s.fed.getD x 0+xs.getD x 0:=fun x=>zT5 g.fd.1 e1.1 x
 have hbd:∀x,s.fed.getD x 0+xs.getD x 0≤1073741824:=fun x=>by
  rcases e2 x with h1|h1
  ·exact h1
  ·rw[zi7 g.fd.1 h1,zi7 e1.1 h1];omega
 refine⟨⟨fun m hm=>?_,g.fl,g.rl,g.ps,g.hl,⟨by show(zc9 s.fed xs).length=_;rw[Q6];exact g.fd.1,fun x=>?_⟩,fun x=>?_⟩,fun x=>?_⟩
 ·simp only[zd9]
  by_cases e:m=p.fd.toNat
  ·rw[e,x1]
   have hb:=g.bl _ ht
   refine⟨by rw[Q6];exact hb.1,fun x=>?_⟩
   rw[zT5 hb.1 e1.1]
   have:=hb.2 x
   have:=(e1.2 x).1
   omega
  ·rw[x9 _ _ e];exact g.bl m hm
 ·simp only[zd9];rw[hfed]
  have:=hbd x
  have:=(g.fd.2 x).1
  have:=(e1.2 x).1
  omega
 ·rw[z7T ok g e1.1]
  have:=hf x
  have:=hbd x
  omega
 ·rw[z7T ok g e1.1]
  show _≤(zc9 s.fed xs).getD x 0
  rw[hfed]
  have:=hf x
  omega
theorem Iv.it{p:Pl}(hp:y6 p=0){s:Sy}(h:Iv p s)(k:Nat):Iv p (itS p s k):=by
 obtain⟨g1,g2,g3,g4⟩:=h.1.it hp k
 exact⟨g1,fun x=>by rw[g2,g4];exact h.2 x⟩
def y09(p:Pl)(s:Sy)(xs:List Int):Sy:=if fitE p.mt s.fed xs=0 then zd9 p s xs else s
def loopP:Pl:=⟨1,[[[600,400]],[[]]],[⟨0,0,1,1⟩,⟨0,1,0,2⟩],0⟩
theorem yr7:chkP loopP=0:=by decide +kernel
theorem PM.nftp{H:List Blk}{p:Pl}{ad:Ad}{s:Sy}(h:PM H p ad s){j:Nat}(hj:H.length≤j):¬ftp p ad j:=by
 rintro⟨c,hc,he⟩
 have:=h.lt hc
 omega
theorem y95{p:Pl}{ad:Ad}{n j:Nat}(h:∀c,usd p c=true→n≤(ad c).1)(hj:j<n):¬ftp p ad j:=by
 rintro⟨c,hc,he⟩
 have:=h c hc
 omega
def litP(p:Pl):Prop:=p.ms.length≤12∧p.bs.length≤24
instance(p:Pl):Decidable (litP p):=inferInstanceAs (Decidable (_∧_))
theorem yr8{w:Bool}(xs:List Int)(hl:xs.length≤1000)(hb:∀x,0≤xs.getD x 0∧xs.getD x 0≤1073741824):VR P false zQ2 [.fs w (ints xs)] [] (isR (.v (.int .i64 (sm xs.length fun x=>xs.getD x 0)))):=by
 refine yc0 (by simp) (.inr rfl) fun _ _=>?_
 have bd:∀k,k≤xs.length→0≤sm k (fun x=>xs.getD x 0)∧sm k (fun x=>xs.getD x 0)≤k*1073741824:=by
  intro k
  induction k with
  | zero=>intro _;simp [sm]
  | succ k ih =>
   intro hk
   have h1:=ih (by omega)
   have h2:=hb k
   simp only[sm];omega
 simp (disch:=(try simp only[lZ]);omega) only[aZ,aM,zQ3,z3E]
 refine AWP.loopP z8y (fun k:Nat=>k≤xs.length) (fun k=>[(2,.v (.int .i64 (sm k fun x=>xs.getD x 0))),(3,.v (.int .i64 k))]) (fun _=>[]) (fun k=>xs.length-k) 0 (by omega) ?_ ?_
 ·exact Cut.fg (by simp (disch:=first|omega|simp (disch:=omega) only[aG,aM]) only[fZ,aM,y0,z9,or_true,true_or,sm])
 rintro k hk
 have h1:=bd k hk
 by_cases hlt:k<xs.length
 ·have h2:=hb k
  simp (disch:=(try simp only[lZ]);omega) only[aZ,aM]
  refine⟨k+1,by omega,by omega,?_⟩
  simp only[sm]
  try simp (disch:=(try simp only[lZ]);omega) only[aZ,aM]
  exact Cut.fg (by simp (disch:=first|omega|simp (disch:=omega) only[aG,aM]) only[fZ,aM,y0,z9,or_true,true_or])
 ·have hke:k=xs.length:=by omega
  subst hke
  simp (disch:=(try simp only[lZ]);omega) only[aZ,aM,ym6]
  exact y1 ⟨rfl,rfl⟩
theorem zT6(p:Pl)(s:Sy):(insL p s).length=p.mt:=zb2 _ _
theorem y6B(p:Pl)(s:Sy):sm (insL p s).length (fun x=>(insL p s).getD x 0)=sumI p s:=by
 rw[zT6]
 exact Z7 fun x hx=>zx3 _ _ _ hx
theorem y96{p:Pl}{s:Sy}(h:Gd p s)(x:Nat):0≤(insL p s).getD x 0∧(insL p s).getD x 0≤1073741824:=by
 by_cases hx:x<p.mt
 ·rw[show(insL p s).getD x 0=insT p s x from zx3 _ _ _ hx]
  have:=zB9 h x
  have:=h.tt x
  omega
 ·rw[zi7 (zT6 p s) (by omega)];omega
theorem y97{w:Bool}{p:Pl}{s:Sy}(hm:p.mt≤16)(h:Gd p s):VR P false zQ2 [.fs w (ints (insL p s))] [] (isR (.v (.int .i64 (sumI p s)))):=by
 have:=yr8 (w:=w) (insL p s) (by rw[zT6];omega) (y96 h)
 rwa [y6B]at this
theorem y98(p:Pl):noH (newS p):=fun m=>by
 simp only[newS,List.getD_eq_getElem?_getD,List.getElem?_replicate]
 split<;>rfl
theorem z9Z{n:Nat}(hn:n≤16):VR P false z6y [.v (.int .i64 n)] [] (isR (.fs true (ints (y9 n)))):=by
 refine yn1 (by simp) (.inr rfl) fun _ _=>?_
 simp (disch:=(try simp only[lZ]);omega) only[aZ,aM,z0u,z6A,yy7]
 exact y8 (zK3 0 _ 0 0 n (y9 n) (by omega) (by simp) (by simp (disch:=(try simp only[lZ]);omega) only[aZ,aM])) ⟨rfl,rfl⟩
theorem y0s{w v:Bool}(a b:List Int)(hl:b.length=a.length)(hs:Sm a b)(h9:a.length≤16):VR P false zF4 [.fs w (ints a),.fs v (ints b)] [] (ownR (.sl 0 a.length 1 0 a.length) [⟨a.length,ints (zc9 a b)⟩]):=by
 refine yn0 (by simp) (.inr rfl) fun _ _=>?_
 have pl:=Q6 a b
 simp (disch:=(try simp only[lZ]);omega) only[aZ,aM,z0t,z6x]
 refine AWP.loopP yd4 (fun k:Nat=>k≤a.length) (fun k=>[(3,.sl 0 k 1 0 k),(4,.v (.int .i64 k))]) (fun k=>[(0,⟨k,ints ((zc9 a b).take k)⟩)]) (fun k=>a.length-k) 0 (by omega) ?_ ?_
 ·rw[List.take_zero]
  exact Cut.fg (by simp (disch:=first|omega|simp (disch:=omega) only[aG,aM]) only[fZ,aM,y0,z9,or_true,true_or])
 rintro k hk
 have tl:((zc9 a b).take k).length=k:=by rw[List.length_take,pl];omega
 by_cases hlt:k<a.length
 ·have e1:(zc9 a b).take k++[a.getD k 0+b.getD k 0]=(zc9 a b).take (k+1):=by rw[Z3 _ _ 0 (by omega),zt5 _ _ _ hlt]
  have q:=hs k hlt
  simp (disch:=(try simp only[lZ]);omega) only[aZ,aM,e1,tl]
  refine⟨k+1,by omega,by omega,?_⟩
  exact(by refine Cut.of' (1) ?_ (by omega) ?_ ?_<;>simp (disch:=first|omega|simp (disch:=omega) only[aG,aM]) only[fZ,aM])
 ·have hke:k=a.length:=by omega
  subst hke
  rw[List.take_of_length_le (by omega)]
  simp (disch:=(try simp only[lZ]);omega) only[aZ,aM,yy6]
  exact zd5 (R:=ownR _ _) ⟨rfl,rfl⟩
theorem zt8{w v:Bool}(a b:List Int)(hl:b.length=a.length)(hs:Sm a b)(h9:a.length≤16):VR P false zF4 [.fs w (ints a),.fs v (ints b)] [] (isR (.fs true (ints (zc9 a b)))) :=
 (y0s a b hl hs h9).cut fun r G ⟨h1,h2⟩=>⟨_,[],by
  subst h1;subst h2
  exact Cut.of' 0 rfl (by simp) (by simp [FzB]) ⟨zK3 0 _ 0 a.length a.length (zc9 a b) (by omega) (by rw[Q6]) (by simp (disch:=(try simp only[lZ]);omega) only[aZ,aM]),trivial⟩,rfl,rfl⟩
def befL(p:Pl)(s:Sy):List (List Int):=(List.range p.ms.length).map s.bef
def belM(p:Pl)(s:Sy)(i:Nat):List (List Int):=(List.range (p.rl i+1)).map (slt p s i)
def belL(p:Pl)(s:Sy):List (List (List Int)):=(List.range p.bs.length).map (belM p s)
def mxs(l:List (List (List Int))):List A:=l.map mxF
def stC(p:Pl)(s:Sy):List A:=[.v (.int .i64 p.mt),.fs true (mcs true p.ms),.fs true (bts p.bs),.v (.int .i64 p.fd),.fs true (rows true (befL p s)),.fs true (mxs (belL p s)),.fs true (za9 s.hal),.fs true (ints s.fed)]
abbrev stA(p:Pl)(s:Sy):A:=.agg (stC p s)
theorem z90(l:List (List (List Int))):(mxs l).length=l.length:=by simp [mxs]
theorem y5g(w:Bool)(l:List (List (List Int)))(kk:IntKind)(j:Int)(h1:0≤j)(h2:j<l.length):idxA 1 (.fs w (mxs l)) (.v (.int kk j))=some (.fp w [.fs true (rows true (l.getD j.toNat []))]) :=
 zH7 1 w l [] kk j (fun m=>[mxF m]) (fun _=>rfl) (fun _=>rfl) h1 h2
theorem y5h(n:Nat)(l:List (List (List Int))):A.bdL n (mxs l)=true:=z1C n l fun m=>by simp [mxF,A.bd,r_bd]
theorem y8H(l:List (List (List Int))):A.clL (mxs l)=true:=z1D l fun m=>by simp [mxF,A.cl,r_cl]
theorem y6C(l:List (List (List Int))):za5 1 (mxs l)=some (mxs l):=zl5 (yl1 l fun _=>rfl)
theorem zH4(p:Pl)(s:Sy):(befL p s).length=p.ms.length:=by simp [befL]
theorem z1k(p:Pl)(s:Sy)(i:Nat):(belM p s i).length=p.rl i+1:=by simp [belM]
theorem zH5(p:Pl)(s:Sy):(belL p s).length=p.bs.length:=by simp [belL]
theorem tabD{α:Type}(n:Nat)(f:Nat→α)(d:α)(i:Nat)(h:i<n):((List.range n).map f).getD i d=f i:=by simp [List.getD_eq_getElem?_getD,h]
theorem y0t(p:Pl)(s:Sy)(m:Nat)(h:m<p.ms.length):(befL p s).getD m []=s.bef m:=tabD _ _ _ _ h
theorem z7U(p:Pl)(s:Sy)(i k:Nat)(h:k<p.rl i+1):(belM p s i).getD k []=slt p s i k:=tabD _ _ _ _ h
theorem yr9(p:Pl)(s:Sy)(i:Nat)(h:i<p.bs.length):(belL p s).getD i []=belM p s i:=tabD _ _ _ _ h
theorem y5i(n:Nat)(p:Pl)(s:Sy):A.bdL n (stC p s)=true:=by simp [stC,A.bdL,A.bd,y3D,y00,r_bd,y5h,b_bd,zl4]
theorem aT:type_of% (ai9 @z90<|ai9 @y5g<|ai9 @y5h<|ai9 @y8H<|ai9 @zH4<|ai9 @z1k<|ai9 @zH5<|@y5i):=⟨@z90,@y5g,@y5h,@y8H,@zH4,@z1k,@zH5,@y5i⟩
inductive Rc where
 | out|bef|hal|bel|sl (i:Nat)
 deriving DecidableEq
abbrev Rd:=Rc→Nat×Nat
structure Rs where
 bc:Nat→A
 hl:Nat→Bool
 sc:Nat→Nat→A
 fd:List Int
def usR(b:Nat):Rc→Bool
 | .sl i=>decide (i<b)
 | _=>true
def outC(p:Pl)(k b:Nat)(ad:Rd)(fd:List Int):List A:=[.v (.int .i64 p.mt),.fs true (mcs true p.ms),.fs true (bts p.bs),.v (.int .i64 p.fd),.vs (ad .bef).1 (ad .bef).2 1 k,.vs (ad .bel).1 (ad .bel).2 1 b,.vs (ad .hal).1 (ad .hal).2 1 k,.fs true (ints fd)]
def celB(p:Pl)(ad:Rd)(i:Nat):A:=.sl (ad (.sl i)).1 (ad (.sl i)).2 1 0 (p.rl i+1)
def ctR(p:Pl)(k b:Nat)(ad:Rd)(r:Rs):Rc→List A
 | .out=>outC p k b ad r.fd
 | .bef=>(List.range k).map r.bc
 | .hal=>za9 ((List.range k).map r.hl)
 | .bel=>(List.range b).map (celB p ad)
 | .sl i=>(List.range (p.rl i+1)).map (r.sc i)
structure RM(K:List Blk)(p:Pl)(k b:Nat)(ad:Rd)(r:Rs):Prop where
 get:∀c,usR b c=true→blkAt K (ad c).1 (ad c).2=some (ctR p k b ad r c)
 inj:∀c d,usR b c=true→usR b d=true→(ad c).1=(ad d).1→c=d
 zr:(ad .out).2=0
theorem RM.lt{K:List Blk}{p:Pl}{k b:Nat}{ad:Rd}{r:Rs}(h:RM K p k b ad r){c:Rc}(hc:usR b c=true):(ad c).1<K.length:=y4 (h.get c hc)
theorem RM.ne{K:List Blk}{p:Pl}{k b:Nat}{ad:Rd}{r:Rs}(h:RM K p k b ad r){c d:Rc}(hc:usR b c=true)(hd:usR b d=true)(hn:c≠d):(ad c).1≠(ad d).1:=fun he=>hn (h.inj c d hc hd he)
theorem RM.ot{K:List Blk}{p:Pl}{k b:Nat}{ad:Rd}{r:Rs}(h:RM K p k b ad r):blkAt K (ad .out).1 0=some (outC p k b ad r.fd):=by have:=h.get .out rfl;rw[h.zr]at this;exact this
theorem RM.grow{K:List Blk}{p:Pl}{k b:Nat}{ad:Rd}{r:Rs}(h:RM K p k b ad r)(G:List Blk):RM (K++G) p k b ad r :=
 ⟨fun c hc=>by rw[x2 _ _ _ _ (h.lt hc)];exact h.get c hc,h.inj,h.zr⟩
def ftR(b:Nat)(ad:Rd):Nat→Prop:=fun i=>∃c,usR b c=true∧(ad c).1=i
theorem RM.gr{F:Nat→Prop}{K K':List Blk}{p:Pl}{k b:Nat}{ad:Rd}{r:Rs}(h:RM K p k b ad r)(g:Gr F K K')(hF:∀c,usR b c=true→¬F (ad c).1):RM K' p k b ad r :=
 ⟨fun c hc=>g.at (h.get c hc) (hF c hc),h.inj,h.zr⟩
theorem RM.put{K:List Blk}{p:Pl}{k b:Nat}{ad:Rd}{r r':Rs}(h:RM K p k b ad r)(c:Rc)(hc:usR b c=true)(hd:∀d,d≠c→usR b d=true→ctR p k b ad r' d=ctR p k b ad r d):RM (K.set (ad c).1 ⟨(ad c).2,ctR p k b ad r' c⟩) p k b ad r' :=
 ⟨fun d hdu=>by
  by_cases e:d=c
  ·subst e;exact x0 _ _ _ _ (h.lt hdu)
  ·rw[y5 _ _ _ _ _ (h.ne hdu hc e),hd d e hdu];exact h.get d hdu,h.inj,h.zr⟩
theorem RM.anew{K:List Blk}{p:Pl}{k b:Nat}{ad:Rd}{r:Rs}(h:RM K p k b ad r):RM (K++[⟨0,outC p k b ad r.fd⟩]) p k b (fun c=>if c=.out then(K.length,0)else ad c) r:=by
 have hg:=h.grow [⟨0,outC p k b ad r.fd⟩]
 refine⟨fun c hc=>?_,fun c d hc hd he=>?_,rfl⟩
 ·cases c with
  | out=>rw[if_pos rfl,x5];simp [blkAt,ctR,outC]
  | _=>exact hg.get _ hc
 ·by_cases e:c=.out
  ·by_cases f:d=.out
   ·rw[e,f]
   ·rw[if_pos e,if_neg f]at he
    have:=h.lt hd
    omega
  ·by_cases f:d=.out
   ·rw[if_neg e,if_pos f]at he
    have:=h.lt hc
    omega
   ·rw[if_neg e,if_neg f]at he;exact h.inj c d hc hd he
theorem zC0{α:Type}(n:Nat)(f:Nat→α):((List.range n).map f).length=n:=by simp
theorem z64(n:Nat)(f:Nat→A)(i:Nat)(h:i<n):nthA ((List.range n).map f) i=some (f i):=by rw[Y8];simp [h]
theorem y8I{α:Type}(n:Nat)(f:Nat→α)(i:Nat)(x:α):((List.range n).map f).set i x=(List.range n).map (updF f i x):=by
 apply List.ext_getElem?
 intro j
 rw[List.getElem?_set]
 simp only[List.getElem?_map,List.length_map,List.length_range]
 by_cases h:i=j
 ·subst h
  rw[if_pos rfl]
  by_cases hi:i<n
  ·simp [hi,updF]
  ·rw[if_neg hi,List.getElem?_eq_none (by simp;omega)];rfl
 ·rw[if_neg h]
  by_cases hj:j<n
  ·simp [hj,updF,Ne.symm h]
  ·simp [Nat.not_lt.1 hj]
theorem z91(n:Nat)(f:Nat→A)(i:Nat)(x:A)(h:i<n):splA ((List.range n).map f) i [x]=(List.range n).map (updF f i x):=by rw[zP1 (by simpa using h),y8I]
theorem y5j{α:Type}(n:Nat)(f:Nat→α)(x:α)(h:f n=x):(List.range n).map f++[x]=(List.range (n+1)).map f:=by rw[List.range_succ,List.map_append];simp [h]
theorem y8J{α:Type}{n:Nat}{f g:Nat→α}(h:∀i,i<n→f i=g i):(List.range n).map f=(List.range n).map g:=List.map_congr_left fun i hi=>h i (List.mem_range.1 hi)
def rs0(p:Pl):Rs:=⟨fun _=>.fs true (ints (y9 p.mt)),fun _=>false,fun _ _=>.fs true (ints (y9 p.mt)),y9 p.mt⟩
def adR0(n:Nat):Rd
 | .out=>(n+2,0) | .bef=>(n+3,0) | .bel=>(n+4,0) | .hal=>(n+5,0)|_=>(0,0)
structure NI(H:List Blk)(p:Pl)(o k b:Nat)(ad:Rd)(K:List Blk):Prop where
 rm:RM K p k b ad (rs0 p)
 ro:(ad .out).1=o
 bx:blkAt K H.length 0=some [.v (.int .i64 p.mt),.fs true (mcs true p.ms),.fs true (bts p.bs),.v (.int .i64 p.fd)]
 rv:blkAt K (H.length+1) 0=some [.v (.int .i64 0),nilS,nilS,.v (.int .i64 0),nilS,nilS,nilS,nilS]
 g:Gr nof H K
 hi:∀c,usR b c=true→H.length+1<(ad c).1
theorem NI.init(H:List Blk)(p:Pl){o:Nat}(ho:H.length+(1+1)=o):NI H p o 0 0 (adR0 H.length) (H++[⟨0,[.v (.int .i64 p.mt),.fs true (mcs true p.ms),.fs true (bts p.bs),.v (.int .i64 p.fd)]⟩,⟨0,[.v (.int .i64 0),nilS,nilS,.v (.int .i64 0),nilS,nilS,nilS,nilS]⟩,⟨0,outC p 0 0 (adR0 H.length) (y9 p.mt)⟩,⟨0,[]⟩,⟨0,[]⟩,⟨0,[]⟩]):=by
 refine⟨⟨fun c hc=>?_,fun c d hc hd he=>?_,rfl⟩,ho,by rw[x5];rfl,by rw[zg6];rfl,Gr.app _ _,fun c hc=>?_⟩
 ·cases c<;>first|(simp [usR]at hc;done)|(simp only[adR0];rw[zg6];rfl)
 ·cases c<;>first|(simp [usR]at hc;done)|(cases d<;>first|rfl|(simp [usR]at hd;done)|(simp only[adR0]at he;omega))
 ·cases c<;>first|(simp [usR]at hc;done)|(simp only[adR0];omega)
def adR1(ad:Rd):Rd
 | .bef=>((ad .bef).1,(ad .bef).2+1) | .hal=>((ad .hal).1,(ad .hal).2+1)|c=>ad c
theorem ys0(ad:Rd)(c:Rc):(adR1 ad c).1=(ad c).1:=by cases c<;>rfl
theorem y99{F:Nat→Prop}{K T:List Blk}{i j l m:Nat}{A B C D:Blk}(h1:F i)(h2:F j)(h3:F l)(h4:F m):Gr F K ((((K.set i A).set j B).set l C).set m D++T) :=
 ⟨by simp,fun x ver hx hn=>by
  rw[x2 _ _ _ _ (by simp;exact hx),y5 _ _ _ _ _ (fun h=>hn (by rw[h];exact h4)),y5 _ _ _ _ _ (fun h=>hn (by rw[h];exact h3)),y5 _ _ _ _ _ (fun h=>hn (by rw[h];exact h2)),y5 _ _ _ _ _ (fun h=>hn (by rw[h];exact h1))]⟩
theorem NI.addM{H:List Blk}{p:Pl}{o k b:Nat}{ad:Rd}{K:List Blk}(h:NI H p o k b ad K)(X:Blk)(T:List Blk):
    NI H p o (k+1) b (adR1 ad) ((((K.set (ad .bef).1 ⟨(ad .bef).2+1,(List.range (k+1)).map (rs0 p).bc⟩).set o X).set (ad .hal).1 ⟨(ad .hal).2+1,za9 ((List.range (k+1)).map (rs0 p).hl)⟩).set o ⟨0,outC p (k+1) b (adR1 ad) (y9 p.mt)⟩++T):=by
  obtain⟨hr,ho,hx,hv,hg,hi⟩:=h
  have lo:=hr.lt (c:=.out) rfl
  have lb:=hr.lt (c:=.bef) rfl
  have lh:=hr.lt (c:=.hal) rfl
  have nbo:=hr.ne (c:=.bef) (d:=.out) rfl rfl (by simp)
  have nho:=hr.ne (c:=.hal) (d:=.out) rfl rfl (by simp)
  have nbh:=hr.ne (c:=.bef) (d:=.hal) rfl rfl (by simp)
  have qo:=hi .out rfl
  have qb:=hi .bef rfl
  have qh:=hi .hal rfl
  rw[ho]at lo nbo nho qo
  have G1:Gr (fun i=>i=(ad .bef).1∨i=o∨i=(ad .hal).1) K ((((K.set (ad .bef).1 ⟨(ad .bef).2+1,(List.range (k+1)).map (rs0 p).bc⟩).set o X).set (ad .hal).1 ⟨(ad .hal).2+1,za9 ((List.range (k+1)).map (rs0 p).hl)⟩).set o ⟨0,outC p (k+1) b (adR1 ad) (y9 p.mt)⟩++T) :=
    y99 (.inl rfl) (.inr (.inl rfl)) (.inr (.inr rfl)) (.inr (.inl rfl))
  refine⟨⟨fun c hc=>?_,fun c d hc hd he=>hr.inj c d hc hd (by rwa [ys0,ys0]at he),hr.zr⟩,ho,G1.at hx (by omega),G1.at hv (by omega),hg.trans G1 fun i hi hf=>?_,fun c hc=>by rw[ys0];exact hi c hc⟩
  · cases c with
    | out =>
      show blkAt _ (ad .out).1 (ad .out).2=_
      rw[ho,hr.zr,x2 _ _ _ _ (by simp;exact lo)];exact x0 _ _ _ _ (by simp;exact lo)
    | bef =>
      show blkAt _ (ad .bef).1 ((ad .bef).2+1)=_
      rw[x2 _ _ _ _ (by simp;exact lb),y5 _ _ _ _ _ nbo,y5 _ _ _ _ _ nbh,y5 _ _ _ _ _ nbo];exact x0 _ _ _ _ lb
    | hal =>
      show blkAt _ (ad .hal).1 ((ad .hal).2+1)=_
      rw[x2 _ _ _ _ (by simp;exact lh),y5 _ _ _ _ _ nho];exact x0 _ _ _ _ (by simp;exact lh)
    | bel =>
      refine G1.at (hr.get .bel rfl) fun hf=>?_
      have hf':(ad .bel).1=(ad .bef).1∨(ad .bel).1=o∨(ad .bel).1=(ad .hal).1:=hf
      have n1:=hr.ne (c:=.bel) (d:=.out) rfl rfl (by simp)
      have n2:=hr.ne (c:=.bel) (d:=.bef) rfl rfl (by simp)
      have n3:=hr.ne (c:=.bel) (d:=.hal) rfl rfl (by simp)
      rw[ho]at n1;omega
    | sl i =>
      refine G1.at (hr.get (.sl i) hc) fun hf=>?_
      have hf':(ad (.sl i)).1=(ad .bef).1∨(ad (.sl i)).1=o∨(ad (.sl i)).1=(ad .hal).1:=hf
      have n1:=hr.ne (c:=.sl i) (d:=.out) hc rfl (by simp)
      have n2:=hr.ne (c:=.sl i) (d:=.bef) hc rfl (by simp)
      have n3:=hr.ne (c:=.sl i) (d:=.hal) hc rfl (by simp)
      rw[ho]at n1;omega
  · have:i=(ad .bef).1∨i=o∨i=(ad .hal).1:=hf
    omega
theorem NI.gr{H:List Blk}{p:Pl}{o k b:Nat}{ad:Rd}{K K':List Blk}(h:NI H p o k b ad K)(g:Gr nof K K'):NI H p o k b ad K' :=
 ⟨h.rm.gr g fun _ _ h=>h,h.ro,g.at h.bx fun h=>h,g.at h.rv fun h=>h,h.g.trans g fun _ _ h=>h,h.hi⟩
def adR2(ad:Rd)(L v b:Nat):Rd
 | .bel=>((ad .bel).1,(ad .bel).2+1) | .sl i=>if i=b then(L,v)else ad (.sl i)|c=>ad c
theorem y6D(p:Pl)(ad:Rd)(L v b:Nat):(List.range b).map (celB p ad)++[.sl L v 1 0 (p.rl b+1)]=(List.range (b+1)).map (celB p (adR2 ad L v b)):=by
 rw[List.range_succ,List.map_append]
 congr 1
 ·exact y8J fun i hi=>by simp [celB,adR2,show ¬i=b by omega]
 ·simp [celB,adR2]
theorem NI.addB{H:List Blk}{p:Pl}{o k b L v:Nat}{ad:Rd}{K:List Blk}(h:NI H p o k b ad K)(hL:∀c,usR b c=true→(ad c).1<L)(hs:blkAt K L v=some ((List.range (p.rl b+1)).map ((rs0 p).sc b)))(T:List Blk):
    NI H p o k (b+1) (adR2 ad L v b) ((K.set (ad .bel).1 ⟨(ad .bel).2+1,(List.range (b+1)).map (celB p (adR2 ad L v b))⟩).set o ⟨0,outC p k (b+1) (adR2 ad L v b) (y9 p.mt)⟩++T):=by
  obtain⟨hr,ho,hx,hv,hg,hi⟩:=h
  have lo:=hr.lt (c:=.out) rfl
  have lb:=hr.lt (c:=.bel) rfl
  have nbo:=hr.ne (c:=.bel) (d:=.out) rfl rfl (by simp)
  have qo:=hi .out rfl
  have qb:=hi .bel rfl
  have Lo:=hL .out rfl
  have Lb:=hL .bel rfl
  rw[ho]at lo nbo qo Lo
  have G1:Gr (fun i=>i=(ad .bel).1∨i=o) K ((K.set (ad .bel).1 ⟨(ad .bel).2+1,(List.range (b+1)).map (celB p (adR2 ad L v b))⟩).set o ⟨0,outC p k (b+1) (adR2 ad L v b) (y9 p.mt)⟩++T) :=
    ⟨by simp,fun x ver hx hn=>by
      rw[x2 _ _ _ _ (by simp;exact hx),y5 _ _ _ _ _ (fun h=>hn (.inr h)),y5 _ _ _ _ _ (fun h=>hn (.inl h))]⟩
  have hold:∀c,c≠.sl b→(adR2 ad L v b c).1=(ad c).1:=fun c hc=>by
    cases c with
    | sl i=>simp only[adR2];rw[if_neg (fun h=>hc (by rw[h]))]
    | _=>rfl
  have hu:∀c,c≠.sl b→usR (b+1) c=true→usR b c=true:=fun c hc h=>by
    cases c with
    | sl i =>
      have:i≠b:=fun h=>hc (by rw[h])
      simp only[usR,decide_eq_true_eq]at h ⊢;omega
    | _=>rfl
  have hnew:(adR2 ad L v b (.sl b)).1=L:=by simp [adR2]
  refine⟨⟨fun c hc=>?_,fun c d hc hd he=>?_,hr.zr⟩,ho,G1.at hx (by omega),G1.at hv (by omega),hg.trans G1 fun i hi hf=>?_,fun c hc=>?_⟩
  · cases c with
    | out =>
      show blkAt _ (ad .out).1 (ad .out).2=_
      rw[ho,hr.zr,x2 _ _ _ _ (by simp;exact lo)];exact x0 _ _ _ _ (by simp;exact lo)
    | bel =>
      show blkAt _ (ad .bel).1 ((ad .bel).2+1)=_
      rw[x2 _ _ _ _ (by simp;exact lb),y5 _ _ _ _ _ nbo];exact x0 _ _ _ _ lb
    | bef =>
      refine G1.at (hr.get .bef rfl) fun hf=>?_
      have hf':(ad .bef).1=(ad .bel).1∨(ad .bef).1=o:=hf
      have n1:=hr.ne (c:=.bef) (d:=.out) rfl rfl (by simp)
      have n2:=hr.ne (c:=.bef) (d:=.bel) rfl rfl (by simp)
      rw[ho]at n1;omega
    | hal =>
      refine G1.at (hr.get .hal rfl) fun hf=>?_
      have hf':(ad .hal).1=(ad .bel).1∨(ad .hal).1=o:=hf
      have n1:=hr.ne (c:=.hal) (d:=.out) rfl rfl (by simp)
      have n2:=hr.ne (c:=.hal) (d:=.bel) rfl rfl (by simp)
      rw[ho]at n1;omega
    | sl i =>
      by_cases e:i=b
      · subst e
        have e1:adR2 ad L v i (.sl i)=(L,v):=by simp [adR2]
        rw[e1]
        refine G1.at hs fun hf=>?_
        have hf':L=(ad .bel).1∨L=o:=hf
        omega
      · have hc':usR b (.sl i)=true:=hu _ (by simpa using e) hc
        have e1:adR2 ad L v b (.sl i)=ad (.sl i):=by simp [adR2,e]
        rw[e1]
        refine G1.at (hr.get (.sl i) hc') fun hf=>?_
        have hf':(ad (.sl i)).1=(ad .bel).1∨(ad (.sl i)).1=o:=hf
        have n1:=hr.ne (c:=.sl i) (d:=.out) hc' rfl (by simp)
        have n2:=hr.ne (c:=.sl i) (d:=.bel) hc' rfl (by simp)
        rw[ho]at n1;omega
  · by_cases e:c=.sl b
    · by_cases f:d=.sl b
      · rw[e,f]
      · rw[e,hnew,hold d f]at he
        have:=hL d (hu d f hd)
        omega
    · by_cases f:d=.sl b
      · rw[f,hnew,hold c e]at he
        have:=hL c (hu c e hc)
        omega
      · rw[hold c e,hold d f]at he;exact hr.inj c d (hu c e hc) (hu d f hd) he
  · have:i=(ad .bel).1∨i=o:=hf
    omega
  · by_cases e:c=.sl b
    · rw[e,hnew];omega
    · rw[hold c e];exact hi c (hu c e hc)
theorem y0u{H:List Blk}{w v:Bool}(p:Pl)(hp:y6 p=0):VR P false z2A [.agg [.v (.int .i64 p.mt),.fs true (mcs true p.ms),.fs true (bts p.bs),.v (.int .i64 p.fd)]] H (fun r H'=>∃ad:Rd,r=.agg (outC p p.ms.length p.bs.length ad (y9 p.mt))∧RM H' p p.ms.length p.bs.length ad (rs0 p)∧Gr nof H H'∧∀c,usR p.bs.length c=true→H.length≤(ad c).1):=by
 refine yy3 (by simp) (.inl rfl) fun _ _=>?_
 have ok:=y7 hp
 obtain⟨m1,m2,m3⟩:=ok.mt1
 have n1:=ok.n1
 have n2:=ok.n2
 have b2:=ok.b2
 have hz:=z9Z m2
 simp (disch:=(try simp only[lZ]);omega) only[aZ,aM,aT,z2B,z8x]
 apply y45
 ·intro hc
  refine hz.same rfl (by simp (disch:=first|omega|simp (disch:=omega) only[aG,aM,aT]) only[fZ,aM,aT]) (z7 ?_)
  simp (disch:=(try simp only[lZ]);omega) only[aZ,aM,aT]
  exact hc
 ·intro hc
  refine hz.same rfl (by simp (disch:=first|omega|simp (disch:=omega) only[aG,aM,aT]) only[fZ,aM,aT]) (z7 ?_)
  simp (disch:=(try simp only[lZ]);omega) only[aZ,aM,aT]
  exact hc
 refine AWP.cut (Cut.virtB (H.length+2) 0 4 1 (by simp (disch:=(try simp only[lZ]);omega) only[aZ,aM,aT];rfl) rfl) ?_
 simp (disch:=(try simp only[lZ]);omega) only[aZ,aM,aT]
 refine AWP.cut (Cut.virtB (H.length+2) 0 5 1 (by simp (disch:=(try simp only[lZ]);omega) only[aZ,aM,aT];rfl) rfl) ?_
 simp (disch:=(try simp only[lZ]);omega) only[aZ,aM,aT]
 refine AWP.cut (Cut.virtB (H.length+2) 0 6 1 (by simp (disch:=(try simp only[lZ]);omega) only[aZ,aM,aT];rfl) rfl) ?_
 simp (disch:=(try simp only[lZ]);omega) only[aZ,aM,aT]
 have gr0:∀K K':List Blk,Gr nof H K→Gr (fun i=>H.length+1<i) K K'→Gr nof H K':=fun K K' h1 h2=>h1.trans h2 fun i hi hf=>by have:H.length+1<i:=hf;omega
 generalize hn2:H.length+(1+1)=o
 refine AWP.loopM ym3 (fun x:Nat×Rd×List Blk=>x.1≤p.ms.length∧NI H p o x.1 0 x.2.1 x.2.2) (fun x=>[(3,.v (.int .i64 x.1))]) (fun x=>x.2.2) (fun x=>p.ms.length-x.1) (0,adR0 H.length,_) ⟨by omega,NI.init H p hn2⟩ ?_ ?_
 ·exact Cut.fg (by simp (disch:=first|omega|simp (disch:=omega) only[aG,aM,aT]) only[fZ,aM,aT,y0,z9,or_true,true_or])
 rintro⟨k,ad,K⟩ ⟨hk,hP⟩
 simp only at hk hP
 have ko:=hP.rm.ot
 rw[hP.ro]at ko
 have kb:=hP.rm.get .bef rfl
 have kh:=hP.rm.get .hal rfl
 simp only[ctR]at kb kh
 have kp:=hP.bx
 have lo:=y4 ko
 by_cases hlt:k<p.ms.length
 ·unfold outC at ko
  simp (disch:=(try simp only[lZ]);omega) only[aZ,aM,aT,kp,ko]
  refine hz.same rfl (by simp (disch:=first|omega|simp (disch:=omega) only[aG,aM,aT]) only[fZ,aM,aT]) (z7 ?_)
  have ap:(List.range k).map (rs0 p).bc++[.fs true (ints (y9 p.mt))]=(List.range (k+1)).map (rs0 p).bc:=y5j k (rs0 p).bc _ rfl
  have ah:za9 ((List.range k).map (rs0 p).hl)++[.v (.bool false)]=za9 ((List.range (k+1)).map (rs0 p).hl):=by rw[← y5j k (rs0 p).hl false rfl];simp [za9]
  have bl:=zC0 k (rs0 p).bc
  have hl:(za9 ((List.range k).map (rs0 p).hl)).length=k:=by simp [za9]
  have tb':List.take k ((List.range k).map (rs0 p).bc)=(List.range k).map (rs0 p).bc:=List.take_of_length_le (by omega)
  have th:List.take k (za9 ((List.range k).map (rs0 p).hl))=za9 ((List.range k).map (rs0 p).hl):=List.take_of_length_le (by omega)
  have nbo:=hP.rm.ne (c:=.bef) (d:=.out) rfl rfl (by simp)
  have nho:=hP.rm.ne (c:=.hal) (d:=.out) rfl rfl (by simp)
  have nbh:=hP.rm.ne (c:=.bef) (d:=.hal) rfl rfl (by simp)
  rw[hP.ro]at nbo nho
  have lb:=y4 kb
  have lh:=y4 kh
  generalize (List.range k).map (rs0 p).bc=X1 at *
  generalize hX2:za9 ((List.range k).map (rs0 p).hl)=X2 at *
  have ta:=fun(B1 B2:Blk) (T:List Blk) (j l:Nat)=>yD3 (K:=K) (i1:=(ad .bef).1) (i2:=o) (B1:=B1) (B2:=B2) (T:=T) (j:=j) (l:=l) rfl
  simp (disch:=(try simp only[lZ]);omega) only[aZ,aM,aT,kp,ko,kb,kh,bl,hl,ap,ah,tb',th,ta]
  refine⟨(k+1,adR1 ad,_),⟨by simp only;omega,hP.addM ⟨0,[.v (.int .i64 p.mt),.fs true (mcs true p.ms),.fs true (bts p.bs),.v (.int .i64 p.fd),.vs (ad .bef).1 ((ad .bef).2+1) 1 (k+1),.vs (ad .bel).1 (ad .bel).2 1 0,.vs (ad .hal).1 (ad .hal).2 1 k,.fs true (ints (y9 p.mt))]⟩ [⟨0,[.fs true (ints (y9 p.mt))]⟩,⟨0,[.v (.bool false)]⟩]⟩,by simp only;omega,?_⟩
  unfold outC
  simp only[adR1]
  try simp (disch:=(try simp only[lZ]);omega) only[aZ,aM,aT]
  exact Cut.fg (by simp (disch:=first|omega|simp (disch:=omega) only[aG,aM,aT]) only[fZ,aM,aT,y0,z9,or_true,true_or])
 have hke:k=p.ms.length:=by omega
 subst hke
 clear kb kh lo
 simp (disch:=(try simp only[lZ]);omega) only[aZ,aM,aT,kp]
 refine AWP.loopM ym4 (fun x:Nat×Rd×List Blk=>x.1≤p.bs.length∧NI H p o p.ms.length x.1 x.2.1 x.2.2) (fun x=>[(5,.v (.int .i64 x.1))]) (fun x=>x.2.2) (fun x=>p.bs.length-x.1) (0,ad,K) ⟨by omega,hP⟩ ?_ ?_
 ·exact Cut.fg (by simp (disch:=first|omega|simp (disch:=omega) only[aG,aM,aT]) only[fZ,aM,aT,y0,z9,or_true,true_or])
 clear hP kp ko hk hlt
 rintro⟨b,ad,K⟩ ⟨hb,hP⟩
 simp only at hb hP
 have ko:=hP.rm.ot
 rw[hP.ro]at ko
 have kb:=hP.rm.get .bel rfl
 simp only[ctR]at kb
 have kp:=hP.bx
 have lo:=y4 ko
 have lb:=y4 kb
 have lp:=y4 kp
 have nbo:=hP.rm.ne (c:=.bel) (d:=.out) rfl rfl (by simp)
 rw[hP.ro]at nbo
 by_cases hbt:b<p.bs.length
 ·have hbtt:=ok.bt _ (x3 b0 hbt)
  have hln:(p.bs.getD b b0).ln=(p.rl b+1:Nat):=by unfold Pl.rl;omega
  have hrl:=ok.rl hbt
  have bl:((List.range b).map (celB p ad)).length=b:=zC0 b _
  have tb':List.take b ((List.range b).map (celB p ad))=(List.range b).map (celB p ad):=List.take_of_length_le (by omega)
  have gr1:∀K':List Blk,∀B:Blk,∀T:List Blk,Gr nof K K'→Gr nof K (K'.set K.length B++T):=fun K' B T g=>(g.trans (Gr.set (F:=one K.length) K' _ B rfl) fun i hi hf=>by have:i=K.length:=hf;omega).trans (Gr.app (F:=nof) _ T) fun _ _ h=>h
  simp (disch:=(try simp only[lZ]);omega) only[aZ,aM,aT,kp]
  refine AWP.loopM ym5 (fun x:Nat×List Blk=>x.1≤p.rl b+1∧Gr nof K x.2∧blkAt x.2 K.length x.1=some ((List.range x.1).map ((rs0 p).sc b))) (fun x=>[(6,.sl K.length x.1 1 0 x.1),(7,.v (.int .i64 x.1))]) (fun x=>x.2) (fun x=>p.rl b+1-x.1) (0,K++[(⟨0,[]⟩:Blk)]) ⟨by omega,Gr.app _ _,by rw[x5];rfl⟩ ?_ ?_
  ·exact Cut.fg (by simp (disch:=first|omega|simp (disch:=omega) only[aG,aM,aT]) only[fZ,aM,aT,y0,z9,or_true,true_or])
  rintro⟨j,Q⟩ ⟨hj,hQ,hS⟩
  simp only at hj hQ hS
  have qp:=hQ.at kp fun h=>h
  have lQ:=y4 hS
  by_cases hjt:j<p.rl b+1
  ·have sl:=zC0 j ((rs0 p).sc b)
   have ap:(List.range j).map ((rs0 p).sc b)++[.fs true (ints (y9 p.mt))]=(List.range (j+1)).map ((rs0 p).sc b):=y5j j ((rs0 p).sc b) _ rfl
   have ts:List.take j ((List.range j).map ((rs0 p).sc b))=(List.range j).map ((rs0 p).sc b):=List.take_of_length_le (by omega)
   generalize (List.range j).map ((rs0 p).sc b)=X1 at *
   have hlj:(j:Int)<(p.bs.getD b b0).ln:=by omega
   simp (disch:=(try simp only[lZ]);omega) only[aZ,aM,aT,qp,decide_eq_true hlj]
   refine hz.same rfl (by simp (disch:=first|omega|simp (disch:=omega) only[aG,aM,aT]) only[fZ,aM,aT]) (z7 ?_)
   simp (disch:=(try simp only[lZ]);omega) only[aZ,aM,aT,qp,hS,sl,ap,ts]
   refine⟨(j+1,_),⟨by simp only;omega,gr1 Q ⟨j+1,(List.range (j+1)).map ((rs0 p).sc b)⟩ [⟨0,[.fs true (ints (y9 p.mt))]⟩] hQ,by simp only;rw[x2 _ _ _ _ (by simp;exact lQ)];exact x0 _ _ _ _ lQ⟩,by simp only;omega,?_⟩
   try simp (disch:=(try simp only[lZ]);omega) only[aZ,aM,aT]
   exact Cut.fg (by simp (disch:=first|omega|simp (disch:=omega) only[aG,aM,aT]) only[fZ,aM,aT,y0,z9,or_true,true_or])
  have hje:j=p.rl b+1:=by omega
  have hlj:¬(j:Int)<(p.bs.getD b b0).ln:=by omega
  have hP2:=hP.gr hQ
  have qo:=hQ.at ko fun h=>h
  have qb:=hQ.at kb fun h=>h
  have hN:=hP2.addB (L:=K.length) (v:=j) (fun c hc=>hP.rm.lt hc) (by rw[hje]at hS ⊢;exact hS) [⟨0,[.sl K.length j 1 0 j]⟩]
  have lbQ:=y4 qb
  have loQ:=y4 qo
  have ap:=y6D p ad K.length j b
  rw[← hje]at ap
  unfold outC at qo
  simp (disch:=(try simp only[lZ]);omega) only[aZ,aM,aT,qp,decide_eq_false hlj,qo,qb,bl,tb',ap]
  refine⟨(b+1,adR2 ad K.length j b,_),⟨by simp only;omega,hN⟩,by simp only;omega,?_⟩
  unfold outC
  simp only[adR2]
  try simp (disch:=(try simp only[lZ]);omega) only[aZ,aM,aT]
  exact Cut.fg (by simp (disch:=first|omega|simp (disch:=omega) only[aG,aM,aT]) only[fZ,aM,aT,y0,z9,or_true,true_or])
 have hbe:b=p.bs.length:=by omega
 subst hbe
 unfold outC at ko
 have kv:=hP.rv
 have hne:=hP.hi .out rfl
 rw[hP.ro]at hne
 have lv:=y4 kv
 simp (disch:=(try simp only[lZ]);omega) only[aZ,aM,aT,kp,ko,kv,yH6]
 exact zd5 (R:=fun r H'=>∃ad:Rd,r=.agg (outC p p.ms.length p.bs.length ad (y9 p.mt))∧RM H' p p.ms.length p.bs.length ad (rs0 p)∧Gr nof H H'∧∀c,usR p.bs.length c=true→H.length≤(ad c).1)
  ⟨ad,rfl,hP.rm.gr (Gr.set (F:=one (H.length+1)) _ _ _ rfl) fun c hc hf=>by have:(ad c).1=H.length+1:=hf;have:=hP.hi c hc;omega,
   hP.g.trans (Gr.set (F:=one (H.length+1)) _ _ _ rfl) fun i hi hf=>by have:i=H.length+1:=hf;omega,fun c hc=>by have:=hP.hi c hc;omega⟩
theorem RM.putB{K:List Blk}{p:Pl}{k b:Nat}{ad:Rd}{r:Rs}(h:RM K p k b ad r)(i:Nat)(x:A):RM (K.set (ad .bef).1 ⟨(ad .bef).2,(List.range k).map (updF r.bc i x)⟩) p k b ad {r with bc:=updF r.bc i x} :=
 h.put (r':={r with bc:=updF r.bc i x}) .bef rfl fun d hd _=>by cases d<;>first|rfl|exact absurd rfl hd
theorem RM.putH{K:List Blk}{p:Pl}{k b:Nat}{ad:Rd}{r:Rs}(h:RM K p k b ad r)(i:Nat)(x:Bool):RM (K.set (ad .hal).1 ⟨(ad .hal).2,za9 ((List.range k).map (updF r.hl i x))⟩) p k b ad {r with hl:=updF r.hl i x} :=
 h.put (r':={r with hl:=updF r.hl i x}) .hal rfl fun d hd _=>by cases d<;>first|rfl|exact absurd rfl hd
theorem RM.putF{K:List Blk}{p:Pl}{k b:Nat}{ad:Rd}{r:Rs}(h:RM K p k b ad r)(x:List Int):RM (K.set (ad .out).1 ⟨0,outC p k b ad x⟩) p k b ad {r with fd:=x}:=by
 have:=h.put (r':={r with fd:=x}) .out rfl fun d hd _=>by cases d<;>first|rfl|exact absurd rfl hd
 rw[h.zr]at this;exact this
theorem RM.putS{K:List Blk}{p:Pl}{k b:Nat}{ad:Rd}{r:Rs}(h:RM K p k b ad r){i:Nat}(hi:i<b)(q:Nat)(x:A):RM (K.set (ad (.sl i)).1 ⟨(ad (.sl i)).2,(List.range (p.rl i+1)).map (updF (r.sc i) q x)⟩) p k b ad {r with sc:=updF r.sc i (updF (r.sc i) q x)}:=by
 have:=h.put (r':={r with sc:=updF r.sc i (updF (r.sc i) q x)}) (.sl i) (by simpa [usR]using hi) fun d hd _=>by
  cases d with
  | sl j=>simp only[ctR];rw[x9 _ _ (fun hc=>hd (by rw[hc]))]
  | _=>rfl
 simp only[ctR,x1]at this
 exact this
abbrev fzI(x:List Int):A:=.fs true (ints x)
structure Shw(p:Pl)(j:Nat)(r:Rs)(s:Sy):Prop where
 b:∀m,m<p.ms.length→m≠j→r.bc m=fzI (s.bef m)
 h:∀m,m<p.ms.length→r.hl m=s.hal.getD m false
 c:∀i,i<p.bs.length→∀q,q≤p.rl i→r.sc i q=fzI (slt p s i q)
 f:r.fd=s.fed
theorem y0v{m:Nat}{H:List Blk}{f g:Nat→A}:∀{n:Nat},(∀i,i<n→Fz m H (f i) (g i))→FzL m H ((List.range n).map f) ((List.range n).map g)
 | 0,_=>trivial
 | n+1,h=>by
  rw[List.range_succ,List.map_append,List.map_append]
  exact FzL.cat (y0v fun i hi=>h i (by omega)) ⟨h n (by omega),trivial⟩
theorem yL2(n:Nat)(f:Nat→List Int):rows true ((List.range n).map f)=(List.range n).map fun i=>fzI (f i):=by simp [rows,Function.comp_def]
theorem y6E {K : List Blk} {p : Pl} {ad : Rd} {r : Rs} {s : Sy} (h : RM K p p.ms.length p.bs.length ad r) (hb : ∀ m, m < p.ms.length → Fz 0 K (r.bc m) (fzI (s.bef m))) (hh : ∀ m, m < p.ms.length → r.hl m = s.hal.getD m false)
    (hc:∀i,i<p.bs.length→∀q,q≤p.rl i→r.sc i q=fzI (slt p s i q)) (hf:r.fd=s.fed) (hl:s.hal.length=p.ms.length):Fz 0 K (.agg (outC p p.ms.length p.bs.length ad r.fd)) (stA p s):=by
  rw[hf]
  have e1:=h.get .bef rfl
  have e2:=h.get .bel rfl
  have e3:=h.get .hal rfl
  simp only[ctR]at e1 e2 e3
  have e4:(List.range p.ms.length).map r.hl=s.hal:=by
    refine Z5 false (by simp [hl]) fun m hm=>?_
    have hm':m<p.ms.length:=by simpa using hm
    rw[tabD _ _ _ _ hm',hh m hm']
  rw[e4]at e3
  refine Fz.agg ⟨Fz.refl rfl,Fz.refl (by simp [A.bd,y3D]),Fz.refl (by simp [A.bd,y00]),Fz.refl rfl,?_,?_,xp5 0 K _ _ _ _ (by omega) hl.symm e3,Fz.refl (by simp [A.bd,zl4]),trivial⟩
  · refine Fz.vs (Nat.zero_le _) e1 (r:=rows true (befL p s)) ?_ ?_ (by rw[zH8,zH4]) (by rw[zH8,zH4];omega)
    · unfold befL;rw[yL2];exact y0v hb
    · rw[List.take_of_length_le (by rw[zH8,zH4];omega)];exact z3c _ _
  · refine Fz.vs (Nat.zero_le _) e2 (r:=mxs (belL p s)) ?_ ?_ (by rw[z90,zH5]) (by rw[z90,zH5];omega)
    · have:mxs (belL p s)=(List.range p.bs.length).map fun i=>mxF (belM p s i):=by simp [mxs,belL,Function.comp_def]
      rw[this]
      refine y0v fun i hi=>?_
      have e5:=h.get (.sl i) (by simpa [usR]using hi)
      simp only[ctR]at e5
      refine xp3 0 K _ _ _ (belM p s i) (by omega) (z1k _ _ _).symm ?_
      rw[e5]
      unfold belM
      rw[yL2]
      congr 1
      exact y8J fun q hq=>hc i hi q (by omega)
    · rw[List.take_of_length_le (by rw[z90,zH5];omega)];exact y6C _
theorem Shw.fz{K:List Blk}{p:Pl}{ad:Rd}{r:Rs}{s:Sy}(hs:Shw p p.ms.length r s)(h:RM K p p.ms.length p.bs.length ad r)(hl:s.hal.length=p.ms.length):Fz 0 K (.agg (outC p p.ms.length p.bs.length ad r.fd)) (stA p s) :=
 y6E h (fun m hm=>by rw[hs.b m hm (by omega)];exact Fz.refl (by simp [A.bd,zl4])) hs.h hs.c hs.f hl
theorem z1l{n:Nat}{a:List Int}(h:a.length=n):zc9 a (y9 n)=a:=by
 refine Z5 0 (Q6 _ _) fun i hi=>?_
 rw[Q6]at hi
 rw[zt5 _ _ _ hi,Y5];omega
theorem xa0{kp w v:Bool}{H:List Blk}(a b:List Int)(hl:b.length=a.length)(hs:Sm a b)(h9:a.length≤16):VR P kp zF4 [.fs w (ints a),.fs v (ints b)] H (fun r H'=>r=.sl H.length a.length 1 0 a.length∧H'=H++[⟨a.length,ints (zc9 a b)⟩]) :=
 (y0s a b hl hs h9).useO (LdL.refl (by simp (disch:=first|omega|simp (disch:=omega) only[aG,aM,aT]) only[fZ,aM,aT])) (by simp [A.cl,yl3]) ⟨by simp [A.sh],by simp [Blk.sh,zU0 _ (zl4 0 _)]⟩
theorem z7V{n:Nat}{a:List Int}(h:zn7 n a):Sm a (y9 n):=fun i _=>by
 have:=h.2 i
 rw[Y5];omega
theorem y6F{w v:Bool}(p:Pl)(hp:y6 p=0):VR P false z2A [.agg [.v (.int .i64 p.mt),.fs true (mcs true p.ms),.fs true (bts p.bs),.v (.int .i64 p.fd)]] [] (isR (stA p (newS p))) :=
 (y0u (H:=[]) (w:=w) (v:=v) p hp).cut fun r G ⟨ad,h1,h2,_,_⟩=>⟨_,[],by
  subst h1
  refine Cut.of' 0 rfl (by simp) (by simp [FzB]) ⟨?_,trivial⟩
  have hs:Shw p p.ms.length (rs0 p) (newS p):=⟨fun m _ _=>rfl,fun m hm=>by simp [rs0,newS,List.getD_eq_getElem?_getD,List.getElem?_replicate,hm],fun i hi q hq=>by
   simp only[rs0]
   congr 2
   cases q<;>rfl,rfl⟩
  exact hs.fz h2 (by simp [newS]),rfl,rfl⟩
theorem y0w{α:Type}{p:α→Prop}[DecidablePred p]{l:List α}:0≤idxE p l↔∃x∈l,p x:=by
 constructor
 ·intro h
  have h1:=z5S p l
  cases l with
  | nil=>simp [idxE]at h
  | cons d r=>exact⟨_,x3 d (by omega),z0W (p:=p) d h⟩
 ·rintro⟨x,h1,h2⟩
  apply Classical.byContradiction;intro hc
  exact zS9 (p:=p) (l:=l) (by omega) x h1 h2
def delG(l:Arcs)(r:List Int):Prop:=r.length=1∧¬(r.getD 0 0,r.getD 0 0)∈l
instance(l:Arcs):DecidablePred (delG l):=fun r=>by unfold delG;infer_instance
def fedE(p:Pl)(xs:List Int):Int:=if xs.length≠p.mt then 18 else if mixE xs≠0 then 1 else if 2000<xs.sum then 1 else 0
theorem z92{p:Pl}{xs:List Int}(h:fedE p xs=0):xs.length=p.mt∧mixE xs=0∧xs.sum≤2000:=by
 unfold fedE at h
 split at h
 ·cases h
 split at h
 ·cases h
 split at h
 ·cases h
 rename_i h1 h2 h3
 exact⟨Classical.not_not.1 h1,Classical.not_not.1 h2,by omega⟩
theorem y0x{w v u:Bool}{p:Pl}(ok:POk p)(xs:List Int):VR P false z1I [plA w v p,.fs u (ints xs)] [] (isR (.v (.int .i64 (fedE p xs)))):=by
 refine z8u (by simp) (.inr rfl) fun _ _=>?_
 obtain⟨m1,m2,m3⟩:=ok.mt1
 unfold plA plC
 rw[m3]
 by_cases h1:(xs.length:Int)≠p.mt
 ·have e:fedE p xs=18:=by unfold fedE;rw[if_pos (by omega)]
  rw[e]
  simp (disch:=(try simp only[lZ]);omega) only[aZ,aM,zr1,zI0,decide_eq_true h1,zi9]
  exact y1 ⟨rfl,rfl⟩
 have h1':xs.length=p.mt:=by omega
 simp (disch:=(try simp only[lZ]);omega) only[aZ,aM,zr1,zI0,decide_eq_false h1]
 refine AWP.loopP z66 (fun k:Nat=>k≤xs.length∧∀i,i<k→0≤xs.getD i 0∧xs.getD i 0≤1073741824) (fun k=>[(2,.v (.int .i64 0)),(4,.v (.int .i64 (sumT xs k))),(5,.v (.int .i64 k))]) (fun _=>[]) (fun k=>xs.length-k) 0 ⟨by omega,fun i hi=>absurd hi (by omega)⟩ ?_ ?_
 ·rw[ze8]
  exact Cut.fg (by simp (disch:=first|omega|simp (disch:=omega) only[aG,aM]) only[fZ,aM,y0,z9,or_true,true_or])
 rintro k ⟨hk,hg⟩
 have hb:=zB5 xs 0 1073741824 k hk hg
 by_cases hkt:k<xs.length
 ·by_cases hbad:xs.getD k 0<0∨xs.getD k 0>1073741824
  ·have e : fedE p xs = 1 := by
    unfold fedE
    rw[if_neg (by omega),if_pos]
    intro hm
    have:=zT0 hm k hkt
    omega
   rw[e]
   rcases hbad with h|h
   ·simp (disch:=(try simp only[lZ]);omega) only[aZ,aM,decide_eq_true h,zi9]
    exact y1 ⟨rfl,rfl⟩
   ·simp (disch:=(try simp only[lZ]);omega) only[aZ,aM,decide_eq_false (show ¬xs.getD k 0<0 by omega),decide_eq_true h,zi9]
    exact y1 ⟨rfl,rfl⟩
  ·have hs:=ze9 xs k hkt
   simp (disch:=(try simp only[lZ]);omega) only[aZ,aM,decide_eq_false (show ¬xs.getD k 0<0 by omega),decide_eq_false (show ¬xs.getD k 0>1073741824 by omega)]
   refine⟨k+1,⟨by omega,fun i hi=>?_⟩,by omega,?_⟩
   ·by_cases e:i=k
    ·subst e;omega
    ·exact hg i (by omega)
   ·rw[hs]
    exact Cut.fg (by simp (disch:=first|omega|simp (disch:=omega) only[aG,aM]) only[fZ,aM,y0,z9,or_true,true_or])
 have hke:k=xs.length:=by omega
 subst hke
 rw[zd8]at hb ⊢
 have hm:mixE xs=0:=zB6.2 ⟨by omega,fun x hx=>by obtain⟨i,hi,rfl⟩:=zJ9 0 hx;exact hg i hi⟩
 by_cases h2:xs.sum>2000
 ·have e:fedE p xs=1:=by unfold fedE;rw[if_neg (by omega),if_neg (fun h=>h hm),if_pos h2]
  rw[e]
  simp (disch:=(try simp only[lZ]);omega) only[aZ,aM,decide_eq_true h2,zi9]
  exact y1 ⟨rfl,rfl⟩
 ·have e:fedE p xs=0:=by unfold fedE;rw[if_neg (by omega),if_neg (fun h=>h hm),if_neg h2]
  rw[e]
  simp (disch:=(try simp only[lZ]);omega) only[aZ,aM,decide_eq_false h2,zi9]
  exact y1 ⟨rfl,rfl⟩
theorem y1a{u:Bool}(xs:List Int)(hl:xs.length≤1000):VR P false zV1 [.fs u (ints xs)] [] (isR (.v (.bool (decide (0≤idxE posM xs))))):=by
 refine z5s (by simp) (.inr rfl) fun _ _=>?_
 simp (disch:=(try simp only[lZ]);omega) only[aZ,aM,zu6,zV3]
 refine AWP.loopP z3u (fun k:Nat=>k≤xs.length∧∀i,i<k→¬posM (xs.getD i 0)) (fun k=>[(1,.v (.bool false)),(2,.v (.int .i64 k))]) (fun _=>[]) (fun k=>xs.length-k) 0 ⟨by omega,fun i hi=>absurd hi (by omega)⟩ ?_ ?_
 ·exact Cut.fg (by simp (disch:=first|omega|simp (disch:=omega) only[aG,aM]) only[fZ,aM,y0,z9,or_true,true_or])
 rintro k ⟨hk,hg⟩
 by_cases hkt:k<xs.length
 ·by_cases hp:xs.getD k 0>0
  ·have e:=zH3 0 hkt hg hp
   rw[decide_eq_true (show 0≤idxE posM xs by omega)]
   simp (disch:=(try simp only[lZ]);omega) only[aZ,aM,decide_eq_true hp,zV4]
   exact y1 ⟨rfl,rfl⟩
  ·simp (disch:=(try simp only[lZ]);omega) only[aZ,aM,decide_eq_false hp]
   refine⟨k+1,⟨by omega,fun i hi=>?_⟩,by omega,?_⟩
   ·by_cases e:i=k
    ·subst e;exact hp
    ·exact hg i (by omega)
   ·exact Cut.fg (by simp (disch:=first|omega|simp (disch:=omega) only[aG,aM]) only[fZ,aM,y0,z9,or_true,true_or])
 have hke:k=xs.length:=by omega
 subst hke
 have e:=zn4 0 hg
 rw[decide_eq_false (show ¬0≤idxE posM xs by omega)]
 simp (disch:=(try simp only[lZ]);omega) only[aZ,aM,zV4]
 exact y1 ⟨rfl,rfl⟩
def yN(p:Pl)(xs:List Int):Nat:=xs.sum.toNat*(perP p).toNat
def yS(p:Pl)(xs:List Int):Sy:=itS p (zd9 p (newS p) xs) (yN p xs)
def yldM(p:Pl)(xs:List Int)(m:Nat):List Int:=if binN p m then(yS p xs).bef m else y9 p.mt
def yldL(p:Pl)(xs:List Int):List (List Int):=(List.range p.ms.length).map (yldM p xs)
def yldR(p:Pl)(xs:List Int):List (List Int)×Int:=if chkP p≠0 then([],chkP p)else if fedE p xs≠0 then([],fedE p xs)else(yldL p xs,0)
def yldT(x:List (List Int)×Int):A:=.tup [.fs true (rows true x.1),.v (.int .i64 x.2)]
theorem ys1{p:Pl}{xs:List Int}(hf:fedE p xs=0):fitE p.mt (newS p).fed xs=0:=by
 obtain⟨h1,h2,h3⟩:=z92 hf
 unfold fitE
 rw[if_neg (by omega),if_neg (fun h=>h h2),if_neg]
 rintro⟨i,hi,h4⟩
 have:=zT0 h2 i hi
 rw[show(newS p).fed.getD i 0=0 from Y5 _ _]at h4
 omega
theorem yD6{p:Pl}(hc:chkP p=0){xs:List Int}(hf:fedE p xs=0):Iv p (zd9 p (newS p) xs)∧noH (zd9 p (newS p) xs)∧sumI p (yS p xs)=0:=by
 have hp:=(zc7 hc).1
 have ok:=y7 hp
 obtain⟨h1,h2,h3⟩:=z92 hf
 have hi:=(Iv.new p).feed ok (ys1 hf)
 have hn:noH (zd9 p (newS p) xs):=y98 p
 have hg:=z9u h2
 refine⟨hi,hn,y0r hc _ hi.1 hn ?_⟩
 rw[Int.toNat_of_nonneg hg.1,← yq9,h1]
 refine yL1 fun x _=>?_
 have q1:=(zB9 hi.1 x).1
 have q2:=z7T ok (Gd.new p) h1 x
 rw[yr2]at q2
 omega
theorem y0y{p:Pl}{s:Sy}(hg:Gd p s)(h:sumI p s=0):¬0≤idxE posM (insL p s):=by
 rw[y0w]
 rintro⟨y,hy,hp⟩
 obtain⟨i,hi,rfl⟩:=zJ9 0 hy
 rw[zT6]at hi
 have:=zq7 (fun x _=>(zB9 hg x).2) h hi
 unfold insL at hp
 rw[zx3 _ _ _ hi,this]at hp
 unfold posM at hp;omega
theorem y6G{p:Pl}{s:Sy}(hg:Gd p s)(h:¬0≤idxE posM (insL p s)):∀x,x<p.mt→insT p s x=0:=fun x hx=>by
 have q:=(zB9 hg x).2
 apply Classical.byContradiction
 intro hne
 refine h (y0w.2 ⟨_,x3 0 (k:=x) (l:=insL p s) (by rw[zT6];exact hx),?_⟩)
 unfold insL
 rw[zx3 _ _ _ hx]
 unfold posM;omega
theorem ys2(H:List Blk)(e:Int):Fz 0 H (.tup [.v (.slice none 0 0),.v (.int .i64 e)]) (yldT ([],e)):=Fz.tup ⟨z3d _ _,Fz.refl rfl,trivial⟩
theorem yD7{p:Pl}{s:Sy}(g1:Gd p s)(hpos:¬0≤idxE posM (insL p s)):∀x,insT p s x=0:=fun x=>by
 have h0:=(zB9 g1 x).2
 by_cases hx:x<p.mt
 ·exact y6G g1 hpos x hx
 ·have e1 : sm p.ms.length (inM p s x) = 0 := by
   rw[Z7 (g:=fun _=>0) fun m hm=>by unfold inM;split;rfl;exact zi7 (g1.bl m hm).1 (by omega),zK1]
  have e2:sm p.bs.length (inB p s x)=0:=by
   rw[Z7 (g:=fun _=>0) fun i hi=>by
    unfold inB
    rw[zi7 (g1.fl i hi).1 (by omega),Z7 (g:=fun _=>0) fun q hq=>zi7 (g1.rl i hi q hq).1 (by omega),zK1];rfl,zK1]
  unfold insT;omega
def refs(mt:Nat)(J:Nat→Nat×Nat)(k:Nat):List A:=(List.range k).map fun i=>A.sl (J i).1 (J i).2 1 0 mt
theorem y6H(mt:Nat)(J:Nat→Nat×Nat)(k:Nat):(refs mt J k).length=k:=by simp [refs]
theorem y5k(mt:Nat)(J:Nat→Nat×Nat)(k:Nat)(x:Nat×Nat):refs mt (fun i=>if i=k then x else J i) (k+1)=refs mt J k++[A.sl x.1 x.2 1 0 mt]:=by
 unfold refs
 rw[List.range_succ,List.map_append]
 congr 1
 ·exact List.map_congr_left fun i hi=>by have:=List.mem_range.1 hi;simp only[if_neg (show ¬i=k by omega)]
 ·simp
theorem yD8 {p : Pl} {a : Ad} {s : Sy} {Q QL : List Blk} {F m : Nat} {J : Nat → Nat × Nat} {l0 : List A} {Y : Nat → List Int} (x : Nat × Nat) (g : Gr nof Q QL) (qP : PM Q p a s) (qB : blkAt Q 0 0 = some l0) (qF : blkAt Q F m = some (refs p.mt J m))
    (qJ:∀i,i<m→blkAt Q (J i).1 (J i).2=some (ints (Y i))∧(J i).1≠F) (nF:¬ftp p a F) (hF0:0<F) (hx:blkAt QL x.1 x.2=some (ints (Y m))) (hxF:x.1≠F) :
    PM (QL.set F ⟨m+1,refs p.mt J m++[A.sl x.1 x.2 1 0 p.mt]⟩) p a s∧blkAt (QL.set F ⟨m+1,refs p.mt J m++[A.sl x.1 x.2 1 0 p.mt]⟩) 0 0=some l0 ∧
    blkAt (QL.set F ⟨m+1,refs p.mt J m++[A.sl x.1 x.2 1 0 p.mt]⟩) F (m+1)=some (refs p.mt (fun i=>if i=m then x else J i) (m+1)) ∧
    ∀i,i<m+1→blkAt (QL.set F ⟨m+1,refs p.mt J m++[A.sl x.1 x.2 1 0 p.mt]⟩) ((fun i=>if i=m then x else J i) i).1 ((fun i=>if i=m then x else J i) i).2=some (ints (Y i))∧((fun i=>if i=m then x else J i) i).1≠F:=by
  have hFL:=y4 (g.at qF fun h=>h)
  refine⟨(qP.gr g fun _ _ h=>h).gr (Gr.set (F:=one F) _ _ _ rfl) fun c hc hf=>nF ⟨c,hc,hf⟩,?_,?_,fun i hi=>?_⟩
  · rw[y5 _ _ _ _ _ (by omega)];exact g.at qB fun h=>h
  · rw[y5k];exact x0 _ _ _ _ hFL
  · by_cases e:i=m
    · subst e
      simp only[if_true]
      exact⟨by rw[y5 _ _ _ _ _ hxF];exact hx,hxF⟩
    · simp only[if_neg e]
      obtain⟨q1,q2⟩:=qJ i (by omega)
      exact⟨by rw[y5 _ _ _ _ _ q2];exact g.at q1 fun h=>h,q2⟩
set_option maxHeartbeats 4000000 in
theorem z55{w v u:Bool}(p:Pl)(xs:List Int):VR P false zU2 [plA w v p,.fs u (ints xs)] [] (isR (yldT (yldR p xs))):=by
 refine z5n (by simp) (.inr rfl) fun _ _=>?_
 have hnw:=fun H=>xu5 (H:=H) (w:=w) (v:=v) p
 have hne:=fun H=>y9T (H:=H) (w:=w) (v:=v) p
 unfold plA plC at *
 by_cases hc:chkP p=0
 case neg =>
  have e:yldR p xs=([],chkP p):=by unfold yldR;rw[if_pos hc]
  rw[e]
  simp (disch:=(try simp only[lZ]);omega) only[aZ,aM,zj9,zt9]
  refine(hne _ hc).mono ?_
  rintro r K ⟨rfl,G⟩
  refine z7 ?_
  simp (disch:=(try simp only[lZ]);omega) only[aZ,aM,decide_eq_true (show ¬chkP p=0 from hc),zu0]
  exact y8 (ys2 _ _) ⟨rfl,rfl⟩
 have hp:=(zc7 hc).1
 have ok:=y7 hp
 obtain⟨m1,m2,m3⟩:=ok.mt1
 have n2:=ok.n2
 have hfd:=y0x (w:=w) (v:=v) (u:=u) ok xs
 unfold plA plC at hfd
 rw[m3]at hfd ⊢
 simp only[m3]at hnw
 simp (disch:=(try simp only[lZ]);omega) only[aZ,aM,zj9,zt9]
 refine(hnw _ hc).mono ?_
 rintro r K0 ⟨a0,rfl,P0,G0,L0⟩
 have b0:blkAt K0 0 0=some [.v (.int .i64 p.mt),.fs w (mcs w p.ms),.fs v (bts p.bs),.v (.int .i64 p.fd)]:=G0.at rfl (fun h=>h)
 have n0:¬ftp p a0 0:=y95 L0 (by simp)
 clear G0 L0
 refine z7 ?_
 simp (disch:=(try simp only[lZ]);omega) only[aZ,aM,b0]
 refine hfd.same (by simp (disch:=first|omega|simp (disch:=omega) only[aG,aM]) only[fZ,aM]) rfl (z7 ?_)
 by_cases hf:fedE p xs=0
 case neg =>
  have e:yldR p xs=([],fedE p xs):=by unfold yldR;rw[if_neg (fun h=>h hc),if_pos hf]
  rw[e]
  simp (disch:=(try simp only[lZ]);omega) only[aZ,aM,decide_eq_true (show ¬fedE p xs=0 from hf),zu0]
  exact y8 (ys2 _ _) ⟨rfl,rfl⟩
 have e:yldR p xs=(yldL p xs,0):=by unfold yldR;rw[if_neg (fun h=>h hc),if_neg (fun h=>h hf)]
 rw[e]
 obtain⟨hI,hn,hz⟩:=yD6 hc hf
 have hfe:=y9M (w:=u) hp P0 (Gd.new p) (ys1 hf)
 simp (disch:=(try simp only[lZ]);omega) only[aZ,aM,hf]
 refine hfe.mono ?_
 rintro r K1 ⟨rfl,P1,T1⟩
 have k1:=T1.keep b0 n0
 refine z7 ?_
 simp (disch:=(try simp only[lZ]);omega) only[aZ,aM]
 obtain⟨s0,hs0⟩:∃s0,s0=zd9 p (newS p) xs:=⟨_,rfl⟩
 rw[← hs0]at hI hn P1
 have hys:yS p xs=itS p s0 (yN p xs):=by rw[hs0];rfl
 refine AWP.loopM z3l (fun x:Nat×Ad×List Blk=>x.1≤yN p xs∧PM x.2.2 p x.2.1 (itS p s0 x.1)∧(x.2.1 .root)=(a0 .root)∧blkAt x.2.2 0 0=some [.v (.int .i64 p.mt),.fs w (mcs w p.ms),.fs v (bts p.bs),.v (.int .i64 p.fd)]∧¬ftp p x.2.1 0) (fun _=>[]) (fun x=>x.2.2) (fun x=>yN p xs-x.1) (0,a0,K1) ⟨by omega,P1,rfl,k1.1,k1.2⟩ ?_ ?_
 ·exact Cut.fg (by simp (disch:=first|omega|simp (disch:=omega) only[aG,aM]) only[fZ,aM,y0,z9,or_true,true_or])
 clear P1 T1 k1 b0 n0 P0
 rintro⟨k,a,K⟩ ⟨hk,kP,ka,kB,kN⟩
 simp only at hk kP ka kB kN
 have hGd:=(hI.it hp k).1
 have hi1:=y6s hp kP hGd
 rw[ka]at hi1
 have hhv:=y1a (u:=false) (insL p (itS p s0 k)) (by rw[zT6];omega)
 simp (disch:=(try simp only[lZ]);omega) only[aZ,aM]
 refine hi1.mono ?_
 rintro r K2 ⟨rfl,G2,O2⟩
 have P2:=kP.gr G2 fun _ _ h=>h
 have B2:=G2.at kB fun h=>h
 refine z7 ?_
 simp (disch:=(try simp only[lZ]);omega) only[aZ,aM]
 refine hhv.use ⟨zD6 K2 _ _ _ _ (zT6 _ _).symm O2,trivial⟩ rfl (z7 ?_)
 by_cases hh:0≤idxE posM (insL p (itS p s0 k))
 ·rw[decide_eq_true hh]
  have hkN:k≠yN p xs:=fun e=>by
   subst e
   rw[← hys]at hh hGd
   exact y0y hGd hz hh
  have hst:=xu1 hp P2 hGd
  rw[ka]at hst
  simp (disch:=(try simp only[lZ]);omega) only[aZ,aM]
  refine hst.mono ?_
  rintro r K3 ⟨rfl,a3,P3,T3⟩
  have k3:=T3.keep B2 kN
  refine z7 ?_
  simp (disch:=(try simp only[lZ]);omega) only[aZ,aM]
  refine⟨(k+1,a3,K3),⟨by simp only;omega,P3,T3.2.2.trans ka,k3.1,k3.2⟩,by simp only;omega,?_⟩
  try simp (disch:=(try simp only[lZ]);omega) only[aZ,aM]
  exact Cut.fg (by simp (disch:=first|omega|simp (disch:=omega) only[aG,aM]) only[fZ,aM,y0,z9,or_true,true_or])
 have hzz:=yD7 hGd hh
 have hE:Eqv p (itS p s0 k) (yS p xs):=by rw[hys];exact y5a hp hI.1 hk (.inr hzz)
 rw[decide_eq_false hh]
 generalize itS p s0 k=s at *
 clear hi1 hhv G2 O2 kP kB hh
 have hy:∀m,m<p.ms.length→yldM p xs m=s.bef m:=fun m hm=>by
  unfold yldM
  by_cases hb:binN p m
  ·rw[if_pos hb,hE.bef m hm]
  ·rw[if_neg hb];exact(yr5 hGd hzz hm hb).symm
 have hyl:∀m,m<p.ms.length→(yldM p xs m).length=p.mt:=fun m hm=>by rw[hy m hm];exact(hGd.bl m hm).1
 simp (disch:=(try simp only[lZ]);omega) only[aZ,aM,B2]
 refine AWP.cut (Cut.virt 8 1 rfl) ?_
 obtain⟨F,hF⟩:∃F,F=K2.length:=⟨_,rfl⟩
 have hF0:0<F:=by rw[hF];exact y4 B2
 have nF:¬ftp p a F:=by rw[hF];exact P2.nftp (Nat.le_refl _)
 rw[← hF]
 refine AWP.loopM z3m (fun x:Nat×(Nat→Nat×Nat)×List Blk=>x.1≤p.ms.length∧PM x.2.2 p a s∧blkAt x.2.2 0 0=some [.v (.int .i64 p.mt),.fs w (mcs w p.ms),.fs v (bts p.bs),.v (.int .i64 p.fd)]∧blkAt x.2.2 F x.1=some (refs p.mt x.2.1 x.1)∧∀i,i<x.1→blkAt x.2.2 (x.2.1 i).1 (x.2.1 i).2=some (ints (yldM p xs i))∧(x.2.1 i).1≠F) (fun x=>[(8,.vs F x.1 1 x.1),(9,.v (.int .i64 x.1))]) (fun x=>x.2.2) (fun x=>p.ms.length-x.1) (0,(fun _=>(0,0)),K2++[(⟨0,[]⟩:Blk)]) ⟨by omega,P2.grow _,by rw[x2 _ _ _ _ (y4 B2)];exact B2,by rw[hF,x5];rfl,fun i hi=>absurd hi (by simp)⟩ ?_ ?_
 ·exact Cut.fg (by simp (disch:=first|omega|simp (disch:=omega) only[aG,aM]) only[fZ,aM,y0,z9,or_true,true_or])
 clear P2 B2 hF
 rintro⟨m,J,Q⟩ ⟨hm,qP,qB,qF,qJ⟩
 simp only at hm qP qB qF qJ
 have rl:=y6H p.mt J m
 by_cases hmt:m<p.ms.length
 case neg =>
  have hme:m=p.ms.length:=by omega
  subst hme
  simp (disch:=(try simp only[lZ]);omega) only[aZ,aM,zu0]
  refine y8 (r:=yldT (yldL p xs,0)) (Fz.tup (r:=[.fs true (rows true (yldL p xs)),.v (.int .i64 0)]) ⟨?_,Fz.refl rfl,trivial⟩) ⟨rfl,rfl⟩
  have e1:rows true (yldL p xs)=(List.range p.ms.length).map fun i=>fzI (yldM p xs i):=yL2 _ _
  have e2:(yldL p xs).length=p.ms.length:=by simp [yldL]
  refine Fz.vs (Nat.zero_le _) qF (r:=rows true (yldL p xs)) ?_ ?_ (by rw[zH8,e2]) (by rw[zH8,e2];omega)
  ·rw[e1]
   refine y0v fun i hi=>?_
   exact zK3 0 Q _ _ _ (yldM p xs i) (Nat.zero_le _) (hyl i hi).symm (qJ i hi).1
  ·rw[List.take_of_length_le (by rw[zH8,e2];omega)];exact z3c _ _
 have lF:=y4 qF
 by_cases he:fndE p m=0
 ·have hb:=xs3 ok qP hGd.ok m he
  rw[ka,Int.toNat_natCast,← hy m hmt]at hb
  simp (disch:=(try simp only[lZ]);omega) only[aZ,aM]
  refine hb.mono ?_
  rintro r Q2 ⟨rfl,hQ2⟩
  refine z7 ?_
  have g:Gr nof Q (Q2++[⟨0,[.sl Q.length 1 1 0 p.mt]⟩]):=by rw[hQ2];exact(Gr.app _ _).trans (Gr.app _ _) fun _ _ h=>h
  have lF2:F<Q2.length:=by rw[hQ2,List.length_append];simp;omega
  have aF:blkAt (Q2++[⟨0,[.sl Q.length 1 1 0 p.mt]⟩]) F m=some (refs p.mt J m):=g.at qF fun h=>h
  have hst:=yD8 (Y:=yldM p xs) (Q.length,1) g qP qB qF qJ nF hF0 (by rw[hQ2,x2 _ _ _ _ (by simp),x5];rfl) (by simp only;omega)
  rw[List.set_append_left _ _ lF2]at hst
  simp (disch:=(try simp only[lZ]);omega) only[aZ,aM,aF]
  rw[List.take_of_length_le (by rw[rl];omega)]
  refine⟨(m+1,_,_),⟨by simp only;omega,hst⟩,by simp only;omega,?_⟩
  try simp (disch:=(try simp only[lZ]);omega) only[aZ,aM]
  exact Cut.fg (by simp (disch:=first|omega|simp (disch:=omega) only[aG,aM]) only[fZ,aM,y0,z9,or_true,true_or])
 ·have hb:=y9y ok qP m he
  rw[ka]at hb
  simp (disch:=(try simp only[lZ]);omega) only[aZ,aM]
  refine hb.mono ?_
  rintro r Q2 ⟨rfl,hQ2⟩
  subst hQ2
  refine z7 ?_
  have hyz:yldM p xs m=List.replicate p.mt 0:=by
   unfold yldM
   rw[if_neg (fun hb=>he (by unfold fndE;rw[if_neg (by omega),Int.toNat_natCast,if_neg (fun h=>h hb)]))]
  have g:Gr nof Q2 (Q2++[⟨0,ints (List.replicate p.mt 0)⟩,⟨0,[.sl Q2.length 0 1 0 p.mt]⟩]):=Gr.app _ _
  have aF:blkAt (Q2++[⟨0,ints (List.replicate p.mt 0)⟩,⟨0,[.sl Q2.length 0 1 0 p.mt]⟩]) F m=some (refs p.mt J m):=g.at qF fun h=>h
  have hst:=yD8 (Y:=yldM p xs) (Q2.length,0) g qP qB qF qJ nF hF0 (by rw[x5,hyz];rfl) (by simp only;omega)
  rw[List.set_append_left _ _ lF]at hst
  simp (disch:=(try simp only[lZ]);omega) only[aZ,aM,decide_eq_true he,qB,aF]
  rw[List.take_of_length_le (by rw[rl];omega)]
  refine⟨(m+1,_,_),⟨by simp only;omega,hst⟩,by simp only;omega,?_⟩
  try simp (disch:=(try simp only[lZ]);omega) only[aZ,aM]
  exact Cut.fg (by simp (disch:=first|omega|simp (disch:=omega) only[aG,aM]) only[fZ,aM,y0,z9,or_true,true_or])
end Go.Proofs.YtcppaddgclkekaaGreat
