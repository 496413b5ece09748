/- Lemmas and walks that the proof of SetpointBests uses. No statement is claimed here. -/
import Derived.Test.YtcppaddgclkekaaGreatSetpointBestsZap
namespace Go.Proofs.YtcppaddgclkekaaGreat
open Go Go.Lft
set_option linter.unusedSimpArgs false
set_option linter.unusedVariables false
attribute [local congr] Q7 Q8 Q9 za1 Z9 Y0 za2 Y2 Y3 Y4 za3 za0
def badE(x:Int):Int:=if x<0∨1073741824<x then 18 else 0
theorem z7Q{x:Int}(h:x<0∨1073741824<x):badE x=18:=by unfold badE;rw[if_pos h]
theorem yJ6{x:Int}(h:¬(x<0∨1073741824<x)):badE x=0:=by unfold badE;rw[if_neg h]
theorem z9F{x:Int}(h:badE x=0):0≤x∧x≤1073741824:=by unfold badE at h;split at h<;>omega
def msE(m:Mc)(xs:List Int):Int:=if w5 m xs.length≠0 then w5 m xs.length else if zc5 badE xs≠0 then 18 else if y3 m=0 then 13 else 0
def msM(m:Mc)(xs:List Int):List (List Int):=mtx (y3 m) xs.length fun o i=>(divM m i (xs.getD i 0)).getD o 0
def msF(m:Mc)(xs:List Int)(x o:Nat):Nat→Nat→Int:=fun a b=>if b<x∨(b=x∧a<o)then(divM m b (xs.getD b 0)).getD a 0 else 0
def xr9(m:Mc)(xs:List Int):A→List Blk→Prop:=fun r G=>(msE m xs≠0∧r=.tup [.v (.slice none 0 0),.v (.int .i64 (msE m xs))]∧G=[])∨(msE m xs=0∧r=.tup [.sl 1 0 1 0 (y3 m),.v (.int .i64 0)]∧G=hm [.any] 0 (ptrA (y3 m) xs.length) (msM m xs))
theorem yZ1(m:Mc)(xs:List Int)(n:Nat):mtx (y3 m) n (msF m xs 0 0)=mtx (y3 m) n fun _ _=>0:=yq0 fun o i _ _=>by unfold msF;rw[if_neg (by omega)]
theorem yZ2(m:Mc)(xs:List Int)(x:Nat):mtx (y3 m) xs.length (msF m xs x (y3 m))=mtx (y3 m) xs.length (msF m xs (x+1) 0):=yq0 fun o i ho _=>by
 unfold msF
 by_cases h:i<x∨(i=x∧o<y3 m)
 ·rw[if_pos h,if_pos (by omega)]
 ·rw[if_neg h,if_neg (by omega)]
theorem y4m(m:Mc)(xs:List Int):mtx (y3 m) xs.length (msF m xs xs.length 0)=msM m xs:=yq0 fun o i ho hi=>by
 unfold msF;rw[if_pos (by omega)]
theorem y4n(m:Mc)(xs:List Int){x o:Nat}(ho:o<y3 m)(hx:x<xs.length):(mtx (y3 m) xs.length (msF m xs x o)).set o (((List.range xs.length).map fun i=>msF m xs x o o i).set x ((divM m x (xs.getD x 0)).getD o 0))=mtx (y3 m) xs.length (msF m xs x (o+1)):=by
 rw[y9p _ o x _ ho hx]
 refine yq0 fun a b _ _=>?_
 by_cases h:a=o∧b=x
 ·obtain⟨rfl,rfl⟩:=h
  rw[if_pos ⟨rfl,rfl⟩];unfold msF;rw[if_pos (by omega)]
 ·rw[if_neg h];unfold msF
  by_cases h2:b<x∨(b=x∧a<o)
  ·rw[if_pos h2,if_pos (by omega)]
  ·rw[if_neg h2,if_neg (by omega)]
theorem yZ3{m:Mc}{mat:Int}(h:MOk m mat)(ho:y3 m≠0){k:Nat}(hk:k<m.length){t:Int}(ht:0≤t∧t≤1073741824):(divM m k t).length=y3 m:=by
 obtain⟨h1,h2,h3,h4,h5⟩:=zn6 h ho hk ht
 unfold divM
 rw[z7P,(z4R (zB7 h1).sp).len,h3]
theorem z7F{w v:Bool}(m:Mc)(xs:List Int):VR P false zA8 [mcA w m,.fs v (ints xs)] [] (xr9 m xs):=by
 refine z7w (by simp) (.inr rfl) fun _ _=>?_
 unfold mcA mcC
 simp (disch:=(try simp only[lZ]);omega) only[aZ,aM,aQ,zA9,z0H]
 refine(zB8 (w:=w) m xs.length).same (by unfold mcA mcC;simp (disch:=first|omega|simp (disch:=omega) only[aG,aM,aQ]) only[fZ,aM,aQ]) rfl (z7 ?_)
 simp (disch:=(try simp only[lZ]);omega) only[aZ,aM,aQ]
 refine y2 (fun h1=>?_) (fun h1=>?_)
 ·have he:msE m xs=w5 m xs.length:=by unfold msE;rw[if_pos h1]
  simp (disch:=(try simp only[lZ]);omega) only[aZ,aM,aQ,zm7]
  exact y8 (r:=.tup [.v (.slice none 0 0),.v (.int .i64 (w5 m xs.length))]) (Fz.refl rfl) (.inl ⟨by omega,by rw[he],rfl⟩)
 have h1':w5 m xs.length=0:=Classical.not_not.1 h1
 have ok:=zN7 h1'
 have k1:=ok.m1
 have k2:=ok.m2
 have k3:=ok.len
 simp (disch:=(try simp only[lZ]);omega) only[aZ,aM,aQ]
 refine AWP.loopP z5N (fun i:Nat=>i≤xs.length∧∀j,j<i→badE (xs.getD j 0)=0) (fun i=>[(6,.v (.int .i64 i))]) (fun _=>[]) (fun i=>xs.length-i) 0 ⟨by omega,by omega⟩ ?_ ?_
 ·exact Cut.of' 1 rfl (by omega) (by simp (disch:=first|omega|simp (disch:=omega) only[aG,aM,aQ]) only[fZ,aM,aQ]) (by simp (disch:=first|omega|simp (disch:=omega) only[aG,aM,aQ]) only[fZ,aM,aQ])
 rintro i ⟨hi,hi2⟩
 by_cases hlt:i<xs.length
 ·simp (disch:=(try simp only[lZ]);omega) only[aZ,aM,aQ]
  refine y2 (fun h2=>?_) (fun h2=>?_)
  ·have he : msE m xs = 18 := by
    unfold msE;rw[if_neg h1,if_pos]
    rw[za7 0 hlt hi2 (by rw[z7Q (by omega)];omega),z7Q (by omega)];omega
   simp (disch:=(try simp only[lZ]);omega) only[aZ,aM,aQ,zm7]
   exact y8 (r:=.tup [.v (.slice none 0 0),.v (.int .i64 18)]) (Fz.refl rfl) (.inl ⟨by omega,by rw[he],rfl⟩)
  ·simp (disch:=(try simp only[lZ]);omega) only[aZ,aM,aQ]
   refine⟨i+1,⟨by omega,fun j hj=>?_⟩,by omega,?_⟩
   ·by_cases hji:j=i
    ·subst hji;exact yJ6 (by omega)
    ·exact hi2 j (by omega)
   ·exact Cut.of' 1 rfl (by omega) (by simp (disch:=first|omega|simp (disch:=omega) only[aG,aM,aQ]) only[fZ,aM,aQ]) (by simp (disch:=first|omega|simp (disch:=omega) only[aG,aM,aQ]) only[fZ,aM,aQ])
 have hie:i=xs.length:=by omega
 subst hie
 have hb:zc5 badE xs=0:=w7 0 hi2
 have hbd:∀i,i<xs.length→0≤xs.getD i 0∧xs.getD i 0≤1073741824:=fun i hi=>z9F (hi2 i hi)
 simp (disch:=(try simp only[lZ]);omega) only[aZ,aM,aQ]
 refine(W5 (w:=w) m).same (by unfold mcA mcC;simp (disch:=first|omega|simp (disch:=omega) only[aG,aM,aQ]) only[fZ,aM,aQ]) rfl (z7 ?_)
 simp (disch:=(try simp only[lZ]);omega) only[aZ,aM,aQ]
 refine y2 (fun h3=>?_) (fun h3=>?_)
 ·have he : msE m xs = 13 := by
   unfold msE;rw[if_neg h1,if_neg (by omega),if_pos (by omega)]
  simp (disch:=(try simp only[lZ]);omega) only[aZ,aM,aQ,zm7]
  exact y8 (r:=.tup [.v (.slice none 0 0),.v (.int .i64 13)]) (Fz.refl rfl) (.inl ⟨by omega,by rw[he],rfl⟩)
 have he:msE m xs=0:=by
  unfold msE;rw[if_neg h1,if_neg (by omega),if_neg (by omega)]
 have ho:y3 m≠0:=by omega
 have ho4:y3 m≤4:=by
  have:=(zn6 ok ho (k:=0) (by omega) (t:=0) (by omega)).2.2.2.1;exact this
 simp (disch:=(try simp only[lZ]);omega) only[aZ,aM,aQ]
 rw[y6e _ xs.length,xA0]
 refine AWP.loopM z5O (fun j:Nat=>j≤y3 m) (fun j=>[(13,.v (.int .i64 j))]) (fun j=>hm [.fs w (rows w m)] 0 (padA j (y3 m) xs.length) (mtx j xs.length fun _ _=>0)) (fun j=>y3 m-j) 0 (by omega) ?_ ?_
 ·rw[xr4]
  exact Cut.same (by omega) (z7E (by simp (disch:=first|omega|simp (disch:=omega) only[aG,aM,aQ]) only[fZ,aM,aQ]) (y8q _ _ _ _ (by simp (disch:=(try simp only[lZ]);omega) only[aZ,aM,aQ];omega))) (by simp (disch:=first|omega|simp (disch:=omega) only[aG,aM,aQ]) only[fZ,aM,aQ])
 rintro j hj
 by_cases hlt2:j<y3 m
 ·simp (disch:=(try simp only[lZ]);omega) only[aZ,aM,aQ]
  rw[yZ0]
  refine⟨j+1,by omega,by omega,?_⟩
  exact Cut.same (by omega) (z7E (by simp (disch:=first|omega|simp (disch:=omega) only[aG,aM,aQ]) only[fZ,aM,aQ]) (y8q _ _ _ _ (by simp (disch:=(try simp only[lZ]);omega) only[aZ,aM,aQ];omega))) (by simp (disch:=first|omega|simp (disch:=omega) only[aG,aM,aQ]) only[fZ,aM,aQ])
 have hje:j=y3 m:=by omega
 subst hje
 rw[y9r,← yZ1 m xs]
 simp (disch:=(try simp only[lZ]);omega) only[aZ,aM,aQ]
 refine AWP.loopM z5P (fun x:Nat=>x≤xs.length) (fun x=>[(17,.v (.int .i64 x))]) (fun x=>hm [.fs w (rows w m)] 0 (ptrA (y3 m) xs.length) (mtx (y3 m) xs.length (msF m xs x 0))) (fun x=>xs.length-x) 0 (by omega) ?_ ?_
 ·exact Cut.same (by omega) (z7E (by simp (disch:=first|omega|simp (disch:=omega) only[aG,aM,aQ]) only[fZ,aM,aQ]) (z2q _ _ _ (by simp (disch:=(try simp only[lZ]);omega) only[aZ,aM,aQ];omega))) (by simp (disch:=first|omega|simp (disch:=omega) only[aG,aM,aQ]) only[fZ,aM,aQ])
 rintro x hx
 by_cases hltx:x<xs.length
 ·have hbx:=hbd x hltx
  have hdl:=yZ3 ok ho (k:=x) (by omega) hbx
  have hms:=fun o ho=>y4n m xs (x:=x) (o:=o) ho hltx
  simp (disch:=(try simp only[lZ]);omega) only[aZ,aM,aQ]
  refine(y07 (w:=w) m _ ok ho x (by omega) (xs.getD x 0) hbx).same (by unfold mcA mcC;simp (disch:=first|omega|simp (disch:=omega) only[aG,aM,aQ]) only[fZ,aM,aQ]) (by simp (disch:=first|omega|simp (disch:=omega) only[aG,aM,aQ]) only[fZ,aM,aQ]) (z7 ?_)
  simp (disch:=(try simp only[lZ]);omega) only[aZ,aM,aQ]
  refine AWP.loopM z5Q (fun o:Nat=>o≤y3 m) (fun o=>[(23,.v (.int .i64 o))]) (fun o=>hm [.fs w (rows w m)] 0 (ptrA (y3 m) xs.length) (mtx (y3 m) xs.length (msF m xs x o))) (fun o=>y3 m-o) 0 (by omega) ?_ ?_
  ·exact Cut.same (by omega) (z7E (by simp (disch:=first|omega|simp (disch:=omega) only[aG,aM,aQ]) only[fZ,aM,aQ]) (z2q _ _ _ (by simp (disch:=(try simp only[lZ]);omega) only[aZ,aM,aQ];omega))) (by simp (disch:=first|omega|simp (disch:=omega) only[aG,aM,aQ]) only[fZ,aM,aQ])
  rintro o ho2
  by_cases hlto:o<y3 m
  ·simp (disch:=(try simp only[lZ]);omega) only[aZ,aM,aQ]
   rw[hms o hlto]
   refine⟨o+1,by omega,by omega,?_⟩
   exact Cut.same (by omega) (z7E (by simp (disch:=first|omega|simp (disch:=omega) only[aG,aM,aQ]) only[fZ,aM,aQ]) (z2q _ _ _ (by simp (disch:=(try simp only[lZ]);omega) only[aZ,aM,aQ];omega))) (by simp (disch:=first|omega|simp (disch:=omega) only[aG,aM,aQ]) only[fZ,aM,aQ])
  have hoe:o=y3 m:=by omega
  subst hoe
  rw[yZ2]
  simp (disch:=(try simp only[lZ]);omega) only[aZ,aM,aQ]
  refine⟨x+1,by omega,by omega,?_⟩
  exact Cut.same (by omega) (z7E (by simp (disch:=first|omega|simp (disch:=omega) only[aG,aM,aQ]) only[fZ,aM,aQ]) (z2q _ _ _ (by simp (disch:=(try simp only[lZ]);omega) only[aZ,aM,aQ];omega))) (by simp (disch:=first|omega|simp (disch:=omega) only[aG,aM,aQ]) only[fZ,aM,aQ])
 have hxe:x=xs.length:=by omega
 subst hxe
 rw[y4m]
 have hml:(msM m xs).length=y3 m:=zT3 _ _ _
 simp (disch:=(try simp only[lZ]);omega) only[aZ,aM,aQ,zm7]
 refine⟨_,hm [.any] 0 (ptrA (y3 m) xs.length) (msM m xs),xr7 (by omega) ⟨Fz.any,trivial⟩ (z2q _ _ _ (by omega)) ?_,.inr ⟨he,rfl,rfl⟩⟩
 exact⟨Fz.refl (by simp [retA,A.bd,A.bdL,hml]),trivial⟩
theorem yZ4(m:Mc)(xs:List Int):∀l∈msM m xs,l.length=xs.length:=y6f
theorem y4o(m:Mc)(xs:List Int):(msM m xs).length=y3 m:=zT3 _ _ _
def zO3(m:Mc)(xs:List Int):A:=.tup [if msE m xs≠0 then .v (.slice none 0 0)else .fs true (rows true (msM m xs)),.v (.int .i64 (msE m xs))]
theorem z9G{w v:Bool}(m:Mc)(xs:List Int):VR P false zA8 [mcA w m,.fs v (ints xs)] [] (isR (zO3 m xs)):=by
 refine(z7F (w:=w) (v:=v) m xs).cut ?_
 rintro r G (⟨h1,rfl,rfl⟩|⟨h1,rfl,rfl⟩)
 ·exact⟨_,_,Cut.refl _ _ _,by unfold zO3;rw[if_pos h1],rfl⟩
 ·refine⟨zO3 m xs,[],Cut.of (Nat.le_refl _) rfl (fun i B' h=>by simp at h) ⟨?_,trivial⟩,rfl,rfl⟩
  unfold zO3
  rw[if_neg (by omega),h1]
  exact Fz.tup ⟨xr8 (y4o m xs) (yZ4 m xs),Fz.refl rfl,trivial⟩
def FgL:List A→List A→Prop
 | [],[]=>True
 | a :: l,b :: r=>(b=.any∨a=b)∧FgL l r
 | _,_=>False
theorem y0:FgL [] []=True:=rfl
theorem z9(a b:A)(l r:List A):FgL (a :: l) (b :: r)=((b=.any∨a=b)∧FgL l r):=rfl
theorem FgL.rel{g:Bool→Heap}{σ:Nam}:∀{e e':List A} {ev:List Value},FgL e e'→RL g σ e ev→RL g σ e' ev
 | [],[],_,_,h=>h
 | a :: l,b :: r,ev,hf,h=>by
  obtain⟨x,xs,rfl,h1,h2⟩:=h.uncons
  refine RL.cons ?_ (FgL.rel hf.2 h2)
  rcases hf.1 with rfl|rfl
  ·exact .any x
  ·exact h1
 | [],_ :: _,_,hf,_=>hf.elim
 | _ :: _,[],_,hf,_=>hf.elim
theorem Cut.fg{n0:Nat}{e e':List A}{H:List Blk}(h:FgL e e'):Cut n0 e H e' H:=fun c ev h1 h2 h3 h4=>⟨c,h1,rfl,Lat.refl _ _,h3,h.rel h4⟩
def Gr(F:Nat→Prop)(H H':List Blk):Prop:=H.length≤H'.length∧∀i ver,i<H.length→¬F i→blkAt H' i ver=blkAt H i ver
theorem Gr.refl{F:Nat→Prop}(H:List Blk):Gr F H H:=⟨Nat.le_refl _,fun _ _ _ _=>rfl⟩
theorem Gr.trans{F F':Nat→Prop}{H H1 H2:List Blk}(h:Gr F H H1)(k:Gr F' H1 H2)(hf:∀i,i<H.length→F' i→F i):Gr F H H2 :=
 ⟨Nat.le_trans h.1 k.1,fun i ver hi hn=>(k.2 i ver (Nat.lt_of_lt_of_le hi h.1) fun hc=>hn (hf i hi hc)).trans (h.2 i ver hi hn)⟩
theorem Gr.mono{F F':Nat→Prop}{H H':List Blk}(h:Gr F H H')(hf:∀i,i<H.length→F i→F' i):Gr F' H H':=⟨h.1,fun i ver hi hn=>h.2 i ver hi fun hc=>hn (hf i hi hc)⟩
theorem Gr.app{F:Nat→Prop}(H l:List Blk):Gr F H (H++l):=⟨by simp,fun i ver hi _=>x2 H l i ver hi⟩
theorem Gr.set{F:Nat→Prop}(H:List Blk)(j:Nat)(B:Blk)(hj:F j):Gr F H (H.set j B):=⟨by simp,fun i ver hi hn=>y5 _ _ _ _ _ fun hc=>hn (hc▸hj)⟩
theorem Gr.at{F:Nat→Prop}{H H':List Blk}(h:Gr F H H'){i ver:Nat}{l:List A}(hb:blkAt H i ver=some l)(hn:¬F i):blkAt H' i ver=some l:=(h.2 i ver (y4 hb) hn).trans hb
abbrev nof:Nat→Prop:=fun _=>False
abbrev one(j:Nat):Nat→Prop:=fun i=>i=j
theorem z7R{H:List Blk}{j ver:Nat}{l:List A}(h:blkAt H j ver=some l):H.set j ⟨ver,l⟩=H:=by
 obtain⟨B,h1,h2,h3⟩:=w8.1 h
 apply List.ext_getElem?
 intro i
 rw[List.getElem?_set]
 split
 ·rename_i hi;subst hi
  rw[if_pos (List.getElem?_eq_some_iff.1 h1).1,h1,← h2,← h3]
 ·rfl
def upM(a b:List Int)(k:Nat):List Int:=(List.range a.length).map fun i=>if i<k then a.getD i 0+b.getD i 0 else a.getD i 0
theorem zK0(a b:List Int)(k:Nat):(upM a b k).length=a.length:=by simp [upM]
theorem z2X(a b:List Int)(k i:Nat)(h:i<a.length):(upM a b k).getD i 0=if i<k then a.getD i 0+b.getD i 0 else a.getD i 0:=by simp [upM,List.getD_eq_getElem?_getD,h]
theorem yq1(a b:List Int):upM a b 0=a:=by
 refine Z5 0 (zK0 _ _ _) fun i hi=>?_
 rw[zK0]at hi
 rw[z2X _ _ _ _ hi,if_neg (by omega)]
theorem yJ7(a b:List Int)(k:Nat)(h:a.length≤k):upM a b k=zc9 a b:=by
 refine Z5 0 (by rw[zK0,Q6]) fun i hi=>?_
 rw[zK0]at hi
 rw[z2X _ _ _ _ hi,zt5 _ _ _ hi,if_pos (by omega)]
theorem yJ8(a b:List Int)(k:Nat)(h:k<a.length):(upM a b k).set k (a.getD k 0+b.getD k 0)=upM a b (k+1):=by
 refine Z5 0 (by simp [zK0]) fun i hi=>?_
 simp only[List.length_set,zK0]at hi
 rw[z2X _ _ _ _ hi,X5,z2X _ _ _ _ hi,zK0]
 by_cases hik:i=k
 ·subst hik;rw[if_pos ⟨rfl,h⟩,if_pos (by omega)]
 ·rw[if_neg (fun hc=>hik hc.1.symm)]
  by_cases hlt:i<k
  ·rw[if_pos hlt,if_pos (by omega)]
  ·rw[if_neg hlt,if_neg (by omega)]
def Sm(a b:List Int):Prop:=∀i,i<a.length→-2305843009213693952≤a.getD i 0∧a.getD i 0≤2305843009213693952∧-2305843009213693952≤b.getD i 0∧b.getD i 0≤2305843009213693952
theorem yZ5{H:List Blk}{i v j u:Nat}{a b:List Int}(ha:blkAt H i v=some (ints a))(hb:blkAt H j u=some (ints b))(ne:j≠i)(hl:b.length=a.length)(hs:Sm a b)(h9:a.length<1000000000):
    VR P false zQ7 [.sl i v 1 0 a.length,.sl j u 1 0 b.length] H (fun r H'=>H'=H.set i ⟨v,ints (zc9 a b)⟩):=by
  refine z0r (by simp) (.inl rfl) fun _ _=>?_
  have lt:=y4 ha
  have hse:=z7R ha
  simp (disch:=(try simp only[lZ]);omega) only[aZ,aM,zA3,zQ8]
  refine AWP.loopP zQ9 (fun k:Nat=>k≤a.length) (fun k=>[(2,.v (.int .i64 k))]) (fun k=>[(i,⟨v,ints (upM a b k)⟩)]) (fun k=>a.length-k) 0 (by omega) ?_ ?_
  · rw[yq1]
    simp (disch:=(try simp only[lZ]);omega) only[aZ,aM,hse]
    refine Cut.fg ?_
    simp (disch:=first|omega|simp (disch:=omega) only[aG,aM]) only[fZ,aM,y0,z9,or_true,true_or]
  rintro k hk
  have hb':blkAt (H.set i ⟨v,ints (upM a b k)⟩) j u=some (ints b):=by rw[y5 _ _ _ _ _ ne];exact hb
  have ha':blkAt (H.set i ⟨v,ints (upM a b k)⟩) i v=some (ints (upM a b k)):=x0 _ _ _ _ lt
  have ul:=zK0 a b k
  by_cases hlt:k<a.length
  · have hx:=hs k hlt
    have e0:(upM a b k).getD k 0=a.getD k 0:=by rw[z2X _ _ _ _ hlt,if_neg (by omega)]
    have e1:=yJ8 a b k hlt
    simp (disch:=(try simp only[lZ]);omega) only[aZ,aM,ha',hb',e0,e1]
    refine⟨k+1,by omega,by omega,?_⟩
    try simp (disch:=(try simp only[lZ]);omega) only[aZ,aM]
    refine Cut.fg ?_
    simp (disch:=first|omega|simp (disch:=omega) only[aG,aM]) only[fZ,aM,y0,z9,or_true,true_or]
  · have hke:k=a.length:=by omega
    subst hke
    rw[yJ7 _ _ _ (Nat.le_refl _)]
    simp (disch:=(try simp only[lZ]);omega) only[aZ,aM,z2J]
    exact zd5 (R:=fun r H'=>_) rfl
theorem y4p{w:Bool}{H:List Blk}{i v:Nat}{a b:List Int}(ha:blkAt H i v=some (ints a))(hl:b.length=a.length)(hs:Sm a b)(h9:a.length<1000000000):
    VR P false zQ7 [.sl i v 1 0 a.length,.fs w (ints b)] H (fun r H'=>H'=H.set i ⟨v,ints (zc9 a b)⟩):=by
  refine z0r (by simp) (.inl rfl) fun _ _=>?_
  have lt:=y4 ha
  have hse:=z7R ha
  simp (disch:=(try simp only[lZ]);omega) only[aZ,aM,zA3,zQ8]
  refine AWP.loopP zQ9 (fun k:Nat=>k≤a.length) (fun k=>[(2,.v (.int .i64 k))]) (fun k=>[(i,⟨v,ints (upM a b k)⟩)]) (fun k=>a.length-k) 0 (by omega) ?_ ?_
  · rw[yq1]
    simp (disch:=(try simp only[lZ]);omega) only[aZ,aM,hse]
    exact Cut.fg (by simp (disch:=first|omega|simp (disch:=omega) only[aG,aM]) only[fZ,aM,y0,z9,or_true,true_or])
  rintro k hk
  have ha':blkAt (H.set i ⟨v,ints (upM a b k)⟩) i v=some (ints (upM a b k)):=x0 _ _ _ _ lt
  have ul:=zK0 a b k
  by_cases hlt:k<a.length
  · have hx:=hs k hlt
    have e0:(upM a b k).getD k 0=a.getD k 0:=by rw[z2X _ _ _ _ hlt,if_neg (by omega)]
    have e1:=yJ8 a b k hlt
    simp (disch:=(try simp only[lZ]);omega) only[aZ,aM,ha',e0,e1]
    refine⟨k+1,by omega,by omega,?_⟩
    try simp (disch:=(try simp only[lZ]);omega) only[aZ,aM]
    exact Cut.fg (by simp (disch:=first|omega|simp (disch:=omega) only[aG,aM]) only[fZ,aM,y0,z9,or_true,true_or])
  · have hke:k=a.length:=by omega
    subst hke
    rw[yJ7 _ _ _ (Nat.le_refl _)]
    simp (disch:=(try simp only[lZ]);omega) only[aZ,aM,z2J]
    exact zd5 (R:=fun r H'=>_) rfl
theorem y9u{H:List Blk}{x:A}:VR P false zQ7 [x,.v (.slice none 0 0)] H (fun r H'=>H'=H):=by
 refine z0r (by simp) (.inl rfl) fun _ _=>?_
 simp (disch:=(try simp only[lZ]);omega) only[aZ,aM,zA3,zQ8]
 refine AWP.loopP zQ9 (fun k:Nat=>k=0) (fun k=>[(2,.v (.int .i64 k))]) (fun k=>[]) (fun k=>0) 0 rfl ?_ ?_
 ·exact Cut.fg (by simp (disch:=first|omega|simp (disch:=omega) only[aG,aM]) only[fZ,aM,y0,z9,or_true,true_or])
 rintro k rfl
 simp (disch:=(try simp only[lZ]);omega) only[aZ,aM,z2J]
 exact zd5 (R:=fun r H'=>_) rfl
abbrev y9(n:Nat):List Int:=List.replicate n 0
theorem y6g{n:Nat}(hn:n≤16):VR P false zk7 [.fp false [.v (.int .i64 n),.any,.any,.any,.any,.any,.any,.any]] [] (ownR (.sl 0 0 1 0 n) [⟨0,ints (y9 n)⟩]):=by
 refine z1q (by simp) (.inr rfl) fun _ _=>?_
 simp (disch:=(try simp only[lZ]);omega) only[aZ,aM,zk8,zA2,z2H]
 exact zd5 (R:=ownR _ _) ⟨rfl,rfl⟩
theorem z1i{kp:Bool}{H:List Blk}{r n:Nat}{a b c d e f g:A}(hn:n≤16)(hr:blkAt H r 0=some [.v (.int .i64 n),a,b,c,d,e,f,g]):VR P kp zk7 [.lp r 0 0] H (fun r H'=>r=.sl H.length 0 1 0 n∧H'=H++[⟨0,ints (y9 n)⟩]):=by
 have hl:LdL H [.v (.int .i64 n),a,b,c,d,e,f,g] [.v (.int .i64 n),.any,.any,.any,.any,.any,.any,.any]:=⟨Ld.refl rfl,Ld.any,Ld.any,Ld.any,Ld.any,Ld.any,Ld.any,Ld.any,trivial⟩
 refine(y6g hn).useO ⟨Ld.lp (o:=0) hr hl (by simp),trivial⟩ (by simp [A.cl,yl3]) ⟨by simp [A.sh],by simp [Blk.sh,zU0 _ (zl4 0 _)]⟩
theorem y6h{w:Bool}{xs:List Int}(h0:0<xs.length)(h1:xs.length≤16):VR P false zI5 [.fs w (ints xs)] [] (ownR (.sl 0 1 1 0 xs.length) [⟨1,ints xs⟩]):=by
 refine z8I (by simp) (.inr rfl) fun _ _=>?_
 have he:eqsA false (.fs w (ints xs)) (.v (.slice none 0 0))=some (.v (.bool false)):=by simp only[eqsA];rw[if_neg (by rw[zU1];omega)]
 simp (disch:=(try simp only[lZ]);omega) only[aZ,aM,zI6,z1X,yd2,he]
 exact zd5 (R:=ownR _ _) ⟨rfl,rfl⟩
theorem yZ6{kp:Bool}{H:List Blk}{i v:Nat}{xs:List Int}(h0:0<xs.length)(h1:xs.length≤16)(hb:blkAt H i v=some (ints xs)):VR P kp zI5 [.sl i v 1 0 xs.length] H (fun r H'=>r=.sl H.length 1 1 0 xs.length∧H'=H++[⟨1,ints xs⟩]) :=
 (y6h (w:=false) h0 h1).useO ⟨zD6 H i v xs.length xs rfl hb,trivial⟩ (by simp [A.cl,yl3]) ⟨by simp [A.sh],by simp [Blk.sh,zU0 _ (zl4 0 _)]⟩
theorem xs0(e:List A)(H:List Blk)(arr:Option Nat)(n:Nat)(a lo hi z:X)(k:K1):(X.slc arr n a lo hi (.u k z)).av e H=ob (a.av e H) fun x=>ob (lo.av e H) fun l=>ob (hi.av e H) fun u=>ob ((X.u k z).av e H) fun m=>slcA H arr n x l u (some m):=rfl
theorem y9v{H:List Blk}{i ver len:Nat}{l:List A}{b c:Int}(hb:blkAt H i ver=some l)(h1:0≤b)(h2:b≤c)(h3:c≤len)(h4:len≤l.length):
    slcA H (some len) 1 (.lp i ver 0) (.v (.int .i64 0)) (.v (.int .i64 b)) (some (.v (.int .i64 c)))=some (.sl i ver 1 0 b.toNat):=by
  simp only[slcA,hb,Option.bind_some]
  rw[if_pos ⟨by omega,by omega,h2,h3,by omega⟩]
  simp
theorem xs1{H:List Blk}{i v j u:Nat}{l l':List A}(h:blkAt H i v=some l)(h':blkAt H j u=some l')(hn:l.length≠l'.length):i≠j:=fun hc=>by
 subst hc
 obtain⟨B,e1,_,e2⟩:=w8.1 h
 obtain⟨C,e3,_,e4⟩:=w8.1 h'
 rw[e1]at e3;cases e3
 exact hn (by rw[← e2,← e4])
abbrev nilS:A:=.v (.slice none 0 0)
def yC3(len mat:Nat)(ad:Nat→Nat×Nat):List A:=(List.range 16).map fun q=>if q<len then .sl (ad q).1 (ad q).2 1 0 mat else nilS
def belK(c len mat pos:Nat)(ad:Nat→Nat×Nat):List A:=yC3 c mat ad++[.v (.int .i64 len),.v (.int .i64 mat),.v (.int .i64 pos)]
abbrev belC(len mat pos:Nat)(ad:Nat→Nat×Nat):List A:=belK len len mat pos ad
theorem zg1(len mat:Nat)(ad:Nat→Nat×Nat):(yC3 len mat ad).length=16:=by simp [yC3]
theorem zT4(c len mat pos:Nat)(ad:Nat→Nat×Nat):(belK c len mat pos ad).length=19:=by simp [belK,zg1]
theorem y4q(c len mat pos:Nat)(ad:Nat→Nat×Nat)(q:Nat)(h:q<c)(h16:c≤16):nthA (belK c len mat pos ad) q=some (.sl (ad q).1 (ad q).2 1 0 mat):=by
 rw[Y8,belK,List.getElem?_append_left (by rw[zg1];omega)]
 simp [yC3,h,show q<16 by omega]
theorem yC4(c len mat pos:Nat)(ad:Nat→Nat×Nat):nthA (belK c len mat pos ad) 16=some (.v (.int .i64 len)):=by
 rw[Y8,belK,List.getElem?_append_right (by rw[zg1];omega),zg1];rfl
theorem z9H(c len mat pos:Nat)(ad:Nat→Nat×Nat):nthA (belK c len mat pos ad) 17=some (.v (.int .i64 mat)):=by
 rw[Y8,belK,List.getElem?_append_right (by rw[zg1];omega),zg1];rfl
theorem yC5(c len mat pos:Nat)(ad:Nat→Nat×Nat):nthA (belK c len mat pos ad) 18=some (.v (.int .i64 pos)):=by
 rw[Y8,belK,List.getElem?_append_right (by rw[zg1];omega),zg1];rfl
def updA(ad:Nat→Nat×Nat)(q:Nat)(a:Nat×Nat):Nat→Nat×Nat:=fun j=>if j=q then a else ad j
theorem zP1{l:List A}{k:Nat}{a:A}(h:k<l.length):splA l k [a]=l.set k a:=by
 unfold splA
 apply List.ext_getElem?
 intro i
 rw[List.getElem?_set]
 by_cases h1:i<k
 ·rw[if_neg (by omega),List.append_assoc,List.getElem?_append_left (by simp;omega),List.getElem?_take_of_lt h1]
 ·by_cases h2:i=k
  ·subst h2
   rw[if_pos rfl,if_pos h,List.append_assoc,List.getElem?_append_right (by simp;omega)]
   rw[show i-(List.take i l).length=0 by simp;omega];rfl
  ·rw[if_neg (by omega),List.getElem?_append_right (by simp;omega),List.getElem?_drop]
   congr 1;simp;omega
theorem y9w(len mat pos:Nat)(ad:Nat→Nat×Nat)(q:Nat)(a:Nat×Nat)(h:q<len)(h16:len≤16):splA (belC len mat pos ad) q [.sl a.1 a.2 1 0 mat]=belC len mat pos (updA ad q a):=by
 rw[zP1 (by rw[zT4];omega)]
 unfold belC belK
 rw[List.set_append_left _ _ (by rw[zg1];omega)]
 congr 1
 apply List.ext_getElem?
 intro i
 rw[List.getElem?_set,zg1]
 unfold yC3 updA
 by_cases h1:q=i
 ·subst h1;rw[if_pos rfl,if_pos (by omega)];simp [h,show q<16 by omega]
 ·rw[if_neg h1]
  simp only[List.getElem?_map]
  by_cases hi:i<16
  ·simp [hi,show ¬i=q by omega]
  ·simp [Nat.not_lt.1 hi]
theorem y4r(c len mat pos:Nat)(ad:Nat→Nat×Nat)(x:Nat):splA (belK c len mat pos ad) 18 [.v (.int .i64 x)]=belK c len mat x ad:=by
 rw[zP1 (by rw[zT4];omega)]
 unfold belK
 rw[List.set_append_right _ _ (by rw[zg1];omega),zg1];rfl
theorem yq2{H:List Blk}{r c len mat pos:Nat}{ad:Nat→Nat×Nat}(hr:blkAt H r 0=some (belK c len mat pos ad))(h16:len≤16):VR P false zM6 [.lp r 0 0] H (fun x H'=>x=.sl r 0 1 0 len∧H'=H):=by
 refine z4w (by simp) (.inl rfl) fun _ _=>?_
 have n16:=yC4 c len mat pos ad
 have hs:=y9v (b:=len) (c:=len) (len:=16) hr (by omega) (by omega) (by omega) (by rw[zT4];omega)
 simp (disch:=(try simp only[lZ]);omega) only[aZ,aM,zq0,zM8,z5L,xs0,hr,n16,hs]
 exact zd5 (R:=fun r H'=>_) ⟨by first|rfl|simp,rfl⟩
theorem yZ7{w:Bool}(xs:List Int)(n:Int):VR P false zv1 [.fs w (ints xs),.v (.int .i64 n)] [] (isR (.v (.bool (decide ((xs.length:Int)=n∧mixE xs=0))))):=by
 refine z5I (by simp) (.inr rfl) fun _ _=>?_
 simp (disch:=(try simp only[lZ]);omega) only[aZ,aM,zv2,zX1]
 refine y2 (fun h1=>?_) (fun h1=>?_)
 ·simp (disch:=(try simp only[lZ]);omega) only[aZ,aM]
  refine(z6Y xs).use (yA2 (by simp [zZ,blkAt,za5,A.cells,A.one,Lft.one,retA,A.bdL,A.bd,zl4])) rfl (z7 ?_)
  simp (disch:=(try simp only[lZ]);omega) only[aZ,aM,zX2]
  exact y1 ⟨by rw[show decide (mixE xs=0)=decide ((xs.length:Int)=n∧mixE xs=0) by simp [h1]],rfl⟩
 ·simp (disch:=(try simp only[lZ]);omega) only[aZ,aM,zX2]
  exact y1 ⟨by rw[show false=decide ((xs.length:Int)=n∧mixE xs=0) by simp [h1]],rfl⟩
theorem y6i{kp:Bool}{H:List Blk}{i v:Nat}{xs:List Int}(hb:blkAt H i v=some (ints xs))(n:Nat)(hl:xs.length=n)(hm:mixE xs=0):VR P kp zv1 [.sl i v 1 0 n,.v (.int .i64 n)] H (fun r H'=>r=.v (.bool true)∧H'=H) :=
 (yZ7 (w:=false) xs n).use ⟨by rw[← hl];exact zD6 H i v xs.length xs rfl hb,Ld.refl rfl,trivial⟩ rfl ⟨by simp [hl,hm],rfl⟩
theorem y6j {H : List Blk} {r len mat pos i v : Nat} {ad : Nat → Nat × Nat} {xs : List Int} (hr : blkAt H r 0 = some (belC len mat pos ad)) (h1 : 1 ≤ len) (h16 : len ≤ 16) (hp : pos < len) (hm : 1 ≤ mat ∧ mat ≤ 16)
    (hb:blkAt H i v=some (ints xs)) (hl:xs.length=mat) (hx:mixE xs=0) :
    VR P false zX5 [.lp r 0 0,.sl i v 1 0 mat] H (fun x H'=>x=.tup [.sl (ad ((pos+len-1) % len)).1 (ad ((pos+len-1) % len)).2 1 0 mat,.v (.int .i64 0)]∧H'=(H++[(⟨1,ints xs⟩:Blk)]).set r ⟨0,belC len mat ((pos+len-1) % len) (updA ad ((pos+len-1) % len) (H.length,1))⟩):=by
  refine z5M (by simp) (.inl rfl) fun _ _=>?_
  have lt:=y4 hr
  have n16:=yC4 len len mat pos ad
  have n17:=z9H len len mat pos ad
  have n18:=yC5 len len mat pos ad
  have s18:=y4r len len mat pos ad
  have hq:(pos+len-1) % len<len:=Nat.mod_lt _ (by omega)
  have hmod:((pos:Int)+len-1) % len=((pos+len-1) % len:Nat):=by
    rw[show((pos:Int)+len-1)=((pos+len-1:Nat):Int) by omega]
    exact(Int.natCast_emod _ _).symm
  simp (disch:=(try simp only[lZ]);omega) only[aZ,aM,zv7,zX7,hr,n17]
  refine(y6i hb mat hl hx).mono ?_
  rintro x H' ⟨rfl,hH⟩
  rw[hH]
  refine z7 ?_
  simp (disch:=(try simp only[lZ]);omega) only[aZ,aM]
  refine(yq2 hr h16).mono ?_
  rintro x H' ⟨rfl,hH⟩
  rw[hH]
  refine z7 ?_
  generalize hg:(pos+len-1) % len=q at *
  have bl:=zT4 len len mat q ad
  have bl0:=zT4 len len mat pos ad
  have m18:=yC5 len len mat q ad
  have mq:=y4q len len mat q ad q hq h16
  have ms:=fun a=>y9w len mat q ad q a hq h16
  have hir:i≠r:=xs1 hb hr (by rw[zT4,zU1];omega)
  have hb2:blkAt (H.set r ⟨0,belC len mat q ad⟩++[⟨0,[]⟩]) i v=some (ints xs):=by
    rw[x2 _ _ _ _ (by rw[List.length_set];exact y4 hb),y5 _ _ _ _ _ hir];exact hb
  have hms:=ms (H.length,1)
  have hbn:blkAt (H.set r ⟨0,belC len mat q ad⟩++[⟨0,[]⟩]) H.length 0=some []:=by
    have:=x5 (H.set r ⟨0,belC len mat q ad⟩) [⟨0,[]⟩] 0
    rw[List.length_set]at this;exact this
  have hsn:∀B C:Blk,(H.set r B++[C]).set H.length ⟨1,ints xs⟩=H.set r B++[⟨1,ints xs⟩]:=fun B C=>by
    have:=z8e (H.set r B) [C] ⟨1,ints xs⟩
    rw[List.length_set]at this;exact this
  simp (disch:=(try simp only[lZ]);omega) only[aZ,aM,hr,n16,n17,n18,hmod,bl0,bl,s18,m18,mq,hb2,hbn,hsn,hms,z7v]
  exact⟨zd5 (R:=fun r H'=>_) ⟨rfl,rfl⟩,zd5 (R:=fun r H'=>_) ⟨rfl,rfl⟩⟩
def newA(n:Nat):Nat→Nat×Nat:=fun q=>(n+q,0)
theorem y4s(mat:Nat)(ad:Nat→Nat×Nat):yC3 0 mat ad=[nilS,nilS,nilS,nilS,nilS,nilS,nilS,nilS,nilS,nilS,nilS,nilS,nilS,nilS,nilS,nilS]:=rfl
theorem y6k(c len mat pos:Nat)(ad:Nat→Nat×Nat)(h16:c<16):splA (belK c len mat pos ad) c [.sl (ad c).1 (ad c).2 1 0 mat]=belK (c+1) len mat pos ad:=by
 rw[zP1 (by rw[zT4];omega)]
 unfold belK
 rw[List.set_append_left _ _ (by rw[zg1];omega)]
 congr 1
 apply List.ext_getElem?
 intro i
 rw[List.getElem?_set,zg1]
 unfold yC3
 by_cases h1:c=i
 ·subst h1;rw[if_pos rfl,if_pos (by omega)];simp [h16]
 ·rw[if_neg h1]
  simp only[List.getElem?_map]
  by_cases hi:i<16
  ·simp [hi,show(i<c+1↔i<c) by omega]
  ·simp [Nat.not_lt.1 hi]
theorem y4t{H:List Blk}{r mat len:Nat}(h1:1≤len)(h16:len≤16)(hm:1≤mat∧mat≤16){ad:Nat→Nat×Nat}(hr:blkAt H r 0=some (belK 0 len mat 0 (newA H.length))):
    VR P false zL7 [.lp r 0 0] H (fun x H'=>H'=H.set r ⟨0,belC len mat 0 (newA H.length)⟩++List.replicate len ⟨0,ints (y9 mat)⟩):=by
  refine z39 (by simp) (.inl rfl) fun _ _=>?_
  have lt:=y4 hr
  have hse:=z7R hr
  simp (disch:=(try simp only[lZ]);omega) only[aZ,aM,zp6,zL9]
  refine(yq2 hr h16).mono ?_
  rintro x H' ⟨rfl,hH⟩
  rw[hH]
  refine z7 ?_
  simp (disch:=(try simp only[lZ]);omega) only[aZ,aM]
  refine AWP.loopM z2M (fun k:Nat=>k≤len) (fun k=>[(2,.v (.int .i64 k))]) (fun k=>H.set r ⟨0,belK k len mat 0 (newA H.length)⟩++List.replicate k ⟨0,ints (y9 mat)⟩) (fun k=>len-k) 0 (by omega) ?_ ?_
  · rw[hse,List.replicate_zero,List.append_nil]
    exact Cut.fg (by simp (disch:=first|omega|simp (disch:=omega) only[aG,aM]) only[fZ,aM,y0,z9,or_true,true_or])
  rintro k hk
  by_cases hlt:k<len
  · have hset : ∀ B : Blk, (H.set r ⟨0, belK k len mat 0 (newA H.length)⟩ ++ List.replicate k (⟨0, ints (y9 mat)⟩ : Blk)).set r B ++ [(⟨0, ints (y9 mat)⟩ : Blk)] = H.set r B ++ List.replicate (k + 1) ⟨0, ints (y9 mat)⟩ := fun B => by
      rw[List.set_append_left _ _ (by rw[List.length_set];exact lt),List.set_set,List.append_assoc,List.replicate_succ']
    have hat:blkAt (H.set r ⟨0,belK k len mat 0 (newA H.length)⟩++List.replicate k ⟨0,ints (y9 mat)⟩) r 0=some (belK k len mat 0 (newA H.length)):=by
      rw[x2 _ _ _ _ (by rw[List.length_set];exact lt)];exact x0 _ _ _ _ lt
    have hlen:(H.set r ⟨0,belK k len mat 0 (newA H.length)⟩++List.replicate k (⟨0,ints (y9 mat)⟩:Blk)).length=H.length+k:=by simp
    generalize H.set r ⟨0,belK k len mat 0 (newA H.length)⟩++List.replicate k (⟨0,ints (y9 mat)⟩:Blk)=K at *
    have ltk:=y4 hat
    have hat2:blkAt (K++[⟨0,ints (y9 mat)⟩]) r 0=some (belK k len mat 0 (newA H.length)):=by rw[x2 _ _ _ _ ltk];exact hat
    have n17:=z9H k len mat 0 (newA H.length)
    have bl:=zT4 k len mat 0 (newA H.length)
    have gr:splA (belK k len mat 0 (newA H.length)) k [.sl K.length 0 1 0 mat]=belK (k+1) len mat 0 (newA H.length):=by rw[hlen];exact y6k k len mat 0 (newA H.length) (by omega)
    unfold y9 at *
    simp (disch:=(try simp only[lZ]);omega) only[aZ,aM,hat,hat2,n17,bl,gr]
    refine⟨k+1,by omega,by omega,?_⟩
    rw[hset]
    exact Cut.fg (by simp (disch:=first|omega|simp (disch:=omega) only[aG,aM]) only[fZ,aM,y0,z9,or_true,true_or])
  · have hke:k=len:=by omega
    subst hke
    simp (disch:=(try simp only[lZ]);omega) only[aZ,aM,z5H]
    exact zd5 (R:=fun r H'=>_) rfl
def xs2(len mat:Nat):List Blk:=⟨0,belC len mat 0 (newA 1)⟩ :: List.replicate len ⟨0,ints (y9 mat)⟩
theorem y9x{mat len:Nat}(h1:1≤len)(h16:len≤16)(hm:1≤mat∧mat≤16):VR P false z5z [.v (.int .i64 len),.v (.int .i64 mat)] [] (ownR (.tup [.lp 0 0 0,.v (.int .i64 0)]) (xs2 len mat)):=by
 refine yH7 (by simp) (.inr rfl) fun _ _=>?_
 simp (disch:=(try simp only[lZ]);omega) only[aZ,aM,z5A,yi1]
 refine(y4t (r:=0) (len:=len) (mat:=mat) h1 h16 hm (ad:=newA 1) (by unfold belK;rw[y4s];rfl)).mono ?_
 rintro x H' hH
 rw[hH]
 refine z7 ?_
 simp (disch:=(try simp only[lZ]);omega) only[aZ,aM,y0X]
 exact zd5 (R:=ownR _ _) ⟨rfl,rfl⟩
def accR(mat:Nat)(ct:Nat→List Int):Nat→List Int
 | 0=>y9 mat
 | k+1=>zc9 (accR mat ct k) (ct k)
theorem z4U(mat:Nat)(ct:Nat→List Int)(k:Nat):(accR mat ct k).length=mat:=by
 induction k with
 | zero=>simp [accR,y9]
 | succ k ih=>rw[accR,Q6,ih]
def zn7(mat:Nat)(l:List Int):Prop:=l.length=mat∧∀i,0≤l.getD i 0∧l.getD i 0≤1073741824
theorem y4u{mat:Nat}{ct:Nat→List Int}{n:Nat}(h:∀q,q<n→zn7 mat (ct q)):∀k,k≤n→∀i,0≤(accR mat ct k).getD i 0∧(accR mat ct k).getD i 0≤k*1073741824
 | 0,_,i=>by
  have:(y9 mat).getD i 0=0:=by simp [y9,List.getD_eq_getElem?_getD,List.getElem?_replicate];split<;>rfl
  simp only[accR];rw[this];omega
 | k+1,hk,i=>by
  have ih:=y4u h k (by omega) i
  have hc:=(h k (by omega)).2 i
  by_cases hi:i<mat
  ·simp only[accR]
   rw[zt5 _ _ _ (by rw[z4U];exact hi)]
   omega
  ·have:(accR mat ct (k+1)).getD i 0=0:=by rw[List.getD_eq_getElem?_getD,List.getElem?_eq_none (by rw[z4U];omega)];rfl
   rw[this];omega
theorem y4v {H : List Blk} {r len mat pos : Nat} {ad : Nat → Nat × Nat} {ct : Nat → List Int} (hr : blkAt H r 0 = some (belC len mat pos ad)) (h16 : len ≤ 16) (hm : 1 ≤ mat ∧ mat ≤ 16)
    (hc:∀q,q<len→blkAt H (ad q).1 (ad q).2=some (ints (ct q))∧zn7 mat (ct q)) :
    VR P false zp8 [.lp r 0 0] H (fun x H'=>x=.sl H.length 0 1 0 mat∧H'=H++[⟨0,ints (accR mat ct len)⟩]):=by
  refine zF6 (by simp) (.inl rfl) fun _ _=>?_
  have lt:=y4 hr
  have n17:=z9H len len mat pos ad
  have hat:∀B:Blk,blkAt (H++[B]) r 0=some (belC len mat pos ad):=fun B=>by rw[x2 _ _ _ _ lt];exact hr
  unfold y9 at *
  simp (disch:=(try simp only[lZ]);omega) only[aZ,aM,zh9,zp9,hr,n17]
  refine(yq2 (hat _) h16).mono ?_
  rintro x H' ⟨rfl,hH⟩
  rw[hH]
  refine z7 ?_
  simp (disch:=(try simp only[lZ]);omega) only[aZ,aM]
  refine AWP.loopM z2N (fun k:Nat=>k≤len) (fun k=>[(3,.v (.int .i64 k))]) (fun k=>H++[⟨0,ints (accR mat ct k)⟩]) (fun k=>len-k) 0 (by omega) ?_ ?_
  · exact Cut.fg (by simp (disch:=first|omega|simp (disch:=omega) only[aG,aM]) only[fZ,aM,y0,z9,or_true,true_or])
  rintro k hk
  have al:=z4U mat ct k
  by_cases hlt:k<len
  · obtain⟨c1,c2⟩:=hc k hlt
    have hcl:=c2.1
    have mk:=y4q len len mat pos ad k hlt h16
    have hak:=hat ⟨0,ints (accR mat ct k)⟩
    have bl:=zT4 len len mat pos ad
    simp (disch:=(try simp only[lZ]);omega) only[aZ,aM,hak,mk,bl]
    refine AWP.loopM z2O (fun j:Nat=>j≤mat) (fun j=>[(8,.v (.int .i64 j))]) (fun j=>H++[⟨0,ints (upM (accR mat ct k) (ct k) j)⟩]) (fun j=>mat-j) 0 (by omega) ?_ ?_
    · rw[yq1]
      exact Cut.fg (by simp (disch:=first|omega|simp (disch:=omega) only[aG,aM]) only[fZ,aM,y0,z9,or_true,true_or])
    rintro j hj
    have ul:=zK0 (accR mat ct k) (ct k) j
    have hcj:blkAt (H++[⟨0,ints (upM (accR mat ct k) (ct k) j)⟩]) (ad k).1 (ad k).2=some (ints (ct k)):=by rw[x2 _ _ _ _ (y4 c1)];exact c1
    by_cases hjt:j<mat
    · have e0:(upM (accR mat ct k) (ct k) j).getD j 0=(accR mat ct k).getD j 0:=by rw[z2X _ _ _ _ (by omega),if_neg (by omega)]
      have e1:=yJ8 (accR mat ct k) (ct k) j (by omega)
      have b1:=y4u (n:=len) (fun q hq=>(hc q hq).2) k hk j
      have b2:=c2.2 j
      simp (disch:=(try simp only[lZ]);omega) only[aZ,aM,hcj,e0,e1]
      refine⟨j+1,by omega,by omega,?_⟩
      try simp (disch:=(try simp only[lZ]);omega) only[aZ,aM]
      exact Cut.fg (by simp (disch:=first|omega|simp (disch:=omega) only[aG,aM]) only[fZ,aM,y0,z9,or_true,true_or])
    · have hje:j=mat:=by omega
      subst hje
      rw[yJ7 _ _ _ (by omega)]
      simp (disch:=(try simp only[lZ]);omega) only[aZ,aM]
      refine⟨k+1,by omega,by omega,?_⟩
      try simp (disch:=(try simp only[lZ]);omega) only[aZ,aM]
      exact Cut.fg (by simp (disch:=first|omega|simp (disch:=omega) only[aG,aM]) only[fZ,aM,y0,z9,or_true,true_or])
  · have hke:k=len:=by omega
    subst hke
    simp (disch:=(try simp only[lZ]);omega) only[aZ,aM,zM4]
    exact zd5 (R:=fun r H'=>_) ⟨rfl,rfl⟩
theorem y08{H:List Blk}:VR P false zp8 [.v (.pointer none)] H (fun x H'=>x=nilS∧H'=H):=by
 refine zF6 (by simp) (.inl rfl) fun _ _=>?_
 simp (disch:=(try simp only[lZ]);omega) only[aZ,aM,zh9,zp9,zM4]
 exact zd5 (R:=fun r H'=>_) ⟨rfl,rfl⟩
inductive Pc where
 | root|bef|bel|hal|fed
 | bm (m:Nat)|fi (i:Nat)|re (i:Nat)|ri (i q:Nat)
 deriving DecidableEq
abbrev Ad:=Pc→Nat×Nat
structure Sy where
 bef:Nat→List Int
 fst:Nat→List Int
 pos:Nat→Nat
 rng:Nat→Nat→List Int
 hal:List Bool
 fed:List Int
def Pl.mt(p:Pl):Nat:=p.mat.toNat
def Pl.rl(p:Pl)(i:Nat):Nat:=(p.bs.getD i b0).ln.toNat-1
def usd(p:Pl):Pc→Bool
 | .root=>true | .bef=>true | .bel=>true | .hal=>true | .fed=>true
 | .bm m=>decide (m<p.ms.length)
 | .fi i=>decide (i<p.bs.length)
 | .re i=>decide (i<p.bs.length) && decide (0<p.rl i)
 | .ri i q=>decide (i<p.bs.length) && decide (q<p.rl i)
def slA(a:Nat×Nat)(n:Nat):A:=.sl a.1 a.2 1 0 n
def befC(p:Pl)(ad:Ad):List A:=(List.range p.ms.length).map fun m=>slA (ad (.bm m)) p.mt
def cvC(p:Pl)(ad:Ad)(i:Nat):List A:=[slA (ad (.fi i)) p.mt,if 0<p.rl i then .lp (ad (.re i)).1 (ad (.re i)).2 0 else .v (.pointer none)]
def z2Y(p:Pl)(ad:Ad):List A:=(List.range p.bs.length).flatMap (cvC p ad)
def zw3(p:Pl)(ad:Ad):List A:=[.v (.int .i64 p.mat),.fs true (mcs true p.ms),.fs true (bts p.bs),.v (.int .i64 p.fd),slA (ad .bef) p.ms.length,.vs (ad .bel).1 (ad .bel).2 2 p.bs.length,slA (ad .hal) p.ms.length,slA (ad .fed) p.mt]
def ctn(p:Pl)(ad:Ad)(s:Sy):Pc→List A
 | .root=>zw3 p ad
 | .bef=>befC p ad
 | .bel=>z2Y p ad
 | .hal=>za9 s.hal
 | .fed=>ints s.fed
 | .bm m=>ints (s.bef m)
 | .fi i=>ints (s.fst i)
 | .re i=>belC (p.rl i) p.mt (s.pos i) fun q=>ad (.ri i q)
 | .ri i q=>ints (s.rng i q)
structure PM(H:List Blk)(p:Pl)(ad:Ad)(s:Sy):Prop where
 get:∀c,usd p c=true→blkAt H (ad c).1 (ad c).2=some (ctn p ad s c)
 inj:∀c d,usd p c=true→usd p d=true→(ad c).1=(ad d).1→c=d
 zr:(ad .root).2=0∧∀i,(ad (.re i)).2=0
theorem PM.lt{H:List Blk}{p:Pl}{ad:Ad}{s:Sy}(h:PM H p ad s){c:Pc}(hc:usd p c=true):(ad c).1<H.length:=y4 (h.get c hc)
theorem PM.ne{H:List Blk}{p:Pl}{ad:Ad}{s:Sy}(h:PM H p ad s){c d:Pc}(hc:usd p c=true)(hd:usd p d=true)(hn:c≠d):(ad c).1≠(ad d).1:=fun he=>hn (h.inj c d hc hd he)
theorem PM.grow{H:List Blk}{p:Pl}{ad:Ad}{s:Sy}(h:PM H p ad s)(G:List Blk):PM (H++G) p ad s :=
 ⟨fun c hc=>by rw[x2 _ _ _ _ (h.lt hc)];exact h.get c hc,h.inj,h.zr⟩
theorem PM.gr{F:Nat→Prop}{H H':List Blk}{p:Pl}{ad:Ad}{s:Sy}(h:PM H p ad s)(g:Gr F H H')(hF:∀c,usd p c=true→¬F (ad c).1):PM H' p ad s :=
 ⟨fun c hc=>g.at (h.get c hc) (hF c hc),h.inj,h.zr⟩
theorem PM.put{H:List Blk}{p:Pl}{ad:Ad}{s s':Sy}(h:PM H p ad s)(c:Pc)(hc:usd p c=true)(hd:∀d,d≠c→usd p d=true→ctn p ad s' d=ctn p ad s d):PM (H.set (ad c).1 ⟨(ad c).2,ctn p ad s' c⟩) p ad s' :=
 ⟨fun d hdu=>by
  by_cases e:d=c
  ·subst e;exact x0 _ _ _ _ (h.lt hdu)
  ·rw[y5 _ _ _ _ _ (h.ne hdu hc e),hd d e hdu];exact h.get d hdu,h.inj,h.zr⟩
def upd(ad:Ad)(c:Pc)(a:Nat×Nat):Ad:=fun d=>if d=c then a else ad d
theorem zb7(ad:Ad)(c:Pc)(a:Nat×Nat):upd ad c a c=a:=by simp [upd]
theorem Y7(ad:Ad){c d:Pc}(a:Nat×Nat)(h:d≠c):upd ad c a d=ad d:=by simp [upd,h]
theorem PM.anew {H H' : List Blk} {p : Pl} {ad : Ad} {s s' : Sy} (h : PM H p ad s) (c d : Pc) (a : Nat × Nat) (hc : usd p c = true) (hd : usd p d = true) (hcd : c ≠ d) (hz : c ≠ .root ∧ ∀ i, c ≠ .re i) (hg : Gr (one (ad d).1) H H') (ha : H.length ≤ a.1)
    (h1:blkAt H' a.1 a.2=some (ctn p (upd ad c a) s' c)) (h2:blkAt H' (ad d).1 (ad d).2=some (ctn p (upd ad c a) s' d)) (h3:∀e,e≠c→e≠d→usd p e=true→ctn p (upd ad c a) s' e=ctn p ad s e):PM H' p (upd ad c a) s':=by
  refine⟨fun e he=>?_,fun e f he hf hef=>?_,by rw[Y7 _ _ hz.1.symm];exact h.zr.1,fun i=>by rw[Y7 _ _ (hz.2 i).symm];exact h.zr.2 i⟩
  · by_cases e1:e=c
    · subst e1;rw[zb7];exact h1
    · rw[Y7 _ _ e1]
      by_cases e2:e=d
      · subst e2;exact h2
      · rw[h3 e e1 e2 he];exact hg.at (h.get e he) (h.ne he hd e2)
  · by_cases e1:e=c
    · by_cases f1:f=c
      · rw[e1,f1]
      · rw[e1,zb7,Y7 _ _ f1]at hef
        have:=h.lt hf
        omega
    · by_cases f1:f=c
      · rw[f1,zb7,Y7 _ _ e1]at hef
        have:=h.lt he
        omega
      · rw[Y7 _ _ e1,Y7 _ _ f1]at hef;exact h.inj e f he hf hef
def ftp(p:Pl)(ad:Ad):Nat→Prop:=fun i=>∃c,usd p c=true∧(ad c).1=i
def Tr(p:Pl)(H:List Blk)(ad:Ad)(H':List Blk)(ad':Ad):Prop:=Gr (ftp p ad) H H'∧(∀i,ftp p ad' i→H.length≤i∨ftp p ad i)∧ad' .root=ad .root
theorem Tr.refl{p:Pl}(H:List Blk)(ad:Ad):Tr p H ad H ad:=⟨Gr.refl H,fun i h=>.inr h,rfl⟩
theorem Tr.trans{p:Pl}{H H1 H2:List Blk}{ad ad1 ad2:Ad}(h:Tr p H ad H1 ad1)(k:Tr p H1 ad1 H2 ad2):Tr p H ad H2 ad2 :=
 ⟨h.1.trans k.1 fun i hi hf=>(h.2.1 i hf).resolve_left (by omega),fun i hi=>by
  rcases k.2.1 i hi with h1|h1
  ·exact .inl (Nat.le_trans h.1.1 h1)
  ·exact h.2.1 i h1,k.2.2.trans h.2.2⟩
theorem Tr.gr{p:Pl}{H H':List Blk}{ad:Ad}(h:Gr nof H H'):Tr p H ad H' ad:=⟨h.mono fun _ _ hf=>hf.elim,fun i hi=>.inr hi,rfl⟩
theorem Tr.one{p:Pl}{H H':List Blk}{ad:Ad}{c:Pc}(hc:usd p c=true)(h:Gr (one (ad c).1) H H'):Tr p H ad H' ad:=⟨h.mono fun i _ hf=>⟨c,hc,hf.symm⟩,fun i hi=>.inr hi,rfl⟩
theorem Tr.anew{p:Pl}{H H':List Blk}{ad:Ad}{c d:Pc}{a:Nat×Nat}(hd:usd p d=true)(h:Gr (Go.Proofs.YtcppaddgclkekaaGreat.one (ad d).1) H H')(ha:H.length≤a.1)(hr:c≠.root):Tr p H ad H' (upd ad c a) :=
 ⟨h.mono fun i _ hf=>⟨d,hd,hf.symm⟩,fun i ⟨e,he,hi⟩=>by
  by_cases e1:e=c
  ·subst e1;rw[zb7]at hi;exact .inl (by omega)
  ·rw[Y7 _ _ e1]at hi;exact .inr ⟨e,he,hi⟩,Y7 _ _ (Ne.symm hr)⟩
theorem zr6(p:Pl)(ad:Ad):(befC p ad).length=p.ms.length:=by simp [befC]
theorem z1j(p:Pl)(ad:Ad)(m:Nat)(h:m<p.ms.length):nthA (befC p ad) m=some (slA (ad (.bm m)) p.mt):=by rw[Y8];simp [befC,h]
theorem yZ8(p:Pl)(ad:Ad)(m:Nat)(a:Nat×Nat)(h:m<p.ms.length):splA (befC p ad) m [slA a p.mt]=befC p (upd ad (.bm m) a):=by
 rw[zP1 (by rw[zr6];exact h)]
 apply List.ext_getElem?
 intro i
 rw[List.getElem?_set,zr6]
 unfold befC
 by_cases h1:m=i
 ·subst h1;rw[if_pos rfl,if_pos h];simp [h,upd]
 ·rw[if_neg h1]
  simp only[List.getElem?_map]
  by_cases hi:i<p.ms.length
  ·simp [hi,upd,Ne.symm h1]
  ·simp [Nat.not_lt.1 hi]
theorem z00(p:Pl)(ad:Ad)(i:Nat):(cvC p ad i).length=2:=rfl
theorem z9I{α:Type}(f:Nat→List α)(hf:∀i,(f i).length=2)(n:Nat):((List.range n).flatMap f).length=n*2:=by
 induction n with
 | zero=>rfl
 | succ n ih=>rw[List.range_succ,List.flatMap_append,List.length_append,ih];simp [hf];omega
theorem z01{α:Type}(f:Nat→List α)(hf:∀i,(f i).length=2)(n i j:Nat)(hi:i<n)(hj:j<2):((List.range n).flatMap f)[i*2+j]?=(f i)[j]?:=by
 induction n with
 | zero=>omega
 | succ n ih =>
  rw[List.range_succ,List.flatMap_append]
  have hl:=z9I f hf n
  by_cases h:i<n
  ·rw[List.getElem?_append_left (by omega),ih h]
  ·have hin:i=n:=by omega
   subst hin
   rw[List.getElem?_append_right (by omega),hl,show i*2+j-i*2=j by omega];simp
theorem zt6(p:Pl)(ad:Ad):(z2Y p ad).length=p.bs.length*2:=z9I _ (z00 p ad) _
theorem z52(p:Pl)(ad:Ad)(i:Nat)(h:i<p.bs.length):nthA (z2Y p ad) (i*2)=some (slA (ad (.fi i)) p.mt):=by
 rw[Y8];exact z01 _ (z00 p ad) _ i 0 h (by omega)
theorem yj1(p:Pl)(ad:Ad)(i:Nat)(h:i<p.bs.length):nthA (z2Y p ad) (i*2+1)=some (if 0<p.rl i then .lp (ad (.re i)).1 (ad (.re i)).2 0 else .v (.pointer none)):=by
 rw[Y8];exact z01 _ (z00 p ad) _ i 1 h (by omega)
theorem y4w(p:Pl)(ad:Ad)(i:Nat)(a:Nat×Nat)(h:i<p.bs.length):splA (z2Y p ad) (i*2) [slA a p.mt]=z2Y p (upd ad (.fi i) a):=by
 rw[zP1 (by rw[zt6];omega)]
 apply List.ext_getElem?
 intro x
 rw[List.getElem?_set,zt6]
 by_cases hx:x<p.bs.length*2
 ·obtain⟨y,j,hj,rfl⟩:∃y j,j<2∧x=y*2+j:=⟨x / 2,x % 2,by omega,by omega⟩
  have g1:=z01 _ (z00 p ad) p.bs.length y j (by omega) hj
  have g2:=z01 _ (z00 p (upd ad (.fi i) a)) p.bs.length y j (by omega) hj
  unfold z2Y
  rw[g2]
  by_cases e:i*2=y*2+j
  ·have hy:y=i:=by omega
   have hj0:j=0:=by omega
   subst hy;subst hj0
   rw[if_pos e,if_pos (by omega)];simp [cvC,upd]
  ·rw[if_neg e,g1]
   by_cases hy:y=i
   ·subst hy
    have hj1:j=1:=by omega
    subst hj1;simp [cvC,upd]
   ·have:(Pc.fi y:Pc)≠.fi i:=by simpa using hy
    simp [cvC,upd,hy]
 ·rw[if_neg (by omega),List.getElem?_eq_none (by rw[zt6];omega),List.getElem?_eq_none (by rw[zt6];omega)]
theorem PM.rt{H:List Blk}{p:Pl}{ad:Ad}{s:Sy}(h:PM H p ad s):blkAt H (ad .root).1 0=some (zw3 p ad):=by have:=h.get .root rfl;rw[h.zr.1]at this;exact this
structure SyOk(p:Pl)(s:Sy):Prop where
 bef:∀m,m<p.ms.length→zn7 p.mt (s.bef m)
 fst:∀i,i<p.bs.length→zn7 p.mt (s.fst i)
 rng:∀i,i<p.bs.length→∀q,q<p.rl i→zn7 p.mt (s.rng i q)
 pos:∀i,i<p.bs.length→0<p.rl i→s.pos i<p.rl i
 hal:s.hal.length=p.ms.length
 fed:zn7 p.mt s.fed
theorem POk.mt1{p:Pl}(h:POk p):1≤p.mt∧p.mt≤16∧p.mat=p.mt:=by
 have:=h.m1
 have:=h.m2
 unfold Pl.mt;omega
theorem POk.rl{p:Pl}(h:POk p){i:Nat}(hi:i<p.bs.length):p.rl i≤15:=by
 have:=h.bt _ (x3 b0 hi)
 unfold Pl.rl;omega
theorem y4x{H:List Blk}{p:Pl}{ad:Ad}{s:Sy}(ok:POk p)(h:PM H p ad s)(m:Int)(h0:0≤m)(h1:m<p.ms.length):VR P false zM0 [.lp (ad .root).1 0 0,.v (.int .i64 m)] H (fun r H'=>r=.v (.bool (decide (binN p m.toNat)))∧H'=H):=by
 refine z4a (by simp) (.inl rfl) fun _ _=>?_
 have hr:=h.rt
 unfold zw3 slA at hr
 unfold binN
 simp (disch:=(try simp only[lZ]);omega) only[aZ,aM,zp7,zM2,hr]
 refine(W5 (w:=true) (p.ms.getD m.toNat [])).same (by unfold mcA mcC;simp (disch:=first|omega|simp (disch:=omega) only[aG,aM]) only[fZ,aM]) rfl (z7 ?_)
 simp (disch:=(try simp only[lZ]);omega) only[aZ,aM,z5J]
 exact zd5 (R:=fun r H'=>_) ⟨by first|rfl|(simp;rfl),rfl⟩
def fndE(p:Pl)(m:Int):Int:=if m<0∨(p.ms.length:Int)≤m then 7 else if ¬binN p m.toNat then 21 else 0
theorem y4y{H:List Blk}{p:Pl}{ad:Ad}{s:Sy}(ok:POk p)(h:PM H p ad s)(m:Int):VR P false zF2 [.lp (ad .root).1 0 0,.v (.int .i64 m)] H (fun r H'=>r=.v (.int .i64 (fndE p m))∧H'=H):=by
 refine z2K (by simp) (.inl rfl) fun _ _=>?_
 have hr:=h.rt
 unfold zw3 slA at hr
 unfold fndE
 by_cases h1:m<0∨(p.ms.length:Int)≤m
 ·rw[if_pos h1]
  have h1':m<0∨m≥p.ms.length:=h1
  simp (disch:=(try simp only[lZ]);omega) only[aZ,aM,zf8,zm3,hr,decide_eq_true h1,zm4]
  exact zd5 (R:=fun r H'=>_) ⟨rfl,rfl⟩
 ·rw[if_neg h1]
  simp (disch:=(try simp only[lZ]);omega) only[aZ,aM,zf8,zm3,hr,decide_eq_false h1]
  refine(y4x ok h m (by omega) (by omega)).mono ?_
  rintro r H' ⟨rfl,hH⟩
  rw[hH]
  refine z7 ?_
  by_cases h2:binN p m.toNat
  ·rw[if_neg (by simpa using h2),decide_eq_true h2]
   simp (disch:=(try simp only[lZ]);omega) only[aZ,aM,zm4]
   exact zd5 (R:=fun r H'=>_) ⟨rfl,rfl⟩
  ·rw[if_pos h2,decide_eq_false h2]
   simp (disch:=(try simp only[lZ]);omega) only[aZ,aM,zm4]
   exact zd5 (R:=fun r H'=>_) ⟨rfl,rfl⟩
theorem y9y{H:List Blk}{p:Pl}{ad:Ad}{s:Sy}(ok:POk p)(h:PM H p ad s)(m:Int)(he:fndE p m≠0):VR P false zp1 [.lp (ad .root).1 0 0,.v (.int .i64 m)] H (fun r H'=>r=.tup [nilS,.v (.int .i64 (fndE p m))]∧H'=H):=by
 refine zE4 (by simp) (.inl rfl) fun _ _=>?_
 have hv:=y4y ok h m
 generalize fndE p m=e at *
 simp (disch:=(try simp only[lZ]);omega) only[aZ,aM,zh4,zp2]
 refine hv.mono ?_
 rintro r H' ⟨rfl,hH⟩
 rw[hH]
 refine z7 ?_
 simp (disch:=(try simp only[lZ]);omega) only[aZ,aM,decide_eq_true he,zK5]
 exact zd5 (R:=fun r H'=>_) ⟨rfl,rfl⟩
theorem xs3{H:List Blk}{p:Pl}{ad:Ad}{s:Sy}(ok:POk p)(h:PM H p ad s)(hs:SyOk p s)(m:Int)(he:fndE p m=0):VR P false zp1 [.lp (ad .root).1 0 0,.v (.int .i64 m)] H (fun r H'=>r=.tup [.sl H.length 1 1 0 p.mt,.v (.int .i64 0)]∧H'=H++[⟨1,ints (s.bef m.toNat)⟩]):=by
 refine zE4 (by simp) (.inl rfl) fun _ _=>?_
 have hv:=y4y ok h m
 rw[he]at hv
 have hm:0≤m∧m<p.ms.length:=by unfold fndE at he;split at he<;>omega
 have hr:=h.rt
 unfold zw3 slA at hr
 obtain⟨m1,m2,m3⟩:=ok.mt1
 have hb:=h.get .bef rfl
 have hn:=z1j p ad m.toNat (by omega)
 unfold slA at hn
 have hf:=h.get (.bm m.toNat) (by simp [usd];omega)
 have hl:=(hs.bef m.toNat (by omega)).1
 have bl:=zr6 p ad
 simp only[ctn]at hb hf
 simp (disch:=(try simp only[lZ]);omega) only[aZ,aM,zh4,zp2]
 refine hv.mono ?_
 rintro r H' ⟨rfl,hH⟩
 rw[hH]
 refine z7 ?_
 simp (disch:=(try simp only[lZ]);omega) only[aZ,aM,hr,hb,hn,bl]
 rw[← hl]
 refine(yZ6 (by omega) (by omega) hf).mono ?_
 rintro r H' ⟨rfl,hH⟩
 rw[hH]
 refine z7 ?_
 simp (disch:=(try simp only[lZ]);omega) only[aZ,aM,zK5]
 exact zd5 (R:=fun r H'=>_) ⟨rfl,rfl⟩
def Pl.nxt(p:Pl)(s:Sy)(i:Nat):Nat:=(s.pos i+p.rl i-1) % p.rl i
def outM(p:Pl)(s:Sy)(i:Nat):List Int:=if 0<p.rl i then s.rng i (p.nxt s i)else s.fst i
def updF{α:Type}(f:Nat→α)(i:Nat)(x:α):Nat→α:=fun j=>if j=i then x else f j
theorem x1{α:Type}(f:Nat→α)(i:Nat)(x:α):updF f i x i=x:=by simp [updF]
theorem x9{α:Type}(f:Nat→α){i j:Nat}(x:α)(h:j≠i):updF f i x j=f j:=by simp [updF,h]
def empS(p:Pl)(s:Sy)(i:Nat):Sy:={s with fst:=updF s.fst i (y9 p.mt)}
def rolS(p:Pl)(s:Sy)(i:Nat)(x:List Int):Sy:={s with pos:=updF s.pos i (p.nxt s i),rng:=updF s.rng i (updF (s.rng i) (p.nxt s i) x)}
def movS(p:Pl)(s:Sy)(i:Nat):Sy:=if 0<p.rl i then rolS p (empS p s i) i (s.fst i)else empS p s i
theorem PM.emp{H:List Blk}{p:Pl}{ad:Ad}{s:Sy}(h:PM H p ad s){i:Nat}(hi:i<p.bs.length):
    PM ((H++[(⟨0,ints (y9 p.mt)⟩:Blk)]).set (ad .bel).1 ⟨(ad .bel).2,z2Y p (upd ad (.fi i) (H.length,0))⟩) p (upd ad (.fi i) (H.length,0)) (empS p s i) ∧
    Tr p H ad ((H++[(⟨0,ints (y9 p.mt)⟩:Blk)]).set (ad .bel).1 ⟨(ad .bel).2,z2Y p (upd ad (.fi i) (H.length,0))⟩) (upd ad (.fi i) (H.length,0)):=by
  have hb:(ad .bel).1<H.length:=h.lt (c:=.bel) rfl
  have hg:Gr (one (ad .bel).1) H ((H++[(⟨0,ints (y9 p.mt)⟩:Blk)]).set (ad .bel).1 ⟨(ad .bel).2,z2Y p (upd ad (.fi i) (H.length,0))⟩) :=
    (Gr.app (F:=one (ad .bel).1) H _).trans (Gr.set (F:=one (ad .bel).1) _ _ _ rfl) fun i _ hf=>hf
  refine⟨h.anew (.fi i) .bel (H.length,0) (by simpa [usd]using hi) rfl (by simp) ⟨by simp,by simp⟩ hg (Nat.le_refl _) ?_ ?_ ?_,Tr.anew rfl hg (Nat.le_refl _) (by simp)⟩
  · rw[y5 _ _ _ _ _ (by simp;omega),x5]
    simp [ctn,empS,x1,blkAt]
  · rw[x0 _ _ _ _ (by simp;omega)];rfl
  · intro e h1 h2 he
    cases e with
    | fi j =>
      have:j≠i:=fun hc=>h1 (by rw[hc])
      simp [ctn,empS,x9 _ _ this]
    | bel=>exact absurd rfl h2
    | root=>simp [ctn,zw3,upd]
    | bef=>simp [ctn,befC,upd]
    | re j=>simp [ctn,upd,empS]
    | _=>rfl
theorem PM.rol {H : List Blk} {p : Pl} {ad : Ad} {s : Sy} (h : PM H p ad s) {i : Nat} (hi : i < p.bs.length) (hr : 0 < p.rl i) (x : List Int) (H' : List Blk)
    (hH':H'=(H++[(⟨1,ints x⟩:Blk)]).set (ad (.re i)).1 ⟨0,belC (p.rl i) p.mt (p.nxt s i) (updA (fun q=>ad (.ri i q)) (p.nxt s i) (H.length,1))⟩) :
    PM H' p (upd ad (.ri i (p.nxt s i)) (H.length,1)) (rolS p s i x)∧Tr p H ad H' (upd ad (.ri i (p.nxt s i)) (H.length,1))∧Gr (one (ad (.re i)).1) H H':=by
  subst hH'
  have hu:usd p (.re i)=true:=by simp [usd,hi,hr]
  have hb:(ad (.re i)).1<H.length:=h.lt hu
  have hq:p.nxt s i<p.rl i:=Nat.mod_lt _ hr
  have hz:=h.zr.2 i
  generalize hqq:p.nxt s i=q at *
  have hg:Gr (one (ad (.re i)).1) H ((H++[(⟨1,ints x⟩:Blk)]).set (ad (.re i)).1 ⟨0,belC (p.rl i) p.mt q (updA (fun q=>ad (.ri i q)) q (H.length,1))⟩) :=
    (Gr.app (F:=one (ad (.re i)).1) H _).trans (Gr.set (F:=one (ad (.re i)).1) _ _ _ rfl) fun i _ hf=>hf
  refine⟨h.anew (.ri i q) (.re i) (H.length,1) (by simp [usd,hi,hq]) hu (by simp) ⟨by simp,by simp⟩ hg (Nat.le_refl _) ?_ ?_ ?_,Tr.anew hu hg (Nat.le_refl _) (by simp),hg⟩
  · rw[y5 _ _ _ _ _ (by simp;omega),x5]
    simp [ctn,rolS,hqq,x1,blkAt]
  · rw[hz,x0 _ _ _ _ (by simp;omega)]
    simp only[ctn,rolS,hqq,x1]
    congr 2
    funext j
    unfold updA upd
    by_cases hj:j=q
    · simp [hj]
    · simp [hj]
  · intro e h1 h2 he
    cases e with
    | ri j r =>
      simp only[ctn,rolS,hqq]
      by_cases hj:j=i
      · subst hj
        have:r≠q:=fun hc=>h1 (by rw[hc])
        rw[x1,x9 _ _ this]
      · rw[x9 _ _ hj]
    | re j =>
      have:j≠i:=fun hc=>h2 (by rw[hc])
      simp [ctn,rolS,x9 _ _ this,upd,this]
    | root=>simp [ctn,zw3,upd]
    | bef=>simp [ctn,befC,upd]
    | bel =>
      simp only[ctn,z2Y]
      congr 1<;>first|rfl|(funext j;first|rfl|simp [cvC,upd])
    | _=>rfl
theorem SyOk.out{p:Pl}{s:Sy}(hs:SyOk p s){i:Nat}(hi:i<p.bs.length):zn7 p.mt (outM p s i):=by
 unfold outM
 split
 ·rename_i h;exact hs.rng i hi _ (Nat.mod_lt _ h)
 ·exact hs.fst i hi
theorem zi2(n:Nat):zn7 n (y9 n):=⟨by simp [y9],fun i=>by
 have:(y9 n).getD i 0=0:=by simp [y9,List.getD_eq_getElem?_getD,List.getElem?_replicate];split<;>rfl
 rw[this];omega⟩
theorem SyOk.emp{p:Pl}{s:Sy}(hs:SyOk p s)(i:Nat):SyOk p (empS p s i) :=
 ⟨hs.bef,fun j hj=>by
  simp only[empS,updF];split
  ·exact zi2 _
  ·exact hs.fst j hj,hs.rng,hs.pos,hs.hal,hs.fed⟩
theorem SyOk.rol{p:Pl}{s:Sy}(hs:SyOk p s){i:Nat}(hr:0<p.rl i){x:List Int}(hx:zn7 p.mt x):SyOk p (rolS p s i x) :=
 ⟨hs.bef,hs.fst,fun j hj q hq=>by
  by_cases h:j=i
  ·subst h
   simp only[rolS,x1]
   by_cases h2:q=p.nxt s j
   ·rw[h2,x1];exact hx
   ·rw[x9 _ _ h2];exact hs.rng j hj q hq
  ·simp only[rolS,x9 _ _ h];exact hs.rng j hj q hq,fun j hj h=>by
  simp only[rolS,updF];split
  ·rename_i h;subst h;exact Nat.mod_lt _ hr
  ·exact hs.pos j hj h,hs.hal,hs.fed⟩
theorem SyOk.mov{p:Pl}{s:Sy}(hs:SyOk p s){i:Nat}(hi:i<p.bs.length):SyOk p (movS p s i):=by
 unfold movS
 split
 ·rename_i h;exact(hs.emp i).rol h (hs.fst i hi)
 ·exact hs.emp i
theorem yJ9{mat:Nat}(h16:mat≤16){l:List Int}(h:zn7 mat l):mixE l=0 :=
 zB6.2 ⟨by rw[h.1];exact h16,fun x hx=>by obtain⟨k,hk,rfl⟩:=zJ9 0 hx;exact h.2 k⟩
theorem PM.old{H:List Blk}{p:Pl}{ad:Ad}{s:Sy}(h:PM H p ad s){c:Pc}(hc:usd p c=true){a:Nat×Nat}(ha:H.length≤a.1):¬ftp p (upd ad c a) (ad c).1:=by
 rintro⟨d,hd,he⟩
 by_cases hcd:d=c
 ·subst hcd
  rw[zb7]at he
  have:=h.lt hd
  omega
 ·rw[Y7 _ _ hcd]at he
  exact hcd (h.inj d c hd hc he)
theorem y9z{H:List Blk}{p:Pl}{ad:Ad}{s:Sy}(ok:POk p)(h:PM H p ad s)(hs:SyOk p s){i:Nat}(hi:i<p.bs.length):
    VR P false zF7 [.lp (ad .root).1 0 0,.v (.int .i64 i)] H (fun r H'=>∃(ad':Ad) (o:Nat×Nat),r=.tup [slA o p.mt,.v (.int .i64 0)]∧PM H' p ad' (movS p s i)∧Tr p H ad H' ad'∧blkAt H' o.1 o.2=some (ints (outM p s i))∧¬ftp p ad' o.1):=by
  refine z2P (by simp) (.inl rfl) fun _ _=>?_
  have hr:=h.rt
  unfold zw3 slA at hr
  obtain⟨m1,m2,m3⟩:=ok.mt1
  have hb:=h.get .bel rfl
  simp only[ctn]at hb
  have n0:=z52 p ad i hi
  have n1:=yj1 p (upd ad (.fi i) (H.length,0)) i hi
  have bl:=zt6 p ad
  have bl1:=zt6 p (upd ad (.fi i) (H.length,0))
  have sp:=y4w p ad i (H.length,0) hi
  unfold slA at n0 sp
  simp (disch:=(try simp only[lZ]);omega) only[aZ,aM,zm5,zF9,hr,hb,n0,bl]
  rw[m3]at hr
  refine(z1i m2 hr).mono ?_
  rintro r H' ⟨rfl,hH⟩
  rw[hH]
  refine z7 ?_
  obtain⟨P1,T1⟩:=h.emp hi
  have ltr:=h.lt (c:=.root) rfl
  have ltb:=h.lt (c:=.bel) rfl
  have nrb:=h.ne (c:=.root) (d:=.bel) rfl rfl (by simp)
  have hf:=h.get (.fi i) (by simpa [usd]using hi)
  simp only[ctn]at hf
  have hold:=h.old (c:=.fi i) (a:=(H.length,0)) (by simpa [usd]using hi) (Nat.le_refl _)
  have hff:=T1.1
  have e1:∀B:Blk,(H++[(⟨0,ints (y9 p.mt)⟩:Blk)]).set (ad .bel).1 B=H.set (ad .bel).1 B++[⟨0,ints (y9 p.mt)⟩]:=fun B=>List.set_append_left _ _ ltb
  have hgr:Gr (one (ad .bel).1) H ((H++[(⟨0,ints (y9 p.mt)⟩:Blk)]).set (ad .bel).1 ⟨(ad .bel).2,z2Y p (upd ad (.fi i) (H.length,0))⟩) :=
    (Gr.app (F:=one (ad .bel).1) H _).trans (Gr.set (F:=one (ad .bel).1) _ _ _ rfl) fun i _ hf=>hf
  have hf1:=hgr.at hf (h.ne (c:=.fi i) (d:=.bel) (by simpa [usd]using hi) rfl (by simp))
  rw[e1]at P1 T1 hf1
  unfold movS outM
  by_cases hrl:0<p.rl i
  · rw[if_pos hrl,if_pos hrl]
    rw[if_pos hrl,P1.zr.2 i]at n1
    have hu:usd p (.re i)=true:=by simp [usd,hi,hrl]
    have hre:=P1.get (.re i) hu
    rw[P1.zr.2 i]at hre
    simp only[ctn]at hre
    simp (disch:=(try simp only[lZ]);omega) only[aZ,aM,hr,hb,n0,n1,bl,bl1,sp]
    have h15:=ok.rl hi
    refine(y6j hre (by omega) (by omega) (hs.pos i hi hrl) ⟨m1,m2⟩ hf1 (hs.fst i hi).1 (yJ9 m2 (hs.fst i hi))).mono ?_
    rintro r H' ⟨rfl,hH⟩
    obtain⟨P2,T2,G2⟩:=P1.rol hi hrl (s.fst i) H' hH
    have hq:p.nxt (empS p s i) i<p.rl i:=Nat.mod_lt _ hrl
    have hur:usd p (.ri i (p.nxt (empS p s i) i))=true:=by simp [usd,hi,hq]
    have hout:=P1.get _ hur
    simp only[ctn]at hout
    have hold2:=P1.old hur (a:=((H.set (ad .bel).1 ⟨(ad .bel).2,z2Y p (upd ad (.fi i) (H.length,0))⟩++[(⟨0,ints (y9 p.mt)⟩:Blk)]).length,1)) (Nat.le_refl _)
    have hout2:=G2.at hout (P1.ne hur hu (by simp))
    clear hH
    refine z7 ?_
    simp (disch:=(try simp only[lZ]);omega) only[aZ,aM,zG0]
    exact zd5 (R:=fun r H'=>∃(ad':Ad) (o:Nat×Nat),r=.tup [slA o p.mt,.v (.int .i64 0)]∧PM H' p ad' (rolS p (empS p s i) i (s.fst i))∧Tr p H ad H' ad'∧blkAt H' o.1 o.2=some (ints (s.rng i (p.nxt s i)))∧¬ftp p ad' o.1) ⟨_,_,rfl,P2,T1.trans T2,hout2,hold2⟩
  · rw[if_neg hrl,if_neg hrl]
    rw[if_neg hrl]at n1
    simp (disch:=(try simp only[lZ]);omega) only[aZ,aM,hr,hb,n0,n1,bl,bl1,sp,zG0]
    exact zd5 (R:=fun r H'=>∃(ad':Ad) (o:Nat×Nat),r=.tup [slA o p.mt,.v (.int .i64 0)]∧PM H' p ad' (empS p s i)∧Tr p H ad H' ad'∧blkAt H' o.1 o.2=some (ints (s.fst i))∧¬ftp p ad' o.1) ⟨_,ad (.fi i),rfl,P1,T1,hf1,hold⟩
theorem y4z(b:List A)(v:Nat)(p:List A)(M:List (List Int))(T:List Blk):(hm b v p M++T).length=M.length+2+T.length:=by simp [z61]
theorem xs4(b:List A)(v:Nat)(p:List A)(M:List (List Int))(T:List Blk):blkAt (hm b v p M++T) 0 0=some b:=by rw[x2 _ _ _ _ (by rw[z61];omega),hm_b]
theorem xs5(b:List A)(v:Nat)(p:List A)(M:List (List Int))(T:List Blk):blkAt (hm b v p M++T) 1 v=some p:=by rw[x2 _ _ _ _ (by rw[z61];omega),hm_p]
theorem xs6(b:List A)(v:Nat)(p:List A)(k n:Nat)(f:Nat→Nat→Int)(T:List Blk)(o:Nat)(h:o<k):blkAt (hm b v p (mtx k n f)++T) (o+2) 0=some (ints ((List.range n).map fun i=>f o i)):=by
 rw[x2 _ _ _ _ (by rw[z61,zT3];omega),y9q _ _ _ _ _ _ _ h]
theorem xs7(b:List A)(v:Nat)(p:List A)(k n:Nat)(f:Nat→Nat→Int)(c:List A):blkAt (hm b v p (mtx k n f)++[⟨0,c⟩]) (k+2) 0=some c:=by
 have:k+2=(hm b v p (mtx k n f)).length:=by rw[z61,zT3]
 rw[this,x5];rfl
theorem y8s(b:List A)(v v':Nat)(p q:List A)(M:List (List Int))(T:List Blk):(hm b v p M++T).set 1 ⟨v',q⟩=hm b v' q M++T:=rfl
theorem y6l(k n:Nat):(ptrA k n).take k=ptrA k n:=List.take_of_length_le (by rw[z9E];exact Nat.le_refl _)
theorem aR:type_of% (ai9 @y4z<|ai9 @xs4<|ai9 @xs5<|ai9 @xs6<|ai9 @xs7<|@y8s):=⟨@y4z,@xs4,@xs5,@xs6,@xs7,@y8s⟩
theorem yC6{w v:Bool}(m:Mc)(xs:List Int):VR P false z3W [mcA w m,.fs v (ints xs)] [] (isR (zO3 m xs)):=by
 refine yd7 (by simp) (.inr rfl) fun _ _=>?_
 unfold mcA mcC
 simp (disch:=(try simp only[lZ]);omega) only[aZ,aM,aQ,aR,zR1,z3Y]
 refine(zT2 (w:=w) m xs.length).same (by unfold mcA mcC;simp (disch:=first|omega|simp (disch:=omega) only[aG,aM,aQ,aR]) only[fZ,aM,aQ,aR]) rfl (z7 ?_)
 simp (disch:=(try simp only[lZ]);omega) only[aZ,aM,aQ,aR]
 refine y2 (fun h1=>?_) (fun h1=>?_)
 ·have he:msE m xs=w5 m xs.length:=by unfold msE;rw[if_pos h1]
  simp (disch:=(try simp only[lZ]);omega) only[aZ,aM,aQ,aR,zy4]
  exact y8 (r:=.tup [.v (.slice none 0 0),.v (.int .i64 (w5 m xs.length))]) (Fz.refl rfl) ⟨by unfold zO3;rw[if_pos (by omega),he],rfl⟩
 have h1':w5 m xs.length=0:=Classical.not_not.1 h1
 have ok:=zN7 h1'
 have k1:=ok.m1
 have k2:=ok.m2
 have k3:=ok.len
 simp (disch:=(try simp only[lZ]);omega) only[aZ,aM,aQ,aR]
 refine AWP.loopP z8S (fun i:Nat=>i≤xs.length∧∀j,j<i→badE (xs.getD j 0)=0) (fun i=>[(6,.v (.int .i64 i))]) (fun _=>[]) (fun i=>xs.length-i) 0 ⟨by omega,by omega⟩ ?_ ?_
 ·exact Cut.of' 1 rfl (by omega) (by simp (disch:=first|omega|simp (disch:=omega) only[aG,aM,aQ,aR]) only[fZ,aM,aQ,aR]) (by simp (disch:=first|omega|simp (disch:=omega) only[aG,aM,aQ,aR]) only[fZ,aM,aQ,aR])
 rintro i ⟨hi,hi2⟩
 by_cases hlt:i<xs.length
 ·simp (disch:=(try simp only[lZ]);omega) only[aZ,aM,aQ,aR]
  refine y2 (fun h2=>?_) (fun h2=>?_)
  ·have he : msE m xs = 18 := by
    unfold msE;rw[if_neg h1,if_pos]
    rw[za7 0 hlt hi2 (by rw[z7Q (by omega)];omega),z7Q (by omega)];omega
   simp (disch:=(try simp only[lZ]);omega) only[aZ,aM,aQ,aR,zy4]
   exact y8 (r:=.tup [.v (.slice none 0 0),.v (.int .i64 18)]) (Fz.refl rfl) ⟨by unfold zO3;rw[if_pos (by omega),he],rfl⟩
  ·simp (disch:=(try simp only[lZ]);omega) only[aZ,aM,aQ,aR]
   refine⟨i+1,⟨by omega,fun j hj=>?_⟩,by omega,?_⟩
   ·by_cases hji:j=i
    ·subst hji;exact yJ6 (by omega)
    ·exact hi2 j (by omega)
   ·exact Cut.of' 1 rfl (by omega) (by simp (disch:=first|omega|simp (disch:=omega) only[aG,aM,aQ,aR]) only[fZ,aM,aQ,aR]) (by simp (disch:=first|omega|simp (disch:=omega) only[aG,aM,aQ,aR]) only[fZ,aM,aQ,aR])
 have hie:i=xs.length:=by omega
 subst hie
 have hb:zc5 badE xs=0:=w7 0 hi2
 have hbd:∀i,i<xs.length→0≤xs.getD i 0∧xs.getD i 0≤1073741824:=fun i hi=>z9F (hi2 i hi)
 simp (disch:=(try simp only[lZ]);omega) only[aZ,aM,aQ,aR]
 refine(zf1 (w:=w) m).same (by unfold mcA mcC;simp (disch:=first|omega|simp (disch:=omega) only[aG,aM,aQ,aR]) only[fZ,aM,aQ,aR]) rfl (z7 ?_)
 simp (disch:=(try simp only[lZ]);omega) only[aZ,aM,aQ,aR]
 refine y2 (fun h3=>?_) (fun h3=>?_)
 ·have he : msE m xs = 13 := by
   unfold msE;rw[if_neg h1,if_neg (by omega),if_pos (by omega)]
  simp (disch:=(try simp only[lZ]);omega) only[aZ,aM,aQ,aR,zy4]
  exact y8 (r:=.tup [.v (.slice none 0 0),.v (.int .i64 13)]) (Fz.refl rfl) ⟨by unfold zO3;rw[if_pos (by omega),he],rfl⟩
 have he:msE m xs=0:=by
  unfold msE;rw[if_neg h1,if_neg (by omega),if_neg (by omega)]
 have ho:y3 m≠0:=by omega
 have ho4:y3 m≤4:=by
  have:=(zn6 ok ho (k:=0) (by omega) (t:=0) (by omega)).2.2.2.1;exact this
 simp (disch:=(try simp only[lZ]);omega) only[aZ,aM,aQ,aR]
 refine AWP.cut (Cut.virt 7 1 rfl) ?_
 refine AWP.loopM z8T (fun j:Nat=>j≤y3 m) (fun j=>[(7,.vs 1 j 1 j),(8,.v (.int .i64 j))]) (fun j=>hm [.fs w (rows w m)] j (ptrA j xs.length) (mtx j xs.length fun _ _=>0)) (fun j=>y3 m-j) 0 (by omega) ?_ ?_
 ·refine Cut.same (H:=hm [.fs w (rows w m)] 0 [] []) (by omega) (z7E (by simp (disch:=first|omega|simp (disch:=omega) only[aG,aM,aQ,aR]) only[fZ,aM,aQ,aR]) rfl) ?_
  simp (disch:=first|omega|simp (disch:=omega) only[aG,aM,aQ,aR]) only[fZ,aM,aQ,aR]
 rintro j hj
 simp (disch:=(try simp only[lZ]);omega) only[aZ,aM,aQ,aR]
 refine(zf1 (w:=w) m).same (by unfold mcA mcC;simp (disch:=first|omega|simp (disch:=omega) only[aG,aM,aQ,aR]) only[fZ,aM,aQ,aR]) rfl (z7 ?_)
 by_cases hlt2:j<y3 m
 ·simp (disch:=(try simp only[lZ]);omega) only[aZ,aM,aQ,aR,yZ0,y6l,yJ5]
  refine⟨j+1,by omega,by omega,?_⟩
  exact Cut.app (by omega) (z7E (by simp (disch:=first|omega|simp (disch:=omega) only[aG,aM,aQ,aR]) only[fZ,aM,aQ,aR]) (z2q _ _ _ (by simp (disch:=(try simp only[lZ]);omega) only[aZ,aM,aQ,aR];omega))) (by simp (disch:=first|omega|simp (disch:=omega) only[aG,aM,aQ,aR]) only[fZ,aM,aQ,aR])
 have hje:j=y3 m:=by omega
 subst hje
 rw[← yZ1 m xs]
 simp (disch:=(try simp only[lZ]);omega) only[aZ,aM,aQ,aR]
 refine AWP.loopM z8U (fun x:Nat=>x≤xs.length) (fun x=>[(9,.v (.int .i64 x))]) (fun x=>hm [.fs w (rows w m)] (y3 m) (ptrA (y3 m) xs.length) (mtx (y3 m) xs.length (msF m xs x 0))) (fun x=>xs.length-x) 0 (by omega) ?_ ?_
 ·exact Cut.same (by omega) (z7E (by simp (disch:=first|omega|simp (disch:=omega) only[aG,aM,aQ,aR]) only[fZ,aM,aQ,aR]) (z2q _ _ _ (by simp (disch:=(try simp only[lZ]);omega) only[aZ,aM,aQ,aR];omega))) (by simp (disch:=first|omega|simp (disch:=omega) only[aG,aM,aQ,aR]) only[fZ,aM,aQ,aR])
 rintro x hx
 by_cases hltx:x<xs.length
 ·have hbx:=hbd x hltx
  have hdl:=yZ3 ok ho (k:=x) (by omega) hbx
  have hms:=fun o ho=>y4n m xs (x:=x) (o:=o) ho hltx
  simp (disch:=(try simp only[lZ]);omega) only[aZ,aM,aQ,aR]
  refine(yJ3 (w:=w) m _ ok ho x (by omega) (xs.getD x 0) hbx).same (by unfold mcA mcC;simp (disch:=first|omega|simp (disch:=omega) only[aG,aM,aQ,aR]) only[fZ,aM,aQ,aR]) (by simp (disch:=first|omega|simp (disch:=omega) only[aG,aM,aQ,aR]) only[fZ,aM,aQ,aR]) (z7 ?_)
  simp (disch:=(try simp only[lZ]);omega) only[aZ,aM,aQ,aR]
  refine AWP.loopM z8V (fun o:Nat=>o≤y3 m) (fun o=>[(11,.v (.int .i64 o))]) (fun o=>hm [.fs w (rows w m)] (y3 m) (ptrA (y3 m) xs.length) (mtx (y3 m) xs.length (msF m xs x o))) (fun o=>y3 m-o) 0 (by omega) ?_ ?_
  ·exact Cut.same (by omega) (z7E (by simp (disch:=first|omega|simp (disch:=omega) only[aG,aM,aQ,aR]) only[fZ,aM,aQ,aR]) (z2q _ _ _ (by simp (disch:=(try simp only[lZ]);omega) only[aZ,aM,aQ,aR];omega))) (by simp (disch:=first|omega|simp (disch:=omega) only[aG,aM,aQ,aR]) only[fZ,aM,aQ,aR])
  rintro o ho2
  by_cases hlto:o<y3 m
  ·simp (disch:=(try simp only[lZ]);omega) only[aZ,aM,aQ,aR]
   rw[hms o hlto]
   refine⟨o+1,by omega,by omega,?_⟩
   exact Cut.same (by omega) (z7E (by simp (disch:=first|omega|simp (disch:=omega) only[aG,aM,aQ,aR]) only[fZ,aM,aQ,aR]) (z2q _ _ _ (by simp (disch:=(try simp only[lZ]);omega) only[aZ,aM,aQ,aR];omega))) (by simp (disch:=first|omega|simp (disch:=omega) only[aG,aM,aQ,aR]) only[fZ,aM,aQ,aR])
  have hoe:o=y3 m:=by omega
  subst hoe
  rw[yZ2]
  simp (disch:=(try simp only[lZ]);omega) only[aZ,aM,aQ,aR]
  refine⟨x+1,by omega,by omega,?_⟩
  exact Cut.same (by omega) (z7E (by simp (disch:=first|omega|simp (disch:=omega) only[aG,aM,aQ,aR]) only[fZ,aM,aQ,aR]) (z2q _ _ _ (by simp (disch:=(try simp only[lZ]);omega) only[aZ,aM,aQ,aR];omega))) (by simp (disch:=first|omega|simp (disch:=omega) only[aG,aM,aQ,aR]) only[fZ,aM,aQ,aR])
 have hxe:x=xs.length:=by omega
 subst hxe
 rw[y4m]
 simp (disch:=(try simp only[lZ]);omega) only[aZ,aM,aQ,aR,zy4]
 refine y8 (r:=zO3 m xs) ?_ ⟨rfl,rfl⟩
 unfold zO3
 rw[if_neg (by omega),he]
 exact Fz.tup ⟨y9t (y4o m xs) (yZ4 m xs),Fz.refl rfl,trivial⟩
theorem yj2{α:Type}{a b:List α}(d:α)(hl:a.length=b.length)(h:∀i,i<a.length→a.getD i d=b.getD i d):a=b:=by
 apply List.ext_getElem hl
 intro i h1 h2
 have:=h i h1
 simpa [List.getD_eq_getElem?_getD,h1,h2]using this
theorem y4A{w v:Bool}(a b:List Int)(ha:a.length<1000000000):VR P false z6q [.fs w (ints a),.fs v (ints b)] [] (isR (.v (.bool (decide (a=b))))):=by
 refine ym8 (by simp) (.inr rfl) fun _ _=>?_
 simp (disch:=(try simp only[lZ]);omega) only[aZ,aM,z0i,z6s]
 refine y2 (fun h1=>?_) (fun h1=>?_)
 ·simp (disch:=(try simp only[lZ]);omega) only[aZ,aM,z0j]
  exact y1 ⟨yx3 (fun h=>h1 (by rw[h])),rfl⟩
 have hl:a.length=b.length:=by omega
 simp (disch:=(try simp only[lZ]);omega) only[aZ,aM]
 refine AWP.loopP yc6 (fun k:Nat=>k≤a.length∧∀i,i<k→a.getD i 0=b.getD i 0) (fun k=>[(2,.v (.bool false)),(3,.v (.int .i64 k))]) (fun _=>[]) (fun k=>a.length-k) 0 ⟨by omega,fun i hi=>by omega⟩ (by refine Cut.of' (0) ?_ (by omega) ?_ ?_<;>simp (disch:=first|omega|simp (disch:=omega) only[aG,aM]) only[fZ,aM]) ?_
 rintro k ⟨hk,hg⟩
 by_cases hlt:k<a.length
 ·simp (disch:=(try simp only[lZ]);omega) only[aZ,aM]
  refine z7J (fun h3=>?_) (fun h3=>?_)
  ·simp (disch:=(try simp only[lZ]);omega) only[aZ,aM,z0j]
   refine y1 ⟨yx3 (fun h=>?_),rfl⟩
   subst h;simp at h3
  ·simp (disch:=(try simp only[lZ]);omega) only[aZ,aM]
   refine⟨k+1,⟨by omega,fun i hi=>?_⟩,by omega,(by refine Cut.of' (0) ?_ (by omega) ?_ ?_<;>simp (disch:=first|omega|simp (disch:=omega) only[aG,aM]) only[fZ,aM])⟩
   rcases Nat.lt_succ_iff_lt_or_eq.1 hi with h|rfl
   ·exact hg i h
   ·simpa using h3
 ·simp (disch:=(try simp only[lZ]);omega) only[aZ,aM,z0j]
  exact y1 ⟨y9g (yj2 0 hl (fun i hi=>hg i (by omega))),rfl⟩
theorem yK0{w v w' v':Bool}(a b:List (List Int))(ha:a.length<1000000000)(hs:∀r∈a,r.length<1000000000):VR P false zU4 [.fs w (rows w' a),.fs v (rows v' b)] [] (isR (.v (.bool (decide (a=b))))):=by
 refine z5o (by simp) (.inr rfl) fun _ _=>?_
 simp (disch:=(try simp only[lZ]);omega) only[aZ,aM,zu1,zU6]
 refine y2 (fun h1=>?_) (fun h1=>?_)
 ·simp (disch:=(try simp only[lZ]);omega) only[aZ,aM,zu2]
  exact y1 ⟨yx3 (fun h=>h1 (by rw[h])),rfl⟩
 have hl:a.length=b.length:=by omega
 simp (disch:=(try simp only[lZ]);omega) only[aZ,aM]
 refine AWP.loopP z3p (fun k:Nat=>k≤a.length∧∀i,i<k→a.getD i []=b.getD i []) (fun k=>[(2,.v (.bool false)),(3,.v (.int .i64 k))]) (fun _=>[]) (fun k=>a.length-k) 0 ⟨by omega,fun i hi=>by omega⟩ (by refine Cut.of' (0) ?_ (by omega) ?_ ?_<;>simp (disch:=first|omega|simp (disch:=omega) only[aG,aM]) only[fZ,aM]) ?_
 rintro k ⟨hk,hg⟩
 by_cases hlt:k<a.length
 ·simp (disch:=(try simp only[lZ]);omega) only[aZ,aM]
  refine(y4A (a.getD k []) (b.getD k []) (hs _ (by simp [List.getD_eq_getElem?_getD,hlt]))).same (by simp (disch:=first|omega|simp (disch:=omega) only[aG,aM]) only[fZ,aM]) rfl (z7 ?_)
  simp (disch:=(try simp only[lZ]);omega) only[aZ,aM]
  refine y2 (fun h3=>?_) (fun h3=>?_)
  ·simp (disch:=(try simp only[lZ]);omega) only[aZ,aM,zu2]
   exact y1 ⟨yx3 (fun h=>h3 (by rw[h])),rfl⟩
  ·simp (disch:=(try simp only[lZ]);omega) only[aZ,aM]
   refine⟨k+1,⟨by omega,fun i hi=>?_⟩,by omega,(by refine Cut.of' (0) ?_ (by omega) ?_ ?_<;>simp (disch:=first|omega|simp (disch:=omega) only[aG,aM]) only[fZ,aM])⟩
   rcases Nat.lt_succ_iff_lt_or_eq.1 hi with h|rfl
   ·exact hg i h
   ·exact Classical.not_not.1 h3
 ·simp (disch:=(try simp only[lZ]);omega) only[aZ,aM,zu2]
  exact y1 ⟨y9g (yj2 [] hl (fun i hi=>hg i (by omega))),rfl⟩
end Go.Proofs.YtcppaddgclkekaaGreat
namespace Go.Proofs.YtcppaddgclkekaaGreat
open Go Go.Lft
set_option linter.unusedSimpArgs false
set_option linter.unusedVariables false
def yq3:Ty:=(.st [(.int .i64),(.sl (.st [(.sl (.sl (.int .i64)))])),(.sl (.st [(.int .i64),(.int .i64),(.int .i64),(.int .i64)])),(.int .i64)])
def y6m:Ty:=(.sl (.int .i64))
theorem z02{α:Type}{w:Bool}(t:Ty)(f:α→A)(Q:α→Prop)(h1:∀ce,t.Sh w ce→∃x,t.pk ce=f x∧Q x):∀(L:List (List A)),(∀ce∈L,t.Sh w ce)→∃l:List α,L.map t.pk=l.map f∧L.length=l.length∧∀x∈l,Q x
 | [],_=>⟨[],rfl,rfl,by simp⟩
 | ce :: L,h=>by
  obtain⟨l,hl,hn,hq⟩:=z02 t f Q h1 L fun x hx=>h x (by simp [hx])
  obtain⟨x,hx,hqx⟩:=h1 ce (h ce (by simp))
  exact⟨x :: l,by rw[List.map_cons,hl,hx];rfl,by simp [hn],fun y hy=>by
   rcases List.mem_cons.1 hy with rfl|hy
   ·exact hqx
   ·exact hq y hy⟩
theorem xs8{w:Bool}{ce:List A}(h:(Ty.int .i64).Sh w ce):∃n:Int,(Ty.int .i64).pk ce=.v (.int .i64 n)∧(Lit.int .i64 n).wf=true:=by
 simp only[Ty.Sh]at h
 obtain⟨n,rfl,h⟩:=h;exact⟨n,rfl,h⟩
theorem xs9{n:Int}(h:(Lit.int .i64 n).wf=true):-9223372036854775808≤n∧n≤9223372036854775807:=by
 simp only[Lit.wf,Bool.and_eq_true,decide_eq_true_eq]at h
 have h1:IntKind.i64.max=9223372036854775807:=rfl
 have h2:IntKind.i64.min=-9223372036854775808:=rfl
 omega
def fit(n:Int):Prop:=-9223372036854775808≤n∧n≤9223372036854775807
theorem y4B{w:Bool}{ce:List A}(h:(Ty.sl (.int .i64)).Sh w ce):∃l:List Int,(Ty.sl (.int .i64)).pk ce=.fs w (ints l)∧l.length≤maxLen∧∀x∈l,fit x:=by
 simp only[Ty.Sh]at h
 obtain⟨L,rfl,hn,h⟩:=h
 obtain⟨l,h1,h2,h3⟩:=z02 (w:=w) (.int .i64) (fun n=>A.v (.int .i64 n)) fit (fun ce hce=>by
  obtain⟨n,e1,e2⟩:=xs8 hce;exact⟨n,e1,xs9 e2⟩) L (fun ce hce=>by simp only[Ty.Sh];exact h ce hce)
 exact⟨l,by show A.fs w _=_;rw[h1];rfl,by omega,h3⟩
theorem y4C{w:Bool}{ce:List A}(h:(Ty.sl (.sl (.int .i64))).Sh w ce):∃l:List (List Int),(Ty.sl (.sl (.int .i64))).pk ce=.fs w (rows w l)∧l.length≤maxLen∧∀r∈l,r.length≤maxLen∧∀x∈r,fit x:=by
 simp only[Ty.Sh]at h
 obtain⟨L,rfl,hn,h⟩:=h
 obtain⟨l,h1,h2,h3⟩:=z02 (w:=w) (.sl (.int .i64)) (fun r=>A.fs w (ints r)) (fun r=>r.length≤maxLen∧∀x∈r,fit x) (fun ce hce=>y4B hce) L (fun ce hce=>by simp only[Ty.Sh];exact h ce hce)
 exact⟨l,by show A.fs w _=_;rw[h1];rfl,by omega,h3⟩
theorem xA1{w:Bool}{ce:List A}(h:(Ty.st [.sl (.sl (.int .i64))]).Sh w ce):∃m:Mc,(Ty.st [.sl (.sl (.int .i64))]).pk ce=mcA w m∧m.length≤maxLen∧∀r∈m,r.length≤maxLen∧∀x∈r,fit x:=by
 simp only[Ty.Sh,Ty.ShL]at h
 obtain⟨a,b,rfl,h,rfl⟩:=h
 obtain⟨m,h1,h2,h3⟩:=y4C (w:=w) (ce:=a) (by simp only[Ty.Sh];exact h)
 obtain⟨L,rfl,_⟩:=h
 exact⟨m,by rw[show(Ty.sl (.sl (.int .i64))).pk [A.fs w (L.map (Ty.sl (.int .i64)).pk)]=.fs w (L.map (Ty.sl (.int .i64)).pk)from rfl]at h1;show A.agg _=_;rw[List.append_nil,h1];rfl,h2,h3⟩
theorem xt0{w:Bool}{ce:List A}(h:(Ty.st [.int .i64,.int .i64,.int .i64,.int .i64]).Sh w ce):∃b:Bt,(Ty.st [.int .i64,.int .i64,.int .i64,.int .i64]).pk ce=btA b∧True:=by
 simp only[Ty.Sh,Ty.ShL]at h
 obtain⟨_,_,rfl,⟨x,rfl,_⟩,_,_,rfl,⟨y,rfl,_⟩,_,_,rfl,⟨z,rfl,_⟩,_,_,rfl,⟨u,rfl,_⟩,rfl⟩:=h
 exact⟨⟨x,y,z,u⟩,rfl,trivial⟩
theorem xt1{cl:List A}(h:y6m.Sh true cl):∃l,y6m.pk cl=.fs true (ints l)∧l.length≤maxLen∧∀x∈l,fit x:=y4B (w:=true) h
theorem y6n{cl:List A}(h:yq3.Sh true cl):∃p,yq3.pk cl=plA true true p:=by
 unfold yq3 at h ⊢
 simp only[Ty.Sh,Ty.ShL]at h
 obtain⟨_,_,rfl,⟨x,rfl,_⟩,_,_,rfl,⟨L,rfl,_,hL⟩,_,_,rfl,⟨M,rfl,_,hM⟩,_,_,rfl,⟨y,rfl,_⟩,rfl⟩:=h
 obtain⟨ms,h1,_⟩:=z02 (w:=true) (.st [.sl (.sl (.int .i64))]) (mcA true) (fun _=>True) (fun ce hce=>by
  obtain⟨m,e,_⟩:=xA1 hce;exact⟨m,e,trivial⟩) L (fun ce hce=>by simp only[Ty.Sh,Ty.ShL];exact hL ce hce)
 obtain⟨bs,h2,_⟩:=z02 (w:=true) (.st [.int .i64,.int .i64,.int .i64,.int .i64]) btA (fun _=>True) (fun ce hce=>xt0 hce) M (fun ce hce=>by simp only[Ty.Sh,Ty.ShL];exact hM ce hce)
 exact⟨⟨x,ms,bs,y⟩,by rw[h1,h2];rfl⟩
end Go.Proofs.YtcppaddgclkekaaGreat
namespace Go.Proofs.YtcppaddgclkekaaGreat
open Go Go.Lft
set_option linter.unusedSimpArgs false
set_option linter.unusedVariables false
attribute [local congr] Q7 Q8 Q9 za1 Z9 Y0 za2 Y2 Y3 Y4 za3 za0
end Go.Proofs.YtcppaddgclkekaaGreat
namespace Go.Proofs.YtcppaddgclkekaaGreat
open Go Go.Lft
set_option linter.unusedSimpArgs false
set_option linter.unusedVariables false
structure DvR(t:Int)(r:List Int)(f:Nat)(D:List Int):Prop where
 len:D.length=r.length
 sum:D.sum=t
 nn:∀i,i<r.length→0≤D.getD i 0
 zero:∀i,i<r.length→r.getD i 0=0→D.getD i 0=0
 first:0<t→1≤D.getD f 0
 near:∀i,i<r.length→let most:=if 1000≤t*r.getD f 0 then 1000 else 2000;-most<D.getD i 0*1000-t*r.getD i 0∧D.getD i 0*1000-t*r.getD i 0<most
 thou:t % 1000=0→∀i,i<r.length→D.getD i 0=t / 1000*r.getD i 0
theorem y9A{t:Int}{r p:List Int}{f:Nat}(ht:0≤t)(hr:∀i,i<r.length→0≤r.getD i 0∧r.getD i 0≤1000)(hs:r.sum=1000)(hne:r≠[])(hf:f<r.length)(hf0:0<r.getD f 0)(h:SpR t r p):DvR t r f (divR p f t):=by
 have hl:=h.len
 have htwo:=h.two
 rw[hs]at htwo
 have hn:∀i,i<r.length→0≤t*r.getD i 0:=fun i hi=>Int.mul_nonneg ht (hr i hi).1
 have hp0:∀i,i<r.length→0≤p.getD i 0:=fun i hi=>by
  have:=hn i hi
  rcases htwo i hi with h1|⟨h1,_⟩<;>omega
 have hz:∀i,i<r.length→r.getD i 0=0→p.getD i 0=0:=fun i hi h0=>by
  rcases htwo i hi with h1|⟨h1,h2⟩
  ·rw[h1,h0];simp
  ·rw[h0]at h2;simp at h2
 have hnear:∀i,i<r.length→-1000<p.getD i 0*1000-t*r.getD i 0∧p.getD i 0*1000-t*r.getD i 0<1000:=fun i hi=>by
  rcases htwo i hi with h1|⟨h1,h2⟩<;>omega
 by_cases hc:t=0∨0<p.getD f 0
 ·have hd:divR p f t=p:=by unfold divR;rw[if_pos hc]
  rw[hd]
  refine⟨hl,h.sum,hp0,hz,fun h0=>by omega,fun i hi=>?_,fun hm i hi=>?_⟩
  ·have:=hnear i hi
   simp only
   split<;>omega
  ·have e : t * r.getD i 0 = 1000 * (t / 1000 * r.getD i 0) := by
    rw[← Int.mul_assoc];congr 1;omega
   rcases htwo i hi with h1|⟨h1,h2⟩
   ·rw[h1,e];omega
   ·rw[e]at h2;omega
 ·have ht1:0<t:=by omega
  have hpf:p.getD f 0=0:=by have:=hp0 f hf;omega
  have hb:=z9C h ht1 hne
  have hbl:zc6 p<p.length:=zy8 p p.length (by rw[hl];omega)
  have hbf:zc6 p≠f:=by intro hh;rw[hh]at hb;omega
  have hd:divR p f t=(p.set (zc6 p) (p.getD (zc6 p) 0-1)).set f 1:=by unfold divR;rw[if_neg hc]
  have hg:∀i,i<r.length→(divR p f t).getD i 0=if i=f then 1 else if i=zc6 p then p.getD (zc6 p) 0-1 else p.getD i 0:=fun i hi=>by
   rw[hd,X5,X5]
   by_cases h1:i=f
   ·rw[if_pos h1,if_pos ⟨h1.symm,by simp only[List.length_set];omega⟩]
   ·rw[if_neg h1,if_neg (fun h=>h1 h.1.symm)]
    by_cases h2:i=zc6 p
    ·rw[if_pos h2,if_pos ⟨h2.symm,by omega⟩]
    ·rw[if_neg h2,if_neg (fun h=>h2 h.1.symm)]
  have hq:t*r.getD f 0<1000:=by
   have:=hn f hf
   rcases htwo f hf with h1|⟨h1,_⟩<;>omega
  have hbz:r.getD (zc6 p) 0≠0:=fun h0=>by have:=hz (zc6 p) (by omega) h0;omega
  refine⟨by rw[z7P,hl],?_,fun i hi=>?_,fun i hi h0=>?_,fun _=>?_,fun i hi=>?_,fun hm i hi=>?_⟩
  ·rw[hd,z1f _ _ _ (by simp only[List.length_set];omega),z1f _ _ _ hbl,X5,if_neg (fun h=>hbf h.1),hpf,h.sum];omega
  ·rw[hg i hi]
   have:=hp0 i hi
   split
   ·omega
   ·split<;>omega
  ·rw[hg i hi]
   have:=hz i hi h0
   split
   ·rename_i h1;subst h1;omega
   ·split
    ·rename_i h1;subst h1;exact(hbz h0).elim
    ·exact this
  ·rw[hg f hf,if_pos rfl];omega
  ·have h1:=hnear i hi
   have h2:=hn i hi
   simp only
   rw[if_neg (by omega),hg i hi]
   split
   ·rename_i h3;subst h3;omega
   ·split
    ·rename_i h3;subst h3;omega
    ·omega
  ·exfalso
   have:1000≤t:=by omega
   have:1000*1≤t*r.getD f 0:=Int.mul_le_mul this (by omega) (by omega) (by omega)
   omega
theorem yK1{m:Mc}{mat:Int}(h:MOk m mat)(ho:y3 m≠0){k:Nat}(hk:k<m.length){t:Int}(ht:0≤t∧t≤1073741824):DvR t (m.getD k []) (zf0 m k).toNat (divM m k t):=by
 obtain⟨h1,h2,h3,h4,h5⟩:=zn6 h ho hk ht
 have hlen:=h.len
 obtain⟨g1,g2,g3⟩:=z4O h ho (k:=k) (by omega) (by omega)
 have ok:=zB7 h1
 rw[Int.toNat_natCast]at g3
 exact y9A ht.1 h5 h2 ok.sp.ne (by omega) g3 (z4R ok.sp)
theorem y9B{m:Mc}{mat:Int}(h:MOk m mat)(ho:y3 m≠0){k:Nat}(hk:k<m.length){t:Int}(ht:0≤t∧t≤1073741824):∀i,i<y3 m→0≤(divM m k t).getD i 0∧(divM m k t).getD i 0≤t:=fun i hi=>by
 have d:=yK1 h ho hk ht
 have hl:=(zn6 h ho hk ht).2.2.1
 have h0:=d.nn i (by omega)
 refine⟨h0,?_⟩
 have:=z7M ((List.replicate (divM m k t).length 0).set i ((divM m k t).getD i 0)) (divM m k t) (by simp) fun l hl2=>by
  simp only[List.length_set,List.length_replicate]at hl2
  rw[X5]
  split
  ·rename_i hc;rw[hc.1];exact Int.le_refl _
  ·have:=d.nn l (by rw[← d.len];exact hl2)
   simpa [List.getD_eq_getElem?_getD,hl2]using this
 have z1:(List.replicate (divM m k t).length (0:Int)).sum=0:=by simp
 have z2:(List.replicate (divM m k t).length (0:Int)).getD i 0=0:=by
  rw[List.getD_eq_getElem?_getD,List.getElem?_replicate];split<;>rfl
 rw[z1f _ _ _ (by simp only[List.length_replicate];rw[d.len];omega),d.sum,z1,z2]at this
 omega
end Go.Proofs.YtcppaddgclkekaaGreat
namespace Go.Proofs.YtcppaddgclkekaaGreat
open Go Go.Lft
set_option linter.unusedSimpArgs false
set_option linter.unusedVariables false
attribute [local congr] Q7 Q8 Q9 za1 Z9 Y0 za2 Y2 Y3 Y4 za3 za0
theorem yq4{m:Mc}{xs:List Int}(h:msE m xs=0):MOk m xs.length∧y3 m≠0∧∀i,i<xs.length→0≤xs.getD i 0∧xs.getD i 0≤1073741824:=by
 unfold msE at h
 split at h
 ·contradiction
 rename_i h1
 split at h
 ·cases h
 rename_i h2
 split at h
 ·cases h
 rename_i h3
 exact⟨zN7 (Classical.not_not.1 h1),h3,fun i hi=>z9F (zi1 (Classical.not_not.1 h2) _ (zg0 hi))⟩
theorem y4D(m:Mc)(xs:List Int){o i:Nat}(ho:o<y3 m)(hi:i<xs.length):((msM m xs).getD o []).getD i 0=(divM m i (xs.getD i 0)).getD o 0:=by
 unfold msM
 rw[z9D _ _ _ _ ho,yJ4 _ _ _ hi]
theorem y4E(m:Mc)(xs:List Int){o:Nat}(ho:o<y3 m):((msM m xs).getD o []).length=xs.length:=by
 unfold msM
 rw[z9D _ _ _ _ ho,y4g]
theorem yC7{m:Mc}{xs:List Int}(h:msE m xs=0):zO3 m xs=.tup [.fs true (rows true (msM m xs)),.v (.int .i64 0)]:=by unfold zO3;rw[if_neg (by omega),h]
theorem y4F{w v:Bool}(p:Pl)(m:Int):VR P false z6D [plA w v p,.v (.int .i64 m)] [] (isR (.v (.bool (decide (0≤m∧m<p.ms.length))))):=by
 refine yn3 (by simp) (.inr rfl) fun _ _=>?_
 unfold plA plC
 simp (disch:=(try simp only[lZ]);omega) only[aZ,aM,z0y,z6F,yy9]
 exact y1 ⟨rfl,rfl⟩
theorem y8t{w v:Bool}(p:Pl)(m:Int)(h0:0≤m)(h1:m<p.ms.length):VR P false z0z [plA w v p,.v (.int .i64 m)] [] (isR (.v (.bool (decide (binN p m.toNat))))):=by
 refine yn4 (by simp) (.inr rfl) fun _ _=>?_
 unfold plA plC
 simp (disch:=(try simp only[lZ]);omega) only[aZ,aM,z0A,z6H]
 refine(W5 (w:=w) (p.ms.getD m.toNat [])).same (by simp (disch:=first|omega|simp (disch:=omega) only[aG,aM]) only[fZ,aM]) rfl (z7 ?_)
 simp (disch:=(try simp only[lZ]);omega) only[aZ,aM,yz0]
 exact y1 ⟨vdec (by unfold binN;omega),rfl⟩
theorem y6o(b:Bt)(m o:Int):VR P false zB0 [btA b,.fp false [.v (.int .i64 m)],.fp false [.v (.int .i64 o)]] [] (isR (.v (.bool (decide (isB m o b))))):=by
 refine z7x (by simp) (.inr rfl) fun _ _=>?_
 unfold btA btC
 simp (disch:=(try simp only[lZ]);omega) only[aZ,aM,zB1,z0M,z9h]
 exact y1 ⟨vdec (by unfold isB;exact Iff.rfl),rfl⟩
theorem z4V{bs:List Bt}{m o:Int}{k:Nat}(hk:k<bs.length)(hb:∀i,i<k→¬isB m o (bs.getD i b0))(hp:isB m o (bs.getD k b0)):zg2 bs m o=k:=zH3 (p:=isB m o) b0 hk hb hp
theorem yj3{bs:List Bt}{m o:Int}(hb:∀i,i<bs.length→¬isB m o (bs.getD i b0)):zg2 bs m o=-1:=zn4 (p:=isB m o) b0 hb
theorem yq5{v:Bool}(bs:List Bt)(hl:bs.length<1000000000)(m o:Int):VR P false W7 [.fs v (bts bs),.fn zB0 [.fp false [.v (.int .i64 m)],.fp false [.v (.int .i64 o)]]] [] (isR (.v (.int .i64 (zg2 bs m o)))):=by
 refine zj1 (by simp) (.inr rfl) fun _ _=>?_
 simp (disch:=(try simp only[lZ]);omega) only[aZ,aM,Z0,W9]
 refine AWP.loopP zi6 (fun k:Nat=>k≤bs.length∧∀i,i<k→¬isB m o (bs.getD i b0)) (fun k=>[(2,.v (.int .i64 0)),(3,.v (.int .i64 k))]) (fun _=>[]) (fun k=>bs.length-k) 0 ⟨by omega,fun i hi=>by omega⟩ (by refine Cut.of' (0) ?_ (by omega) ?_ ?_<;>simp (disch:=first|omega|simp (disch:=omega) only[aG,aM]) only[fZ,aM]) ?_
 rintro k ⟨hk,hb⟩
 by_cases hlt:k<bs.length
 ·simp (disch:=(try simp only[lZ]);omega) only[aZ,aM]
  refine⟨by kernel_rfl,?_⟩
  refine(y6o (bs.getD k b0) m o).same (by unfold btA btC;simp (disch:=first|omega|simp (disch:=omega) only[aG,aM]) only[fZ,aM]) rfl (z7 ?_)
  simp (disch:=(try simp only[lZ]);omega) only[aZ,aM]
  refine y2 (fun h3=>?_) (fun h3=>?_)
  ·simp (disch:=(try simp only[lZ]);omega) only[aZ,aM,Q3]
   exact y1 ⟨by rw[z4V hlt hb h3],rfl⟩
  ·simp (disch:=(try simp only[lZ]);omega) only[aZ,aM]
   refine⟨k+1,⟨by omega,fun i hi=>?_⟩,by omega,(by refine Cut.of' (0) ?_ (by omega) ?_ ?_<;>simp (disch:=first|omega|simp (disch:=omega) only[aG,aM]) only[fZ,aM])⟩
   rcases Nat.lt_succ_iff_lt_or_eq.1 hi with h|rfl
   ·exact hb i h
   ·exact h3
 ·simp (disch:=(try simp only[lZ]);omega) only[aZ,aM,Q3]
  exact y1 ⟨by rw[yj3 fun i hi=>hb i (by omega)],rfl⟩
theorem yq6{w v:Bool}(p:Pl)(hl:p.bs.length<1000000000)(m o:Int):VR P false z4t [plA w v p,.v (.int .i64 m),.v (.int .i64 o)] [] (isR (.v (.int .i64 (zg2 p.bs m o)))):=by
 refine ye5 (by simp) (.inr rfl) fun _ _=>?_
 unfold plA plC
 simp (disch:=(try simp only[lZ]);omega) only[aZ,aM,zS0,z4v]
 refine(yq5 (v:=v) p.bs hl m o).use ⟨Ld.refl (by simp (disch:=first|omega|simp (disch:=omega) only[aG,aM]) only[fZ,aM]),Ld.fn ⟨Ld.lp (o:=0) rfl (LdL.refl rfl) (by simp),Ld.lp (o:=0) rfl (LdL.refl rfl) (by simp),trivial⟩,trivial⟩ rfl (z7 ?_)
 simp (disch:=(try simp only[lZ]);omega) only[aZ,aM,yn7]
 exact y1 ⟨rfl,rfl⟩
theorem yZ9{w v:Bool}(p:Pl)(hl:p.bs.length<1000000000)(m o:Int):VR P false z4e [plA w v p,.v (.int .i64 m),.v (.int .i64 o)] [] (isR (.v (.int .i64 (zg2 p.bs m o)))):=by
 refine ye1 (by simp) (.inr rfl) fun _ _=>?_
 unfold plA plC
 simp (disch:=(try simp only[lZ]);omega) only[aZ,aM,zR5,z4g]
 refine AWP.loopP z83 (fun k:Nat=>k≤p.bs.length∧∀i,i<k→¬isB m o (p.bs.getD i b0)) (fun k=>[(3,.v (.int .i64 0)),(4,.v (.int .i64 k))]) (fun _=>[]) (fun k=>p.bs.length-k) 0 ⟨by omega,fun i hi=>by omega⟩ (by refine Cut.of' (1) ?_ (by omega) ?_ ?_<;>simp (disch:=first|omega|simp (disch:=omega) only[aG,aM]) only[fZ,aM]) ?_
 rintro k ⟨hk,hb⟩
 by_cases hlt:k<p.bs.length
 ·simp (disch:=(try simp only[lZ]);omega) only[aZ,aM]
  refine y2 (fun h3=>?_) (fun h3=>?_)
  ·simp (disch:=(try simp only[lZ]);omega) only[aZ,aM,z4h]
   exact y1 ⟨by rw[z4V hlt hb h3],rfl⟩
  ·simp (disch:=(try simp only[lZ]);omega) only[aZ,aM]
   refine⟨k+1,⟨by omega,fun i hi=>?_⟩,by omega,(by refine Cut.of' (1) ?_ (by omega) ?_ ?_<;>simp (disch:=first|omega|simp (disch:=omega) only[aG,aM]) only[fZ,aM])⟩
   rcases Nat.lt_succ_iff_lt_or_eq.1 hi with h|rfl
   ·exact hb i h
   ·exact h3
 ·simp (disch:=(try simp only[lZ]);omega) only[aZ,aM,z4h]
  exact y1 ⟨by rw[yj3 fun i hi=>hb i (by omega)],rfl⟩
theorem zz4{ms:List Mc}{b:Bt}(h:b.fr<0∨(ms.length:Int)≤b.fr∨b.ot<0∨(y3 (ms.getD b.fr.toNat []):Int)≤b.ot∨b.to<0∨(ms.length:Int)≤b.to):zw2 ms b=7:=by unfold zw2;rw[if_pos h]
theorem z9J{ms:List Mc}{b:Bt}(h:¬(b.fr<0∨(ms.length:Int)≤b.fr∨b.ot<0∨(y3 (ms.getD b.fr.toNat []):Int)≤b.ot∨b.to<0∨(ms.length:Int)≤b.to))(h2:b.ln<1∨16<b.ln):zw2 ms b=1:=by unfold zw2;rw[if_neg h,if_pos h2]
theorem yj4{ms:List Mc}{b:Bt}(h:¬(b.fr<0∨(ms.length:Int)≤b.fr∨b.ot<0∨(y3 (ms.getD b.fr.toNat []):Int)≤b.ot∨b.to<0∨(ms.length:Int)≤b.to))(h2:¬(b.ln<1∨16<b.ln)):zw2 ms b=0:=by unfold zw2;rw[if_neg h,if_neg h2]
theorem y9C{w v:Bool}(p:Pl)(b:Bt):VR P false z4q [plA w v p,btA b] [] (isR (.v (.int .i64 (zw2 p.ms b)))):=by
 refine ye4 (by simp) (.inr rfl) fun _ _=>?_
 unfold btA btC plA plC
 simp (disch:=(try simp only[lZ]);omega) only[aZ,aM,zR9,z4s]
 refine(y4F (w:=w) (v:=v) p b.fr).same (by simp (disch:=first|omega|simp (disch:=omega) only[aG,aM]) only[fZ,aM]) rfl (z7 ?_)
 by_cases h1:0≤b.fr∧b.fr<p.ms.length
 ·simp (disch:=(try simp only[lZ]);omega) only[aZ,aM,decide_eq_true h1]
  by_cases h2:b.ot<0
  ·simp (disch:=(try simp only[lZ]);omega) only[aZ,aM,zi0]
   exact y1 ⟨by rw[zz4 (by omega)],rfl⟩
  ·simp (disch:=(try simp only[lZ]);omega) only[aZ,aM]
   refine(W5 (w:=w) (p.ms.getD b.fr.toNat [])).same (by simp (disch:=first|omega|simp (disch:=omega) only[aG,aM]) only[fZ,aM]) rfl (z7 ?_)
   simp (disch:=(try simp only[lZ]);omega) only[aZ,aM]
   by_cases h3:(y3 (p.ms.getD b.fr.toNat []):Int)≤b.ot
   ·simp (disch:=(try simp only[lZ]);omega) only[aZ,aM,zi0]
    exact y1 ⟨by rw[zz4 (by omega)],rfl⟩
   ·simp (disch:=(try simp only[lZ]);omega) only[aZ,aM]
    refine(y4F (w:=w) (v:=v) p b.to).same (by simp (disch:=first|omega|simp (disch:=omega) only[aG,aM]) only[fZ,aM]) rfl (z7 ?_)
    by_cases h4:0≤b.to∧b.to<p.ms.length
    ·have hn:¬(b.fr<0∨(p.ms.length:Int)≤b.fr∨b.ot<0∨(y3 (p.ms.getD b.fr.toNat []):Int)≤b.ot∨b.to<0∨(p.ms.length:Int)≤b.to):=by omega
     simp (disch:=(try simp only[lZ]);omega) only[aZ,aM,decide_eq_true h4]
     refine y2 (fun h5=>?_) (fun h5=>?_)
     ·simp (disch:=(try simp only[lZ]);omega) only[aZ,aM,zi0]
      exact y1 ⟨by rw[z9J hn h5],rfl⟩
     ·simp (disch:=(try simp only[lZ]);omega) only[aZ,aM,zi0]
      exact y1 ⟨by rw[yj4 hn h5],rfl⟩
    ·simp (disch:=(try simp only[lZ]);omega) only[aZ,aM,decide_eq_false h4,zi0]
     exact y1 ⟨by rw[zz4 (by omega)],rfl⟩
 ·simp (disch:=(try simp only[lZ]);omega) only[aZ,aM,decide_eq_false h1,zi0]
  exact y1 ⟨by rw[zz4 (by omega)],rfl⟩
def z9K(ms:List Mc)(bs:List Bt):Int:=if zi3 ms bs≠0 then zi3 ms bs else if yf6 ms bs then 3 else 0
theorem yj5{ms:List Mc}{bs:List Bt}{k:Nat}(hk:k<bs.length)(hb:∀i,i<k→zw2 ms (bs.getD i b0)=0)(hn:zw2 ms (bs.getD k b0)≠0):zi3 ms bs=zw2 ms (bs.getD k b0):=by
 have:=za7 (f:=zw2 ms) b0 hk hb hn
 unfold zi3;rw[this,if_pos hn]
theorem z62{ms:List Mc}{bs:List Bt}(hb:∀i,i<bs.length→zw2 ms (bs.getD i b0)=0)(ht:y4c bs):zi3 ms bs=6:=by
 have:=w7 (f:=zw2 ms) b0 hb
 unfold zi3;rw[this,if_neg (by omega),if_pos ht]
theorem z9L{ms:List Mc}{bs:List Bt}(hb:∀i,i<bs.length→zw2 ms (bs.getD i b0)=0)(ht:¬y4c bs):zi3 ms bs=0:=by
 have:=w7 (f:=zw2 ms) b0 hb
 unfold zi3;rw[this,if_neg (by omega),if_neg ht]
theorem z53{ms:List Mc}{bs:List Bt}(h:zi3 ms bs≠0):z9K ms bs=zi3 ms bs:=by unfold z9K;rw[if_pos h]
theorem z9M{ms:List Mc}{bs:List Bt}(h:zi3 ms bs=0)(h2:yf6 ms bs):z9K ms bs=3:=by unfold z9K;rw[if_neg (by omega),if_pos h2]
theorem z9N{ms:List Mc}{bs:List Bt}(h:zi3 ms bs=0)(h2:¬yf6 ms bs):z9K ms bs=0:=by unfold z9K;rw[if_neg (by omega),if_neg h2]
theorem xt2{m:Mc}{mat:Int}(h:w5 m mat=0):y3 m≤4:=by
 have hmk:=zN7 h
 rcases yX1 (m:=m)with h|h
 ·omega
 ·exact(hmk.row _ (x3 [] h)).2.1
theorem y6p{w v:Bool}(p:Pl)(hl:p.bs.length≤48)(hm:p.ms.length≤24)(h4:∀i,i<p.ms.length→y3 (p.ms.getD i [])≤4):VR P false z2b [plA w v p] [] (isR (.v (.int .i64 (z9K p.ms p.bs)))):=by
 refine z8Y (by simp) (.inr rfl) fun _ _=>?_
 unfold plA plC
 simp (disch:=(try simp only[lZ]);omega) only[aZ,aM,zJ2,z2d]
 refine AWP.loopP z7p (fun k:Nat=>k≤p.bs.length∧∀i,i<k→zw2 p.ms (p.bs.getD i b0)=0) (fun k=>[(1,.v (.int .i64 0)),(3,.v (.int .i64 k))]) (fun _=>[]) (fun k=>p.bs.length-k) 0 ⟨by omega,fun i hi=>by omega⟩ (by refine Cut.of' (1) ?_ (by omega) ?_ ?_<;>simp (disch:=first|omega|simp (disch:=omega) only[aG,aM]) only[fZ,aM]) ?_
 rintro k ⟨hk,hb⟩
 by_cases hlt:k<p.bs.length
 ·simp (disch:=(try simp only[lZ]);omega) only[aZ,aM]
  refine(y9C (w:=w) (v:=v) p (p.bs.getD k b0)).same (by unfold plA plC btA btC;simp (disch:=first|omega|simp (disch:=omega) only[aG,aM]) only[fZ,aM]) rfl (z7 ?_)
  simp (disch:=(try simp only[lZ]);omega) only[aZ,aM]
  refine y2 (fun h3=>?_) (fun h3=>?_)
  ·simp (disch:=(try simp only[lZ]);omega) only[aZ,aM,zr3]
   have h4:=yj5 hlt hb h3
   exact y1 ⟨by rw[z53 (by omega),h4],rfl⟩
  ·simp (disch:=(try simp only[lZ]);omega) only[aZ,aM]
   refine⟨k+1,⟨by omega,fun i hi=>?_⟩,by omega,(by refine Cut.of' (1) ?_ (by omega) ?_ ?_<;>simp (disch:=first|omega|simp (disch:=omega) only[aG,aM]) only[fZ,aM])⟩
   rcases Nat.lt_succ_iff_lt_or_eq.1 hi with h|rfl
   ·exact hb i h
   ·exact Classical.not_not.1 h3
 have hb:∀i,i<p.bs.length→zw2 p.ms (p.bs.getD i b0)=0:=fun i hi=>hb i (by omega)
 simp (disch:=(try simp only[lZ]);omega) only[aZ,aM]
 refine AWP.loopP z7q (fun k:Nat=>k≤p.bs.length∧∀i,i<k→zg2 p.bs (p.bs.getD i b0).fr (p.bs.getD i b0).ot=i) (fun k=>[(1,.v (.int .i64 0)),(9,.v (.int .i64 k))]) (fun _=>[]) (fun k=>p.bs.length-k) 0 ⟨by omega,fun i hi=>by omega⟩ (by refine Cut.of' (1) ?_ (by omega) ?_ ?_<;>simp (disch:=first|omega|simp (disch:=omega) only[aG,aM]) only[fZ,aM]) ?_
 rintro k ⟨hk,hu⟩
 by_cases hlt:k<p.bs.length
 ·simp (disch:=(try simp only[lZ]);omega) only[aZ,aM]
  refine(yq6 (w:=w) (v:=v) p (by omega) (p.bs.getD k b0).fr (p.bs.getD k b0).ot).same (by unfold plA plC;simp (disch:=first|omega|simp (disch:=omega) only[aG,aM]) only[fZ,aM]) rfl (z7 ?_)
  simp (disch:=(try simp only[lZ]);omega) only[aZ,aM]
  refine y2 (fun h3=>?_) (fun h3=>?_)
  ·simp (disch:=(try simp only[lZ]);omega) only[aZ,aM,zr3]
   have h4:=z62 hb ⟨k,hlt,h3⟩
   exact y1 ⟨by rw[z53 (by omega),h4],rfl⟩
  ·simp (disch:=(try simp only[lZ]);omega) only[aZ,aM]
   refine⟨k+1,⟨by omega,fun i hi=>?_⟩,by omega,(by refine Cut.of' (1) ?_ (by omega) ?_ ?_<;>simp (disch:=first|omega|simp (disch:=omega) only[aG,aM]) only[fZ,aM])⟩
   rcases Nat.lt_succ_iff_lt_or_eq.1 hi with h|rfl
   ·exact hu i h
   ·exact Classical.not_not.1 h3
 have hf:=z9L hb fun⟨i,h1,h2⟩=>h2 (hu i (by omega))
 simp (disch:=(try simp only[lZ]);omega) only[aZ,aM]
 refine AWP.loopP z7r (fun k:Nat=>k≤p.ms.length∧∀i,i<k→∀o,o<y3 (p.ms.getD i [])→0≤zg2 p.bs i o) (fun k=>[(1,.v (.int .i64 0)),(15,.v (.int .i64 k))]) (fun _=>[]) (fun k=>p.ms.length-k) 0 ⟨by omega,fun i hi=>by omega⟩ (by refine Cut.of' (1) ?_ (by omega) ?_ ?_<;>simp (disch:=first|omega|simp (disch:=omega) only[aG,aM]) only[fZ,aM]) ?_
 rintro k ⟨hk,hu2⟩
 by_cases hlt:k<p.ms.length
 ·have hk4:=h4 k hlt
  simp (disch:=(try simp only[lZ]);omega) only[aZ,aM]
  refine(W5 (w:=w) (p.ms.getD k [])).same (by unfold mcA mcC;simp (disch:=first|omega|simp (disch:=omega) only[aG,aM]) only[fZ,aM]) rfl (z7 ?_)
  simp (disch:=(try simp only[lZ]);omega) only[aZ,aM]
  refine AWP.loopP z7s (fun o:Nat=>o≤y3 (p.ms.getD k [])∧∀i,i<o→0≤zg2 p.bs k i) (fun o=>[(1,.v (.int .i64 0)),(21,.v (.int .i64 o))]) (fun _=>[]) (fun o=>y3 (p.ms.getD k [])-o) 0 ⟨by omega,fun i hi=>by omega⟩ (by refine Cut.of' (2) ?_ (by omega) ?_ ?_<;>simp (disch:=first|omega|simp (disch:=omega) only[aG,aM]) only[fZ,aM]) ?_
  rintro o ⟨ho,hv⟩
  by_cases hol:o<y3 (p.ms.getD k [])
  ·simp (disch:=(try simp only[lZ]);omega) only[aZ,aM]
   refine(yq6 (w:=w) (v:=v) p (by omega) k o).same (by unfold plA plC;simp (disch:=first|omega|simp (disch:=omega) only[aG,aM]) only[fZ,aM]) rfl (z7 ?_)
   simp (disch:=(try simp only[lZ]);omega) only[aZ,aM]
   refine y2 (fun h3=>?_) (fun h3=>?_)
   ·simp (disch:=(try simp only[lZ]);omega) only[aZ,aM,zr3]
    exact y1 ⟨by rw[z9M hf ⟨k,hlt,o,hol,h3⟩],rfl⟩
   ·simp (disch:=(try simp only[lZ]);omega) only[aZ,aM]
    refine⟨o+1,⟨by omega,fun i hi=>?_⟩,by omega,(by refine Cut.of' (2) ?_ (by omega) ?_ ?_<;>simp (disch:=first|omega|simp (disch:=omega) only[aG,aM]) only[fZ,aM])⟩
    rcases Nat.lt_succ_iff_lt_or_eq.1 hi with h|rfl
    ·exact hv i h
    ·omega
  ·simp (disch:=(try simp only[lZ]);omega) only[aZ,aM]
   refine⟨k+1,⟨by omega,fun i hi=>?_⟩,by omega,(by refine Cut.of' (1) ?_ (by omega) ?_ ?_<;>simp (disch:=first|omega|simp (disch:=omega) only[aG,aM]) only[fZ,aM])⟩
   rcases Nat.lt_succ_iff_lt_or_eq.1 hi with h|rfl
   ·exact hu2 i h
   ·intro o' ho';exact hv o' (by omega)
 ·simp (disch:=(try simp only[lZ]);omega) only[aZ,aM,zr3]
  refine y1 ⟨?_,rfl⟩
  rw[z9N hf]
  rintro⟨i,h1,o,h2,h3⟩
  have:=hu2 i (by omega) o h2
  omega
theorem yK2{w v:Bool}(p:Pl)(hl:p.bs.length≤48)(hm:p.ms.length≤24):VR P false z4b [plA w v p] [] (isR (.v (.int .i64 (zi3 p.ms p.bs)))):=by
 refine ye0 (by simp) (.inr rfl) fun _ _=>?_
 unfold plA plC
 simp (disch:=(try simp only[lZ]);omega) only[aZ,aM,zR4,z4d]
 refine AWP.loopP z80 (fun k:Nat=>k≤p.bs.length∧∀i,i<k→zw2 p.ms (p.bs.getD i b0)=0) (fun k=>[(1,.v (.int .i64 0)),(2,.v (.int .i64 k))]) (fun _=>[]) (fun k=>p.bs.length-k) 0 ⟨by omega,fun i hi=>by omega⟩ (by refine Cut.of' (1) ?_ (by omega) ?_ ?_<;>simp (disch:=first|omega|simp (disch:=omega) only[aG,aM]) only[fZ,aM]) ?_
 rintro k ⟨hk,hb⟩
 by_cases hlt:k<p.bs.length
 ·have next : zw2 p.ms (p.bs.getD k b0) = 0 → ∀ i, i < k + 1 → zw2 p.ms (p.bs.getD i b0) = 0 := fun h3 i hi => by
   rcases Nat.lt_succ_iff_lt_or_eq.1 hi with h|rfl
   ·exact hb i h
   ·exact h3
  have hit:=yj5 (ms:=p.ms) hlt hb
  generalize hbk:p.bs.getD k b0=b at next hit
  by_cases h1:(b.fr<0∨(p.ms.length:Int)≤b.fr)∨b.ot<0
  ·have h4:=zz4 (ms:=p.ms) (b:=b) (by omega)
   simp (disch:=(try simp only[lZ]);omega) only[aZ,aM,hbk,zm6]
   exact y1 ⟨by rw[hit (by omega),h4],rfl⟩
  ·simp (disch:=(try simp only[lZ]);omega) only[aZ,aM,hbk]
   refine(zf1 (w:=w) (p.ms.getD b.fr.toNat [])).same (by unfold mcA mcC;simp (disch:=first|omega|simp (disch:=omega) only[aG,aM]) only[fZ,aM]) rfl (z7 ?_)
   simp (disch:=(try simp only[lZ]);omega) only[aZ,aM]
   refine y2 (fun h2=>?_) (fun h2=>?_)
   ·have h4:=zz4 (ms:=p.ms) (b:=b) (by omega)
    simp (disch:=(try simp only[lZ]);omega) only[aZ,aM,zm6]
    exact y1 ⟨by rw[hit (by omega),h4],rfl⟩
   ·have hn:¬(b.fr<0∨(p.ms.length:Int)≤b.fr∨b.ot<0∨(y3 (p.ms.getD b.fr.toNat []):Int)≤b.ot∨b.to<0∨(p.ms.length:Int)≤b.to):=by omega
    simp (disch:=(try simp only[lZ]);omega) only[aZ,aM]
    refine y2 (fun h5=>?_) (fun h5=>?_)
    ·have h4:=z9J hn h5
     simp (disch:=(try simp only[lZ]);omega) only[aZ,aM,zm6]
     exact y1 ⟨by rw[hit (by omega),h4],rfl⟩
    ·simp (disch:=(try simp only[lZ]);omega) only[aZ,aM]
     exact⟨k+1,⟨by omega,next (yj4 hn h5)⟩,by omega,(by refine Cut.of' (1) ?_ (by omega) ?_ ?_<;>simp (disch:=first|omega|simp (disch:=omega) only[aG,aM]) only[fZ,aM])⟩
 have hb:∀i,i<p.bs.length→zw2 p.ms (p.bs.getD i b0)=0:=fun i hi=>hb i (by omega)
 simp (disch:=(try simp only[lZ]);omega) only[aZ,aM]
 refine AWP.loopP z81 (fun k:Nat=>k≤p.bs.length∧∀i,i<k→zg2 p.bs (p.bs.getD i b0).fr (p.bs.getD i b0).ot=i) (fun k=>[(1,.v (.int .i64 0)),(5,.v (.int .i64 k))]) (fun _=>[]) (fun k=>p.bs.length-k) 0 ⟨by omega,fun i hi=>by omega⟩ (by refine Cut.of' (1) ?_ (by omega) ?_ ?_<;>simp (disch:=first|omega|simp (disch:=omega) only[aG,aM]) only[fZ,aM]) ?_
 rintro k ⟨hk,hu⟩
 by_cases hlt:k<p.bs.length
 ·simp (disch:=(try simp only[lZ]);omega) only[aZ,aM]
  refine AWP.loopP z82 (fun j:Nat=>j≤k∧∀i,i<j→¬isB (p.bs.getD k b0).fr (p.bs.getD k b0).ot (p.bs.getD i b0)) (fun j=>[(1,.v (.int .i64 0)),(6,.v (.int .i64 j))]) (fun _=>[]) (fun j=>k-j) 0 ⟨by omega,fun i hi=>by omega⟩ (by refine Cut.of' (1) ?_ (by omega) ?_ ?_<;>simp (disch:=first|omega|simp (disch:=omega) only[aG,aM]) only[fZ,aM]) ?_
  rintro j ⟨hj,hv⟩
  by_cases hjl:j<k
  ·simp (disch:=(try simp only[lZ]);omega) only[aZ,aM]
   refine y2 (fun h3=>?_) (fun h3=>?_)
   ·have hf:zg2 p.bs (p.bs.getD k b0).fr (p.bs.getD k b0).ot=j:=z4V (by omega) hv ⟨h3.1.symm,h3.2.symm⟩
    have ht:=z62 hb ⟨k,hlt,by omega⟩
    simp (disch:=(try simp only[lZ]);omega) only[aZ,aM,zm6]
    exact y1 ⟨by rw[ht],rfl⟩
   ·simp (disch:=(try simp only[lZ]);omega) only[aZ,aM]
    refine⟨j+1,⟨by omega,fun i hi=>?_⟩,by omega,(by refine Cut.of' (1) ?_ (by omega) ?_ ?_<;>simp (disch:=first|omega|simp (disch:=omega) only[aG,aM]) only[fZ,aM])⟩
    rcases Nat.lt_succ_iff_lt_or_eq.1 hi with h|rfl
    ·exact hv i h
    ·exact fun h=>h3 ⟨h.1.symm,h.2.symm⟩
  ·simp (disch:=(try simp only[lZ]);omega) only[aZ,aM]
   refine⟨k+1,⟨by omega,fun i hi=>?_⟩,by omega,(by refine Cut.of' (1) ?_ (by omega) ?_ ?_<;>simp (disch:=first|omega|simp (disch:=omega) only[aG,aM]) only[fZ,aM])⟩
   rcases Nat.lt_succ_iff_lt_or_eq.1 hi with h|rfl
   ·exact hu i h
   ·exact z4V hlt (fun l hl=>hv l (by omega)) ⟨rfl,rfl⟩
 ·have hf:=z9L hb fun⟨i,h1,h2⟩=>h2 (hu i (by omega))
  simp (disch:=(try simp only[lZ]);omega) only[aZ,aM,zm6]
  exact y1 ⟨by rw[hf],rfl⟩
theorem y0a{p:Pl}(h:p.mat<1∨16<p.mat):y6 p=1:=by unfold y6;rw[if_pos h]
theorem y0b{p:Pl}(h:¬(p.mat<1∨16<p.mat))(h2:p.ms.length=0):y6 p=10:=by unfold y6;rw[if_neg h,if_pos h2]
theorem y4G{p:Pl}(h:¬(p.mat<1∨16<p.mat))(h2:¬p.ms.length=0)(h3:24<p.ms.length∨48<p.bs.length):y6 p=8:=by unfold y6;rw[if_neg h,if_neg h2,if_pos h3]
theorem xt3{p:Pl}(h:¬(p.mat<1∨16<p.mat))(h2:¬p.ms.length=0)(h3:¬(24<p.ms.length∨48<p.bs.length)){k:Nat}(hk:k<p.ms.length)(hb:∀i,i<k→w5 (p.ms.getD i []) p.mat=0)(hn:w5 (p.ms.getD k []) p.mat≠0):y6 p=w5 (p.ms.getD k []) p.mat:=by
 have:=za7 (f:=fun m=>w5 m p.mat) [] hk hb hn
 unfold y6;rw[if_neg h,if_neg h2,if_neg h3,this,if_pos hn]
theorem y0c{p:Pl}(h:¬(p.mat<1∨16<p.mat))(h2:¬p.ms.length=0)(h3:¬(24<p.ms.length∨48<p.bs.length))(hb:∀i,i<p.ms.length→w5 (p.ms.getD i []) p.mat=0)(hn:zi3 p.ms p.bs≠0):y6 p=zi3 p.ms p.bs:=by
 have:=w7 (f:=fun m=>w5 m p.mat) [] hb
 unfold y6;rw[if_neg h,if_neg h2,if_neg h3,this,if_neg (by omega),if_pos hn]
theorem y4H{p:Pl}(h:¬(p.mat<1∨16<p.mat))(h2:¬p.ms.length=0)(h3:¬(24<p.ms.length∨48<p.bs.length))(hb:∀i,i<p.ms.length→w5 (p.ms.getD i []) p.mat=0)(hn:zi3 p.ms p.bs=0)(ho:yf6 p.ms p.bs):y6 p=3:=by
 have:=w7 (f:=fun m=>w5 m p.mat) [] hb
 unfold y6;rw[if_neg h,if_neg h2,if_neg h3,this,if_neg (by omega),if_neg (by omega),if_pos ho]
theorem y4I{p:Pl}(h:¬(p.mat<1∨16<p.mat))(h2:¬p.ms.length=0)(h3:¬(24<p.ms.length∨48<p.bs.length))(hb:∀i,i<p.ms.length→w5 (p.ms.getD i []) p.mat=0)(hn:zi3 p.ms p.bs=0)(ho:¬yf6 p.ms p.bs):
    y6 p=if p.fd<0∨(p.ms.length:Int)≤p.fd then 7 else if y3 (p.ms.getD p.fd.toNat [])=0 then 13 else 0:=by
  have:=w7 (f:=fun m=>w5 m p.mat) [] hb
  unfold y6;rw[if_neg h,if_neg h2,if_neg h3,this,if_neg (by omega),if_neg (by omega),if_neg ho]
theorem zr7{w v:Bool}(p:Pl):VR P false z1Q [plA w v p] [] (isR (.v (.int .i64 (y6 p)))):=by
 refine z8E (by simp) (.inr rfl) fun _ _=>?_
 unfold plA plC
 simp (disch:=(try simp only[lZ]);omega) only[aZ,aM,zI3,z1S]
 refine y2 (fun h1=>?_) (fun h1=>?_)
 ·simp (disch:=(try simp only[lZ]);omega) only[aZ,aM,Y9]
  exact y1 ⟨by rw[y0a h1],rfl⟩
 simp (disch:=(try simp only[lZ]);omega) only[aZ,aM]
 refine y2 (fun h2=>?_) (fun h2=>?_)
 ·simp (disch:=(try simp only[lZ]);omega) only[aZ,aM,Y9]
  exact y1 ⟨by rw[y0b h1 (by omega)],rfl⟩
 have h2:¬p.ms.length=0:=by omega
 simp (disch:=(try simp only[lZ]);omega) only[aZ,aM]
 refine y2 (fun h3=>?_) (fun h3=>?_)
 ·simp (disch:=(try simp only[lZ]);omega) only[aZ,aM,Y9]
  exact y1 ⟨by rw[y4G h1 h2 (by omega)],rfl⟩
 have h3:¬(24<p.ms.length∨48<p.bs.length):=by omega
 simp (disch:=(try simp only[lZ]);omega) only[aZ,aM]
 refine AWP.loopP z7b (fun k:Nat=>k≤p.ms.length∧∀i,i<k→w5 (p.ms.getD i []) p.mat=0) (fun k=>[(1,.v (.int .i64 0)),(6,.v (.int .i64 k))]) (fun _=>[]) (fun k=>p.ms.length-k) 0 ⟨by omega,fun i hi=>by omega⟩ (by refine Cut.of' (1) ?_ (by omega) ?_ ?_<;>simp (disch:=first|omega|simp (disch:=omega) only[aG,aM]) only[fZ,aM]) ?_
 rintro k ⟨hk,hb⟩
 by_cases hlt:k<p.ms.length
 ·simp (disch:=(try simp only[lZ]);omega) only[aZ,aM]
  refine(zB8 (w:=w) (p.ms.getD k []) p.mat).same (by unfold mcA mcC;simp (disch:=first|omega|simp (disch:=omega) only[aG,aM]) only[fZ,aM]) rfl (z7 ?_)
  simp (disch:=(try simp only[lZ]);omega) only[aZ,aM]
  refine y2 (fun h4=>?_) (fun h4=>?_)
  ·simp (disch:=(try simp only[lZ]);omega) only[aZ,aM,Y9]
   exact y1 ⟨by rw[xt3 h1 h2 h3 hlt hb h4],rfl⟩
  ·simp (disch:=(try simp only[lZ]);omega) only[aZ,aM]
   refine⟨k+1,⟨by omega,fun i hi=>?_⟩,by omega,(by refine Cut.of' (1) ?_ (by omega) ?_ ?_<;>simp (disch:=first|omega|simp (disch:=omega) only[aG,aM]) only[fZ,aM])⟩
   rcases Nat.lt_succ_iff_lt_or_eq.1 hi with h|rfl
   ·exact hb i h
   ·exact Classical.not_not.1 h4
 have hb:∀i,i<p.ms.length→w5 (p.ms.getD i []) p.mat=0:=fun i hi=>hb i (by omega)
 simp (disch:=(try simp only[lZ]);omega) only[aZ,aM]
 refine(y6p (w:=w) (v:=v) p (by omega) (by omega) fun i hi=>xt2 (hb i hi)).same (by unfold plA plC;simp (disch:=first|omega|simp (disch:=omega) only[aG,aM]) only[fZ,aM]) rfl (z7 ?_)
 by_cases h4:zi3 p.ms p.bs=0
 ·by_cases h5:yf6 p.ms p.bs
  ·simp (disch:=(try simp only[lZ]);omega) only[aZ,aM,z9M h4 h5,Y9]
   exact y1 ⟨by rw[y4H h1 h2 h3 hb h4 h5],rfl⟩
  ·have hf:=y4I h1 h2 h3 hb h4 h5
   simp (disch:=(try simp only[lZ]);omega) only[aZ,aM,z9N h4 h5]
   refine(y4F (w:=w) (v:=v) p p.fd).same (by unfold plA plC;simp (disch:=first|omega|simp (disch:=omega) only[aG,aM]) only[fZ,aM]) rfl (z7 ?_)
   by_cases h6:0≤p.fd∧p.fd<p.ms.length
   ·rw[if_neg (by omega)]at hf
    simp (disch:=(try simp only[lZ]);omega) only[aZ,aM,decide_eq_true h6]
    refine(y8t (w:=w) (v:=v) p p.fd h6.1 h6.2).same (by unfold plA plC;simp (disch:=first|omega|simp (disch:=omega) only[aG,aM]) only[fZ,aM]) rfl (z7 ?_)
    simp (disch:=(try simp only[lZ]);omega) only[aZ,aM]
    refine y2 (fun h7=>?_) (fun h7=>?_)
    ·have h7:y3 (p.ms.getD p.fd.toNat [])=0:=h7
     rw[if_pos h7]at hf
     simp (disch:=(try simp only[lZ]);omega) only[aZ,aM,Y9]
     exact y1 ⟨by rw[hf],rfl⟩
    ·have h7:¬y3 (p.ms.getD p.fd.toNat [])=0:=h7
     rw[if_neg h7]at hf
     simp (disch:=(try simp only[lZ]);omega) only[aZ,aM,Y9]
     exact y1 ⟨by rw[hf],rfl⟩
   ·rw[if_pos (by omega)]at hf
    simp (disch:=(try simp only[lZ]);omega) only[aZ,aM,decide_eq_false h6,Y9]
    exact y1 ⟨by rw[hf],rfl⟩
 ·simp (disch:=(try simp only[lZ]);omega) only[aZ,aM,z53 h4,Y9]
  exact y1 ⟨by rw[y0c h1 h2 h3 hb h4],rfl⟩
theorem zy9{w v:Bool}(p:Pl):VR P false z3T [plA w v p] [] (isR (.v (.int .i64 (y6 p)))):=by
 refine yd3 (by simp) (.inr rfl) fun _ _=>?_
 unfold plA plC
 simp (disch:=(try simp only[lZ]);omega) only[aZ,aM,zR0,z3V]
 refine y2 (fun h1=>?_) (fun h1=>?_)
 ·simp (disch:=(try simp only[lZ]);omega) only[aZ,aM,W2]
  exact y1 ⟨by rw[y0a h1],rfl⟩
 simp (disch:=(try simp only[lZ]);omega) only[aZ,aM]
 refine y2 (fun h2=>?_) (fun h2=>?_)
 ·simp (disch:=(try simp only[lZ]);omega) only[aZ,aM,W2]
  exact y1 ⟨by rw[y0b h1 (by omega)],rfl⟩
 have h2:¬p.ms.length=0:=by omega
 simp (disch:=(try simp only[lZ]);omega) only[aZ,aM]
 refine y2 (fun h3=>?_) (fun h3=>?_)
 ·simp (disch:=(try simp only[lZ]);omega) only[aZ,aM,W2]
  exact y1 ⟨by rw[y4G h1 h2 (by omega)],rfl⟩
 have h3:¬(24<p.ms.length∨48<p.bs.length):=by omega
 simp (disch:=(try simp only[lZ]);omega) only[aZ,aM]
 refine AWP.loopP z8J (fun k:Nat=>k≤p.ms.length∧∀i,i<k→w5 (p.ms.getD i []) p.mat=0) (fun k=>[(1,.v (.int .i64 0)),(3,.v (.int .i64 k))]) (fun _=>[]) (fun k=>p.ms.length-k) 0 ⟨by omega,fun i hi=>by omega⟩ (by refine Cut.of' (1) ?_ (by omega) ?_ ?_<;>simp (disch:=first|omega|simp (disch:=omega) only[aG,aM]) only[fZ,aM]) ?_
 rintro k ⟨hk,hb⟩
 by_cases hlt:k<p.ms.length
 ·simp (disch:=(try simp only[lZ]);omega) only[aZ,aM]
  refine(zT2 (w:=w) (p.ms.getD k []) p.mat).same (by unfold mcA mcC;simp (disch:=first|omega|simp (disch:=omega) only[aG,aM]) only[fZ,aM]) rfl (z7 ?_)
  simp (disch:=(try simp only[lZ]);omega) only[aZ,aM]
  refine y2 (fun h4=>?_) (fun h4=>?_)
  ·simp (disch:=(try simp only[lZ]);omega) only[aZ,aM,W2]
   exact y1 ⟨by rw[xt3 h1 h2 h3 hlt hb h4],rfl⟩
  ·simp (disch:=(try simp only[lZ]);omega) only[aZ,aM]
   refine⟨k+1,⟨by omega,fun i hi=>?_⟩,by omega,(by refine Cut.of' (1) ?_ (by omega) ?_ ?_<;>simp (disch:=first|omega|simp (disch:=omega) only[aG,aM]) only[fZ,aM])⟩
   rcases Nat.lt_succ_iff_lt_or_eq.1 hi with h|rfl
   ·exact hb i h
   ·exact Classical.not_not.1 h4
 have hb:∀i,i<p.ms.length→w5 (p.ms.getD i []) p.mat=0:=fun i hi=>hb i (by omega)
 simp (disch:=(try simp only[lZ]);omega) only[aZ,aM]
 refine(yK2 (w:=w) (v:=v) p (by omega) (by omega)).same (by unfold plA plC;simp (disch:=first|omega|simp (disch:=omega) only[aG,aM]) only[fZ,aM]) rfl (z7 ?_)
 simp (disch:=(try simp only[lZ]);omega) only[aZ,aM]
 refine y2 (fun h4=>?_) (fun h4=>?_)
 ·simp (disch:=(try simp only[lZ]);omega) only[aZ,aM,W2]
  exact y1 ⟨by rw[y0c h1 h2 h3 hb h4],rfl⟩
 have h4:zi3 p.ms p.bs=0:=Classical.not_not.1 h4
 simp (disch:=(try simp only[lZ]);omega) only[aZ,aM]
 refine AWP.loopP z8K (fun k:Nat=>k≤p.ms.length∧∀i,i<k→∀o,o<y3 (p.ms.getD i [])→0≤zg2 p.bs i o) (fun k=>[(1,.v (.int .i64 0)),(6,.v (.int .i64 k))]) (fun _=>[]) (fun k=>p.ms.length-k) 0 ⟨by omega,fun i hi=>by omega⟩ (by refine Cut.of' (1) ?_ (by omega) ?_ ?_<;>simp (disch:=first|omega|simp (disch:=omega) only[aG,aM]) only[fZ,aM]) ?_
 rintro k ⟨hk,hu2⟩
 by_cases hlt:k<p.ms.length
 ·have hol4:=xt2 (hb k hlt)
  simp (disch:=(try simp only[lZ]);omega) only[aZ,aM]
  refine AWP.loopP z8L (fun o:Nat=>o≤y3 (p.ms.getD k [])∧∀i,i<o→0≤zg2 p.bs k i) (fun o=>[(1,.v (.int .i64 0)),(7,.v (.int .i64 o))]) (fun _=>[]) (fun o=>y3 (p.ms.getD k [])-o) 0 ⟨by omega,fun i hi=>by omega⟩ (by refine Cut.of' (1) ?_ (by omega) ?_ ?_<;>simp (disch:=first|omega|simp (disch:=omega) only[aG,aM]) only[fZ,aM]) ?_
  rintro o ⟨ho,hv⟩
  simp (disch:=(try simp only[lZ]);omega) only[aZ,aM]
  refine(zf1 (w:=w) (p.ms.getD k [])).same (by unfold mcA mcC;simp (disch:=first|omega|simp (disch:=omega) only[aG,aM]) only[fZ,aM]) rfl (z7 ?_)
  by_cases hol:o<y3 (p.ms.getD k [])
  ·simp (disch:=(try simp only[lZ]);omega) only[aZ,aM]
   refine(yZ9 (w:=w) (v:=v) p (by omega) k o).same (by unfold plA plC;simp (disch:=first|omega|simp (disch:=omega) only[aG,aM]) only[fZ,aM]) rfl (z7 ?_)
   simp (disch:=(try simp only[lZ]);omega) only[aZ,aM]
   refine y2 (fun h5=>?_) (fun h5=>?_)
   ·simp (disch:=(try simp only[lZ]);omega) only[aZ,aM,W2]
    exact y1 ⟨by rw[y4H h1 h2 h3 hb h4 ⟨k,hlt,o,hol,h5⟩],rfl⟩
   ·simp (disch:=(try simp only[lZ]);omega) only[aZ,aM]
    refine⟨o+1,⟨by omega,fun i hi=>?_⟩,by omega,(by refine Cut.of' (1) ?_ (by omega) ?_ ?_<;>simp (disch:=first|omega|simp (disch:=omega) only[aG,aM]) only[fZ,aM])⟩
    rcases Nat.lt_succ_iff_lt_or_eq.1 hi with h|rfl
    ·exact hv i h
    ·omega
  ·simp (disch:=(try simp only[lZ]);omega) only[aZ,aM]
   refine⟨k+1,⟨by omega,fun i hi=>?_⟩,by omega,(by refine Cut.of' (1) ?_ (by omega) ?_ ?_<;>simp (disch:=first|omega|simp (disch:=omega) only[aG,aM]) only[fZ,aM])⟩
   rcases Nat.lt_succ_iff_lt_or_eq.1 hi with h|rfl
   ·exact hu2 i h
   ·intro o' ho';exact hv o' (by omega)
 have hno:¬yf6 p.ms p.bs:=by
  rintro⟨i,g1,o,g2,g3⟩
  have:=hu2 i (by omega) o g2
  omega
 have hf:=y4I h1 h2 h3 hb h4 hno
 simp (disch:=(try simp only[lZ]);omega) only[aZ,aM]
 refine y2 (fun h6=>?_) (fun h6=>?_)
 ·rw[if_pos h6]at hf
  simp (disch:=(try simp only[lZ]);omega) only[aZ,aM,W2]
  exact y1 ⟨by rw[hf],rfl⟩
 rw[if_neg h6]at hf
 simp (disch:=(try simp only[lZ]);omega) only[aZ,aM]
 refine(zf1 (w:=w) (p.ms.getD p.fd.toNat [])).same (by unfold mcA mcC;simp (disch:=first|omega|simp (disch:=omega) only[aG,aM]) only[fZ,aM]) rfl (z7 ?_)
 simp (disch:=(try simp only[lZ]);omega) only[aZ,aM]
 refine y2 (fun h7=>?_) (fun h7=>?_)
 ·rw[if_pos (by omega)]at hf
  simp (disch:=(try simp only[lZ]);omega) only[aZ,aM,W2]
  exact y1 ⟨by rw[hf],rfl⟩
 ·rw[if_neg (by omega)]at hf
  simp (disch:=(try simp only[lZ]);omega) only[aZ,aM,W2]
  exact y1 ⟨by rw[hf],rfl⟩
end Go.Proofs.YtcppaddgclkekaaGreat
namespace Go.Proofs.YtcppaddgclkekaaGreat
open Go Go.Lft
set_option linter.unusedSimpArgs false
attribute [local congr] Q7 Q8 Q9 za1 Z9 Y0 za2 Y2 Y3 Y4 za3 za0
abbrev Arcs:=List (Int×Int)
def xt4(n:Int)(a:Int×Int):Prop:=((a.1<0∨n≤a.1)∨a.2<0)∨n≤a.2
instance(n:Int)(a:Int×Int):Decidable (xt4 n a):=inferInstanceAs (Decidable (((a.1<0∨n≤a.1)∨a.2<0)∨n≤a.2))
end Go.Proofs.YtcppaddgclkekaaGreat
namespace Go.Proofs.YtcppaddgclkekaaGreat
open Go Go.Lft
set_option linter.unusedSimpArgs false
set_option linter.unusedVariables false
attribute [local congr] Q7 Q8 Q9 za1 Z9 Y0 za2 Y2 Y3 Y4 za3 za0
def vis(S:List Bool)(w:Int):Prop:=S.getD w.toNat false=true
instance(S:List Bool)(w:Int):Decidable (vis S w):=inferInstanceAs (Decidable (S.getD w.toNat false=true))
def xt5{α:Type}(f:α→α):Nat→α→α
 | 0,x=>x
 | k+1,x=>f (xt5 f k x)
def xt6(S:List Bool)(a:Int×Int):List Bool:=S.set a.2.toNat (S.getD a.2.toNat false || S.getD a.1.toNat false)
def y6q(es:Arcs)(S:List Bool):List Bool:=es.foldl xt6 S
def xt7(n from0:Int):List Bool:=(List.replicate n.toNat false).set from0.toNat true
def y8u(n:Int)(es:Arcs)(from0:Int):List Bool:=xt5 (y6q es) n.toNat (xt7 n from0)
def xA2(l:Arcs):Arcs:=l.map Prod.swap
end Go.Proofs.YtcppaddgclkekaaGreat
