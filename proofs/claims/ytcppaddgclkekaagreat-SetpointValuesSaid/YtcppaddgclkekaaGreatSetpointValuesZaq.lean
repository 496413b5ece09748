/- Lemmas and walks that the proof of SetpointValues uses. No statement is claimed here. -/
import Derived.Test.YtcppaddgclkekaaGreatSetpointValuesZap
namespace Go.Proofs.YtcppaddgclkekaaGreat
open Go Go.Lft
set_option linter.unusedSimpArgs false
set_option linter.unusedVariables false
attribute [local congr] Q5 Q6 Q7 Q9 Z7 Z8 za0 Z9 Y0 Y2 za1 Q8
def badE(x:Int):Int:=if x<0∨1073741824<x then 18 else 0
theorem z7f{x:Int}(h:x<0∨1073741824<x):badE x=18:=by unfold badE;rw[if_pos h]
theorem yD6{x:Int}(h:¬(x<0∨1073741824<x)):badE x=0:=by unfold badE;rw[if_neg h]
theorem z80{x:Int}(h:badE x=0):0≤x∧x≤1073741824:=by unfold badE at h;split at h<;>omega
def msE(m:Mc)(xs:List Int):Int:=if w6 m xs.length≠0 then w6 m xs.length else if zc7 badE xs≠0 then 18 else if y4 m=0 then 13 else 0
def msM(m:Mc)(xs:List Int):List (List Int):=mtx (y4 m) xs.length fun o i=>(divM m i (xs.getD i 0)).getD o 0
def msF(m:Mc)(xs:List Int)(x o:Nat):Nat→Nat→Int:=fun a b=>if b<x∨(b=x∧a<o)then(divM m b (xs.getD b 0)).getD a 0 else 0
def xk4(m:Mc)(xs:List Int):A→List Blk→Prop:=fun r G=>(msE m xs≠0∧r=.tup [.v (.slice none 0 0),.v (.int .i64 (msE m xs))]∧G=[])∨(msE m xs=0∧r=.tup [.sl 1 0 1 0 (y4 m),.v (.int .i64 0)]∧G=hm [.any] 0 (ptrA (y4 m) xs.length) (msM m xs))
theorem yT0(m:Mc)(xs:List Int)(n:Nat):mtx (y4 m) n (msF m xs 0 0)=mtx (y4 m) n fun _ _=>0:=yk7 fun o i _ _=>by unfold msF;rw[if_neg (by omega)]
theorem yT1(m:Mc)(xs:List Int)(x:Nat):mtx (y4 m) xs.length (msF m xs x (y4 m))=mtx (y4 m) xs.length (msF m xs (x+1) 0):=yk7 fun o i ho _=>by
 unfold msF
 by_cases h:i<x∨(i=x∧o<y4 m)
 ·rw[if_pos h,if_pos (by omega)]
 ·rw[if_neg h,if_neg (by omega)]
theorem y3k(m:Mc)(xs:List Int):mtx (y4 m) xs.length (msF m xs xs.length 0)=msM m xs:=yk7 fun o i ho hi=>by
 unfold msF;rw[if_pos (by omega)]
theorem y3l(m:Mc)(xs:List Int){x o:Nat}(ho:o<y4 m)(hx:x<xs.length):(mtx (y4 m) xs.length (msF m xs x o)).set o (((List.range xs.length).map fun i=>msF m xs x o o i).set x ((divM m x (xs.getD x 0)).getD o 0))=mtx (y4 m) xs.length (msF m xs x (o+1)):=by
 rw[y8c _ o x _ ho hx]
 refine yk7 fun a b _ _=>?_
 by_cases h:a=o∧b=x
 ·obtain⟨rfl,rfl⟩:=h
  rw[if_pos ⟨rfl,rfl⟩];unfold msF;rw[if_pos (by omega)]
 ·rw[if_neg h];unfold msF
  by_cases h2:b<x∨(b=x∧a<o)
  ·rw[if_pos h2,if_pos (by omega)]
  ·rw[if_neg h2,if_neg (by omega)]
theorem yT2{m:Mc}{mat:Int}(h:MOk m mat)(ho:y4 m≠0){k:Nat}(hk:k<m.length){t:Int}(ht:0≤t∧t≤1073741824):(divM m k t).length=y4 m:=by
 obtain⟨h1,h2,h3,h4,h5⟩:=zl8 h ho hk ht
 unfold divM
 rw[z7e,(z4n (zA0 h1).sp).len,h3]
theorem z64{w v:Bool}(m:Mc)(xs:List Int):VR P false zz1 [mcA w m,.fs v (ints xs)] [] (xk4 m xs):=by
 refine z6V (by simp) (.inr rfl) fun _ _=>?_
 unfold mcA mcC
 simp (disch:=(try simp only[lZ]);omega) only[aZ,aM,aQ,zz2,z0h]
 refine(zA1 (w:=w) m xs.length).same (by unfold mcA mcC;simp (disch:=first|omega|simp (disch:=omega) only[aG,aM,aQ]) only[fZ,aM,aQ]) rfl (z7 ?_)
 simp (disch:=(try simp only[lZ]);omega) only[aZ,aM,aQ]
 refine y1 (fun h1=>?_) (fun h1=>?_)
 ·have he:msE m xs=w6 m xs.length:=by unfold msE;rw[if_pos h1]
  simp (disch:=(try simp only[lZ]);omega) only[aZ,aM,aQ,zl0]
  exact x1 (r:=.tup [.v (.slice none 0 0),.v (.int .i64 (w6 m xs.length))]) (Fz.refl rfl) (.inl ⟨by omega,by rw[he],rfl⟩)
 have h1':w6 m xs.length=0:=Classical.not_not.1 h1
 have ok:=zL5 h1'
 have k1:=ok.m1
 have k2:=ok.m2
 have k3:=ok.len
 simp (disch:=(try simp only[lZ]);omega) only[aZ,aM,aQ]
 refine AWP.loopP z5e (fun i:Nat=>i≤xs.length∧∀j,j<i→badE (xs.getD j 0)=0) (fun i=>[(6,.v (.int .i64 i))]) (fun _=>[]) (fun i=>xs.length-i) 0 ⟨by omega,by omega⟩ ?_ ?_
 ·exact Cut.of' 1 rfl (by omega) (by simp (disch:=first|omega|simp (disch:=omega) only[aG,aM,aQ]) only[fZ,aM,aQ]) (by simp (disch:=first|omega|simp (disch:=omega) only[aG,aM,aQ]) only[fZ,aM,aQ])
 rintro i ⟨hi,hi2⟩
 by_cases hlt:i<xs.length
 ·simp (disch:=(try simp only[lZ]);omega) only[aZ,aM,aQ]
  refine y1 (fun h2=>?_) (fun h2=>?_)
  ·have he : msE m xs = 18 := by
    unfold msE;rw[if_neg h1,if_pos]
    rw[zc0 0 hlt hi2 (by rw[z7f (by omega)];omega),z7f (by omega)];omega
   simp (disch:=(try simp only[lZ]);omega) only[aZ,aM,aQ,zl0]
   exact x1 (r:=.tup [.v (.slice none 0 0),.v (.int .i64 18)]) (Fz.refl rfl) (.inl ⟨by omega,by rw[he],rfl⟩)
  ·simp (disch:=(try simp only[lZ]);omega) only[aZ,aM,aQ]
   refine⟨i+1,⟨by omega,fun j hj=>?_⟩,by omega,?_⟩
   ·by_cases hji:j=i
    ·subst hji;exact yD6 (by omega)
    ·exact hi2 j (by omega)
   ·exact Cut.of' 1 rfl (by omega) (by simp (disch:=first|omega|simp (disch:=omega) only[aG,aM,aQ]) only[fZ,aM,aQ]) (by simp (disch:=first|omega|simp (disch:=omega) only[aG,aM,aQ]) only[fZ,aM,aQ])
 have hie:i=xs.length:=by omega
 subst hie
 have hb:zc7 badE xs=0:=Z0 0 hi2
 have hbd:∀i,i<xs.length→0≤xs.getD i 0∧xs.getD i 0≤1073741824:=fun i hi=>z80 (hi2 i hi)
 simp (disch:=(try simp only[lZ]);omega) only[aZ,aM,aQ]
 refine(W3 (w:=w) m).same (by unfold mcA mcC;simp (disch:=first|omega|simp (disch:=omega) only[aG,aM,aQ]) only[fZ,aM,aQ]) rfl (z7 ?_)
 simp (disch:=(try simp only[lZ]);omega) only[aZ,aM,aQ]
 refine y1 (fun h3=>?_) (fun h3=>?_)
 ·have he : msE m xs = 13 := by
   unfold msE;rw[if_neg h1,if_neg (by omega),if_pos (by omega)]
  simp (disch:=(try simp only[lZ]);omega) only[aZ,aM,aQ,zl0]
  exact x1 (r:=.tup [.v (.slice none 0 0),.v (.int .i64 13)]) (Fz.refl rfl) (.inl ⟨by omega,by rw[he],rfl⟩)
 have he:msE m xs=0:=by
  unfold msE;rw[if_neg h1,if_neg (by omega),if_neg (by omega)]
 have ho:y4 m≠0:=by omega
 have ho4:y4 m≤4:=by
  have:=(zl8 ok ho (k:=0) (by omega) (t:=0) (by omega)).2.2.2.1;exact this
 simp (disch:=(try simp only[lZ]);omega) only[aZ,aM,aQ]
 rw[y49 _ xs.length,xs5]
 refine AWP.loopM z5f (fun j:Nat=>j≤y4 m) (fun j=>[(13,.v (.int .i64 j))]) (fun j=>hm [.fs w (rows w m)] 0 (padA j (y4 m) xs.length) (mtx j xs.length fun _ _=>0)) (fun j=>y4 m-j) 0 (by omega) ?_ ?_
 ·rw[xj9]
  exact Cut.same (by omega) (z63 (by simp (disch:=first|omega|simp (disch:=omega) only[aG,aM,aQ]) only[fZ,aM,aQ]) (y7g _ _ _ _ (by simp (disch:=(try simp only[lZ]);omega) only[aZ,aM,aQ];omega))) (by simp (disch:=first|omega|simp (disch:=omega) only[aG,aM,aQ]) only[fZ,aM,aQ])
 rintro j hj
 by_cases hlt2:j<y4 m
 ·simp (disch:=(try simp only[lZ]);omega) only[aZ,aM,aQ]
  rw[yS9]
  refine⟨j+1,by omega,by omega,?_⟩
  exact Cut.same (by omega) (z63 (by simp (disch:=first|omega|simp (disch:=omega) only[aG,aM,aQ]) only[fZ,aM,aQ]) (y7g _ _ _ _ (by simp (disch:=(try simp only[lZ]);omega) only[aZ,aM,aQ];omega))) (by simp (disch:=first|omega|simp (disch:=omega) only[aG,aM,aQ]) only[fZ,aM,aQ])
 have hje:j=y4 m:=by omega
 subst hje
 rw[y8e,← yT0 m xs]
 simp (disch:=(try simp only[lZ]);omega) only[aZ,aM,aQ]
 refine AWP.loopM z5g (fun x:Nat=>x≤xs.length) (fun x=>[(17,.v (.int .i64 x))]) (fun x=>hm [.fs w (rows w m)] 0 (ptrA (y4 m) xs.length) (mtx (y4 m) xs.length (msF m xs x 0))) (fun x=>xs.length-x) 0 (by omega) ?_ ?_
 ·exact Cut.same (by omega) (z63 (by simp (disch:=first|omega|simp (disch:=omega) only[aG,aM,aQ]) only[fZ,aM,aQ]) (z11 _ _ _ (by simp (disch:=(try simp only[lZ]);omega) only[aZ,aM,aQ];omega))) (by simp (disch:=first|omega|simp (disch:=omega) only[aG,aM,aQ]) only[fZ,aM,aQ])
 rintro x hx
 by_cases hltx:x<xs.length
 ·have hbx:=hbd x hltx
  have hdl:=yT2 ok ho (k:=x) (by omega) hbx
  have hms:=fun o ho=>y3l m xs (x:=x) (o:=o) ho hltx
  simp (disch:=(try simp only[lZ]);omega) only[aZ,aM,aQ]
  refine(yZ7 (w:=w) m _ ok ho x (by omega) (xs.getD x 0) hbx).same (by unfold mcA mcC;simp (disch:=first|omega|simp (disch:=omega) only[aG,aM,aQ]) only[fZ,aM,aQ]) (by simp (disch:=first|omega|simp (disch:=omega) only[aG,aM,aQ]) only[fZ,aM,aQ]) (z7 ?_)
  simp (disch:=(try simp only[lZ]);omega) only[aZ,aM,aQ]
  refine AWP.loopM z5h (fun o:Nat=>o≤y4 m) (fun o=>[(23,.v (.int .i64 o))]) (fun o=>hm [.fs w (rows w m)] 0 (ptrA (y4 m) xs.length) (mtx (y4 m) xs.length (msF m xs x o))) (fun o=>y4 m-o) 0 (by omega) ?_ ?_
  ·exact Cut.same (by omega) (z63 (by simp (disch:=first|omega|simp (disch:=omega) only[aG,aM,aQ]) only[fZ,aM,aQ]) (z11 _ _ _ (by simp (disch:=(try simp only[lZ]);omega) only[aZ,aM,aQ];omega))) (by simp (disch:=first|omega|simp (disch:=omega) only[aG,aM,aQ]) only[fZ,aM,aQ])
  rintro o ho2
  by_cases hlto:o<y4 m
  ·simp (disch:=(try simp only[lZ]);omega) only[aZ,aM,aQ]
   rw[hms o hlto]
   refine⟨o+1,by omega,by omega,?_⟩
   exact Cut.same (by omega) (z63 (by simp (disch:=first|omega|simp (disch:=omega) only[aG,aM,aQ]) only[fZ,aM,aQ]) (z11 _ _ _ (by simp (disch:=(try simp only[lZ]);omega) only[aZ,aM,aQ];omega))) (by simp (disch:=first|omega|simp (disch:=omega) only[aG,aM,aQ]) only[fZ,aM,aQ])
  have hoe:o=y4 m:=by omega
  subst hoe
  rw[yT1]
  simp (disch:=(try simp only[lZ]);omega) only[aZ,aM,aQ]
  refine⟨x+1,by omega,by omega,?_⟩
  exact Cut.same (by omega) (z63 (by simp (disch:=first|omega|simp (disch:=omega) only[aG,aM,aQ]) only[fZ,aM,aQ]) (z11 _ _ _ (by simp (disch:=(try simp only[lZ]);omega) only[aZ,aM,aQ];omega))) (by simp (disch:=first|omega|simp (disch:=omega) only[aG,aM,aQ]) only[fZ,aM,aQ])
 have hxe:x=xs.length:=by omega
 subst hxe
 rw[y3k]
 have hml:(msM m xs).length=y4 m:=zR1 _ _ _
 simp (disch:=(try simp only[lZ]);omega) only[aZ,aM,aQ,zl0]
 refine⟨_,hm [.any] 0 (ptrA (y4 m) xs.length) (msM m xs),xk2 (by omega) ⟨Fz.any,trivial⟩ (z11 _ _ _ (by omega)) ?_,.inr ⟨he,rfl,rfl⟩⟩
 exact⟨Fz.refl (by simp [retA,A.bd,A.bdL,hml]),trivial⟩
theorem yT3(m:Mc)(xs:List Int):∀l∈msM m xs,l.length=xs.length:=y5a
theorem y3m(m:Mc)(xs:List Int):(msM m xs).length=y4 m:=zR1 _ _ _
def zM1(m:Mc)(xs:List Int):A:=.tup [if msE m xs≠0 then .v (.slice none 0 0)else .fs true (rows true (msM m xs)),.v (.int .i64 (msE m xs))]
theorem z81{w v:Bool}(m:Mc)(xs:List Int):VR P false zz1 [mcA w m,.fs v (ints xs)] [] (isR (zM1 m xs)):=by
 refine(z64 (w:=w) (v:=v) m xs).cut ?_
 rintro r G (⟨h1,rfl,rfl⟩|⟨h1,rfl,rfl⟩)
 ·exact⟨_,_,Cut.refl _ _ _,by unfold zM1;rw[if_pos h1],rfl⟩
 ·refine⟨zM1 m xs,[],Cut.of (Nat.le_refl _) rfl (fun i B' h=>by simp at h) ⟨?_,trivial⟩,rfl,rfl⟩
  unfold zM1
  rw[if_neg (by omega),h1]
  exact Fz.tup ⟨xk3 (y3m m xs) (yT3 m xs),Fz.refl rfl,trivial⟩
def FgL:List A→List A→Prop
 | [],[]=>True
 | a :: l,b :: r=>(b=.any∨a=b)∧FgL l r
 | _,_=>False
theorem y0:FgL [] []=True:=rfl
theorem z9(a b:A)(l r:List A):FgL (a :: l) (b :: r)=((b=.any∨a=b)∧FgL l r):=rfl
theorem FgL.rel{g:Bool→Heap}{σ:Nam}:∀{e e':List A} {ev:List Value},FgL e e'→RL g σ e ev→RL g σ e' ev
 | [],[],_,_,h=>h
 | a :: l,b :: r,ev,hf,h=>by
  obtain⟨x,xs,rfl,h1,h2⟩:=h.uncons
  refine RL.cons ?_ (FgL.rel hf.2 h2)
  rcases hf.1 with rfl|rfl
  ·exact .any x
  ·exact h1
 | [],_ :: _,_,hf,_=>hf.elim
 | _ :: _,[],_,hf,_=>hf.elim
theorem Cut.fg{n0:Nat}{e e':List A}{H:List Blk}(h:FgL e e'):Cut n0 e H e' H:=fun c ev h1 h2 h3 h4=>⟨c,h1,rfl,Lat.refl _ _,h3,h.rel h4⟩
def Gr(F:Nat→Prop)(H H':List Blk):Prop:=H.length≤H'.length∧∀i ver,i<H.length→¬F i→blkAt H' i ver=blkAt H i ver
theorem Gr.refl{F:Nat→Prop}(H:List Blk):Gr F H H:=⟨Nat.le_refl _,fun _ _ _ _=>rfl⟩
theorem Gr.trans{F F':Nat→Prop}{H H1 H2:List Blk}(h:Gr F H H1)(k:Gr F' H1 H2)(hf:∀i,i<H.length→F' i→F i):Gr F H H2 :=
 ⟨Nat.le_trans h.1 k.1,fun i ver hi hn=>(k.2 i ver (Nat.lt_of_lt_of_le hi h.1) fun hc=>hn (hf i hi hc)).trans (h.2 i ver hi hn)⟩
theorem Gr.mono{F F':Nat→Prop}{H H':List Blk}(h:Gr F H H')(hf:∀i,i<H.length→F i→F' i):Gr F' H H':=⟨h.1,fun i ver hi hn=>h.2 i ver hi fun hc=>hn (hf i hi hc)⟩
theorem Gr.app{F:Nat→Prop}(H l:List Blk):Gr F H (H++l):=⟨by simp,fun i ver hi _=>x2 H l i ver hi⟩
theorem Gr.set{F:Nat→Prop}(H:List Blk)(j:Nat)(B:Blk)(hj:F j):Gr F H (H.set j B):=⟨by simp,fun i ver hi hn=>y5 _ _ _ _ _ fun hc=>hn (hc▸hj)⟩
theorem Gr.at{F:Nat→Prop}{H H':List Blk}(h:Gr F H H'){i ver:Nat}{l:List A}(hb:blkAt H i ver=some l)(hn:¬F i):blkAt H' i ver=some l:=(h.2 i ver (y3 hb) hn).trans hb
abbrev nof:Nat→Prop:=fun _=>False
abbrev one(j:Nat):Nat→Prop:=fun i=>i=j
theorem z7g{H:List Blk}{j ver:Nat}{l:List A}(h:blkAt H j ver=some l):H.set j ⟨ver,l⟩=H:=by
 obtain⟨B,h1,h2,h3⟩:=w7.1 h
 apply List.ext_getElem?
 intro i
 rw[List.getElem?_set]
 split
 ·rename_i hi;subst hi
  rw[if_pos (List.getElem?_eq_some_iff.1 h1).1,h1,← h2,← h3]
 ·rfl
def upM(a b:List Int)(k:Nat):List Int:=(List.range a.length).map fun i=>if i<k then a.getD i 0+b.getD i 0 else a.getD i 0
theorem zI2(a b:List Int)(k:Nat):(upM a b k).length=a.length:=by simp [upM]
theorem z2x(a b:List Int)(k i:Nat)(h:i<a.length):(upM a b k).getD i 0=if i<k then a.getD i 0+b.getD i 0 else a.getD i 0:=by simp [upM,List.getD_eq_getElem?_getD,h]
theorem yk8(a b:List Int):upM a b 0=a:=by
 refine Z4 0 (zI2 _ _ _) fun i hi=>?_
 rw[zI2]at hi
 rw[z2x _ _ _ _ hi,if_neg (by omega)]
theorem yD7(a b:List Int)(k:Nat)(h:a.length≤k):upM a b k=zc3 a b:=by
 refine Z4 0 (by rw[zI2,Q4]) fun i hi=>?_
 rw[zI2]at hi
 rw[z2x _ _ _ _ hi,zr8 _ _ _ hi,if_pos (by omega)]
theorem yD8(a b:List Int)(k:Nat)(h:k<a.length):(upM a b k).set k (a.getD k 0+b.getD k 0)=upM a b (k+1):=by
 refine Z4 0 (by simp [zI2]) fun i hi=>?_
 simp only[List.length_set,zI2]at hi
 rw[z2x _ _ _ _ hi,X4,z2x _ _ _ _ hi,zI2]
 by_cases hik:i=k
 ·subst hik;rw[if_pos ⟨rfl,h⟩,if_pos (by omega)]
 ·rw[if_neg (fun hc=>hik hc.1.symm)]
  by_cases hlt:i<k
  ·rw[if_pos hlt,if_pos (by omega)]
  ·rw[if_neg hlt,if_neg (by omega)]
def Sm(a b:List Int):Prop:=∀i,i<a.length→-2305843009213693952≤a.getD i 0∧a.getD i 0≤2305843009213693952∧-2305843009213693952≤b.getD i 0∧b.getD i 0≤2305843009213693952
theorem yT4{H:List Blk}{i v j u:Nat}{a b:List Int}(ha:blkAt H i v=some (ints a))(hb:blkAt H j u=some (ints b))(ne:j≠i)(hl:b.length=a.length)(hs:Sm a b)(h9:a.length<1000000000):
    VR P false zO5 [.sl i v 1 0 a.length,.sl j u 1 0 b.length] H (fun r H'=>H'=H.set i ⟨v,ints (zc3 a b)⟩):=by
  refine zZ1 (by simp) (.inl rfl) fun _ _=>?_
  have lt:=y3 ha
  have hse:=z7g ha
  simp (disch:=(try simp only[lZ]);omega) only[aZ,aM,zy6,zO6]
  refine AWP.loopP zO7 (fun k:Nat=>k≤a.length) (fun k=>[(2,.v (.int .i64 k))]) (fun k=>[(i,⟨v,ints (upM a b k)⟩)]) (fun k=>a.length-k) 0 (by omega) ?_ ?_
  · rw[yk8]
    simp (disch:=(try simp only[lZ]);omega) only[aZ,aM,hse]
    refine Cut.fg ?_
    simp (disch:=first|omega|simp (disch:=omega) only[aG,aM]) only[fZ,aM,y0,z9,or_true,true_or]
  rintro k hk
  have hb':blkAt (H.set i ⟨v,ints (upM a b k)⟩) j u=some (ints b):=by rw[y5 _ _ _ _ _ ne];exact hb
  have ha':blkAt (H.set i ⟨v,ints (upM a b k)⟩) i v=some (ints (upM a b k)):=y8 _ _ _ _ lt
  have ul:=zI2 a b k
  by_cases hlt:k<a.length
  · have hx:=hs k hlt
    have e0:(upM a b k).getD k 0=a.getD k 0:=by rw[z2x _ _ _ _ hlt,if_neg (by omega)]
    have e1:=yD8 a b k hlt
    simp (disch:=(try simp only[lZ]);omega) only[aZ,aM,ha',hb',e0,e1]
    refine⟨k+1,by omega,by omega,?_⟩
    try simp (disch:=(try simp only[lZ]);omega) only[aZ,aM]
    refine Cut.fg ?_
    simp (disch:=first|omega|simp (disch:=omega) only[aG,aM]) only[fZ,aM,y0,z9,or_true,true_or]
  · have hke:k=a.length:=by omega
    subst hke
    rw[yD7 _ _ _ (Nat.le_refl _)]
    simp (disch:=(try simp only[lZ]);omega) only[aZ,aM,z2i]
    exact zc8 (R:=fun r H'=>_) rfl
theorem y3n{w:Bool}{H:List Blk}{i v:Nat}{a b:List Int}(ha:blkAt H i v=some (ints a))(hl:b.length=a.length)(hs:Sm a b)(h9:a.length<1000000000):
    VR P false zO5 [.sl i v 1 0 a.length,.fs w (ints b)] H (fun r H'=>H'=H.set i ⟨v,ints (zc3 a b)⟩):=by
  refine zZ1 (by simp) (.inl rfl) fun _ _=>?_
  have lt:=y3 ha
  have hse:=z7g ha
  simp (disch:=(try simp only[lZ]);omega) only[aZ,aM,zy6,zO6]
  refine AWP.loopP zO7 (fun k:Nat=>k≤a.length) (fun k=>[(2,.v (.int .i64 k))]) (fun k=>[(i,⟨v,ints (upM a b k)⟩)]) (fun k=>a.length-k) 0 (by omega) ?_ ?_
  · rw[yk8]
    simp (disch:=(try simp only[lZ]);omega) only[aZ,aM,hse]
    exact Cut.fg (by simp (disch:=first|omega|simp (disch:=omega) only[aG,aM]) only[fZ,aM,y0,z9,or_true,true_or])
  rintro k hk
  have ha':blkAt (H.set i ⟨v,ints (upM a b k)⟩) i v=some (ints (upM a b k)):=y8 _ _ _ _ lt
  have ul:=zI2 a b k
  by_cases hlt:k<a.length
  · have hx:=hs k hlt
    have e0:(upM a b k).getD k 0=a.getD k 0:=by rw[z2x _ _ _ _ hlt,if_neg (by omega)]
    have e1:=yD8 a b k hlt
    simp (disch:=(try simp only[lZ]);omega) only[aZ,aM,ha',e0,e1]
    refine⟨k+1,by omega,by omega,?_⟩
    try simp (disch:=(try simp only[lZ]);omega) only[aZ,aM]
    exact Cut.fg (by simp (disch:=first|omega|simp (disch:=omega) only[aG,aM]) only[fZ,aM,y0,z9,or_true,true_or])
  · have hke:k=a.length:=by omega
    subst hke
    rw[yD7 _ _ _ (Nat.le_refl _)]
    simp (disch:=(try simp only[lZ]);omega) only[aZ,aM,z2i]
    exact zc8 (R:=fun r H'=>_) rfl
theorem y8h{H:List Blk}{x:A}:VR P false zO5 [x,.v (.slice none 0 0)] H (fun r H'=>H'=H):=by
 refine zZ1 (by simp) (.inl rfl) fun _ _=>?_
 simp (disch:=(try simp only[lZ]);omega) only[aZ,aM,zy6,zO6]
 refine AWP.loopP zO7 (fun k:Nat=>k=0) (fun k=>[(2,.v (.int .i64 k))]) (fun k=>[]) (fun k=>0) 0 rfl ?_ ?_
 ·exact Cut.fg (by simp (disch:=first|omega|simp (disch:=omega) only[aG,aM]) only[fZ,aM,y0,z9,or_true,true_or])
 rintro k rfl
 simp (disch:=(try simp only[lZ]);omega) only[aZ,aM,z2i]
 exact zc8 (R:=fun r H'=>_) rfl
abbrev y7(n:Nat):List Int:=List.replicate n 0
theorem y5b{n:Nat}(hn:n≤16):VR P false zj0 [.fp false [.v (.int .i64 n),.any,.any,.any,.any,.any,.any,.any]] [] (ownR (.sl 0 0 1 0 n) [⟨0,ints (y7 n)⟩]):=by
 refine z00 (by simp) (.inr rfl) fun _ _=>?_
 simp (disch:=(try simp only[lZ]);omega) only[aZ,aM,zj1,zy5,z2g]
 exact zc8 (R:=ownR _ _) ⟨rfl,rfl⟩
theorem z0S{kp:Bool}{H:List Blk}{r n:Nat}{a b c d e f g:A}(hn:n≤16)(hr:blkAt H r 0=some [.v (.int .i64 n),a,b,c,d,e,f,g]):VR P kp zj0 [.lp r 0 0] H (fun r H'=>r=.sl H.length 0 1 0 n∧H'=H++[⟨0,ints (y7 n)⟩]):=by
 have hl:LdL H [.v (.int .i64 n),a,b,c,d,e,f,g] [.v (.int .i64 n),.any,.any,.any,.any,.any,.any,.any]:=⟨Ld.refl rfl,Ld.any,Ld.any,Ld.any,Ld.any,Ld.any,Ld.any,Ld.any,trivial⟩
 refine(y5b hn).useO ⟨Ld.lp (o:=0) hr hl (by simp),trivial⟩ (by simp [A.cl,ys1]) ⟨by simp [A.sh],by simp [Blk.sh,zR8 _ (zn6 0 _)]⟩
theorem y5c{w:Bool}{xs:List Int}(h0:0<xs.length)(h1:xs.length≤16):VR P false zG7 [.fs w (ints xs)] [] (ownR (.sl 0 1 1 0 xs.length) [⟨1,ints xs⟩]):=by
 refine z73 (by simp) (.inr rfl) fun _ _=>?_
 have he:eqsA false (.fs w (ints xs)) (.v (.slice none 0 0))=some (.v (.bool false)):=by simp only[eqsA];rw[if_neg (by rw[z1e];omega)]
 simp (disch:=(try simp only[lZ]);omega) only[aZ,aM,zG8,z1y,z9R,he]
 exact zc8 (R:=ownR _ _) ⟨rfl,rfl⟩
theorem yT5{kp:Bool}{H:List Blk}{i v:Nat}{xs:List Int}(h0:0<xs.length)(h1:xs.length≤16)(hb:blkAt H i v=some (ints xs)):VR P kp zG7 [.sl i v 1 0 xs.length] H (fun r H'=>r=.sl H.length 1 1 0 xs.length∧H'=H++[⟨1,ints xs⟩]) :=
 (y5c (w:=false) h0 h1).useO ⟨zB9 H i v xs.length xs rfl hb,trivial⟩ (by simp [A.cl,ys1]) ⟨by simp [A.sh],by simp [Blk.sh,zR8 _ (zn6 0 _)]⟩
theorem xk5(e:List A)(H:List Blk)(arr:Option Nat)(n:Nat)(a lo hi z:X)(k:K1):(X.slc arr n a lo hi (.u k z)).av e H=ob (a.av e H) fun x=>ob (lo.av e H) fun l=>ob (hi.av e H) fun u=>ob ((X.u k z).av e H) fun m=>slcA H arr n x l u (some m):=rfl
theorem y8i{H:List Blk}{i ver len:Nat}{l:List A}{b c:Int}(hb:blkAt H i ver=some l)(h1:0≤b)(h2:b≤c)(h3:c≤len)(h4:len≤l.length):
    slcA H (some len) 1 (.lp i ver 0) (.v (.int .i64 0)) (.v (.int .i64 b)) (some (.v (.int .i64 c)))=some (.sl i ver 1 0 b.toNat):=by
  simp only[slcA,hb,Option.bind_some]
  rw[if_pos ⟨by omega,by omega,h2,h3,by omega⟩]
  simp
theorem xk6{H:List Blk}{i v j u:Nat}{l l':List A}(h:blkAt H i v=some l)(h':blkAt H j u=some l')(hn:l.length≠l'.length):i≠j:=fun hc=>by
 subst hc
 obtain⟨B,e1,_,e2⟩:=w7.1 h
 obtain⟨C,e3,_,e4⟩:=w7.1 h'
 rw[e1]at e3;cases e3
 exact hn (by rw[← e2,← e4])
abbrev nilS:A:=.v (.slice none 0 0)
def yx0(len mat:Nat)(ad:Nat→Nat×Nat):List A:=(List.range 16).map fun q=>if q<len then .sl (ad q).1 (ad q).2 1 0 mat else nilS
def belK(c len mat pos:Nat)(ad:Nat→Nat×Nat):List A:=yx0 c mat ad++[.v (.int .i64 len),.v (.int .i64 mat),.v (.int .i64 pos)]
abbrev belC(len mat pos:Nat)(ad:Nat→Nat×Nat):List A:=belK len len mat pos ad
theorem zf0(len mat:Nat)(ad:Nat→Nat×Nat):(yx0 len mat ad).length=16:=by simp [yx0]
theorem zR2(c len mat pos:Nat)(ad:Nat→Nat×Nat):(belK c len mat pos ad).length=19:=by simp [belK,zf0]
theorem y3o(c len mat pos:Nat)(ad:Nat→Nat×Nat)(q:Nat)(h:q<c)(h16:c≤16):nthA (belK c len mat pos ad) q=some (.sl (ad q).1 (ad q).2 1 0 mat):=by
 rw[Y6,belK,List.getElem?_append_left (by rw[zf0];omega)]
 simp [yx0,h,show q<16 by omega]
theorem yx1(c len mat pos:Nat)(ad:Nat→Nat×Nat):nthA (belK c len mat pos ad) 16=some (.v (.int .i64 len)):=by
 rw[Y6,belK,List.getElem?_append_right (by rw[zf0];omega),zf0];rfl
theorem z82(c len mat pos:Nat)(ad:Nat→Nat×Nat):nthA (belK c len mat pos ad) 17=some (.v (.int .i64 mat)):=by
 rw[Y6,belK,List.getElem?_append_right (by rw[zf0];omega),zf0];rfl
theorem yx2(c len mat pos:Nat)(ad:Nat→Nat×Nat):nthA (belK c len mat pos ad) 18=some (.v (.int .i64 pos)):=by
 rw[Y6,belK,List.getElem?_append_right (by rw[zf0];omega),zf0];rfl
def updA(ad:Nat→Nat×Nat)(q:Nat)(a:Nat×Nat):Nat→Nat×Nat:=fun j=>if j=q then a else ad j
theorem zM8{l:List A}{k:Nat}{a:A}(h:k<l.length):splA l k [a]=l.set k a:=by
 unfold splA
 apply List.ext_getElem?
 intro i
 rw[List.getElem?_set]
 by_cases h1:i<k
 ·rw[if_neg (by omega),List.append_assoc,List.getElem?_append_left (by simp;omega),List.getElem?_take_of_lt h1]
 ·by_cases h2:i=k
  ·subst h2
   rw[if_pos rfl,if_pos h,List.append_assoc,List.getElem?_append_right (by simp;omega)]
   rw[show i-(List.take i l).length=0 by simp;omega];rfl
  ·rw[if_neg (by omega),List.getElem?_append_right (by simp;omega),List.getElem?_drop]
   congr 1;simp;omega
theorem y8j(len mat pos:Nat)(ad:Nat→Nat×Nat)(q:Nat)(a:Nat×Nat)(h:q<len)(h16:len≤16):splA (belC len mat pos ad) q [.sl a.1 a.2 1 0 mat]=belC len mat pos (updA ad q a):=by
 rw[zM8 (by rw[zR2];omega)]
 unfold belC belK
 rw[List.set_append_left _ _ (by rw[zf0];omega)]
 congr 1
 apply List.ext_getElem?
 intro i
 rw[List.getElem?_set,zf0]
 unfold yx0 updA
 by_cases h1:q=i
 ·subst h1;rw[if_pos rfl,if_pos (by omega)];simp [h,show q<16 by omega]
 ·rw[if_neg h1]
  simp only[List.getElem?_map]
  by_cases hi:i<16
  ·simp [hi,show ¬i=q by omega]
  ·simp [Nat.not_lt.1 hi]
theorem y3p(c len mat pos:Nat)(ad:Nat→Nat×Nat)(x:Nat):splA (belK c len mat pos ad) 18 [.v (.int .i64 x)]=belK c len mat x ad:=by
 rw[zM8 (by rw[zR2];omega)]
 unfold belK
 rw[List.set_append_right _ _ (by rw[zf0];omega),zf0];rfl
theorem yk9{H:List Blk}{r c len mat pos:Nat}{ad:Nat→Nat×Nat}(hr:blkAt H r 0=some (belK c len mat pos ad))(h16:len≤16):VR P false zK4 [.lp r 0 0] H (fun x H'=>x=.sl r 0 1 0 len∧H'=H):=by
 refine z31 (by simp) (.inl rfl) fun _ _=>?_
 have n16:=yx1 c len mat pos ad
 have hs:=y8i (b:=len) (c:=len) (len:=16) hr (by omega) (by omega) (by omega) (by rw[zR2];omega)
 simp (disch:=(try simp only[lZ]);omega) only[aZ,aM,zo6,zK6,z5c,xk5,hr,n16,hs]
 exact zc8 (R:=fun r H'=>_) ⟨by first|rfl|simp,rfl⟩
theorem yT6{w:Bool}(xs:List Int)(n:Int):VR P false zt6 [.fs w (ints xs),.v (.int .i64 n)] [] (isR (.v (.bool (decide ((xs.length:Int)=n∧mixE xs=0))))):=by
 refine z49 (by simp) (.inr rfl) fun _ _=>?_
 simp (disch:=(try simp only[lZ]);omega) only[aZ,aM,zt7,zU7]
 refine y1 (fun h1=>?_) (fun h1=>?_)
 ·simp (disch:=(try simp only[lZ]);omega) only[aZ,aM]
  refine(z6o xs).use (yu9 (by simp [zZ,blkAt,za2,A.cells,A.one,Lft.one,retA,A.bdL,A.bd,zn6])) rfl (z7 ?_)
  simp (disch:=(try simp only[lZ]);omega) only[aZ,aM,zU8]
  exact y2 ⟨by rw[show decide (mixE xs=0)=decide ((xs.length:Int)=n∧mixE xs=0) by simp [h1]],rfl⟩
 ·simp (disch:=(try simp only[lZ]);omega) only[aZ,aM,zU8]
  exact y2 ⟨by rw[show false=decide ((xs.length:Int)=n∧mixE xs=0) by simp [h1]],rfl⟩
theorem y5d{kp:Bool}{H:List Blk}{i v:Nat}{xs:List Int}(hb:blkAt H i v=some (ints xs))(n:Nat)(hl:xs.length=n)(hm:mixE xs=0):VR P kp zt6 [.sl i v 1 0 n,.v (.int .i64 n)] H (fun r H'=>r=.v (.bool true)∧H'=H) :=
 (yT6 (w:=false) xs n).use ⟨by rw[← hl];exact zB9 H i v xs.length xs rfl hb,Ld.refl rfl,trivial⟩ rfl ⟨by simp [hl,hm],rfl⟩
theorem y5e {H : List Blk} {r len mat pos i v : Nat} {ad : Nat → Nat × Nat} {xs : List Int} (hr : blkAt H r 0 = some (belC len mat pos ad)) (h1 : 1 ≤ len) (h16 : len ≤ 16) (hp : pos < len) (hm : 1 ≤ mat ∧ mat ≤ 16)
    (hb:blkAt H i v=some (ints xs)) (hl:xs.length=mat) (hx:mixE xs=0) :
    VR P false zV1 [.lp r 0 0,.sl i v 1 0 mat] H (fun x H'=>x=.tup [.sl (ad ((pos+len-1) % len)).1 (ad ((pos+len-1) % len)).2 1 0 mat,.v (.int .i64 0)]∧H'=(H++[(⟨1,ints xs⟩:Blk)]).set r ⟨0,belC len mat ((pos+len-1) % len) (updA ad ((pos+len-1) % len) (H.length,1))⟩):=by
  refine z5d (by simp) (.inl rfl) fun _ _=>?_
  have lt:=y3 hr
  have n16:=yx1 len len mat pos ad
  have n17:=z82 len len mat pos ad
  have n18:=yx2 len len mat pos ad
  have s18:=y3p len len mat pos ad
  have hq:(pos+len-1) % len<len:=Nat.mod_lt _ (by omega)
  have hmod:((pos:Int)+len-1) % len=((pos+len-1) % len:Nat):=by
    rw[show((pos:Int)+len-1)=((pos+len-1:Nat):Int) by omega]
    exact(Int.natCast_emod _ _).symm
  simp (disch:=(try simp only[lZ]);omega) only[aZ,aM,zu2,zV3,hr,n17]
  refine(y5d hb mat hl hx).mono ?_
  rintro x H' ⟨rfl,hH⟩
  rw[hH]
  refine z7 ?_
  simp (disch:=(try simp only[lZ]);omega) only[aZ,aM]
  refine(yk9 hr h16).mono ?_
  rintro x H' ⟨rfl,hH⟩
  rw[hH]
  refine z7 ?_
  generalize hg:(pos+len-1) % len=q at *
  have bl:=zR2 len len mat q ad
  have bl0:=zR2 len len mat pos ad
  have m18:=yx2 len len mat q ad
  have mq:=y3o len len mat q ad q hq h16
  have ms:=fun a=>y8j len mat q ad q a hq h16
  have hir:i≠r:=xk6 hb hr (by rw[zR2,z1e];omega)
  have hb2:blkAt (H.set r ⟨0,belC len mat q ad⟩++[⟨0,[]⟩]) i v=some (ints xs):=by
    rw[x2 _ _ _ _ (by rw[List.length_set];exact y3 hb),y5 _ _ _ _ _ hir];exact hb
  have hms:=ms (H.length,1)
  have hbn:blkAt (H.set r ⟨0,belC len mat q ad⟩++[⟨0,[]⟩]) H.length 0=some []:=by
    have:=x5 (H.set r ⟨0,belC len mat q ad⟩) [⟨0,[]⟩] 0
    rw[List.length_set]at this;exact this
  have hsn:∀B C:Blk,(H.set r B++[C]).set H.length ⟨1,ints xs⟩=H.set r B++[⟨1,ints xs⟩]:=fun B C=>by
    have:=z7z (H.set r B) [C] ⟨1,ints xs⟩
    rw[List.length_set]at this;exact this
  simp (disch:=(try simp only[lZ]);omega) only[aZ,aM,hr,n16,n17,n18,hmod,bl0,bl,s18,m18,mq,hb2,hbn,hsn,hms,z6U]
  exact⟨zc8 (R:=fun r H'=>_) ⟨rfl,rfl⟩,zc8 (R:=fun r H'=>_) ⟨rfl,rfl⟩⟩
def newA(n:Nat):Nat→Nat×Nat:=fun q=>(n+q,0)
theorem y3q(mat:Nat)(ad:Nat→Nat×Nat):yx0 0 mat ad=[nilS,nilS,nilS,nilS,nilS,nilS,nilS,nilS,nilS,nilS,nilS,nilS,nilS,nilS,nilS,nilS]:=rfl
theorem y5f(c len mat pos:Nat)(ad:Nat→Nat×Nat)(h16:c<16):splA (belK c len mat pos ad) c [.sl (ad c).1 (ad c).2 1 0 mat]=belK (c+1) len mat pos ad:=by
 rw[zM8 (by rw[zR2];omega)]
 unfold belK
 rw[List.set_append_left _ _ (by rw[zf0];omega)]
 congr 1
 apply List.ext_getElem?
 intro i
 rw[List.getElem?_set,zf0]
 unfold yx0
 by_cases h1:c=i
 ·subst h1;rw[if_pos rfl,if_pos (by omega)];simp [h16]
 ·rw[if_neg h1]
  simp only[List.getElem?_map]
  by_cases hi:i<16
  ·simp [hi,show(i<c+1↔i<c) by omega]
  ·simp [Nat.not_lt.1 hi]
theorem y3r{H:List Blk}{r mat len:Nat}(h1:1≤len)(h16:len≤16)(hm:1≤mat∧mat≤16){ad:Nat→Nat×Nat}(hr:blkAt H r 0=some (belK 0 len mat 0 (newA H.length))):
    VR P false zJ5 [.lp r 0 0] H (fun x H'=>H'=H.set r ⟨0,belC len mat 0 (newA H.length)⟩++List.replicate len ⟨0,ints (y7 mat)⟩):=by
  refine z3E (by simp) (.inl rfl) fun _ _=>?_
  have lt:=y3 hr
  have hse:=z7g hr
  simp (disch:=(try simp only[lZ]);omega) only[aZ,aM,zo2,zJ7]
  refine(yk9 hr h16).mono ?_
  rintro x H' ⟨rfl,hH⟩
  rw[hH]
  refine z7 ?_
  simp (disch:=(try simp only[lZ]);omega) only[aZ,aM]
  refine AWP.loopM z2l (fun k:Nat=>k≤len) (fun k=>[(2,.v (.int .i64 k))]) (fun k=>H.set r ⟨0,belK k len mat 0 (newA H.length)⟩++List.replicate k ⟨0,ints (y7 mat)⟩) (fun k=>len-k) 0 (by omega) ?_ ?_
  · rw[hse,List.replicate_zero,List.append_nil]
    exact Cut.fg (by simp (disch:=first|omega|simp (disch:=omega) only[aG,aM]) only[fZ,aM,y0,z9,or_true,true_or])
  rintro k hk
  by_cases hlt:k<len
  · have hset : ∀ B : Blk, (H.set r ⟨0, belK k len mat 0 (newA H.length)⟩ ++ List.replicate k (⟨0, ints (y7 mat)⟩ : Blk)).set r B ++ [(⟨0, ints (y7 mat)⟩ : Blk)] = H.set r B ++ List.replicate (k + 1) ⟨0, ints (y7 mat)⟩ := fun B => by
      rw[List.set_append_left _ _ (by rw[List.length_set];exact lt),List.set_set,List.append_assoc,List.replicate_succ']
    have hat:blkAt (H.set r ⟨0,belK k len mat 0 (newA H.length)⟩++List.replicate k ⟨0,ints (y7 mat)⟩) r 0=some (belK k len mat 0 (newA H.length)):=by
      rw[x2 _ _ _ _ (by rw[List.length_set];exact lt)];exact y8 _ _ _ _ lt
    have hlen:(H.set r ⟨0,belK k len mat 0 (newA H.length)⟩++List.replicate k (⟨0,ints (y7 mat)⟩:Blk)).length=H.length+k:=by simp
    generalize H.set r ⟨0,belK k len mat 0 (newA H.length)⟩++List.replicate k (⟨0,ints (y7 mat)⟩:Blk)=K at *
    have ltk:=y3 hat
    have hat2:blkAt (K++[⟨0,ints (y7 mat)⟩]) r 0=some (belK k len mat 0 (newA H.length)):=by rw[x2 _ _ _ _ ltk];exact hat
    have n17:=z82 k len mat 0 (newA H.length)
    have bl:=zR2 k len mat 0 (newA H.length)
    have gr:splA (belK k len mat 0 (newA H.length)) k [.sl K.length 0 1 0 mat]=belK (k+1) len mat 0 (newA H.length):=by rw[hlen];exact y5f k len mat 0 (newA H.length) (by omega)
    unfold y7 at *
    simp (disch:=(try simp only[lZ]);omega) only[aZ,aM,hat,hat2,n17,bl,gr]
    refine⟨k+1,by omega,by omega,?_⟩
    rw[hset]
    exact Cut.fg (by simp (disch:=first|omega|simp (disch:=omega) only[aG,aM]) only[fZ,aM,y0,z9,or_true,true_or])
  · have hke:k=len:=by omega
    subst hke
    simp (disch:=(try simp only[lZ]);omega) only[aZ,aM,z48]
    exact zc8 (R:=fun r H'=>_) rfl
def xk7(len mat:Nat):List Blk:=⟨0,belC len mat 0 (newA 1)⟩ :: List.replicate len ⟨0,ints (y7 mat)⟩
theorem y8k{mat len:Nat}(h1:1≤len)(h16:len≤16)(hm:1≤mat∧mat≤16):VR P false z40 [.v (.int .i64 len),.v (.int .i64 mat)] [] (ownR (.tup [.lp 0 0 0,.v (.int .i64 0)]) (xk7 len mat)):=by
 refine yB7 (by simp) (.inr rfl) fun _ _=>?_
 simp (disch:=(try simp only[lZ]);omega) only[aZ,aM,z41,yd0]
 refine(y3r (r:=0) (len:=len) (mat:=mat) h1 h16 hm (ad:=newA 1) (by unfold belK;rw[y3q];rfl)).mono ?_
 rintro x H' hH
 rw[hH]
 refine z7 ?_
 simp (disch:=(try simp only[lZ]);omega) only[aZ,aM,yY7]
 exact zc8 (R:=ownR _ _) ⟨rfl,rfl⟩
def accR(mat:Nat)(ct:Nat→List Int):Nat→List Int
 | 0=>y7 mat
 | k+1=>zc3 (accR mat ct k) (ct k)
theorem z4r(mat:Nat)(ct:Nat→List Int)(k:Nat):(accR mat ct k).length=mat:=by
 induction k with
 | zero=>simp [accR,y7]
 | succ k ih=>rw[accR,Q4,ih]
def zl9(mat:Nat)(l:List Int):Prop:=l.length=mat∧∀i,0≤l.getD i 0∧l.getD i 0≤1073741824
theorem y3s{mat:Nat}{ct:Nat→List Int}{n:Nat}(h:∀q,q<n→zl9 mat (ct q)):∀k,k≤n→∀i,0≤(accR mat ct k).getD i 0∧(accR mat ct k).getD i 0≤k*1073741824
 | 0,_,i=>by
  have:(y7 mat).getD i 0=0:=by simp [y7,List.getD_eq_getElem?_getD,List.getElem?_replicate];split<;>rfl
  simp only[accR];rw[this];omega
 | k+1,hk,i=>by
  have ih:=y3s h k (by omega) i
  have hc:=(h k (by omega)).2 i
  by_cases hi:i<mat
  ·simp only[accR]
   rw[zr8 _ _ _ (by rw[z4r];exact hi)]
   omega
  ·have:(accR mat ct (k+1)).getD i 0=0:=by rw[List.getD_eq_getElem?_getD,List.getElem?_eq_none (by rw[z4r];omega)];rfl
   rw[this];omega
theorem y3t {H : List Blk} {r len mat pos : Nat} {ad : Nat → Nat × Nat} {ct : Nat → List Int} (hr : blkAt H r 0 = some (belC len mat pos ad)) (h16 : len ≤ 16) (hm : 1 ≤ mat ∧ mat ≤ 16)
    (hc:∀q,q<len→blkAt H (ad q).1 (ad q).2=some (ints (ct q))∧zl9 mat (ct q)) :
    VR P false zo4 [.lp r 0 0] H (fun x H'=>x=.sl H.length 0 1 0 mat∧H'=H++[⟨0,ints (accR mat ct len)⟩]):=by
  refine zD9 (by simp) (.inl rfl) fun _ _=>?_
  have lt:=y3 hr
  have n17:=z82 len len mat pos ad
  have hat:∀B:Blk,blkAt (H++[B]) r 0=some (belC len mat pos ad):=fun B=>by rw[x2 _ _ _ _ lt];exact hr
  unfold y7 at *
  simp (disch:=(try simp only[lZ]);omega) only[aZ,aM,zg5,zo5,hr,n17]
  refine(yk9 (hat _) h16).mono ?_
  rintro x H' ⟨rfl,hH⟩
  rw[hH]
  refine z7 ?_
  simp (disch:=(try simp only[lZ]);omega) only[aZ,aM]
  refine AWP.loopM z2m (fun k:Nat=>k≤len) (fun k=>[(3,.v (.int .i64 k))]) (fun k=>H++[⟨0,ints (accR mat ct k)⟩]) (fun k=>len-k) 0 (by omega) ?_ ?_
  · exact Cut.fg (by simp (disch:=first|omega|simp (disch:=omega) only[aG,aM]) only[fZ,aM,y0,z9,or_true,true_or])
  rintro k hk
  have al:=z4r mat ct k
  by_cases hlt:k<len
  · obtain⟨c1,c2⟩:=hc k hlt
    have hcl:=c2.1
    have mk:=y3o len len mat pos ad k hlt h16
    have hak:=hat ⟨0,ints (accR mat ct k)⟩
    have bl:=zR2 len len mat pos ad
    simp (disch:=(try simp only[lZ]);omega) only[aZ,aM,hak,mk,bl]
    refine AWP.loopM z2n (fun j:Nat=>j≤mat) (fun j=>[(8,.v (.int .i64 j))]) (fun j=>H++[⟨0,ints (upM (accR mat ct k) (ct k) j)⟩]) (fun j=>mat-j) 0 (by omega) ?_ ?_
    · rw[yk8]
      exact Cut.fg (by simp (disch:=first|omega|simp (disch:=omega) only[aG,aM]) only[fZ,aM,y0,z9,or_true,true_or])
    rintro j hj
    have ul:=zI2 (accR mat ct k) (ct k) j
    have hcj:blkAt (H++[⟨0,ints (upM (accR mat ct k) (ct k) j)⟩]) (ad k).1 (ad k).2=some (ints (ct k)):=by rw[x2 _ _ _ _ (y3 c1)];exact c1
    by_cases hjt:j<mat
    · have e0:(upM (accR mat ct k) (ct k) j).getD j 0=(accR mat ct k).getD j 0:=by rw[z2x _ _ _ _ (by omega),if_neg (by omega)]
      have e1:=yD8 (accR mat ct k) (ct k) j (by omega)
      have b1:=y3s (n:=len) (fun q hq=>(hc q hq).2) k hk j
      have b2:=c2.2 j
      simp (disch:=(try simp only[lZ]);omega) only[aZ,aM,hcj,e0,e1]
      refine⟨j+1,by omega,by omega,?_⟩
      try simp (disch:=(try simp only[lZ]);omega) only[aZ,aM]
      exact Cut.fg (by simp (disch:=first|omega|simp (disch:=omega) only[aG,aM]) only[fZ,aM,y0,z9,or_true,true_or])
    · have hje:j=mat:=by omega
      subst hje
      rw[yD7 _ _ _ (by omega)]
      simp (disch:=(try simp only[lZ]);omega) only[aZ,aM]
      refine⟨k+1,by omega,by omega,?_⟩
      try simp (disch:=(try simp only[lZ]);omega) only[aZ,aM]
      exact Cut.fg (by simp (disch:=first|omega|simp (disch:=omega) only[aG,aM]) only[fZ,aM,y0,z9,or_true,true_or])
  · have hke:k=len:=by omega
    subst hke
    simp (disch:=(try simp only[lZ]);omega) only[aZ,aM,zK2]
    exact zc8 (R:=fun r H'=>_) ⟨rfl,rfl⟩
theorem yZ8{H:List Blk}:VR P false zo4 [.v (.pointer none)] H (fun x H'=>x=nilS∧H'=H):=by
 refine zD9 (by simp) (.inl rfl) fun _ _=>?_
 simp (disch:=(try simp only[lZ]);omega) only[aZ,aM,zg5,zo5,zK2]
 exact zc8 (R:=fun r H'=>_) ⟨rfl,rfl⟩
inductive Pc where
 | root|bef|bel|hal|fed
 | bm (m:Nat)|fi (i:Nat)|re (i:Nat)|ri (i q:Nat)
 deriving DecidableEq
abbrev Ad:=Pc→Nat×Nat
structure Sy where
 bef:Nat→List Int
 fst:Nat→List Int
 pos:Nat→Nat
 rng:Nat→Nat→List Int
 hal:List Bool
 fed:List Int
def Pl.mt(p:Pl):Nat:=p.mat.toNat
def Pl.rl(p:Pl)(i:Nat):Nat:=(p.bs.getD i b0).ln.toNat-1
def usd(p:Pl):Pc→Bool
 | .root=>true | .bef=>true | .bel=>true | .hal=>true | .fed=>true
 | .bm m=>decide (m<p.ms.length)
 | .fi i=>decide (i<p.bs.length)
 | .re i=>decide (i<p.bs.length) && decide (0<p.rl i)
 | .ri i q=>decide (i<p.bs.length) && decide (q<p.rl i)
def slA(a:Nat×Nat)(n:Nat):A:=.sl a.1 a.2 1 0 n
def befC(p:Pl)(ad:Ad):List A:=(List.range p.ms.length).map fun m=>slA (ad (.bm m)) p.mt
def cvC(p:Pl)(ad:Ad)(i:Nat):List A:=[slA (ad (.fi i)) p.mt,if 0<p.rl i then .lp (ad (.re i)).1 (ad (.re i)).2 0 else .v (.pointer none)]
def z2y(p:Pl)(ad:Ad):List A:=(List.range p.bs.length).flatMap (cvC p ad)
def zu8(p:Pl)(ad:Ad):List A:=[.v (.int .i64 p.mat),.fs true (mcs true p.ms),.fs true (bts p.bs),.v (.int .i64 p.fd),slA (ad .bef) p.ms.length,.vs (ad .bel).1 (ad .bel).2 2 p.bs.length,slA (ad .hal) p.ms.length,slA (ad .fed) p.mt]
def ctn(p:Pl)(ad:Ad)(s:Sy):Pc→List A
 | .root=>zu8 p ad
 | .bef=>befC p ad
 | .bel=>z2y p ad
 | .hal=>za5 s.hal
 | .fed=>ints s.fed
 | .bm m=>ints (s.bef m)
 | .fi i=>ints (s.fst i)
 | .re i=>belC (p.rl i) p.mt (s.pos i) fun q=>ad (.ri i q)
 | .ri i q=>ints (s.rng i q)
structure PM(H:List Blk)(p:Pl)(ad:Ad)(s:Sy):Prop where
 get:∀c,usd p c=true→blkAt H (ad c).1 (ad c).2=some (ctn p ad s c)
 inj:∀c d,usd p c=true→usd p d=true→(ad c).1=(ad d).1→c=d
 zr:(ad .root).2=0∧∀i,(ad (.re i)).2=0
theorem PM.lt{H:List Blk}{p:Pl}{ad:Ad}{s:Sy}(h:PM H p ad s){c:Pc}(hc:usd p c=true):(ad c).1<H.length:=y3 (h.get c hc)
theorem PM.ne{H:List Blk}{p:Pl}{ad:Ad}{s:Sy}(h:PM H p ad s){c d:Pc}(hc:usd p c=true)(hd:usd p d=true)(hn:c≠d):(ad c).1≠(ad d).1:=fun he=>hn (h.inj c d hc hd he)
theorem PM.grow{H:List Blk}{p:Pl}{ad:Ad}{s:Sy}(h:PM H p ad s)(G:List Blk):PM (H++G) p ad s :=
 ⟨fun c hc=>by rw[x2 _ _ _ _ (h.lt hc)];exact h.get c hc,h.inj,h.zr⟩
theorem PM.gr{F:Nat→Prop}{H H':List Blk}{p:Pl}{ad:Ad}{s:Sy}(h:PM H p ad s)(g:Gr F H H')(hF:∀c,usd p c=true→¬F (ad c).1):PM H' p ad s :=
 ⟨fun c hc=>g.at (h.get c hc) (hF c hc),h.inj,h.zr⟩
theorem PM.put{H:List Blk}{p:Pl}{ad:Ad}{s s':Sy}(h:PM H p ad s)(c:Pc)(hc:usd p c=true)(hd:∀d,d≠c→usd p d=true→ctn p ad s' d=ctn p ad s d):PM (H.set (ad c).1 ⟨(ad c).2,ctn p ad s' c⟩) p ad s' :=
 ⟨fun d hdu=>by
  by_cases e:d=c
  ·subst e;exact y8 _ _ _ _ (h.lt hdu)
  ·rw[y5 _ _ _ _ _ (h.ne hdu hc e),hd d e hdu];exact h.get d hdu,h.inj,h.zr⟩
def upd(ad:Ad)(c:Pc)(a:Nat×Nat):Ad:=fun d=>if d=c then a else ad d
theorem zb2(ad:Ad)(c:Pc)(a:Nat×Nat):upd ad c a c=a:=by simp [upd]
theorem Y5(ad:Ad){c d:Pc}(a:Nat×Nat)(h:d≠c):upd ad c a d=ad d:=by simp [upd,h]
theorem PM.anew {H H' : List Blk} {p : Pl} {ad : Ad} {s s' : Sy} (h : PM H p ad s) (c d : Pc) (a : Nat × Nat) (hc : usd p c = true) (hd : usd p d = true) (hcd : c ≠ d) (hz : c ≠ .root ∧ ∀ i, c ≠ .re i) (hg : Gr (one (ad d).1) H H') (ha : H.length ≤ a.1)
    (h1:blkAt H' a.1 a.2=some (ctn p (upd ad c a) s' c)) (h2:blkAt H' (ad d).1 (ad d).2=some (ctn p (upd ad c a) s' d)) (h3:∀e,e≠c→e≠d→usd p e=true→ctn p (upd ad c a) s' e=ctn p ad s e):PM H' p (upd ad c a) s':=by
  refine⟨fun e he=>?_,fun e f he hf hef=>?_,by rw[Y5 _ _ hz.1.symm];exact h.zr.1,fun i=>by rw[Y5 _ _ (hz.2 i).symm];exact h.zr.2 i⟩
  · by_cases e1:e=c
    · subst e1;rw[zb2];exact h1
    · rw[Y5 _ _ e1]
      by_cases e2:e=d
      · subst e2;exact h2
      · rw[h3 e e1 e2 he];exact hg.at (h.get e he) (h.ne he hd e2)
  · by_cases e1:e=c
    · by_cases f1:f=c
      · rw[e1,f1]
      · rw[e1,zb2,Y5 _ _ f1]at hef
        have:=h.lt hf
        omega
    · by_cases f1:f=c
      · rw[f1,zb2,Y5 _ _ e1]at hef
        have:=h.lt he
        omega
      · rw[Y5 _ _ e1,Y5 _ _ f1]at hef;exact h.inj e f he hf hef
def ftp(p:Pl)(ad:Ad):Nat→Prop:=fun i=>∃c,usd p c=true∧(ad c).1=i
def Tr(p:Pl)(H:List Blk)(ad:Ad)(H':List Blk)(ad':Ad):Prop:=Gr (ftp p ad) H H'∧(∀i,ftp p ad' i→H.length≤i∨ftp p ad i)∧ad' .root=ad .root
theorem Tr.refl{p:Pl}(H:List Blk)(ad:Ad):Tr p H ad H ad:=⟨Gr.refl H,fun i h=>.inr h,rfl⟩
theorem Tr.trans{p:Pl}{H H1 H2:List Blk}{ad ad1 ad2:Ad}(h:Tr p H ad H1 ad1)(k:Tr p H1 ad1 H2 ad2):Tr p H ad H2 ad2 :=
 ⟨h.1.trans k.1 fun i hi hf=>(h.2.1 i hf).resolve_left (by omega),fun i hi=>by
  rcases k.2.1 i hi with h1|h1
  ·exact .inl (Nat.le_trans h.1.1 h1)
  ·exact h.2.1 i h1,k.2.2.trans h.2.2⟩
theorem Tr.gr{p:Pl}{H H':List Blk}{ad:Ad}(h:Gr nof H H'):Tr p H ad H' ad:=⟨h.mono fun _ _ hf=>hf.elim,fun i hi=>.inr hi,rfl⟩
theorem Tr.one{p:Pl}{H H':List Blk}{ad:Ad}{c:Pc}(hc:usd p c=true)(h:Gr (one (ad c).1) H H'):Tr p H ad H' ad:=⟨h.mono fun i _ hf=>⟨c,hc,hf.symm⟩,fun i hi=>.inr hi,rfl⟩
theorem Tr.anew{p:Pl}{H H':List Blk}{ad:Ad}{c d:Pc}{a:Nat×Nat}(hd:usd p d=true)(h:Gr (Go.Proofs.YtcppaddgclkekaaGreat.one (ad d).1) H H')(ha:H.length≤a.1)(hr:c≠.root):Tr p H ad H' (upd ad c a) :=
 ⟨h.mono fun i _ hf=>⟨d,hd,hf.symm⟩,fun i ⟨e,he,hi⟩=>by
  by_cases e1:e=c
  ·subst e1;rw[zb2]at hi;exact .inl (by omega)
  ·rw[Y5 _ _ e1]at hi;exact .inr ⟨e,he,hi⟩,Y5 _ _ (Ne.symm hr)⟩
theorem zq3(p:Pl)(ad:Ad):(befC p ad).length=p.ms.length:=by simp [befC]
theorem z0T(p:Pl)(ad:Ad)(m:Nat)(h:m<p.ms.length):nthA (befC p ad) m=some (slA (ad (.bm m)) p.mt):=by rw[Y6];simp [befC,h]
theorem yT7(p:Pl)(ad:Ad)(m:Nat)(a:Nat×Nat)(h:m<p.ms.length):splA (befC p ad) m [slA a p.mt]=befC p (upd ad (.bm m) a):=by
 rw[zM8 (by rw[zq3];exact h)]
 apply List.ext_getElem?
 intro i
 rw[List.getElem?_set,zq3]
 unfold befC
 by_cases h1:m=i
 ·subst h1;rw[if_pos rfl,if_pos h];simp [h,upd]
 ·rw[if_neg h1]
  simp only[List.getElem?_map]
  by_cases hi:i<p.ms.length
  ·simp [hi,upd,Ne.symm h1]
  ·simp [Nat.not_lt.1 hi]
theorem z0z(p:Pl)(ad:Ad)(i:Nat):(cvC p ad i).length=2:=rfl
theorem z83{α:Type}(f:Nat→List α)(hf:∀i,(f i).length=2)(n:Nat):((List.range n).flatMap f).length=n*2:=by
 induction n with
 | zero=>rfl
 | succ n ih=>rw[List.range_succ,List.flatMap_append,List.length_append,ih];simp [hf];omega
theorem z0A{α:Type}(f:Nat→List α)(hf:∀i,(f i).length=2)(n i j:Nat)(hi:i<n)(hj:j<2):((List.range n).flatMap f)[i*2+j]?=(f i)[j]?:=by
 induction n with
 | zero=>omega
 | succ n ih =>
  rw[List.range_succ,List.flatMap_append]
  have hl:=z83 f hf n
  by_cases h:i<n
  ·rw[List.getElem?_append_left (by omega),ih h]
  ·have hin:i=n:=by omega
   subst hin
   rw[List.getElem?_append_right (by omega),hl,show i*2+j-i*2=j by omega];simp
theorem zr9(p:Pl)(ad:Ad):(z2y p ad).length=p.bs.length*2:=z83 _ (z0z p ad) _
theorem z5t(p:Pl)(ad:Ad)(i:Nat)(h:i<p.bs.length):nthA (z2y p ad) (i*2)=some (slA (ad (.fi i)) p.mt):=by
 rw[Y6];exact z0A _ (z0z p ad) _ i 0 h (by omega)
theorem ye0(p:Pl)(ad:Ad)(i:Nat)(h:i<p.bs.length):nthA (z2y p ad) (i*2+1)=some (if 0<p.rl i then .lp (ad (.re i)).1 (ad (.re i)).2 0 else .v (.pointer none)):=by
 rw[Y6];exact z0A _ (z0z p ad) _ i 1 h (by omega)
theorem y3u(p:Pl)(ad:Ad)(i:Nat)(a:Nat×Nat)(h:i<p.bs.length):splA (z2y p ad) (i*2) [slA a p.mt]=z2y p (upd ad (.fi i) a):=by
 rw[zM8 (by rw[zr9];omega)]
 apply List.ext_getElem?
 intro x
 rw[List.getElem?_set,zr9]
 by_cases hx:x<p.bs.length*2
 ·obtain⟨y,j,hj,rfl⟩:∃y j,j<2∧x=y*2+j:=⟨x / 2,x % 2,by omega,by omega⟩
  have g1:=z0A _ (z0z p ad) p.bs.length y j (by omega) hj
  have g2:=z0A _ (z0z p (upd ad (.fi i) a)) p.bs.length y j (by omega) hj
  unfold z2y
  rw[g2]
  by_cases e:i*2=y*2+j
  ·have hy:y=i:=by omega
   have hj0:j=0:=by omega
   subst hy;subst hj0
   rw[if_pos e,if_pos (by omega)];simp [cvC,upd]
  ·rw[if_neg e,g1]
   by_cases hy:y=i
   ·subst hy
    have hj1:j=1:=by omega
    subst hj1;simp [cvC,upd]
   ·have:(Pc.fi y:Pc)≠.fi i:=by simpa using hy
    simp [cvC,upd,hy]
 ·rw[if_neg (by omega),List.getElem?_eq_none (by rw[zr9];omega),List.getElem?_eq_none (by rw[zr9];omega)]
theorem PM.rt{H:List Blk}{p:Pl}{ad:Ad}{s:Sy}(h:PM H p ad s):blkAt H (ad .root).1 0=some (zu8 p ad):=by have:=h.get .root rfl;rw[h.zr.1]at this;exact this
structure SyOk(p:Pl)(s:Sy):Prop where
 bef:∀m,m<p.ms.length→zl9 p.mt (s.bef m)
 fst:∀i,i<p.bs.length→zl9 p.mt (s.fst i)
 rng:∀i,i<p.bs.length→∀q,q<p.rl i→zl9 p.mt (s.rng i q)
 pos:∀i,i<p.bs.length→0<p.rl i→s.pos i<p.rl i
 hal:s.hal.length=p.ms.length
 fed:zl9 p.mt s.fed
theorem POk.mt1{p:Pl}(h:POk p):1≤p.mt∧p.mt≤16∧p.mat=p.mt:=by
 have:=h.m1
 have:=h.m2
 unfold Pl.mt;omega
theorem POk.rl{p:Pl}(h:POk p){i:Nat}(hi:i<p.bs.length):p.rl i≤15:=by
 have:=h.bt _ (x3 b0 hi)
 unfold Pl.rl;omega
theorem y3v{H:List Blk}{p:Pl}{ad:Ad}{s:Sy}(ok:POk p)(h:PM H p ad s)(m:Int)(h0:0≤m)(h1:m<p.ms.length):VR P false zJ8 [.lp (ad .root).1 0 0,.v (.int .i64 m)] H (fun r H'=>r=.v (.bool (decide (binN p m.toNat)))∧H'=H):=by
 refine z3F (by simp) (.inl rfl) fun _ _=>?_
 have hr:=h.rt
 unfold zu8 slA at hr
 unfold binN
 simp (disch:=(try simp only[lZ]);omega) only[aZ,aM,zo3,zK0,hr]
 refine(W3 (w:=true) (p.ms.getD m.toNat [])).same (by unfold mcA mcC;simp (disch:=first|omega|simp (disch:=omega) only[aG,aM]) only[fZ,aM]) rfl (z7 ?_)
 simp (disch:=(try simp only[lZ]);omega) only[aZ,aM,z5a]
 exact zc8 (R:=fun r H'=>_) ⟨by first|rfl|(simp;rfl),rfl⟩
def fndE(p:Pl)(m:Int):Int:=if m<0∨(p.ms.length:Int)≤m then 7 else if ¬binN p m.toNat then 21 else 0
theorem y3w{H:List Blk}{p:Pl}{ad:Ad}{s:Sy}(ok:POk p)(h:PM H p ad s)(m:Int):VR P false zD5 [.lp (ad .root).1 0 0,.v (.int .i64 m)] H (fun r H'=>r=.v (.int .i64 (fndE p m))∧H'=H):=by
 refine z2j (by simp) (.inl rfl) fun _ _=>?_
 have hr:=h.rt
 unfold zu8 slA at hr
 unfold fndE
 by_cases h1:m<0∨(p.ms.length:Int)≤m
 ·rw[if_pos h1]
  have h1':m<0∨m≥p.ms.length:=h1
  simp (disch:=(try simp only[lZ]);omega) only[aZ,aM,ze6,zk6,hr,decide_eq_true h1,zk7]
  exact zc8 (R:=fun r H'=>_) ⟨rfl,rfl⟩
 ·rw[if_neg h1]
  simp (disch:=(try simp only[lZ]);omega) only[aZ,aM,ze6,zk6,hr,decide_eq_false h1]
  refine(y3v ok h m (by omega) (by omega)).mono ?_
  rintro r H' ⟨rfl,hH⟩
  rw[hH]
  refine z7 ?_
  by_cases h2:binN p m.toNat
  ·rw[if_neg (by simpa using h2),decide_eq_true h2]
   simp (disch:=(try simp only[lZ]);omega) only[aZ,aM,zk7]
   exact zc8 (R:=fun r H'=>_) ⟨rfl,rfl⟩
  ·rw[if_pos h2,decide_eq_false h2]
   simp (disch:=(try simp only[lZ]);omega) only[aZ,aM,zk7]
   exact zc8 (R:=fun r H'=>_) ⟨rfl,rfl⟩
theorem y8l{H:List Blk}{p:Pl}{ad:Ad}{s:Sy}(ok:POk p)(h:PM H p ad s)(m:Int)(he:fndE p m≠0):VR P false zn7 [.lp (ad .root).1 0 0,.v (.int .i64 m)] H (fun r H'=>r=.tup [nilS,.v (.int .i64 (fndE p m))]∧H'=H):=by
 refine zC7 (by simp) (.inl rfl) fun _ _=>?_
 have hv:=y3w ok h m
 generalize fndE p m=e at *
 simp (disch:=(try simp only[lZ]);omega) only[aZ,aM,zg2,zn8]
 refine hv.mono ?_
 rintro r H' ⟨rfl,hH⟩
 rw[hH]
 refine z7 ?_
 simp (disch:=(try simp only[lZ]);omega) only[aZ,aM,decide_eq_true he,zI6]
 exact zc8 (R:=fun r H'=>_) ⟨rfl,rfl⟩
theorem xk8{H:List Blk}{p:Pl}{ad:Ad}{s:Sy}(ok:POk p)(h:PM H p ad s)(hs:SyOk p s)(m:Int)(he:fndE p m=0):VR P false zn7 [.lp (ad .root).1 0 0,.v (.int .i64 m)] H (fun r H'=>r=.tup [.sl H.length 1 1 0 p.mt,.v (.int .i64 0)]∧H'=H++[⟨1,ints (s.bef m.toNat)⟩]):=by
 refine zC7 (by simp) (.inl rfl) fun _ _=>?_
 have hv:=y3w ok h m
 rw[he]at hv
 have hm:0≤m∧m<p.ms.length:=by unfold fndE at he;split at he<;>omega
 have hr:=h.rt
 unfold zu8 slA at hr
 obtain⟨m1,m2,m3⟩:=ok.mt1
 have hb:=h.get .bef rfl
 have hn:=z0T p ad m.toNat (by omega)
 unfold slA at hn
 have hf:=h.get (.bm m.toNat) (by simp [usd];omega)
 have hl:=(hs.bef m.toNat (by omega)).1
 have bl:=zq3 p ad
 simp only[ctn]at hb hf
 simp (disch:=(try simp only[lZ]);omega) only[aZ,aM,zg2,zn8]
 refine hv.mono ?_
 rintro r H' ⟨rfl,hH⟩
 rw[hH]
 refine z7 ?_
 simp (disch:=(try simp only[lZ]);omega) only[aZ,aM,hr,hb,hn,bl]
 rw[← hl]
 refine(yT5 (by omega) (by omega) hf).mono ?_
 rintro r H' ⟨rfl,hH⟩
 rw[hH]
 refine z7 ?_
 simp (disch:=(try simp only[lZ]);omega) only[aZ,aM,zI6]
 exact zc8 (R:=fun r H'=>_) ⟨rfl,rfl⟩
def Pl.nxt(p:Pl)(s:Sy)(i:Nat):Nat:=(s.pos i+p.rl i-1) % p.rl i
def outM(p:Pl)(s:Sy)(i:Nat):List Int:=if 0<p.rl i then s.rng i (p.nxt s i)else s.fst i
def updF{α:Type}(f:Nat→α)(i:Nat)(x:α):Nat→α:=fun j=>if j=i then x else f j
theorem y9{α:Type}(f:Nat→α)(i:Nat)(x:α):updF f i x i=x:=by simp [updF]
theorem x9{α:Type}(f:Nat→α){i j:Nat}(x:α)(h:j≠i):updF f i x j=f j:=by simp [updF,h]
def empS(p:Pl)(s:Sy)(i:Nat):Sy:={s with fst:=updF s.fst i (y7 p.mt)}
def rolS(p:Pl)(s:Sy)(i:Nat)(x:List Int):Sy:={s with pos:=updF s.pos i (p.nxt s i),rng:=updF s.rng i (updF (s.rng i) (p.nxt s i) x)}
def movS(p:Pl)(s:Sy)(i:Nat):Sy:=if 0<p.rl i then rolS p (empS p s i) i (s.fst i)else empS p s i
theorem PM.emp{H:List Blk}{p:Pl}{ad:Ad}{s:Sy}(h:PM H p ad s){i:Nat}(hi:i<p.bs.length):
    PM ((H++[(⟨0,ints (y7 p.mt)⟩:Blk)]).set (ad .bel).1 ⟨(ad .bel).2,z2y p (upd ad (.fi i) (H.length,0))⟩) p (upd ad (.fi i) (H.length,0)) (empS p s i) ∧
    Tr p H ad ((H++[(⟨0,ints (y7 p.mt)⟩:Blk)]).set (ad .bel).1 ⟨(ad .bel).2,z2y p (upd ad (.fi i) (H.length,0))⟩) (upd ad (.fi i) (H.length,0)):=by
  have hb:(ad .bel).1<H.length:=h.lt (c:=.bel) rfl
  have hg:Gr (one (ad .bel).1) H ((H++[(⟨0,ints (y7 p.mt)⟩:Blk)]).set (ad .bel).1 ⟨(ad .bel).2,z2y p (upd ad (.fi i) (H.length,0))⟩) :=
    (Gr.app (F:=one (ad .bel).1) H _).trans (Gr.set (F:=one (ad .bel).1) _ _ _ rfl) fun i _ hf=>hf
  refine⟨h.anew (.fi i) .bel (H.length,0) (by simpa [usd]using hi) rfl (by simp) ⟨by simp,by simp⟩ hg (Nat.le_refl _) ?_ ?_ ?_,Tr.anew rfl hg (Nat.le_refl _) (by simp)⟩
  · rw[y5 _ _ _ _ _ (by simp;omega),x5]
    simp [ctn,empS,y9,blkAt]
  · rw[y8 _ _ _ _ (by simp;omega)];rfl
  · intro e h1 h2 he
    cases e with
    | fi j =>
      have:j≠i:=fun hc=>h1 (by rw[hc])
      simp [ctn,empS,x9 _ _ this]
    | bel=>exact absurd rfl h2
    | root=>simp [ctn,zu8,upd]
    | bef=>simp [ctn,befC,upd]
    | re j=>simp [ctn,upd,empS]
    | _=>rfl
theorem PM.rol {H : List Blk} {p : Pl} {ad : Ad} {s : Sy} (h : PM H p ad s) {i : Nat} (hi : i < p.bs.length) (hr : 0 < p.rl i) (x : List Int) (H' : List Blk)
    (hH':H'=(H++[(⟨1,ints x⟩:Blk)]).set (ad (.re i)).1 ⟨0,belC (p.rl i) p.mt (p.nxt s i) (updA (fun q=>ad (.ri i q)) (p.nxt s i) (H.length,1))⟩) :
    PM H' p (upd ad (.ri i (p.nxt s i)) (H.length,1)) (rolS p s i x)∧Tr p H ad H' (upd ad (.ri i (p.nxt s i)) (H.length,1))∧Gr (one (ad (.re i)).1) H H':=by
  subst hH'
  have hu:usd p (.re i)=true:=by simp [usd,hi,hr]
  have hb:(ad (.re i)).1<H.length:=h.lt hu
  have hq:p.nxt s i<p.rl i:=Nat.mod_lt _ hr
  have hz:=h.zr.2 i
  generalize hqq:p.nxt s i=q at *
  have hg:Gr (one (ad (.re i)).1) H ((H++[(⟨1,ints x⟩:Blk)]).set (ad (.re i)).1 ⟨0,belC (p.rl i) p.mt q (updA (fun q=>ad (.ri i q)) q (H.length,1))⟩) :=
    (Gr.app (F:=one (ad (.re i)).1) H _).trans (Gr.set (F:=one (ad (.re i)).1) _ _ _ rfl) fun i _ hf=>hf
  refine⟨h.anew (.ri i q) (.re i) (H.length,1) (by simp [usd,hi,hq]) hu (by simp) ⟨by simp,by simp⟩ hg (Nat.le_refl _) ?_ ?_ ?_,Tr.anew hu hg (Nat.le_refl _) (by simp),hg⟩
  · rw[y5 _ _ _ _ _ (by simp;omega),x5]
    simp [ctn,rolS,hqq,y9,blkAt]
  · rw[hz,y8 _ _ _ _ (by simp;omega)]
    simp only[ctn,rolS,hqq,y9]
    congr 2
    funext j
    unfold updA upd
    by_cases hj:j=q
    · simp [hj]
    · simp [hj]
  · intro e h1 h2 he
    cases e with
    | ri j r =>
      simp only[ctn,rolS,hqq]
      by_cases hj:j=i
      · subst hj
        have:r≠q:=fun hc=>h1 (by rw[hc])
        rw[y9,x9 _ _ this]
      · rw[x9 _ _ hj]
    | re j =>
      have:j≠i:=fun hc=>h2 (by rw[hc])
      simp [ctn,rolS,x9 _ _ this,upd,this]
    | root=>simp [ctn,zu8,upd]
    | bef=>simp [ctn,befC,upd]
    | bel =>
      simp only[ctn,z2y]
      congr 1<;>first|rfl|(funext j;first|rfl|simp [cvC,upd])
    | _=>rfl
theorem SyOk.out{p:Pl}{s:Sy}(hs:SyOk p s){i:Nat}(hi:i<p.bs.length):zl9 p.mt (outM p s i):=by
 unfold outM
 split
 ·rename_i h;exact hs.rng i hi _ (Nat.mod_lt _ h)
 ·exact hs.fst i hi
theorem zg8(n:Nat):zl9 n (y7 n):=⟨by simp [y7],fun i=>by
 have:(y7 n).getD i 0=0:=by simp [y7,List.getD_eq_getElem?_getD,List.getElem?_replicate];split<;>rfl
 rw[this];omega⟩
theorem SyOk.emp{p:Pl}{s:Sy}(hs:SyOk p s)(i:Nat):SyOk p (empS p s i) :=
 ⟨hs.bef,fun j hj=>by
  simp only[empS,updF];split
  ·exact zg8 _
  ·exact hs.fst j hj,hs.rng,hs.pos,hs.hal,hs.fed⟩
theorem SyOk.rol{p:Pl}{s:Sy}(hs:SyOk p s){i:Nat}(hr:0<p.rl i){x:List Int}(hx:zl9 p.mt x):SyOk p (rolS p s i x) :=
 ⟨hs.bef,hs.fst,fun j hj q hq=>by
  by_cases h:j=i
  ·subst h
   simp only[rolS,y9]
   by_cases h2:q=p.nxt s j
   ·rw[h2,y9];exact hx
   ·rw[x9 _ _ h2];exact hs.rng j hj q hq
  ·simp only[rolS,x9 _ _ h];exact hs.rng j hj q hq,fun j hj h=>by
  simp only[rolS,updF];split
  ·rename_i h;subst h;exact Nat.mod_lt _ hr
  ·exact hs.pos j hj h,hs.hal,hs.fed⟩
theorem SyOk.mov{p:Pl}{s:Sy}(hs:SyOk p s){i:Nat}(hi:i<p.bs.length):SyOk p (movS p s i):=by
 unfold movS
 split
 ·rename_i h;exact(hs.emp i).rol h (hs.fst i hi)
 ·exact hs.emp i
theorem yD9{mat:Nat}(h16:mat≤16){l:List Int}(h:zl9 mat l):mixE l=0 :=
 zz9.2 ⟨by rw[h.1];exact h16,fun x hx=>by obtain⟨k,hk,rfl⟩:=zQ8 0 hx;exact h.2 k⟩
theorem PM.old{H:List Blk}{p:Pl}{ad:Ad}{s:Sy}(h:PM H p ad s){c:Pc}(hc:usd p c=true){a:Nat×Nat}(ha:H.length≤a.1):¬ftp p (upd ad c a) (ad c).1:=by
 rintro⟨d,hd,he⟩
 by_cases hcd:d=c
 ·subst hcd
  rw[zb2]at he
  have:=h.lt hd
  omega
 ·rw[Y5 _ _ hcd]at he
  exact hcd (h.inj d c hd hc he)
theorem y8m{H:List Blk}{p:Pl}{ad:Ad}{s:Sy}(ok:POk p)(h:PM H p ad s)(hs:SyOk p s){i:Nat}(hi:i<p.bs.length):
    VR P false zE0 [.lp (ad .root).1 0 0,.v (.int .i64 i)] H (fun r H'=>∃(ad':Ad) (o:Nat×Nat),r=.tup [slA o p.mt,.v (.int .i64 0)]∧PM H' p ad' (movS p s i)∧Tr p H ad H' ad'∧blkAt H' o.1 o.2=some (ints (outM p s i))∧¬ftp p ad' o.1):=by
  refine z2o (by simp) (.inl rfl) fun _ _=>?_
  have hr:=h.rt
  unfold zu8 slA at hr
  obtain⟨m1,m2,m3⟩:=ok.mt1
  have hb:=h.get .bel rfl
  simp only[ctn]at hb
  have n0:=z5t p ad i hi
  have n1:=ye0 p (upd ad (.fi i) (H.length,0)) i hi
  have bl:=zr9 p ad
  have bl1:=zr9 p (upd ad (.fi i) (H.length,0))
  have sp:=y3u p ad i (H.length,0) hi
  unfold slA at n0 sp
  simp (disch:=(try simp only[lZ]);omega) only[aZ,aM,zk8,zE2,hr,hb,n0,bl]
  rw[m3]at hr
  refine(z0S m2 hr).mono ?_
  rintro r H' ⟨rfl,hH⟩
  rw[hH]
  refine z7 ?_
  obtain⟨P1,T1⟩:=h.emp hi
  have ltr:=h.lt (c:=.root) rfl
  have ltb:=h.lt (c:=.bel) rfl
  have nrb:=h.ne (c:=.root) (d:=.bel) rfl rfl (by simp)
  have hf:=h.get (.fi i) (by simpa [usd]using hi)
  simp only[ctn]at hf
  have hold:=h.old (c:=.fi i) (a:=(H.length,0)) (by simpa [usd]using hi) (Nat.le_refl _)
  have hff:=T1.1
  have e1:∀B:Blk,(H++[(⟨0,ints (y7 p.mt)⟩:Blk)]).set (ad .bel).1 B=H.set (ad .bel).1 B++[⟨0,ints (y7 p.mt)⟩]:=fun B=>List.set_append_left _ _ ltb
  have hgr:Gr (one (ad .bel).1) H ((H++[(⟨0,ints (y7 p.mt)⟩:Blk)]).set (ad .bel).1 ⟨(ad .bel).2,z2y p (upd ad (.fi i) (H.length,0))⟩) :=
    (Gr.app (F:=one (ad .bel).1) H _).trans (Gr.set (F:=one (ad .bel).1) _ _ _ rfl) fun i _ hf=>hf
  have hf1:=hgr.at hf (h.ne (c:=.fi i) (d:=.bel) (by simpa [usd]using hi) rfl (by simp))
  rw[e1]at P1 T1 hf1
  unfold movS outM
  by_cases hrl:0<p.rl i
  · rw[if_pos hrl,if_pos hrl]
    rw[if_pos hrl,P1.zr.2 i]at n1
    have hu:usd p (.re i)=true:=by simp [usd,hi,hrl]
    have hre:=P1.get (.re i) hu
    rw[P1.zr.2 i]at hre
    simp only[ctn]at hre
    simp (disch:=(try simp only[lZ]);omega) only[aZ,aM,hr,hb,n0,n1,bl,bl1,sp]
    have h15:=ok.rl hi
    refine(y5e hre (by omega) (by omega) (hs.pos i hi hrl) ⟨m1,m2⟩ hf1 (hs.fst i hi).1 (yD9 m2 (hs.fst i hi))).mono ?_
    rintro r H' ⟨rfl,hH⟩
    obtain⟨P2,T2,G2⟩:=P1.rol hi hrl (s.fst i) H' hH
    have hq:p.nxt (empS p s i) i<p.rl i:=Nat.mod_lt _ hrl
    have hur:usd p (.ri i (p.nxt (empS p s i) i))=true:=by simp [usd,hi,hq]
    have hout:=P1.get _ hur
    simp only[ctn]at hout
    have hold2:=P1.old hur (a:=((H.set (ad .bel).1 ⟨(ad .bel).2,z2y p (upd ad (.fi i) (H.length,0))⟩++[(⟨0,ints (y7 p.mt)⟩:Blk)]).length,1)) (Nat.le_refl _)
    have hout2:=G2.at hout (P1.ne hur hu (by simp))
    clear hH
    refine z7 ?_
    simp (disch:=(try simp only[lZ]);omega) only[aZ,aM,zE3]
    exact zc8 (R:=fun r H'=>∃(ad':Ad) (o:Nat×Nat),r=.tup [slA o p.mt,.v (.int .i64 0)]∧PM H' p ad' (rolS p (empS p s i) i (s.fst i))∧Tr p H ad H' ad'∧blkAt H' o.1 o.2=some (ints (s.rng i (p.nxt s i)))∧¬ftp p ad' o.1) ⟨_,_,rfl,P2,T1.trans T2,hout2,hold2⟩
  · rw[if_neg hrl,if_neg hrl]
    rw[if_neg hrl]at n1
    simp (disch:=(try simp only[lZ]);omega) only[aZ,aM,hr,hb,n0,n1,bl,bl1,sp,zE3]
    exact zc8 (R:=fun r H'=>∃(ad':Ad) (o:Nat×Nat),r=.tup [slA o p.mt,.v (.int .i64 0)]∧PM H' p ad' (empS p s i)∧Tr p H ad H' ad'∧blkAt H' o.1 o.2=some (ints (s.fst i))∧¬ftp p ad' o.1) ⟨_,ad (.fi i),rfl,P1,T1,hf1,hold⟩
theorem y3x(b:List A)(v:Nat)(p:List A)(M:List (List Int))(T:List Blk):(hm b v p M++T).length=M.length+2+T.length:=by simp [z6r]
theorem xk9(b:List A)(v:Nat)(p:List A)(M:List (List Int))(T:List Blk):blkAt (hm b v p M++T) 0 0=some b:=by rw[x2 _ _ _ _ (by rw[z6r];omega),hm_b]
theorem xl0(b:List A)(v:Nat)(p:List A)(M:List (List Int))(T:List Blk):blkAt (hm b v p M++T) 1 v=some p:=by rw[x2 _ _ _ _ (by rw[z6r];omega),hm_p]
theorem xl1(b:List A)(v:Nat)(p:List A)(k n:Nat)(f:Nat→Nat→Int)(T:List Blk)(o:Nat)(h:o<k):blkAt (hm b v p (mtx k n f)++T) (o+2) 0=some (ints ((List.range n).map fun i=>f o i)):=by
 rw[x2 _ _ _ _ (by rw[z6r,zR1];omega),y8d _ _ _ _ _ _ _ h]
theorem xl2(b:List A)(v:Nat)(p:List A)(k n:Nat)(f:Nat→Nat→Int)(c:List A):blkAt (hm b v p (mtx k n f)++[⟨0,c⟩]) (k+2) 0=some c:=by
 have:k+2=(hm b v p (mtx k n f)).length:=by rw[z6r,zR1]
 rw[this,x5];rfl
theorem y7i(b:List A)(v v':Nat)(p q:List A)(M:List (List Int))(T:List Blk):(hm b v p M++T).set 1 ⟨v',q⟩=hm b v' q M++T:=rfl
theorem y5g(k n:Nat):(ptrA k n).take k=ptrA k n:=List.take_of_length_le (by rw[z8Z];exact Nat.le_refl _)
theorem aR:type_of% (ai9 @y3x<|ai9 @xk9<|ai9 @xl0<|ai9 @xl1<|ai9 @xl2<|@y7i):=⟨@y3x,@xk9,@xl0,@xl1,@xl2,@y7i⟩
theorem yx3{w v:Bool}(m:Mc)(xs:List Int):VR P false z3r [mcA w m,.fs v (ints xs)] [] (isR (zM1 m xs)):=by
 refine z9W (by simp) (.inr rfl) fun _ _=>?_
 unfold mcA mcC
 simp (disch:=(try simp only[lZ]);omega) only[aZ,aM,aQ,aR,zO9,z3t]
 refine(z4q (w:=w) m xs.length).same (by unfold mcA mcC;simp (disch:=first|omega|simp (disch:=omega) only[aG,aM,aQ,aR]) only[fZ,aM,aQ,aR]) rfl (z7 ?_)
 simp (disch:=(try simp only[lZ]);omega) only[aZ,aM,aQ,aR]
 refine y1 (fun h1=>?_) (fun h1=>?_)
 ·have he:msE m xs=w6 m xs.length:=by unfold msE;rw[if_pos h1]
  simp (disch:=(try simp only[lZ]);omega) only[aZ,aM,aQ,aR,zw8]
  exact x1 (r:=.tup [.v (.slice none 0 0),.v (.int .i64 (w6 m xs.length))]) (Fz.refl rfl) ⟨by unfold zM1;rw[if_pos (by omega),he],rfl⟩
 have h1':w6 m xs.length=0:=Classical.not_not.1 h1
 have ok:=zL5 h1'
 have k1:=ok.m1
 have k2:=ok.m2
 have k3:=ok.len
 simp (disch:=(try simp only[lZ]);omega) only[aZ,aM,aQ,aR]
 refine AWP.loopP z8d (fun i:Nat=>i≤xs.length∧∀j,j<i→badE (xs.getD j 0)=0) (fun i=>[(6,.v (.int .i64 i))]) (fun _=>[]) (fun i=>xs.length-i) 0 ⟨by omega,by omega⟩ ?_ ?_
 ·exact Cut.of' 1 rfl (by omega) (by simp (disch:=first|omega|simp (disch:=omega) only[aG,aM,aQ,aR]) only[fZ,aM,aQ,aR]) (by simp (disch:=first|omega|simp (disch:=omega) only[aG,aM,aQ,aR]) only[fZ,aM,aQ,aR])
 rintro i ⟨hi,hi2⟩
 by_cases hlt:i<xs.length
 ·simp (disch:=(try simp only[lZ]);omega) only[aZ,aM,aQ,aR]
  refine y1 (fun h2=>?_) (fun h2=>?_)
  ·have he : msE m xs = 18 := by
    unfold msE;rw[if_neg h1,if_pos]
    rw[zc0 0 hlt hi2 (by rw[z7f (by omega)];omega),z7f (by omega)];omega
   simp (disch:=(try simp only[lZ]);omega) only[aZ,aM,aQ,aR,zw8]
   exact x1 (r:=.tup [.v (.slice none 0 0),.v (.int .i64 18)]) (Fz.refl rfl) ⟨by unfold zM1;rw[if_pos (by omega),he],rfl⟩
  ·simp (disch:=(try simp only[lZ]);omega) only[aZ,aM,aQ,aR]
   refine⟨i+1,⟨by omega,fun j hj=>?_⟩,by omega,?_⟩
   ·by_cases hji:j=i
    ·subst hji;exact yD6 (by omega)
    ·exact hi2 j (by omega)
   ·exact Cut.of' 1 rfl (by omega) (by simp (disch:=first|omega|simp (disch:=omega) only[aG,aM,aQ,aR]) only[fZ,aM,aQ,aR]) (by simp (disch:=first|omega|simp (disch:=omega) only[aG,aM,aQ,aR]) only[fZ,aM,aQ,aR])
 have hie:i=xs.length:=by omega
 subst hie
 have hb:zc7 badE xs=0:=Z0 0 hi2
 have hbd:∀i,i<xs.length→0≤xs.getD i 0∧xs.getD i 0≤1073741824:=fun i hi=>z80 (hi2 i hi)
 simp (disch:=(try simp only[lZ]);omega) only[aZ,aM,aQ,aR]
 refine(zj7 (w:=w) m).same (by unfold mcA mcC;simp (disch:=first|omega|simp (disch:=omega) only[aG,aM,aQ,aR]) only[fZ,aM,aQ,aR]) rfl (z7 ?_)
 simp (disch:=(try simp only[lZ]);omega) only[aZ,aM,aQ,aR]
 refine y1 (fun h3=>?_) (fun h3=>?_)
 ·have he : msE m xs = 13 := by
   unfold msE;rw[if_neg h1,if_neg (by omega),if_pos (by omega)]
  simp (disch:=(try simp only[lZ]);omega) only[aZ,aM,aQ,aR,zw8]
  exact x1 (r:=.tup [.v (.slice none 0 0),.v (.int .i64 13)]) (Fz.refl rfl) ⟨by unfold zM1;rw[if_pos (by omega),he],rfl⟩
 have he:msE m xs=0:=by
  unfold msE;rw[if_neg h1,if_neg (by omega),if_neg (by omega)]
 have ho:y4 m≠0:=by omega
 have ho4:y4 m≤4:=by
  have:=(zl8 ok ho (k:=0) (by omega) (t:=0) (by omega)).2.2.2.1;exact this
 simp (disch:=(try simp only[lZ]);omega) only[aZ,aM,aQ,aR]
 refine AWP.cut (Cut.virt 7 1 rfl) ?_
 refine AWP.loopM z8e (fun j:Nat=>j≤y4 m) (fun j=>[(7,.vs 1 j 1 j),(8,.v (.int .i64 j))]) (fun j=>hm [.fs w (rows w m)] j (ptrA j xs.length) (mtx j xs.length fun _ _=>0)) (fun j=>y4 m-j) 0 (by omega) ?_ ?_
 ·refine Cut.same (H:=hm [.fs w (rows w m)] 0 [] []) (by omega) (z63 (by simp (disch:=first|omega|simp (disch:=omega) only[aG,aM,aQ,aR]) only[fZ,aM,aQ,aR]) rfl) ?_
  simp (disch:=first|omega|simp (disch:=omega) only[aG,aM,aQ,aR]) only[fZ,aM,aQ,aR]
 rintro j hj
 simp (disch:=(try simp only[lZ]);omega) only[aZ,aM,aQ,aR]
 refine(zj7 (w:=w) m).same (by unfold mcA mcC;simp (disch:=first|omega|simp (disch:=omega) only[aG,aM,aQ,aR]) only[fZ,aM,aQ,aR]) rfl (z7 ?_)
 by_cases hlt2:j<y4 m
 ·simp (disch:=(try simp only[lZ]);omega) only[aZ,aM,aQ,aR,yS9,y5g,yD5]
  refine⟨j+1,by omega,by omega,?_⟩
  exact Cut.app (by omega) (z63 (by simp (disch:=first|omega|simp (disch:=omega) only[aG,aM,aQ,aR]) only[fZ,aM,aQ,aR]) (z11 _ _ _ (by simp (disch:=(try simp only[lZ]);omega) only[aZ,aM,aQ,aR];omega))) (by simp (disch:=first|omega|simp (disch:=omega) only[aG,aM,aQ,aR]) only[fZ,aM,aQ,aR])
 have hje:j=y4 m:=by omega
 subst hje
 rw[← yT0 m xs]
 simp (disch:=(try simp only[lZ]);omega) only[aZ,aM,aQ,aR]
 refine AWP.loopM z8f (fun x:Nat=>x≤xs.length) (fun x=>[(9,.v (.int .i64 x))]) (fun x=>hm [.fs w (rows w m)] (y4 m) (ptrA (y4 m) xs.length) (mtx (y4 m) xs.length (msF m xs x 0))) (fun x=>xs.length-x) 0 (by omega) ?_ ?_
 ·exact Cut.same (by omega) (z63 (by simp (disch:=first|omega|simp (disch:=omega) only[aG,aM,aQ,aR]) only[fZ,aM,aQ,aR]) (z11 _ _ _ (by simp (disch:=(try simp only[lZ]);omega) only[aZ,aM,aQ,aR];omega))) (by simp (disch:=first|omega|simp (disch:=omega) only[aG,aM,aQ,aR]) only[fZ,aM,aQ,aR])
 rintro x hx
 by_cases hltx:x<xs.length
 ·have hbx:=hbd x hltx
  have hdl:=yT2 ok ho (k:=x) (by omega) hbx
  have hms:=fun o ho=>y3l m xs (x:=x) (o:=o) ho hltx
  simp (disch:=(try simp only[lZ]);omega) only[aZ,aM,aQ,aR]
  refine(yD3 (w:=w) m _ ok ho x (by omega) (xs.getD x 0) hbx).same (by unfold mcA mcC;simp (disch:=first|omega|simp (disch:=omega) only[aG,aM,aQ,aR]) only[fZ,aM,aQ,aR]) (by simp (disch:=first|omega|simp (disch:=omega) only[aG,aM,aQ,aR]) only[fZ,aM,aQ,aR]) (z7 ?_)
  simp (disch:=(try simp only[lZ]);omega) only[aZ,aM,aQ,aR]
  refine AWP.loopM z8g (fun o:Nat=>o≤y4 m) (fun o=>[(11,.v (.int .i64 o))]) (fun o=>hm [.fs w (rows w m)] (y4 m) (ptrA (y4 m) xs.length) (mtx (y4 m) xs.length (msF m xs x o))) (fun o=>y4 m-o) 0 (by omega) ?_ ?_
  ·exact Cut.same (by omega) (z63 (by simp (disch:=first|omega|simp (disch:=omega) only[aG,aM,aQ,aR]) only[fZ,aM,aQ,aR]) (z11 _ _ _ (by simp (disch:=(try simp only[lZ]);omega) only[aZ,aM,aQ,aR];omega))) (by simp (disch:=first|omega|simp (disch:=omega) only[aG,aM,aQ,aR]) only[fZ,aM,aQ,aR])
  rintro o ho2
  by_cases hlto:o<y4 m
  ·simp (disch:=(try simp only[lZ]);omega) only[aZ,aM,aQ,aR]
   rw[hms o hlto]
   refine⟨o+1,by omega,by omega,?_⟩
   exact Cut.same (by omega) (z63 (by simp (disch:=first|omega|simp (disch:=omega) only[aG,aM,aQ,aR]) only[fZ,aM,aQ,aR]) (z11 _ _ _ (by simp (disch:=(try simp only[lZ]);omega) only[aZ,aM,aQ,aR];omega))) (by simp (disch:=first|omega|simp (disch:=omega) only[aG,aM,aQ,aR]) only[fZ,aM,aQ,aR])
  have hoe:o=y4 m:=by omega
  subst hoe
  rw[yT1]
  simp (disch:=(try simp only[lZ]);omega) only[aZ,aM,aQ,aR]
  refine⟨x+1,by omega,by omega,?_⟩
  exact Cut.same (by omega) (z63 (by simp (disch:=first|omega|simp (disch:=omega) only[aG,aM,aQ,aR]) only[fZ,aM,aQ,aR]) (z11 _ _ _ (by simp (disch:=(try simp only[lZ]);omega) only[aZ,aM,aQ,aR];omega))) (by simp (disch:=first|omega|simp (disch:=omega) only[aG,aM,aQ,aR]) only[fZ,aM,aQ,aR])
 have hxe:x=xs.length:=by omega
 subst hxe
 rw[y3k]
 simp (disch:=(try simp only[lZ]);omega) only[aZ,aM,aQ,aR,zw8]
 refine x1 (r:=zM1 m xs) ?_ ⟨rfl,rfl⟩
 unfold zM1
 rw[if_neg (by omega),he]
 exact Fz.tup ⟨y8g (y3m m xs) (yT3 m xs),Fz.refl rfl,trivial⟩
theorem ye1{α:Type}{a b:List α}(d:α)(hl:a.length=b.length)(h:∀i,i<a.length→a.getD i d=b.getD i d):a=b:=by
 apply List.ext_getElem hl
 intro i h1 h2
 have:=h i h1
 simpa [List.getD_eq_getElem?_getD,h1,h2]using this
theorem y3y{w v:Bool}(a b:List Int)(ha:a.length<1000000000):VR P false z5T [.fs w (ints a),.fs v (ints b)] [] (isR (.v (.bool (decide (a=b))))):=by
 refine yh6 (by simp) (.inr rfl) fun _ _=>?_
 simp (disch:=(try simp only[lZ]);omega) only[aZ,aM,zY3,z5V]
 refine y1 (fun h1=>?_) (fun h1=>?_)
 ·simp (disch:=(try simp only[lZ]);omega) only[aZ,aM,zY4]
  exact y2 ⟨ys2 (fun h=>h1 (by rw[h])),rfl⟩
 have hl:a.length=b.length:=by omega
 simp (disch:=(try simp only[lZ]);omega) only[aZ,aM]
 refine AWP.loopP z9N (fun k:Nat=>k≤a.length∧∀i,i<k→a.getD i 0=b.getD i 0) (fun k=>[(2,.v (.bool false)),(3,.v (.int .i64 k))]) (fun _=>[]) (fun k=>a.length-k) 0 ⟨by omega,fun i hi=>by omega⟩ (by refine Cut.of' (0) ?_ (by omega) ?_ ?_<;>simp (disch:=first|omega|simp (disch:=omega) only[aG,aM]) only[fZ,aM]) ?_
 rintro k ⟨hk,hg⟩
 by_cases hlt:k<a.length
 ·simp (disch:=(try simp only[lZ]);omega) only[aZ,aM]
  refine z68 (fun h3=>?_) (fun h3=>?_)
  ·simp (disch:=(try simp only[lZ]);omega) only[aZ,aM,zY4]
   refine y2 ⟨ys2 (fun h=>?_),rfl⟩
   subst h;simp at h3
  ·simp (disch:=(try simp only[lZ]);omega) only[aZ,aM]
   refine⟨k+1,⟨by omega,fun i hi=>?_⟩,by omega,(by refine Cut.of' (0) ?_ (by omega) ?_ ?_<;>simp (disch:=first|omega|simp (disch:=omega) only[aG,aM]) only[fZ,aM])⟩
   rcases Nat.lt_succ_iff_lt_or_eq.1 hi with h|rfl
   ·exact hg i h
   ·simpa using h3
 ·simp (disch:=(try simp only[lZ]);omega) only[aZ,aM,zY4]
  exact y2 ⟨y73 (ye1 0 hl (fun i hi=>hg i (by omega))),rfl⟩
theorem yE0{w v w' v':Bool}(a b:List (List Int))(ha:a.length<1000000000)(hs:∀r∈a,r.length<1000000000):VR P false zS2 [.fs w (rows w' a),.fs v (rows v' b)] [] (isR (.v (.bool (decide (a=b))))):=by
 refine z4R (by simp) (.inr rfl) fun _ _=>?_
 simp (disch:=(try simp only[lZ]);omega) only[aZ,aM,zs6,zS4]
 refine y1 (fun h1=>?_) (fun h1=>?_)
 ·simp (disch:=(try simp only[lZ]);omega) only[aZ,aM,zs7]
  exact y2 ⟨ys2 (fun h=>h1 (by rw[h])),rfl⟩
 have hl:a.length=b.length:=by omega
 simp (disch:=(try simp only[lZ]);omega) only[aZ,aM]
 refine AWP.loopP z2Y (fun k:Nat=>k≤a.length∧∀i,i<k→a.getD i []=b.getD i []) (fun k=>[(2,.v (.bool false)),(3,.v (.int .i64 k))]) (fun _=>[]) (fun k=>a.length-k) 0 ⟨by omega,fun i hi=>by omega⟩ (by refine Cut.of' (0) ?_ (by omega) ?_ ?_<;>simp (disch:=first|omega|simp (disch:=omega) only[aG,aM]) only[fZ,aM]) ?_
 rintro k ⟨hk,hg⟩
 by_cases hlt:k<a.length
 ·simp (disch:=(try simp only[lZ]);omega) only[aZ,aM]
  refine(y3y (a.getD k []) (b.getD k []) (hs _ (by simp [List.getD_eq_getElem?_getD,hlt]))).same (by simp (disch:=first|omega|simp (disch:=omega) only[aG,aM]) only[fZ,aM]) rfl (z7 ?_)
  simp (disch:=(try simp only[lZ]);omega) only[aZ,aM]
  refine y1 (fun h3=>?_) (fun h3=>?_)
  ·simp (disch:=(try simp only[lZ]);omega) only[aZ,aM,zs7]
   exact y2 ⟨ys2 (fun h=>h3 (by rw[h])),rfl⟩
  ·simp (disch:=(try simp only[lZ]);omega) only[aZ,aM]
   refine⟨k+1,⟨by omega,fun i hi=>?_⟩,by omega,(by refine Cut.of' (0) ?_ (by omega) ?_ ?_<;>simp (disch:=first|omega|simp (disch:=omega) only[aG,aM]) only[fZ,aM])⟩
   rcases Nat.lt_succ_iff_lt_or_eq.1 hi with h|rfl
   ·exact hg i h
   ·exact Classical.not_not.1 h3
 ·simp (disch:=(try simp only[lZ]);omega) only[aZ,aM,zs7]
  exact y2 ⟨y73 (ye1 [] hl (fun i hi=>hg i (by omega))),rfl⟩
end Go.Proofs.YtcppaddgclkekaaGreat
namespace Go.Proofs.YtcppaddgclkekaaGreat
open Go Go.Lft
set_option linter.unusedSimpArgs false
set_option linter.unusedVariables false
def tyPlant:Ty:=(.st [(.int .i64),(.sl (.st [(.sl (.sl (.int .i64)))])),(.sl (.st [(.int .i64),(.int .i64),(.int .i64),(.int .i64)])),(.int .i64)])
theorem tyPlant_is:tyPlant.Is Tryz.prog 25:=by
 unfold tyPlant
 simp only[Ty.Is]
 refine⟨_,Tryz.underlying25,by kernel_rfl,?_⟩
 simp only[Ty.IsL,Ty.Is]
 refine⟨by first|rfl|trivial,by kernel_rfl,?_,?_⟩
 ·
  exact Tryz.underlying3
 refine⟨by first|rfl|trivial,by kernel_rfl,?_,?_⟩
 ·
  refine⟨51,Tryz.underlying22,by kernel_rfl,by decide,?_⟩
  refine⟨_,Tryz.underlying51,by kernel_rfl,?_⟩
  simp only[Ty.IsL,Ty.Is]
  refine⟨by first|rfl|trivial,by kernel_rfl,?_,?_⟩
  ·
   refine⟨26,Tryz.underlying49,by kernel_rfl,by decide,?_⟩
   refine⟨3,Tryz.underlying26,by kernel_rfl,by decide,?_⟩
   exact Tryz.underlying3
  trivial
 refine⟨by first|rfl|trivial,by kernel_rfl,?_,?_⟩
 ·
  refine⟨56,Tryz.underlying23,by kernel_rfl,by decide,?_⟩
  refine⟨_,Tryz.underlying56,by kernel_rfl,?_⟩
  simp only[Ty.IsL,Ty.Is]
  refine⟨by first|rfl|trivial,by kernel_rfl,?_,?_⟩
  ·
   exact Tryz.underlying3
  refine⟨by first|rfl|trivial,by kernel_rfl,?_,?_⟩
  ·
   exact Tryz.underlying3
  refine⟨by first|rfl|trivial,by kernel_rfl,?_,?_⟩
  ·
   exact Tryz.underlying3
  refine⟨by first|rfl|trivial,by kernel_rfl,?_,?_⟩
  ·
   exact Tryz.underlying3
  trivial
 refine⟨by first|rfl|trivial,by kernel_rfl,?_,?_⟩
 ·
  exact Tryz.underlying3
 trivial
def tyMix:Ty:=(.sl (.int .i64))
theorem tyMix_is:tyMix.Is Tryz.prog 27:=by
 unfold tyMix
 simp only[Ty.Is]
 refine⟨3,Tryz.underlying27,by kernel_rfl,by decide,?_⟩
 exact Tryz.underlying3
theorem z5u{α:Type}{w:Bool}(t:Ty)(f:α→A)(Q:α→Prop)(h1:∀ce,t.Sh w ce→∃x,t.pk ce=f x∧Q x):∀(L:List (List A)),(∀ce∈L,t.Sh w ce)→∃l:List α,L.map t.pk=l.map f∧L.length=l.length∧∀x∈l,Q x
 | [],_=>⟨[],rfl,rfl,by simp⟩
 | ce :: L,h=>by
  obtain⟨l,hl,hn,hq⟩:=z5u t f Q h1 L fun x hx=>h x (by simp [hx])
  obtain⟨x,hx,hqx⟩:=h1 ce (h ce (by simp))
  exact⟨x :: l,by rw[List.map_cons,hl,hx];rfl,by simp [hn],fun y hy=>by
   rcases List.mem_cons.1 hy with rfl|hy
   ·exact hqx
   ·exact hq y hy⟩
theorem xl3{w:Bool}{ce:List A}(h:(Ty.int .i64).Sh w ce):∃n:Int,(Ty.int .i64).pk ce=.v (.int .i64 n)∧(Lit.int .i64 n).wf=true:=by
 simp only[Ty.Sh]at h
 obtain⟨n,rfl,h⟩:=h;exact⟨n,rfl,h⟩
theorem xl4{n:Int}(h:(Lit.int .i64 n).wf=true):-9223372036854775808≤n∧n≤9223372036854775807:=by
 simp only[Lit.wf,Bool.and_eq_true,decide_eq_true_eq]at h
 have h1:IntKind.i64.max=9223372036854775807:=rfl
 have h2:IntKind.i64.min=-9223372036854775808:=rfl
 omega
def fit(n:Int):Prop:=-9223372036854775808≤n∧n≤9223372036854775807
theorem y3z{w:Bool}{ce:List A}(h:(Ty.sl (.int .i64)).Sh w ce):∃l:List Int,(Ty.sl (.int .i64)).pk ce=.fs w (ints l)∧l.length≤maxLen∧∀x∈l,fit x:=by
 simp only[Ty.Sh]at h
 obtain⟨L,rfl,hn,h⟩:=h
 obtain⟨l,h1,h2,h3⟩:=z5u (w:=w) (.int .i64) (fun n=>A.v (.int .i64 n)) fit (fun ce hce=>by
  obtain⟨n,e1,e2⟩:=xl3 hce;exact⟨n,e1,xl4 e2⟩) L (fun ce hce=>by simp only[Ty.Sh];exact h ce hce)
 exact⟨l,by show A.fs w _=_;rw[h1];rfl,by omega,h3⟩
theorem y8n{w:Bool}{ce:List A}(h:(Ty.sl (.sl (.int .i64))).Sh w ce):∃l:List (List Int),(Ty.sl (.sl (.int .i64))).pk ce=.fs w (rows w l)∧l.length≤maxLen∧∀r∈l,r.length≤maxLen∧∀x∈r,fit x:=by
 simp only[Ty.Sh]at h
 obtain⟨L,rfl,hn,h⟩:=h
 obtain⟨l,h1,h2,h3⟩:=z5u (w:=w) (.sl (.int .i64)) (fun r=>A.fs w (ints r)) (fun r=>r.length≤maxLen∧∀x∈r,fit x) (fun ce hce=>y3z hce) L (fun ce hce=>by simp only[Ty.Sh];exact h ce hce)
 exact⟨l,by show A.fs w _=_;rw[h1];rfl,by omega,h3⟩
theorem xs6{w:Bool}{ce:List A}(h:(Ty.st [.sl (.sl (.int .i64))]).Sh w ce):∃m:Mc,(Ty.st [.sl (.sl (.int .i64))]).pk ce=mcA w m∧m.length≤maxLen∧∀r∈m,r.length≤maxLen∧∀x∈r,fit x:=by
 simp only[Ty.Sh,Ty.ShL]at h
 obtain⟨a,b,rfl,h,rfl⟩:=h
 obtain⟨m,h1,h2,h3⟩:=y8n (w:=w) (ce:=a) (by simp only[Ty.Sh];exact h)
 obtain⟨L,rfl,_⟩:=h
 exact⟨m,by rw[show(Ty.sl (.sl (.int .i64))).pk [A.fs w (L.map (Ty.sl (.int .i64)).pk)]=.fs w (L.map (Ty.sl (.int .i64)).pk)from rfl]at h1;show A.agg _=_;rw[List.append_nil,h1];rfl,h2,h3⟩
theorem xl5{w:Bool}{ce:List A}(h:(Ty.st [.int .i64,.int .i64,.int .i64,.int .i64]).Sh w ce):∃b:Bt,(Ty.st [.int .i64,.int .i64,.int .i64,.int .i64]).pk ce=btA b∧True:=by
 simp only[Ty.Sh,Ty.ShL]at h
 obtain⟨_,_,rfl,⟨x,rfl,_⟩,_,_,rfl,⟨y,rfl,_⟩,_,_,rfl,⟨z,rfl,_⟩,_,_,rfl,⟨u,rfl,_⟩,rfl⟩:=h
 exact⟨⟨x,y,z,u⟩,rfl,trivial⟩
theorem mix_of{cl:List A}(h:tyMix.Sh true cl):∃l,tyMix.pk cl=.fs true (ints l)∧l.length≤maxLen∧∀x∈l,fit x:=y3z (w:=true) h
theorem plant_of{cl:List A}(h:tyPlant.Sh true cl):∃p,tyPlant.pk cl=plA true true p:=by
 unfold tyPlant at h ⊢
 simp only[Ty.Sh,Ty.ShL]at h
 obtain⟨_,_,rfl,⟨x,rfl,_⟩,_,_,rfl,⟨L,rfl,_,hL⟩,_,_,rfl,⟨M,rfl,_,hM⟩,_,_,rfl,⟨y,rfl,_⟩,rfl⟩:=h
 obtain⟨ms,h1,_⟩:=z5u (w:=true) (.st [.sl (.sl (.int .i64))]) (mcA true) (fun _=>True) (fun ce hce=>by
  obtain⟨m,e,_⟩:=xs6 hce;exact⟨m,e,trivial⟩) L (fun ce hce=>by simp only[Ty.Sh,Ty.ShL];exact hL ce hce)
 obtain⟨bs,h2,_⟩:=z5u (w:=true) (.st [.int .i64,.int .i64,.int .i64,.int .i64]) btA (fun _=>True) (fun ce hce=>xl5 hce) M (fun ce hce=>by simp only[Ty.Sh,Ty.ShL];exact hM ce hce)
 exact⟨⟨x,ms,bs,y⟩,by rw[h1,h2];rfl⟩
end Go.Proofs.YtcppaddgclkekaaGreat
namespace Go.Proofs.YtcppaddgclkekaaGreat
open Go Go.Lft
set_option linter.unusedSimpArgs false
set_option linter.unusedVariables false
attribute [local congr] Q5 Q6 Q7 Q9 Z7 Z8 za0 Z9 Y0 Y2 za1 Q8
end Go.Proofs.YtcppaddgclkekaaGreat
namespace Go.Proofs.YtcppaddgclkekaaGreat
open Go Go.Lft
set_option linter.unusedSimpArgs false
set_option linter.unusedVariables false
structure DvR(t:Int)(r:List Int)(f:Nat)(D:List Int):Prop where
 len:D.length=r.length
 sum:D.sum=t
 nn:∀i,i<r.length→0≤D.getD i 0
 zero:∀i,i<r.length→r.getD i 0=0→D.getD i 0=0
 first:0<t→1≤D.getD f 0
 near:∀i,i<r.length→let most:=if 1000≤t*r.getD f 0 then 1000 else 2000;-most<D.getD i 0*1000-t*r.getD i 0∧D.getD i 0*1000-t*r.getD i 0<most
 thou:t % 1000=0→∀i,i<r.length→D.getD i 0=t / 1000*r.getD i 0
theorem y8o{t:Int}{r p:List Int}{f:Nat}(ht:0≤t)(hr:∀i,i<r.length→0≤r.getD i 0∧r.getD i 0≤1000)(hs:r.sum=1000)(hne:r≠[])(hf:f<r.length)(hf0:0<r.getD f 0)(h:SpR t r p):DvR t r f (divR p f t):=by
 have hl:=h.len
 have htwo:=h.two
 rw[hs]at htwo
 have hn:∀i,i<r.length→0≤t*r.getD i 0:=fun i hi=>Int.mul_nonneg ht (hr i hi).1
 have hp0:∀i,i<r.length→0≤p.getD i 0:=fun i hi=>by
  have:=hn i hi
  rcases htwo i hi with h1|⟨h1,_⟩<;>omega
 have hz:∀i,i<r.length→r.getD i 0=0→p.getD i 0=0:=fun i hi h0=>by
  rcases htwo i hi with h1|⟨h1,h2⟩
  ·rw[h1,h0];simp
  ·rw[h0]at h2;simp at h2
 have hnear:∀i,i<r.length→-1000<p.getD i 0*1000-t*r.getD i 0∧p.getD i 0*1000-t*r.getD i 0<1000:=fun i hi=>by
  rcases htwo i hi with h1|⟨h1,h2⟩<;>omega
 by_cases hc:t=0∨0<p.getD f 0
 ·have hd:divR p f t=p:=by unfold divR;rw[if_pos hc]
  rw[hd]
  refine⟨hl,h.sum,hp0,hz,fun h0=>by omega,fun i hi=>?_,fun hm i hi=>?_⟩
  ·have:=hnear i hi
   simp only
   split<;>omega
  ·have e : t * r.getD i 0 = 1000 * (t / 1000 * r.getD i 0) := by
    rw[← Int.mul_assoc];congr 1;omega
   rcases htwo i hi with h1|⟨h1,h2⟩
   ·rw[h1,e];omega
   ·rw[e]at h2;omega
 ·have ht1:0<t:=by omega
  have hpf:p.getD f 0=0:=by have:=hp0 f hf;omega
  have hb:=z8X h ht1 hne
  have hbl:zc1 p<p.length:=zx2 p p.length (by rw[hl];omega)
  have hbf:zc1 p≠f:=by intro hh;rw[hh]at hb;omega
  have hd:divR p f t=(p.set (zc1 p) (p.getD (zc1 p) 0-1)).set f 1:=by unfold divR;rw[if_neg hc]
  have hg:∀i,i<r.length→(divR p f t).getD i 0=if i=f then 1 else if i=zc1 p then p.getD (zc1 p) 0-1 else p.getD i 0:=fun i hi=>by
   rw[hd,X4,X4]
   by_cases h1:i=f
   ·rw[if_pos h1,if_pos ⟨h1.symm,by simp only[List.length_set];omega⟩]
   ·rw[if_neg h1,if_neg (fun h=>h1 h.1.symm)]
    by_cases h2:i=zc1 p
    ·rw[if_pos h2,if_pos ⟨h2.symm,by omega⟩]
    ·rw[if_neg h2,if_neg (fun h=>h2 h.1.symm)]
  have hq:t*r.getD f 0<1000:=by
   have:=hn f hf
   rcases htwo f hf with h1|⟨h1,_⟩<;>omega
  have hbz:r.getD (zc1 p) 0≠0:=fun h0=>by have:=hz (zc1 p) (by omega) h0;omega
  refine⟨by rw[z7e,hl],?_,fun i hi=>?_,fun i hi h0=>?_,fun _=>?_,fun i hi=>?_,fun hm i hi=>?_⟩
  ·rw[hd,z0P _ _ _ (by simp only[List.length_set];omega),z0P _ _ _ hbl,X4,if_neg (fun h=>hbf h.1),hpf,h.sum];omega
  ·rw[hg i hi]
   have:=hp0 i hi
   split
   ·omega
   ·split<;>omega
  ·rw[hg i hi]
   have:=hz i hi h0
   split
   ·rename_i h1;subst h1;omega
   ·split
    ·rename_i h1;subst h1;exact(hbz h0).elim
    ·exact this
  ·rw[hg f hf,if_pos rfl];omega
  ·have h1:=hnear i hi
   have h2:=hn i hi
   simp only
   rw[if_neg (by omega),hg i hi]
   split
   ·rename_i h3;subst h3;omega
   ·split
    ·rename_i h3;subst h3;omega
    ·omega
  ·exfalso
   have:1000≤t:=by omega
   have:1000*1≤t*r.getD f 0:=Int.mul_le_mul this (by omega) (by omega) (by omega)
   omega
theorem yE1{m:Mc}{mat:Int}(h:MOk m mat)(ho:y4 m≠0){k:Nat}(hk:k<m.length){t:Int}(ht:0≤t∧t≤1073741824):DvR t (m.getD k []) (zd8 m k).toNat (divM m k t):=by
 obtain⟨h1,h2,h3,h4,h5⟩:=zl8 h ho hk ht
 have hlen:=h.len
 obtain⟨g1,g2,g3⟩:=z4k h ho (k:=k) (by omega) (by omega)
 have ok:=zA0 h1
 rw[Int.toNat_natCast]at g3
 exact y8o ht.1 h5 h2 ok.sp.ne (by omega) g3 (z4n ok.sp)
theorem y8p{m:Mc}{mat:Int}(h:MOk m mat)(ho:y4 m≠0){k:Nat}(hk:k<m.length){t:Int}(ht:0≤t∧t≤1073741824):∀i,i<y4 m→0≤(divM m k t).getD i 0∧(divM m k t).getD i 0≤t:=fun i hi=>by
 have d:=yE1 h ho hk ht
 have hl:=(zl8 h ho hk ht).2.2.1
 have h0:=d.nn i (by omega)
 refine⟨h0,?_⟩
 have:=z7b ((List.replicate (divM m k t).length 0).set i ((divM m k t).getD i 0)) (divM m k t) (by simp) fun l hl2=>by
  simp only[List.length_set,List.length_replicate]at hl2
  rw[X4]
  split
  ·rename_i hc;rw[hc.1];exact Int.le_refl _
  ·have:=d.nn l (by rw[← d.len];exact hl2)
   simpa [List.getD_eq_getElem?_getD,hl2]using this
 have z1:(List.replicate (divM m k t).length (0:Int)).sum=0:=by simp
 have z2:(List.replicate (divM m k t).length (0:Int)).getD i 0=0:=by
  rw[List.getD_eq_getElem?_getD,List.getElem?_replicate];split<;>rfl
 rw[z0P _ _ _ (by simp only[List.length_replicate];rw[d.len];omega),d.sum,z1,z2]at this
 omega
end Go.Proofs.YtcppaddgclkekaaGreat
namespace Go.Proofs.YtcppaddgclkekaaGreat
open Go Go.Lft
set_option linter.unusedSimpArgs false
set_option linter.unusedVariables false
attribute [local congr] Q5 Q6 Q7 Q9 Z7 Z8 za0 Z9 Y0 Y2 za1 Q8
theorem yl0{m:Mc}{xs:List Int}(h:msE m xs=0):MOk m xs.length∧y4 m≠0∧∀i,i<xs.length→0≤xs.getD i 0∧xs.getD i 0≤1073741824:=by
 unfold msE at h
 split at h
 ·contradiction
 rename_i h1
 split at h
 ·cases h
 rename_i h2
 split at h
 ·cases h
 rename_i h3
 exact⟨zL5 (Classical.not_not.1 h1),h3,fun i hi=>z80 (zg7 (Classical.not_not.1 h2) _ (ze9 hi))⟩
theorem y3A(m:Mc)(xs:List Int){o i:Nat}(ho:o<y4 m)(hi:i<xs.length):((msM m xs).getD o []).getD i 0=(divM m i (xs.getD i 0)).getD o 0:=by
 unfold msM
 rw[z8Y _ _ _ _ ho,yD4 _ _ _ hi]
theorem y3B(m:Mc)(xs:List Int){o:Nat}(ho:o<y4 m):((msM m xs).getD o []).length=xs.length:=by
 unfold msM
 rw[z8Y _ _ _ _ ho,y3e]
theorem yx4{m:Mc}{xs:List Int}(h:msE m xs=0):zM1 m xs=.tup [.fs true (rows true (msM m xs)),.v (.int .i64 0)]:=by unfold zM1;rw[if_neg (by omega),h]
theorem y3C{w v:Bool}(p:Pl)(m:Int):VR P false z53 [plA w v p,.v (.int .i64 m)] [] (isR (.v (.bool (decide (0≤m∧m<p.ms.length))))):=by
 refine yi0 (by simp) (.inr rfl) fun _ _=>?_
 unfold plA plC
 simp (disch:=(try simp only[lZ]);omega) only[aZ,aM,zZ8,z55,yt7]
 exact y2 ⟨rfl,rfl⟩
theorem y7j{w v:Bool}(p:Pl)(m:Int)(h0:0≤m)(h1:m<p.ms.length):VR P false zZ9 [plA w v p,.v (.int .i64 m)] [] (isR (.v (.bool (decide (binN p m.toNat))))):=by
 refine yi1 (by simp) (.inr rfl) fun _ _=>?_
 unfold plA plC
 simp (disch:=(try simp only[lZ]);omega) only[aZ,aM,z0a,z57]
 refine(W3 (w:=w) (p.ms.getD m.toNat [])).same (by simp (disch:=first|omega|simp (disch:=omega) only[aG,aM]) only[fZ,aM]) rfl (z7 ?_)
 simp (disch:=(try simp only[lZ]);omega) only[aZ,aM,yt8]
 exact y2 ⟨vdec (by unfold binN;omega),rfl⟩
theorem y5h(b:Bt)(m o:Int):VR P false zz3 [btA b,.fp false [.v (.int .i64 m)],.fp false [.v (.int .i64 o)]] [] (isR (.v (.bool (decide (isB m o b))))):=by
 refine z6W (by simp) (.inr rfl) fun _ _=>?_
 unfold btA btC
 simp (disch:=(try simp only[lZ]);omega) only[aZ,aM,zz4,z0m,z8C]
 exact y2 ⟨vdec (by unfold isB;exact Iff.rfl),rfl⟩
theorem z4s{bs:List Bt}{m o:Int}{k:Nat}(hk:k<bs.length)(hb:∀i,i<k→¬isB m o (bs.getD i b0))(hp:isB m o (bs.getD k b0)):zf1 bs m o=k:=zQ7 (p:=isB m o) b0 hk hb hp
theorem ye2{bs:List Bt}{m o:Int}(hb:∀i,i<bs.length→¬isB m o (bs.getD i b0)):zf1 bs m o=-1:=zz8 (p:=isB m o) b0 hb
theorem yl1{v:Bool}(bs:List Bt)(hl:bs.length<1000000000)(m o:Int):VR P false W5 [.fs v (bts bs),.fn zz3 [.fp false [.v (.int .i64 m)],.fp false [.v (.int .i64 o)]]] [] (isR (.v (.int .i64 (zf1 bs m o)))):=by
 refine zh7 (by simp) (.inr rfl) fun _ _=>?_
 simp (disch:=(try simp only[lZ]);omega) only[aZ,aM,w9,W7]
 refine AWP.loopP zh2 (fun k:Nat=>k≤bs.length∧∀i,i<k→¬isB m o (bs.getD i b0)) (fun k=>[(2,.v (.int .i64 0)),(3,.v (.int .i64 k))]) (fun _=>[]) (fun k=>bs.length-k) 0 ⟨by omega,fun i hi=>by omega⟩ (by refine Cut.of' (0) ?_ (by omega) ?_ ?_<;>simp (disch:=first|omega|simp (disch:=omega) only[aG,aM]) only[fZ,aM]) ?_
 rintro k ⟨hk,hb⟩
 by_cases hlt:k<bs.length
 ·simp (disch:=(try simp only[lZ]);omega) only[aZ,aM]
  refine⟨by kernel_rfl,?_⟩
  refine(y5h (bs.getD k b0) m o).same (by unfold btA btC;simp (disch:=first|omega|simp (disch:=omega) only[aG,aM]) only[fZ,aM]) rfl (z7 ?_)
  simp (disch:=(try simp only[lZ]);omega) only[aZ,aM]
  refine y1 (fun h3=>?_) (fun h3=>?_)
  ·simp (disch:=(try simp only[lZ]);omega) only[aZ,aM,W8]
   exact y2 ⟨by rw[z4s hlt hb h3],rfl⟩
  ·simp (disch:=(try simp only[lZ]);omega) only[aZ,aM]
   refine⟨k+1,⟨by omega,fun i hi=>?_⟩,by omega,(by refine Cut.of' (0) ?_ (by omega) ?_ ?_<;>simp (disch:=first|omega|simp (disch:=omega) only[aG,aM]) only[fZ,aM])⟩
   rcases Nat.lt_succ_iff_lt_or_eq.1 hi with h|rfl
   ·exact hb i h
   ·exact h3
 ·simp (disch:=(try simp only[lZ]);omega) only[aZ,aM,W8]
  exact y2 ⟨by rw[ye2 fun i hi=>hb i (by omega)],rfl⟩
theorem yl2{w v:Bool}(p:Pl)(hl:p.bs.length<1000000000)(m o:Int):VR P false z3Y [plA w v p,.v (.int .i64 m),.v (.int .i64 o)] [] (isR (.v (.int .i64 (zf1 p.bs m o)))):=by
 refine z94 (by simp) (.inr rfl) fun _ _=>?_
 unfold plA plC
 simp (disch:=(try simp only[lZ]);omega) only[aZ,aM,zP8,z30]
 refine(yl1 (v:=v) p.bs hl m o).use ⟨Ld.refl (by simp (disch:=first|omega|simp (disch:=omega) only[aG,aM]) only[fZ,aM]),Ld.fn ⟨Ld.lp (o:=0) rfl (LdL.refl rfl) (by simp),Ld.lp (o:=0) rfl (LdL.refl rfl) (by simp),trivial⟩,trivial⟩ rfl (z7 ?_)
 simp (disch:=(try simp only[lZ]);omega) only[aZ,aM,yi4]
 exact y2 ⟨rfl,rfl⟩
theorem yT8{w v:Bool}(p:Pl)(hl:p.bs.length<1000000000)(m o:Int):VR P false z3J [plA w v p,.v (.int .i64 m),.v (.int .i64 o)] [] (isR (.v (.int .i64 (zf1 p.bs m o)))):=by
 refine z90 (by simp) (.inr rfl) fun _ _=>?_
 unfold plA plC
 simp (disch:=(try simp only[lZ]);omega) only[aZ,aM,zP3,z3L]
 refine AWP.loopP z8o (fun k:Nat=>k≤p.bs.length∧∀i,i<k→¬isB m o (p.bs.getD i b0)) (fun k=>[(3,.v (.int .i64 0)),(4,.v (.int .i64 k))]) (fun _=>[]) (fun k=>p.bs.length-k) 0 ⟨by omega,fun i hi=>by omega⟩ (by refine Cut.of' (1) ?_ (by omega) ?_ ?_<;>simp (disch:=first|omega|simp (disch:=omega) only[aG,aM]) only[fZ,aM]) ?_
 rintro k ⟨hk,hb⟩
 by_cases hlt:k<p.bs.length
 ·simp (disch:=(try simp only[lZ]);omega) only[aZ,aM]
  refine y1 (fun h3=>?_) (fun h3=>?_)
  ·simp (disch:=(try simp only[lZ]);omega) only[aZ,aM,z3M]
   exact y2 ⟨by rw[z4s hlt hb h3],rfl⟩
  ·simp (disch:=(try simp only[lZ]);omega) only[aZ,aM]
   refine⟨k+1,⟨by omega,fun i hi=>?_⟩,by omega,(by refine Cut.of' (1) ?_ (by omega) ?_ ?_<;>simp (disch:=first|omega|simp (disch:=omega) only[aG,aM]) only[fZ,aM])⟩
   rcases Nat.lt_succ_iff_lt_or_eq.1 hi with h|rfl
   ·exact hb i h
   ·exact h3
 ·simp (disch:=(try simp only[lZ]);omega) only[aZ,aM,z3M]
  exact y2 ⟨by rw[ye2 fun i hi=>hb i (by omega)],rfl⟩
theorem zx7{ms:List Mc}{b:Bt}(h:b.fr<0∨(ms.length:Int)≤b.fr∨b.ot<0∨(y4 (ms.getD b.fr.toNat []):Int)≤b.ot∨b.to<0∨(ms.length:Int)≤b.to):zu7 ms b=7:=by unfold zu7;rw[if_pos h]
theorem z84{ms:List Mc}{b:Bt}(h:¬(b.fr<0∨(ms.length:Int)≤b.fr∨b.ot<0∨(y4 (ms.getD b.fr.toNat []):Int)≤b.ot∨b.to<0∨(ms.length:Int)≤b.to))(h2:b.ln<1∨16<b.ln):zu7 ms b=1:=by unfold zu7;rw[if_neg h,if_pos h2]
theorem ye3{ms:List Mc}{b:Bt}(h:¬(b.fr<0∨(ms.length:Int)≤b.fr∨b.ot<0∨(y4 (ms.getD b.fr.toNat []):Int)≤b.ot∨b.to<0∨(ms.length:Int)≤b.to))(h2:¬(b.ln<1∨16<b.ln)):zu7 ms b=0:=by unfold zu7;rw[if_neg h,if_neg h2]
theorem y8q{w v:Bool}(p:Pl)(b:Bt):VR P false z3V [plA w v p,btA b] [] (isR (.v (.int .i64 (zu7 p.ms b)))):=by
 refine z93 (by simp) (.inr rfl) fun _ _=>?_
 unfold btA btC plA plC
 simp (disch:=(try simp only[lZ]);omega) only[aZ,aM,zP7,z3X]
 refine(y3C (w:=w) (v:=v) p b.fr).same (by simp (disch:=first|omega|simp (disch:=omega) only[aG,aM]) only[fZ,aM]) rfl (z7 ?_)
 by_cases h1:0≤b.fr∧b.fr<p.ms.length
 ·simp (disch:=(try simp only[lZ]);omega) only[aZ,aM,decide_eq_true h1]
  by_cases h2:b.ot<0
  ·simp (disch:=(try simp only[lZ]);omega) only[aZ,aM,zg6]
   exact y2 ⟨by rw[zx7 (by omega)],rfl⟩
  ·simp (disch:=(try simp only[lZ]);omega) only[aZ,aM]
   refine(W3 (w:=w) (p.ms.getD b.fr.toNat [])).same (by simp (disch:=first|omega|simp (disch:=omega) only[aG,aM]) only[fZ,aM]) rfl (z7 ?_)
   simp (disch:=(try simp only[lZ]);omega) only[aZ,aM]
   by_cases h3:(y4 (p.ms.getD b.fr.toNat []):Int)≤b.ot
   ·simp (disch:=(try simp only[lZ]);omega) only[aZ,aM,zg6]
    exact y2 ⟨by rw[zx7 (by omega)],rfl⟩
   ·simp (disch:=(try simp only[lZ]);omega) only[aZ,aM]
    refine(y3C (w:=w) (v:=v) p b.to).same (by simp (disch:=first|omega|simp (disch:=omega) only[aG,aM]) only[fZ,aM]) rfl (z7 ?_)
    by_cases h4:0≤b.to∧b.to<p.ms.length
    ·have hn:¬(b.fr<0∨(p.ms.length:Int)≤b.fr∨b.ot<0∨(y4 (p.ms.getD b.fr.toNat []):Int)≤b.ot∨b.to<0∨(p.ms.length:Int)≤b.to):=by omega
     simp (disch:=(try simp only[lZ]);omega) only[aZ,aM,decide_eq_true h4]
     refine y1 (fun h5=>?_) (fun h5=>?_)
     ·simp (disch:=(try simp only[lZ]);omega) only[aZ,aM,zg6]
      exact y2 ⟨by rw[z84 hn h5],rfl⟩
     ·simp (disch:=(try simp only[lZ]);omega) only[aZ,aM,zg6]
      exact y2 ⟨by rw[ye3 hn h5],rfl⟩
    ·simp (disch:=(try simp only[lZ]);omega) only[aZ,aM,decide_eq_false h4,zg6]
     exact y2 ⟨by rw[zx7 (by omega)],rfl⟩
 ·simp (disch:=(try simp only[lZ]);omega) only[aZ,aM,decide_eq_false h1,zg6]
  exact y2 ⟨by rw[zx7 (by omega)],rfl⟩
def z85(ms:List Mc)(bs:List Bt):Int:=if zg9 ms bs≠0 then zg9 ms bs else if ya5 ms bs then 3 else 0
theorem ye4{ms:List Mc}{bs:List Bt}{k:Nat}(hk:k<bs.length)(hb:∀i,i<k→zu7 ms (bs.getD i b0)=0)(hn:zu7 ms (bs.getD k b0)≠0):zg9 ms bs=zu7 ms (bs.getD k b0):=by
 have:=zc0 (f:=zu7 ms) b0 hk hb hn
 unfold zg9;rw[this,if_pos hn]
theorem z6s{ms:List Mc}{bs:List Bt}(hb:∀i,i<bs.length→zu7 ms (bs.getD i b0)=0)(ht:y3a bs):zg9 ms bs=6:=by
 have:=Z0 (f:=zu7 ms) b0 hb
 unfold zg9;rw[this,if_neg (by omega),if_pos ht]
theorem z86{ms:List Mc}{bs:List Bt}(hb:∀i,i<bs.length→zu7 ms (bs.getD i b0)=0)(ht:¬y3a bs):zg9 ms bs=0:=by
 have:=Z0 (f:=zu7 ms) b0 hb
 unfold zg9;rw[this,if_neg (by omega),if_neg ht]
theorem z5v{ms:List Mc}{bs:List Bt}(h:zg9 ms bs≠0):z85 ms bs=zg9 ms bs:=by unfold z85;rw[if_pos h]
theorem z87{ms:List Mc}{bs:List Bt}(h:zg9 ms bs=0)(h2:ya5 ms bs):z85 ms bs=3:=by unfold z85;rw[if_neg (by omega),if_pos h2]
theorem z88{ms:List Mc}{bs:List Bt}(h:zg9 ms bs=0)(h2:¬ya5 ms bs):z85 ms bs=0:=by unfold z85;rw[if_neg (by omega),if_neg h2]
theorem xl6{m:Mc}{mat:Int}(h:w6 m mat=0):y4 m≤4:=by
 have hmk:=zL5 h
 rcases yR0 (m:=m)with h|h
 ·omega
 ·exact(hmk.row _ (x3 [] h)).2.1
theorem y5i{w v:Bool}(p:Pl)(hl:p.bs.length≤48)(hm:p.ms.length≤24)(h4:∀i,i<p.ms.length→y4 (p.ms.getD i [])≤4):VR P false z1M [plA w v p] [] (isR (.v (.int .i64 (z85 p.ms p.bs)))):=by
 refine z8j (by simp) (.inr rfl) fun _ _=>?_
 unfold plA plC
 simp (disch:=(try simp only[lZ]);omega) only[aZ,aM,zH4,z1O]
 refine AWP.loopP z6O (fun k:Nat=>k≤p.bs.length∧∀i,i<k→zu7 p.ms (p.bs.getD i b0)=0) (fun k=>[(1,.v (.int .i64 0)),(3,.v (.int .i64 k))]) (fun _=>[]) (fun k=>p.bs.length-k) 0 ⟨by omega,fun i hi=>by omega⟩ (by refine Cut.of' (1) ?_ (by omega) ?_ ?_<;>simp (disch:=first|omega|simp (disch:=omega) only[aG,aM]) only[fZ,aM]) ?_
 rintro k ⟨hk,hb⟩
 by_cases hlt:k<p.bs.length
 ·simp (disch:=(try simp only[lZ]);omega) only[aZ,aM]
  refine(y8q (w:=w) (v:=v) p (p.bs.getD k b0)).same (by unfold plA plC btA btC;simp (disch:=first|omega|simp (disch:=omega) only[aG,aM]) only[fZ,aM]) rfl (z7 ?_)
  simp (disch:=(try simp only[lZ]);omega) only[aZ,aM]
  refine y1 (fun h3=>?_) (fun h3=>?_)
  ·simp (disch:=(try simp only[lZ]);omega) only[aZ,aM,zq0]
   have h4:=ye4 hlt hb h3
   exact y2 ⟨by rw[z5v (by omega),h4],rfl⟩
  ·simp (disch:=(try simp only[lZ]);omega) only[aZ,aM]
   refine⟨k+1,⟨by omega,fun i hi=>?_⟩,by omega,(by refine Cut.of' (1) ?_ (by omega) ?_ ?_<;>simp (disch:=first|omega|simp (disch:=omega) only[aG,aM]) only[fZ,aM])⟩
   rcases Nat.lt_succ_iff_lt_or_eq.1 hi with h|rfl
   ·exact hb i h
   ·exact Classical.not_not.1 h3
 have hb:∀i,i<p.bs.length→zu7 p.ms (p.bs.getD i b0)=0:=fun i hi=>hb i (by omega)
 simp (disch:=(try simp only[lZ]);omega) only[aZ,aM]
 refine AWP.loopP z6P (fun k:Nat=>k≤p.bs.length∧∀i,i<k→zf1 p.bs (p.bs.getD i b0).fr (p.bs.getD i b0).ot=i) (fun k=>[(1,.v (.int .i64 0)),(9,.v (.int .i64 k))]) (fun _=>[]) (fun k=>p.bs.length-k) 0 ⟨by omega,fun i hi=>by omega⟩ (by refine Cut.of' (1) ?_ (by omega) ?_ ?_<;>simp (disch:=first|omega|simp (disch:=omega) only[aG,aM]) only[fZ,aM]) ?_
 rintro k ⟨hk,hu⟩
 by_cases hlt:k<p.bs.length
 ·simp (disch:=(try simp only[lZ]);omega) only[aZ,aM]
  refine(yl2 (w:=w) (v:=v) p (by omega) (p.bs.getD k b0).fr (p.bs.getD k b0).ot).same (by unfold plA plC;simp (disch:=first|omega|simp (disch:=omega) only[aG,aM]) only[fZ,aM]) rfl (z7 ?_)
  simp (disch:=(try simp only[lZ]);omega) only[aZ,aM]
  refine y1 (fun h3=>?_) (fun h3=>?_)
  ·simp (disch:=(try simp only[lZ]);omega) only[aZ,aM,zq0]
   have h4:=z6s hb ⟨k,hlt,h3⟩
   exact y2 ⟨by rw[z5v (by omega),h4],rfl⟩
  ·simp (disch:=(try simp only[lZ]);omega) only[aZ,aM]
   refine⟨k+1,⟨by omega,fun i hi=>?_⟩,by omega,(by refine Cut.of' (1) ?_ (by omega) ?_ ?_<;>simp (disch:=first|omega|simp (disch:=omega) only[aG,aM]) only[fZ,aM])⟩
   rcases Nat.lt_succ_iff_lt_or_eq.1 hi with h|rfl
   ·exact hu i h
   ·exact Classical.not_not.1 h3
 have hf:=z86 hb fun⟨i,h1,h2⟩=>h2 (hu i (by omega))
 simp (disch:=(try simp only[lZ]);omega) only[aZ,aM]
 refine AWP.loopP z6Q (fun k:Nat=>k≤p.ms.length∧∀i,i<k→∀o,o<y4 (p.ms.getD i [])→0≤zf1 p.bs i o) (fun k=>[(1,.v (.int .i64 0)),(15,.v (.int .i64 k))]) (fun _=>[]) (fun k=>p.ms.length-k) 0 ⟨by omega,fun i hi=>by omega⟩ (by refine Cut.of' (1) ?_ (by omega) ?_ ?_<;>simp (disch:=first|omega|simp (disch:=omega) only[aG,aM]) only[fZ,aM]) ?_
 rintro k ⟨hk,hu2⟩
 by_cases hlt:k<p.ms.length
 ·have hk4:=h4 k hlt
  simp (disch:=(try simp only[lZ]);omega) only[aZ,aM]
  refine(W3 (w:=w) (p.ms.getD k [])).same (by unfold mcA mcC;simp (disch:=first|omega|simp (disch:=omega) only[aG,aM]) only[fZ,aM]) rfl (z7 ?_)
  simp (disch:=(try simp only[lZ]);omega) only[aZ,aM]
  refine AWP.loopP z6R (fun o:Nat=>o≤y4 (p.ms.getD k [])∧∀i,i<o→0≤zf1 p.bs k i) (fun o=>[(1,.v (.int .i64 0)),(21,.v (.int .i64 o))]) (fun _=>[]) (fun o=>y4 (p.ms.getD k [])-o) 0 ⟨by omega,fun i hi=>by omega⟩ (by refine Cut.of' (2) ?_ (by omega) ?_ ?_<;>simp (disch:=first|omega|simp (disch:=omega) only[aG,aM]) only[fZ,aM]) ?_
  rintro o ⟨ho,hv⟩
  by_cases hol:o<y4 (p.ms.getD k [])
  ·simp (disch:=(try simp only[lZ]);omega) only[aZ,aM]
   refine(yl2 (w:=w) (v:=v) p (by omega) k o).same (by unfold plA plC;simp (disch:=first|omega|simp (disch:=omega) only[aG,aM]) only[fZ,aM]) rfl (z7 ?_)
   simp (disch:=(try simp only[lZ]);omega) only[aZ,aM]
   refine y1 (fun h3=>?_) (fun h3=>?_)
   ·simp (disch:=(try simp only[lZ]);omega) only[aZ,aM,zq0]
    exact y2 ⟨by rw[z87 hf ⟨k,hlt,o,hol,h3⟩],rfl⟩
   ·simp (disch:=(try simp only[lZ]);omega) only[aZ,aM]
    refine⟨o+1,⟨by omega,fun i hi=>?_⟩,by omega,(by refine Cut.of' (2) ?_ (by omega) ?_ ?_<;>simp (disch:=first|omega|simp (disch:=omega) only[aG,aM]) only[fZ,aM])⟩
    rcases Nat.lt_succ_iff_lt_or_eq.1 hi with h|rfl
    ·exact hv i h
    ·omega
  ·simp (disch:=(try simp only[lZ]);omega) only[aZ,aM]
   refine⟨k+1,⟨by omega,fun i hi=>?_⟩,by omega,(by refine Cut.of' (1) ?_ (by omega) ?_ ?_<;>simp (disch:=first|omega|simp (disch:=omega) only[aG,aM]) only[fZ,aM])⟩
   rcases Nat.lt_succ_iff_lt_or_eq.1 hi with h|rfl
   ·exact hu2 i h
   ·intro o' ho';exact hv o' (by omega)
 ·simp (disch:=(try simp only[lZ]);omega) only[aZ,aM,zq0]
  refine y2 ⟨?_,rfl⟩
  rw[z88 hf]
  rintro⟨i,h1,o,h2,h3⟩
  have:=hu2 i (by omega) o h2
  omega
theorem yE2{w v:Bool}(p:Pl)(hl:p.bs.length≤48)(hm:p.ms.length≤24):VR P false z3G [plA w v p] [] (isR (.v (.int .i64 (zg9 p.ms p.bs)))):=by
 refine z9Z (by simp) (.inr rfl) fun _ _=>?_
 unfold plA plC
 simp (disch:=(try simp only[lZ]);omega) only[aZ,aM,zP2,z3I]
 refine AWP.loopP z8l (fun k:Nat=>k≤p.bs.length∧∀i,i<k→zu7 p.ms (p.bs.getD i b0)=0) (fun k=>[(1,.v (.int .i64 0)),(2,.v (.int .i64 k))]) (fun _=>[]) (fun k=>p.bs.length-k) 0 ⟨by omega,fun i hi=>by omega⟩ (by refine Cut.of' (1) ?_ (by omega) ?_ ?_<;>simp (disch:=first|omega|simp (disch:=omega) only[aG,aM]) only[fZ,aM]) ?_
 rintro k ⟨hk,hb⟩
 by_cases hlt:k<p.bs.length
 ·have next : zu7 p.ms (p.bs.getD k b0) = 0 → ∀ i, i < k + 1 → zu7 p.ms (p.bs.getD i b0) = 0 := fun h3 i hi => by
   rcases Nat.lt_succ_iff_lt_or_eq.1 hi with h|rfl
   ·exact hb i h
   ·exact h3
  have hit:=ye4 (ms:=p.ms) hlt hb
  generalize hbk:p.bs.getD k b0=b at next hit
  by_cases h1:(b.fr<0∨(p.ms.length:Int)≤b.fr)∨b.ot<0
  ·have h4:=zx7 (ms:=p.ms) (b:=b) (by omega)
   simp (disch:=(try simp only[lZ]);omega) only[aZ,aM,hbk,zk9]
   exact y2 ⟨by rw[hit (by omega),h4],rfl⟩
  ·simp (disch:=(try simp only[lZ]);omega) only[aZ,aM,hbk]
   refine(zj7 (w:=w) (p.ms.getD b.fr.toNat [])).same (by unfold mcA mcC;simp (disch:=first|omega|simp (disch:=omega) only[aG,aM]) only[fZ,aM]) rfl (z7 ?_)
   simp (disch:=(try simp only[lZ]);omega) only[aZ,aM]
   refine y1 (fun h2=>?_) (fun h2=>?_)
   ·have h4:=zx7 (ms:=p.ms) (b:=b) (by omega)
    simp (disch:=(try simp only[lZ]);omega) only[aZ,aM,zk9]
    exact y2 ⟨by rw[hit (by omega),h4],rfl⟩
   ·have hn:¬(b.fr<0∨(p.ms.length:Int)≤b.fr∨b.ot<0∨(y4 (p.ms.getD b.fr.toNat []):Int)≤b.ot∨b.to<0∨(p.ms.length:Int)≤b.to):=by omega
    simp (disch:=(try simp only[lZ]);omega) only[aZ,aM]
    refine y1 (fun h5=>?_) (fun h5=>?_)
    ·have h4:=z84 hn h5
     simp (disch:=(try simp only[lZ]);omega) only[aZ,aM,zk9]
     exact y2 ⟨by rw[hit (by omega),h4],rfl⟩
    ·simp (disch:=(try simp only[lZ]);omega) only[aZ,aM]
     exact⟨k+1,⟨by omega,next (ye3 hn h5)⟩,by omega,(by refine Cut.of' (1) ?_ (by omega) ?_ ?_<;>simp (disch:=first|omega|simp (disch:=omega) only[aG,aM]) only[fZ,aM])⟩
 have hb:∀i,i<p.bs.length→zu7 p.ms (p.bs.getD i b0)=0:=fun i hi=>hb i (by omega)
 simp (disch:=(try simp only[lZ]);omega) only[aZ,aM]
 refine AWP.loopP z8m (fun k:Nat=>k≤p.bs.length∧∀i,i<k→zf1 p.bs (p.bs.getD i b0).fr (p.bs.getD i b0).ot=i) (fun k=>[(1,.v (.int .i64 0)),(5,.v (.int .i64 k))]) (fun _=>[]) (fun k=>p.bs.length-k) 0 ⟨by omega,fun i hi=>by omega⟩ (by refine Cut.of' (1) ?_ (by omega) ?_ ?_<;>simp (disch:=first|omega|simp (disch:=omega) only[aG,aM]) only[fZ,aM]) ?_
 rintro k ⟨hk,hu⟩
 by_cases hlt:k<p.bs.length
 ·simp (disch:=(try simp only[lZ]);omega) only[aZ,aM]
  refine AWP.loopP z8n (fun j:Nat=>j≤k∧∀i,i<j→¬isB (p.bs.getD k b0).fr (p.bs.getD k b0).ot (p.bs.getD i b0)) (fun j=>[(1,.v (.int .i64 0)),(6,.v (.int .i64 j))]) (fun _=>[]) (fun j=>k-j) 0 ⟨by omega,fun i hi=>by omega⟩ (by refine Cut.of' (1) ?_ (by omega) ?_ ?_<;>simp (disch:=first|omega|simp (disch:=omega) only[aG,aM]) only[fZ,aM]) ?_
  rintro j ⟨hj,hv⟩
  by_cases hjl:j<k
  ·simp (disch:=(try simp only[lZ]);omega) only[aZ,aM]
   refine y1 (fun h3=>?_) (fun h3=>?_)
   ·have hf:zf1 p.bs (p.bs.getD k b0).fr (p.bs.getD k b0).ot=j:=z4s (by omega) hv ⟨h3.1.symm,h3.2.symm⟩
    have ht:=z6s hb ⟨k,hlt,by omega⟩
    simp (disch:=(try simp only[lZ]);omega) only[aZ,aM,zk9]
    exact y2 ⟨by rw[ht],rfl⟩
   ·simp (disch:=(try simp only[lZ]);omega) only[aZ,aM]
    refine⟨j+1,⟨by omega,fun i hi=>?_⟩,by omega,(by refine Cut.of' (1) ?_ (by omega) ?_ ?_<;>simp (disch:=first|omega|simp (disch:=omega) only[aG,aM]) only[fZ,aM])⟩
    rcases Nat.lt_succ_iff_lt_or_eq.1 hi with h|rfl
    ·exact hv i h
    ·exact fun h=>h3 ⟨h.1.symm,h.2.symm⟩
  ·simp (disch:=(try simp only[lZ]);omega) only[aZ,aM]
   refine⟨k+1,⟨by omega,fun i hi=>?_⟩,by omega,(by refine Cut.of' (1) ?_ (by omega) ?_ ?_<;>simp (disch:=first|omega|simp (disch:=omega) only[aG,aM]) only[fZ,aM])⟩
   rcases Nat.lt_succ_iff_lt_or_eq.1 hi with h|rfl
   ·exact hu i h
   ·exact z4s hlt (fun l hl=>hv l (by omega)) ⟨rfl,rfl⟩
 ·have hf:=z86 hb fun⟨i,h1,h2⟩=>h2 (hu i (by omega))
  simp (disch:=(try simp only[lZ]);omega) only[aZ,aM,zk9]
  exact y2 ⟨by rw[hf],rfl⟩
theorem yT9{p:Pl}(h:p.mat<1∨16<p.mat):x0 p=1:=by unfold x0;rw[if_pos h]
theorem yU0{p:Pl}(h:¬(p.mat<1∨16<p.mat))(h2:p.ms.length=0):x0 p=10:=by unfold x0;rw[if_neg h,if_pos h2]
theorem y3D{p:Pl}(h:¬(p.mat<1∨16<p.mat))(h2:¬p.ms.length=0)(h3:24<p.ms.length∨48<p.bs.length):x0 p=8:=by unfold x0;rw[if_neg h,if_neg h2,if_pos h3]
theorem xl7{p:Pl}(h:¬(p.mat<1∨16<p.mat))(h2:¬p.ms.length=0)(h3:¬(24<p.ms.length∨48<p.bs.length)){k:Nat}(hk:k<p.ms.length)(hb:∀i,i<k→w6 (p.ms.getD i []) p.mat=0)(hn:w6 (p.ms.getD k []) p.mat≠0):x0 p=w6 (p.ms.getD k []) p.mat:=by
 have:=zc0 (f:=fun m=>w6 m p.mat) [] hk hb hn
 unfold x0;rw[if_neg h,if_neg h2,if_neg h3,this,if_pos hn]
theorem yU1{p:Pl}(h:¬(p.mat<1∨16<p.mat))(h2:¬p.ms.length=0)(h3:¬(24<p.ms.length∨48<p.bs.length))(hb:∀i,i<p.ms.length→w6 (p.ms.getD i []) p.mat=0)(hn:zg9 p.ms p.bs≠0):x0 p=zg9 p.ms p.bs:=by
 have:=Z0 (f:=fun m=>w6 m p.mat) [] hb
 unfold x0;rw[if_neg h,if_neg h2,if_neg h3,this,if_neg (by omega),if_pos hn]
theorem y3E{p:Pl}(h:¬(p.mat<1∨16<p.mat))(h2:¬p.ms.length=0)(h3:¬(24<p.ms.length∨48<p.bs.length))(hb:∀i,i<p.ms.length→w6 (p.ms.getD i []) p.mat=0)(hn:zg9 p.ms p.bs=0)(ho:ya5 p.ms p.bs):x0 p=3:=by
 have:=Z0 (f:=fun m=>w6 m p.mat) [] hb
 unfold x0;rw[if_neg h,if_neg h2,if_neg h3,this,if_neg (by omega),if_neg (by omega),if_pos ho]
theorem y3F{p:Pl}(h:¬(p.mat<1∨16<p.mat))(h2:¬p.ms.length=0)(h3:¬(24<p.ms.length∨48<p.bs.length))(hb:∀i,i<p.ms.length→w6 (p.ms.getD i []) p.mat=0)(hn:zg9 p.ms p.bs=0)(ho:¬ya5 p.ms p.bs):
    x0 p=if p.fd<0∨(p.ms.length:Int)≤p.fd then 7 else if y4 (p.ms.getD p.fd.toNat [])=0 then 13 else 0:=by
  have:=Z0 (f:=fun m=>w6 m p.mat) [] hb
  unfold x0;rw[if_neg h,if_neg h2,if_neg h3,this,if_neg (by omega),if_neg (by omega),if_neg ho]
theorem zq4{w v:Bool}(p:Pl):VR P false z1r [plA w v p] [] (isR (.v (.int .i64 (x0 p)))):=by
 refine z70 (by simp) (.inr rfl) fun _ _=>?_
 unfold plA plC
 simp (disch:=(try simp only[lZ]);omega) only[aZ,aM,zG5,z1t]
 refine y1 (fun h1=>?_) (fun h1=>?_)
 ·simp (disch:=(try simp only[lZ]);omega) only[aZ,aM,Y7]
  exact y2 ⟨by rw[yT9 h1],rfl⟩
 simp (disch:=(try simp only[lZ]);omega) only[aZ,aM]
 refine y1 (fun h2=>?_) (fun h2=>?_)
 ·simp (disch:=(try simp only[lZ]);omega) only[aZ,aM,Y7]
  exact y2 ⟨by rw[yU0 h1 (by omega)],rfl⟩
 have h2:¬p.ms.length=0:=by omega
 simp (disch:=(try simp only[lZ]);omega) only[aZ,aM]
 refine y1 (fun h3=>?_) (fun h3=>?_)
 ·simp (disch:=(try simp only[lZ]);omega) only[aZ,aM,Y7]
  exact y2 ⟨by rw[y3D h1 h2 (by omega)],rfl⟩
 have h3:¬(24<p.ms.length∨48<p.bs.length):=by omega
 simp (disch:=(try simp only[lZ]);omega) only[aZ,aM]
 refine AWP.loopP z6A (fun k:Nat=>k≤p.ms.length∧∀i,i<k→w6 (p.ms.getD i []) p.mat=0) (fun k=>[(1,.v (.int .i64 0)),(6,.v (.int .i64 k))]) (fun _=>[]) (fun k=>p.ms.length-k) 0 ⟨by omega,fun i hi=>by omega⟩ (by refine Cut.of' (1) ?_ (by omega) ?_ ?_<;>simp (disch:=first|omega|simp (disch:=omega) only[aG,aM]) only[fZ,aM]) ?_
 rintro k ⟨hk,hb⟩
 by_cases hlt:k<p.ms.length
 ·simp (disch:=(try simp only[lZ]);omega) only[aZ,aM]
  refine(zA1 (w:=w) (p.ms.getD k []) p.mat).same (by unfold mcA mcC;simp (disch:=first|omega|simp (disch:=omega) only[aG,aM]) only[fZ,aM]) rfl (z7 ?_)
  simp (disch:=(try simp only[lZ]);omega) only[aZ,aM]
  refine y1 (fun h4=>?_) (fun h4=>?_)
  ·simp (disch:=(try simp only[lZ]);omega) only[aZ,aM,Y7]
   exact y2 ⟨by rw[xl7 h1 h2 h3 hlt hb h4],rfl⟩
  ·simp (disch:=(try simp only[lZ]);omega) only[aZ,aM]
   refine⟨k+1,⟨by omega,fun i hi=>?_⟩,by omega,(by refine Cut.of' (1) ?_ (by omega) ?_ ?_<;>simp (disch:=first|omega|simp (disch:=omega) only[aG,aM]) only[fZ,aM])⟩
   rcases Nat.lt_succ_iff_lt_or_eq.1 hi with h|rfl
   ·exact hb i h
   ·exact Classical.not_not.1 h4
 have hb:∀i,i<p.ms.length→w6 (p.ms.getD i []) p.mat=0:=fun i hi=>hb i (by omega)
 simp (disch:=(try simp only[lZ]);omega) only[aZ,aM]
 refine(y5i (w:=w) (v:=v) p (by omega) (by omega) fun i hi=>xl6 (hb i hi)).same (by unfold plA plC;simp (disch:=first|omega|simp (disch:=omega) only[aG,aM]) only[fZ,aM]) rfl (z7 ?_)
 by_cases h4:zg9 p.ms p.bs=0
 ·by_cases h5:ya5 p.ms p.bs
  ·simp (disch:=(try simp only[lZ]);omega) only[aZ,aM,z87 h4 h5,Y7]
   exact y2 ⟨by rw[y3E h1 h2 h3 hb h4 h5],rfl⟩
  ·have hf:=y3F h1 h2 h3 hb h4 h5
   simp (disch:=(try simp only[lZ]);omega) only[aZ,aM,z88 h4 h5]
   refine(y3C (w:=w) (v:=v) p p.fd).same (by unfold plA plC;simp (disch:=first|omega|simp (disch:=omega) only[aG,aM]) only[fZ,aM]) rfl (z7 ?_)
   by_cases h6:0≤p.fd∧p.fd<p.ms.length
   ·rw[if_neg (by omega)]at hf
    simp (disch:=(try simp only[lZ]);omega) only[aZ,aM,decide_eq_true h6]
    refine(y7j (w:=w) (v:=v) p p.fd h6.1 h6.2).same (by unfold plA plC;simp (disch:=first|omega|simp (disch:=omega) only[aG,aM]) only[fZ,aM]) rfl (z7 ?_)
    simp (disch:=(try simp only[lZ]);omega) only[aZ,aM]
    refine y1 (fun h7=>?_) (fun h7=>?_)
    ·have h7:y4 (p.ms.getD p.fd.toNat [])=0:=h7
     rw[if_pos h7]at hf
     simp (disch:=(try simp only[lZ]);omega) only[aZ,aM,Y7]
     exact y2 ⟨by rw[hf],rfl⟩
    ·have h7:¬y4 (p.ms.getD p.fd.toNat [])=0:=h7
     rw[if_neg h7]at hf
     simp (disch:=(try simp only[lZ]);omega) only[aZ,aM,Y7]
     exact y2 ⟨by rw[hf],rfl⟩
   ·rw[if_pos (by omega)]at hf
    simp (disch:=(try simp only[lZ]);omega) only[aZ,aM,decide_eq_false h6,Y7]
    exact y2 ⟨by rw[hf],rfl⟩
 ·simp (disch:=(try simp only[lZ]);omega) only[aZ,aM,z5v h4,Y7]
  exact y2 ⟨by rw[yU1 h1 h2 h3 hb h4],rfl⟩
theorem zR3{w v:Bool}(p:Pl):VR P false z3o [plA w v p] [] (isR (.v (.int .i64 (x0 p)))):=by
 refine z9S (by simp) (.inr rfl) fun _ _=>?_
 unfold plA plC
 simp (disch:=(try simp only[lZ]);omega) only[aZ,aM,zO8,z3q]
 refine y1 (fun h1=>?_) (fun h1=>?_)
 ·simp (disch:=(try simp only[lZ]);omega) only[aZ,aM,W0]
  exact y2 ⟨by rw[yT9 h1],rfl⟩
 simp (disch:=(try simp only[lZ]);omega) only[aZ,aM]
 refine y1 (fun h2=>?_) (fun h2=>?_)
 ·simp (disch:=(try simp only[lZ]);omega) only[aZ,aM,W0]
  exact y2 ⟨by rw[yU0 h1 (by omega)],rfl⟩
 have h2:¬p.ms.length=0:=by omega
 simp (disch:=(try simp only[lZ]);omega) only[aZ,aM]
 refine y1 (fun h3=>?_) (fun h3=>?_)
 ·simp (disch:=(try simp only[lZ]);omega) only[aZ,aM,W0]
  exact y2 ⟨by rw[y3D h1 h2 (by omega)],rfl⟩
 have h3:¬(24<p.ms.length∨48<p.bs.length):=by omega
 simp (disch:=(try simp only[lZ]);omega) only[aZ,aM]
 refine AWP.loopP z74 (fun k:Nat=>k≤p.ms.length∧∀i,i<k→w6 (p.ms.getD i []) p.mat=0) (fun k=>[(1,.v (.int .i64 0)),(3,.v (.int .i64 k))]) (fun _=>[]) (fun k=>p.ms.length-k) 0 ⟨by omega,fun i hi=>by omega⟩ (by refine Cut.of' (1) ?_ (by omega) ?_ ?_<;>simp (disch:=first|omega|simp (disch:=omega) only[aG,aM]) only[fZ,aM]) ?_
 rintro k ⟨hk,hb⟩
 by_cases hlt:k<p.ms.length
 ·simp (disch:=(try simp only[lZ]);omega) only[aZ,aM]
  refine(z4q (w:=w) (p.ms.getD k []) p.mat).same (by unfold mcA mcC;simp (disch:=first|omega|simp (disch:=omega) only[aG,aM]) only[fZ,aM]) rfl (z7 ?_)
  simp (disch:=(try simp only[lZ]);omega) only[aZ,aM]
  refine y1 (fun h4=>?_) (fun h4=>?_)
  ·simp (disch:=(try simp only[lZ]);omega) only[aZ,aM,W0]
   exact y2 ⟨by rw[xl7 h1 h2 h3 hlt hb h4],rfl⟩
  ·simp (disch:=(try simp only[lZ]);omega) only[aZ,aM]
   refine⟨k+1,⟨by omega,fun i hi=>?_⟩,by omega,(by refine Cut.of' (1) ?_ (by omega) ?_ ?_<;>simp (disch:=first|omega|simp (disch:=omega) only[aG,aM]) only[fZ,aM])⟩
   rcases Nat.lt_succ_iff_lt_or_eq.1 hi with h|rfl
   ·exact hb i h
   ·exact Classical.not_not.1 h4
 have hb:∀i,i<p.ms.length→w6 (p.ms.getD i []) p.mat=0:=fun i hi=>hb i (by omega)
 simp (disch:=(try simp only[lZ]);omega) only[aZ,aM]
 refine(yE2 (w:=w) (v:=v) p (by omega) (by omega)).same (by unfold plA plC;simp (disch:=first|omega|simp (disch:=omega) only[aG,aM]) only[fZ,aM]) rfl (z7 ?_)
 simp (disch:=(try simp only[lZ]);omega) only[aZ,aM]
 refine y1 (fun h4=>?_) (fun h4=>?_)
 ·simp (disch:=(try simp only[lZ]);omega) only[aZ,aM,W0]
  exact y2 ⟨by rw[yU1 h1 h2 h3 hb h4],rfl⟩
 have h4:zg9 p.ms p.bs=0:=Classical.not_not.1 h4
 simp (disch:=(try simp only[lZ]);omega) only[aZ,aM]
 refine AWP.loopP z75 (fun k:Nat=>k≤p.ms.length∧∀i,i<k→∀o,o<y4 (p.ms.getD i [])→0≤zf1 p.bs i o) (fun k=>[(1,.v (.int .i64 0)),(6,.v (.int .i64 k))]) (fun _=>[]) (fun k=>p.ms.length-k) 0 ⟨by omega,fun i hi=>by omega⟩ (by refine Cut.of' (1) ?_ (by omega) ?_ ?_<;>simp (disch:=first|omega|simp (disch:=omega) only[aG,aM]) only[fZ,aM]) ?_
 rintro k ⟨hk,hu2⟩
 by_cases hlt:k<p.ms.length
 ·have hol4:=xl6 (hb k hlt)
  simp (disch:=(try simp only[lZ]);omega) only[aZ,aM]
  refine AWP.loopP z76 (fun o:Nat=>o≤y4 (p.ms.getD k [])∧∀i,i<o→0≤zf1 p.bs k i) (fun o=>[(1,.v (.int .i64 0)),(7,.v (.int .i64 o))]) (fun _=>[]) (fun o=>y4 (p.ms.getD k [])-o) 0 ⟨by omega,fun i hi=>by omega⟩ (by refine Cut.of' (1) ?_ (by omega) ?_ ?_<;>simp (disch:=first|omega|simp (disch:=omega) only[aG,aM]) only[fZ,aM]) ?_
  rintro o ⟨ho,hv⟩
  simp (disch:=(try simp only[lZ]);omega) only[aZ,aM]
  refine(zj7 (w:=w) (p.ms.getD k [])).same (by unfold mcA mcC;simp (disch:=first|omega|simp (disch:=omega) only[aG,aM]) only[fZ,aM]) rfl (z7 ?_)
  by_cases hol:o<y4 (p.ms.getD k [])
  ·simp (disch:=(try simp only[lZ]);omega) only[aZ,aM]
   refine(yT8 (w:=w) (v:=v) p (by omega) k o).same (by unfold plA plC;simp (disch:=first|omega|simp (disch:=omega) only[aG,aM]) only[fZ,aM]) rfl (z7 ?_)
   simp (disch:=(try simp only[lZ]);omega) only[aZ,aM]
   refine y1 (fun h5=>?_) (fun h5=>?_)
   ·simp (disch:=(try simp only[lZ]);omega) only[aZ,aM,W0]
    exact y2 ⟨by rw[y3E h1 h2 h3 hb h4 ⟨k,hlt,o,hol,h5⟩],rfl⟩
   ·simp (disch:=(try simp only[lZ]);omega) only[aZ,aM]
    refine⟨o+1,⟨by omega,fun i hi=>?_⟩,by omega,(by refine Cut.of' (1) ?_ (by omega) ?_ ?_<;>simp (disch:=first|omega|simp (disch:=omega) only[aG,aM]) only[fZ,aM])⟩
    rcases Nat.lt_succ_iff_lt_or_eq.1 hi with h|rfl
    ·exact hv i h
    ·omega
  ·simp (disch:=(try simp only[lZ]);omega) only[aZ,aM]
   refine⟨k+1,⟨by omega,fun i hi=>?_⟩,by omega,(by refine Cut.of' (1) ?_ (by omega) ?_ ?_<;>simp (disch:=first|omega|simp (disch:=omega) only[aG,aM]) only[fZ,aM])⟩
   rcases Nat.lt_succ_iff_lt_or_eq.1 hi with h|rfl
   ·exact hu2 i h
   ·intro o' ho';exact hv o' (by omega)
 have hno:¬ya5 p.ms p.bs:=by
  rintro⟨i,g1,o,g2,g3⟩
  have:=hu2 i (by omega) o g2
  omega
 have hf:=y3F h1 h2 h3 hb h4 hno
 simp (disch:=(try simp only[lZ]);omega) only[aZ,aM]
 refine y1 (fun h6=>?_) (fun h6=>?_)
 ·rw[if_pos h6]at hf
  simp (disch:=(try simp only[lZ]);omega) only[aZ,aM,W0]
  exact y2 ⟨by rw[hf],rfl⟩
 rw[if_neg h6]at hf
 simp (disch:=(try simp only[lZ]);omega) only[aZ,aM]
 refine(zj7 (w:=w) (p.ms.getD p.fd.toNat [])).same (by unfold mcA mcC;simp (disch:=first|omega|simp (disch:=omega) only[aG,aM]) only[fZ,aM]) rfl (z7 ?_)
 simp (disch:=(try simp only[lZ]);omega) only[aZ,aM]
 refine y1 (fun h7=>?_) (fun h7=>?_)
 ·rw[if_pos (by omega)]at hf
  simp (disch:=(try simp only[lZ]);omega) only[aZ,aM,W0]
  exact y2 ⟨by rw[hf],rfl⟩
 ·rw[if_neg (by omega)]at hf
  simp (disch:=(try simp only[lZ]);omega) only[aZ,aM,W0]
  exact y2 ⟨by rw[hf],rfl⟩
end Go.Proofs.YtcppaddgclkekaaGreat
namespace Go.Proofs.YtcppaddgclkekaaGreat
open Go Go.Lft
set_option linter.unusedSimpArgs false
attribute [local congr] Q5 Q6 Q7 Q9 Z7 Z8 za0 Z9 Y0 Y2 za1 Q8
abbrev Arcs:=List (Int×Int)
def xl8(n:Int)(a:Int×Int):Prop:=((a.1<0∨n≤a.1)∨a.2<0)∨n≤a.2
instance(n:Int)(a:Int×Int):Decidable (xl8 n a):=inferInstanceAs (Decidable (((a.1<0∨n≤a.1)∨a.2<0)∨n≤a.2))
end Go.Proofs.YtcppaddgclkekaaGreat
namespace Go.Proofs.YtcppaddgclkekaaGreat
open Go Go.Lft
set_option linter.unusedSimpArgs false
set_option linter.unusedVariables false
attribute [local congr] Q5 Q6 Q7 Q9 Z7 Z8 za0 Z9 Y0 Y2 za1 Q8
def vis(S:List Bool)(w:Int):Prop:=S.getD w.toNat false=true
instance(S:List Bool)(w:Int):Decidable (vis S w):=inferInstanceAs (Decidable (S.getD w.toNat false=true))
def xl9{α:Type}(f:α→α):Nat→α→α
 | 0,x=>x
 | k+1,x=>f (xl9 f k x)
def xm0(S:List Bool)(a:Int×Int):List Bool:=S.set a.2.toNat (S.getD a.2.toNat false || S.getD a.1.toNat false)
def y5j(es:Arcs)(S:List Bool):List Bool:=es.foldl xm0 S
def xm1(n from0:Int):List Bool:=(List.replicate n.toNat false).set from0.toNat true
def y7k(n:Int)(es:Arcs)(from0:Int):List Bool:=xl9 (y5j es) n.toNat (xm1 n from0)
def xs7(l:Arcs):Arcs:=l.map Prod.swap
end Go.Proofs.YtcppaddgclkekaaGreat
