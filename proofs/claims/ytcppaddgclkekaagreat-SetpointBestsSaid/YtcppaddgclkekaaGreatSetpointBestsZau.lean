/- Lemmas and walks that the proof of SetpointBests uses. No statement is claimed here. -/
import Derived.Test.YtcppaddgclkekaaGreatSetpointBestsZat
namespace Go.Proofs.YtcppaddgclkekaaGreat
open Go Go.Lft
set_option linter.unusedSimpArgs false
set_option linter.unusedVariables false
attribute [local congr] Q7 Q8 Q9 za1 Z9 Y0 za2 Y2 Y3 Y4 za3 za0
def z97(p:Pl)(L:List (List Og))(pk:List Int)(m:Nat):Mc:=if(L.getD m []).length=0 then p.ms.getD m []else((L.getD m []).getD (pk.getD m 0).toNat og0).r
def ze0(p:Pl)(L:List (List Og))(pk:List Int):List Mc:=(List.range p.ms.length).map (z97 p L pk)
def X6(p:Pl)(L:List (List Og))(pk:List Int):Pl:=⟨p.mat,ze0 p L pk,p.bs,p.fd⟩
theorem zO5(p:Pl)(L:List (List Og))(pk:List Int):(ze0 p L pk).length=p.ms.length:=by simp [ze0]
theorem z98(p:Pl)(L:List (List Og))(pk:List Int)(m:Nat)(h:m<p.ms.length):(ze0 p L pk).getD m []=z97 p L pk m:=by simp [ze0,List.getD_eq_getElem?_getD,h]
theorem zC1{p:Pl}{L:List (List Og)}(h:za4 p L=0):L.length=p.ms.length∧∀m,m<p.ms.length→(L.getD m []).length≤4∧∀o∈L.getD m [],w5 o.r p.mt=0∧y3 o.r=y3 (p.ms.getD m [])∧0≤o.c∧o.c≤1000000000000:=by
 unfold za4 at h
 split at h
 ·cases h
 rename_i hl
 refine⟨Classical.not_not.1 hl,fun m hm=>?_⟩
 have h1:=zi1 h m (List.mem_range.2 hm)
 unfold ogsE at h1
 split at h1
 ·cases h1
 refine⟨by omega,fun o ho=>?_⟩
 have h2:=zi1 h1 o ho
 unfold ogE at h2
 split at h2
 ·rename_i h3;exact absurd h2 h3
 split at h2
 ·cases h2
 split at h2
 ·cases h2
 omega
theorem yE7{p:Pl}{L:List (List Og)}(h:za4 p L=0):yE5 L:=fun l hl o ho=>by
 obtain⟨h1,h2⟩:=zC1 h
 obtain⟨m,hm,rfl⟩:=zJ9 [] hl
 exact((h2 m (by omega)).2 o ho).2.2
theorem xa5{p:Pl}(ok:POk p){L:List (List Og)}(h:za4 p L=0){pk:List Int}(hp:PkOk L pk){m:Nat}(hm:m<p.ms.length):(z97 p L pk m).length≤16∧∀x∈z97 p L pk m,x.length≤4:=by
 obtain⟨h1,h2⟩:=zC1 h
 have hq:=hp.2 m (by omega)
 obtain⟨m1,m2,m3⟩:=ok.mt1
 unfold z97
 split
 ·have hmo:=ok.mc _ (x3 [] hm)
  exact⟨by have:=hmo.len;have:=hmo.m2;omega,fun x hx=>(hmo.row x hx).2.1⟩
 ·have:=(h2 m hm).2 _ (x3 og0 (k:=(pk.getD m 0).toNat) (l:=L.getD m []) (by omega))
  have hmo:=zN7 this.1
  exact⟨by have:=hmo.len;omega,fun x hx=>(hmo.row x hx).2.1⟩
theorem z99{w v u u':Bool}{p:Pl}(ok:POk p){L:List (List Og)}(h:za4 p L=0){pk:List Int}(hp:PkOk L pk):VR P false zK8 [plA w v p,.fs u (ogL u L),.fs u' (ints pk)] [] (isR (plA true true (X6 p L pk))):=by
 refine z3K (by simp) (.inr rfl) fun _ _=>?_
 obtain⟨h1,h2⟩:=zC1 h
 have n2:=ok.n2
 have b2:=ok.b2
 have hpo:=fun m hm=>xa5 ok h hp (m:=m) hm
 obtain⟨p1,p2⟩:=hp
 have hn:∀H,zz6 H 4 (.fs v (bts p.bs))=some (p.bs.length,p.bs.flatMap btC):=fun H=>by simp only[zz6,z7S,Option.bind_some,y4Z,if_true,z9r]
 have hpl:=zO5 p L pk
 have hpg:=z98 p L pk
 have epp:plA true true (X6 p L pk)=.agg [.v (.int .i64 p.mat),.fs true (mcs true (ze0 p L pk)),.fs true (bts p.bs),.v (.int .i64 p.fd)]:=rfl
 rw[epp]
 unfold plA plC
 simp (disch:=(try simp only[lZ]);omega) only[aZ,aM,aG37,zp4,zL0,hn]
 refine AWP.cut (Cut.virtB 2 0 1 1 rfl rfl) ?_
 refine AWP.loopP z2F (fun k:Nat=>k≤p.ms.length) (fun k=>[(6,.v (.int .i64 k))]) (fun k=>[(2,⟨0,[.v (.int .i64 p.mat),.vs 4 k 1 k,.sl 3 1 4 0 p.bs.length,.v (.int .i64 p.fd)]⟩),(4,⟨k,((ze0 p L pk).take k).map mxF⟩)]) (fun k=>p.ms.length-k) 0 (by omega) ?_ ?_
 ·rw[List.take_zero]
  exact Cut.fg (by simp (disch:=first|omega|simp (disch:=omega) only[aG,aM,aG37]) only[fZ,aM,aG37,y0,z9,or_true,true_or])
 rintro k hk
 have hkl:((ze0 p L pk).take k).length=k:=by rw[List.length_take];omega
 have hkm:(((ze0 p L pk).take k).map mxF).length=k:=by rw[List.length_map];exact hkl
 by_cases hkt:k<p.ms.length
 ·obtain⟨q1,q2⟩:=hpo k hkt
  have hk2:=Z3 (ze0 p L pk) k [] (by omega)
  rw[hpg k hkt]at hk2
  have q3:=p2 k (by omega)
  have hpm:z97 p L pk k=if(L.getD k []).length=0 then p.ms.getD k []else((L.getD k []).getD (pk.getD k 0).toNat og0).r:=rfl
  generalize hlk:L.getD k []=l at *
  generalize hpk:pk.getD k 0=y at *
  generalize z97 p L pk k=M at *
  have e2:((ze0 p L pk).take (k+1)).map mxF=((ze0 p L pk).take k).map mxF++[mxF M]:=by rw[hk2];simp
  have e3:List.take k (((ze0 p L pk).take k).map mxF)++[A.fs true (rows true M)]=((ze0 p L pk).take (k+1)).map mxF:=by rw[e2,List.take_of_length_le (by omega)];rfl
  by_cases h0:l.length=0
  ·rw[if_pos h0]at hpm
   rw[hpm]at q1 q2
   have hra:=yk1 (u:=w) (p.ms.getD k []) (by omega) (fun x hx=>by have:=q2 x hx;omega)
   simp (disch:=(try simp only[lZ]);omega) only[aZ,aM,aG37,hlk,decide_eq_false (show ¬(l.length:Int)>0 by omega)]
   refine hra.same (by simp (disch:=first|omega|simp (disch:=omega) only[aG,aM,aG37]) only[fZ,aM,aG37]) (by simp (disch:=first|omega|simp (disch:=omega) only[aG,aM,aG37]) only[fZ,aM,aG37]) (z7 ?_)
   simp (disch:=(try simp only[lZ]);omega) only[aZ,aM,aG37,hkm]
   refine⟨k+1,by omega,by omega,?_⟩
   rw[← hpm,e3]
   exact Cut.of' 5 rfl (by omega) ⟨rfl,by simp (disch:=first|omega|simp (disch:=omega) only[aG,aM,aG37]) only[fZ,aM,aG37],rfl,by simp (disch:=first|omega|simp (disch:=omega) only[aG,aM,aG37]) only[fZ,aM,aG37],rfl,by simp (disch:=first|omega|simp (disch:=omega) only[aG,aM,aG37]) only[fZ,aM,aG37],rfl,FzL.refl (y0k _ _),rfl,FzL.refl (z63 _ _),trivial⟩ (by simp (disch:=first|omega|simp (disch:=omega) only[aG,aM,aG37]) only[fZ,aM,aG37])
  ·rw[if_neg h0]at hpm
   have hra:=yk1 (u:=u) M (by omega) (fun x hx=>by have:=q2 x hx;omega)
   simp (disch:=(try simp only[lZ]);omega) only[aZ,aM,aG37,hlk,hpk,decide_eq_true (show(l.length:Int)>0 by omega)]
   rw[← hpm]
   try simp (disch:=(try simp only[lZ]);omega) only[aZ,aM,aG37]
   refine hra.same (by simp (disch:=first|omega|simp (disch:=omega) only[aG,aM,aG37]) only[fZ,aM,aG37]) (by simp (disch:=first|omega|simp (disch:=omega) only[aG,aM,aG37]) only[fZ,aM,aG37]) (z7 ?_)
   simp (disch:=(try simp only[lZ]);omega) only[aZ,aM,aG37,hkm]
   refine⟨k+1,by omega,by omega,?_⟩
   rw[e3]
   exact Cut.of' 5 rfl (by omega) ⟨rfl,by simp (disch:=first|omega|simp (disch:=omega) only[aG,aM,aG37]) only[fZ,aM,aG37],rfl,by simp (disch:=first|omega|simp (disch:=omega) only[aG,aM,aG37]) only[fZ,aM,aG37],rfl,by simp (disch:=first|omega|simp (disch:=omega) only[aG,aM,aG37]) only[fZ,aM,aG37],rfl,FzL.refl (y0k _ _),rfl,FzL.refl (z63 _ _),trivial⟩ (by simp (disch:=first|omega|simp (disch:=omega) only[aG,aM,aG37]) only[fZ,aM,aG37])
 have hke:k=p.ms.length:=by omega
 subst hke
 have hta:(ze0 p L pk).take p.ms.length=ze0 p L pk:=List.take_of_length_le (by omega)
 rw[hta]
 have hm1:((ze0 p L pk).map mxF).length=p.ms.length:=by rw[List.length_map];exact hpl
 simp (disch:=(try simp only[lZ]);omega) only[aZ,aM,aG37,z5v]
 exact y8 (r:=.agg [.v (.int .i64 p.mat),.fs true (mcs true (ze0 p L pk)),.fs true (bts p.bs),.v (.int .i64 p.fd)]) (Fz.agg (l:=[.v (.int .i64 p.mat),.vs 4 p.ms.length 1 p.ms.length,.sl 3 1 4 0 p.bs.length,.v (.int .i64 p.fd)]) (r:=[.v (.int .i64 p.mat),.fs true (mcs true (ze0 p L pk)),.fs true (bts p.bs),.v (.int .i64 p.fd)]) ⟨Fz.refl rfl,Fz.vs (l:=(ze0 p L pk).map mxF) (r:=(ze0 p L pk).map mxF) (els:=mcs true (ze0 p L pk)) (by omega) (by simp (disch:=(try simp only[lZ]);omega) only[aZ,aM,aG37]) (FzL.refl (z63 _ _)) (by rw[yr1,List.take_of_length_le (by omega)]) (by rw[yA0,hpl]) (by omega),
  Fz.sl (r:=p.bs.flatMap btC) (els:=bts p.bs) (by omega) (by simp (disch:=(try simp only[lZ]);omega) only[aZ,aM,aG37]) (FzL.refl (y0k _ _)) (by rw[z7S,List.drop_zero,List.take_of_length_le (by rw[yr0];omega)]) (z9r _) (by rw[yr0];omega),Fz.refl rfl,trivial⟩) ⟨rfl,rfl⟩
def pl0:Pl:=⟨0,[],[],0⟩
def pkB(L:List (List Og))(pk:List Int)(m:Nat):Prop:=pk.getD m 0<0∨max 1 ((L.getD m []).length:Int)≤pk.getD m 0
instance(L:List (List Og))(pk:List Int):DecidablePred (pkB L pk):=fun m=>by unfold pkB;infer_instance
def zn9(p:Pl)(L:List (List Og))(pk:List Int):Pl×Int :=
 if y6 p≠0 then(pl0,y6 p)else if za4 p L≠0 then(pl0,za4 p L)else if pk.length≠p.ms.length then(pl0,3)else if 0≤idxE (pkB L pk) (List.range pk.length)then(pl0,1)else(X6 p L pk,0)
def yL8(x:Pl×Int):A:=.tup [plA true true x.1,.v (.int .i64 x.2)]
theorem y8M{L:List (List Og)}{pk:List Int}(hl:pk.length=L.length)(h:∀m,m<L.length→¬pkB L pk m):PkOk L pk:=⟨hl,fun m hm=>by
 have:=h m hm
 unfold pkB at this
 omega⟩
theorem zj6(H:List Blk)(e:Int):Fz 0 H (.tup [.agg [.v (.int .i64 0),.v (.slice none 0 0),.v (.slice none 0 0),.v (.int .i64 0)],.v (.int .i64 e)]) (yL8 (pl0,e)) :=
 Fz.tup ⟨Fz.agg (l:=[.v (.int .i64 0),.v (.slice none 0 0),.v (.slice none 0 0),.v (.int .i64 0)]) (r:=[.v (.int .i64 0),.fs true [],.fs true [],.v (.int .i64 0)]) ⟨Fz.refl rfl,z3d _ _,z3d _ _,Fz.refl rfl,trivial⟩,Fz.refl rfl,trivial⟩
theorem y1h{w v u u':Bool}(p:Pl)(L:List (List Og))(pk:List Int)(hpk:pk.length≤1000000):VR P false zU9 [plA w v p,.fs u (ogL u L),.fs u' (ints pk)] [] (isR (yL8 (zn9 p L pk))):=by
 refine z5r (by simp) (.inr rfl) fun _ _=>?_
 have hck:=zr7 (w:=w) (v:=v) p
 unfold plA plC at *
 by_cases h1:y6 p=0
 case neg =>
  have e:zn9 p L pk=(pl0,y6 p):=by unfold zn9;rw[if_pos h1]
  rw[e]
  simp (disch:=(try simp only[lZ]);omega) only[aZ,aM,aG37,zk1,zu5]
  refine hck.same (by simp (disch:=first|omega|simp (disch:=omega) only[aG,aM,aG37]) only[fZ,aM,aG37]) rfl (z7 ?_)
  simp (disch:=(try simp only[lZ]);omega) only[aZ,aM,aG37,decide_eq_true (show ¬y6 p=0 from h1),za6]
  exact y8 (zj6 _ _) ⟨rfl,rfl⟩
 have ok:=y7 h1
 have n2:=ok.n2
 have hpo:=z46 (w:=w) (v:=v) (u:=u) ok L
 unfold plA plC at hpo
 simp (disch:=(try simp only[lZ]);omega) only[aZ,aM,aG37,zk1,zu5]
 refine hck.same (by simp (disch:=first|omega|simp (disch:=omega) only[aG,aM,aG37]) only[fZ,aM,aG37]) rfl (z7 ?_)
 simp (disch:=(try simp only[lZ]);omega) only[aZ,aM,aG37,h1]
 refine hpo.same (by simp (disch:=first|omega|simp (disch:=omega) only[aG,aM,aG37]) only[fZ,aM,aG37]) rfl (z7 ?_)
 by_cases h2:za4 p L=0
 case neg =>
  have e:zn9 p L pk=(pl0,za4 p L):=by unfold zn9;rw[if_neg (fun h=>h h1),if_pos h2]
  rw[e]
  simp (disch:=(try simp only[lZ]);omega) only[aZ,aM,aG37,decide_eq_true (show ¬za4 p L=0 from h2),za6]
  exact y8 (zj6 _ _) ⟨rfl,rfl⟩
 by_cases h3:(pk.length:Int)≠p.ms.length
 ·have e:zn9 p L pk=(pl0,3):=by unfold zn9;rw[if_neg (fun h=>h h1),if_neg (fun h=>h h2),if_pos (by omega)]
  rw[e]
  simp (disch:=(try simp only[lZ]);omega) only[aZ,aM,aG37,h2,decide_eq_true h3,za6]
  exact y8 (zj6 _ _) ⟨rfl,rfl⟩
 have hl:L.length=p.ms.length:=(zC1 h2).1
 simp (disch:=(try simp only[lZ]);omega) only[aZ,aM,aG37,h2,decide_eq_false h3]
 refine AWP.loopP z3s (fun k:Nat=>k≤pk.length∧∀m,m<k→¬pkB L pk m) (fun k=>[(4,.v (.int .i64 0)),(8,.v (.int .i64 k))]) (fun _=>[]) (fun k=>pk.length-k) 0 ⟨by omega,fun i hi=>absurd hi (by omega)⟩ ?_ ?_
 ·exact Cut.fg (by simp (disch:=first|omega|simp (disch:=omega) only[aG,aM,aG37]) only[fZ,aM,aG37,y0,z9,or_true,true_or])
 rintro k ⟨hk,hg⟩
 by_cases hkt:k<pk.length
 ·have hgd:pkB L pk k↔(pk.getD k 0<0∨max 1 ((L.getD k []).length:Int)≤pk.getD k 0):=Iff.rfl
  have hit:pkB L pk k→zn9 p L pk=(pl0,1):=fun h=>by
   have:=zH3 (p:=pkB L pk) 0 (l:=List.range pk.length) (k:=k) (by simpa using hkt) (fun i hi=>by rw[zc8 (by omega)];exact hg i hi) (by rw[zc8 hkt];exact h)
   unfold zn9
   rw[if_neg (fun h=>h h1),if_neg (fun h=>h h2),if_neg (by omega),if_pos (by omega)]
  have hgn:¬pkB L pk k→∀m,m<k+1→¬pkB L pk m:=fun h m hm=>by
   by_cases e:m=k
   ·subst e;exact h
   ·exact hg m (by omega)
  generalize hlk:L.getD k []=l at *
  generalize hyk:pk.getD k 0=y at *
  by_cases c1:y<0
  ·rw[hit (hgd.2 (.inl c1))]
   simp (disch:=(try simp only[lZ]);omega) only[aZ,aM,aG37,hlk,hyk,decide_eq_true c1,za6]
   exact y8 (zj6 _ _) ⟨rfl,rfl⟩
  by_cases c2:y≥max 1 (l.length:Int)
  ·rw[hit (hgd.2 (.inr c2))]
   simp (disch:=(try simp only[lZ]);omega) only[aZ,aM,aG37,hlk,hyk,decide_eq_false c1,decide_eq_true c2,za6]
   exact y8 (zj6 _ _) ⟨rfl,rfl⟩
  ·simp (disch:=(try simp only[lZ]);omega) only[aZ,aM,aG37,hlk,hyk,decide_eq_false c1,decide_eq_false c2]
   refine⟨k+1,⟨by omega,hgn (fun h=>by rcases hgd.1 h with h|h<;>omega)⟩,by omega,?_⟩
   exact Cut.fg (by simp (disch:=first|omega|simp (disch:=omega) only[aG,aM,aG37]) only[fZ,aM,aG37,y0,z9,or_true,true_or])
 have hke:k=pk.length:=by omega
 subst hke
 have hpo2:PkOk L pk:=y8M (by omega) fun m hm=>hg m (by omega)
 have hpi:=z99 (w:=w) (v:=v) (u:=u) (u':=u') ok h2 hpo2
 have e:zn9 p L pk=(X6 p L pk,0):=by
  unfold zn9
  rw[if_neg (fun h=>h h1),if_neg (fun h=>h h2),if_neg (by omega),if_neg]
  have:=zn4 (p:=pkB L pk) 0 (l:=List.range pk.length) fun i hi=>by
   have hi':i<pk.length:=by simpa using hi
   rw[zc8 hi'];exact hg i hi'
  omega
 rw[e]
 unfold yL8
 unfold plA plC at hpi ⊢
 simp (disch:=(try simp only[lZ]);omega) only[aZ,aM,aG37]
 refine hpi.same (by simp (disch:=first|omega|simp (disch:=omega) only[aG,aM,aG37]) only[fZ,aM,aG37]) (by simp (disch:=first|omega|simp (disch:=omega) only[aG,aM,aG37]) only[fZ,aM,aG37]) (z7 ?_)
 simp (disch:=(try simp only[lZ]);omega) only[aZ,aM,aG37,za6]
 exact y8 (Fz.refl (by simp (disch:=first|omega|simp (disch:=omega) only[aG,aM,aG37]) only[fZ,aM,aG37])) ⟨rfl,rfl⟩
def blkP(T:List (List Int))(y:Int):Nat→List (List Int)
 | 0=>[]
 | n+1=>T.map (y :: ·)++blkP T (y+1) n
def allP:List (List Og)→List (List Int)
 | []=>[[]]
 | l :: L=>blkP (allP L) 0 (max 1 l.length)
def sfx:List (List Og)→List Int→List (List Int)
 | l :: L,x :: pk=>(sfx L pk).map (x :: ·)++blkP (allP L) (x+1) (max 1 l.length-1-x.toNat)
 | _,_=>[[]]
def nxk:List (List Og)→List Int→Option (List Int)
 | l :: L,x :: pk=>match nxk L pk with
  | some q=>some (x :: q)
  | none=>if x+1<l.length then some ((x+1) :: List.replicate pk.length 0)else none
 | _,_=>none
theorem y0D (l : List Og) (L : List (List Og)) (x : Int) (pk : List Int) : nxk (l :: L) (x :: pk) = match nxk L pk with
    | some q=>some (x :: q)
    | none=>if x+1<l.length then some ((x+1) :: List.replicate pk.length 0)else none:=rfl
theorem z7Y:∀(L:List (List Og)),sfx L (List.replicate L.length 0)=allP L
 | []=>rfl
 | l :: L=>by
  show(sfx L (List.replicate L.length 0)).map ((0:Int) :: ·)++blkP (allP L) (0+1) (max 1 l.length-1-(0:Int).toNat)=blkP (allP L) 0 (max 1 l.length)
  rw[z7Y L,show max 1 l.length=(max 1 l.length-1-(0:Int).toNat)+1 by simp;omega]
  rfl
theorem yL9:∀(L:List (List Og)) (pk:List Int),pk.length=L.length→(∀i,0≤pk.getD i 0)→sfx L pk=pk :: (match nxk L pk with|some q=>sfx L q|none=>[])
 | [],[],_,_=>rfl
 | [],_ :: _,h,_=>by simp at h
 | _ :: _,[],h,_=>by simp at h
 | l :: L,x :: pk,h,h0=>by
  have hl:pk.length=L.length:=by simpa using h
  have hx:0≤x:=by have:=h0 0;simpa using this
  have ih:=yL9 L pk hl (fun i=>by have:=h0 (i+1);simpa using this)
  show(sfx L pk).map (x :: ·)++blkP (allP L) (x+1) (max 1 l.length-1-x.toNat)=_
  rw[ih,y0D]
  cases hn:nxk L pk with
  | some q=>rfl
  | none =>
   simp only[List.map_cons,List.map_nil,List.cons_append,List.nil_append]
   congr 1
   by_cases hc:x+1<l.length
   ·rw[if_pos hc]
    show _=(sfx L (List.replicate pk.length 0)).map ((x+1) :: ·)++blkP (allP L) (x+1+1) (max 1 l.length-1-(x+1).toNat)
    rw[hl,z7Y,show max 1 l.length-1-x.toNat=(max 1 l.length-1-(x+1).toNat)+1 by omega]
    rfl
   ·rw[if_neg hc,show max 1 l.length-1-x.toNat=0 by omega]
    rfl
def zr(pk:List Int)(k:Nat):List Int:=pk.take k++List.replicate (pk.length-k) 0
theorem y0E(pk:List Int)(k:Nat):(zr pk k).length=pk.length:=by simp [zr];omega
theorem y8N(pk:List Int):zr pk pk.length=pk:=by simp [zr]
theorem y5w(pk:List Int)(k i:Nat)(h:i<k):(zr pk k).getD i 0=pk.getD i 0:=by
 unfold zr
 by_cases hi:i<pk.length
 ·rw[List.getD_eq_getElem?_getD,List.getElem?_append_left (by simp;omega),List.getElem?_take,if_pos h,← List.getD_eq_getElem?_getD]
 ·rw[List.getD_eq_getElem?_getD,List.getD_eq_getElem?_getD,List.getElem?_eq_none (l:=pk) (by omega),List.getElem?_append_right (by simp;omega),List.getElem?_eq_none (by simp;omega)]
theorem y8O(pk:List Int)(k:Nat)(h:k<pk.length):(zr pk (k+1)).set k 0=zr pk k:=by
 unfold zr
 rw[Z3 pk k 0 h,List.append_assoc,List.set_append_right _ _ (by simp;omega),show k-(pk.take k).length=0 by simp;omega,show pk.length-k=(pk.length-(k+1))+1 by omega,List.replicate_succ]
 rfl
theorem y5x(x:Int)(pk:List Int)(k:Nat):zr (x :: pk) (k+1)=x :: zr pk k:=by simp [zr]
theorem z7Z:∀(L:List (List Og)) (pk:List Int),pk.length=L.length→(∀i,i<L.length→((L.getD i []).length:Int)≤pk.getD i 0+1)→nxk L pk=none
 | [],[],_,_=>rfl
 | [],_ :: _,h,_=>by simp at h
 | _ :: _,[],h,_=>by simp at h
 | l :: L,x :: pk,h,h0=>by
  have hl:pk.length=L.length:=by simpa using h
  have ih:=z7Z L pk hl fun i hi=>by have:=h0 (i+1) (by simpa using hi);simpa using this
  have h1:=h0 0 (by simp)
  simp only[List.getD_cons_zero]at h1
  unfold nxk
  rw[ih]
  simp only
  rw[if_neg (by omega)]
theorem ys5:∀(L:List (List Og)) (pk:List Int) (m:Nat),pk.length=L.length→m<L.length→(∀i,m<i→i<L.length→((L.getD i []).length:Int)≤pk.getD i 0+1)→pk.getD m 0+1<((L.getD m []).length:Int)→nxk L pk=some ((zr pk (m+1)).set m (pk.getD m 0+1))
 | [],_,_,_,h,_,_=>by simp at h
 | _ :: _,[],_,h,_,_,_=>by simp at h
 | l :: L,x :: pk,0,h,_,h0,h1=>by
  have hl:pk.length=L.length:=by simpa using h
  have ih:=z7Z L pk hl fun i hi=>by have:=h0 (i+1) (by omega) (by simpa using hi);simpa using this
  simp only[List.getD_cons_zero]at h1 ⊢
  unfold nxk
  rw[ih]
  simp only
  rw[if_pos h1,y5x]
  simp [zr]
 | l :: L,x :: pk,m+1,h,hm,h0,h1=>by
  have hl:pk.length=L.length:=by simpa using h
  have ih:=ys5 L pk m hl (by simpa using hm) (fun i hi h2=>by have:=h0 (i+1) (by omega) (by simpa using h2);simpa using this) (by simpa using h1)
  unfold nxk
  rw[ih,y5x]
  simp
theorem yE8{u:Bool}(L:List (List Og)):VR P false zE6 [.fs u (ogL u L)] [] (isR (.fn zb9 [.fp true [.fs u (ogL u L)]])):=by
 refine z2E (by simp) (.inr rfl) fun _ _=>?_
 simp (disch:=(try simp only[lZ]);omega) only[aZ,aM,aG37,zm0,zE8,z3J]
 exact y8 (r:=.fn zb9 [.fp true [.fs u (ogL u L)]]) (Fz.fn (l:=[.lp 0 0 0]) (r:=[.fp true [.fs u (ogL u L)]]) ⟨Fz.lp (l:=[.fs u (ogL u L)]) (r:=[.fs u (ogL u L)]) (by omega) (by simp (disch:=(try simp only[lZ]);omega) only[aZ,aM,aG37]) (FzL.refl (by simp (disch:=first|omega|simp (disch:=omega) only[aG,aM,aG37]) only[fZ,aM,aG37])) (by simp),trivial⟩) ⟨rfl,rfl⟩
theorem Cut.appK{n0:Nat}{e e':List A}{H:List Blk}(P T:List Blk)(hn:n0≤(H++P).length)(hb:okB (H++P).length (H++P))(he:FzL (H++P).length (H++(P++T)) e e'):Cut n0 e (H++(P++T)) e' (H++P):=by
 rw[← List.append_assoc]at he ⊢
 exact Cut.app hn hb he
theorem yE9 {u : Bool} {L : List (List Og)} (hL : L.length ≤ 1000) (h4 : ∀ l ∈ L, l.length ≤ 1000) {c1 : Cfg} {l n : Nat} {Km : List (List Int) → List Blk} (hn : ∀ pre, (Km pre).length = n) (hb : ∀ pre m, n ≤ m → okB m (Km pre)) (hH : c1.H = Km []) (hs : St c1)
    (hY:∀pre pk,allP L=pre++sfx L pk→PkOk L pk→YR P n c1 l [.fs true (ints pk)] (Km pre++[⟨0,ints pk⟩]) (fun r H'=>r=.v (.bool true)∧H'=Km (pre++[pk])++[⟨0,ints pk⟩])) :
    IterR P zb9 c1 l [.fp true [.fs u (ogL u L)]] (fun H3=>H3=Km (allP L)):=by
  refine IterR.of (F:=zx0) (V:=zx1) (nt:=45) (fun hl _ _ hs=>y5N (nk:=false) z5m Tryz.func77 (by kernel_rfl) (by rw[Tryz.ntmps77];exact hl) hs) hs hH (by simp) ?_
  rw[hn []]
  show AWJ P n c1 zc0 _ _ _
  have hk0:=hn []
  refine AWJ.chain 2 (aw_sound ?_)
  conv=>arg 3;simp only[zc0,S.pre]
  simp (disch:=(try simp only[lZ]);omega) only[aZ,aM,aG37,zx1]
  rw[hk0]
  conv=>arg 4;simp only[zc0,S.post]
  have hz:=z7Y L
  have hpz:PkOk L (List.replicate L.length 0):=⟨by simp,fun m hm=>by
    have e:(List.replicate L.length (0:Int)).getD m 0=0:=by simp [List.getD_eq_getElem?_getD,hm]
    rw[e]
    by_cases h:(L.getD m []).length=0
    · exact⟨by omega,.inr ⟨h,rfl⟩⟩
    · exact⟨by omega,.inl (by omega)⟩⟩
  refine AWJ.blk (AWJ.loop (fun x:List (List Int)×List Int=>allP L=x.1++sfx L x.2∧PkOk L x.2) (fun _=>[.v (yv l),.fp true [.fs u (ogL u L)],.sl n 0 1 0 L.length,.any,.any,.any,.any,.any]) (fun x=>Km x.1++[⟨0,ints x.2⟩]) (fun x=>(sfx L x.2).length) ([],List.replicate L.length 0) ⟨by rw[List.nil_append,hz],hpz⟩ (Cut.fg (by simp (disch:=first|omega|simp (disch:=omega) only[aG,aM,aG37]) only[fZ,aM,aG37,y0,z9,or_true,true_or])) ?_)
  clear hz hpz hk0 hH
  rintro⟨pre,pk⟩ ⟨hpre,hpk⟩
  simp only at hpre hpk
  have hround:=hY pre pk hpre hpk
  have hnx:=yL9 L pk hpk.1 (fun i=>by
    by_cases hi:i<L.length
    · exact(hpk.2 i hi).1
    · rw[List.getD_eq_getElem?_getD,List.getElem?_eq_none (by have:=hpk.1;omega)];simp)
  have hk:=hn pre
  have hpl:=hpk.1
  refine AWJ.blk (AWJ.chain 2 (aw_sound ?_))
  conv=>arg 3;simp only[S.pre]
  have aP:∀(T:List Blk),blkAt (Km pre++(⟨0,ints pk⟩ :: T)) n 0=some (ints pk):=fun T=>by rw[← hk];exact x5 _ _ _
  simp (disch:=(try simp only[lZ]);omega) only[aZ,aM,aG37,aP]
  conv=>arg 4;simp only[S.post]
  have okK:okB (Km pre++[(⟨0,ints pk⟩:Blk)]).length (Km pre++[(⟨0,ints pk⟩:Blk)]):=by
    rw[List.length_append,hk]
    exact(hb pre _ (by omega)).app fun B hB=>by rw[List.mem_singleton.1 hB];exact zl4 _ _
  refine AWJ.cut (e':=[.v (yv l),.fp true [.fs u (ogL u L)],.sl n 0 1 0 L.length,.any,.any,.any,.fs true (ints pk),.any]) (H':=Km pre++[⟨0,ints pk⟩]) (Cut.appK [⟨0,ints pk⟩] [⟨1,ints pk⟩] (by rw[List.length_append];omega) okK ?_) ?_
  · have hlen:(Km pre++[(⟨0,ints pk⟩:Blk)]).length=n+1:=by rw[List.length_append,hk];rfl
    rw[hlen]
    refine⟨Fz.refl rfl,Fz.refl (by simp (disch:=first|omega|simp (disch:=omega) only[aG,aM,aG37]) only[fZ,aM,aG37]),Fz.refl (by simp [A.bd]),Fz.any,Fz.any,Fz.any,?_,Fz.any,trivial⟩
    exact zK3 _ _ _ _ _ pk (by omega) hpl.symm (by rw[zg6];rfl)
  refine AWJ.yield rfl rfl (hround.mono ?_)
  rintro r H' ⟨rfl,rfl⟩
  have hk2:=hn (pre++[pk])
  have okK2:=hb (pre++[pk])
  generalize hKK:Km (pre++[pk])=K at *
  have okP:∀j,okB (K++[(⟨0,ints (zr pk j)⟩:Blk)]).length (K++[(⟨0,ints (zr pk j)⟩:Blk)]):=fun j=>by
    rw[List.length_append,hk2]
    exact(okK2 _ (by omega)).app fun B hB=>by rw[List.mem_singleton.1 hB];exact zl4 _ _
  refine AWJ.of (z7 ?_)
  simp (disch:=(try simp only[lZ]);omega) only[aZ,aM,aG37]
  refine AWP.loopM zY6 (fun j:Nat=>j≤L.length∧∀i,j≤i→i<L.length→((L.getD i []).length:Int)≤pk.getD i 0+1) (fun j=>[(3,.v (.int .i64 ((j:Int)-1)))]) (fun j=>K++[⟨0,ints (zr pk j)⟩]) (fun j=>j) L.length ⟨by omega,fun i h1 h2=>absurd h1 (by omega)⟩ ?_ ?_
  · rw[← hpl,y8N]
    exact Cut.fg (by simp (disch:=first|omega|simp (disch:=omega) only[aG,aM,aG37]) only[fZ,aM,aG37,y0,z9,or_true,true_or])
  rintro j ⟨hj,hg⟩
  have zl:=y0E pk j
  have zA:∀(T:List Blk),blkAt (K++(⟨0,ints (zr pk j)⟩ :: T)) n 0=some (ints (zr pk j)):=fun T=>by rw[← hk2];exact x5 _ _ _
  have sK:∀(B C:Blk),(K++[B]).set n C=K++[C]:=fun B C=>by rw[← hk2,List.set_append_right _ _ (Nat.le_refl _),Nat.sub_self];rfl
  cases j with
  | zero =>
    have hno:=z7Z L pk hpl (fun i hi=>hg i (by omega) hi)
    rw[hno]at hnx
    have hall:allP L=pre++[pk]:=by rw[hpre,hnx]
    simp (disch:=(try simp only[lZ]);omega) only[aZ,aM,aG37,zA,z1t]
    rw[hall,hKK]
    exact xz7 (r:=.any) (by rw[hk2];exact Nat.le_refl _) (okK2 _ (by omega)) Fz.any rfl
  | succ m =>
    have hm:m<L.length:=by omega
    have e1:(((m+1:Nat):Int)-1)=(m:Int):=by omega
    have q2:=hpk.2 m hm
    have hlm:=h4 _ (x3 [] hm)
    have zg:=y5w pk (m+1) m (by omega)
    have zs:=y8O pk m (by omega)
    by_cases hge:pk.getD m 0+1≥((L.getD m []).length:Int)
    · simp (disch:=(try simp only[lZ]);omega) only[aZ,aM,aG37,e1,zA,zg,zs,decide_eq_true hge]
      rw[sK]
      refine⟨m,⟨by omega,fun i h1 h2=>?_⟩,by omega,?_⟩
      · by_cases e:i=m
        · subst e;exact hge
        · exact hg i (by omega) h2
      · exact Cut.fg (by simp (disch:=first|omega|simp (disch:=omega) only[aG,aM,aG37]) only[fZ,aM,aG37,y0,z9,or_true,true_or])
    · have hsome:=ys5 L pk m hpl hm (fun i h1 h2=>hg i (by omega) h2) (by omega)
      simp (disch:=(try simp only[lZ]);omega) only[aZ,aM,aG37,e1,zA,zg,decide_eq_false hge]
      rw[sK,← hKK]
      rw[hsome]at hnx
      simp only at hnx
      generalize hq:(zr pk (m+1)).set m (pk.getD m 0+1)=q at *
      have hql:q.length=L.length:=by rw[← hq,List.length_set,y0E];exact hpl
      refine⟨(pre++[pk],q),⟨by rw[hpre,hnx];simp,hql,fun i hi=>?_⟩,by rw[hnx];simp,?_⟩
      · have hqi : q.getD i 0 = if i = m then pk.getD m 0 + 1 else if i < m then pk.getD i 0 else 0 := by
          rw[← hq,List.getD_eq_getElem?_getD]
          by_cases e:i=m
          · subst e
            rw[List.getElem?_set_self (by rw[y0E];omega),if_pos rfl];rfl
          · rw[List.getElem?_set_ne (fun h=>e h.symm),← List.getD_eq_getElem?_getD,if_neg e]
            by_cases h2:i<m
            · rw[if_pos h2,y5w _ _ _ (by omega)]
            · rw[if_neg h2]
              unfold zr
              rw[List.getD_eq_getElem?_getD,List.getElem?_append_right (by simp;omega),List.getElem?_replicate]
              split<;>rfl
        have q3:=hpk.2 i hi
        rw[hqi]
        by_cases e:i=m
        · subst e;rw[if_pos rfl];omega
        · rw[if_neg e]
          by_cases h2:i<m
          · rw[if_pos h2];exact q3
          · rw[if_neg h2]
            by_cases h0:(L.getD i []).length=0
            · exact⟨by omega,.inr ⟨h0,rfl⟩⟩
            · exact⟨by omega,.inl (by omega)⟩
      · exact Cut.fg (by simp (disch:=first|omega|simp (disch:=omega) only[aG,aM,aG37]) only[fZ,aM,aG37,y0,z9,or_true,true_or])
def zT7(p:Pl)(L:List (List Og))(xs:List Int)(gl:List Bt)(pk:List Int):Option Int :=
 if(yldR (X6 p L pk) xs).2=0 then some (wrtS (yldL (X6 p L pk) xs) gl-spcS L pk)else none
def yF0(p:Pl)(L:List (List Og))(xs:List Int)(gl:List Bt)(b:Option (List Int×Int))(pk:List Int):Option (List Int×Int) :=
 match zT7 p L xs gl pk with
 | none=>b
 | some v=>match b with
  | none=>some (pk,v)
  | some q=>if v>q.2 then some (pk,v)else b
def bstL(p:Pl)(L:List (List Og))(xs:List Int)(gl:List Bt)(l:List (List Int)):Option (List Int×Int):=l.foldl (yF0 p L xs gl) none
def bstO:Option (List Int×Int)→(List Int×Int)×Int
 | none=>(([],0),40)
 | some q=>(q,0)
noncomputable def zd0(p:Pl)(L:List (List Og))(xs:List Int)(gl:List Bt):(List Int×Int)×Int :=
 if y6 p≠0 then(([],0),y6 p)else if za4 p L≠0 then(([],0),za4 p L)else if 256<prd L then(([],0),8)else if fedE p xs≠0 then(([],0),fedE p xs)else if zb3 p gl≠0 then(([],0),zb3 p gl)else
 bstO (bstL p L xs gl (allP L))
def y5y(x:(List Int×Int)×Int):A:=.tup [.agg [.fs true (ints x.1.1),.v (.int .i64 x.1.2)],.v (.int .i64 x.2)]
def bstC:Option (List Int×Int)→List A
 | none=>[.v (.slice none 0 0),.v (.int .i64 0)]
 | some q=>[.fs true (ints q.1),.v (.int .i64 q.2)]
theorem yF1(p:Pl)(L:List (List Og))(xs:List Int)(gl:List Bt)(l:List (List Int))(pk:List Int):bstL p L xs gl (l++[pk])=yF0 p L xs gl (bstL p L xs gl l) pk:=by
 unfold bstL;rw[List.foldl_append];rfl
theorem y5z{Y:List (List Int)}{l:List Bt}(hl:l.length≤24)(hg:∀g∈l,yE1 Y g):-412316860416000000≤wrtS Y l∧wrtS Y l≤412316860416000000:=by
 have h:=zB5 (wrtL Y l) (-17179869184000000) 17179869184000000 (wrtL Y l).length (Nat.le_refl _) fun i hi=>by
  rw[z7W]at hi
  rw[z43 _ _ _ hi]
  have:=yE2 (hg _ (x3 b0 hi))
  omega
 rw[zd8,z7W]at h
 unfold wrtS
 omega
theorem y5A{L:List (List Og)}{pk:List Int}(hl:L.length≤24)(hc:yE5 L)(hp:PkOk L pk):0≤spcS L pk∧spcS L pk≤24000000000000:=by
 have h:=zB5 (spcL L pk) 0 1000000000000 (spcL L pk).length (Nat.le_refl _) fun i hi=>by
  rw[z7X]at hi
  rw[z47 _ _ _ hi]
  exact yE6 hc hp hi
 rw[zd8,z7X]at h
 unfold spcS
 omega
theorem y1i{p:Pl}{L:List (List Og)}{pk xs:List Int}(hc:chkP (X6 p L pk)=0)(hf:fedE (X6 p L pk) xs=0){l:List Bt}(hw:zb3 p l=0):l.length≤24∧∀g∈l,yE1 (yldL (X6 p L pk) xs) g:=by
 have ok:=y7 (zc7 hc).1
 have hml:(X6 p L pk).ms.length=p.ms.length:=zO5 p L pk
 have hl:¬24<l.length:=fun h=>by unfold zb3 at hw;rw[if_pos h]at hw;cases hw
 refine⟨by omega,fun g hg=>?_⟩
 have hb:¬badG p g:=by
  unfold zb3 at hw
  rw[if_neg hl]at hw
  split at hw
  ·rename_i h
   exact absurd hw (z0W b0 h)
  ·rename_i h
   exact zS9 (by omega) g hg
 obtain⟨q1,q2,q3,q4,q5,q6,q7,q8,q9⟩:=yL3 hb
 refine⟨q1,by rw[z44];omega,q6,q7,?_⟩
 rw[y0z _ _ _ (by omega)]
 exact yJ9 ok.mt1.2.1 (y5n hc hf (by omega))
def bKm(w v u u1 u2:Bool)(p:Pl)(L:List (List Og))(xs:List Int)(gl:List Bt)(b:Option (List Int×Int)):List Blk :=
 [⟨0,plC w v p⟩,⟨0,[.fs u (ogL u L)]⟩,⟨0,[.fs u1 (ints xs)]⟩,⟨0,[.fs u2 (bts gl)]⟩,⟨0,[.v (.slice none 0 0),.v (.int .i64 0)]⟩,⟨0,bstC b⟩,⟨0,[.v (.bool b.isSome)]⟩]
theorem xa6(n:Nat)(b:Option (List Int×Int)):A.bdL n (bstC b)=true:=by cases b<;>simp [bstC,A.bdL,A.bd,zl4]
theorem xv0{w v u u1 u2:Bool}{p:Pl}{L:List (List Og)}{xs:List Int}{gl:List Bt}{b:Option (List Int×Int)}(m:Nat):okB m (bKm w v u u1 u2 p L xs gl b):=fun B hB=>by
 simp only[bKm,List.mem_cons,List.not_mem_nil,or_false]at hB
 rcases hB with rfl|rfl|rfl|rfl|rfl|rfl|rfl
 ·exact yX0 _ _ _ _
 ·simp [A.bdL,A.bd,y0A]
 ·simp [A.bdL,A.bd,zl4]
 ·simp [A.bdL,A.bd,y00]
 ·rfl
 ·exact xa6 _ _
 ·rfl
theorem yF2{P:Program}{n0:Nat}{sa b c:S}{g:X}{k:Nat}{r:List X}{R:A→List Blk→Prop}{e:List A}{H:List Blk}:xq1 P n0 sa b c g k r R .ret e H=z8b n0 ⟨.nxt,r⟩ R .ret e H:=rfl
theorem z22(s:S)(r:List X):Fun.res ⟨s,r⟩=r:=rfl
theorem zk5(H:List Blk)(e:Int):Fz 0 H (.tup [.agg [.v (.slice none 0 0),.v (.int .i64 0)],.v (.int .i64 e)]) (y5y (([],0),e)) :=
 Fz.tup ⟨Fz.agg (l:=[.v (.slice none 0 0),.v (.int .i64 0)]) (r:=[.fs true [],.v (.int .i64 0)]) ⟨z3d _ _,Fz.refl rfl,trivial⟩,Fz.refl rfl,trivial⟩
set_option maxHeartbeats 4000000 in
theorem ya0{w v u1 u2:Bool}(p:Pl)(L:List (List Og))(xs:List Int)(gl:List Bt):VR P false z0V [plA w v p,.fs true (ogL true L),.fs u1 (ints xs),.fs u2 (bts gl)] [] (isR (y5y (zd0 p L xs gl))):=by
 refine z7D (by simp) (.inr rfl) ?_
 have hck:=zr7 (w:=w) (v:=v) p
 unfold plA at *
 refine aw_sound ?_
 by_cases h1:y6 p=0
 case neg =>
  have e:zd0 p L xs gl=(([],0),y6 p):=by unfold zd0;rw[if_pos h1]
  rw[e]
  unfold plC at *
  simp (disch:=(try simp only[lZ]);omega) only[aZ,aM,aG37,Q4,Q5]
  refine hck.same (by simp (disch:=first|omega|simp (disch:=omega) only[aG,aM,aG37]) only[fZ,aM,aG37]) rfl (z7 ?_)
  simp (disch:=(try simp only[lZ]);omega) only[aZ,aM,aG37,decide_eq_true (show ¬y6 p=0 from h1)]
  rw[yF2]
  simp (disch:=(try simp only[lZ]);omega) only[aZ,aM,aG37,z22]
  exact y8 (zk5 _ _) ⟨rfl,rfl⟩
 have ok:=y7 h1
 obtain⟨m1,m2,m3⟩:=ok.mt1
 have n2:=ok.n2
 have hpo:=z46 (w:=w) (v:=v) (u:=true) ok L
 have hfd:=y0x (w:=w) (v:=v) (u:=u1) ok xs
 have hwa:=z93 (w:=w) (v:=v) (u:=u2) ok gl
 have hch:=yE8 (u:=true) L
 unfold plA plC at *
 by_cases h2:za4 p L=0
 case neg =>
  have e:zd0 p L xs gl=(([],0),za4 p L):=by unfold zd0;rw[if_neg (fun h=>h h1),if_pos h2]
  rw[e]
  simp (disch:=(try simp only[lZ]);omega) only[aZ,aM,aG37,Q4,Q5]
  refine hck.same (by simp (disch:=first|omega|simp (disch:=omega) only[aG,aM,aG37]) only[fZ,aM,aG37]) rfl (z7 ?_)
  simp (disch:=(try simp only[lZ]);omega) only[aZ,aM,aG37,h1]
  refine hpo.same (by simp (disch:=first|omega|simp (disch:=omega) only[aG,aM,aG37]) only[fZ,aM,aG37]) rfl (z7 ?_)
  simp (disch:=(try simp only[lZ]);omega) only[aZ,aM,aG37,decide_eq_true (show ¬za4 p L=0 from h2)]
  rw[yF2]
  simp (disch:=(try simp only[lZ]);omega) only[aZ,aM,aG37,z22]
  exact y8 (zk5 _ _) ⟨rfl,rfl⟩
 obtain⟨hl,hlm⟩:=zC1 h2
 have hb4:∀l∈L,l.length≤4:=fun l hl2=>by
  obtain⟨m,hm,rfl⟩:=zJ9 [] hl2
  exact(hlm m (by omega)).1
 have hmy:=y5v (u:=true) L (by omega) (fun l hl2=>by have:=hb4 l hl2;omega)
 by_cases h3:256<prd L
 ·have e:zd0 p L xs gl=(([],0),8):=by unfold zd0;rw[if_neg (fun h=>h h1),if_neg (fun h=>h h2),if_pos h3]
  rw[e]
  rw[decide_eq_true h3]at hmy
  simp (disch:=(try simp only[lZ]);omega) only[aZ,aM,aG37,Q4,Q5]
  refine hck.same (by simp (disch:=first|omega|simp (disch:=omega) only[aG,aM,aG37]) only[fZ,aM,aG37]) rfl (z7 ?_)
  simp (disch:=(try simp only[lZ]);omega) only[aZ,aM,aG37,h1]
  refine hpo.same (by simp (disch:=first|omega|simp (disch:=omega) only[aG,aM,aG37]) only[fZ,aM,aG37]) rfl (z7 ?_)
  simp (disch:=(try simp only[lZ]);omega) only[aZ,aM,aG37,h2]
  refine hmy.same (by simp (disch:=first|omega|simp (disch:=omega) only[aG,aM,aG37]) only[fZ,aM,aG37]) rfl (z7 ?_)
  simp (disch:=(try simp only[lZ]);omega) only[aZ,aM,aG37]
  rw[yF2]
  simp (disch:=(try simp only[lZ]);omega) only[aZ,aM,aG37,z22]
  exact y8 (zk5 _ _) ⟨rfl,rfl⟩
 rw[decide_eq_false h3]at hmy
 by_cases h4:fedE p xs=0
 case neg =>
  have e:zd0 p L xs gl=(([],0),fedE p xs):=by unfold zd0;rw[if_neg (fun h=>h h1),if_neg (fun h=>h h2),if_neg h3,if_pos h4]
  rw[e]
  simp (disch:=(try simp only[lZ]);omega) only[aZ,aM,aG37,Q4,Q5]
  refine hck.same (by simp (disch:=first|omega|simp (disch:=omega) only[aG,aM,aG37]) only[fZ,aM,aG37]) rfl (z7 ?_)
  simp (disch:=(try simp only[lZ]);omega) only[aZ,aM,aG37,h1]
  refine hpo.same (by simp (disch:=first|omega|simp (disch:=omega) only[aG,aM,aG37]) only[fZ,aM,aG37]) rfl (z7 ?_)
  simp (disch:=(try simp only[lZ]);omega) only[aZ,aM,aG37,h2]
  refine hmy.same (by simp (disch:=first|omega|simp (disch:=omega) only[aG,aM,aG37]) only[fZ,aM,aG37]) rfl (z7 ?_)
  simp (disch:=(try simp only[lZ]);omega) only[aZ,aM,aG37]
  refine hfd.same (by simp (disch:=first|omega|simp (disch:=omega) only[aG,aM,aG37]) only[fZ,aM,aG37]) rfl (z7 ?_)
  simp (disch:=(try simp only[lZ]);omega) only[aZ,aM,aG37,decide_eq_true (show ¬fedE p xs=0 from h4)]
  rw[yF2]
  simp (disch:=(try simp only[lZ]);omega) only[aZ,aM,aG37,z22]
  exact y8 (zk5 _ _) ⟨rfl,rfl⟩
 by_cases h5:zb3 p gl=0
 case neg =>
  have e:zd0 p L xs gl=(([],0),zb3 p gl):=by unfold zd0;rw[if_neg (fun h=>h h1),if_neg (fun h=>h h2),if_neg h3,if_neg (fun h=>h h4),if_pos h5]
  rw[e]
  simp (disch:=(try simp only[lZ]);omega) only[aZ,aM,aG37,Q4,Q5]
  refine hck.same (by simp (disch:=first|omega|simp (disch:=omega) only[aG,aM,aG37]) only[fZ,aM,aG37]) rfl (z7 ?_)
  simp (disch:=(try simp only[lZ]);omega) only[aZ,aM,aG37,h1]
  refine hpo.same (by simp (disch:=first|omega|simp (disch:=omega) only[aG,aM,aG37]) only[fZ,aM,aG37]) rfl (z7 ?_)
  simp (disch:=(try simp only[lZ]);omega) only[aZ,aM,aG37,h2]
  refine hmy.same (by simp (disch:=first|omega|simp (disch:=omega) only[aG,aM,aG37]) only[fZ,aM,aG37]) rfl (z7 ?_)
  simp (disch:=(try simp only[lZ]);omega) only[aZ,aM,aG37]
  refine hfd.same (by simp (disch:=first|omega|simp (disch:=omega) only[aG,aM,aG37]) only[fZ,aM,aG37]) rfl (z7 ?_)
  simp (disch:=(try simp only[lZ]);omega) only[aZ,aM,aG37,h4]
  refine hwa.same (by simp (disch:=first|omega|simp (disch:=omega) only[aG,aM,aG37]) only[fZ,aM,aG37]) rfl (z7 ?_)
  simp (disch:=(try simp only[lZ]);omega) only[aZ,aM,aG37,decide_eq_true (show ¬zb3 p gl=0 from h5)]
  rw[yF2]
  simp (disch:=(try simp only[lZ]);omega) only[aZ,aM,aG37,z22]
  exact y8 (zk5 _ _) ⟨rfl,rfl⟩
 have e:zd0 p L xs gl=bstO (bstL p L xs gl (allP L)):=by unfold zd0;rw[if_neg (fun h=>h h1),if_neg (fun h=>h h2),if_neg h3,if_neg (fun h=>h h4),if_neg (fun h=>h h5)]
 rw[e]
 have hcost:=yE7 h2
 simp (disch:=(try simp only[lZ]);omega) only[aZ,aM,aG37,Q4,Q5]
 refine hck.same (by simp (disch:=first|omega|simp (disch:=omega) only[aG,aM,aG37]) only[fZ,aM,aG37]) rfl (z7 ?_)
 simp (disch:=(try simp only[lZ]);omega) only[aZ,aM,aG37,h1]
 refine hpo.same (by simp (disch:=first|omega|simp (disch:=omega) only[aG,aM,aG37]) only[fZ,aM,aG37]) rfl (z7 ?_)
 simp (disch:=(try simp only[lZ]);omega) only[aZ,aM,aG37,h2]
 refine hmy.same (by simp (disch:=first|omega|simp (disch:=omega) only[aG,aM,aG37]) only[fZ,aM,aG37]) rfl (z7 ?_)
 simp (disch:=(try simp only[lZ]);omega) only[aZ,aM,aG37]
 refine hfd.same (by simp (disch:=first|omega|simp (disch:=omega) only[aG,aM,aG37]) only[fZ,aM,aG37]) rfl (z7 ?_)
 simp (disch:=(try simp only[lZ]);omega) only[aZ,aM,aG37,h4]
 refine hwa.same (by simp (disch:=first|omega|simp (disch:=omega) only[aG,aM,aG37]) only[fZ,aM,aG37]) rfl (z7 ?_)
 simp (disch:=(try simp only[lZ]);omega) only[aZ,aM,aG37,h5]
 refine hch.same (by simp (disch:=first|omega|simp (disch:=omega) only[aG,aM,aG37]) only[fZ,aM,aG37]) (by simp [A.cl,A.clL,A.bd,A.bdL,y5t,y0A]) (z7 ?_)
 simp (disch:=(try simp only[lZ]);omega) only[aZ,aM,aG37]
 refine⟨zb9,[.fp true [.fs true (ogL true L)]],rfl,by kernel_rfl,fun c1 l hH hs hround=>?_⟩
 have hKm:∀b,(bKm w v true u1 u2 p L xs gl b).length=7:=fun b=>rfl
 have hit:=yE9 (u:=true) (L:=L) (by omega) (fun l hl2=>by have:=hb4 l hl2;omega) (c1:=c1) (l:=l) (n:=7) (Km:=fun pre=>bKm w v true u1 u2 p L xs gl (bstL p L xs gl pre)) (fun _=>rfl) (fun _ m _=>xv0 m) hH hs ?_
 case refine_1 =>
  intro pre pk hpre hpk
  refine hround _ _ _ ?_
  refine aw_sound ?_
  simp (disch:=(try simp only[lZ]);omega) only[aZ,aM,aG37,zX8]
  refine⟨trivial,aw_sound ?_⟩
  have hst:=yF1 p L xs gl pre pk
  have hpi:=z99 (w:=w) (v:=v) (u:=true) (u':=true) ok h2 hpk
  have hyi:=z55 (w:=true) (v:=true) (u:=u1) (X6 p L pk) xs
  have hva:zT7 p L xs gl pk=if(yldR (X6 p L pk) xs).2=0 then some (wrtS (yldL (X6 p L pk) xs) gl-spcS L pk)else none:=rfl
  have hsb:yF0 p L xs gl (bstL p L xs gl pre) pk=match zT7 p L xs gl pk with
   | none=>bstL p L xs gl pre
   | some v=>match bstL p L xs gl pre with
    | none=>some (pk,v)
    | some q=>if v>q.2 then some (pk,v)else bstL p L xs gl pre:=rfl
  have hgp:=fun hc hf=>y1i (p:=p) (L:=L) (pk:=pk) (xs:=xs) hc hf h5
  have hsp:=y5A (L:=L) (pk:=pk) (by omega) hcost hpk
  have hsv:=y1g (u:=true) (u':=true) L pk (by omega) hcost hpk
  have hyl:=z44 (X6 p L pk) xs
  have hpl:(X6 p L pk).ms.length=p.ms.length:=zO5 p L pk
  rw[hst,hsb,hva]
  clear hst hsb hround
  unfold yldT at hyi
  generalize bstL p L xs gl pre=b at *
  generalize X6 p L pk=Q at *
  unfold plA plC at *
  have hlen8:(bKm w v true u1 u2 p L xs gl b).length+1=8:=rfl
  rw[hlen8]
  by_cases hy:(yldR Q xs).2=0
  case neg =>
   rw[if_neg hy]
   simp only[bKm,plC,List.cons_append,List.nil_append]
   simp (disch:=(try simp only[lZ]);omega) only[aZ,aM,aG37,zk3]
   refine hpi.same (by simp (disch:=first|omega|simp (disch:=omega) only[aG,aM,aG37]) only[fZ,aM,aG37]) (by simp (disch:=first|omega|simp (disch:=omega) only[aG,aM,aG37]) only[fZ,aM,aG37]) (z7 ?_)
   simp (disch:=(try simp only[lZ]);omega) only[aZ,aM,aG37]
   refine hyi.same (by simp (disch:=first|omega|simp (disch:=omega) only[aG,aM,aG37]) only[fZ,aM,aG37]) (by simp (disch:=first|omega|simp (disch:=omega) only[aG,aM,aG37]) only[fZ,aM,aG37]) (z7 ?_)
   simp (disch:=(try simp only[lZ]);omega) only[aZ,aM,aG37,decide_eq_true (show ¬(yldR Q xs).2=0 from hy)]
   exact⟨trivial,trivial,trivial⟩
  rw[if_pos hy]
  obtain⟨hc,hf,hyr⟩:=ys3 hy
  obtain⟨g1,g2⟩:=hgp hc hf
  have hwo:=yj9 (u:=true) (u':=u2) (yldL Q xs) gl g1 (by omega) g2
  have hwb:=y5z g1 g2
  rw[hyr]at hyi
  generalize wrtS (yldL Q xs) gl=W at *
  generalize spcS L pk=C at *
  cases b with
  | none =>
   simp only[bKm,plC,bstC,List.cons_append,List.nil_append,Option.isSome]
   simp (disch:=(try simp only[lZ]);omega) only[aZ,aM,aG37,zk3]
   refine hpi.same (by simp (disch:=first|omega|simp (disch:=omega) only[aG,aM,aG37]) only[fZ,aM,aG37]) (by simp (disch:=first|omega|simp (disch:=omega) only[aG,aM,aG37]) only[fZ,aM,aG37]) (z7 ?_)
   simp (disch:=(try simp only[lZ]);omega) only[aZ,aM,aG37]
   refine hyi.same (by simp (disch:=first|omega|simp (disch:=omega) only[aG,aM,aG37]) only[fZ,aM,aG37]) (by simp (disch:=first|omega|simp (disch:=omega) only[aG,aM,aG37]) only[fZ,aM,aG37]) (z7 ?_)
   simp (disch:=(try simp only[lZ]);omega) only[aZ,aM,aG37]
   refine hwo.same (by simp (disch:=first|omega|simp (disch:=omega) only[aG,aM,aG37]) only[fZ,aM,aG37]) rfl (z7 ?_)
   simp (disch:=(try simp only[lZ]);omega) only[aZ,aM,aG37]
   refine hsv.same (by simp (disch:=first|omega|simp (disch:=omega) only[aG,aM,aG37]) only[fZ,aM,aG37]) rfl (z7 ?_)
   simp (disch:=(try simp only[lZ]);omega) only[aZ,aM,aG37]
   exact⟨trivial,trivial,trivial⟩
  | some q =>
   simp only[bKm,plC,bstC,List.cons_append,List.nil_append,Option.isSome]
   simp (disch:=(try simp only[lZ]);omega) only[aZ,aM,aG37,zk3]
   refine hpi.same (by simp (disch:=first|omega|simp (disch:=omega) only[aG,aM,aG37]) only[fZ,aM,aG37]) (by simp (disch:=first|omega|simp (disch:=omega) only[aG,aM,aG37]) only[fZ,aM,aG37]) (z7 ?_)
   simp (disch:=(try simp only[lZ]);omega) only[aZ,aM,aG37]
   refine hyi.same (by simp (disch:=first|omega|simp (disch:=omega) only[aG,aM,aG37]) only[fZ,aM,aG37]) (by simp (disch:=first|omega|simp (disch:=omega) only[aG,aM,aG37]) only[fZ,aM,aG37]) (z7 ?_)
   simp (disch:=(try simp only[lZ]);omega) only[aZ,aM,aG37]
   refine hwo.same (by simp (disch:=first|omega|simp (disch:=omega) only[aG,aM,aG37]) only[fZ,aM,aG37]) rfl (z7 ?_)
   simp (disch:=(try simp only[lZ]);omega) only[aZ,aM,aG37]
   refine hsv.same (by simp (disch:=first|omega|simp (disch:=omega) only[aG,aM,aG37]) only[fZ,aM,aG37]) rfl (z7 ?_)
   by_cases hgt:W-C>q.2
   ·rw[if_pos hgt]
    simp (disch:=(try simp only[lZ]);omega) only[aZ,aM,aG37,decide_eq_true hgt]
    exact⟨trivial,trivial,trivial⟩
   ·rw[if_neg hgt]
    simp (disch:=(try simp only[lZ]);omega) only[aZ,aM,aG37,decide_eq_false hgt]
    exact⟨trivial,trivial,trivial⟩
 refine fun vs ha=>(hit vs ha).mono ?_
 rintro vv hh ⟨d,e1,e2,e3,e4⟩
 refine⟨d,e1,?_,e3,e4⟩
 rw[e2]
 refine aw_sound ?_
 cases hbo:bstL p L xs gl (allP L)with
 | none =>
  simp only[bKm,plC,bstC,Option.isSome]
  simp (disch:=(try simp only[lZ]);omega) only[aZ,aM,aG37,zv9,z22]
  exact y8 (zk5 _ _) ⟨rfl,rfl⟩
 | some q =>
  simp only[bKm,plC,bstC,Option.isSome]
  simp (disch:=(try simp only[lZ]);omega) only[aZ,aM,aG37,zv9,z22]
  exact y8 (r:=.tup [.agg [.fs true (ints q.1),.v (.int .i64 q.2)],.v (.int .i64 0)]) (Fz.refl (by simp [A.bd,A.bdL,zl4,retA])) ⟨rfl,rfl⟩
theorem xa7{p:Pl}{s:Sy}(hg:Gd p s)(he:∀x,tot p s x=s.fed.getD x 0)(hz:sumI p s=0){x:Nat}(hx:x<p.mt):binT p s x=s.fed.getD x 0:=by
 have h1:=zq7 (fun x _=>(zB9 hg x).2) hz hx
 have h2:=yL0 p s x
 have:=he x
 omega
theorem yM0{p:Pl}(hc:chkP p=0){x:Int}(hf:fedE p [x]=0)(hm:p.mt=1)(hl:p.ms.length=2)(b0:¬binN p 0)(b1:binN p 1):yldL p [x]=[[0],[x]]:=by
 have hp:=(zc7 hc).1
 have ok:=y7 hp
 obtain⟨hI,hn,hz⟩:=yD6 hc hf
 obtain⟨q1,q2,q3⟩:=z92 hf
 obtain⟨g1,g2,g3,g4⟩:=hI.1.it hp (yN p [x])
 have hfe:∀y,(yS p [x]).fed.getD y 0=([x]:List Int).getD y 0:=fun y=>by
  show(itS p _ _).fed.getD y 0=_
  rw[g4]
  show(zc9 (y9 p.mt) [x]).getD y 0=_
  rw[zT5 (zi2 _).1 q1,Y5];omega
 have he:∀y,tot p (yS p [x]) y=(yS p [x]).fed.getD y 0:=fun y=>by
  rw[hfe]
  show tot p (itS p _ _) y=_
  rw[g2,z7T ok (Gd.new p) q1,yr2];omega
 have hb:=xa7 (s:=yS p [x]) g1 he hz (x:=0) (by omega)
 rw[hfe]at hb
 have hbt:binT p (yS p [x]) 0=sm p.ms.length fun m=>if binN p m then((yS p [x]).bef m).getD 0 0 else 0:=by unfold binT;rfl
 rw[hbt,hl]at hb
 simp only[sm,if_neg b0,if_pos b1]at hb
 have hok:=g1.ok.bef 1 (by omega)
 have h1:(yS p [x]).bef 1=[x]:=by
  refine Z5 0 (by have h9:((yS p [x]).bef 1).length=p.mt:=hok.1;rw[h9,hm];rfl) fun i hi=>?_
  have hi0:i=0:=by have:((yS p [x]).bef 1).length=p.mt:=hok.1;omega
  subst hi0
  simpa using hb
 unfold yldL
 rw[hl]
 show[yldM p [x] 0,yldM p [x] 1]=_
 unfold yldM
 rw[if_neg b0,if_pos b1,h1,hm]
 rfl
def exG:List Bt:=[⟨1,0,5000,900⟩]
def exL:List (List Og):=[[⟨[[1000,0]],7⟩,⟨[[500,500]],0⟩],[]]
def exB:List (List Og):=[[⟨[[0,1000]],0⟩],[]]
theorem yF3:fedE loopP [10]=0:=by decide +kernel
theorem y8P:yldR loopP [10]=([[0],[10]],0):=by
 unfold yldR
 rw[if_neg (fun h=>h yr7),if_neg (fun h=>h yF3),yM0 yr7 yF3 rfl rfl (by decide +kernel) (by decide +kernel)]
theorem yM1:zb3 loopP exG=0:=by
 rw[z1m (by decide) (fun i hi=>by
  have:i=0:=by simp [exG]at hi;omega
  subst this
  decide +kernel),if_neg]
 rintro⟨k,hk,i,hi,_⟩
 simp [exG]at hk;omega
theorem y8Q:wrtS [[0],[10]] exG=50000:=by decide +kernel
theorem xv1:valR loopP [10] exG=(50000,0):=by
 have e:yldL loopP [10]=[[0],[10]]:=yM0 yr7 yF3 rfl rfl (by decide +kernel) (by decide +kernel)
 unfold valR
 rw[y8P,if_neg (fun h=>h rfl),if_neg (fun h=>h yM1),e,y8Q]
theorem ex_v{L:List (List Og)}{pk:List Int}(hc:chkP (X6 loopP L pk)=0)(b0:¬binN (X6 loopP L pk) 0)(b1:binN (X6 loopP L pk) 1):zT7 loopP L [10] exG pk=some (50000-spcS L pk):=by
 have hf:fedE (X6 loopP L pk) [10]=0:=by
  have h1:(X6 loopP L pk).mt=1:=rfl
  unfold fedE
  rw[h1]
  decide +kernel
 have e:=yM0 hc hf rfl (zO5 _ _ _) b0 b1
 have ey:yldR (X6 loopP L pk) [10]=(yldL (X6 loopP L pk) [10],0):=by unfold yldR;rw[if_neg (fun h=>h hc),if_neg (fun h=>h hf)]
 unfold zT7
 rw[ey,if_pos rfl,e,y8Q]
theorem xa8:zd0 loopP exL [10] exG=(([1,0],50000),0):=by
 have v1:zT7 loopP exL [10] exG [0,0]=some 49993:=by
  rw[ex_v (by decide +kernel) (by decide +kernel) (by decide +kernel)];decide +kernel
 have v2:zT7 loopP exL [10] exG [1,0]=some 50000:=by
  rw[ex_v (by decide +kernel) (by decide +kernel) (by decide +kernel)];decide +kernel
 unfold zd0
 rw[if_neg (fun h=>h (show y6 loopP=0 by decide +kernel)),if_neg (fun h=>h (show za4 loopP exL=0 by decide +kernel)),if_neg (by decide +kernel),if_neg (fun h=>h yF3),if_neg (fun h=>h yM1),
  show allP exL=[[0,0],[1,0]] by decide +kernel]
 unfold bstL
 simp only[List.foldl_cons,List.foldl_nil,yF0,v1,v2]
 rfl
theorem xa9:zd0 loopP exB [10] exG=(([],0),40):=by
 have v1:zT7 loopP exB [10] exG [0,0]=none:=by
  have hc:chkP (X6 loopP exB [0,0])≠0:=by decide +kernel
  have ey:yldR (X6 loopP exB [0,0]) [10]=([],chkP (X6 loopP exB [0,0])):=by unfold yldR;rw[if_pos hc]
  unfold zT7
  rw[ey,if_neg (by exact hc)]
 unfold zd0
 rw[if_neg (fun h=>h (show y6 loopP=0 by decide +kernel)),if_neg (fun h=>h (show za4 loopP exB=0 by decide +kernel)),if_neg (by decide +kernel),if_neg (fun h=>h yF3),if_neg (fun h=>h yM1),
  show allP exB=[[0,0]] by decide +kernel]
 unfold bstL
 simp only[List.foldl_cons,List.foldl_nil,yF0,v1]
 rfl
theorem y6I:zn9 loopP exL [1,0]=(⟨1,[[[500,500]],[[]]],loopP.bs,0⟩,0):=by
 unfold zn9
 rw[if_neg (fun h=>h (show y6 loopP=0 by decide +kernel)),if_neg (fun h=>h (show za4 loopP exL=0 by decide +kernel)),if_neg (by decide),if_neg (by decide +kernel)]
 rfl
theorem y5B:VR P false z1F [] [] (isR (plA true true loopP)):=by
 refine z8r (by simp) (.inr rfl) fun _ _=>?_
 simp (disch:=(try simp only[lZ]);omega) only[aZ,aM,aG37,zH9,z1H,yb4]
 refine y8 (xq4 ?_) ⟨rfl,rfl⟩
 simp [zZ,blkAt,za5,A.cells,A.one,Lft.one,retA,A.bdL,A.bd,loopP,plA,plC,mcs,mcA,mcC,bts,btA,btC,rows,ints]
theorem ya1{w v:Bool}(a b:List Int)(hl:a.length≤1000000):VR P false z6e [.fs w (ints a),.fs v (ints b)] [] (isR (.v (.bool (decide (a=b))))):=by
 refine yl8 (by simp) (.inr rfl) fun _ _=>?_
 simp (disch:=(try simp only[lZ]);omega) only[aZ,aM,aG37,zZ7,z6g]
 refine y2 (fun h1=>?_) (fun h1=>?_)
 ·simp (disch:=(try simp only[lZ]);omega) only[aZ,aM,aG37,zZ8]
  exact y1 ⟨by rw[decide_eq_false (fun hc=>by rw[hc]at h1;omega)],rfl⟩
 have hll:a.length=b.length:=by omega
 simp (disch:=(try simp only[lZ]);omega) only[aZ,aM,aG37]
 refine AWP.loopP yb2 (fun k:Nat=>k≤a.length∧∀i,i<k→a.getD i 0=b.getD i 0) (fun k=>[(2,.v (.bool false)),(3,.v (.int .i64 k))]) (fun _=>[]) (fun k=>a.length-k) 0 ⟨by omega,fun i hi=>by omega⟩ ?_ ?_
 ·exact Cut.fg (by simp (disch:=first|omega|simp (disch:=omega) only[aG,aM,aG37]) only[fZ,aM,aG37,y0,z9,or_true,true_or])
 rintro k ⟨hk,he⟩
 by_cases hlt:k<a.length
 ·simp (disch:=(try simp only[lZ]);omega) only[aZ,aM,aG37]
  refine y2 (fun h3=>?_) (fun h3=>?_)
  ·simp (disch:=(try simp only[lZ]);omega) only[aZ,aM,aG37,zZ8]
   exact y1 ⟨by rw[decide_eq_false (fun hc=>by rw[hc]at h3;exact h3 rfl)],rfl⟩
  ·simp (disch:=(try simp only[lZ]);omega) only[aZ,aM,aG37]
   refine⟨k+1,⟨by omega,fun i hi=>?_⟩,by omega,?_⟩
   ·rcases Nat.lt_succ_iff_lt_or_eq.1 hi with h|rfl
    ·exact he i h
    ·exact Classical.not_not.1 h3
   ·exact Cut.fg (by simp (disch:=first|omega|simp (disch:=omega) only[aG,aM,aG37]) only[fZ,aM,aG37,y0,z9,or_true,true_or])
 ·have hae:a=b:=Z5 0 hll fun i hi=>he i (by omega)
  simp (disch:=(try simp only[lZ]);omega) only[aZ,aM,aG37,zZ8]
  exact y1 ⟨by rw[decide_eq_true hae],rfl⟩
def rwP(r:Mc):Prop:=r.length≤30∧∀x∈r,x.length≤10
theorem y6J{H:List Blk}{l r:List A}(h:frzL (frzP H 9) l r):FzL 0 H l r:=z5T (z5U 9) h
set_option maxHeartbeats 4000000 in
theorem y1j:VR P false z3i [] [] (isR (.v (.bool true))):=by
 refine ya8 (by simp) (.inr rfl) fun _ _=>?_
 have hsm:=y5B
 have d1:=yK0 (w:=true) (v:=false) (w':=true) (v':=false) [[0],[10]] [[0],[10]] (by decide) (by decide)
 have d2:=ya1 (w:=true) (v:=false) [1,0] [1,0] (by decide)
 have d3:=ya1 (w:=true) (v:=false) [500,500] [500,500] (by decide)
 rw[decide_eq_true rfl]at d1 d2 d3
 have hyi:=z55 (w:=true) (v:=true) (u:=false) loopP [10]
 rw[y8P]at hyi
 have hva:=y1c (w:=true) (v:=true) (u:=false) (u':=true) loopP [10] exG
 rw[xv1]at hva
 have hb1:=ya0 (w:=true) (v:=true) (u1:=false) (u2:=true) loopP exL [10] exG
 rw[xa8]at hb1
 have hb2:=ya0 (w:=true) (v:=true) (u1:=false) (u2:=true) loopP exB [10] exG
 rw[xa9]at hb2
 have hap:=y1h (w:=true) (v:=true) (u:=true) (u':=false) loopP exL [1,0] (by decide)
 rw[y6I]at hap
 have epl2:plA true true {mat:=1,ms:=[[[500,500]],[[]]],bs:=loopP.bs,fd:=0}=.agg [.v (.int .i64 1),.fs true (mcs true [[[500,500]],[[]]]),.fs true (bts loopP.bs),.v (.int .i64 0)]:=rfl
 have hpb:A.bd 0 (plA true true loopP)=true:=y3E _ _ _ _
 have hpb2:(plA true true loopP).cl=true:=by decide +kernel
 unfold yldT zw1 y5y yL8 at *
 rw[epl2]at hap
 simp (disch:=(try simp only[lZ]);omega) only[aZ,aM,aG37,zP4,z3k]
 refine hsm.same (by simp (disch:=first|omega|simp (disch:=omega) only[aG,aM,aG37]) only[fZ,aM,aG37]) (by rw[hpb,hpb2];rfl) ?_
 show AWP P 0 _ _ _ _
 refine AWP.chain 20 ?_
 conv=>arg 3;simp only[S.pre]
 have epl:plA true true loopP=.agg [.v (.int .i64 1),.fs true (mcs true loopP.ms),.fs true (bts loopP.bs),.v (.int .i64 0)]:=rfl
 rw[epl]at *
 simp (disch:=(try simp only[lZ]);omega) only[aZ,aM,aG37,putA]
 conv=>arg 3;simp only[S.post]
 refine AWP.cut (e':=[.v (.bool false),.fs true (bts exG),.fs true (ogL true exL),.fs true (ogL true exB),.fp true [.v (.int .i64 1),.fs true (mcs true loopP.ms),.fs true (bts loopP.bs),.v (.int .i64 0)],.any,.any,.any,.any,.any,.any,.any,.any,.any,.any,.any,.any,.any,.any,.any,.any,.any,.any,.any,.any,.any,.any,.any,.any,.any,.any,.any,.any,.any,.any,.any,.any,.any,.any,.any,.any,.any,.any,.any,.any]) (H':=[]) (Cut.of' 0 rfl (Nat.le_refl _) (by simp [FzB]) (y6J ?_)) ?_
 ·simp [zZ,blkAt,za5,A.cells,A.one,Lft.one,retA,A.bdL,A.bd,exG,exL,exB,ogL,ogs,ogA,ogC,loopP,mcs,mcA,mcC,bts,btA,btC,rows,ints]
 refine aw_sound ?_
 simp (disch:=(try simp only[lZ]);omega) only[aZ,aM,aG37]
 refine hyi.use ⟨Ld.refl hpb,zD6 _ 0 0 1 [10] rfl rfl,trivial⟩ (by rfl) (z7 ?_)
 simp (disch:=(try simp only[lZ]);omega) only[aZ,aM,aG37]
 refine hva.use ⟨Ld.refl hpb,zD6 _ _ _ 1 [10] rfl rfl,Ld.refl (by rfl),trivial⟩ (by rfl) (z7 ?_)
 simp (disch:=(try simp only[lZ]);omega) only[aZ,aM,aG37]
 refine hb1.use ⟨Ld.refl hpb,Ld.refl (by rfl),zD6 _ _ _ 1 [10] rfl rfl,Ld.refl (by rfl),trivial⟩ (by rfl) (z7 ?_)
 simp (disch:=(try simp only[lZ]);omega) only[aZ,aM,aG37]
 refine hb2.use ⟨Ld.refl hpb,Ld.refl (by rfl),zD6 _ _ _ 1 [10] rfl rfl,Ld.refl (by rfl),trivial⟩ (by rfl) (z7 ?_)
 simp (disch:=(try simp only[lZ]);omega) only[aZ,aM,aG37]
 refine hap.use ⟨Ld.refl hpb,Ld.refl (by rfl),zD6 _ _ _ 2 [1,0] rfl rfl,trivial⟩ (by rfl) (z7 ?_)
 simp (disch:=(try simp only[lZ]);omega) only[aZ,aM,aG37]
 refine d1.use (yA2 (by simp [zZ,blkAt,za5,A.cells,A.one,Lft.one,retA,A.bdL,A.bd,rows,ints])) (by rfl) (z7 ?_)
 simp (disch:=(try simp only[lZ]);omega) only[aZ,aM,aG37]
 refine d2.use (yA2 (by simp [zZ,blkAt,za5,A.cells,A.one,Lft.one,retA,A.bdL,A.bd,ints])) (by rfl) (z7 ?_)
 simp (disch:=(try simp only[lZ]);omega) only[aZ,aM,aG37,List.getD_cons_zero,List.getD_cons_succ,List.length_cons,List.length_nil,Int.natCast_add,Int.natCast_zero,Int.natCast_one]
 refine d3.use (yA2 (by simp [zZ,blkAt,za5,A.cells,A.one,Lft.one,retA,A.bdL,A.bd,ints])) (by rfl) (z7 ?_)
 simp (disch:=(try simp only[lZ]);omega) only[aZ,aM,aG37,yl6,List.getD_cons_zero,List.getD_cons_succ,List.length_cons,List.length_nil,Int.natCast_add,Int.natCast_zero,Int.natCast_one]
 exact y1 ⟨rfl,rfl⟩
def chN(L:List (List Og)):Int:=if 256<prd L then 257 else prd L
theorem z48{u:Bool}(L:List (List Og))(hl:L.length≤1000)(hb:∀l∈L,l.length≤100):VR P false z0b [.fs u (ogL u L)] [] (isR (.v (.int .i64 (chN L)))):=by
 refine z65 (by simp) (.inr rfl) fun _ _=>?_
 simp (disch:=(try simp only[lZ]);omega) only[aZ,aM,aG37,zz7,z0d]
 refine AWP.loopP z5q (fun k:Nat=>k≤L.length∧prd (L.take k)≤256) (fun k=>[(1,.v (.int .i64 0)),(2,.v (.int .i64 (prd (L.take k)))),(3,.v (.int .i64 k))]) (fun _=>[]) (fun k=>L.length-k) 0 ⟨by omega,by simp [prd]⟩ ?_ ?_
 ·exact Cut.fg (by simp (disch:=first|omega|simp (disch:=omega) only[aG,aM,aG37]) only[fZ,aM,aG37,List.take_zero,show((prd []:Nat):Int)=1 from rfl,y0,z9,or_true,true_or])
 rintro k ⟨hk,hp⟩
 by_cases hkt:k<L.length
 ·have hs:=y0B L k hkt
  have hlk:=hb _ (x3 [] hkt)
  have h1:=Nat.mul_le_mul hp (show max 1 (L.getD k []).length≤100 by omega)
  by_cases h1':((L.getD k []).length:Int)>1
  ·have h2:((prd (L.take k):Nat):Int)*((L.getD k []).length:Int)=((prd (L.take (k+1)):Nat):Int):=by rw[hs,Int.natCast_mul];congr 1;omega
   have h3:((prd (L.take k):Nat):Int)*((L.getD k []).length:Int)≤25600:=by rw[h2,hs];omega
   have h4:0≤((prd (L.take k):Nat):Int)*((L.getD k []).length:Int):=by rw[h2];omega
   by_cases hm:((prd (L.take (k+1)):Nat):Int)>256
   ·have:=y0C L (k+1)
    rw[show chN L=257 from if_pos (show 256<prd L by omega)]
    simp (disch:=(try simp only[lZ]);omega) only[aZ,aM,aG37,decide_eq_true h1',h2,decide_eq_true hm,z0e]
    exact y1 ⟨rfl,rfl⟩
   ·simp (disch:=(try simp only[lZ]);omega) only[aZ,aM,aG37,decide_eq_true h1',h2,decide_eq_false hm]
    refine⟨k+1,⟨by omega,by omega⟩,by omega,?_⟩
    exact Cut.fg (by simp (disch:=first|omega|simp (disch:=omega) only[aG,aM,aG37]) only[fZ,aM,aG37,y0,z9,or_true,true_or])
  ·have e:prd (L.take (k+1))=prd (L.take k):=by rw[hs,show max 1 (L.getD k []).length=1 by omega,Nat.mul_one]
   simp (disch:=(try simp only[lZ]);omega) only[aZ,aM,aG37,decide_eq_false h1',decide_eq_false (show ¬((prd (L.take k):Nat):Int)>256 by omega)]
   refine⟨k+1,⟨by omega,by omega⟩,by omega,?_⟩
   exact Cut.fg (by simp (disch:=first|omega|simp (disch:=omega) only[aG,aM,aG37]) only[fZ,aM,aG37,e,y0,z9,or_true,true_or])
 have hke:k=L.length:=by omega
 subst hke
 rw[List.take_length]at hp
 rw[show chN L=prd L from if_neg (by omega)]
 simp (disch:=(try simp only[lZ]);omega) only[aZ,aM,aG37,List.take_length,z0e]
 exact y1 ⟨rfl,rfl⟩
theorem yk2{w:Bool}(r:Mc):VR P false z6h [.fs w (rows w r)] [] (fun x G=>G=[]∧∃b:Bool,x=.v (.bool b)∧(b=true→rwP r)):=by
 refine yl9 (by simp) (.inr rfl) fun _ _=>?_
 by_cases h1:(r.length:Int)>30
 ·simp (disch:=(try simp only[lZ]);omega) only[aZ,aM,aG37,zD7,zZ9,decide_eq_true h1,z0a]
  exact y1 ⟨rfl,_,rfl,by simp⟩
 simp (disch:=(try simp only[lZ]);omega) only[aZ,aM,aG37,zD7,zZ9,decide_eq_false h1]
 refine AWP.loopP yb3 (fun k:Nat=>k≤r.length∧∀i,i<k→(r.getD i []).length≤10) (fun k=>[(1,.v (.bool false)),(2,.v (.int .i64 k))]) (fun _=>[]) (fun k=>r.length-k) 0 ⟨by omega,by omega⟩ ?_ ?_
 ·exact Cut.fg (by simp (disch:=first|omega|simp (disch:=omega) only[aG,aM,aG37]) only[fZ,aM,aG37,y0,z9,or_true,true_or])
 rintro k ⟨hk,hr⟩
 by_cases hlt:k<r.length
 ·by_cases h2:((r.getD k []).length:Int)>10
  ·simp (disch:=(try simp only[lZ]);omega) only[aZ,aM,aG37,decide_eq_true h2,z0a]
   exact y1 ⟨rfl,_,rfl,by simp⟩
  ·simp (disch:=(try simp only[lZ]);omega) only[aZ,aM,aG37,decide_eq_false h2]
   refine⟨k+1,⟨by omega,fun i hi=>(Nat.lt_succ_iff_lt_or_eq.1 hi).elim (hr i) fun h=>by rw[h];omega⟩,by omega,?_⟩
   exact Cut.fg (by simp (disch:=first|omega|simp (disch:=omega) only[aG,aM,aG37]) only[fZ,aM,aG37,y0,z9,or_true,true_or])
 ·have hke:k=r.length:=by omega
  simp (disch:=(try simp only[lZ]);omega) only[aZ,aM,aG37,decide_eq_false (show ¬(k:Int)<r.length by omega),z0a]
  refine y1 ⟨rfl,_,rfl,fun _=>⟨by omega,fun x hx=>?_⟩⟩
  obtain⟨i,hi,rfl⟩:=zJ9 [] hx
  exact hr i (by omega)
theorem y8R{m:Mc}(r:A)(G:List Blk)(h:G=[]∧∃b:Bool,r=.v (.bool b)∧(b=true→rwP m)):G=[]∧(r.cl && r.bd 0)=true:=by
 obtain⟨rfl,b,rfl,_⟩:=h;exact⟨rfl,rfl⟩
structure Light(p:Pl)(L:List (List Og))(fd:List Int)(gs:List Bt):Prop where
 hm:p.ms.length≤30
 hb:p.bs.length≤60
 hL:L.length≤40
 hf:fd.length≤40
 hg:gs.length≤60
 hr:∀i,i<p.ms.length→rwP (p.ms.getD i [])
 ho:∀i,i<L.length→(L.getD i []).length≤10∧∀k,k<(L.getD i []).length→rwP ((L.getD i []).getD k og0).r
def y5C(w v u a b:Bool)(p:Pl)(L:List (List Og))(fd:List Int)(gs:List Bt):A:=.agg [.v (.int .i64 p.mat),.fs w (mcs w p.ms),.fs v (bts p.bs),.v (.int .i64 p.fd),.fs u (ogL u L),.fs a (ints fd),.fs b (bts gs)]
theorem xb0{m:List Mc}{k:Nat}(h:∀i,i<k→rwP (m.getD i []))(hk:rwP (m.getD k [])):∀i,i<k+1→rwP (m.getD i []) :=
 fun i hi=>(Nat.lt_succ_iff_lt_or_eq.1 hi).elim (h i) fun e=>e▸hk
set_option maxHeartbeats 4000000 in
theorem y1k{w v u a b:Bool}(p:Pl)(L:List (List Og))(fd:List Int)(gs:List Bt):VR P false z3g [y5C w v u a b p L fd gs] [] (fun x G=>G=[]∧∃y:Bool,x=.v (.bool y)∧(y=true→Light p L fd gs)):=by
 refine ya7 (by simp) (.inr rfl) fun _ _=>?_
 unfold y5C
 by_cases c0:(p.ms.length:Int)>30
 ·simp (disch:=(try simp only[lZ]);omega) only[aZ,aM,aG37,zb0,zd6,decide_eq_true c0,Z4]
  exact y1 ⟨rfl,_,rfl,by simp⟩
 by_cases c1:(p.bs.length:Int)>60
 ·simp (disch:=(try simp only[lZ]);omega) only[aZ,aM,aG37,zb0,zd6,decide_eq_false c0,decide_eq_true c1,Z4]
  exact y1 ⟨rfl,_,rfl,by simp⟩
 by_cases c2:(L.length:Int)>40
 ·simp (disch:=(try simp only[lZ]);omega) only[aZ,aM,aG37,zb0,zd6,decide_eq_false c0,decide_eq_false c1,decide_eq_true c2,Z4]
  exact y1 ⟨rfl,_,rfl,by simp⟩
 by_cases c3:(fd.length:Int)>40
 ·simp (disch:=(try simp only[lZ]);omega) only[aZ,aM,aG37,zb0,zd6,decide_eq_false c0,decide_eq_false c1,decide_eq_false c2,decide_eq_true c3,Z4]
  exact y1 ⟨rfl,_,rfl,by simp⟩
 by_cases c4:(gs.length:Int)>60
 ·simp (disch:=(try simp only[lZ]);omega) only[aZ,aM,aG37,zb0,zd6,decide_eq_false c0,decide_eq_false c1,decide_eq_false c2,decide_eq_false c3,decide_eq_true c4,Z4]
  exact y1 ⟨rfl,_,rfl,by simp⟩
 simp (disch:=(try simp only[lZ]);omega) only[aZ,aM,aG37,zb0,zd6,decide_eq_false c0,decide_eq_false c1,decide_eq_false c2,decide_eq_false c3,decide_eq_false c4]
 refine AWP.loopP z8k (fun k:Nat=>k≤p.ms.length∧∀i,i<k→rwP (p.ms.getD i [])) (fun k=>[(1,.v (.bool false)),(3,.v (.int .i64 k))]) (fun _=>[]) (fun k=>p.ms.length-k) 0 ⟨by omega,by omega⟩ ?_ ?_
 ·exact Cut.fg (by simp (disch:=first|omega|simp (disch:=omega) only[aG,aM,aG37]) only[fZ,aM,aG37,y0,z9,or_true,true_or])
 rintro k ⟨hk,hr⟩
 by_cases hlt:k<p.ms.length
 ·simp (disch:=(try simp only[lZ]);omega) only[aZ,aM,aG37]
  refine(yk2 _).useE (LdL.refl (by simp (disch:=first|omega|simp (disch:=omega) only[aG,aM,aG37]) only[fZ,aM,aG37])) y8R ?_
  rintro _ ⟨-,y,rfl,hy⟩
  refine z7 ?_
  cases y
  ·simp (disch:=(try simp only[lZ]);omega) only[aZ,aM,aG37,Z4]
   exact y1 ⟨rfl,_,rfl,by simp⟩
  ·simp (disch:=(try simp only[lZ]);omega) only[aZ,aM,aG37]
   refine⟨k+1,⟨by omega,xb0 hr (hy rfl)⟩,by omega,?_⟩
   exact Cut.fg (by simp (disch:=first|omega|simp (disch:=omega) only[aG,aM,aG37]) only[fZ,aM,aG37,y0,z9,or_true,true_or])
 have hke:k=p.ms.length:=by omega
 subst hke
 simp (disch:=(try simp only[lZ]);omega) only[aZ,aM,aG37]
 refine AWP.loopP z8l (fun k:Nat=>k≤L.length∧∀i,i<k→(L.getD i []).length≤10∧∀k,k<(L.getD i []).length→rwP ((L.getD i []).getD k og0).r) (fun k=>[(1,.v (.bool false)),(4,.v (.int .i64 k))]) (fun _=>[]) (fun k=>L.length-k) 0 ⟨by omega,by omega⟩ ?_ ?_
 ·exact Cut.fg (by simp (disch:=first|omega|simp (disch:=omega) only[aG,aM,aG37]) only[fZ,aM,aG37,y0,z9,or_true,true_or])
 rintro k ⟨hk,ho⟩
 by_cases hlt:k<L.length
 ·by_cases c6:((L.getD k []).length:Int)>10
  ·simp (disch:=(try simp only[lZ]);omega) only[aZ,aM,aG37,decide_eq_true c6,Z4]
   exact y1 ⟨rfl,_,rfl,by simp⟩
  simp (disch:=(try simp only[lZ]);omega) only[aZ,aM,aG37,decide_eq_false c6]
  refine AWP.loopP z8m (fun j:Nat=>j≤(L.getD k []).length∧∀i,i<j→rwP ((L.getD k []).getD i og0).r) (fun j=>[(1,.v (.bool false)),(5,.v (.int .i64 j))]) (fun _=>[]) (fun j=>(L.getD k []).length-j) 0 ⟨by omega,by omega⟩ ?_ ?_
  ·exact Cut.fg (by simp (disch:=first|omega|simp (disch:=omega) only[aG,aM,aG37]) only[fZ,aM,aG37,y0,z9,or_true,true_or])
  rintro j ⟨hj,hw⟩
  by_cases hjt:j<(L.getD k []).length
  ·simp (disch:=(try simp only[lZ]);omega) only[aZ,aM,aG37]
   refine(yk2 _).useE (LdL.refl (by simp (disch:=first|omega|simp (disch:=omega) only[aG,aM,aG37]) only[fZ,aM,aG37])) y8R ?_
   rintro _ ⟨-,y,rfl,hy⟩
   refine z7 ?_
   cases y
   ·simp (disch:=(try simp only[lZ]);omega) only[aZ,aM,aG37,Z4]
    exact y1 ⟨rfl,_,rfl,by simp⟩
   ·simp (disch:=(try simp only[lZ]);omega) only[aZ,aM,aG37]
    refine⟨j+1,⟨by omega,fun i hi=>(Nat.lt_succ_iff_lt_or_eq.1 hi).elim (hw i) fun e=>e▸hy rfl⟩,by omega,?_⟩
    exact Cut.fg (by simp (disch:=first|omega|simp (disch:=omega) only[aG,aM,aG37]) only[fZ,aM,aG37,y0,z9,or_true,true_or])
  have hje:j=(L.getD k []).length:=by omega
  simp (disch:=(try simp only[lZ]);omega) only[aZ,aM,aG37,decide_eq_false (show ¬(j:Int)<(L.getD k []).length by omega)]
  refine⟨k+1,⟨by omega,fun i hi=>(Nat.lt_succ_iff_lt_or_eq.1 hi).elim (ho i) fun e=>by rw[e];exact⟨by omega,fun q hq=>hw q (by omega)⟩⟩,by omega,?_⟩
  exact Cut.fg (by simp (disch:=first|omega|simp (disch:=omega) only[aG,aM,aG37]) only[fZ,aM,aG37,y0,z9,or_true,true_or])
 have hke:k=L.length:=by omega
 subst hke
 have hL:Light p L fd gs:=⟨by omega,by omega,by omega,by omega,by omega,hr,ho⟩
 simp (disch:=(try simp only[lZ]);omega) only[aZ,aM,aG37]
 refine AWP.loopP z8n (fun s:Nat×Nat=>s.1≤p.bs.length∧16≤s.2∧s.2≤16+16*s.1) (fun s=>[(6,.v (.int .i64 s.2)),(8,.v (.int .i64 s.1))]) (fun _=>[]) (fun s=>p.bs.length-s.1) (0,16) ⟨by simp only;omega,by simp only;omega,by simp only;omega⟩ ?_ ?_
 ·exact Cut.fg (by simp (disch:=first|omega|simp (disch:=omega) only[aG,aM,aG37]) only[fZ,aM,aG37,y0,z9,or_true,true_or])
 rintro⟨k,y⟩ ⟨hk,hy1,hy2⟩
 simp only at hk hy1 hy2
 by_cases hlt:k<p.bs.length
 ·obtain⟨z,hz,hz2⟩:∃z:Nat,max 0 (min (p.bs.getD k b0).ln 16)=(z:Int)∧z≤16:=⟨(max 0 (min (p.bs.getD k b0).ln 16)).toNat,by omega,by omega⟩
  simp (disch:=(try simp only[lZ]);omega) only[aZ,aM,aG37,hz]
  refine⟨(k+1,y+z),⟨by simp only;omega,by simp only;omega,by simp only;omega⟩,by simp only;omega,?_⟩
  exact Cut.fg (by simp (disch:=first|omega|simp (disch:=omega) only[aG,aM,aG37]) only[fZ,aM,aG37,y0,z9,or_true,true_or])
 have hke:k=p.bs.length:=by omega
 subst hke
 simp (disch:=(try simp only[lZ]);omega) only[aZ,aM,aG37]
 refine AWP.loopP z8o (fun s:Nat×Nat=>s.1≤fd.length∧s.2≤1073741824*s.1) (fun s=>[(1,.v (.bool false)),(7,.v (.int .i64 s.2)),(9,.v (.int .i64 s.1))]) (fun _=>[]) (fun s=>fd.length-s.1) (0,0) ⟨by simp only;omega,by simp only;omega⟩ ?_ ?_
 ·exact Cut.fg (by simp (disch:=first|omega|simp (disch:=omega) only[aG,aM,aG37]) only[fZ,aM,aG37,y0,z9,or_true,true_or])
 rintro⟨k,g⟩ ⟨hk,hg⟩
 simp only at hk hg
 by_cases hlt:k<fd.length
 ·by_cases d1:fd.getD k 0<0
  ·simp (disch:=(try simp only[lZ]);omega) only[aZ,aM,aG37,decide_eq_true d1,Z4]
   exact y1 ⟨rfl,_,rfl,fun _=>hL⟩
  by_cases d2:fd.getD k 0>1073741824
  ·simp (disch:=(try simp only[lZ]);omega) only[aZ,aM,aG37,decide_eq_false d1,decide_eq_true d2,Z4]
   exact y1 ⟨rfl,_,rfl,fun _=>hL⟩
  obtain⟨z,hz⟩:∃z:Nat,fd.getD k 0=(z:Int):=⟨(fd.getD k 0).toNat,by omega⟩
  rw[hz]at d1 d2
  simp (disch:=(try simp only[lZ]);omega) only[aZ,aM,aG37,hz,decide_eq_false d1,decide_eq_false d2]
  refine⟨(k+1,g+z),⟨by simp only;omega,by simp only;omega⟩,by simp only;omega,?_⟩
  exact Cut.fg (by simp (disch:=first|omega|simp (disch:=omega) only[aG,aM,aG37]) only[fZ,aM,aG37,y0,z9,or_true,true_or])
 have hke:k=fd.length:=by omega
 subst hke
 simp (disch:=(try simp only[lZ]);omega) only[aZ,aM,aG37]
 refine(z48 L (by omega) fun l hl=>?_).same (by simp (disch:=first|omega|simp (disch:=omega) only[aG,aM,aG37]) only[fZ,aM,aG37]) rfl (z7 ?_)
 ·obtain⟨i,hi,rfl⟩:=zJ9 [] hl
  exact Nat.le_trans (ho i hi).1 (by omega)
 obtain⟨n,hn,hn2⟩:∃n:Nat,max 1 (min (chN L) 256)=(n:Int)∧n≤256:=⟨(max 1 (min (chN L) 256)).toNat,by omega,by omega⟩
 obtain⟨q,hq,hq2⟩:∃q:Nat,(g:Int)*(y:Int)=(q:Int)∧q≤42949672960*976:=⟨g*y,by rw[Int.natCast_mul],Nat.mul_le_mul (by omega) (by omega)⟩
 obtain⟨q',hq',hq2'⟩:∃q':Nat,(q:Int)*(n:Int)=(q':Int)∧q'≤42949672960*976*256:=⟨q*n,by rw[Int.natCast_mul],Nat.mul_le_mul hq2 hn2⟩
 simp (disch:=(try simp only[lZ]);omega) only[aZ,aM,aG37,hq,hn,hq',Z4]
 exact y1 ⟨rfl,_,rfl,fun _=>hL⟩
def ya2(p:Pl)(L:List (List Og)):Int:=if y6 p≠0 then y6 p else za4 p L
set_option maxHeartbeats 1000000 in
theorem z2r{w v u:Bool}(p:Pl)(L:List (List Og)):VR P false zW1 [plA w v p,.fs u (ogL u L)] [] (isR (.v (.int .i64 (ya2 p L)))):=by
 refine z5x (by simp) (.inr rfl) fun _ _=>?_
 have hck:=zy9 (w:=w) (v:=v) p
 unfold plA plC at *
 by_cases h0:y6 p=0
 case neg =>
  rw[show ya2 p L=y6 p from if_pos h0]
  simp (disch:=(try simp only[lZ]);omega) only[aZ,aM,aG37,ze1,zk2]
  refine hck.same (by simp (disch:=first|omega|simp (disch:=omega) only[aG,aM,aG37]) only[fZ,aM,aG37]) rfl (z7 ?_)
  simp (disch:=(try simp only[lZ]);omega) only[aZ,aM,aG37,decide_eq_true (show ¬y6 p=0 from h0),Z6]
  exact y1 ⟨rfl,rfl⟩
 have ok:=y7 h0
 rw[show ya2 p L=za4 p L from if_neg (fun h=>h h0)]
 obtain⟨m1,m2,m3⟩:=ok.mt1
 have n2:=ok.n2
 rw[m3]at hck ⊢
 by_cases h1:(L.length:Int)≠p.ms.length
 ·have e:za4 p L=3:=by unfold za4;rw[if_pos (by omega)]
  rw[e]
  simp (disch:=(try simp only[lZ]);omega) only[aZ,aM,aG37,ze1,zk2]
  refine hck.same (by simp (disch:=first|omega|simp (disch:=omega) only[aG,aM,aG37]) only[fZ,aM,aG37]) rfl (z7 ?_)
  simp (disch:=(try simp only[lZ]);omega) only[aZ,aM,aG37,h0,decide_eq_true h1,Z6]
  exact y1 ⟨rfl,rfl⟩
 have hl:L.length=p.ms.length:=by omega
 simp (disch:=(try simp only[lZ]);omega) only[aZ,aM,aG37,ze1,zk2]
 refine hck.same (by simp (disch:=first|omega|simp (disch:=omega) only[aG,aM,aG37]) only[fZ,aM,aG37]) rfl (z7 ?_)
 simp (disch:=(try simp only[lZ]);omega) only[aZ,aM,aG37,h0,decide_eq_false h1]
 refine AWP.loopP z3M (fun k:Nat=>k≤L.length∧∀i,i<k→ogsE p i (L.getD i [])=0) (fun k=>[(2,.v (.int .i64 0)),(5,.v (.int .i64 k))]) (fun _=>[]) (fun k=>L.length-k) 0 ⟨by omega,fun i hi=>absurd hi (by omega)⟩ ?_ ?_
 ·exact Cut.fg (by simp (disch:=first|omega|simp (disch:=omega) only[aG,aM,aG37]) only[fZ,aM,aG37,y0,z9,or_true,true_or])
 rintro k ⟨hk,hg⟩
 by_cases hkt:k<L.length
 case neg =>
  have hke:k=p.ms.length:=by omega
  rw[yk0 hl (fun i hi=>hg i (by omega))]
  simp (disch:=(try simp only[lZ]);omega) only[aZ,aM,aG37,decide_eq_false (show ¬(k:Int)<L.length by omega),Z6]
  exact y1 ⟨rfl,rfl⟩
 have ew:=yE4 hl (k:=k) (by omega) hg
 have hgs:ogsE p k (L.getD k [])=0→∀i,i<k+1→ogsE p i (L.getD i [])=0:=fun h i hi=>by
  by_cases e:i=k
  ·subst e;exact h
  ·exact hg i (by omega)
 generalize hlk:L.getD k []=l at *
 by_cases h4:(l.length:Int)>4
 ·have e:ogsE p k l=8:=by unfold ogsE;rw[if_pos (by omega)]
  rw[ew (by omega),e]
  simp (disch:=(try simp only[lZ]);omega) only[aZ,aM,aG37,hlk,decide_eq_true h4,Z6]
  exact y1 ⟨rfl,rfl⟩
 have eo:ogsE p k l=zc5 (ogE p k) l:=by unfold ogsE;rw[if_neg (by omega)]
 simp (disch:=(try simp only[lZ]);omega) only[aZ,aM,aG37,hlk,decide_eq_false h4]
 refine AWP.loopP z3N (fun j:Nat=>j≤l.length∧∀i,i<j→ogE p k (l.getD i og0)=0) (fun j=>[(2,.v (.int .i64 0)),(6,.v (.int .i64 j))]) (fun _=>[]) (fun j=>l.length-j) 0 ⟨by omega,fun i hi=>absurd hi (by omega)⟩ ?_ ?_
 ·exact Cut.fg (by simp (disch:=first|omega|simp (disch:=omega) only[aG,aM,aG37]) only[fZ,aM,aG37,y0,z9,or_true,true_or])
 rintro j ⟨hj,hgj⟩
 by_cases hjt:j<l.length
 case neg =>
  have hje:j=l.length:=by omega
  subst hje
  have e0:ogsE p k l=0:=by rw[eo];exact w7 og0 hgj
  simp (disch:=(try simp only[lZ]);omega) only[aZ,aM,aG37,hlk]
  refine⟨k+1,⟨by omega,hgs e0⟩,by omega,?_⟩
  exact Cut.fg (by simp (disch:=first|omega|simp (disch:=omega) only[aG,aM,aG37]) only[fZ,aM,aG37,y0,z9,or_true,true_or])
 have ej:ogE p k (l.getD j og0)≠0→za4 p L=ogE p k (l.getD j og0):=fun h=>by
  have:=za7 og0 hjt hgj h
  rw[ew (by rw[eo,this];exact h),eo,this]
 have hgn:ogE p k (l.getD j og0)=0→∀i,i<j+1→ogE p k (l.getD i og0)=0:=fun h i hi=>by
  by_cases e:i=j
  ·subst e;exact h
  ·exact hgj i (by omega)
 generalize hoj:l.getD j og0=o at *
 have hmc:=zT2 (w:=u) o.r (p.mt:Int)
 have ho1:=zf1 (w:=u) o.r
 have ho2:=zf1 (w:=w) (p.ms.getD k [])
 unfold mcA mcC at *
 simp (disch:=(try simp only[lZ]);omega) only[aZ,aM,aG37,hlk,hoj]
 refine hmc.same (by simp (disch:=first|omega|simp (disch:=omega) only[aG,aM,aG37]) only[fZ,aM,aG37]) rfl (z7 ?_)
 by_cases c1:w5 o.r p.mt=0
 case neg =>
  have e:ogE p k o=w5 o.r p.mt:=by unfold ogE;rw[if_pos c1]
  rw[ej (by omega),e]
  simp (disch:=(try simp only[lZ]);omega) only[aZ,aM,aG37,decide_eq_true (show ¬w5 o.r p.mt=0 from c1),Z6]
  exact y1 ⟨rfl,rfl⟩
 simp (disch:=(try simp only[lZ]);omega) only[aZ,aM,aG37,c1]
 refine ho1.same (by simp (disch:=first|omega|simp (disch:=omega) only[aG,aM,aG37]) only[fZ,aM,aG37]) rfl (z7 ?_)
 simp (disch:=(try simp only[lZ]);omega) only[aZ,aM,aG37]
 refine ho2.same (by simp (disch:=first|omega|simp (disch:=omega) only[aG,aM,aG37]) only[fZ,aM,aG37]) rfl (z7 ?_)
 by_cases c2:((y3 o.r:Nat):Int)≠(y3 (p.ms.getD k []):Nat)
 ·have e:ogE p k o=3:=by unfold ogE;rw[if_neg (by omega),if_pos (by omega)]
  rw[ej (by omega),e]
  simp (disch:=(try simp only[lZ]);omega) only[aZ,aM,aG37,decide_eq_true c2,Z6]
  exact y1 ⟨rfl,rfl⟩
 by_cases c3:o.c<0∨o.c>1000000000000
 ·have e:ogE p k o=1:=by unfold ogE;rw[if_neg (by omega),if_neg (by omega),if_pos (by omega)]
  rw[ej (by omega),e]
  rcases c3 with h|h
  ·simp (disch:=(try simp only[lZ]);omega) only[aZ,aM,aG37,hlk,hoj,decide_eq_false c2,decide_eq_true h,Z6]
   exact y1 ⟨rfl,rfl⟩
  ·simp (disch:=(try simp only[lZ]);omega) only[aZ,aM,aG37,hlk,hoj,decide_eq_false c2,decide_eq_false (show ¬o.c<0 by omega),decide_eq_true h,Z6]
   exact y1 ⟨rfl,rfl⟩
 have e:ogE p k o=0:=by unfold ogE;rw[if_neg (by omega),if_neg (by omega),if_neg (by omega)]
 simp (disch:=(try simp only[lZ]);omega) only[aZ,aM,aG37,hlk,hoj,decide_eq_false c2,decide_eq_false (show ¬o.c<0 by omega),decide_eq_false (show ¬o.c>1000000000000 by omega)]
 refine⟨j+1,⟨by omega,hgn e⟩,by omega,?_⟩
 exact Cut.of' 1 rfl (by omega) (by simp (disch:=first|omega|simp (disch:=omega) only[aG,aM,aG37]) only[fZ,aM,aG37]) (by simp (disch:=first|omega|simp (disch:=omega) only[aG,aM,aG37]) only[fZ,aM,aG37])
set_option maxHeartbeats 1000000 in
theorem yM2{u':Bool}(p:Pl)(L:List (List Og))(pk:List Int)(hpk:pk.length≤1000000):VR P false z3O [plA true true p,.fs true (ogL true L),.fs u' (ints pk)] [] (isR (yL8 (zn9 p L pk))):=by
 refine yc8 (by simp) (.inr rfl) fun _ _=>?_
 have hpo:=z2r (w:=true) (v:=true) (u:=true) p L
 unfold plA plC at *
 by_cases h0:ya2 p L=0
 case neg =>
  have e:zn9 p L pk=(pl0,ya2 p L):=by
   unfold zn9 ya2 at *
   by_cases h1:y6 p=0
   ·rw[if_neg (fun h=>h h1)]at h0 ⊢
    rw[if_pos h0,if_neg (fun h=>h h1)]
   ·rw[if_pos h1,if_pos h1]
  rw[e]
  simp (disch:=(try simp only[lZ]);omega) only[aZ,aM,aG37,zm1,zy3]
  refine hpo.same (by simp (disch:=first|omega|simp (disch:=omega) only[aG,aM,aG37]) only[fZ,aM,aG37]) rfl (z7 ?_)
  simp (disch:=(try simp only[lZ]);omega) only[aZ,aM,aG37,decide_eq_true (show ¬ya2 p L=0 from h0),zh6]
  exact y8 (zj6 _ _) ⟨rfl,rfl⟩
 have h1:y6 p=0:=by
  unfold ya2 at h0
  by_cases h1:y6 p=0
  ·exact h1
  ·rw[if_pos h1]at h0;exact absurd h0 h1
 have h2:za4 p L=0:=by unfold ya2 at h0;rw[if_neg (fun h=>h h1)]at h0;exact h0
 have ok:=y7 h1
 have n2:=ok.n2
 by_cases h3:(pk.length:Int)≠p.ms.length
 ·have e:zn9 p L pk=(pl0,3):=by unfold zn9;rw[if_neg (fun h=>h h1),if_neg (fun h=>h h2),if_pos (by omega)]
  rw[e]
  simp (disch:=(try simp only[lZ]);omega) only[aZ,aM,aG37,zm1,zy3]
  refine hpo.same (by simp (disch:=first|omega|simp (disch:=omega) only[aG,aM,aG37]) only[fZ,aM,aG37]) rfl (z7 ?_)
  simp (disch:=(try simp only[lZ]);omega) only[aZ,aM,aG37,h0,decide_eq_true h3,zh6]
  exact y8 (zj6 _ _) ⟨rfl,rfl⟩
 have hl:L.length=p.ms.length:=(zC1 h2).1
 have hplen:=zO5 p L pk
 have hpg:=z98 p L pk
 simp (disch:=(try simp only[lZ]);omega) only[aZ,aM,aG37,zm1,zy3]
 refine hpo.same (by simp (disch:=first|omega|simp (disch:=omega) only[aG,aM,aG37]) only[fZ,aM,aG37]) rfl (z7 ?_)
 simp (disch:=(try simp only[lZ]);omega) only[aZ,aM,aG37,h0,decide_eq_false h3]
 refine AWP.cut (Cut.virt 7 1 rfl) ?_
 simp (disch:=(try simp only[lZ]);omega) only[aZ,aM,aG37]
 refine AWP.loopP z8F (fun k:Nat=>k≤pk.length∧∀m,m<k→¬pkB L pk m) (fun k=>[(4,.v (.int .i64 0)),(7,.vs 2 k 1 k),(8,.v (.int .i64 k))]) (fun k=>[(2,⟨k,((ze0 p L pk).take k).map mxF⟩)]) (fun k=>pk.length-k) 0 ⟨by omega,fun i hi=>absurd hi (by omega)⟩ ?_ ?_
 ·rw[List.take_zero]
  exact Cut.fg (by simp (disch:=first|omega|simp (disch:=omega) only[aG,aM,aG37]) only[fZ,aM,aG37,y0,z9,or_true,true_or])
 rintro k ⟨hk,hg⟩
 by_cases hkt:k<pk.length
 ·have hgd:pkB L pk k↔(pk.getD k 0<0∨max 1 ((L.getD k []).length:Int)≤pk.getD k 0):=Iff.rfl
  have hit:pkB L pk k→zn9 p L pk=(pl0,1):=fun h=>by
   have:=zH3 (p:=pkB L pk) 0 (l:=List.range pk.length) (k:=k) (by simpa using hkt) (fun i hi=>by rw[zc8 (by omega)];exact hg i hi) (by rw[zc8 hkt];exact h)
   unfold zn9
   rw[if_neg (fun h=>h h1),if_neg (fun h=>h h2),if_neg (by omega),if_pos (by omega)]
  have hgn:¬pkB L pk k→∀m,m<k+1→¬pkB L pk m:=fun h m hm=>by
   by_cases e:m=k
   ·subst e;exact h
   ·exact hg m (by omega)
  have hkl:((ze0 p L pk).take k).length=k:=by rw[List.length_take];omega
  have hkm:(((ze0 p L pk).take k).map mxF).length=k:=by rw[List.length_map];exact hkl
  have hk2:=Z3 (ze0 p L pk) k [] (by omega)
  rw[hpg k (by omega)]at hk2
  have hpm:z97 p L pk k=if(L.getD k []).length=0 then p.ms.getD k []else((L.getD k []).getD (pk.getD k 0).toNat og0).r:=rfl
  generalize hlk:L.getD k []=l at *
  generalize hyk:pk.getD k 0=y at *
  have e2:((ze0 p L pk).take (k+1)).map mxF=((ze0 p L pk).take k).map mxF++[mxF (z97 p L pk k)]:=by rw[hk2];simp
  have e3:List.take k (((ze0 p L pk).take k).map mxF)++[A.fs true (rows true (z97 p L pk k))]=((ze0 p L pk).take (k+1)).map mxF:=by rw[e2,List.take_of_length_le (by omega)];rfl
  by_cases c1:y<0
  ·rw[hit (hgd.2 (.inl c1))]
   simp (disch:=(try simp only[lZ]);omega) only[aZ,aM,aG37,hlk,hyk,decide_eq_true c1,zh6]
   exact y8 (zj6 _ _) ⟨rfl,rfl⟩
  by_cases c0:(l.length:Int)=0
  ·rw[if_pos (by omega)]at hpm
   by_cases c2:y≠0
   ·rw[hit (hgd.2 (.inr (by omega)))]
    simp (disch:=(try simp only[lZ]);omega) only[aZ,aM,aG37,hlk,hyk,decide_eq_false c1,decide_eq_true c0,decide_eq_true c2,zh6]
    exact y8 (zj6 _ _) ⟨rfl,rfl⟩
   simp (disch:=(try simp only[lZ]);omega) only[aZ,aM,aG37,hlk,hyk,decide_eq_false c1,decide_eq_true c0,decide_eq_false c2,decide_eq_false (show ¬(l.length:Int)>0 by omega),hkm]
   refine⟨k+1,⟨by omega,hgn (fun h=>by rcases hgd.1 h with h|h<;>omega)⟩,by omega,?_⟩
   rw[← hpm,e3]
   exact Cut.of' 3 rfl (by omega) ⟨rfl,by simp (disch:=first|omega|simp (disch:=omega) only[aG,aM,aG37]) only[fZ,aM,aG37],rfl,by simp (disch:=first|omega|simp (disch:=omega) only[aG,aM,aG37]) only[fZ,aM,aG37],rfl,FzL.refl (z63 _ _),trivial⟩ (by simp (disch:=first|omega|simp (disch:=omega) only[aG,aM,aG37]) only[fZ,aM,aG37])
  rw[if_neg (by omega)]at hpm
  by_cases c2:y≥(l.length:Int)
  ·rw[hit (hgd.2 (.inr (by omega)))]
   simp (disch:=(try simp only[lZ]);omega) only[aZ,aM,aG37,hlk,hyk,decide_eq_false c1,decide_eq_false c0,decide_eq_true c2,decide_eq_true (show(l.length:Int)>0 by omega),zh6]
   exact y8 (zj6 _ _) ⟨rfl,rfl⟩
  simp (disch:=(try simp only[lZ]);omega) only[aZ,aM,aG37,hlk,hyk,decide_eq_false c1,decide_eq_false c0,decide_eq_false c2,decide_eq_true (show(l.length:Int)>0 by omega),hkm]
  refine⟨k+1,⟨by omega,hgn (fun h=>by rcases hgd.1 h with h|h<;>omega)⟩,by omega,?_⟩
  rw[← hpm,e3]
  exact Cut.of' 3 rfl (by omega) ⟨rfl,by simp (disch:=first|omega|simp (disch:=omega) only[aG,aM,aG37]) only[fZ,aM,aG37],rfl,by simp (disch:=first|omega|simp (disch:=omega) only[aG,aM,aG37]) only[fZ,aM,aG37],rfl,FzL.refl (z63 _ _),trivial⟩ (by simp (disch:=first|omega|simp (disch:=omega) only[aG,aM,aG37]) only[fZ,aM,aG37])
 have hke:k=pk.length:=by omega
 subst hke
 have e:zn9 p L pk=(X6 p L pk,0):=by
  unfold zn9
  rw[if_neg (fun h=>h h1),if_neg (fun h=>h h2),if_neg (by omega),if_neg]
  have:=zn4 (p:=pkB L pk) 0 (l:=List.range pk.length) fun i hi=>by
   have hi':i<pk.length:=by simpa using hi
   rw[zc8 hi'];exact hg i hi'
  omega
 rw[e]
 have hta:(ze0 p L pk).take pk.length=ze0 p L pk:=List.take_of_length_le (by omega)
 rw[hta]
 have hpe:pk.length=p.ms.length:=by omega
 rw[hpe]
 simp (disch:=(try simp only[lZ]);omega) only[aZ,aM,aG37,zh6]
 exact y8 (r:=yL8 (X6 p L pk,0)) (Fz.tup ⟨Fz.agg (l:=[.v (.int .i64 p.mat),.vs 2 p.ms.length 1 p.ms.length,.fs true (bts p.bs),.v (.int .i64 p.fd)]) (r:=[.v (.int .i64 p.mat),.fs true (mcs true (ze0 p L pk)),.fs true (bts p.bs),.v (.int .i64 p.fd)]) ⟨Fz.refl rfl,Fz.vs (l:=(ze0 p L pk).map mxF) (r:=(ze0 p L pk).map mxF) (els:=mcs true (ze0 p L pk)) (by omega) (by simp (disch:=(try simp only[lZ]);omega) only[aZ,aM,aG37]) (FzL.refl (z63 _ _)) (by rw[yr1,List.take_of_length_le (by rw[List.length_map];omega)]) (by rw[yA0,hplen]) (by rw[List.length_map];omega),
  Fz.refl (by simp (disch:=first|omega|simp (disch:=omega) only[aG,aM,aG37]) only[fZ,aM,aG37]),Fz.refl rfl,trivial⟩,Fz.refl rfl,trivial⟩) ⟨rfl,rfl⟩
end Go.Proofs.YtcppaddgclkekaaGreat
namespace Go.Proofs.YtcppaddgclkekaaGreat
open Go Go.Lft
set_option linter.unusedSimpArgs false
set_option linter.unusedVariables false
def yF4:Ty:=(.sl (.sl (.st [(.sl (.sl (.int .i64))),(.int .i64)])))
theorem xA5{ce:List A}(h:(Ty.st [.sl (.sl (.int .i64)),.int .i64]).Sh true ce):∃o:Og,(Ty.st [.sl (.sl (.int .i64)),.int .i64]).pk ce=ogA true o∧True:=by
 simp only[Ty.Sh,Ty.ShL]at h
 obtain⟨a,_,rfl,h,_,_,rfl,⟨c,rfl,hc⟩,rfl⟩:=h
 obtain⟨m,h1,h2,h3⟩:=y4C (w:=true) (ce:=a) (by simp only[Ty.Sh];exact h)
 obtain⟨L,rfl,_⟩:=h
 refine⟨⟨m,c⟩,?_,trivial⟩
 rw[show(Ty.sl (.sl (.int .i64))).pk [A.fs true (L.map (Ty.sl (.int .i64)).pk)]=.fs true (L.map (Ty.sl (.int .i64)).pk)from rfl]at h1
 show A.agg _=A.agg _
 rw[h1];rfl
theorem xv2{ce:List A}(h:(Ty.sl (.st [.sl (.sl (.int .i64)),.int .i64])).Sh true ce):∃l:List Og,(Ty.sl (.st [.sl (.sl (.int .i64)),.int .i64])).pk ce=A.fs true (ogs true l)∧True:=by
 simp only[Ty.Sh]at h
 obtain⟨L,rfl,hn,h⟩:=h
 obtain⟨l,h1,h2,h3⟩:=z02 (w:=true) _ (ogA true) _ (fun ce hce=>xA5 hce) L (fun ce hce=>by simp only[Ty.Sh];exact h ce hce)
 exact⟨l,by show A.fs true _=_;rw[h1];rfl,trivial⟩
theorem xb1{es:List A}(h:yF4.Sh true es):∃L:List (List Og),yF4.pk es=.fs true (ogL true L):=by
 unfold yF4 at h ⊢
 simp only[Ty.Sh]at h
 obtain⟨L,rfl,hn,h⟩:=h
 obtain⟨l,h1,h2,h3⟩:=z02 (w:=true) _ (fun l=>A.fs true (ogs true l)) _ (fun ce hce=>xv2 hce) L (fun ce hce=>by simp only[Ty.Sh];exact h ce hce)
 exact⟨l,by show A.fs true _=_;rw[h1];rfl⟩
end Go.Proofs.YtcppaddgclkekaaGreat
namespace Go.Proofs.YtcppaddgclkekaaGreat
open Go Go.Lft
set_option linter.unusedSimpArgs false
set_option linter.unusedVariables false
attribute [local congr] Q7 Q8 Q9 za1 Z9 Y0 za2 Y2 Y3 Y4 za3 za0
theorem y5D{p:Pl}{L:List (List Og)}{fd:List Int}{gs:List Bt}(r:A)(G:List Blk)(h:G=[]∧∃y:Bool,r=.v (.bool y)∧(y=true→Light p L fd gs)):G=[]∧(r.cl && r.bd 0)=true:=by
 obtain⟨rfl,b,rfl,_⟩:=h;exact⟨rfl,rfl⟩
theorem y0F{T:List (List Int)}:∀(n:Nat) (y:Int) {q:List Int},q∈blkP T y n→∃z t,q=z :: t∧y≤z∧z<y+n∧t∈T
 | 0,_,_,h=>by simp [blkP]at h
 | n+1,y,q,h=>by
  rcases List.mem_append.1 (show q∈T.map (y :: ·)++blkP T (y+1) n from h)with h|h
  ·obtain⟨t,ht,rfl⟩:=List.mem_map.1 h
   exact⟨y,t,rfl,Int.le_refl _,by omega,ht⟩
  ·obtain⟨z,t,h1,h2,h3,h4⟩:=y0F n (y+1) h
   exact⟨z,t,h1,by omega,by omega,h4⟩
theorem y5E:∀(L:List (List Og)) (pk:List Int),pk∈allP L→PkOk L pk
 | [],pk,h=>by
  rw[List.mem_singleton.1 (show pk∈[([]:List Int)]from h)]
  exact⟨rfl,fun m hm=>absurd hm (by simp)⟩
 | l :: L,pk,h=>by
  obtain⟨z,t,rfl,h1,h2,h3⟩:=y0F _ _ (show pk∈blkP (allP L) 0 (max 1 l.length)from h)
  obtain⟨q1,q2⟩:=y5E L t h3
  refine⟨by simp [q1],fun m hm=>?_⟩
  cases m with
  | zero=>simp only[List.getD_cons_zero];omega
  | succ m=>have:=q2 m (by simpa using hm);simpa using this
def y5F(f:List Int→Option Int)(l:List (List Int)):Option (List Int×Int)→Prop
 | none=>∀x∈l,f x=none
 | some q=>∃pre post,l=pre++q.1 :: post∧f q.1=some q.2∧(∀x∈pre,∀w,f x=some w→w<q.2)∧∀x∈post,∀w,f x=some w→w≤q.2
theorem y0G(p:Pl)(L:List (List Og))(xs:List Int)(gl:List Bt):∀(l pre:List (List Int)) (b:Option (List Int×Int)),y5F (zT7 p L xs gl) pre b→y5F (zT7 p L xs gl) (pre++l) (l.foldl (yF0 p L xs gl) b)
 | [],pre,b,h=>by rw[List.append_nil];exact h
 | a :: l,pre,b,h=>by
  rw[show pre++a :: l=(pre++[a])++l by simp]
  refine y0G p L xs gl l (pre++[a]) _ ?_
  unfold yF0
  generalize zT7 p L xs gl=f at *
  cases hv:f a with
  | none =>
   cases b with
   | none =>
    intro x hx
    rcases List.mem_append.1 hx with k|k
    ·exact h x k
    ·rw[List.mem_singleton.1 k];exact hv
   | some q =>
    obtain⟨s,t,e,h1,h2,h3⟩:=h
    refine⟨s,t++[a],by rw[e];simp,h1,h2,fun x hx w hw=>?_⟩
    rcases List.mem_append.1 hx with k|k
    ·exact h3 x k w hw
    ·rw[List.mem_singleton.1 k,hv]at hw;cases hw
  | some v =>
   cases b with
   | none=>exact⟨pre,[],rfl,hv,fun x hx w hw=>by rw[h x hx]at hw;(cases hw),fun x hx=>by simp at hx⟩
   | some q =>
    obtain⟨s,t,e,h1,h2,h3⟩:=h
    simp only
    split
    ·rename_i hgt
     refine⟨pre,[],rfl,hv,fun x hx w hw=>?_,fun x hx=>by simp at hx⟩
     rw[e]at hx
     simp only
     rcases List.mem_append.1 hx with k|k
     ·have:=h2 x k w hw;omega
     rcases List.mem_cons.1 k with k|k
     ·rw[k,h1]at hw
      have:=Option.some.inj hw;omega
     ·have:=h3 x k w hw;omega
    ·rename_i hgt
     refine⟨s,t++[a],by rw[e];simp,h1,h2,fun x hx w hw=>?_⟩
     rcases List.mem_append.1 hx with k|k
     ·exact h3 x k w hw
     ·rw[List.mem_singleton.1 k,hv]at hw
      have:=Option.some.inj hw;omega
theorem xv3(p:Pl)(L:List (List Og))(xs:List Int)(gl:List Bt)(l:List (List Int)):y5F (zT7 p L xs gl) l (bstL p L xs gl l):=by
 have:=y0G p L xs gl l [] none (fun x hx=>by simp at hx)
 rwa [List.nil_append]at this
theorem y0H{p:Pl}{l:List Bt}:zb3 p l=0↔l.length≤24∧(∀i,i<l.length→¬badG p (l.getD i b0))∧¬dupG l:=by
 constructor
 ·intro h
  have hl:¬24<l.length:=fun k=>by unfold zb3 at h;rw[if_pos k]at h;cases h
  have hn:¬0≤idxE (badG p) l:=fun k=>by
   unfold zb3 at h
   rw[if_neg hl,if_pos k]at h
   exact absurd h (z0W b0 k)
  refine⟨by omega,fun i hi=>zS9 (by omega) _ (x3 b0 hi),fun hd=>?_⟩
  unfold zb3 at h
  rw[if_neg hl,if_neg hn,if_pos hd]at h
  cases h
 ·rintro⟨h1,h2,h3⟩
  rw[z1m (by omega) h2,if_neg h3]
theorem y6K{p:Pl}{L:List (List Og)}{pk:List Int}(h:za4 p L=0)(hp:PkOk L pk)(g:Bt):glE (X6 p L pk) g=glE p g:=by
 have e1:(X6 p L pk).ms.length=p.ms.length:=zO5 p L pk
 have e2:(X6 p L pk).mt=p.mt:=rfl
 unfold glE
 rw[e1,e2]
 by_cases hr:g.fr<0∨(p.ms.length:Int)≤g.fr
 ·rw[if_pos hr,if_pos hr]
 ·have hm:g.fr.toNat<p.ms.length:=by omega
  have e3:y3 ((X6 p L pk).ms.getD g.fr.toNat [])=y3 (p.ms.getD g.fr.toNat []):=by
   rw[show(X6 p L pk).ms=ze0 p L pk from rfl,z98 _ _ _ _ hm]
   obtain⟨q1,q2⟩:=zC1 h
   have q3:=hp.2 g.fr.toNat (by omega)
   unfold z97
   split
   ·rfl
   ·exact((q2 _ hm).2 _ (x3 og0 (by omega))).2.1
  rw[e3]
theorem yF5{p:Pl}{L:List (List Og)}{pk:List Int}(h:za4 p L=0)(hp:PkOk L pk)(gl:List Bt):zb3 (X6 p L pk) gl=0↔zb3 p gl=0:=by
 rw[y0H,y0H]
 unfold badG
 simp only[y6K h hp]
theorem y5G{p:Pl}{L:List (List Og)}{pk:List Int}(h1:y6 p=0)(h2:za4 p L=0)(h:PkOk L pk):zn9 p L pk=(X6 p L pk,0):=by
 have hl:=(zC1 h2).1
 unfold zn9
 rw[if_neg (fun k=>k h1),if_neg (fun k=>k h2),if_neg (fun k=>k (h.1.trans hl)),if_neg]
 have:=zn4 (p:=pkB L pk) 0 (l:=List.range pk.length) fun i hi=>by
  have hi':i<pk.length:=by simpa using hi
  rw[zc8 hi']
  have:=h.2 i (by have:=h.1;omega)
  unfold pkB;omega
 omega
theorem xb2{p:Pl}{L:List (List Og)}{pk:List Int}(h:(zn9 p L pk).2=0):y6 p=0∧za4 p L=0∧PkOk L pk∧zn9 p L pk=(X6 p L pk,0):=by
 unfold zn9 at h ⊢
 by_cases h1:y6 p=0
 case neg=>rw[if_pos h1]at h;exact absurd h h1
 by_cases h2:za4 p L=0
 case neg=>rw[if_neg (fun k=>k h1),if_pos h2]at h;exact absurd h h2
 by_cases h3:pk.length=p.ms.length
 case neg=>rw[if_neg (fun k=>k h1),if_neg (fun k=>k h2),if_pos h3]at h;cases h
 by_cases h4:0≤idxE (pkB L pk) (List.range pk.length)
 ·rw[if_neg (fun k=>k h1),if_neg (fun k=>k h2),if_neg (fun k=>k h3),if_pos h4]at h;cases h
 rw[if_neg (fun k=>k h1),if_neg (fun k=>k h2),if_neg (fun k=>k h3),if_neg h4]
 have hl:=(zC1 h2).1
 exact⟨h1,h2,y8M (by omega) fun m hm=>zS9 (p:=pkB L pk) (l:=List.range pk.length) (by omega) m (List.mem_range.2 (by omega)),rfl⟩
theorem y1l{p:Pl}{L:List (List Og)}{xs:List Int}{gl:List Bt}{pk:List Int}(h2:za4 p L=0)(hp:PkOk L pk)(hw:zb3 p gl=0){v:Int}(hv:zT7 p L xs gl pk=some v):valR (X6 p L pk) xs gl=(v+spcS L pk,0):=by
 unfold zT7 at hv
 by_cases hy:(yldR (X6 p L pk) xs).2=0
 ·rw[if_pos hy]at hv
  have:=Option.some.inj hv
  unfold valR
  rw[if_neg (fun k=>k hy),if_neg (fun k=>k ((yF5 h2 hp gl).2 hw))]
  congr 1;omega
 ·rw[if_neg hy]at hv;cases hv
theorem y6L{p:Pl}{L:List (List Og)}{xs:List Int}{gl:List Bt}(h:(zd0 p L xs gl).2=0):∃pk n,zd0 p L xs gl=((pk,n-spcS L pk),0)∧za4 p L=0∧PkOk L pk∧zn9 p L pk=(X6 p L pk,0)∧valR (X6 p L pk) xs gl=(n,0):=by
 unfold zd0 at h ⊢
 by_cases h1:y6 p=0
 case neg=>rw[if_pos h1]at h;exact absurd h h1
 by_cases h2:za4 p L=0
 case neg=>rw[if_neg (fun k=>k h1),if_pos h2]at h;exact absurd h h2
 by_cases h3:256<prd L
 ·rw[if_neg (fun k=>k h1),if_neg (fun k=>k h2),if_pos h3]at h;cases h
 by_cases h4:fedE p xs=0
 case neg=>rw[if_neg (fun k=>k h1),if_neg (fun k=>k h2),if_neg h3,if_pos h4]at h;exact absurd h h4
 by_cases h5:zb3 p gl=0
 case neg=>rw[if_neg (fun k=>k h1),if_neg (fun k=>k h2),if_neg h3,if_neg (fun k=>k h4),if_pos h5]at h;exact absurd h h5
 rw[if_neg (fun k=>k h1),if_neg (fun k=>k h2),if_neg h3,if_neg (fun k=>k h4),if_neg (fun k=>k h5)]at h ⊢
 have hb:=xv3 p L xs gl (allP L)
 cases hbo:bstL p L xs gl (allP L)with
 | none=>rw[hbo]at h;cases h
 | some q =>
  rw[hbo]at hb
  obtain⟨pre,post,e,hv,_,_⟩:=hb
  have hp:PkOk L q.1:=y5E L q.1 (by rw[e];simp)
  refine⟨q.1,q.2+spcS L q.1,?_,h2,hp,y5G h1 h2 hp,y1l h2 hp h5 hv⟩
  show(q,(0:Int))=_
  rw[Int.add_sub_cancel]
theorem yM3{l:List Og}{L:List (List Og)}{x:Int}{pk:List Int}(h1:0≤x∧(x<l.length∨(l.length=0∧x=0)))(h2:PkOk L pk):PkOk (l :: L) (x :: pk):=by
 refine⟨by simp [h2.1],fun m hm=>?_⟩
 cases m with
 | zero=>simp only[List.getD_cons_zero];exact h1
 | succ m=>have:=h2.2 m (by simpa using hm);simpa using this
theorem xb3{l:List Og}{L:List (List Og)}{x:Int}{pk:List Int}(h:PkOk (l :: L) (x :: pk)):(0≤x∧(x<l.length∨(l.length=0∧x=0)))∧PkOk L pk:=by
 have h0:=h.2 0 (by simp)
 simp only[List.getD_cons_zero]at h0
 exact⟨h0,by simpa using h.1,fun m hm=>by have:=h.2 (m+1) (by simpa using hm);simpa using this⟩
theorem yM4:∀(L:List (List Og)),PkOk L (List.replicate L.length 0)
 | []=>⟨rfl,fun m hm=>absurd hm (by simp)⟩
 | l :: L=>yM3 (by omega) (yM4 L)
theorem y8S:∀{L:List (List Og)} {pk q:List Int},PkOk L pk→nxk L pk=some q→PkOk L q
 | [],[],_,_,h=>by cases h
 | [],_ :: _,_,h,_=>absurd h.1 (by simp)
 | _ :: _,[],_,h,_=>absurd h.1 (by simp)
 | l :: L,x :: pk,q,h,hq=>by
  obtain⟨h0,h1⟩:=xb3 h
  rw[y0D]at hq
  cases hn:nxk L pk with
  | some r =>
   rw[hn]at hq
   have:=Option.some.inj hq
   subst this
   exact yM3 h0 (y8S h1 hn)
  | none =>
   rw[hn]at hq
   simp only at hq
   split at hq
   ·have:=Option.some.inj hq
    subst this
    have hl:=h1.1
    rw[hl]
    exact yM3 (by omega) (yM4 L)
   ·cases hq
def folP:Option (List Int)→A
 | some q=>.fs true (ints q)
 | none=>.fs true []
def folT(o:Option (List Int)):A:=.tup [folP o,.v (.bool o.isSome)]
theorem yF6(q:List Int):folP (some q)=.fs true (ints q):=rfl
theorem yF7:folP none=.fs true []:=rfl
theorem y5H(n:Nat)(o:Option (List Int)):A.bd n (folP o)=true:=by cases o<;>simp [folP,A.bd,zl4,A.bdL]
theorem ya3(m:Nat)(H:List Blk)(o:Option (List Int)):Fz m H (folP o) (folP o):=Fz.refl (y5H _ _)
theorem xb4(o:Option (List Int)):(folP o).cl=true:=by cases o<;>simp [folP,A.cl,yl3,A.clL]
theorem voB {f : Nat} {fn : Func} {V : List Nat} {F : Fun} {nt : Nat} (hf : P.funcs[f]? = some fn) (hc : yt7 P fn V false = some F) (hn : fn.ntmps = nt) {kp : Bool} {args : List A} {H : List Blk} {R : A → List Blk → Prop} (hlen : args.length ≤ nt) (hk : kp = false ∨ H = [])
    (hw:AWP P H.length F.body (z8b H.length F R) (envA V args) H):VR P kp f args H R :=
  VR.of (F:=F) (V:=V) (fun hl _ _ hs=>y5N z5m hf hc (by rw[hn];exact hl) hs) hlen hk fun _ _=>hw
set_option maxHeartbeats 1000000 in
theorem ya4{u u':Bool}(L:List (List Og))(pk:List Int)(hL:L.length≤1000)(h4:∀l∈L,l.length≤1000)(hpk:PkOk L pk):VR P false z5y [.fs u (ogL u L),.fs u' (ints pk)] [] (isR (folT (nxk L pk))):=by
 refine voB (V:=zL2) (F:=zL1) Tryz.func49 (by kernel_rfl) Tryz.ntmps49 (by simp) (.inr rfl) ?_
 have hpl:=hpk.1
 show AWP P 0 zh7 _ _ _
 refine AWP.chain 3 ?_
 conv=>arg 3;simp only[zh7,S.pre]
 simp (disch:=(try simp only[lZ]);omega) only[aZ,aM,aG37,zL2]
 conv=>arg 3;simp only[zh7,S.post]
 refine AWP.cut (Cut.virt 4 1 rfl) ?_
 refine aw_sound ?_
 simp (disch:=(try simp only[lZ]);omega) only[aZ,aM,aG37]
 refine AWP.loopP z2G (fun j:Nat=>j≤L.length∧∀i,j≤i→i<L.length→((L.getD i []).length:Int)≤pk.getD i 0+1) (fun j=>[(2,.v (.slice none 0 0)),(3,.v (.bool false)),(5,.v (.int .i64 ((j:Int)-1)))]) (fun j=>[(0,⟨1,ints (zr pk j)⟩)]) (fun j=>j) L.length ⟨by omega,fun i h1 h2=>absurd h1 (by omega)⟩ ?_ ?_
 ·rw[← hpl,y8N]
  exact Cut.fg (by simp (disch:=first|omega|simp (disch:=omega) only[aG,aM,aG37]) only[fZ,aM,aG37,y0,z9,or_true,true_or])
 rintro j ⟨hj,hg⟩
 have zl:=y0E pk j
 cases j with
 | zero =>
  rw[z7Z L pk hpl (fun i hi=>hg i (by omega) hi)]
  simp (disch:=(try simp only[lZ]);omega) only[aZ,aM,aG37,zL3]
  exact y8 (r:=folT none) (Fz.tup ⟨z3d _ _,Fz.refl rfl,trivial⟩) ⟨rfl,rfl⟩
 | succ m =>
  have hm:m<L.length:=by omega
  have e1:(((m+1:Nat):Int)-1)=(m:Int):=by omega
  have q2:=hpk.2 m hm
  have hlm:=h4 _ (x3 [] hm)
  have zg:=y5w pk (m+1) m (by omega)
  have zs:=y8O pk m (by omega)
  have gs:((zr pk (m+1)).set m (pk.getD m 0+1)).getD m 0=pk.getD m 0+1:=by
   rw[List.getD_eq_getElem?_getD,List.getElem?_set_self (by rw[zl];omega)];rfl
  have ss:((zr pk (m+1)).set m (pk.getD m 0+1)).set m 0=zr pk m:=by rw[List.set_set];exact zs
  by_cases hlt:pk.getD m 0+1<((L.getD m []).length:Int)
  ·have hsome:=ys5 L pk m hpl hm (fun i h1 h2=>hg i (by omega) h2) (by omega)
   rw[hsome]
   have gl:((zr pk (m+1)).set m (pk.getD m 0+1)).length=pk.length:=by rw[List.length_set];exact zl
   simp (disch:=(try simp only[lZ]);omega) only[aZ,aM,aG37,e1,zg,gs,decide_eq_true hlt,zL3]
   generalize (zr pk (m+1)).set m (pk.getD m 0+1)=q at *
   refine y8 (r:=folT (some q)) (Fz.tup (l:=[.vs 0 1 1 pk.length,.v (.bool true)]) (r:=[.fs true (ints q),.v (.bool true)]) ⟨?_,Fz.refl rfl,trivial⟩) ⟨rfl,rfl⟩
   exact xp4 0 _ 0 1 _ q (by omega) gl.symm rfl
  ·simp (disch:=(try simp only[lZ]);omega) only[aZ,aM,aG37,e1,zg,gs,ss,decide_eq_false hlt]
   refine⟨m,⟨by omega,fun i h1 h2=>?_⟩,by omega,?_⟩
   ·by_cases e:i=m
    ·subst e;omega
    ·exact hg i (by omega) h2
   ·exact Cut.fg (by simp (disch:=first|omega|simp (disch:=omega) only[aG,aM,aG37]) only[fZ,aM,aG37,y0,z9,or_true,true_or])
theorem y1m{u u':Bool}(L:List (List Og))(pk:List Int)(hl:L.length≤1000)(hc:yE5 L)(hp:PkOk L pk):VR P false z6t [.fs u (ogL u L),.fs u' (ints pk)] [] (isR (.v (.int .i64 (spcS L pk)))):=by
 refine ym9 (by simp) (.inr rfl) fun _ _=>?_
 have hL:=z7X L pk
 have hbd:∀k,k≤L.length→0*(k:Int)≤sumT (spcL L pk) k∧sumT (spcL L pk) k≤1000000000000*k:=fun k hk=>zB5 (spcL L pk) 0 1000000000000 k (by omega) fun i hi=>by
  rw[z47 _ _ _ (by omega)]
  exact yE6 hc hp (by omega)
 have hsu:=fun k hk=>ze9 (spcL L pk) k hk
 have hall:sumT (spcL L pk) L.length=spcS L pk:=by rw[← hL];exact zd8 _
 obtain⟨p1,p2⟩:=hp
 simp (disch:=(try simp only[lZ]);omega) only[aZ,aM,aG37,z0q,z6v]
 refine AWP.loopP yc9 (fun k:Nat=>k≤L.length) (fun k=>[(3,.v (.int .i64 (sumT (spcL L pk) k))),(4,.v (.int .i64 k))]) (fun _=>[]) (fun k=>L.length-k) 0 (by omega) ?_ ?_
 ·rw[ze8]
  exact Cut.fg (by simp (disch:=first|omega|simp (disch:=omega) only[aG,aM,aG37]) only[fZ,aM,aG37,y0,z9,or_true,true_or])
 rintro k hk
 by_cases hkt:k<L.length
 ·have hs:=hsu k (by omega)
  rw[z47 _ _ _ hkt]at hs
  have b1:=hbd k hk
  have b2:=yE6 hc ⟨p1,p2⟩ hkt
  have q2:=p2 k hkt
  unfold spc at hs b2
  generalize hlk:L.getD k []=l at *
  generalize hpk:pk.getD k 0=x at *
  by_cases h0:l.length=0
  ·rw[if_pos h0,Int.add_zero]at hs
   simp (disch:=(try simp only[lZ]);omega) only[aZ,aM,aG37,hlk,hpk,decide_eq_true (show x≥0 by omega),decide_eq_false (show ¬x<(l.length:Int) by omega)]
   refine⟨k+1,by omega,by omega,?_⟩
   rw[hs]
   exact Cut.fg (by simp (disch:=first|omega|simp (disch:=omega) only[aG,aM,aG37]) only[fZ,aM,aG37,y0,z9,or_true,true_or])
  ·rw[if_neg h0]at hs b2
   simp (disch:=(try simp only[lZ]);omega) only[aZ,aM,aG37,hlk,hpk,decide_eq_true (show x≥0 by omega),decide_eq_true (show x<(l.length:Int) by omega)]
   rw[← hs]
   refine⟨k+1,by omega,by omega,?_⟩
   exact Cut.fg (by simp (disch:=first|omega|simp (disch:=omega) only[aG,aM,aG37]) only[fZ,aM,aG37,y0,z9,or_true,true_or])
 have hke:k=L.length:=by omega
 subst hke
 rw[← hall]
 simp (disch:=(try simp only[lZ]);omega) only[aZ,aM,aG37,p1,yy5]
 exact y1 ⟨rfl,rfl⟩
theorem y6M(p:Pl)(xs:List Int)(gl:List Bt):-412316860416000000≤(valR p xs gl).1∧(valR p xs gl).1≤412316860416000000:=by
 unfold valR at *
 by_cases h1:(yldR p xs).2=0
 case neg=>rw[if_pos h1];simp
 by_cases h2:zb3 p gl=0
 case neg=>rw[if_neg (fun k=>k h1),if_pos h2];simp
 rw[if_neg (fun k=>k h1),if_neg (fun k=>k h2)]
 obtain⟨hc,hf,_⟩:=ys3 h1
 obtain⟨g1,g2⟩:=ys4 hc hf h2
 exact y5z g1 g2
theorem y6N{p:Pl}{L:List (List Og)}{xs:List Int}{gl:List Bt}{pk:List Int}(h2:za4 p L=0)(hp:PkOk L pk)(hw:zb3 p gl=0):zT7 p L xs gl pk=if(valR (X6 p L pk) xs gl).2=0 then some ((valR (X6 p L pk) xs gl).1-spcS L pk)else none:=by
 have hw2:=(yF5 h2 hp gl).2 hw
 by_cases hy:(yldR (X6 p L pk) xs).2=0
 ·have e:valR (X6 p L pk) xs gl=(wrtS (yldL (X6 p L pk) xs) gl,0):=by unfold valR;rw[if_neg (fun k=>k hy),if_neg (fun k=>k hw2)]
  unfold zT7
  rw[if_pos hy,e,if_pos rfl]
 ·have e:valR (X6 p L pk) xs gl=(0,(yldR (X6 p L pk) xs).2):=by unfold valR;rw[if_pos hy]
  unfold zT7
  rw[if_neg hy,e,if_neg (show ¬((0:Int),(yldR (X6 p L pk) xs).2).2=0 from hy)]
def rstP(L:List (List Og)):Option (List Int)→List (List Int)
 | some pk=>sfx L pk
 | none=>[]
set_option maxHeartbeats 4000000 in
theorem y1n{u1 u2:Bool}(p:Pl)(L:List (List Og))(xs:List Int)(gl:List Bt)(hl9:xs.length≤9223372036854775807):VR P false z6c [plA true true p,.fs true (ogL true L),.fs u1 (ints xs),.fs u2 (bts gl)] [] (isR (y5y (zd0 p L xs gl))):=by
 refine yl7 (by simp) (.inr rfl) fun _ _=>?_
 have hpo:=z2r (w:=true) (v:=true) (u:=true) p L
 have hpap:∀pk:List Int,plA true true (X6 p L pk)=.agg [.v (.int .i64 p.mat),.fs true (mcs true (ze0 p L pk)),.fs true (bts p.bs),.v (.int .i64 p.fd)]:=fun _=>rfl
 unfold plA plC at hpo ⊢
 by_cases h1:y6 p=0
 case neg =>
  have e:zd0 p L xs gl=(([],0),y6 p):=by unfold zd0;rw[if_pos h1]
  rw[show ya2 p L=y6 p from if_pos h1]at hpo
  rw[e]
  simp (disch:=(try simp only[lZ]);omega) only[aZ,aM,aG37,zd1,zg8]
  refine hpo.same (by simp (disch:=first|omega|simp (disch:=omega) only[aG,aM,aG37]) only[fZ,aM,aG37]) rfl (z7 ?_)
  simp (disch:=(try simp only[lZ]);omega) only[aZ,aM,aG37,decide_eq_true (show ¬y6 p=0 from h1),zg9]
  exact y8 (zk5 _ _) ⟨rfl,rfl⟩
 rw[show ya2 p L=za4 p L from if_neg (fun h=>h h1)]at hpo
 have ok:=y7 h1
 obtain⟨m1,m2,m3⟩:=ok.mt1
 have n2:=ok.n2
 by_cases h2:za4 p L=0
 case neg =>
  have e:zd0 p L xs gl=(([],0),za4 p L):=by unfold zd0;rw[if_neg (fun h=>h h1),if_pos h2]
  rw[e]
  simp (disch:=(try simp only[lZ]);omega) only[aZ,aM,aG37,zd1,zg8]
  refine hpo.same (by simp (disch:=first|omega|simp (disch:=omega) only[aG,aM,aG37]) only[fZ,aM,aG37]) rfl (z7 ?_)
  simp (disch:=(try simp only[lZ]);omega) only[aZ,aM,aG37,decide_eq_true (show ¬za4 p L=0 from h2),zg9]
  exact y8 (zk5 _ _) ⟨rfl,rfl⟩
 obtain⟨hl,hlm⟩:=zC1 h2
 have hb4:∀l∈L,l.length≤4:=fun l hl2=>by
  obtain⟨m,hm,rfl⟩:=zJ9 [] hl2
  exact(hlm m (by omega)).1
 have hch:=z48 (u:=true) L (by omega) (fun l hl2=>by have:=hb4 l hl2;omega)
 have hfd:=z96 (w:=true) (v:=true) (u:=u1) ok xs
 have hwa:=z45 (w:=true) (v:=true) (u:=u2) ok gl
 unfold plA plC at hfd hwa
 by_cases h3:256<prd L
 ·have e:zd0 p L xs gl=(([],0),8):=by unfold zd0;rw[if_neg (fun h=>h h1),if_neg (fun h=>h h2),if_pos h3]
  rw[show chN L=257 from if_pos h3]at hch
  rw[e]
  simp (disch:=(try simp only[lZ]);omega) only[aZ,aM,aG37,zd1,zg8]
  refine hpo.same (by simp (disch:=first|omega|simp (disch:=omega) only[aG,aM,aG37]) only[fZ,aM,aG37]) rfl (z7 ?_)
  simp (disch:=(try simp only[lZ]);omega) only[aZ,aM,aG37,h2]
  refine hch.same (by simp (disch:=first|omega|simp (disch:=omega) only[aG,aM,aG37]) only[fZ,aM,aG37]) rfl (z7 ?_)
  simp (disch:=(try simp only[lZ]);omega) only[aZ,aM,aG37,zg9]
  exact y8 (zk5 _ _) ⟨rfl,rfl⟩
 rw[show chN L=prd L from if_neg h3]at hch
 have h3d:=decide_eq_false (show ¬((prd L:Nat):Int)>256 by omega)
 by_cases h4:fedE p xs=0
 case neg =>
  have e:zd0 p L xs gl=(([],0),fedE p xs):=by unfold zd0;rw[if_neg (fun h=>h h1),if_neg (fun h=>h h2),if_neg h3,if_pos h4]
  rw[e]
  simp (disch:=(try simp only[lZ]);omega) only[aZ,aM,aG37,zd1,zg8]
  refine hpo.same (by simp (disch:=first|omega|simp (disch:=omega) only[aG,aM,aG37]) only[fZ,aM,aG37]) rfl (z7 ?_)
  simp (disch:=(try simp only[lZ]);omega) only[aZ,aM,aG37,h2]
  refine hch.same (by simp (disch:=first|omega|simp (disch:=omega) only[aG,aM,aG37]) only[fZ,aM,aG37]) rfl (z7 ?_)
  simp (disch:=(try simp only[lZ]);omega) only[aZ,aM,aG37,h3d]
  refine hfd.same (by simp (disch:=first|omega|simp (disch:=omega) only[aG,aM,aG37]) only[fZ,aM,aG37]) rfl (z7 ?_)
  simp (disch:=(try simp only[lZ]);omega) only[aZ,aM,aG37,decide_eq_true (show ¬fedE p xs=0 from h4),zg9]
  exact y8 (zk5 _ _) ⟨rfl,rfl⟩
 by_cases h5:zb3 p gl=0
 case neg =>
  have e:zd0 p L xs gl=(([],0),zb3 p gl):=by unfold zd0;rw[if_neg (fun h=>h h1),if_neg (fun h=>h h2),if_neg h3,if_neg (fun h=>h h4),if_pos h5]
  rw[e]
  simp (disch:=(try simp only[lZ]);omega) only[aZ,aM,aG37,zd1,zg8]
  refine hpo.same (by simp (disch:=first|omega|simp (disch:=omega) only[aG,aM,aG37]) only[fZ,aM,aG37]) rfl (z7 ?_)
  simp (disch:=(try simp only[lZ]);omega) only[aZ,aM,aG37,h2]
  refine hch.same (by simp (disch:=first|omega|simp (disch:=omega) only[aG,aM,aG37]) only[fZ,aM,aG37]) rfl (z7 ?_)
  simp (disch:=(try simp only[lZ]);omega) only[aZ,aM,aG37,h3d]
  refine hfd.same (by simp (disch:=first|omega|simp (disch:=omega) only[aG,aM,aG37]) only[fZ,aM,aG37]) rfl (z7 ?_)
  simp (disch:=(try simp only[lZ]);omega) only[aZ,aM,aG37,h4]
  refine hwa.same (by simp (disch:=first|omega|simp (disch:=omega) only[aG,aM,aG37]) only[fZ,aM,aG37]) rfl (z7 ?_)
  simp (disch:=(try simp only[lZ]);omega) only[aZ,aM,aG37,decide_eq_true (show ¬zb3 p gl=0 from h5),zg9]
  exact y8 (zk5 _ _) ⟨rfl,rfl⟩
 have e:zd0 p L xs gl=bstO (bstL p L xs gl (allP L)):=by unfold zd0;rw[if_neg (fun h=>h h1),if_neg (fun h=>h h2),if_neg h3,if_neg (fun h=>h h4),if_neg (fun h=>h h5)]
 rw[e]
 have hcost:=yE7 h2
 simp (disch:=(try simp only[lZ]);omega) only[aZ,aM,aG37,zd1,zg8]
 refine hpo.same (by simp (disch:=first|omega|simp (disch:=omega) only[aG,aM,aG37]) only[fZ,aM,aG37]) rfl (z7 ?_)
 simp (disch:=(try simp only[lZ]);omega) only[aZ,aM,aG37,h2]
 refine hch.same (by simp (disch:=first|omega|simp (disch:=omega) only[aG,aM,aG37]) only[fZ,aM,aG37]) rfl (z7 ?_)
 simp (disch:=(try simp only[lZ]);omega) only[aZ,aM,aG37,h3d]
 refine hfd.same (by simp (disch:=first|omega|simp (disch:=omega) only[aG,aM,aG37]) only[fZ,aM,aG37]) rfl (z7 ?_)
 simp (disch:=(try simp only[lZ]);omega) only[aZ,aM,aG37,h4]
 refine hwa.same (by simp (disch:=first|omega|simp (disch:=omega) only[aG,aM,aG37]) only[fZ,aM,aG37]) rfl (z7 ?_)
 simp (disch:=(try simp only[lZ]);omega) only[aZ,aM,aG37,h5,Int.toNat_natCast]
 refine AWP.cut (e':=[.agg [.v (.int .i64 p.mat),.fs true (mcs true p.ms),.fs true (bts p.bs),.v (.int .i64 p.fd)],.fs true (ogL true L),.fs u1 (ints xs),.fs u2 (bts gl),.lp 1 0 0,.v (.int .i64 0),.lp 0 0 0,.v (.int .i64 0),.v (.bool false),.fs true (ints (List.replicate L.length 0)),.v (.bool true),.any,.any,.any,.any,.lp 2 0 0,.any,.any,.any,.any,.any,.any,.any,.any,.any]) (H':=[⟨0,[.v (.int .i64 p.mat),.fs true (mcs true p.ms),.fs true (bts p.bs),.v (.int .i64 p.fd)]⟩,⟨0,[.v (.slice none 0 0),.v (.int .i64 0)]⟩,⟨0,[.v (.slice none 0 0),.v (.int .i64 0)]⟩]) (Cut.of' 3 rfl (by simp) ?_ ?_) ?_
 ·simp (disch:=first|omega|simp (disch:=omega) only[aG,aM,aG37]) only[fZ,aM,aG37]
 ·refine⟨Fz.refl (by simp (disch:=first|omega|simp (disch:=omega) only[aG,aM,aG37]) only[fZ,aM,aG37]),Fz.refl (by simp (disch:=first|omega|simp (disch:=omega) only[aG,aM,aG37]) only[fZ,aM,aG37]),Fz.refl (by simp (disch:=first|omega|simp (disch:=omega) only[aG,aM,aG37]) only[fZ,aM,aG37]),Fz.refl (by simp (disch:=first|omega|simp (disch:=omega) only[aG,aM,aG37]) only[fZ,aM,aG37]),Fz.refl (by simp (disch:=first|omega|simp (disch:=omega) only[aG,aM,aG37]) only[fZ,aM,aG37]),Fz.refl rfl,Fz.refl (by simp (disch:=first|omega|simp (disch:=omega) only[aG,aM,aG37]) only[fZ,aM,aG37]),Fz.refl rfl,Fz.refl rfl,?_,Fz.refl rfl,Fz.any,Fz.any,Fz.any,Fz.any,Fz.refl (by simp (disch:=first|omega|simp (disch:=omega) only[aG,aM,aG37]) only[fZ,aM,aG37]),Fz.any,Fz.any,Fz.any,Fz.any,Fz.any,Fz.any,Fz.any,Fz.any,Fz.any,trivial⟩
  exact zK3 3 _ 3 0 _ _ (by omega) (by simp) (by simp [blkAt,ints])
 refine aw_sound ?_
 simp (disch:=(try simp only[lZ]);omega) only[aZ,aM,aG37]
 have hz:=z7Y L
 refine AWP.loopP yb1 (fun x:List (List Int)×Option (List Int)=>allP L=x.1++rstP L x.2∧∀pk,x.2=some pk→PkOk L pk) (fun x=>[(8,.v (.bool (bstL p L xs gl x.1).isSome)),(9,folP x.2),(10,.v (.bool x.2.isSome))]) (fun x=>[(2,⟨0,bstC (bstL p L xs gl x.1)⟩)]) (fun x=>(rstP L x.2).length) ([],some (List.replicate L.length 0)) ⟨by show _=[]++sfx L _;rw[List.nil_append,hz],fun pk h=>by cases h;exact yM4 L⟩ ?_ ?_
 ·exact Cut.fg (by simp (disch:=first|omega|simp (disch:=omega) only[aG,aM,aG37]) only[fZ,aM,aG37,yF6,bstL,List.foldl_nil,bstC,Option.isSome_none,Option.isSome_some,y0,z9,or_true,true_or])
 clear hz
 rintro⟨pre,o⟩ ⟨hpre,hpk⟩
 cases o with
 | none =>
  have hpre:allP L=pre:=by rw[hpre];exact List.append_nil _
  rw[hpre]
  cases hb:bstL p L xs gl pre with
  | none =>
   simp only[hb,bstC,Option.isSome_none,Option.isSome_some,yF7]
   simp (disch:=(try simp only[lZ]);omega) only[aZ,aM,aG37,zg9]
   exact y8 (zk5 _ _) ⟨rfl,rfl⟩
  | some q =>
   simp only[hb,bstC,Option.isSome_none,Option.isSome_some,yF7]
   simp (disch:=(try simp only[lZ]);omega) only[aZ,aM,aG37,zg9]
   exact y8 (r:=.tup [.agg [.fs true (ints q.1),.v (.int .i64 q.2)],.v (.int .i64 0)]) (Fz.refl (by simp [A.bd,A.bdL,zl4,retA])) ⟨rfl,rfl⟩
 | some pk =>
  have hpk:=hpk pk rfl
  have hpre:allP L=pre++sfx L pk:=hpre
  have hnx:=yL9 L pk hpk.1 (fun i=>by
   by_cases hi:i<L.length
   ·exact(hpk.2 i hi).1
   ·rw[List.getD_eq_getElem?_getD,List.getElem?_eq_none (by have:=hpk.1;omega)];simp)
  have hnp:=fun q hq=>y8S (q:=q) hpk hq
  have hap:=yM2 (u':=true) p L pk (by have:=hpk.1;omega)
  rw[y5G h1 h2 hpk]at hap
  have hva:=yL6 (u:=u1) (u':=u2) (X6 p L pk) xs gl hl9
  have hco:=y1m (u:=true) (u':=true) L pk (by omega) hcost hpk
  have hfo:=ya4 (u:=true) (u':=true) L pk (by omega) (fun l hl2=>by have:=hb4 l hl2;omega) hpk
  have hsp:=y5A (L:=L) (pk:=pk) (by omega) hcost hpk
  have hvb:=y6M (X6 p L pk) xs gl
  have hve:=y6N (xs:=xs) h2 hpk h5
  have hst:=yF1 p L xs gl pre pk
  have hsb:yF0 p L xs gl (bstL p L xs gl pre) pk=match zT7 p L xs gl pk with
   | none=>bstL p L xs gl pre
   | some v=>match bstL p L xs gl pre with
    | none=>some (pk,v)
    | some q=>if v>q.2 then some (pk,v)else bstL p L xs gl pre:=rfl
  rw[hsb,hve]at hst
  clear hsb hve
  have hrs:rstP L (some pk)=pk :: rstP L (nxk L pk):=by
   show sfx L pk=_
   rw[hnx]
   cases nxk L pk<;>rfl
  have hnew:allP L=(pre++[pk])++rstP L (nxk L pk)∧∀q,nxk L pk=some q→PkOk L q:=⟨by rw[hpre,show sfx L pk=pk :: rstP L (nxk L pk)from hrs];simp,hnp⟩
  have hms:(rstP L (nxk L pk)).length<(rstP L (some pk)).length:=by rw[hrs];simp
  clear hnx hnp hrs
  unfold yL8 at hap
  unfold zw1 at hva
  unfold folT at hfo
  simp only[hpap]at hap hva
  unfold plA plC at hap
  have fb:=y5H 0 (nxk L pk)
  have fc:=xb4 (nxk L pk)
  generalize nxk L pk=o' at *
  generalize valR (X6 p L pk) xs gl=V at *
  generalize ze0 p L pk=Q at *
  generalize spcS L pk=C at *
  show S.aw _ _ _ _ _ _
  simp only[yF6,Option.isSome_some]
  cases hb:bstL p L xs gl pre with
  | none =>
   rw[hb]at hst
   simp only[bstC,Option.isSome_none,Option.isSome_some]
   simp (disch:=(try simp only[lZ]);omega) only[aZ,aM,aG37]
   refine hap.same (by simp (disch:=first|omega|simp (disch:=omega) only[aG,aM,aG37]) only[fZ,aM,aG37]) (by simp (disch:=first|omega|simp (disch:=omega) only[aG,aM,aG37]) only[fZ,aM,aG37]) (z7 ?_)
   simp (disch:=(try simp only[lZ]);omega) only[aZ,aM,aG37]
   refine hva.same (by simp (disch:=first|omega|simp (disch:=omega) only[aG,aM,aG37]) only[fZ,aM,aG37]) (by simp (disch:=first|omega|simp (disch:=omega) only[aG,aM,aG37]) only[fZ,aM,aG37]) (z7 ?_)
   simp (disch:=(try simp only[lZ]);omega) only[aZ,aM,aG37]
   refine hco.same (by simp (disch:=first|omega|simp (disch:=omega) only[aG,aM,aG37]) only[fZ,aM,aG37]) rfl (z7 ?_)
   by_cases hv:V.2=0
   ·rw[if_pos hv]at hst
    simp only at hst
    simp (disch:=(try simp only[lZ]);omega) only[aZ,aM,aG37,hv]
    refine hfo.same (by simp (disch:=first|omega|simp (disch:=omega) only[aG,aM,aG37]) only[fZ,aM,aG37]) (by simp [A.cl,A.clL,A.bd,A.bdL,fb,fc]) (z7 ?_)
    simp (disch:=(try simp only[lZ]);omega) only[aZ,aM,aG37]
    refine⟨(pre++[pk],o'),hnew,hms,?_⟩
    simp only[hst,bstC,Option.isSome_none,Option.isSome_some]
    exact Cut.of' 3 rfl (by simp) (by simp (disch:=first|omega|simp (disch:=omega) only[aG,aM,aG37]) only[fZ,aM,aG37]) (by simp (disch:=first|omega|simp (disch:=omega) only[aG,aM,aG37]) only[fZ,aM,aG37,ya3])
   ·rw[if_neg hv]at hst
    simp only at hst
    simp (disch:=(try simp only[lZ]);omega) only[aZ,aM,aG37,decide_eq_false (show ¬V.2=0 from hv)]
    refine hfo.same (by simp (disch:=first|omega|simp (disch:=omega) only[aG,aM,aG37]) only[fZ,aM,aG37]) (by simp [A.cl,A.clL,A.bd,A.bdL,fb,fc]) (z7 ?_)
    simp (disch:=(try simp only[lZ]);omega) only[aZ,aM,aG37]
    refine⟨(pre++[pk],o'),hnew,hms,?_⟩
    simp only[hst,bstC,Option.isSome_none,Option.isSome_some]
    exact Cut.of' 3 rfl (by simp) (by simp (disch:=first|omega|simp (disch:=omega) only[aG,aM,aG37]) only[fZ,aM,aG37]) (by simp (disch:=first|omega|simp (disch:=omega) only[aG,aM,aG37]) only[fZ,aM,aG37,ya3])
  | some q =>
   rw[hb]at hst
   simp only[bstC,Option.isSome_none,Option.isSome_some]
   simp (disch:=(try simp only[lZ]);omega) only[aZ,aM,aG37]
   refine hap.same (by simp (disch:=first|omega|simp (disch:=omega) only[aG,aM,aG37]) only[fZ,aM,aG37]) (by simp (disch:=first|omega|simp (disch:=omega) only[aG,aM,aG37]) only[fZ,aM,aG37]) (z7 ?_)
   simp (disch:=(try simp only[lZ]);omega) only[aZ,aM,aG37]
   refine hva.same (by simp (disch:=first|omega|simp (disch:=omega) only[aG,aM,aG37]) only[fZ,aM,aG37]) (by simp (disch:=first|omega|simp (disch:=omega) only[aG,aM,aG37]) only[fZ,aM,aG37]) (z7 ?_)
   simp (disch:=(try simp only[lZ]);omega) only[aZ,aM,aG37]
   refine hco.same (by simp (disch:=first|omega|simp (disch:=omega) only[aG,aM,aG37]) only[fZ,aM,aG37]) rfl (z7 ?_)
   by_cases hv:V.2=0
   ·rw[if_pos hv]at hst
    simp only at hst
    by_cases hgt:V.1-C>q.2
    ·rw[if_pos hgt]at hst
     simp (disch:=(try simp only[lZ]);omega) only[aZ,aM,aG37,hv,decide_eq_true hgt]
     refine hfo.same (by simp (disch:=first|omega|simp (disch:=omega) only[aG,aM,aG37]) only[fZ,aM,aG37]) (by simp [A.cl,A.clL,A.bd,A.bdL,fb,fc]) (z7 ?_)
     simp (disch:=(try simp only[lZ]);omega) only[aZ,aM,aG37]
     refine⟨(pre++[pk],o'),hnew,hms,?_⟩
     simp only[hst,bstC,Option.isSome_none,Option.isSome_some]
     exact Cut.of' 3 rfl (by simp) (by simp (disch:=first|omega|simp (disch:=omega) only[aG,aM,aG37]) only[fZ,aM,aG37]) (by simp (disch:=first|omega|simp (disch:=omega) only[aG,aM,aG37]) only[fZ,aM,aG37,ya3])
    ·rw[if_neg hgt]at hst
     simp (disch:=(try simp only[lZ]);omega) only[aZ,aM,aG37,hv,decide_eq_false hgt]
     refine hfo.same (by simp (disch:=first|omega|simp (disch:=omega) only[aG,aM,aG37]) only[fZ,aM,aG37]) (by simp [A.cl,A.clL,A.bd,A.bdL,fb,fc]) (z7 ?_)
     simp (disch:=(try simp only[lZ]);omega) only[aZ,aM,aG37]
     refine⟨(pre++[pk],o'),hnew,hms,?_⟩
     simp only[hst,bstC,Option.isSome_none,Option.isSome_some]
     exact Cut.of' 3 rfl (by simp) (by simp (disch:=first|omega|simp (disch:=omega) only[aG,aM,aG37]) only[fZ,aM,aG37]) (by simp (disch:=first|omega|simp (disch:=omega) only[aG,aM,aG37]) only[fZ,aM,aG37,ya3])
   ·rw[if_neg hv]at hst
    simp only at hst
    simp (disch:=(try simp only[lZ]);omega) only[aZ,aM,aG37,decide_eq_false (show ¬V.2=0 from hv)]
    refine hfo.same (by simp (disch:=first|omega|simp (disch:=omega) only[aG,aM,aG37]) only[fZ,aM,aG37]) (by simp [A.cl,A.clL,A.bd,A.bdL,fb,fc]) (z7 ?_)
    simp (disch:=(try simp only[lZ]);omega) only[aZ,aM,aG37]
    refine⟨(pre++[pk],o'),hnew,hms,?_⟩
    simp only[hst,bstC,Option.isSome_none,Option.isSome_some]
    exact Cut.of' 3 rfl (by simp) (by simp (disch:=first|omega|simp (disch:=omega) only[aG,aM,aG37]) only[fZ,aM,aG37]) (by simp (disch:=first|omega|simp (disch:=omega) only[aG,aM,aG37]) only[fZ,aM,aG37,ya3])
end Go.Proofs.YtcppaddgclkekaaGreat
namespace Go.Proofs.YtcppaddgclkekaaGreat
open Go Go.Lft
set_option linter.unusedSimpArgs false
set_option linter.unusedVariables false
def ya5:Ty:=(.sl (.st [(.int .i64),(.int .i64),(.int .i64),(.int .i64)]))
theorem y6O{es:List A}(h:ya5.Sh true es):∃l:List Bt,ya5.pk es=.fs true (bts l):=by
 unfold ya5 at h ⊢
 simp only[Ty.Sh]at h
 obtain⟨M,rfl,hn,h⟩:=h
 obtain⟨bs,h2,_⟩:=z02 (w:=true) (.st [.int .i64,.int .i64,.int .i64,.int .i64]) btA (fun _=>True) (fun ce hce=>xt0 hce) M (fun ce hce=>by simp only[Ty.Sh,Ty.ShL];exact h ce hce)
 exact⟨bs,by show A.fs true _=_;rw[h2];rfl⟩
end Go.Proofs.YtcppaddgclkekaaGreat
