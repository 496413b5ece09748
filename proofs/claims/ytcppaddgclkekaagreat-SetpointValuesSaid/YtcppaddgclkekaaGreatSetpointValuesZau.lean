/- Lemmas and walks that the proof of SetpointValues uses. No statement is claimed here. -/
import Derived.Test.YtcppaddgclkekaaGreatSetpointValuesZat
namespace Go.Proofs.YtcppaddgclkekaaGreat
open Go Go.Lft
set_option linter.unusedSimpArgs false
set_option linter.unusedVariables false
attribute [local congr] Q5 Q6 Q7 Q9 Z7 Z8 za0 Z9 Y0 Y2 za1 Q8
def yG0(p:Pl)(L:List (List Og))(pk:List Int)(m:Nat):Mc:=if(L.getD m []).length=0 then p.ms.getD m []else((L.getD m []).getD (pk.getD m 0).toNat og0).r
def zB3(p:Pl)(L:List (List Og))(pk:List Int):List Mc:=(List.range p.ms.length).map (yG0 p L pk)
def zs3(p:Pl)(L:List (List Og))(pk:List Int):Pl:=⟨p.mat,zB3 p L pk,p.bs,p.fd⟩
theorem z4D(p:Pl)(L:List (List Og))(pk:List Int):(zB3 p L pk).length=p.ms.length:=by simp [zB3]
theorem y4v(p:Pl)(L:List (List Og))(pk:List Int)(m:Nat)(h:m<p.ms.length):(zB3 p L pk).getD m []=yG0 p L pk m:=by simp [zB3,List.getD_eq_getElem?_getD,h]
theorem z9r{p:Pl}{L:List (List Og)}(h:zs2 p L=0):L.length=p.ms.length∧∀m,m<p.ms.length→(L.getD m []).length≤4∧∀o∈L.getD m [],w6 o.r p.mt=0∧y4 o.r=y4 (p.ms.getD m [])∧0≤o.c∧o.c≤1000000000000:=by
 unfold zs2 at h
 split at h
 ·cases h
 rename_i hl
 refine⟨Classical.not_not.1 hl,fun m hm=>?_⟩
 have h1:=zg7 h m (List.mem_range.2 hm)
 unfold ogsE at h1
 split at h1
 ·cases h1
 refine⟨by omega,fun o ho=>?_⟩
 have h2:=zg7 h1 o ho
 unfold ogE at h2
 split at h2
 ·rename_i h3;exact absurd h2 h3
 split at h2
 ·cases h2
 split at h2
 ·cases h2
 omega
theorem y4w{p:Pl}{L:List (List Og)}(h:zs2 p L=0):yX0 L:=fun l hl o ho=>by
 obtain⟨h1,h2⟩:=z9r h
 obtain⟨m,hm,rfl⟩:=zQ8 [] hl
 exact((h2 m (by omega)).2 o ho).2.2
theorem y83{p:Pl}(ok:POk p){L:List (List Og)}(h:zs2 p L=0){pk:List Int}(hp:PkOk L pk){m:Nat}(hm:m<p.ms.length):(yG0 p L pk m).length≤16∧∀x∈yG0 p L pk m,x.length≤4:=by
 obtain⟨h1,h2⟩:=z9r h
 have hq:=hp.2 m (by omega)
 obtain⟨m1,m2,m3⟩:=ok.mt1
 unfold yG0
 split
 ·have hmo:=ok.mc _ (x3 [] hm)
  exact⟨by have:=hmo.len;have:=hmo.m2;omega,fun x hx=>(hmo.row x hx).2.1⟩
 ·have:=(h2 m hm).2 _ (x3 og0 (k:=(pk.getD m 0).toNat) (l:=L.getD m []) (by omega))
  have hmo:=zL5 this.1
  exact⟨by have:=hmo.len;omega,fun x hx=>(hmo.row x hx).2.1⟩
theorem z9s{w v u u':Bool}{p:Pl}(ok:POk p){L:List (List Og)}(h:zs2 p L=0){pk:List Int}(hp:PkOk L pk):VR P false zI9 [plA w v p,.fs u (ogL u L),.fs u' (ints pk)] [] (isR (plA true true (zs3 p L pk))):=by
 refine z3j (by simp) (.inr rfl) fun _ _=>?_
 obtain⟨h1,h2⟩:=z9r h
 have n2:=ok.n2
 have b2:=ok.b2
 have hpo:=fun m hm=>y83 ok h hp (m:=m) hm
 obtain⟨p1,p2⟩:=hp
 have hn:∀H,zx9 H 4 (.fs v (bts p.bs))=some (p.bs.length,p.bs.flatMap btC):=fun H=>by simp only[zx9,z7h,Option.bind_some,y3W,if_true,z8M]
 have hpl:=z4D p L pk
 have hpg:=y4v p L pk
 have epp:plA true true (zs3 p L pk)=.agg [.v (.int .i64 p.mat),.fs true (mcs true (zB3 p L pk)),.fs true (bts p.bs),.v (.int .i64 p.fd)]:=rfl
 rw[epp]
 unfold plA plC
 simp (disch:=(try simp only[lZ]);omega) only[aZ,aM,aG37,zo0,zJ1,hn]
 refine AWP.cut (Cut.virtB 2 0 1 1 rfl rfl) ?_
 refine AWP.loopP z2f (fun k:Nat=>k≤p.ms.length) (fun k=>[(6,.v (.int .i64 k))]) (fun k=>[(2,⟨0,[.v (.int .i64 p.mat),.vs 4 k 1 k,.sl 3 1 4 0 p.bs.length,.v (.int .i64 p.fd)]⟩),(4,⟨k,((zB3 p L pk).take k).map mxF⟩)]) (fun k=>p.ms.length-k) 0 (by omega) ?_ ?_
 ·rw[List.take_zero]
  exact Cut.fg (by simp (disch:=first|omega|simp (disch:=omega) only[aG,aM,aG37]) only[fZ,aM,aG37,y0,z9,or_true,true_or])
 rintro k hk
 have hkl:((zB3 p L pk).take k).length=k:=by rw[List.length_take];omega
 have hkm:(((zB3 p L pk).take k).map mxF).length=k:=by rw[List.length_map];exact hkl
 by_cases hkt:k<p.ms.length
 ·obtain⟨q1,q2⟩:=hpo k hkt
  have hk2:=Y8 (zB3 p L pk) k [] (by omega)
  rw[hpg k hkt]at hk2
  have q3:=p2 k (by omega)
  have hpm:yG0 p L pk k=if(L.getD k []).length=0 then p.ms.getD k []else((L.getD k []).getD (pk.getD k 0).toNat og0).r:=rfl
  generalize hlk:L.getD k []=l at *
  generalize hpk:pk.getD k 0=y at *
  generalize yG0 p L pk k=M at *
  have e2:((zB3 p L pk).take (k+1)).map mxF=((zB3 p L pk).take k).map mxF++[mxF M]:=by rw[hk2];simp
  have e3:List.take k (((zB3 p L pk).take k).map mxF)++[A.fs true (rows true M)]=((zB3 p L pk).take (k+1)).map mxF:=by rw[e2,List.take_of_length_le (by omega)];rfl
  by_cases h0:l.length=0
  ·rw[if_pos h0]at hpm
   rw[hpm]at q1 q2
   have hra:=yf0 (u:=w) (p.ms.getD k []) (by omega) (fun x hx=>by have:=q2 x hx;omega)
   simp (disch:=(try simp only[lZ]);omega) only[aZ,aM,aG37,hlk,decide_eq_false (show ¬(l.length:Int)>0 by omega)]
   refine hra.same (by simp (disch:=first|omega|simp (disch:=omega) only[aG,aM,aG37]) only[fZ,aM,aG37]) (by simp (disch:=first|omega|simp (disch:=omega) only[aG,aM,aG37]) only[fZ,aM,aG37]) (z7 ?_)
   simp (disch:=(try simp only[lZ]);omega) only[aZ,aM,aG37,hkm]
   refine⟨k+1,by omega,by omega,?_⟩
   rw[← hpm,e3]
   exact Cut.of' 5 rfl (by omega) ⟨rfl,by simp (disch:=first|omega|simp (disch:=omega) only[aG,aM,aG37]) only[fZ,aM,aG37],rfl,by simp (disch:=first|omega|simp (disch:=omega) only[aG,aM,aG37]) only[fZ,aM,aG37],rfl,by simp (disch:=first|omega|simp (disch:=omega) only[aG,aM,aG37]) only[fZ,aM,aG37],rfl,FzL.refl (yU9 _ _),rfl,FzL.refl (yy0 _ _),trivial⟩ (by simp (disch:=first|omega|simp (disch:=omega) only[aG,aM,aG37]) only[fZ,aM,aG37])
  ·rw[if_neg h0]at hpm
   have hra:=yf0 (u:=u) M (by omega) (fun x hx=>by have:=q2 x hx;omega)
   simp (disch:=(try simp only[lZ]);omega) only[aZ,aM,aG37,hlk,hpk,decide_eq_true (show(l.length:Int)>0 by omega)]
   rw[← hpm]
   try simp (disch:=(try simp only[lZ]);omega) only[aZ,aM,aG37]
   refine hra.same (by simp (disch:=first|omega|simp (disch:=omega) only[aG,aM,aG37]) only[fZ,aM,aG37]) (by simp (disch:=first|omega|simp (disch:=omega) only[aG,aM,aG37]) only[fZ,aM,aG37]) (z7 ?_)
   simp (disch:=(try simp only[lZ]);omega) only[aZ,aM,aG37,hkm]
   refine⟨k+1,by omega,by omega,?_⟩
   rw[e3]
   exact Cut.of' 5 rfl (by omega) ⟨rfl,by simp (disch:=first|omega|simp (disch:=omega) only[aG,aM,aG37]) only[fZ,aM,aG37],rfl,by simp (disch:=first|omega|simp (disch:=omega) only[aG,aM,aG37]) only[fZ,aM,aG37],rfl,by simp (disch:=first|omega|simp (disch:=omega) only[aG,aM,aG37]) only[fZ,aM,aG37],rfl,FzL.refl (yU9 _ _),rfl,FzL.refl (yy0 _ _),trivial⟩ (by simp (disch:=first|omega|simp (disch:=omega) only[aG,aM,aG37]) only[fZ,aM,aG37])
 have hke:k=p.ms.length:=by omega
 subst hke
 have hta:(zB3 p L pk).take p.ms.length=zB3 p L pk:=List.take_of_length_le (by omega)
 rw[hta]
 have hm1:((zB3 p L pk).map mxF).length=p.ms.length:=by rw[List.length_map];exact hpl
 simp (disch:=(try simp only[lZ]);omega) only[aZ,aM,aG37,z4Y]
 exact x1 (r:=.agg [.v (.int .i64 p.mat),.fs true (mcs true (zB3 p L pk)),.fs true (bts p.bs),.v (.int .i64 p.fd)]) (Fz.agg (l:=[.v (.int .i64 p.mat),.vs 4 p.ms.length 1 p.ms.length,.sl 3 1 4 0 p.bs.length,.v (.int .i64 p.fd)]) (r:=[.v (.int .i64 p.mat),.fs true (mcs true (zB3 p L pk)),.fs true (bts p.bs),.v (.int .i64 p.fd)]) ⟨Fz.refl rfl,Fz.vs (l:=(zB3 p L pk).map mxF) (r:=(zB3 p L pk).map mxF) (els:=mcs true (zB3 p L pk)) (by omega) (by simp (disch:=(try simp only[lZ]);omega) only[aZ,aM,aG37]) (FzL.refl (yy0 _ _)) (by rw[yV0,List.take_of_length_le (by omega)]) (by rw[yQ8,hpl]) (by omega),
  Fz.sl (r:=p.bs.flatMap btC) (els:=bts p.bs) (by omega) (by simp (disch:=(try simp only[lZ]);omega) only[aZ,aM,aG37]) (FzL.refl (yU9 _ _)) (by rw[z7h,List.drop_zero,List.take_of_length_le (by rw[yl6];omega)]) (z8M _) (by rw[yl6];omega),Fz.refl rfl,trivial⟩) ⟨rfl,rfl⟩
def pl0:Pl:=⟨0,[],[],0⟩
def pkB(L:List (List Og))(pk:List Int)(m:Nat):Prop:=pk.getD m 0<0∨max 1 ((L.getD m []).length:Int)≤pk.getD m 0
instance(L:List (List Og))(pk:List Int):DecidablePred (pkB L pk):=fun m=>by unfold pkB;infer_instance
def z5z(p:Pl)(L:List (List Og))(pk:List Int):Pl×Int :=
 if x0 p≠0 then(pl0,x0 p)else if zs2 p L≠0 then(pl0,zs2 p L)else if pk.length≠p.ms.length then(pl0,3)else if 0≤idxE (pkB L pk) (List.range pk.length)then(pl0,1)else(zs3 p L pk,0)
def y5B(x:Pl×Int):A:=.tup [plA true true x.1,.v (.int .i64 x.2)]
theorem xn4{L:List (List Og)}{pk:List Int}(hl:pk.length=L.length)(h:∀m,m<L.length→¬pkB L pk m):PkOk L pk:=⟨hl,fun m hm=>by
 have:=h m hm
 unfold pkB at this
 omega⟩
theorem z0C(H:List Blk)(e:Int):Fz 0 H (.tup [.agg [.v (.int .i64 0),.v (.slice none 0 0),.v (.slice none 0 0),.v (.int .i64 0)],.v (.int .i64 e)]) (y5B (pl0,e)) :=
 Fz.tup ⟨Fz.agg (l:=[.v (.int .i64 0),.v (.slice none 0 0),.v (.slice none 0 0),.v (.int .i64 0)]) (r:=[.v (.int .i64 0),.fs true [],.fs true [],.v (.int .i64 0)]) ⟨Fz.refl rfl,z5G _ _,z5G _ _,Fz.refl rfl,trivial⟩,Fz.refl rfl,trivial⟩
theorem y0h{w v u u':Bool}(p:Pl)(L:List (List Og))(pk:List Int)(hpk:pk.length≤1000000):VR P false zS7 [plA w v p,.fs u (ogL u L),.fs u' (ints pk)] [] (isR (y5B (z5z p L pk))):=by
 refine z4U (by simp) (.inr rfl) fun _ _=>?_
 have hck:=zq4 (w:=w) (v:=v) p
 unfold plA plC at *
 by_cases h1:x0 p=0
 case neg =>
  have e:z5z p L pk=(pl0,x0 p):=by unfold z5z;rw[if_pos h1]
  rw[e]
  simp (disch:=(try simp only[lZ]);omega) only[aZ,aM,aG37,zi6,zt0]
  refine hck.same (by simp (disch:=first|omega|simp (disch:=omega) only[aG,aM,aG37]) only[fZ,aM,aG37]) rfl (z7 ?_)
  simp (disch:=(try simp only[lZ]);omega) only[aZ,aM,aG37,decide_eq_true (show ¬x0 p=0 from h1),za3]
  exact x1 (z0C _ _) ⟨rfl,rfl⟩
 have ok:=y6 h1
 have n2:=ok.n2
 have hpo:=z4C (w:=w) (v:=v) (u:=u) ok L
 unfold plA plC at hpo
 simp (disch:=(try simp only[lZ]);omega) only[aZ,aM,aG37,zi6,zt0]
 refine hck.same (by simp (disch:=first|omega|simp (disch:=omega) only[aG,aM,aG37]) only[fZ,aM,aG37]) rfl (z7 ?_)
 simp (disch:=(try simp only[lZ]);omega) only[aZ,aM,aG37,h1]
 refine hpo.same (by simp (disch:=first|omega|simp (disch:=omega) only[aG,aM,aG37]) only[fZ,aM,aG37]) rfl (z7 ?_)
 by_cases h2:zs2 p L=0
 case neg =>
  have e:z5z p L pk=(pl0,zs2 p L):=by unfold z5z;rw[if_neg (fun h=>h h1),if_pos h2]
  rw[e]
  simp (disch:=(try simp only[lZ]);omega) only[aZ,aM,aG37,decide_eq_true (show ¬zs2 p L=0 from h2),za3]
  exact x1 (z0C _ _) ⟨rfl,rfl⟩
 by_cases h3:(pk.length:Int)≠p.ms.length
 ·have e:z5z p L pk=(pl0,3):=by unfold z5z;rw[if_neg (fun h=>h h1),if_neg (fun h=>h h2),if_pos (by omega)]
  rw[e]
  simp (disch:=(try simp only[lZ]);omega) only[aZ,aM,aG37,h2,decide_eq_true h3,za3]
  exact x1 (z0C _ _) ⟨rfl,rfl⟩
 have hl:L.length=p.ms.length:=(z9r h2).1
 simp (disch:=(try simp only[lZ]);omega) only[aZ,aM,aG37,h2,decide_eq_false h3]
 refine AWP.loopP z21 (fun k:Nat=>k≤pk.length∧∀m,m<k→¬pkB L pk m) (fun k=>[(4,.v (.int .i64 0)),(8,.v (.int .i64 k))]) (fun _=>[]) (fun k=>pk.length-k) 0 ⟨by omega,fun i hi=>absurd hi (by omega)⟩ ?_ ?_
 ·exact Cut.fg (by simp (disch:=first|omega|simp (disch:=omega) only[aG,aM,aG37]) only[fZ,aM,aG37,y0,z9,or_true,true_or])
 rintro k ⟨hk,hg⟩
 by_cases hkt:k<pk.length
 ·have hgd:pkB L pk k↔(pk.getD k 0<0∨max 1 ((L.getD k []).length:Int)≤pk.getD k 0):=Iff.rfl
  have hit:pkB L pk k→z5z p L pk=(pl0,1):=fun h=>by
   have:=zQ7 (p:=pkB L pk) 0 (l:=List.range pk.length) (k:=k) (by simpa using hkt) (fun i hi=>by rw[zp4 (by omega)];exact hg i hi) (by rw[zp4 hkt];exact h)
   unfold z5z
   rw[if_neg (fun h=>h h1),if_neg (fun h=>h h2),if_neg (by omega),if_pos (by omega)]
  have hgn:¬pkB L pk k→∀m,m<k+1→¬pkB L pk m:=fun h m hm=>by
   by_cases e:m=k
   ·subst e;exact h
   ·exact hg m (by omega)
  generalize hlk:L.getD k []=l at *
  generalize hyk:pk.getD k 0=y at *
  by_cases c1:y<0
  ·rw[hit (hgd.2 (.inl c1))]
   simp (disch:=(try simp only[lZ]);omega) only[aZ,aM,aG37,hlk,hyk,decide_eq_true c1,za3]
   exact x1 (z0C _ _) ⟨rfl,rfl⟩
  by_cases c2:y≥max 1 (l.length:Int)
  ·rw[hit (hgd.2 (.inr c2))]
   simp (disch:=(try simp only[lZ]);omega) only[aZ,aM,aG37,hlk,hyk,decide_eq_false c1,decide_eq_true c2,za3]
   exact x1 (z0C _ _) ⟨rfl,rfl⟩
  ·simp (disch:=(try simp only[lZ]);omega) only[aZ,aM,aG37,hlk,hyk,decide_eq_false c1,decide_eq_false c2]
   refine⟨k+1,⟨by omega,hgn (fun h=>by rcases hgd.1 h with h|h<;>omega)⟩,by omega,?_⟩
   exact Cut.fg (by simp (disch:=first|omega|simp (disch:=omega) only[aG,aM,aG37]) only[fZ,aM,aG37,y0,z9,or_true,true_or])
 have hke:k=pk.length:=by omega
 subst hke
 have hpo2:PkOk L pk:=xn4 (by omega) fun m hm=>hg m (by omega)
 have hpi:=z9s (w:=w) (v:=v) (u:=u) (u':=u') ok h2 hpo2
 have e:z5z p L pk=(zs3 p L pk,0):=by
  unfold z5z
  rw[if_neg (fun h=>h h1),if_neg (fun h=>h h2),if_neg (by omega),if_neg]
  have:=zz8 (p:=pkB L pk) 0 (l:=List.range pk.length) fun i hi=>by
   have hi':i<pk.length:=by simpa using hi
   rw[zp4 hi'];exact hg i hi'
  omega
 rw[e]
 unfold y5B
 unfold plA plC at hpi ⊢
 simp (disch:=(try simp only[lZ]);omega) only[aZ,aM,aG37]
 refine hpi.same (by simp (disch:=first|omega|simp (disch:=omega) only[aG,aM,aG37]) only[fZ,aM,aG37]) (by simp (disch:=first|omega|simp (disch:=omega) only[aG,aM,aG37]) only[fZ,aM,aG37]) (z7 ?_)
 simp (disch:=(try simp only[lZ]);omega) only[aZ,aM,aG37,za3]
 exact x1 (Fz.refl (by simp (disch:=first|omega|simp (disch:=omega) only[aG,aM,aG37]) only[fZ,aM,aG37])) ⟨rfl,rfl⟩
def blkP(T:List (List Int))(y:Int):Nat→List (List Int)
 | 0=>[]
 | n+1=>T.map (y :: ·)++blkP T (y+1) n
def allP:List (List Og)→List (List Int)
 | []=>[[]]
 | l :: L=>blkP (allP L) 0 (max 1 l.length)
def sfx:List (List Og)→List Int→List (List Int)
 | l :: L,x :: pk=>(sfx L pk).map (x :: ·)++blkP (allP L) (x+1) (max 1 l.length-1-x.toNat)
 | _,_=>[[]]
def nxk:List (List Og)→List Int→Option (List Int)
 | l :: L,x :: pk=>match nxk L pk with
  | some q=>some (x :: q)
  | none=>if x+1<l.length then some ((x+1) :: List.replicate pk.length 0)else none
 | _,_=>none
theorem y5C (l : List Og) (L : List (List Og)) (x : Int) (pk : List Int) : nxk (l :: L) (x :: pk) = match nxk L pk with
    | some q=>some (x :: q)
    | none=>if x+1<l.length then some ((x+1) :: List.replicate pk.length 0)else none:=rfl
theorem yn1:∀(L:List (List Og)),sfx L (List.replicate L.length 0)=allP L
 | []=>rfl
 | l :: L=>by
  show(sfx L (List.replicate L.length 0)).map ((0:Int) :: ·)++blkP (allP L) (0+1) (max 1 l.length-1-(0:Int).toNat)=blkP (allP L) 0 (max 1 l.length)
  rw[yn1 L,show max 1 l.length=(max 1 l.length-1-(0:Int).toNat)+1 by simp;omega]
  rfl
theorem y4x:∀(L:List (List Og)) (pk:List Int),pk.length=L.length→(∀i,0≤pk.getD i 0)→sfx L pk=pk :: (match nxk L pk with|some q=>sfx L q|none=>[])
 | [],[],_,_=>rfl
 | [],_ :: _,h,_=>by simp at h
 | _ :: _,[],h,_=>by simp at h
 | l :: L,x :: pk,h,h0=>by
  have hl:pk.length=L.length:=by simpa using h
  have hx:0≤x:=by have:=h0 0;simpa using this
  have ih:=y4x L pk hl (fun i=>by have:=h0 (i+1);simpa using this)
  show(sfx L pk).map (x :: ·)++blkP (allP L) (x+1) (max 1 l.length-1-x.toNat)=_
  rw[ih,y5C]
  cases hn:nxk L pk with
  | some q=>rfl
  | none =>
   simp only[List.map_cons,List.map_nil,List.cons_append,List.nil_append]
   congr 1
   by_cases hc:x+1<l.length
   ·rw[if_pos hc]
    show _=(sfx L (List.replicate pk.length 0)).map ((x+1) :: ·)++blkP (allP L) (x+1+1) (max 1 l.length-1-(x+1).toNat)
    rw[hl,yn1,show max 1 l.length-1-x.toNat=(max 1 l.length-1-(x+1).toNat)+1 by omega]
    rfl
   ·rw[if_neg hc,show max 1 l.length-1-x.toNat=0 by omega]
    rfl
def zr(pk:List Int)(k:Nat):List Int:=pk.take k++List.replicate (pk.length-k) 0
theorem y4y(pk:List Int)(k:Nat):(zr pk k).length=pk.length:=by simp [zr];omega
theorem xn5(pk:List Int):zr pk pk.length=pk:=by simp [zr]
theorem y7C(pk:List Int)(k i:Nat)(h:i<k):(zr pk k).getD i 0=pk.getD i 0:=by
 unfold zr
 by_cases hi:i<pk.length
 ·rw[List.getD_eq_getElem?_getD,List.getElem?_append_left (by simp;omega),List.getElem?_take,if_pos h,← List.getD_eq_getElem?_getD]
 ·rw[List.getD_eq_getElem?_getD,List.getD_eq_getElem?_getD,List.getElem?_eq_none (l:=pk) (by omega),List.getElem?_append_right (by simp;omega),List.getElem?_eq_none (by simp;omega)]
theorem xn6(pk:List Int)(k:Nat)(h:k<pk.length):(zr pk (k+1)).set k 0=zr pk k:=by
 unfold zr
 rw[Y8 pk k 0 h,List.append_assoc,List.set_append_right _ _ (by simp;omega),show k-(pk.take k).length=0 by simp;omega,show pk.length-k=(pk.length-(k+1))+1 by omega,List.replicate_succ]
 rfl
theorem y4z(x:Int)(pk:List Int)(k:Nat):zr (x :: pk) (k+1)=x :: zr pk k:=by simp [zr]
theorem yn2:∀(L:List (List Og)) (pk:List Int),pk.length=L.length→(∀i,i<L.length→((L.getD i []).length:Int)≤pk.getD i 0+1)→nxk L pk=none
 | [],[],_,_=>rfl
 | [],_ :: _,h,_=>by simp at h
 | _ :: _,[],h,_=>by simp at h
 | l :: L,x :: pk,h,h0=>by
  have hl:pk.length=L.length:=by simpa using h
  have ih:=yn2 L pk hl fun i hi=>by have:=h0 (i+1) (by simpa using hi);simpa using this
  have h1:=h0 0 (by simp)
  simp only[List.getD_cons_zero]at h1
  unfold nxk
  rw[ih]
  simp only
  rw[if_neg (by omega)]
theorem yX1:∀(L:List (List Og)) (pk:List Int) (m:Nat),pk.length=L.length→m<L.length→(∀i,m<i→i<L.length→((L.getD i []).length:Int)≤pk.getD i 0+1)→pk.getD m 0+1<((L.getD m []).length:Int)→nxk L pk=some ((zr pk (m+1)).set m (pk.getD m 0+1))
 | [],_,_,_,h,_,_=>by simp at h
 | _ :: _,[],_,h,_,_,_=>by simp at h
 | l :: L,x :: pk,0,h,_,h0,h1=>by
  have hl:pk.length=L.length:=by simpa using h
  have ih:=yn2 L pk hl fun i hi=>by have:=h0 (i+1) (by omega) (by simpa using hi);simpa using this
  simp only[List.getD_cons_zero]at h1 ⊢
  unfold nxk
  rw[ih]
  simp only
  rw[if_pos h1,y4z]
  simp [zr]
 | l :: L,x :: pk,m+1,h,hm,h0,h1=>by
  have hl:pk.length=L.length:=by simpa using h
  have ih:=yX1 L pk m hl (by simpa using hm) (fun i hi h2=>by have:=h0 (i+1) (by omega) (by simpa using h2);simpa using this) (by simpa using h1)
  unfold nxk
  rw[ih,y4z]
  simp
theorem yz2{u:Bool}(L:List (List Og)):VR P false zC9 [.fs u (ogL u L)] [] (isR (.fn zb4 [.fp true [.fs u (ogL u L)]])):=by
 refine z2e (by simp) (.inr rfl) fun _ _=>?_
 simp (disch:=(try simp only[lZ]);omega) only[aZ,aM,aG37,zk4,zD1,z3i]
 exact x1 (r:=.fn zb4 [.fp true [.fs u (ogL u L)]]) (Fz.fn (l:=[.lp 0 0 0]) (r:=[.fp true [.fs u (ogL u L)]]) ⟨Fz.lp (l:=[.fs u (ogL u L)]) (r:=[.fs u (ogL u L)]) (by omega) (by simp (disch:=(try simp only[lZ]);omega) only[aZ,aM,aG37]) (FzL.refl (by simp (disch:=first|omega|simp (disch:=omega) only[aG,aM,aG37]) only[fZ,aM,aG37])) (by simp),trivial⟩) ⟨rfl,rfl⟩
theorem Cut.appK{n0:Nat}{e e':List A}{H:List Blk}(P T:List Blk)(hn:n0≤(H++P).length)(hb:okB (H++P).length (H++P))(he:FzL (H++P).length (H++(P++T)) e e'):Cut n0 e (H++(P++T)) e' (H++P):=by
 rw[← List.append_assoc]at he ⊢
 exact Cut.app hn hb he
theorem yz3 {u : Bool} {L : List (List Og)} (hL : L.length ≤ 1000) (h4 : ∀ l ∈ L, l.length ≤ 1000) {c1 : Cfg} {l n : Nat} {Km : List (List Int) → List Blk} (hn : ∀ pre, (Km pre).length = n) (hb : ∀ pre m, n ≤ m → okB m (Km pre)) (hH : c1.H = Km []) (hs : St c1)
    (hY:∀pre pk,allP L=pre++sfx L pk→PkOk L pk→YR P n c1 l [.fs true (ints pk)] (Km pre++[⟨0,ints pk⟩]) (fun r H'=>r=.v (.bool true)∧H'=Km (pre++[pk])++[⟨0,ints pk⟩])) :
    IterR P zb4 c1 l [.fp true [.fs u (ogL u L)]] (fun H3=>H3=Km (allP L)):=by
  refine IterR.of (F:=zv5) (V:=zv6) (nt:=45) (fun hl _ _ hs=>y7T (nk:=false) z7F Tryz.func77 (by kernel_rfl) (by rw[Tryz.ntmps77];exact hl) hs) hs hH (by simp) ?_
  rw[hn []]
  show AWJ P n c1 zb5 _ _ _
  have hk0:=hn []
  refine AWJ.chain 2 (aw_sound ?_)
  conv=>arg 3;simp only[zb5,S.pre]
  simp (disch:=(try simp only[lZ]);omega) only[aZ,aM,aG37,zv6]
  rw[hk0]
  conv=>arg 4;simp only[zb5,S.post]
  have hz:=yn1 L
  have hpz:PkOk L (List.replicate L.length 0):=⟨by simp,fun m hm=>by
    have e:(List.replicate L.length (0:Int)).getD m 0=0:=by simp [List.getD_eq_getElem?_getD,hm]
    rw[e]
    by_cases h:(L.getD m []).length=0
    · exact⟨by omega,.inr ⟨h,rfl⟩⟩
    · exact⟨by omega,.inl (by omega)⟩⟩
  refine AWJ.blk (AWJ.loop (fun x:List (List Int)×List Int=>allP L=x.1++sfx L x.2∧PkOk L x.2) (fun _=>[.v (yv l),.fp true [.fs u (ogL u L)],.sl n 0 1 0 L.length,.any,.any,.any,.any,.any]) (fun x=>Km x.1++[⟨0,ints x.2⟩]) (fun x=>(sfx L x.2).length) ([],List.replicate L.length 0) ⟨by rw[List.nil_append,hz],hpz⟩ (Cut.fg (by simp (disch:=first|omega|simp (disch:=omega) only[aG,aM,aG37]) only[fZ,aM,aG37,y0,z9,or_true,true_or])) ?_)
  clear hz hpz hk0 hH
  rintro⟨pre,pk⟩ ⟨hpre,hpk⟩
  simp only at hpre hpk
  have hround:=hY pre pk hpre hpk
  have hnx:=y4x L pk hpk.1 (fun i=>by
    by_cases hi:i<L.length
    · exact(hpk.2 i hi).1
    · rw[List.getD_eq_getElem?_getD,List.getElem?_eq_none (by have:=hpk.1;omega)];simp)
  have hk:=hn pre
  have hpl:=hpk.1
  refine AWJ.blk (AWJ.chain 2 (aw_sound ?_))
  conv=>arg 3;simp only[S.pre]
  have aP:∀(T:List Blk),blkAt (Km pre++(⟨0,ints pk⟩ :: T)) n 0=some (ints pk):=fun T=>by rw[← hk];exact x5 _ _ _
  simp (disch:=(try simp only[lZ]);omega) only[aZ,aM,aG37,aP]
  conv=>arg 4;simp only[S.post]
  have okK:okB (Km pre++[(⟨0,ints pk⟩:Blk)]).length (Km pre++[(⟨0,ints pk⟩:Blk)]):=by
    rw[List.length_append,hk]
    exact(hb pre _ (by omega)).app fun B hB=>by rw[List.mem_singleton.1 hB];exact zn6 _ _
  refine AWJ.cut (e':=[.v (yv l),.fp true [.fs u (ogL u L)],.sl n 0 1 0 L.length,.any,.any,.any,.fs true (ints pk),.any]) (H':=Km pre++[⟨0,ints pk⟩]) (Cut.appK [⟨0,ints pk⟩] [⟨1,ints pk⟩] (by rw[List.length_append];omega) okK ?_) ?_
  · have hlen:(Km pre++[(⟨0,ints pk⟩:Blk)]).length=n+1:=by rw[List.length_append,hk];rfl
    rw[hlen]
    refine⟨Fz.refl rfl,Fz.refl (by simp (disch:=first|omega|simp (disch:=omega) only[aG,aM,aG37]) only[fZ,aM,aG37]),Fz.refl (by simp [A.bd]),Fz.any,Fz.any,Fz.any,?_,Fz.any,trivial⟩
    exact zR9 _ _ _ _ _ pk (by omega) hpl.symm (by rw[zf5];rfl)
  refine AWJ.yield rfl rfl (hround.mono ?_)
  rintro r H' ⟨rfl,rfl⟩
  have hk2:=hn (pre++[pk])
  have okK2:=hb (pre++[pk])
  generalize hKK:Km (pre++[pk])=K at *
  have okP:∀j,okB (K++[(⟨0,ints (zr pk j)⟩:Blk)]).length (K++[(⟨0,ints (zr pk j)⟩:Blk)]):=fun j=>by
    rw[List.length_append,hk2]
    exact(okK2 _ (by omega)).app fun B hB=>by rw[List.mem_singleton.1 hB];exact zn6 _ _
  refine AWJ.of (z7 ?_)
  simp (disch:=(try simp only[lZ]);omega) only[aZ,aM,aG37]
  refine AWP.loopM zW1 (fun j:Nat=>j≤L.length∧∀i,j≤i→i<L.length→((L.getD i []).length:Int)≤pk.getD i 0+1) (fun j=>[(3,.v (.int .i64 ((j:Int)-1)))]) (fun j=>K++[⟨0,ints (zr pk j)⟩]) (fun j=>j) L.length ⟨by omega,fun i h1 h2=>absurd h1 (by omega)⟩ ?_ ?_
  · rw[← hpl,xn5]
    exact Cut.fg (by simp (disch:=first|omega|simp (disch:=omega) only[aG,aM,aG37]) only[fZ,aM,aG37,y0,z9,or_true,true_or])
  rintro j ⟨hj,hg⟩
  have zl:=y4y pk j
  have zA:∀(T:List Blk),blkAt (K++(⟨0,ints (zr pk j)⟩ :: T)) n 0=some (ints (zr pk j)):=fun T=>by rw[← hk2];exact x5 _ _ _
  have sK:∀(B C:Blk),(K++[B]).set n C=K++[C]:=fun B C=>by rw[← hk2,List.set_append_right _ _ (Nat.le_refl _),Nat.sub_self];rfl
  cases j with
  | zero =>
    have hno:=yn2 L pk hpl (fun i hi=>hg i (by omega) hi)
    rw[hno]at hnx
    have hall:allP L=pre++[pk]:=by rw[hpre,hnx]
    simp (disch:=(try simp only[lZ]);omega) only[aZ,aM,aG37,zA,z03]
    rw[hall,hKK]
    exact xs2 (r:=.any) (by rw[hk2];exact Nat.le_refl _) (okK2 _ (by omega)) Fz.any rfl
  | succ m =>
    have hm:m<L.length:=by omega
    have e1:(((m+1:Nat):Int)-1)=(m:Int):=by omega
    have q2:=hpk.2 m hm
    have hlm:=h4 _ (x3 [] hm)
    have zg:=y7C pk (m+1) m (by omega)
    have zs:=xn6 pk m (by omega)
    by_cases hge:pk.getD m 0+1≥((L.getD m []).length:Int)
    · simp (disch:=(try simp only[lZ]);omega) only[aZ,aM,aG37,e1,zA,zg,zs,decide_eq_true hge]
      rw[sK]
      refine⟨m,⟨by omega,fun i h1 h2=>?_⟩,by omega,?_⟩
      · by_cases e:i=m
        · subst e;exact hge
        · exact hg i (by omega) h2
      · exact Cut.fg (by simp (disch:=first|omega|simp (disch:=omega) only[aG,aM,aG37]) only[fZ,aM,aG37,y0,z9,or_true,true_or])
    · have hsome:=yX1 L pk m hpl hm (fun i h1 h2=>hg i (by omega) h2) (by omega)
      simp (disch:=(try simp only[lZ]);omega) only[aZ,aM,aG37,e1,zA,zg,decide_eq_false hge]
      rw[sK,← hKK]
      rw[hsome]at hnx
      simp only at hnx
      generalize hq:(zr pk (m+1)).set m (pk.getD m 0+1)=q at *
      have hql:q.length=L.length:=by rw[← hq,List.length_set,y4y];exact hpl
      refine⟨(pre++[pk],q),⟨by rw[hpre,hnx];simp,hql,fun i hi=>?_⟩,by rw[hnx];simp,?_⟩
      · have hqi : q.getD i 0 = if i = m then pk.getD m 0 + 1 else if i < m then pk.getD i 0 else 0 := by
          rw[← hq,List.getD_eq_getElem?_getD]
          by_cases e:i=m
          · subst e
            rw[List.getElem?_set_self (by rw[y4y];omega),if_pos rfl];rfl
          · rw[List.getElem?_set_ne (fun h=>e h.symm),← List.getD_eq_getElem?_getD,if_neg e]
            by_cases h2:i<m
            · rw[if_pos h2,y7C _ _ _ (by omega)]
            · rw[if_neg h2]
              unfold zr
              rw[List.getD_eq_getElem?_getD,List.getElem?_append_right (by simp;omega),List.getElem?_replicate]
              split<;>rfl
        have q3:=hpk.2 i hi
        rw[hqi]
        by_cases e:i=m
        · subst e;rw[if_pos rfl];omega
        · rw[if_neg e]
          by_cases h2:i<m
          · rw[if_pos h2];exact q3
          · rw[if_neg h2]
            by_cases h0:(L.getD i []).length=0
            · exact⟨by omega,.inr ⟨h0,rfl⟩⟩
            · exact⟨by omega,.inl (by omega)⟩
      · exact Cut.fg (by simp (disch:=first|omega|simp (disch:=omega) only[aG,aM,aG37]) only[fZ,aM,aG37,y0,z9,or_true,true_or])
def yn3(p:Pl)(L:List (List Og))(xs:List Int)(gl:List Bt)(pk:List Int):Option Int :=
 if(yldR (zs3 p L pk) xs).2=0 then some (wrtS (yldL (zs3 p L pk) xs) gl-spcS L pk)else none
def y4A(p:Pl)(L:List (List Og))(xs:List Int)(gl:List Bt)(b:Option (List Int×Int))(pk:List Int):Option (List Int×Int) :=
 match yn3 p L xs gl pk with
 | none=>b
 | some v=>match b with
  | none=>some (pk,v)
  | some q=>if v>q.2 then some (pk,v)else b
def bstL(p:Pl)(L:List (List Og))(xs:List Int)(gl:List Bt)(l:List (List Int)):Option (List Int×Int):=l.foldl (y4A p L xs gl) none
def bstO:Option (List Int×Int)→(List Int×Int)×Int
 | none=>(([],0),40)
 | some q=>(q,0)
noncomputable def z0D(p:Pl)(L:List (List Og))(xs:List Int)(gl:List Bt):(List Int×Int)×Int :=
 if x0 p≠0 then(([],0),x0 p)else if zs2 p L≠0 then(([],0),zs2 p L)else if 256<prd L then(([],0),8)else if fedE p xs≠0 then(([],0),fedE p xs)else if zj8 p gl≠0 then(([],0),zj8 p gl)else
 bstO (bstL p L xs gl (allP L))
def y84(x:(List Int×Int)×Int):A:=.tup [.agg [.fs true (ints x.1.1),.v (.int .i64 x.1.2)],.v (.int .i64 x.2)]
def bstC:Option (List Int×Int)→List A
 | none=>[.v (.slice none 0 0),.v (.int .i64 0)]
 | some q=>[.fs true (ints q.1),.v (.int .i64 q.2)]
theorem y4B(p:Pl)(L:List (List Og))(xs:List Int)(gl:List Bt)(l:List (List Int))(pk:List Int):bstL p L xs gl (l++[pk])=y4A p L xs gl (bstL p L xs gl l) pk:=by
 unfold bstL;rw[List.foldl_append];rfl
theorem y85{Y:List (List Int)}{l:List Bt}(hl:l.length≤24)(hg:∀g∈l,yy9 Y g):-412316860416000000≤wrtS Y l∧wrtS Y l≤412316860416000000:=by
 have h:=zI1 (wrtL Y l) (-17179869184000000) 17179869184000000 (wrtL Y l).length (Nat.le_refl _) fun i hi=>by
  rw[z7l]at hi
  rw[z4A _ _ _ hi]
  have:=yz0 (hg _ (x3 b0 hi))
  omega
 rw[ze8,z7l]at h
 unfold wrtS
 omega
theorem y86{L:List (List Og)}{pk:List Int}(hl:L.length≤24)(hc:yX0 L)(hp:PkOk L pk):0≤spcS L pk∧spcS L pk≤24000000000000:=by
 have h:=zI1 (spcL L pk) 0 1000000000000 (spcL L pk).length (Nat.le_refl _) fun i hi=>by
  rw[ym9]at hi
  rw[yn0 _ _ _ hi]
  exact y4u hc hp hi
 rw[ze8,ym9]at h
 unfold spcS
 omega
theorem y0i{p:Pl}{L:List (List Og)}{pk xs:List Int}(hc:chkP (zs3 p L pk)=0)(hf:fedE (zs3 p L pk) xs=0){l:List Bt}(hw:zj8 p l=0):l.length≤24∧∀g∈l,yy9 (yldL (zs3 p L pk) xs) g:=by
 have ok:=y6 (zc2 hc).1
 have hml:(zs3 p L pk).ms.length=p.ms.length:=z4D p L pk
 have hl:¬24<l.length:=fun h=>by unfold zj8 at hw;rw[if_pos h]at hw;cases hw
 refine⟨by omega,fun g hg=>?_⟩
 have hb:¬badG p g:=by
  unfold zj8 at hw
  rw[if_neg hl]at hw
  split at hw
  ·rename_i h
   exact absurd hw (z2w b0 h)
  ·rename_i h
   exact z4j (by omega) g hg
 obtain⟨q1,q2,q3,q4,q5,q6,q7,q8,q9⟩:=yF3 hb
 refine⟨q1,by rw[z4B];omega,q6,q7,?_⟩
 rw[yW5 _ _ _ (by omega)]
 exact yD9 ok.mt1.2.1 (y4k hc hf (by omega))
def bKm(w v u u1 u2:Bool)(p:Pl)(L:List (List Og))(xs:List Int)(gl:List Bt)(b:Option (List Int×Int)):List Blk :=
 [⟨0,plC w v p⟩,⟨0,[.fs u (ogL u L)]⟩,⟨0,[.fs u1 (ints xs)]⟩,⟨0,[.fs u2 (bts gl)]⟩,⟨0,[.v (.slice none 0 0),.v (.int .i64 0)]⟩,⟨0,bstC b⟩,⟨0,[.v (.bool b.isSome)]⟩]
theorem y87(n:Nat)(b:Option (List Int×Int)):A.bdL n (bstC b)=true:=by cases b<;>simp [bstC,A.bdL,A.bd,zn6]
theorem xn7{w v u u1 u2:Bool}{p:Pl}{L:List (List Og)}{xs:List Int}{gl:List Bt}{b:Option (List Int×Int)}(m:Nat):okB m (bKm w v u u1 u2 p L xs gl b):=fun B hB=>by
 simp only[bKm,List.mem_cons,List.not_mem_nil,or_false]at hB
 rcases hB with rfl|rfl|rfl|rfl|rfl|rfl|rfl
 ·exact yQ9 _ _ _ _
 ·simp [A.bdL,A.bd,yW7]
 ·simp [A.bdL,A.bd,zn6]
 ·simp [A.bdL,A.bd,yZ0]
 ·rfl
 ·exact y87 _ _
 ·rfl
theorem yz4{P:Program}{n0:Nat}{sa b c:S}{g:X}{k:Nat}{r:List X}{R:A→List Blk→Prop}{e:List A}{H:List Blk}:xi6 P n0 sa b c g k r R .ret e H=z9u n0 ⟨.nxt,r⟩ R .ret e H:=rfl
theorem z2C(s:S)(r:List X):Fun.res ⟨s,r⟩=r:=rfl
theorem z0W(H:List Blk)(e:Int):Fz 0 H (.tup [.agg [.v (.slice none 0 0),.v (.int .i64 0)],.v (.int .i64 e)]) (y84 (([],0),e)) :=
 Fz.tup ⟨Fz.agg (l:=[.v (.slice none 0 0),.v (.int .i64 0)]) (r:=[.fs true [],.v (.int .i64 0)]) ⟨z5G _ _,Fz.refl rfl,trivial⟩,Fz.refl rfl,trivial⟩
set_option maxHeartbeats 4000000 in
theorem yz5{w v u1 u2:Bool}(p:Pl)(L:List (List Og))(xs:List Int)(gl:List Bt):VR P false z0v [plA w v p,.fs true (ogL true L),.fs u1 (ints xs),.fs u2 (bts gl)] [] (isR (y84 (z0D p L xs gl))):=by
 refine z62 (by simp) (.inr rfl) ?_
 have hck:=zq4 (w:=w) (v:=v) p
 unfold plA at *
 refine aw_sound ?_
 by_cases h1:x0 p=0
 case neg =>
  have e:z0D p L xs gl=(([],0),x0 p):=by unfold z0D;rw[if_pos h1]
  rw[e]
  unfold plC at *
  simp (disch:=(try simp only[lZ]);omega) only[aZ,aM,aG37,W9,Q3]
  refine hck.same (by simp (disch:=first|omega|simp (disch:=omega) only[aG,aM,aG37]) only[fZ,aM,aG37]) rfl (z7 ?_)
  simp (disch:=(try simp only[lZ]);omega) only[aZ,aM,aG37,decide_eq_true (show ¬x0 p=0 from h1)]
  rw[yz4]
  simp (disch:=(try simp only[lZ]);omega) only[aZ,aM,aG37,z2C]
  exact x1 (z0W _ _) ⟨rfl,rfl⟩
 have ok:=y6 h1
 obtain⟨m1,m2,m3⟩:=ok.mt1
 have n2:=ok.n2
 have hpo:=z4C (w:=w) (v:=v) (u:=true) ok L
 have hfd:=yW3 (w:=w) (v:=v) (u:=u1) ok xs
 have hwa:=z9o (w:=w) (v:=v) (u:=u2) ok gl
 have hch:=yz2 (u:=true) L
 unfold plA plC at *
 by_cases h2:zs2 p L=0
 case neg =>
  have e:z0D p L xs gl=(([],0),zs2 p L):=by unfold z0D;rw[if_neg (fun h=>h h1),if_pos h2]
  rw[e]
  simp (disch:=(try simp only[lZ]);omega) only[aZ,aM,aG37,W9,Q3]
  refine hck.same (by simp (disch:=first|omega|simp (disch:=omega) only[aG,aM,aG37]) only[fZ,aM,aG37]) rfl (z7 ?_)
  simp (disch:=(try simp only[lZ]);omega) only[aZ,aM,aG37,h1]
  refine hpo.same (by simp (disch:=first|omega|simp (disch:=omega) only[aG,aM,aG37]) only[fZ,aM,aG37]) rfl (z7 ?_)
  simp (disch:=(try simp only[lZ]);omega) only[aZ,aM,aG37,decide_eq_true (show ¬zs2 p L=0 from h2)]
  rw[yz4]
  simp (disch:=(try simp only[lZ]);omega) only[aZ,aM,aG37,z2C]
  exact x1 (z0W _ _) ⟨rfl,rfl⟩
 obtain⟨hl,hlm⟩:=z9r h2
 have hb4:∀l∈L,l.length≤4:=fun l hl2=>by
  obtain⟨m,hm,rfl⟩:=zQ8 [] hl2
  exact(hlm m (by omega)).1
 have hmy:=y4t (u:=true) L (by omega) (fun l hl2=>by have:=hb4 l hl2;omega)
 by_cases h3:256<prd L
 ·have e:z0D p L xs gl=(([],0),8):=by unfold z0D;rw[if_neg (fun h=>h h1),if_neg (fun h=>h h2),if_pos h3]
  rw[e]
  rw[decide_eq_true h3]at hmy
  simp (disch:=(try simp only[lZ]);omega) only[aZ,aM,aG37,W9,Q3]
  refine hck.same (by simp (disch:=first|omega|simp (disch:=omega) only[aG,aM,aG37]) only[fZ,aM,aG37]) rfl (z7 ?_)
  simp (disch:=(try simp only[lZ]);omega) only[aZ,aM,aG37,h1]
  refine hpo.same (by simp (disch:=first|omega|simp (disch:=omega) only[aG,aM,aG37]) only[fZ,aM,aG37]) rfl (z7 ?_)
  simp (disch:=(try simp only[lZ]);omega) only[aZ,aM,aG37,h2]
  refine hmy.same (by simp (disch:=first|omega|simp (disch:=omega) only[aG,aM,aG37]) only[fZ,aM,aG37]) rfl (z7 ?_)
  simp (disch:=(try simp only[lZ]);omega) only[aZ,aM,aG37]
  rw[yz4]
  simp (disch:=(try simp only[lZ]);omega) only[aZ,aM,aG37,z2C]
  exact x1 (z0W _ _) ⟨rfl,rfl⟩
 rw[decide_eq_false h3]at hmy
 by_cases h4:fedE p xs=0
 case neg =>
  have e:z0D p L xs gl=(([],0),fedE p xs):=by unfold z0D;rw[if_neg (fun h=>h h1),if_neg (fun h=>h h2),if_neg h3,if_pos h4]
  rw[e]
  simp (disch:=(try simp only[lZ]);omega) only[aZ,aM,aG37,W9,Q3]
  refine hck.same (by simp (disch:=first|omega|simp (disch:=omega) only[aG,aM,aG37]) only[fZ,aM,aG37]) rfl (z7 ?_)
  simp (disch:=(try simp only[lZ]);omega) only[aZ,aM,aG37,h1]
  refine hpo.same (by simp (disch:=first|omega|simp (disch:=omega) only[aG,aM,aG37]) only[fZ,aM,aG37]) rfl (z7 ?_)
  simp (disch:=(try simp only[lZ]);omega) only[aZ,aM,aG37,h2]
  refine hmy.same (by simp (disch:=first|omega|simp (disch:=omega) only[aG,aM,aG37]) only[fZ,aM,aG37]) rfl (z7 ?_)
  simp (disch:=(try simp only[lZ]);omega) only[aZ,aM,aG37]
  refine hfd.same (by simp (disch:=first|omega|simp (disch:=omega) only[aG,aM,aG37]) only[fZ,aM,aG37]) rfl (z7 ?_)
  simp (disch:=(try simp only[lZ]);omega) only[aZ,aM,aG37,decide_eq_true (show ¬fedE p xs=0 from h4)]
  rw[yz4]
  simp (disch:=(try simp only[lZ]);omega) only[aZ,aM,aG37,z2C]
  exact x1 (z0W _ _) ⟨rfl,rfl⟩
 by_cases h5:zj8 p gl=0
 case neg =>
  have e:z0D p L xs gl=(([],0),zj8 p gl):=by unfold z0D;rw[if_neg (fun h=>h h1),if_neg (fun h=>h h2),if_neg h3,if_neg (fun h=>h h4),if_pos h5]
  rw[e]
  simp (disch:=(try simp only[lZ]);omega) only[aZ,aM,aG37,W9,Q3]
  refine hck.same (by simp (disch:=first|omega|simp (disch:=omega) only[aG,aM,aG37]) only[fZ,aM,aG37]) rfl (z7 ?_)
  simp (disch:=(try simp only[lZ]);omega) only[aZ,aM,aG37,h1]
  refine hpo.same (by simp (disch:=first|omega|simp (disch:=omega) only[aG,aM,aG37]) only[fZ,aM,aG37]) rfl (z7 ?_)
  simp (disch:=(try simp only[lZ]);omega) only[aZ,aM,aG37,h2]
  refine hmy.same (by simp (disch:=first|omega|simp (disch:=omega) only[aG,aM,aG37]) only[fZ,aM,aG37]) rfl (z7 ?_)
  simp (disch:=(try simp only[lZ]);omega) only[aZ,aM,aG37]
  refine hfd.same (by simp (disch:=first|omega|simp (disch:=omega) only[aG,aM,aG37]) only[fZ,aM,aG37]) rfl (z7 ?_)
  simp (disch:=(try simp only[lZ]);omega) only[aZ,aM,aG37,h4]
  refine hwa.same (by simp (disch:=first|omega|simp (disch:=omega) only[aG,aM,aG37]) only[fZ,aM,aG37]) rfl (z7 ?_)
  simp (disch:=(try simp only[lZ]);omega) only[aZ,aM,aG37,decide_eq_true (show ¬zj8 p gl=0 from h5)]
  rw[yz4]
  simp (disch:=(try simp only[lZ]);omega) only[aZ,aM,aG37,z2C]
  exact x1 (z0W _ _) ⟨rfl,rfl⟩
 have e:z0D p L xs gl=bstO (bstL p L xs gl (allP L)):=by unfold z0D;rw[if_neg (fun h=>h h1),if_neg (fun h=>h h2),if_neg h3,if_neg (fun h=>h h4),if_neg (fun h=>h h5)]
 rw[e]
 have hcost:=y4w h2
 simp (disch:=(try simp only[lZ]);omega) only[aZ,aM,aG37,W9,Q3]
 refine hck.same (by simp (disch:=first|omega|simp (disch:=omega) only[aG,aM,aG37]) only[fZ,aM,aG37]) rfl (z7 ?_)
 simp (disch:=(try simp only[lZ]);omega) only[aZ,aM,aG37,h1]
 refine hpo.same (by simp (disch:=first|omega|simp (disch:=omega) only[aG,aM,aG37]) only[fZ,aM,aG37]) rfl (z7 ?_)
 simp (disch:=(try simp only[lZ]);omega) only[aZ,aM,aG37,h2]
 refine hmy.same (by simp (disch:=first|omega|simp (disch:=omega) only[aG,aM,aG37]) only[fZ,aM,aG37]) rfl (z7 ?_)
 simp (disch:=(try simp only[lZ]);omega) only[aZ,aM,aG37]
 refine hfd.same (by simp (disch:=first|omega|simp (disch:=omega) only[aG,aM,aG37]) only[fZ,aM,aG37]) rfl (z7 ?_)
 simp (disch:=(try simp only[lZ]);omega) only[aZ,aM,aG37,h4]
 refine hwa.same (by simp (disch:=first|omega|simp (disch:=omega) only[aG,aM,aG37]) only[fZ,aM,aG37]) rfl (z7 ?_)
 simp (disch:=(try simp only[lZ]);omega) only[aZ,aM,aG37,h5]
 refine hch.same (by simp (disch:=first|omega|simp (disch:=omega) only[aG,aM,aG37]) only[fZ,aM,aG37]) (by simp [A.cl,A.clL,A.bd,A.bdL,y4q,yW7]) (z7 ?_)
 simp (disch:=(try simp only[lZ]);omega) only[aZ,aM,aG37]
 refine⟨zb4,[.fp true [.fs true (ogL true L)]],rfl,by kernel_rfl,fun c1 l hH hs hround=>?_⟩
 have hKm:∀b,(bKm w v true u1 u2 p L xs gl b).length=7:=fun b=>rfl
 have hit:=yz3 (u:=true) (L:=L) (by omega) (fun l hl2=>by have:=hb4 l hl2;omega) (c1:=c1) (l:=l) (n:=7) (Km:=fun pre=>bKm w v true u1 u2 p L xs gl (bstL p L xs gl pre)) (fun _=>rfl) (fun _ m _=>xn7 m) hH hs ?_
 case refine_1 =>
  intro pre pk hpre hpk
  refine hround _ _ _ ?_
  refine aw_sound ?_
  simp (disch:=(try simp only[lZ]);omega) only[aZ,aM,aG37,zV4]
  refine⟨trivial,aw_sound ?_⟩
  have hst:=y4B p L xs gl pre pk
  have hpi:=z9s (w:=w) (v:=v) (u:=true) (u':=true) ok h2 hpk
  have hyi:=z5x (w:=true) (v:=true) (u:=u1) (zs3 p L pk) xs
  have hva:yn3 p L xs gl pk=if(yldR (zs3 p L pk) xs).2=0 then some (wrtS (yldL (zs3 p L pk) xs) gl-spcS L pk)else none:=rfl
  have hsb:y4A p L xs gl (bstL p L xs gl pre) pk=match yn3 p L xs gl pk with
   | none=>bstL p L xs gl pre
   | some v=>match bstL p L xs gl pre with
    | none=>some (pk,v)
    | some q=>if v>q.2 then some (pk,v)else bstL p L xs gl pre:=rfl
  have hgp:=fun hc hf=>y0i (p:=p) (L:=L) (pk:=pk) (xs:=xs) hc hf h5
  have hsp:=y86 (L:=L) (pk:=pk) (by omega) hcost hpk
  have hsv:=y0g (u:=true) (u':=true) L pk (by omega) hcost hpk
  have hyl:=z4B (zs3 p L pk) xs
  have hpl:(zs3 p L pk).ms.length=p.ms.length:=z4D p L pk
  rw[hst,hsb,hva]
  clear hst hsb hround
  unfold yldT at hyi
  generalize bstL p L xs gl pre=b at *
  generalize zs3 p L pk=Q at *
  unfold plA plC at *
  have hlen8:(bKm w v true u1 u2 p L xs gl b).length+1=8:=rfl
  rw[hlen8]
  by_cases hy:(yldR Q xs).2=0
  case neg =>
   rw[if_neg hy]
   simp only[bKm,plC,List.cons_append,List.nil_append]
   simp (disch:=(try simp only[lZ]);omega) only[aZ,aM,aG37,zi7]
   refine hpi.same (by simp (disch:=first|omega|simp (disch:=omega) only[aG,aM,aG37]) only[fZ,aM,aG37]) (by simp (disch:=first|omega|simp (disch:=omega) only[aG,aM,aG37]) only[fZ,aM,aG37]) (z7 ?_)
   simp (disch:=(try simp only[lZ]);omega) only[aZ,aM,aG37]
   refine hyi.same (by simp (disch:=first|omega|simp (disch:=omega) only[aG,aM,aG37]) only[fZ,aM,aG37]) (by simp (disch:=first|omega|simp (disch:=omega) only[aG,aM,aG37]) only[fZ,aM,aG37]) (z7 ?_)
   simp (disch:=(try simp only[lZ]);omega) only[aZ,aM,aG37,decide_eq_true (show ¬(yldR Q xs).2=0 from hy)]
   exact⟨trivial,trivial,trivial⟩
  rw[if_pos hy]
  obtain⟨hc,hf,hyr⟩:=yF4 hy
  obtain⟨g1,g2⟩:=hgp hc hf
  have hwo:=ye8 (u:=true) (u':=u2) (yldL Q xs) gl g1 (by omega) g2
  have hwb:=y85 g1 g2
  rw[hyr]at hyi
  generalize wrtS (yldL Q xs) gl=W at *
  generalize spcS L pk=C at *
  cases b with
  | none =>
   simp only[bKm,plC,bstC,List.cons_append,List.nil_append,Option.isSome]
   simp (disch:=(try simp only[lZ]);omega) only[aZ,aM,aG37,zi7]
   refine hpi.same (by simp (disch:=first|omega|simp (disch:=omega) only[aG,aM,aG37]) only[fZ,aM,aG37]) (by simp (disch:=first|omega|simp (disch:=omega) only[aG,aM,aG37]) only[fZ,aM,aG37]) (z7 ?_)
   simp (disch:=(try simp only[lZ]);omega) only[aZ,aM,aG37]
   refine hyi.same (by simp (disch:=first|omega|simp (disch:=omega) only[aG,aM,aG37]) only[fZ,aM,aG37]) (by simp (disch:=first|omega|simp (disch:=omega) only[aG,aM,aG37]) only[fZ,aM,aG37]) (z7 ?_)
   simp (disch:=(try simp only[lZ]);omega) only[aZ,aM,aG37]
   refine hwo.same (by simp (disch:=first|omega|simp (disch:=omega) only[aG,aM,aG37]) only[fZ,aM,aG37]) rfl (z7 ?_)
   simp (disch:=(try simp only[lZ]);omega) only[aZ,aM,aG37]
   refine hsv.same (by simp (disch:=first|omega|simp (disch:=omega) only[aG,aM,aG37]) only[fZ,aM,aG37]) rfl (z7 ?_)
   simp (disch:=(try simp only[lZ]);omega) only[aZ,aM,aG37]
   exact⟨trivial,trivial,trivial⟩
  | some q =>
   simp only[bKm,plC,bstC,List.cons_append,List.nil_append,Option.isSome]
   simp (disch:=(try simp only[lZ]);omega) only[aZ,aM,aG37,zi7]
   refine hpi.same (by simp (disch:=first|omega|simp (disch:=omega) only[aG,aM,aG37]) only[fZ,aM,aG37]) (by simp (disch:=first|omega|simp (disch:=omega) only[aG,aM,aG37]) only[fZ,aM,aG37]) (z7 ?_)
   simp (disch:=(try simp only[lZ]);omega) only[aZ,aM,aG37]
   refine hyi.same (by simp (disch:=first|omega|simp (disch:=omega) only[aG,aM,aG37]) only[fZ,aM,aG37]) (by simp (disch:=first|omega|simp (disch:=omega) only[aG,aM,aG37]) only[fZ,aM,aG37]) (z7 ?_)
   simp (disch:=(try simp only[lZ]);omega) only[aZ,aM,aG37]
   refine hwo.same (by simp (disch:=first|omega|simp (disch:=omega) only[aG,aM,aG37]) only[fZ,aM,aG37]) rfl (z7 ?_)
   simp (disch:=(try simp only[lZ]);omega) only[aZ,aM,aG37]
   refine hsv.same (by simp (disch:=first|omega|simp (disch:=omega) only[aG,aM,aG37]) only[fZ,aM,aG37]) rfl (z7 ?_)
   by_cases hgt:W-C>q.2
   ·rw[if_pos hgt]
    simp (disch:=(try simp only[lZ]);omega) only[aZ,aM,aG37,decide_eq_true hgt]
    exact⟨trivial,trivial,trivial⟩
   ·rw[if_neg hgt]
    simp (disch:=(try simp only[lZ]);omega) only[aZ,aM,aG37,decide_eq_false hgt]
    exact⟨trivial,trivial,trivial⟩
 refine fun vs ha=>(hit vs ha).mono ?_
 rintro vv hh ⟨d,e1,e2,e3,e4⟩
 refine⟨d,e1,?_,e3,e4⟩
 rw[e2]
 refine aw_sound ?_
 cases hbo:bstL p L xs gl (allP L)with
 | none =>
  simp only[bKm,plC,bstC,Option.isSome]
  simp (disch:=(try simp only[lZ]);omega) only[aZ,aM,aG37,zu4,z2C]
  exact x1 (z0W _ _) ⟨rfl,rfl⟩
 | some q =>
  simp only[bKm,plC,bstC,Option.isSome]
  simp (disch:=(try simp only[lZ]);omega) only[aZ,aM,aG37,zu4,z2C]
  exact x1 (r:=.tup [.agg [.fs true (ints q.1),.v (.int .i64 q.2)],.v (.int .i64 0)]) (Fz.refl (by simp [A.bd,A.bdL,zn6,retA])) ⟨rfl,rfl⟩
theorem y88{p:Pl}{s:Sy}(hg:Gd p s)(he:∀x,tot p s x=s.fed.getD x 0)(hz:sumI p s=0){x:Nat}(hx:x<p.mt):binT p s x=s.fed.getD x 0:=by
 have h1:=zp3 (fun x _=>(zA2 hg x).2) hz hx
 have h2:=yF0 p s x
 have:=he x
 omega
theorem yG1{p:Pl}(hc:chkP p=0){x:Int}(hf:fedE p [x]=0)(hm:p.mt=1)(hl:p.ms.length=2)(b0:¬binN p 0)(b1:binN p 1):yldL p [x]=[[0],[x]]:=by
 have hp:=(zc2 hc).1
 have ok:=y6 hp
 obtain⟨hI,hn,hz⟩:=yy4 hc hf
 obtain⟨q1,q2,q3⟩:=z9n hf
 obtain⟨g1,g2,g3,g4⟩:=hI.1.it hp (yN p [x])
 have hfe:∀y,(yS p [x]).fed.getD y 0=([x]:List Int).getD y 0:=fun y=>by
  show(itS p _ _).fed.getD y 0=_
  rw[g4]
  show(zc3 (y7 p.mt) [x]).getD y 0=_
  rw[zR4 (zg8 _).1 q1,Y3];omega
 have he:∀y,tot p (yS p [x]) y=(yS p [x]).fed.getD y 0:=fun y=>by
  rw[hfe]
  show tot p (itS p _ _) y=_
  rw[g2,z7i ok (Gd.new p) q1,yl7];omega
 have hb:=y88 (s:=yS p [x]) g1 he hz (x:=0) (by omega)
 rw[hfe]at hb
 have hbt:binT p (yS p [x]) 0=sm p.ms.length fun m=>if binN p m then((yS p [x]).bef m).getD 0 0 else 0:=by unfold binT;rfl
 rw[hbt,hl]at hb
 simp only[sm,if_neg b0,if_pos b1]at hb
 have hok:=g1.ok.bef 1 (by omega)
 have h1:(yS p [x]).bef 1=[x]:=by
  refine Z4 0 (by have h9:((yS p [x]).bef 1).length=p.mt:=hok.1;rw[h9,hm];rfl) fun i hi=>?_
  have hi0:i=0:=by have:((yS p [x]).bef 1).length=p.mt:=hok.1;omega
  subst hi0
  simpa using hb
 unfold yldL
 rw[hl]
 show[yldM p [x] 0,yldM p [x] 1]=_
 unfold yldM
 rw[if_neg b0,if_pos b1,h1,hm]
 rfl
def exG:List Bt:=[⟨1,0,5000,900⟩]
def exL:List (List Og):=[[⟨[[1000,0]],7⟩,⟨[[500,500]],0⟩],[]]
def exB:List (List Og):=[[⟨[[0,1000]],0⟩],[]]
theorem yz6:fedE loopP [10]=0:=by decide +kernel
theorem y7D:yldR loopP [10]=([[0],[10]],0):=by
 unfold yldR
 rw[if_neg (fun h=>h ym2),if_neg (fun h=>h yz6),yG1 ym2 yz6 rfl rfl (by decide +kernel) (by decide +kernel)]
theorem yG2:zj8 loopP exG=0:=by
 rw[z5y (by decide) (fun i hi=>by
  have:i=0:=by simp [exG]at hi;omega
  subst this
  decide +kernel),if_neg]
 rintro⟨k,hk,i,hi,_⟩
 simp [exG]at hk;omega
theorem y7E:wrtS [[0],[10]] exG=50000:=by decide +kernel
theorem xn8:valR loopP [10] exG=(50000,0):=by
 have e:yldL loopP [10]=[[0],[10]]:=yG1 ym2 yz6 rfl rfl (by decide +kernel) (by decide +kernel)
 unfold valR
 rw[y7D,if_neg (fun h=>h rfl),if_neg (fun h=>h yG2),e,y7E]
theorem ex_v{L:List (List Og)}{pk:List Int}(hc:chkP (zs3 loopP L pk)=0)(b0:¬binN (zs3 loopP L pk) 0)(b1:binN (zs3 loopP L pk) 1):yn3 loopP L [10] exG pk=some (50000-spcS L pk):=by
 have hf:fedE (zs3 loopP L pk) [10]=0:=by
  have h1:(zs3 loopP L pk).mt=1:=rfl
  unfold fedE
  rw[h1]
  decide +kernel
 have e:=yG1 hc hf rfl (z4D _ _ _) b0 b1
 have ey:yldR (zs3 loopP L pk) [10]=(yldL (zs3 loopP L pk) [10],0):=by unfold yldR;rw[if_neg (fun h=>h hc),if_neg (fun h=>h hf)]
 unfold yn3
 rw[ey,if_pos rfl,e,y7E]
theorem y89:z0D loopP exL [10] exG=(([1,0],50000),0):=by
 have v1:yn3 loopP exL [10] exG [0,0]=some 49993:=by
  rw[ex_v (by decide +kernel) (by decide +kernel) (by decide +kernel)];decide +kernel
 have v2:yn3 loopP exL [10] exG [1,0]=some 50000:=by
  rw[ex_v (by decide +kernel) (by decide +kernel) (by decide +kernel)];decide +kernel
 unfold z0D
 rw[if_neg (fun h=>h (show x0 loopP=0 by decide +kernel)),if_neg (fun h=>h (show zs2 loopP exL=0 by decide +kernel)),if_neg (by decide +kernel),if_neg (fun h=>h yz6),if_neg (fun h=>h yG2),
  show allP exL=[[0,0],[1,0]] by decide +kernel]
 unfold bstL
 simp only[List.foldl_cons,List.foldl_nil,y4A,v1,v2]
 rfl
theorem y9a:z0D loopP exB [10] exG=(([],0),40):=by
 have v1:yn3 loopP exB [10] exG [0,0]=none:=by
  have hc:chkP (zs3 loopP exB [0,0])≠0:=by decide +kernel
  have ey:yldR (zs3 loopP exB [0,0]) [10]=([],chkP (zs3 loopP exB [0,0])):=by unfold yldR;rw[if_pos hc]
  unfold yn3
  rw[ey,if_neg (by exact hc)]
 unfold z0D
 rw[if_neg (fun h=>h (show x0 loopP=0 by decide +kernel)),if_neg (fun h=>h (show zs2 loopP exB=0 by decide +kernel)),if_neg (by decide +kernel),if_neg (fun h=>h yz6),if_neg (fun h=>h yG2),
  show allP exB=[[0,0]] by decide +kernel]
 unfold bstL
 simp only[List.foldl_cons,List.foldl_nil,y4A,v1]
 rfl
theorem y5D:z5z loopP exL [1,0]=(⟨1,[[[500,500]],[[]]],loopP.bs,0⟩,0):=by
 unfold z5z
 rw[if_neg (fun h=>h (show x0 loopP=0 by decide +kernel)),if_neg (fun h=>h (show zs2 loopP exL=0 by decide +kernel)),if_neg (by decide),if_neg (by decide +kernel)]
 rfl
theorem y4C:VR P false z1g [] [] (isR (plA true true loopP)):=by
 refine z7N (by simp) (.inr rfl) fun _ _=>?_
 simp (disch:=(try simp only[lZ]);omega) only[aZ,aM,aG37,zG1,z1i,z9B]
 refine x1 (xi9 ?_) ⟨rfl,rfl⟩
 simp [zZ,blkAt,za2,A.cells,A.one,Lft.one,retA,A.bdL,A.bd,loopP,plA,plC,mcs,mcA,mcC,bts,btA,btC,rows,ints]
theorem yz7{w v:Bool}(a b:List Int)(hl:a.length≤1000000):VR P false z5H [.fs w (ints a),.fs v (ints b)] [] (isR (.v (.bool (decide (a=b))))):=by
 refine yg6 (by simp) (.inr rfl) fun _ _=>?_
 simp (disch:=(try simp only[lZ]);omega) only[aZ,aM,aG37,zX2,z5J]
 refine y1 (fun h1=>?_) (fun h1=>?_)
 ·simp (disch:=(try simp only[lZ]);omega) only[aZ,aM,aG37,zX3]
  exact y2 ⟨by rw[decide_eq_false (fun hc=>by rw[hc]at h1;omega)],rfl⟩
 have hll:a.length=b.length:=by omega
 simp (disch:=(try simp only[lZ]);omega) only[aZ,aM,aG37]
 refine AWP.loopP z9z (fun k:Nat=>k≤a.length∧∀i,i<k→a.getD i 0=b.getD i 0) (fun k=>[(2,.v (.bool false)),(3,.v (.int .i64 k))]) (fun _=>[]) (fun k=>a.length-k) 0 ⟨by omega,fun i hi=>by omega⟩ ?_ ?_
 ·exact Cut.fg (by simp (disch:=first|omega|simp (disch:=omega) only[aG,aM,aG37]) only[fZ,aM,aG37,y0,z9,or_true,true_or])
 rintro k ⟨hk,he⟩
 by_cases hlt:k<a.length
 ·simp (disch:=(try simp only[lZ]);omega) only[aZ,aM,aG37]
  refine y1 (fun h3=>?_) (fun h3=>?_)
  ·simp (disch:=(try simp only[lZ]);omega) only[aZ,aM,aG37,zX3]
   exact y2 ⟨by rw[decide_eq_false (fun hc=>by rw[hc]at h3;exact h3 rfl)],rfl⟩
  ·simp (disch:=(try simp only[lZ]);omega) only[aZ,aM,aG37]
   refine⟨k+1,⟨by omega,fun i hi=>?_⟩,by omega,?_⟩
   ·rcases Nat.lt_succ_iff_lt_or_eq.1 hi with h|rfl
    ·exact he i h
    ·exact Classical.not_not.1 h3
   ·exact Cut.fg (by simp (disch:=first|omega|simp (disch:=omega) only[aG,aM,aG37]) only[fZ,aM,aG37,y0,z9,or_true,true_or])
 ·have hae:a=b:=Z4 0 hll fun i hi=>he i (by omega)
  simp (disch:=(try simp only[lZ]);omega) only[aZ,aM,aG37,zX3]
  exact y2 ⟨by rw[decide_eq_true hae],rfl⟩
def rwP(r:Mc):Prop:=r.length≤30∧∀x∈r,x.length≤10
theorem y5E{H:List Blk}{l r:List A}(h:frzL (frzP H 9) l r):FzL 0 H l r:=z5k (z5l 9) h
set_option maxHeartbeats 4000000 in
theorem y0j:VR P false z2R [] [] (isR (.v (.bool true))):=by
 refine z9w (by simp) (.inr rfl) fun _ _=>?_
 have hsm:=y4C
 have d1:=yE0 (w:=true) (v:=false) (w':=true) (v':=false) [[0],[10]] [[0],[10]] (by decide) (by decide)
 have d2:=yz7 (w:=true) (v:=false) [1,0] [1,0] (by decide)
 have d3:=yz7 (w:=true) (v:=false) [500,500] [500,500] (by decide)
 rw[decide_eq_true rfl]at d1 d2 d3
 have hyi:=z5x (w:=true) (v:=true) (u:=false) loopP [10]
 rw[y7D]at hyi
 have hva:=ye9 (w:=true) (v:=true) (u:=false) (u':=true) loopP [10] exG
 rw[xn8]at hva
 have hb1:=yz5 (w:=true) (v:=true) (u1:=false) (u2:=true) loopP exL [10] exG
 rw[y89]at hb1
 have hb2:=yz5 (w:=true) (v:=true) (u1:=false) (u2:=true) loopP exB [10] exG
 rw[y9a]at hb2
 have hap:=y0h (w:=true) (v:=true) (u:=true) (u':=false) loopP exL [1,0] (by decide)
 rw[y5D]at hap
 have epl2:plA true true {mat:=1,ms:=[[[500,500]],[[]]],bs:=loopP.bs,fd:=0}=.agg [.v (.int .i64 1),.fs true (mcs true [[[500,500]],[[]]]),.fs true (bts loopP.bs),.v (.int .i64 0)]:=rfl
 have hpb:A.bd 0 (plA true true loopP)=true:=y2C _ _ _ _
 have hpb2:(plA true true loopP).cl=true:=by decide +kernel
 unfold yldT zu6 y84 y5B at *
 rw[epl2]at hap
 simp (disch:=(try simp only[lZ]);omega) only[aZ,aM,aG37,zN2,z2T]
 refine hsm.same (by simp (disch:=first|omega|simp (disch:=omega) only[aG,aM,aG37]) only[fZ,aM,aG37]) (by rw[hpb,hpb2];rfl) ?_
 show AWP P 0 _ _ _ _
 refine AWP.chain 20 ?_
 conv=>arg 3;simp only[S.pre]
 have epl:plA true true loopP=.agg [.v (.int .i64 1),.fs true (mcs true loopP.ms),.fs true (bts loopP.bs),.v (.int .i64 0)]:=rfl
 rw[epl]at *
 simp (disch:=(try simp only[lZ]);omega) only[aZ,aM,aG37,putA]
 conv=>arg 3;simp only[S.post]
 refine AWP.cut (e':=[.v (.bool false),.fs true (bts exG),.fs true (ogL true exL),.fs true (ogL true exB),.fp true [.v (.int .i64 1),.fs true (mcs true loopP.ms),.fs true (bts loopP.bs),.v (.int .i64 0)],.any,.any,.any,.any,.any,.any,.any,.any,.any,.any,.any,.any,.any,.any,.any,.any,.any,.any,.any,.any,.any,.any,.any,.any,.any,.any,.any,.any,.any,.any,.any,.any,.any,.any,.any,.any,.any,.any,.any,.any]) (H':=[]) (Cut.of' 0 rfl (Nat.le_refl _) (by simp [FzB]) (y5E ?_)) ?_
 ·simp [zZ,blkAt,za2,A.cells,A.one,Lft.one,retA,A.bdL,A.bd,exG,exL,exB,ogL,ogs,ogA,ogC,loopP,mcs,mcA,mcC,bts,btA,btC,rows,ints]
 refine aw_sound ?_
 simp (disch:=(try simp only[lZ]);omega) only[aZ,aM,aG37]
 refine hyi.use ⟨Ld.refl hpb,zB9 _ 0 0 1 [10] rfl rfl,trivial⟩ (by rfl) (z7 ?_)
 simp (disch:=(try simp only[lZ]);omega) only[aZ,aM,aG37]
 refine hva.use ⟨Ld.refl hpb,zB9 _ _ _ 1 [10] rfl rfl,Ld.refl (by rfl),trivial⟩ (by rfl) (z7 ?_)
 simp (disch:=(try simp only[lZ]);omega) only[aZ,aM,aG37]
 refine hb1.use ⟨Ld.refl hpb,Ld.refl (by rfl),zB9 _ _ _ 1 [10] rfl rfl,Ld.refl (by rfl),trivial⟩ (by rfl) (z7 ?_)
 simp (disch:=(try simp only[lZ]);omega) only[aZ,aM,aG37]
 refine hb2.use ⟨Ld.refl hpb,Ld.refl (by rfl),zB9 _ _ _ 1 [10] rfl rfl,Ld.refl (by rfl),trivial⟩ (by rfl) (z7 ?_)
 simp (disch:=(try simp only[lZ]);omega) only[aZ,aM,aG37]
 refine hap.use ⟨Ld.refl hpb,Ld.refl (by rfl),zB9 _ _ _ 2 [1,0] rfl rfl,trivial⟩ (by rfl) (z7 ?_)
 simp (disch:=(try simp only[lZ]);omega) only[aZ,aM,aG37]
 refine d1.use (yu9 (by simp [zZ,blkAt,za2,A.cells,A.one,Lft.one,retA,A.bdL,A.bd,rows,ints])) (by rfl) (z7 ?_)
 simp (disch:=(try simp only[lZ]);omega) only[aZ,aM,aG37]
 refine d2.use (yu9 (by simp [zZ,blkAt,za2,A.cells,A.one,Lft.one,retA,A.bdL,A.bd,ints])) (by rfl) (z7 ?_)
 simp (disch:=(try simp only[lZ]);omega) only[aZ,aM,aG37,List.getD_cons_zero,List.getD_cons_succ,List.length_cons,List.length_nil,Int.natCast_add,Int.natCast_zero,Int.natCast_one]
 refine d3.use (yu9 (by simp [zZ,blkAt,za2,A.cells,A.one,Lft.one,retA,A.bdL,A.bd,ints])) (by rfl) (z7 ?_)
 simp (disch:=(try simp only[lZ]);omega) only[aZ,aM,aG37,yg5,List.getD_cons_zero,List.getD_cons_succ,List.length_cons,List.length_nil,Int.natCast_add,Int.natCast_zero,Int.natCast_one]
 exact y2 ⟨rfl,rfl⟩
def chN(L:List (List Og)):Int:=if 256<prd L then 257 else prd L
theorem yn4{u:Bool}(L:List (List Og))(hl:L.length≤1000)(hb:∀l∈L,l.length≤100):VR P false zX6 [.fs u (ogL u L)] [] (isR (.v (.int .i64 (chN L)))):=by
 refine z6u (by simp) (.inr rfl) fun _ _=>?_
 simp (disch:=(try simp only[lZ]);omega) only[aZ,aM,aG37,zy0,zX8]
 refine AWP.loopP z4T (fun k:Nat=>k≤L.length∧prd (L.take k)≤256) (fun k=>[(1,.v (.int .i64 0)),(2,.v (.int .i64 (prd (L.take k)))),(3,.v (.int .i64 k))]) (fun _=>[]) (fun k=>L.length-k) 0 ⟨by omega,by simp [prd]⟩ ?_ ?_
 ·exact Cut.fg (by simp (disch:=first|omega|simp (disch:=omega) only[aG,aM,aG37]) only[fZ,aM,aG37,List.take_zero,show((prd []:Nat):Int)=1 from rfl,y0,z9,or_true,true_or])
 rintro k ⟨hk,hp⟩
 by_cases hkt:k<L.length
 ·have hs:=yW8 L k hkt
  have hlk:=hb _ (x3 [] hkt)
  have h1:=Nat.mul_le_mul hp (show max 1 (L.getD k []).length≤100 by omega)
  by_cases h1':((L.getD k []).length:Int)>1
  ·have h2:((prd (L.take k):Nat):Int)*((L.getD k []).length:Int)=((prd (L.take (k+1)):Nat):Int):=by rw[hs,Int.natCast_mul];congr 1;omega
   have h3:((prd (L.take k):Nat):Int)*((L.getD k []).length:Int)≤25600:=by rw[h2,hs];omega
   have h4:0≤((prd (L.take k):Nat):Int)*((L.getD k []).length:Int):=by rw[h2];omega
   by_cases hm:((prd (L.take (k+1)):Nat):Int)>256
   ·have:=yW9 L (k+1)
    rw[show chN L=257 from if_pos (show 256<prd L by omega)]
    simp (disch:=(try simp only[lZ]);omega) only[aZ,aM,aG37,decide_eq_true h1',h2,decide_eq_true hm,zX9]
    exact y2 ⟨rfl,rfl⟩
   ·simp (disch:=(try simp only[lZ]);omega) only[aZ,aM,aG37,decide_eq_true h1',h2,decide_eq_false hm]
    refine⟨k+1,⟨by omega,by omega⟩,by omega,?_⟩
    exact Cut.fg (by simp (disch:=first|omega|simp (disch:=omega) only[aG,aM,aG37]) only[fZ,aM,aG37,y0,z9,or_true,true_or])
  ·have e:prd (L.take (k+1))=prd (L.take k):=by rw[hs,show max 1 (L.getD k []).length=1 by omega,Nat.mul_one]
   simp (disch:=(try simp only[lZ]);omega) only[aZ,aM,aG37,decide_eq_false h1',decide_eq_false (show ¬((prd (L.take k):Nat):Int)>256 by omega)]
   refine⟨k+1,⟨by omega,by omega⟩,by omega,?_⟩
   exact Cut.fg (by simp (disch:=first|omega|simp (disch:=omega) only[aG,aM,aG37]) only[fZ,aM,aG37,e,y0,z9,or_true,true_or])
 have hke:k=L.length:=by omega
 subst hke
 rw[List.take_length]at hp
 rw[show chN L=prd L from if_neg (by omega)]
 simp (disch:=(try simp only[lZ]);omega) only[aZ,aM,aG37,List.take_length,zX9]
 exact y2 ⟨rfl,rfl⟩
theorem yf1{w:Bool}(r:Mc):VR P false z5K [.fs w (rows w r)] [] (fun x G=>G=[]∧∃b:Bool,x=.v (.bool b)∧(b=true→rwP r)):=by
 refine yg7 (by simp) (.inr rfl) fun _ _=>?_
 by_cases h1:(r.length:Int)>30
 ·simp (disch:=(try simp only[lZ]);omega) only[aZ,aM,aG37,zC0,zX4,decide_eq_true h1,zX5]
  exact y2 ⟨rfl,_,rfl,by simp⟩
 simp (disch:=(try simp only[lZ]);omega) only[aZ,aM,aG37,zC0,zX4,decide_eq_false h1]
 refine AWP.loopP z9A (fun k:Nat=>k≤r.length∧∀i,i<k→(r.getD i []).length≤10) (fun k=>[(1,.v (.bool false)),(2,.v (.int .i64 k))]) (fun _=>[]) (fun k=>r.length-k) 0 ⟨by omega,by omega⟩ ?_ ?_
 ·exact Cut.fg (by simp (disch:=first|omega|simp (disch:=omega) only[aG,aM,aG37]) only[fZ,aM,aG37,y0,z9,or_true,true_or])
 rintro k ⟨hk,hr⟩
 by_cases hlt:k<r.length
 ·by_cases h2:((r.getD k []).length:Int)>10
  ·simp (disch:=(try simp only[lZ]);omega) only[aZ,aM,aG37,decide_eq_true h2,zX5]
   exact y2 ⟨rfl,_,rfl,by simp⟩
  ·simp (disch:=(try simp only[lZ]);omega) only[aZ,aM,aG37,decide_eq_false h2]
   refine⟨k+1,⟨by omega,fun i hi=>(Nat.lt_succ_iff_lt_or_eq.1 hi).elim (hr i) fun h=>by rw[h];omega⟩,by omega,?_⟩
   exact Cut.fg (by simp (disch:=first|omega|simp (disch:=omega) only[aG,aM,aG37]) only[fZ,aM,aG37,y0,z9,or_true,true_or])
 ·have hke:k=r.length:=by omega
  simp (disch:=(try simp only[lZ]);omega) only[aZ,aM,aG37,decide_eq_false (show ¬(k:Int)<r.length by omega),zX5]
  refine y2 ⟨rfl,_,rfl,fun _=>⟨by omega,fun x hx=>?_⟩⟩
  obtain⟨i,hi,rfl⟩:=zQ8 [] hx
  exact hr i (by omega)
theorem y7F{m:Mc}(r:A)(G:List Blk)(h:G=[]∧∃b:Bool,r=.v (.bool b)∧(b=true→rwP m)):G=[]∧(r.cl && r.bd 0)=true:=by
 obtain⟨rfl,b,rfl,_⟩:=h;exact⟨rfl,rfl⟩
structure Light(p:Pl)(L:List (List Og))(fd:List Int)(gs:List Bt):Prop where
 hm:p.ms.length≤30
 hb:p.bs.length≤60
 hL:L.length≤40
 hf:fd.length≤40
 hg:gs.length≤60
 hr:∀i,i<p.ms.length→rwP (p.ms.getD i [])
 ho:∀i,i<L.length→(L.getD i []).length≤10∧∀k,k<(L.getD i []).length→rwP ((L.getD i []).getD k og0).r
def y9b(w v u a b:Bool)(p:Pl)(L:List (List Og))(fd:List Int)(gs:List Bt):A:=.agg [.v (.int .i64 p.mat),.fs w (mcs w p.ms),.fs v (bts p.bs),.v (.int .i64 p.fd),.fs u (ogL u L),.fs a (ints fd),.fs b (bts gs)]
theorem y9c{m:List Mc}{k:Nat}(h:∀i,i<k→rwP (m.getD i []))(hk:rwP (m.getD k [])):∀i,i<k+1→rwP (m.getD i []) :=
 fun i hi=>(Nat.lt_succ_iff_lt_or_eq.1 hi).elim (h i) fun e=>e▸hk
set_option maxHeartbeats 4000000 in
theorem y0k{w v u a b:Bool}(p:Pl)(L:List (List Og))(fd:List Int)(gs:List Bt):VR P false z2P [y9b w v u a b p L fd gs] [] (fun x G=>G=[]∧∃y:Bool,x=.v (.bool y)∧(y=true→Light p L fd gs)):=by
 refine z9v (by simp) (.inr rfl) fun _ _=>?_
 unfold y9b
 by_cases c0:(p.ms.length:Int)>30
 ·simp (disch:=(try simp only[lZ]);omega) only[aZ,aM,aG37,za6,zc9,decide_eq_true c0,Z3]
  exact y2 ⟨rfl,_,rfl,by simp⟩
 by_cases c1:(p.bs.length:Int)>60
 ·simp (disch:=(try simp only[lZ]);omega) only[aZ,aM,aG37,za6,zc9,decide_eq_false c0,decide_eq_true c1,Z3]
  exact y2 ⟨rfl,_,rfl,by simp⟩
 by_cases c2:(L.length:Int)>40
 ·simp (disch:=(try simp only[lZ]);omega) only[aZ,aM,aG37,za6,zc9,decide_eq_false c0,decide_eq_false c1,decide_eq_true c2,Z3]
  exact y2 ⟨rfl,_,rfl,by simp⟩
 by_cases c3:(fd.length:Int)>40
 ·simp (disch:=(try simp only[lZ]);omega) only[aZ,aM,aG37,za6,zc9,decide_eq_false c0,decide_eq_false c1,decide_eq_false c2,decide_eq_true c3,Z3]
  exact y2 ⟨rfl,_,rfl,by simp⟩
 by_cases c4:(gs.length:Int)>60
 ·simp (disch:=(try simp only[lZ]);omega) only[aZ,aM,aG37,za6,zc9,decide_eq_false c0,decide_eq_false c1,decide_eq_false c2,decide_eq_false c3,decide_eq_true c4,Z3]
  exact y2 ⟨rfl,_,rfl,by simp⟩
 simp (disch:=(try simp only[lZ]);omega) only[aZ,aM,aG37,za6,zc9,decide_eq_false c0,decide_eq_false c1,decide_eq_false c2,decide_eq_false c3,decide_eq_false c4]
 refine AWP.loopP z7G (fun k:Nat=>k≤p.ms.length∧∀i,i<k→rwP (p.ms.getD i [])) (fun k=>[(1,.v (.bool false)),(3,.v (.int .i64 k))]) (fun _=>[]) (fun k=>p.ms.length-k) 0 ⟨by omega,by omega⟩ ?_ ?_
 ·exact Cut.fg (by simp (disch:=first|omega|simp (disch:=omega) only[aG,aM,aG37]) only[fZ,aM,aG37,y0,z9,or_true,true_or])
 rintro k ⟨hk,hr⟩
 by_cases hlt:k<p.ms.length
 ·simp (disch:=(try simp only[lZ]);omega) only[aZ,aM,aG37]
  refine(yf1 _).useE (LdL.refl (by simp (disch:=first|omega|simp (disch:=omega) only[aG,aM,aG37]) only[fZ,aM,aG37])) y7F ?_
  rintro _ ⟨-,y,rfl,hy⟩
  refine z7 ?_
  cases y
  ·simp (disch:=(try simp only[lZ]);omega) only[aZ,aM,aG37,Z3]
   exact y2 ⟨rfl,_,rfl,by simp⟩
  ·simp (disch:=(try simp only[lZ]);omega) only[aZ,aM,aG37]
   refine⟨k+1,⟨by omega,y9c hr (hy rfl)⟩,by omega,?_⟩
   exact Cut.fg (by simp (disch:=first|omega|simp (disch:=omega) only[aG,aM,aG37]) only[fZ,aM,aG37,y0,z9,or_true,true_or])
 have hke:k=p.ms.length:=by omega
 subst hke
 simp (disch:=(try simp only[lZ]);omega) only[aZ,aM,aG37]
 refine AWP.loopP z7H (fun k:Nat=>k≤L.length∧∀i,i<k→(L.getD i []).length≤10∧∀k,k<(L.getD i []).length→rwP ((L.getD i []).getD k og0).r) (fun k=>[(1,.v (.bool false)),(4,.v (.int .i64 k))]) (fun _=>[]) (fun k=>L.length-k) 0 ⟨by omega,by omega⟩ ?_ ?_
 ·exact Cut.fg (by simp (disch:=first|omega|simp (disch:=omega) only[aG,aM,aG37]) only[fZ,aM,aG37,y0,z9,or_true,true_or])
 rintro k ⟨hk,ho⟩
 by_cases hlt:k<L.length
 ·by_cases c6:((L.getD k []).length:Int)>10
  ·simp (disch:=(try simp only[lZ]);omega) only[aZ,aM,aG37,decide_eq_true c6,Z3]
   exact y2 ⟨rfl,_,rfl,by simp⟩
  simp (disch:=(try simp only[lZ]);omega) only[aZ,aM,aG37,decide_eq_false c6]
  refine AWP.loopP z7I (fun j:Nat=>j≤(L.getD k []).length∧∀i,i<j→rwP ((L.getD k []).getD i og0).r) (fun j=>[(1,.v (.bool false)),(5,.v (.int .i64 j))]) (fun _=>[]) (fun j=>(L.getD k []).length-j) 0 ⟨by omega,by omega⟩ ?_ ?_
  ·exact Cut.fg (by simp (disch:=first|omega|simp (disch:=omega) only[aG,aM,aG37]) only[fZ,aM,aG37,y0,z9,or_true,true_or])
  rintro j ⟨hj,hw⟩
  by_cases hjt:j<(L.getD k []).length
  ·simp (disch:=(try simp only[lZ]);omega) only[aZ,aM,aG37]
   refine(yf1 _).useE (LdL.refl (by simp (disch:=first|omega|simp (disch:=omega) only[aG,aM,aG37]) only[fZ,aM,aG37])) y7F ?_
   rintro _ ⟨-,y,rfl,hy⟩
   refine z7 ?_
   cases y
   ·simp (disch:=(try simp only[lZ]);omega) only[aZ,aM,aG37,Z3]
    exact y2 ⟨rfl,_,rfl,by simp⟩
   ·simp (disch:=(try simp only[lZ]);omega) only[aZ,aM,aG37]
    refine⟨j+1,⟨by omega,fun i hi=>(Nat.lt_succ_iff_lt_or_eq.1 hi).elim (hw i) fun e=>e▸hy rfl⟩,by omega,?_⟩
    exact Cut.fg (by simp (disch:=first|omega|simp (disch:=omega) only[aG,aM,aG37]) only[fZ,aM,aG37,y0,z9,or_true,true_or])
  have hje:j=(L.getD k []).length:=by omega
  simp (disch:=(try simp only[lZ]);omega) only[aZ,aM,aG37,decide_eq_false (show ¬(j:Int)<(L.getD k []).length by omega)]
  refine⟨k+1,⟨by omega,fun i hi=>(Nat.lt_succ_iff_lt_or_eq.1 hi).elim (ho i) fun e=>by rw[e];exact⟨by omega,fun q hq=>hw q (by omega)⟩⟩,by omega,?_⟩
  exact Cut.fg (by simp (disch:=first|omega|simp (disch:=omega) only[aG,aM,aG37]) only[fZ,aM,aG37,y0,z9,or_true,true_or])
 have hke:k=L.length:=by omega
 subst hke
 have hL:Light p L fd gs:=⟨by omega,by omega,by omega,by omega,by omega,hr,ho⟩
 simp (disch:=(try simp only[lZ]);omega) only[aZ,aM,aG37]
 refine AWP.loopP z7J (fun s:Nat×Nat=>s.1≤p.bs.length∧16≤s.2∧s.2≤16+16*s.1) (fun s=>[(6,.v (.int .i64 s.2)),(8,.v (.int .i64 s.1))]) (fun _=>[]) (fun s=>p.bs.length-s.1) (0,16) ⟨by simp only;omega,by simp only;omega,by simp only;omega⟩ ?_ ?_
 ·exact Cut.fg (by simp (disch:=first|omega|simp (disch:=omega) only[aG,aM,aG37]) only[fZ,aM,aG37,y0,z9,or_true,true_or])
 rintro⟨k,y⟩ ⟨hk,hy1,hy2⟩
 simp only at hk hy1 hy2
 by_cases hlt:k<p.bs.length
 ·obtain⟨z,hz,hz2⟩:∃z:Nat,max 0 (min (p.bs.getD k b0).ln 16)=(z:Int)∧z≤16:=⟨(max 0 (min (p.bs.getD k b0).ln 16)).toNat,by omega,by omega⟩
  simp (disch:=(try simp only[lZ]);omega) only[aZ,aM,aG37,hz]
  refine⟨(k+1,y+z),⟨by simp only;omega,by simp only;omega,by simp only;omega⟩,by simp only;omega,?_⟩
  exact Cut.fg (by simp (disch:=first|omega|simp (disch:=omega) only[aG,aM,aG37]) only[fZ,aM,aG37,y0,z9,or_true,true_or])
 have hke:k=p.bs.length:=by omega
 subst hke
 simp (disch:=(try simp only[lZ]);omega) only[aZ,aM,aG37]
 refine AWP.loopP z7K (fun s:Nat×Nat=>s.1≤fd.length∧s.2≤1073741824*s.1) (fun s=>[(1,.v (.bool false)),(7,.v (.int .i64 s.2)),(9,.v (.int .i64 s.1))]) (fun _=>[]) (fun s=>fd.length-s.1) (0,0) ⟨by simp only;omega,by simp only;omega⟩ ?_ ?_
 ·exact Cut.fg (by simp (disch:=first|omega|simp (disch:=omega) only[aG,aM,aG37]) only[fZ,aM,aG37,y0,z9,or_true,true_or])
 rintro⟨k,g⟩ ⟨hk,hg⟩
 simp only at hk hg
 by_cases hlt:k<fd.length
 ·by_cases d1:fd.getD k 0<0
  ·simp (disch:=(try simp only[lZ]);omega) only[aZ,aM,aG37,decide_eq_true d1,Z3]
   exact y2 ⟨rfl,_,rfl,fun _=>hL⟩
  by_cases d2:fd.getD k 0>1073741824
  ·simp (disch:=(try simp only[lZ]);omega) only[aZ,aM,aG37,decide_eq_false d1,decide_eq_true d2,Z3]
   exact y2 ⟨rfl,_,rfl,fun _=>hL⟩
  obtain⟨z,hz⟩:∃z:Nat,fd.getD k 0=(z:Int):=⟨(fd.getD k 0).toNat,by omega⟩
  rw[hz]at d1 d2
  simp (disch:=(try simp only[lZ]);omega) only[aZ,aM,aG37,hz,decide_eq_false d1,decide_eq_false d2]
  refine⟨(k+1,g+z),⟨by simp only;omega,by simp only;omega⟩,by simp only;omega,?_⟩
  exact Cut.fg (by simp (disch:=first|omega|simp (disch:=omega) only[aG,aM,aG37]) only[fZ,aM,aG37,y0,z9,or_true,true_or])
 have hke:k=fd.length:=by omega
 subst hke
 simp (disch:=(try simp only[lZ]);omega) only[aZ,aM,aG37]
 refine(yn4 L (by omega) fun l hl=>?_).same (by simp (disch:=first|omega|simp (disch:=omega) only[aG,aM,aG37]) only[fZ,aM,aG37]) rfl (z7 ?_)
 ·obtain⟨i,hi,rfl⟩:=zQ8 [] hl
  exact Nat.le_trans (ho i hi).1 (by omega)
 obtain⟨n,hn,hn2⟩:∃n:Nat,max 1 (min (chN L) 256)=(n:Int)∧n≤256:=⟨(max 1 (min (chN L) 256)).toNat,by omega,by omega⟩
 obtain⟨q,hq,hq2⟩:∃q:Nat,(g:Int)*(y:Int)=(q:Int)∧q≤42949672960*976:=⟨g*y,by rw[Int.natCast_mul],Nat.mul_le_mul (by omega) (by omega)⟩
 obtain⟨q',hq',hq2'⟩:∃q':Nat,(q:Int)*(n:Int)=(q':Int)∧q'≤42949672960*976*256:=⟨q*n,by rw[Int.natCast_mul],Nat.mul_le_mul hq2 hn2⟩
 simp (disch:=(try simp only[lZ]);omega) only[aZ,aM,aG37,hq,hn,hq',Z3]
 exact y2 ⟨rfl,_,rfl,fun _=>hL⟩
end Go.Proofs.YtcppaddgclkekaaGreat
namespace Go.Proofs.YtcppaddgclkekaaGreat
open Go Go.Lft
set_option linter.unusedSimpArgs false
set_option linter.unusedVariables false
end Go.Proofs.YtcppaddgclkekaaGreat
namespace Go.Proofs.YtcppaddgclkekaaGreat
open Go Go.Lft
set_option linter.unusedSimpArgs false
set_option linter.unusedVariables false
attribute [local congr] Q5 Q6 Q7 Q9 Z7 Z8 za0 Z9 Y0 Y2 za1 Q8
theorem y4D{p:Pl}{L:List (List Og)}{fd:List Int}{gs:List Bt}(r:A)(G:List Blk)(h:G=[]∧∃y:Bool,r=.v (.bool y)∧(y=true→Light p L fd gs)):G=[]∧(r.cl && r.bd 0)=true:=by
 obtain⟨rfl,b,rfl,_⟩:=h;exact⟨rfl,rfl⟩
end Go.Proofs.YtcppaddgclkekaaGreat
namespace Go.Proofs.YtcppaddgclkekaaGreat
open Go Go.Lft
set_option linter.unusedSimpArgs false
set_option linter.unusedVariables false
def tyGoals:Ty:=(.sl (.st [(.int .i64),(.int .i64),(.int .i64),(.int .i64)]))
theorem tyGoals_is:tyGoals.Is Tryz.prog 30:=by
 unfold tyGoals
 simp only[Ty.Is]
 refine⟨60,Tryz.underlying30,by kernel_rfl,by decide,?_⟩
 refine⟨_,Tryz.underlying60,by kernel_rfl,?_⟩
 simp only[Ty.IsL,Ty.Is]
 refine⟨by first|rfl|trivial,by kernel_rfl,?_,?_⟩
 ·
  exact Tryz.underlying3
 refine⟨by first|rfl|trivial,by kernel_rfl,?_,?_⟩
 ·
  exact Tryz.underlying3
 refine⟨by first|rfl|trivial,by kernel_rfl,?_,?_⟩
 ·
  exact Tryz.underlying3
 refine⟨by first|rfl|trivial,by kernel_rfl,?_,?_⟩
 ·
  exact Tryz.underlying3
 trivial
theorem goals_of{es:List A}(h:tyGoals.Sh true es):∃l:List Bt,tyGoals.pk es=.fs true (bts l):=by
 unfold tyGoals at h ⊢
 simp only[Ty.Sh]at h
 obtain⟨M,rfl,hn,h⟩:=h
 obtain⟨bs,h2,_⟩:=z5u (w:=true) (.st [.int .i64,.int .i64,.int .i64,.int .i64]) btA (fun _=>True) (fun ce hce=>xl5 hce) M (fun ce hce=>by simp only[Ty.Sh,Ty.ShL];exact h ce hce)
 exact⟨bs,by show A.fs true _=_;rw[h2];rfl⟩
end Go.Proofs.YtcppaddgclkekaaGreat
namespace Go.Proofs.YtcppaddgclkekaaGreat
open Go Go.Lft
set_option linter.unusedSimpArgs false
set_option linter.unusedVariables false
attribute [local congr] Q5 Q6 Q7 Q9 Z7 Z8 za0 Z9 Y0 Y2 za1 Q8
set_option maxHeartbeats 2000000 in
theorem setpointValues_vr(p:Pl)(xs:List Int)(gl:List Bt)(hl9:xs.length≤9223372036854775807):VR P false zm1 [plA true true p,.fs true (ints xs),.fs true (bts gl)] [] (isR (.v (.bool true))):=by
 refine zN1 (by simp) (.inr rfl) fun _ _=>?_
 have hli:=y0k (w:=true) (v:=true) (u:=false) (a:=true) (b:=true) p [] xs gl
 have haw:=y0j
 have hva:=ye9 (w:=true) (v:=true) (u:=true) (u':=true) p xs gl
 have hvr:=yF8 (u:=true) (u':=true) p xs gl hl9
 unfold y9b at hli
 unfold zu6 at hva hvr
 have hid:∀H:List Blk,LdL H [.agg [.v (.int .i64 p.mat),.fs true (mcs true p.ms),.fs true (bts p.bs),.v (.int .i64 p.fd),.v (.slice none 0 0),.fs true (ints xs),.fs true (bts gl)]] [.agg [.v (.int .i64 p.mat),.fs true (mcs true p.ms),.fs true (bts p.bs),.v (.int .i64 p.fd),.fs false (ogL false []),.fs true (ints xs),.fs true (bts gl)]]:=fun H =>
  ⟨Ld.agg ⟨Ld.refl (by simp (disch:=first|omega|simp (disch:=omega) only[aG,aM,aG37]) only[fZ,aM,aG37]),Ld.refl (by simp (disch:=first|omega|simp (disch:=omega) only[aG,aM,aG37]) only[fZ,aM,aG37]),Ld.refl (by simp (disch:=first|omega|simp (disch:=omega) only[aG,aM,aG37]) only[fZ,aM,aG37]),Ld.refl (by simp (disch:=first|omega|simp (disch:=omega) only[aG,aM,aG37]) only[fZ,aM,aG37]),y2n _,Ld.refl (by simp (disch:=first|omega|simp (disch:=omega) only[aG,aM,aG37]) only[fZ,aM,aG37]),Ld.refl (by simp (disch:=first|omega|simp (disch:=omega) only[aG,aM,aG37]) only[fZ,aM,aG37]),trivial⟩,trivial⟩
 unfold plA plC at *
 generalize valR p xs gl=Y at *
 simp (disch:=(try simp only[lZ]);omega) only[aZ,aM,aG37,ze0,zm3]
 refine hli.useE (hid _) y4D ?_
 rintro _ ⟨-,y,rfl,hy⟩
 refine z7 ?_
 cases y
 ·simp (disch:=(try simp only[lZ]);omega) only[aZ,aM,aG37]
  refine haw.same rfl rfl (z7 ?_)
  simp (disch:=(try simp only[lZ]);omega) only[aZ,aM,aG37,zm4]
  exact y2 ⟨rfl,rfl⟩
 simp (disch:=(try simp only[lZ]);omega) only[aZ,aM,aG37]
 refine hva.same (by simp (disch:=first|omega|simp (disch:=omega) only[aG,aM,aG37]) only[fZ,aM,aG37]) (by simp (disch:=first|omega|simp (disch:=omega) only[aG,aM,aG37]) only[fZ,aM,aG37]) (z7 ?_)
 simp (disch:=(try simp only[lZ]);omega) only[aZ,aM,aG37]
 refine hvr.same (by simp (disch:=first|omega|simp (disch:=omega) only[aG,aM,aG37]) only[fZ,aM,aG37]) (by simp (disch:=first|omega|simp (disch:=omega) only[aG,aM,aG37]) only[fZ,aM,aG37]) (z7 ?_)
 simp (disch:=(try simp only[lZ]);omega) only[aZ,aM,aG37]
 refine haw.same rfl rfl (z7 ?_)
 simp (disch:=(try simp only[lZ]);omega) only[aZ,aM,aG37,zm4]
 exact y2 ⟨rfl,rfl⟩
end Go.Proofs.YtcppaddgclkekaaGreat
