/- Lemmas and walks that the proof of SetpointBests uses. No statement is claimed here. -/
import Derived.Test.YtcppaddgclkekaaGreatSetpointBestsZas
namespace Go.Proofs.YtcppaddgclkekaaGreat
open Go Go.Lft
set_option linter.unusedSimpArgs false
set_option linter.unusedVariables false
attribute [local congr] Q7 Q8 Q9 za1 Z9 Y0 za2 Y2 Y3 Y4 za3 za0
def glE(p:Pl)(g:Bt):Int :=
 if g.fr<0∨(p.ms.length:Int)≤g.fr then 7 else if y3 (p.ms.getD g.fr.toNat [])>0 then 21 else if g.ot<0∨(p.mt:Int)≤g.ot then 18 else if g.to < -1000000∨g.to>1000000∨g.ln<0∨g.ln>1000 then 1 else 0
def badG(p:Pl)(g:Bt):Prop:=glE p g≠0
instance(p:Pl):DecidablePred (badG p):=fun g=>by unfold badG;infer_instance
noncomputable instance twiGd(l:List Bt)(k:Nat):Decidable (∃i,i<k∧(l.getD i b0).fr=(l.getD k b0).fr):=Classical.propDecidable _
def twiG(l:List Bt)(k:Nat):Prop:=∃i,i<k∧(l.getD i b0).fr=(l.getD k b0).fr
noncomputable instance(l:List Bt)(k:Nat):Decidable (twiG l k):=Classical.propDecidable _
def dupG(l:List Bt):Prop:=∃k,k<l.length∧twiG l k
noncomputable instance(l:List Bt):Decidable (dupG l):=Classical.propDecidable _
noncomputable def zb3(p:Pl)(l:List Bt):Int:=if 24<l.length then 8 else if 0≤idxE (badG p) l then glE p (l.getD (idxE (badG p) l).toNat b0)else if dupG l then 6 else 0
def yD9(l:List Bt)(k:Nat):List Bool:=(List.range 24).map fun m:Nat=>decide (∃i,i<k∧(l.getD i b0).fr=(m:Int))
theorem zO4(l:List Bt)(k:Nat):(yD9 l k).length=24:=by simp [yD9]
theorem z42(l:List Bt)(k m:Nat)(h:m<24):(yD9 l k).getD m false=decide (∃i,i<k∧(l.getD i b0).fr=(m:Int)):=by simp [yD9,List.getD_eq_getElem?_getD,h]
theorem y1b(l:List Bt):yD9 l 0=List.replicate 24 false:=by
 refine Z5 false (by simp [zO4]) fun i hi=>?_
 rw[zO4]at hi
 rw[z42 _ _ _ hi,decide_eq_false (by rintro⟨j,hj,_⟩;omega)]
 rw[List.getD_eq_getElem?_getD,List.getElem?_replicate,if_pos hi];rfl
theorem y5l(l:List Bt)(k:Nat)(h:0≤(l.getD k b0).fr∧(l.getD k b0).fr<24):(yD9 l k).set (l.getD k b0).fr.toNat true=yD9 l (k+1):=by
 refine Z5 false (by simp [zO4]) fun i hi=>?_
 rw[List.length_set,zO4]at hi
 rw[z42 _ _ _ hi,List.getD_eq_getElem?_getD]
 by_cases e:(l.getD k b0).fr.toNat=i
 ·subst e
  rw[List.getElem?_set_self (by rw[zO4];exact hi),decide_eq_true ⟨k,by omega,by omega⟩];rfl
 ·rw[List.getElem?_set_ne e,← List.getD_eq_getElem?_getD,z42 _ _ _ hi]
  by_cases h2:∃j,j<k∧(l.getD j b0).fr=(i:Int)
  ·obtain⟨j,h3,h4⟩:=h2
   rw[decide_eq_true ⟨j,h3,h4⟩,decide_eq_true ⟨j,by omega,h4⟩]
  ·rw[decide_eq_false h2,decide_eq_false]
   rintro⟨j,h3,h4⟩
   by_cases ej:j=k
   ·subst ej;omega
   ·exact h2 ⟨j,by omega,h4⟩
theorem yE0{p:Pl}{l:List Bt}(hl:¬24<l.length){k:Nat}(hk:k<l.length)(hg:∀i,i<k→¬badG p (l.getD i b0))(hb:glE p (l.getD k b0)≠0):zb3 p l=glE p (l.getD k b0):=by
 have:=zH3 b0 hk hg hb
 unfold zb3
 rw[if_neg hl,if_pos (by omega),this,Int.toNat_natCast]
theorem z1m{p:Pl}{l:List Bt}(hl:¬24<l.length)(hg:∀i,i<l.length→¬badG p (l.getD i b0)):zb3 p l=if dupG l then 6 else 0:=by
 have:=zn4 b0 hg
 unfold zb3
 rw[if_neg hl,if_neg (by omega)]
theorem yL3{p:Pl}{g:Bt}(h:¬badG p g):0≤g.fr∧g.fr<p.ms.length∧y3 (p.ms.getD g.fr.toNat [])=0∧0≤g.ot∧g.ot<p.mt∧-1000000≤g.to∧g.to≤1000000∧0≤g.ln∧g.ln≤1000:=by
 unfold badG glE at h
 split at h
 ·exact absurd (by decide) h
 split at h
 ·exact absurd (by decide) h
 split at h
 ·exact absurd (by decide) h
 split at h
 ·exact absurd (by decide) h
 omega
theorem z93{w v u:Bool}{p:Pl}(ok:POk p)(l:List Bt):VR P false zK6 [plA w v p,.fs u (bts l)] [] (isR (.v (.int .i64 (zb3 p l)))):=by
 refine z3F (by simp) (.inr rfl) fun _ _=>?_
 obtain⟨m1,m2,m3⟩:=ok.mt1
 have n2:=ok.n2
 unfold plA plC
 rw[m3]
 by_cases h1:(l.length:Int)>24
 ·have e:zb3 p l=8:=by unfold zb3;rw[if_pos (by omega)]
  rw[e]
  simp (disch:=(try simp only[lZ]);omega) only[aZ,aM,zh5,zp3,decide_eq_true h1,x6]
  exact y1 ⟨rfl,rfl⟩
 have h1':¬24<l.length:=by omega
 simp (disch:=(try simp only[lZ]);omega) only[aZ,aM,zh5,zp3,decide_eq_false h1]
 refine AWP.loopP z2C (fun k:Nat=>k≤l.length∧∀i,i<k→¬badG p (l.getD i b0)) (fun k=>[(2,.v (.int .i64 0)),(3,.v (.int .i64 k))]) (fun _=>[]) (fun k=>l.length-k) 0 ⟨by omega,fun i hi=>absurd hi (by omega)⟩ ?_ ?_
 ·exact Cut.fg (by simp (disch:=first|omega|simp (disch:=omega) only[aG,aM]) only[fZ,aM,y0,z9,or_true,true_or])
 rintro k ⟨hk,hg⟩
 by_cases hkt:k<l.length
 ·have ew:=yE0 h1' hkt hg
  have hgs:¬badG p (l.getD k b0)→∀i,i<k+1→¬badG p (l.getD i b0):=fun h i hi=>by
   by_cases e:i=k
   ·subst e;exact h
   ·exact hg i (by omega)
  generalize hgk:l.getD k b0=g at *
  by_cases c1:g.fr<0∨g.fr≥p.ms.length
  ·have e:glE p g=7:=by unfold glE;rw[if_pos (by omega)]
   rw[ew (by omega),e]
   rcases c1 with h|h
   ·simp (disch:=(try simp only[lZ]);omega) only[aZ,aM,hgk,decide_eq_true h,x6]
    exact y1 ⟨rfl,rfl⟩
   ·simp (disch:=(try simp only[lZ]);omega) only[aZ,aM,hgk,decide_eq_false (show ¬g.fr<0 by omega),decide_eq_true h,x6]
    exact y1 ⟨rfl,rfl⟩
  have ho:=(W5 (w:=w) (p.ms.getD g.fr.toNat []))
  unfold mcA mcC at ho
  simp (disch:=(try simp only[lZ]);omega) only[aZ,aM,hgk,decide_eq_false (show ¬g.fr<0 by omega),decide_eq_false (show ¬g.fr≥p.ms.length by omega)]
  refine ho.same (by simp (disch:=first|omega|simp (disch:=omega) only[aG,aM]) only[fZ,aM]) rfl (z7 ?_)
  by_cases c2:((y3 (p.ms.getD g.fr.toNat []):Nat):Int)>0
  ·have e:glE p g=21:=by unfold glE;rw[if_neg (by omega),if_pos (by omega)]
   rw[ew (by omega),e]
   simp (disch:=(try simp only[lZ]);omega) only[aZ,aM,decide_eq_true c2,x6]
   exact y1 ⟨rfl,rfl⟩
  by_cases c3:g.ot<0∨g.ot≥p.mt
  ·have e:glE p g=18:=by unfold glE;rw[if_neg (by omega),if_neg (by omega),if_pos (by omega)]
   rw[ew (by omega),e]
   rcases c3 with h|h
   ·simp (disch:=(try simp only[lZ]);omega) only[aZ,aM,decide_eq_false c2,decide_eq_true h,x6]
    exact y1 ⟨rfl,rfl⟩
   ·simp (disch:=(try simp only[lZ]);omega) only[aZ,aM,decide_eq_false c2,decide_eq_false (show ¬g.ot<0 by omega),decide_eq_true h,x6]
    exact y1 ⟨rfl,rfl⟩
  by_cases c4:g.to < -1000000∨g.to>1000000∨g.ln<0∨g.ln>1000
  ·have e:glE p g=1:=by unfold glE;rw[if_neg (by omega),if_neg (by omega),if_neg (by omega),if_pos c4]
   rw[ew (by omega),e]
   by_cases d1:g.to < -1000000
   ·simp (disch:=(try simp only[lZ]);omega) only[aZ,aM,decide_eq_false c2,decide_eq_false (show ¬g.ot<0 by omega),decide_eq_false (show ¬g.ot≥p.mt by omega),decide_eq_true d1,x6]
    exact y1 ⟨rfl,rfl⟩
   by_cases d2:g.to>1000000
   ·simp (disch:=(try simp only[lZ]);omega) only[aZ,aM,decide_eq_false c2,decide_eq_false (show ¬g.ot<0 by omega),decide_eq_false (show ¬g.ot≥p.mt by omega),decide_eq_false d1,decide_eq_true d2,x6]
    exact y1 ⟨rfl,rfl⟩
   by_cases d3:g.ln<0
   ·simp (disch:=(try simp only[lZ]);omega) only[aZ,aM,decide_eq_false c2,decide_eq_false (show ¬g.ot<0 by omega),decide_eq_false (show ¬g.ot≥p.mt by omega),decide_eq_false d1,decide_eq_false d2,decide_eq_true d3,x6]
    exact y1 ⟨rfl,rfl⟩
   have d4:g.ln>1000:=by omega
   simp (disch:=(try simp only[lZ]);omega) only[aZ,aM,decide_eq_false c2,decide_eq_false (show ¬g.ot<0 by omega),decide_eq_false (show ¬g.ot≥p.mt by omega),decide_eq_false d1,decide_eq_false d2,decide_eq_false d3,decide_eq_true d4,x6]
   exact y1 ⟨rfl,rfl⟩
  have hgood:¬badG p g:=by
   unfold badG glE
   rw[if_neg (by omega),if_neg (by omega),if_neg (by omega),if_neg c4];decide
  simp (disch:=(try simp only[lZ]);omega) only[aZ,aM,decide_eq_false c2,decide_eq_false (show ¬g.ot<0 by omega),decide_eq_false (show ¬g.ot≥p.mt by omega),decide_eq_false (show ¬g.to < -1000000 by omega),decide_eq_false (show ¬g.to>1000000 by omega),decide_eq_false (show ¬g.ln<0 by omega),decide_eq_false (show ¬g.ln>1000 by omega)]
  refine⟨k+1,⟨by omega,hgs hgood⟩,by omega,?_⟩
  exact Cut.of' 1 rfl (by omega) (by simp (disch:=first|omega|simp (disch:=omega) only[aG,aM]) only[fZ,aM]) (by simp (disch:=first|omega|simp (disch:=omega) only[aG,aM]) only[fZ,aM])
 have hke:k=l.length:=by omega
 subst hke
 rw[z1m h1' hg]
 have hz:=y1b l
 simp (disch:=(try simp only[lZ]);omega) only[aZ,aM]
 refine AWP.loopP z2D (fun k:Nat=>k≤l.length∧∀j,j<k→¬twiG l j) (fun k=>[(2,.v (.int .i64 0)),(13,.v (.int .i64 k))]) (fun k=>[(1,⟨0,za9 (yD9 l k)⟩)]) (fun k=>l.length-k) 0 ⟨by omega,fun i hi=>absurd hi (by omega)⟩ ?_ ?_
 ·rw[hz]
  exact Cut.of' 2 rfl (by omega) (by simp (disch:=first|omega|simp (disch:=omega) only[aG,aM]) only[fZ,aM]) (by simp (disch:=first|omega|simp (disch:=omega) only[aG,aM]) only[fZ,aM])
 clear hz
 rintro k ⟨hk,ht⟩
 have sl:=zO4 l k
 by_cases hkt:k<l.length
 ·obtain⟨q1,q2,_⟩:=yL3 (hg k hkt)
  have hsg:=z42 l k (l.getD k b0).fr.toNat (by omega)
  have hss:=y5l l k ⟨q1,by omega⟩
  have htw:twiG l k↔∃i,i<k∧(l.getD i b0).fr=(((l.getD k b0).fr.toNat:Nat):Int):=by rw[Int.toNat_of_nonneg q1];exact Iff.rfl
  rw[← show(decide (twiG l k)=_)from decide_eq_decide.2 htw]at hsg
  generalize hgk:l.getD k b0=g at *
  by_cases hd:twiG l k
  ·rw[decide_eq_true hd]at hsg
   rw[if_pos (show dupG l from⟨k,hkt,hd⟩)]
   simp (disch:=(try simp only[lZ]);omega) only[aZ,aM,hgk,hsg,x6]
   exact y1 ⟨rfl,rfl⟩
  ·rw[decide_eq_false hd]at hsg
   simp (disch:=(try simp only[lZ]);omega) only[aZ,aM,hgk,hsg,hss]
   refine⟨k+1,⟨by omega,fun j hj=>?_⟩,by omega,?_⟩
   ·by_cases e:j=k
    ·subst e;exact hd
    ·exact ht j (by omega)
   ·exact Cut.of' 2 rfl (by omega) (by simp (disch:=first|omega|simp (disch:=omega) only[aG,aM]) only[fZ,aM]) (by simp (disch:=first|omega|simp (disch:=omega) only[aG,aM]) only[fZ,aM])
 have hke:k=l.length:=by omega
 subst hke
 rw[if_neg (show ¬dupG l from fun⟨k,h1,h2⟩=>ht k h1 h2)]
 simp (disch:=(try simp only[lZ]);omega) only[aZ,aM,x6]
 exact y1 ⟨rfl,rfl⟩
def wrt(Y:List (List Int))(g:Bt):Int:=if(purM (Y.getD g.fr.toNat []) g.ot).2=0∧g.ln≤(purM (Y.getD g.fr.toNat []) g.ot).1 then(Y.getD g.fr.toNat []).sum*g.to else 0
theorem y5m(Y:List (List Int))(g:Bt):wrt Y g=if(purM (Y.getD g.fr.toNat []) g.ot).2=0∧g.ln≤(purM (Y.getD g.fr.toNat []) g.ot).1 then(Y.getD g.fr.toNat []).sum*g.to else 0:=rfl
def wrtL(Y:List (List Int))(l:List Bt):List Int:=l.map (wrt Y)
def wrtS(Y:List (List Int))(l:List Bt):Int:=(wrtL Y l).sum
def yE1(Y:List (List Int))(g:Bt):Prop:=0≤g.fr∧g.fr<Y.length∧-1000000≤g.to∧g.to≤1000000∧mixE (Y.getD g.fr.toNat [])=0
theorem yE2{Y:List (List Int)}{g:Bt}(h:yE1 Y g):-17179869184000000≤wrt Y g∧wrt Y g≤17179869184000000∧-17179869184000000≤(Y.getD g.fr.toNat []).sum*g.to∧(Y.getD g.fr.toNat []).sum*g.to≤17179869184000000:=by
 obtain⟨h1,h2,h3,h4,h5⟩:=h
 have h6:=z9u h5
 have q1:(Y.getD g.fr.toNat []).sum*g.to≤(Y.getD g.fr.toNat []).sum*1000000:=Int.mul_le_mul_of_nonneg_left h4 h6.1
 have q2:(Y.getD g.fr.toNat []).sum*(-1000000)≤(Y.getD g.fr.toNat []).sum*g.to:=Int.mul_le_mul_of_nonneg_left h3 h6.1
 refine⟨?_,?_,by omega,by omega⟩
 ·unfold wrt;split<;>omega
 ·unfold wrt;split<;>omega
theorem z7W(Y:List (List Int))(l:List Bt):(wrtL Y l).length=l.length:=by simp [wrtL]
theorem z43(Y:List (List Int))(l:List Bt)(k:Nat)(h:k<l.length):(wrtL Y l).getD k 0=wrt Y (l.getD k b0):=by simp [wrtL,List.getD_eq_getElem?_getD,h]
theorem yj9{u u':Bool}(Y:List (List Int))(l:List Bt)(hl:l.length≤24)(hY:Y.length≤24)(hg:∀g∈l,yE1 Y g):VR P false zV5 [.fs u (rows true Y),.fs u' (bts l)] [] (isR (.v (.int .i64 (wrtS Y l)))):=by
 refine z5t (by simp) (.inr rfl) fun _ _=>?_
 have hL:=z7W Y l
 have hbd:∀k,k≤l.length→-17179869184000000*(k:Int)≤sumT (wrtL Y l) k∧sumT (wrtL Y l) k≤17179869184000000*k:=fun k hk=>zB5 (wrtL Y l) (-17179869184000000) 17179869184000000 k (by omega) fun i hi=>by
  rw[z43 _ _ _ (by omega)]
  have:=yE2 (hg _ (x3 b0 (k:=i) (l:=l) (by omega)))
  omega
 have hsu:=fun k hk=>ze9 (wrtL Y l) k hk
 have hall:sumT (wrtL Y l) l.length=wrtS Y l:=by rw[← hL];exact zd8 _
 simp (disch:=(try simp only[lZ]);omega) only[aZ,aM,zu7,zV7]
 refine AWP.loopP z3G (fun k:Nat=>k≤l.length) (fun k=>[(3,.v (.int .i64 (sumT (wrtL Y l) k))),(4,.v (.int .i64 k))]) (fun _=>[]) (fun k=>l.length-k) 0 (by omega) ?_ ?_
 ·rw[ze8]
  exact Cut.fg (by simp (disch:=first|omega|simp (disch:=omega) only[aG,aM]) only[fZ,aM,y0,z9,or_true,true_or])
 rintro k hk
 by_cases hkt:k<l.length
 case neg =>
  have hke:k=l.length:=by omega
  subst hke
  rw[← hall]
  simp (disch:=(try simp only[lZ]);omega) only[aZ,aM,z7a]
  exact y1 ⟨rfl,rfl⟩
 have hgk:=hg _ (x3 b0 (k:=k) (l:=l) hkt)
 have hs:=hsu k (by omega)
 rw[z43 _ _ _ hkt]at hs
 have b1:=hbd k hk
 have b2:=yE2 hgk
 have hw:=y5m Y (l.getD k b0)
 have hpu:=fun i=>z5Y (w:=true) (Y.getD (l.getD k b0).fr.toNat []) i
 have hto:=zY0 (w:=true) (Y.getD (l.getD k b0).fr.toNat [])
 rw[z9t hgk.2.2.2.2]at hto
 unfold zw1 at hpu hto
 obtain⟨q1,q2,q3,q4,q5⟩:=hgk
 generalize hgg:l.getD k b0=g at *
 generalize hmm:Y.getD g.fr.toNat []=m at *
 simp (disch:=(try simp only[lZ]);omega) only[aZ,aM,hgg,hmm]
 refine(hpu g.ot).same (by simp (disch:=first|omega|simp (disch:=omega) only[aG,aM]) only[fZ,aM]) rfl (z7 ?_)
 by_cases h1:(purM m g.ot).2=0
 ·by_cases h2:(purM m g.ot).1≥g.ln
  ·rw[if_pos ⟨h1,h2⟩]at hw
   simp (disch:=(try simp only[lZ]);omega) only[aZ,aM,h1,decide_eq_true h2]
   refine hto.same (by simp (disch:=first|omega|simp (disch:=omega) only[aG,aM]) only[fZ,aM]) rfl (z7 ?_)
   simp (disch:=(try simp only[lZ]);omega) only[aZ,aM]
   rw[← hw,← hs]
   refine⟨k+1,by omega,by omega,?_⟩
   exact Cut.of' 0 rfl (by omega) (by simp (disch:=first|omega|simp (disch:=omega) only[aG,aM]) only[fZ,aM]) (by simp (disch:=first|omega|simp (disch:=omega) only[aG,aM]) only[fZ,aM])
  ·rw[if_neg (fun h=>h2 h.2)]at hw
   rw[hw,Int.add_zero]at hs
   simp (disch:=(try simp only[lZ]);omega) only[aZ,aM,h1,decide_eq_false h2]
   refine⟨k+1,by omega,by omega,?_⟩
   rw[hs]
   exact Cut.of' 0 rfl (by omega) (by simp (disch:=first|omega|simp (disch:=omega) only[aG,aM]) only[fZ,aM]) (by simp (disch:=first|omega|simp (disch:=omega) only[aG,aM]) only[fZ,aM])
 ·rw[if_neg (fun h=>h1 h.1)]at hw
  rw[hw,Int.add_zero]at hs
  simp (disch:=(try simp only[lZ]);omega) only[aZ,aM,decide_eq_false h1]
  refine⟨k+1,by omega,by omega,?_⟩
  rw[hs]
  exact Cut.of' 0 rfl (by omega) (by simp (disch:=first|omega|simp (disch:=omega) only[aG,aM]) only[fZ,aM]) (by simp (disch:=first|omega|simp (disch:=omega) only[aG,aM]) only[fZ,aM])
noncomputable def valR(p:Pl)(xs:List Int)(l:List Bt):Int×Int:=if(yldR p xs).2≠0 then(0,(yldR p xs).2)else if zb3 p l≠0 then(0,zb3 p l)else(wrtS (yldL p xs) l,0)
theorem z44(p:Pl)(xs:List Int):(yldL p xs).length=p.ms.length:=by simp [yldL]
theorem y0z(p:Pl)(xs:List Int)(m:Nat)(h:m<p.ms.length):(yldL p xs).getD m []=yldM p xs m:=by simp [yldL,List.getD_eq_getElem?_getD,h]
theorem ys3{p:Pl}{xs:List Int}(h:(yldR p xs).2=0):chkP p=0∧fedE p xs=0∧yldR p xs=(yldL p xs,0):=by
 unfold yldR at h ⊢
 by_cases h1:chkP p=0
 ·rw[if_neg (fun h=>h h1)]at h ⊢
  by_cases h2:fedE p xs=0
  ·rw[if_neg (fun h=>h h2)];exact⟨h1,h2,rfl⟩
  ·rw[if_pos h2]at h;exact absurd h h2
 ·rw[if_pos h1]at h;exact absurd h h1
theorem y5n{p:Pl}{xs:List Int}(hc:chkP p=0)(hf:fedE p xs=0){m:Nat}(hm:m<p.ms.length):zn7 p.mt (yldM p xs m):=by
 have hg:=((yD6 hc hf).1.it (zc7 hc).1 (yN p xs)).1
 unfold yldM
 split
 ·exact hg.ok.bef m hm
 ·exact zi2 _
theorem ys4{p:Pl}{xs:List Int}(hc:chkP p=0)(hf:fedE p xs=0){l:List Bt}(hw:zb3 p l=0):l.length≤24∧∀g∈l,yE1 (yldL p xs) g:=by
 have ok:=y7 (zc7 hc).1
 have hl:¬24<l.length:=fun h=>by unfold zb3 at hw;rw[if_pos h]at hw;cases hw
 refine⟨by omega,fun g hg=>?_⟩
 have hb:¬badG p g:=by
  unfold zb3 at hw
  rw[if_neg hl]at hw
  split at hw
  ·rename_i h
   exact absurd hw (z0W b0 h)
  ·rename_i h
   exact zS9 (by omega) g hg
 obtain⟨q1,q2,q3,q4,q5,q6,q7,q8,q9⟩:=yL3 hb
 refine⟨q1,by rw[z44];exact q2,q6,q7,?_⟩
 rw[y0z _ _ _ (by omega)]
 exact yJ9 ok.mt1.2.1 (y5n hc hf (by omega))
theorem y1c{w v u u':Bool}(p:Pl)(xs:List Int)(l:List Bt):VR P false zU7 [plA w v p,.fs u (ints xs),.fs u' (bts l)] [] (isR (zw1 (valR p xs l))):=by
 refine z5p (by simp) (.inr rfl) fun _ _=>?_
 have hy:=z55 (w:=w) (v:=v) (u:=u) p xs
 unfold yldT at hy
 unfold plA plC zw1 at *
 by_cases h1:(yldR p xs).2=0
 case neg =>
  have e:valR p xs l=(0,(yldR p xs).2):=by unfold valR;rw[if_pos h1]
  rw[e]
  simp (disch:=(try simp only[lZ]);omega) only[aZ,aM,zk0,zu3]
  refine hy.same (by simp (disch:=first|omega|simp (disch:=omega) only[aG,aM]) only[fZ,aM]) (by simp (disch:=first|omega|simp (disch:=omega) only[aG,aM]) only[fZ,aM]) (z7 ?_)
  simp (disch:=(try simp only[lZ]);omega) only[aZ,aM,decide_eq_true (show ¬(yldR p xs).2=0 from h1),zu4]
  exact y8 (Fz.refl rfl) ⟨rfl,rfl⟩
 obtain⟨hc,hf,hyr⟩:=ys3 h1
 have ok:=y7 (zc7 hc).1
 have hw:=z93 (w:=w) (v:=v) (u:=u') ok l
 unfold plA plC at hw
 rw[hyr]at hy h1
 simp (disch:=(try simp only[lZ]);omega) only[aZ,aM,zk0,zu3]
 refine hy.same (by simp (disch:=first|omega|simp (disch:=omega) only[aG,aM]) only[fZ,aM]) (by simp (disch:=first|omega|simp (disch:=omega) only[aG,aM]) only[fZ,aM]) (z7 ?_)
 simp (disch:=(try simp only[lZ]);omega) only[aZ,aM]
 refine hw.same (by simp (disch:=first|omega|simp (disch:=omega) only[aG,aM]) only[fZ,aM]) rfl (z7 ?_)
 by_cases h2:zb3 p l=0
 case neg =>
  have e:valR p xs l=(0,zb3 p l):=by unfold valR;rw[hyr,if_neg (fun h=>h rfl),if_pos h2]
  rw[e]
  simp (disch:=(try simp only[lZ]);omega) only[aZ,aM,decide_eq_true (show ¬zb3 p l=0 from h2),zu4]
  exact y8 (Fz.refl rfl) ⟨rfl,rfl⟩
 have e:valR p xs l=(wrtS (yldL p xs) l,0):=by unfold valR;rw[hyr,if_neg (fun h=>h rfl),if_neg (fun h=>h h2)]
 rw[e]
 obtain⟨g1,g2⟩:=ys4 hc hf h2
 have hwo:=yj9 (u:=true) (u':=u') (yldL p xs) l g1 (by rw[z44];exact ok.n2) g2
 simp (disch:=(try simp only[lZ]);omega) only[aZ,aM,h2]
 refine hwo.same (by simp (disch:=first|omega|simp (disch:=omega) only[aG,aM]) only[fZ,aM]) rfl (z7 ?_)
 simp (disch:=(try simp only[lZ]);omega) only[aZ,aM,zu4]
 exact y8 (Fz.refl rfl) ⟨rfl,rfl⟩
def Own1(K:List Blk)(n:Nat)(b:Nat)(ad:Rd)(x:A)(l:List Int):Prop:=∃q:Nat×Nat,x=slA q l.length∧blkAt K q.1 q.2=some (ints l)∧n≤q.1∧¬ftR b ad q.1
theorem Own1.gr{F:Nat→Prop}{K K':List Blk}{n b:Nat}{ad:Rd}{x:A}{l:List Int}(h:Own1 K n b ad x l)(g:Gr F K K')(hF:∀i,F i→i<n∨ftR b ad i):Own1 K' n b ad x l:=by
 obtain⟨q,h1,h2,h3,h4⟩:=h
 exact⟨q,h1,g.at h2 fun hf=>by
  rcases hF _ hf with h5|h5
  ·omega
  ·exact h4 h5,h3,h4⟩
structure CI(H:List Blk)(p:Pl)(o:Nat)(ad:Rd)(r:Rs)(K:List Blk)(bx:List A):Prop where
 rm:RM K p p.ms.length p.bs.length ad r
 ro:(ad .out).1=o
 bx:blkAt K H.length 0=some bx
 rv:blkAt K (H.length+1) 0=some [.v (.int .i64 0),nilS,nilS,.v (.int .i64 0),nilS,nilS,nilS,nilS]
 g:Gr nof H K
 hi:∀c,usR p.bs.length c=true→H.length+1<(ad c).1
theorem CI.gr{H:List Blk}{p:Pl}{o:Nat}{ad:Rd}{r:Rs}{K K':List Blk}{bx:List A}(h:CI H p o ad r K bx)(g:Gr nof K K'):CI H p o ad r K' bx :=
 ⟨h.rm.gr g fun _ _ h=>h,h.ro,g.at h.bx fun h=>h,g.at h.rv fun h=>h,h.g.trans g fun _ _ h=>h,h.hi⟩
theorem CI.put{H:List Blk}{p:Pl}{o:Nat}{ad:Rd}{r r':Rs}{K K':List Blk}{bx:List A}(h:CI H p o ad r K bx)(c:Rc)(hc:usR p.bs.length c=true)(hr:RM K' p p.ms.length p.bs.length ad r')(g:Gr (one (ad c).1) K K'):CI H p o ad r' K' bx:=by
 have:=h.hi c hc
 exact⟨hr,h.ro,g.at h.bx (fun hf=>by have:H.length=(ad c).1:=hf;omega),g.at h.rv (fun hf=>by have:H.length+1=(ad c).1:=hf;omega),h.g.trans g fun i hi hf=>by have:i=(ad c).1:=hf;omega,h.hi⟩
def CB(H:List Blk)(p:Pl)(j:Nat)(ad:Rd)(s:Sy)(r:Rs)(Q:List Blk):Prop:=(∀m,m<p.ms.length→m≠j→r.bc m=fzI (s.bef m))∧(∀m,m<p.ms.length→r.hl m=s.hal.getD m false)∧r.fd=y9 p.mt∧(j<p.ms.length→Own1 Q (H.length+2) p.bs.length ad (r.bc j) (s.bef j))
theorem CB.sl{H:List Blk}{p:Pl}{j:Nat}{ad:Rd}{s:Sy}{r:Rs}{Q:List Blk}(h:CB H p j ad s r Q){i:Nat}(hi:i<p.bs.length)(B:Blk)(f:Nat→Nat→A):CB H p j ad s {r with sc:=f} (Q.set (ad (.sl i)).1 B) :=
 ⟨h.1,h.2.1,h.2.2.1,fun hj=>(h.2.2.2 hj).gr (Gr.set (F:=one (ad (.sl i)).1) _ _ _ rfl) fun y hy=>.inr ⟨.sl i,by simpa [usR]using hi,hy.symm⟩⟩
theorem yL4{p:Pl}{s:Sy}(h:SyOk p s){i k:Nat}(hi:i<p.bs.length)(hk:k≤p.rl i):zn7 p.mt (slt p s i k):=by
 cases k with
 | zero=>exact h.fst i hi
 | succ k=>exact h.rng i hi _ (Nat.mod_lt _ (by omega))
theorem z94{H:List Blk}(p:Pl)(s:Sy)(hp:y6 p=0)(hs:SyOk p s)(j:Nat):VR P false z11 [stA p s] H (fun x H'=>∃(ad:Rd) (r:Rs),x=.agg (outC p p.ms.length p.bs.length ad r.fd)∧RM H' p p.ms.length p.bs.length ad r∧Gr nof H H'∧(∀c,usR p.bs.length c=true→H.length≤(ad c).1)∧Shw p j r s∧(j<p.ms.length→Own1 H' H.length p.bs.length ad (r.bc j) (s.bef j))):=by
 refine z8N (by simp) (.inl rfl) fun _ _=>?_
 have ok:=y7 hp
 obtain⟨m1,m2,m3⟩:=ok.mt1
 have n1:=ok.n1
 have n2:=ok.n2
 have b2:=ok.b2
 have hnw:=fun H=>y0u (H:=H) (w:=true) (v:=true) p hp
 unfold stA stC
 simp (disch:=(try simp only[lZ]);omega) only[aZ,aM,aT,zI9,z13]
 refine(hnw _).mono ?_
 rintro x K ⟨ad0,rfl,R0,G0,L0⟩
 have B0:=G0.at (i:=H.length) (ver:=0) (by rw[x5];rfl) fun h=>h
 have V0:=G0.at (i:=H.length+1) (ver:=0) (by rw[zg6];rfl) fun h=>h
 refine z7 ?_
 unfold outC
 simp (disch:=(try simp only[lZ]);omega) only[aZ,aM,aT]
 have C0:CI H p K.length (fun c=>if c=.out then(K.length,0)else ad0 c) (rs0 p) (K++[⟨0,outC p p.ms.length p.bs.length ad0 (rs0 p).fd⟩]) _:=⟨R0.anew,rfl,by rw[x2 _ _ _ _ (y4 B0)];exact B0,by rw[x2 _ _ _ _ (y4 V0)];exact V0,((Gr.app (F:=nof) H _).trans G0 fun _ _ h=>h).trans (Gr.app (F:=nof) _ _) fun _ _ h=>h,fun c hc=>by
  have h1:=y4 V0
  by_cases e:c=.out
  ·rw[if_pos e];exact h1
  ·rw[if_neg e]
   have:=L0 c hc
   simp at this;omega⟩
 generalize hA:(fun c=>if c=Rc.out then(K.length,0)else ad0 c)=ad at C0
 obtain⟨o,ho⟩:∃o,o=K.length:=⟨_,rfl⟩
 rw[← ho]at C0 ⊢
 obtain⟨Q0,hQ0⟩:∃Q0,Q0=K++[⟨0,outC p p.ms.length p.bs.length ad0 (rs0 p).fd⟩]:=⟨_,rfl⟩
 rw[← hQ0]at C0
 refine AWP.cut (e':=_) (H':=Q0) (by rw[hQ0];exact Cut.refl _ _ _) ?_
 clear R0 G0 L0 B0 V0 hA hQ0 ho
 generalize hbx:stC p s=bx at C0
 unfold stC at hbx
 subst hbx
 refine AWP.loopM z7i (fun x:Nat×Rs×List Blk=>x.1≤p.ms.length∧CI H p o ad x.2.1 x.2.2 _∧(∀m,m<p.ms.length→x.1≤m→x.2.1.bc m=fzI (y9 p.mt))∧(∀m,m<x.1→m≠j→x.2.1.bc m=fzI (s.bef m))∧(∀m,m<x.1→x.2.1.hl m=s.hal.getD m false)∧x.2.1.sc=(rs0 p).sc∧x.2.1.fd=y9 p.mt∧(j<x.1→Own1 x.2.2 (H.length+2) p.bs.length ad (x.2.1.bc j) (s.bef j))) (fun x=>[(3,.v (.int .i64 x.1))]) (fun x=>x.2.2) (fun x=>p.ms.length-x.1) (0,rs0 p,Q0) ⟨by omega,C0,fun m _ _=>rfl,fun m h=>by simp at h,fun m h=>by simp at h,rfl,rfl,fun h=>by simp at h⟩ ?_ ?_
 ·exact Cut.fg (by simp (disch:=first|omega|simp (disch:=omega) only[aG,aM,aT]) only[fZ,aM,aT,y0,z9,or_true,true_or])
 clear C0
 rintro⟨i,r,Q⟩ ⟨hi,C,z1,z2,z3,z4,z5,z6⟩
 simp only at hi C z1 z2 z3 z4 z5 z6
 have qo:=C.rm.ot
 rw[C.ro]at qo
 have qx:=C.bx
 have bl:=zH4 p s
 by_cases hlt:i<p.ms.length
 ·have qb:=C.rm.get .bef rfl
  have qh:=C.rm.get .hal rfl
  simp only[ctR]at qb qh
  have e1:=y0t p s i hlt
  have e2:=z64 p.ms.length r.bc i hlt
  rw[z1 i hlt (Nat.le_refl _)]at e2
  have e3:=zC0 p.ms.length r.bc
  have e4:=z91 p.ms.length r.bc i
  have e5:=zC0 p.ms.length r.hl
  have e6:=fun x=>y8I p.ms.length r.hl i x
  have hbi:=hs.bef i hlt
  have hbl:=hbi.1
  have hsl:=hs.hal
  have lb:=y4 qb
  have lh:=y4 qh
  have lo:=y4 qo
  have nbo:=C.rm.ne (c:=.bef) (d:=.out) rfl rfl (by simp)
  have nho:=C.rm.ne (c:=.hal) (d:=.out) rfl rfl (by simp)
  have nbh:=C.rm.ne (c:=.bef) (d:=.hal) rfl rfl (by simp)
  rw[C.ro]at nbo nho
  have hib:=C.hi .bef rfl
  have hih:=C.hi .hal rfl
  have hio:=C.hi .out rfl
  rw[C.ro]at hio
  unfold outC at qo
  by_cases hij:i=j
  ·subst hij
   have hpv:=fun H=>xa0 (kp:=true) (w:=true) (v:=true) (H:=H) (s.bef i) (y9 p.mt) (by rw[hbl];simp) (z7V hbi) (by omega)
   rw[z1l hbl]at hpv
   simp (disch:=(try simp only[lZ]);omega) only[aZ,aM,aT,qx,qo,qb,qh,e1,e2,e3,e5]
   refine(hpv _).mono ?_
   rintro y Q1 ⟨rfl,hQ1⟩
   have g1:Gr nof Q Q1:=by rw[hQ1];exact Gr.app _ _
   have a1:blkAt Q1 Q.length (s.bef i).length=some (ints (s.bef i)):=by rw[hQ1,x5];simp [blkAt]
   clear hQ1
   have D:=C.gr g1
   have lb1:=Nat.lt_of_lt_of_le lb g1.1
   have lh1:=Nat.lt_of_lt_of_le lh g1.1
   have lo1:=Nat.lt_of_lt_of_le lo g1.1
   replace qo:=g1.at qo fun h=>h
   replace qx:=g1.at qx fun h=>h
   replace qb:=g1.at qb fun h=>h
   replace qh:=g1.at qh fun h=>h
   have own:Own1 Q1 (H.length+2) p.bs.length ad (slA (Q.length,(s.bef i).length) (s.bef i).length) (s.bef i):=⟨_,rfl,a1,by have:=y4 C.rv;simp only;omega,by
    rintro⟨c,hc,he⟩
    have:=C.rm.lt hc
    simp only at he;omega⟩
   unfold slA at own
   refine z7 ?_
   simp (disch:=(try simp only[lZ]);omega) only[aZ,aM,aT,qx,qo,qb,qh,e1,e2,e3,e4,e5,e6]
   have C1:=D.put .bef rfl (D.rm.putB i (.sl Q.length (s.bef i).length 1 0 (s.bef i).length)) (Gr.set (F:=one (ad .bef).1) _ _ _ rfl)
   have C2:=C1.put .hal rfl (C1.rm.putH i (s.hal.getD i false)) (Gr.set (F:=one (ad .hal).1) _ _ _ rfl)
   refine⟨(i+1,_,_),⟨by simp only;omega,C2,fun m hm hmi=>by simp only;rw[x9 _ _ (by simp only at hmi;omega)];exact z1 m hm (by simp only at hmi;omega),fun m hm hmj=>by
    simp only at hm ⊢
    rw[x9 _ _ hmj];exact z2 m (by omega) hmj,fun m hm=>by
    simp only at hm ⊢
    by_cases e:m=i
    ·rw[e,x1]
    ·rw[x9 _ _ e];exact z3 m (by omega),z4,z5,fun h=>by
    simp only at h ⊢
    rw[x1]
    exact(own.gr (Gr.set (F:=one (ad .bef).1) _ _ _ rfl) fun y hy=>.inr ⟨.bef,rfl,hy.symm⟩).gr (Gr.set (F:=one (ad .hal).1) _ _ _ rfl) fun y hy=>.inr ⟨.hal,rfl,hy.symm⟩⟩,by simp only;omega,?_⟩
   try simp (disch:=(try simp only[lZ]);omega) only[aZ,aM,aT]
   exact Cut.fg (by simp (disch:=first|omega|simp (disch:=omega) only[aG,aM,aT]) only[fZ,aM,aT,y0,z9,or_true,true_or])
  ·have hpv:=zt8 (w:=true) (v:=true) (s.bef i) (y9 p.mt) (by rw[hbl];simp) (z7V hbi) (by omega)
   rw[z1l hbl]at hpv
   simp (disch:=(try simp only[lZ]);omega) only[aZ,aM,aT,qx,qo,qb,qh,e1,e2,e3,e5]
   refine hpv.same (by simp (disch:=first|omega|simp (disch:=omega) only[aG,aM,aT]) only[fZ,aM,aT]) (by simp (disch:=first|omega|simp (disch:=omega) only[aG,aM,aT]) only[fZ,aM,aT]) (z7 ?_)
   simp (disch:=(try simp only[lZ]);omega) only[aZ,aM,aT,qx,qo,qb,qh,e1,e2,e3,e4,e5,e6]
   have C1:=C.put .bef rfl (C.rm.putB i (fzI (s.bef i))) (Gr.set (F:=one (ad .bef).1) _ _ _ rfl)
   have C2:=C1.put .hal rfl (C1.rm.putH i (s.hal.getD i false)) (Gr.set (F:=one (ad .hal).1) _ _ _ rfl)
   refine⟨(i+1,_,_),⟨by simp only;omega,C2,fun m hm hmi=>by simp only;rw[x9 _ _ (by omega)];exact z1 m hm (by simp only at hmi;omega),fun m hm hmj=>by
    simp only at hm ⊢
    by_cases e:m=i
    ·rw[e,x1]
    ·rw[x9 _ _ e];exact z2 m (by omega) hmj,fun m hm=>by
    simp only at hm ⊢
    by_cases e:m=i
    ·rw[e,x1]
    ·rw[x9 _ _ e];exact z3 m (by omega),z4,z5,fun h=>by
    simp only at h ⊢
    rw[x9 _ _ (by omega)]
    exact((z6 (by omega)).gr (Gr.set (F:=one (ad .bef).1) _ _ _ rfl) fun y hy=>.inr ⟨.bef,rfl,hy.symm⟩).gr (Gr.set (F:=one (ad .hal).1) _ _ _ rfl) fun y hy=>.inr ⟨.hal,rfl,hy.symm⟩⟩,by simp only;omega,?_⟩
   try simp (disch:=(try simp only[lZ]);omega) only[aZ,aM,aT]
   exact Cut.fg (by simp (disch:=first|omega|simp (disch:=omega) only[aG,aM,aT]) only[fZ,aM,aT,y0,z9,or_true,true_or])
 have hie:i=p.ms.length:=by omega
 subst hie
 unfold outC at qo
 simp (disch:=(try simp only[lZ]);omega) only[aZ,aM,aT,qx,qo,bl]
 refine AWP.loopM z7j (fun x:Nat×Rs×List Blk=>x.1≤p.bs.length∧CI H p o ad x.2.1 x.2.2 _∧CB H p j ad s x.2.1 x.2.2∧(∀i,i<x.1→∀q,q≤p.rl i→x.2.1.sc i q=fzI (slt p s i q))∧∀i,x.1≤i→∀q,x.2.1.sc i q=fzI (y9 p.mt)) (fun x=>[(5,.v (.int .i64 x.1))]) (fun x=>x.2.2) (fun x=>p.bs.length-x.1) (0,r,Q) ⟨by omega,C,⟨fun m hm hj=>z2 m hm hj,fun m hm=>z3 m hm,z5,z6⟩,fun i h=>by simp at h,fun i _ q=>by rw[z4];rfl⟩ ?_ ?_
 ·exact Cut.fg (by simp (disch:=first|omega|simp (disch:=omega) only[aG,aM,aT]) only[fZ,aM,aT,y0,z9,or_true,true_or])
 clear C z1 z2 z3 z4 z5 z6 qo qx
 rintro⟨i,r,Q⟩ ⟨hi,C,CBr,z1,z2⟩
 simp only at hi C CBr z1 z2
 have qo:=C.rm.ot
 rw[C.ro]at qo
 have qx:=C.bx
 have bl2:=zH5 p s
 by_cases hit:i<p.bs.length
 ·have e1:=yr9 p s i hit
  have e2:=z1k p s i
  have hrl:=ok.rl hit
  unfold outC at qo
  simp (disch:=(try simp only[lZ]);omega) only[aZ,aM,aT,qx,qo,e1,e2]
  refine AWP.loopM z7k (fun x:Nat×Rs×List Blk=>x.1≤p.rl i+1∧CI H p o ad x.2.1 x.2.2 _∧CB H p j ad s x.2.1 x.2.2∧(∀i,i<i→∀q,q≤p.rl i→x.2.1.sc i q=fzI (slt p s i q))∧(∀y,y<i→∀q,q≤p.rl y→x.2.1.sc y q=fzI (slt p s y q))∧(∀y,i<y→∀q,x.2.1.sc y q=fzI (y9 p.mt))∧(∀q,q<x.1→x.2.1.sc i q=fzI (slt p s i q))∧∀q,x.1≤q→x.2.1.sc i q=fzI (y9 p.mt)) (fun x=>[(6,.v (.int .i64 x.1))]) (fun x=>x.2.2) (fun x=>p.rl i+1-x.1) (0,r,Q) ⟨by omega,C,CBr,fun i h=>by omega,z1,fun y hy q=>z2 y (Nat.le_of_lt hy) q,fun q h=>by simp at h,fun q _=>z2 i (Nat.le_refl _) q⟩ ?_ ?_
  ·exact Cut.fg (by simp (disch:=first|omega|simp (disch:=omega) only[aG,aM,aT]) only[fZ,aM,aT,y0,z9,or_true,true_or])
  clear C CBr z1 z2 qo qx
  rintro⟨k,r,Q⟩ ⟨hk,C,CBr,_,z1,z2,z3,z4⟩
  simp only at hk C CBr z1 z2 z3 z4
  have qo:=C.rm.ot
  rw[C.ro]at qo
  have qx:=C.bx
  unfold outC at qo
  by_cases hkt:k<p.rl i+1
  ·have us:usR p.bs.length (.sl i)=true:=by simpa [usR]using hit
   have qb:=C.rm.get .bel rfl
   have qs:=C.rm.get (.sl i) us
   simp only[ctR]at qb qs
   have f1:nthA ((List.range p.bs.length).map (celB p ad)) i=some (.sl (ad (.sl i)).1 (ad (.sl i)).2 1 0 (p.rl i+1)):=z64 p.bs.length (celB p ad) i hit
   have f2:=zC0 p.bs.length (celB p ad)
   have f3:=z64 (p.rl i+1) (r.sc i) k hkt
   rw[z4 k (Nat.le_refl _)]at f3
   have f4:=zC0 (p.rl i+1) (r.sc i)
   have f5:=z91 (p.rl i+1) (r.sc i) k
   have e3:=z7U p s i k hkt
   have hsk:=yL4 hs hit (show k≤p.rl i by omega)
   have hpv:=zt8 (w:=true) (v:=true) (slt p s i k) (y9 p.mt) (by rw[hsk.1];simp) (z7V hsk) (by rw[hsk.1];omega)
   rw[z1l hsk.1]at hpv
   have ls:=y4 qs
   have his:=C.hi _ us
   simp (disch:=(try simp only[lZ]);omega) only[aZ,aM,aT,qx,qo,qb,qs,e1,e2,e3,f1,f2,f3,f4]
   refine hpv.same (by simp (disch:=first|omega|simp (disch:=omega) only[aG,aM,aT]) only[fZ,aM,aT]) (by simp (disch:=first|omega|simp (disch:=omega) only[aG,aM,aT]) only[fZ,aM,aT]) (z7 ?_)
   simp (disch:=(try simp only[lZ]);omega) only[aZ,aM,aT,qx,qo,qb,qs,e1,e2,e3,f1,f2,f3,f4,f5]
   have C1:=C.put (.sl i) us (C.rm.putS hit k (fzI (slt p s i k))) (Gr.set (F:=one (ad (.sl i)).1) _ _ _ rfl)
   refine⟨(k+1,_,_),⟨by simp only;omega,C1,CBr.sl hit _ _,fun i h=>by omega,fun y hy q hq=>by simp only;rw[x9 _ _ (by omega)];exact z1 y hy q hq,fun y hy q=>by simp only;rw[x9 _ _ (by omega)];exact z2 y hy q,fun q hq=>by
    simp only at hq ⊢
    rw[x1]
    by_cases e:q=k
    ·rw[e,x1]
    ·rw[x9 _ _ e];exact z3 q (by omega),fun q hq=>by
    simp only at hq ⊢
    rw[x1,x9 _ _ (by omega)];exact z4 q (by omega)⟩,by simp only;omega,?_⟩
   try simp (disch:=(try simp only[lZ]);omega) only[aZ,aM,aT]
   exact Cut.fg (by simp (disch:=first|omega|simp (disch:=omega) only[aG,aM,aT]) only[fZ,aM,aT,y0,z9,or_true,true_or])
  ·simp (disch:=(try simp only[lZ]);omega) only[aZ,aM,aT,qx,qo,e1,e2]
   refine⟨(i+1,r,Q),⟨by simp only;omega,C,CBr,fun y hy q hq=>by
    by_cases e:y=i
    ·subst e;exact z3 q (by omega)
    ·exact z1 y (by simp only at hy;omega) q hq,fun y hy q=>z2 y (by simp only at hy;omega) q⟩,by simp only;omega,?_⟩
   try simp (disch:=(try simp only[lZ]);omega) only[aZ,aM,aT]
   exact Cut.fg (by simp (disch:=first|omega|simp (disch:=omega) only[aG,aM,aT]) only[fZ,aM,aT,y0,z9,or_true,true_or])
 have hie:i=p.bs.length:=by omega
 subst hie
 obtain⟨b1,b2',b3,b4⟩:=CBr
 rw[b3]at qo
 unfold outC at qo
 have hfl:=hs.fed.1
 have hpv:=zt8 (w:=true) (v:=true) s.fed (y9 p.mt) (by rw[hfl];simp) (z7V hs.fed) (by omega)
 rw[z1l hfl]at hpv
 have lo:=y4 qo
 have hio:=C.hi .out rfl
 rw[C.ro]at hio
 have qv:=C.rv
 simp (disch:=(try simp only[lZ]);omega) only[aZ,aM,aT,qx,qo,bl2]
 refine hpv.same (by simp (disch:=first|omega|simp (disch:=omega) only[aG,aM,aT]) only[fZ,aM,aT]) (by simp (disch:=first|omega|simp (disch:=omega) only[aG,aM,aT]) only[fZ,aM,aT]) (z7 ?_)
 simp (disch:=(try simp only[lZ]);omega) only[aZ,aM,aT,qx,qo,qv,yd5]
 have C1:=C.put .out rfl (C.rm.putF s.fed) (Gr.set (F:=one (ad .out).1) _ _ _ rfl)
 rw[C.ro]at C1
 exact zd5 (R:=fun x H'=>∃(ad:Rd) (r:Rs),x=.agg (outC p p.ms.length p.bs.length ad r.fd)∧RM H' p p.ms.length p.bs.length ad r∧Gr nof H H'∧(∀c,usR p.bs.length c=true→H.length≤(ad c).1)∧Shw p j r s∧(j<p.ms.length→Own1 H' H.length p.bs.length ad (r.bc j) (s.bef j)))
  ⟨ad,{r with fd:=s.fed},rfl,C1.rm.gr (Gr.set (F:=one (H.length+1)) _ _ _ rfl) fun c hc hf=>by have:(ad c).1=H.length+1:=hf;have:=C.hi c hc;omega,
   C1.g.trans (Gr.set (F:=one (H.length+1)) _ _ _ rfl) fun i hi hf=>by have:i=H.length+1:=hf;omega,fun c hc=>by have:=C.hi c hc;omega,
   ⟨b1,b2',fun i hi q hq=>z1 i hi q hq,rfl⟩,fun hj=>by
    obtain⟨q,q1,q2,q3,q4⟩:=b4 hj
    refine⟨q,q1,?_,by omega,q4⟩
    rw[y5 _ _ _ _ _ (by omega),y5 _ _ _ _ _ (fun hc=>q4 ⟨.out,rfl,by rw[C.ro];exact hc.symm⟩)]
    exact q2⟩
structure Op where
 k:Int
 m:Int
 n:Int
 mx:List Int
def opC(o:Op):List A:=[.v (.int .i64 o.k),.v (.int .i64 o.m),.v (.int .i64 o.n),.fs true (ints o.mx)]
def opA(o:Op):A:=.agg (opC o)
def ops(l:List Op):List A:=l.map opA
theorem z95{w v:Bool}(p:Pl)(m:Nat)(hm:m<p.ms.length):VR P false z8P [plA w v p,.v (.int .i64 m)] [] (isR (.v (.bool (decide (binN p m))))):=by
 refine yy8 (by simp) (.inr rfl) fun _ _=>?_
 unfold plA plC binN
 simp (disch:=(try simp only[lZ]);omega) only[aZ,aM,z2L,z8R]
 refine(zf1 (w:=w) (p.ms.getD m [])).same (by unfold mcA mcC;simp (disch:=first|omega|simp (disch:=omega) only[aG,aM]) only[fZ,aM]) rfl (z7 ?_)
 simp (disch:=(try simp only[lZ]);omega) only[aZ,aM,yH8]
 refine y1 ⟨?_,rfl⟩
 congr 3
 simp
abbrev z8:List A:=[.v (.int .i64 0),nilS,nilS,.v (.int .i64 0),nilS,nilS,nilS,nilS]
def adO(ad:Rd)(L:Nat):Rd
 | .out=>(L,0)
 | c=>ad c
theorem RM.anewO{K:List Blk}{p:Pl}{k b:Nat}{ad:Rd}{r:Rs}(h:RM K p k b ad r)(fd:List Int):RM (K++[⟨0,outC p k b ad fd⟩]) p k b (adO ad K.length) {r with fd:=fd}:=by
 have hg:=h.grow [⟨0,outC p k b ad fd⟩]
 refine⟨fun c hc=>?_,fun c d hc hd he=>?_,rfl⟩
 ·cases c with
  | out=>show blkAt _ K.length 0=_;rw[x5];rfl
  | _=>exact hg.get _ hc
 ·cases c<;>cases d<;>first|rfl|exact h.inj _ _ hc hd he|(simp only[adO]at he;have h2:=h.lt hd;omega)|(simp only[adO]at he;have h2:=h.lt hc;omega)
theorem xu8{K T:List Blk}{i j l:Nat}{B:Blk}:blkAt (K.set i B++T) (K.length+j) l=blkAt T j l:=by
 have:=zg6 (K.set i B) T j l
 simpa using this
theorem CI.start{p:Pl}{ad:Rd}{r:Rs}{K:List Blk}{bx:List A}(R:RM K p p.ms.length p.bs.length ad r)(G:Gr nof [(⟨0,bx⟩:Blk),⟨0,z8⟩] K)(L:∀c,usR p.bs.length c=true→[(⟨0,bx⟩:Blk),⟨0,z8⟩].length≤(ad c).1)(fd:List Int):
    CI [] p K.length (adO ad K.length) {r with fd:=fd} (K++[⟨0,outC p p.ms.length p.bs.length ad fd⟩]) bx:=by
  have B0:blkAt K 0 0=some bx:=G.at rfl fun h=>h
  have V0:blkAt K 1 0=some z8:=G.at rfl fun h=>h
  refine⟨R.anewO fd,rfl,(x2 _ _ _ _ (y4 B0)).trans B0,(x2 _ _ _ _ (y4 V0)).trans V0,⟨Nat.zero_le _,fun i ver hi=>absurd hi (Nat.not_lt_zero _)⟩,fun c hc=>?_⟩
  have h1:=y4 V0
  cases c with
  | out=>exact h1
  | _=>exact L _ hc
theorem CI.last{p:Pl}{o:Nat}{ad:Rd}{r:Rs}{K:List Blk}{bx:List A}(h:CI [] p o ad r K bx)(B:Blk):RM (K.set 1 B) p p.ms.length p.bs.length ad r :=
 h.rm.gr (Gr.set (F:=one 1) _ _ _ rfl) fun c hc hf=>by have h1:(ad c).1=1:=hf;have:=h.hi c hc;simp at this;omega
theorem y1d{w:Bool}(p:Pl)(s:Sy)(xs:List Int)(hp:y6 p=0)(hs:Gd p s)(hl9:xs.length≤9223372036854775807):VR P false z6k [stA p s,.fs w (ints xs)] [] (isR (.tup [stA p (y09 p s xs),.v (.int .i64 (fitE p.mt s.fed xs))])):=by
 refine ym2 (by simp) (.inr rfl) fun _ _=>?_
 have ok:=y7 hp
 obtain⟨m1,m2,m3⟩:=ok.mt1
 have n1:=ok.n1
 have n2:=ok.n2
 have hfd:=hs.fd.1
 have hcp:=fun H=>z94 (H:=H) p s hp hs.ok p.ms.length
 have hbd:=y5i 0 p s
 have he:∀e,e≠0→fitE p.mt s.fed xs=e→y09 p s xs=s:=fun e h1 h2=>by unfold y09;rw[if_neg (by omega)]
 have hst:stC p s=_:=rfl
 unfold stA stC at hcp ⊢
 unfold stC at hbd
 simp (disch:=(try simp only[lZ]);omega) only[aZ,aM,aT,z0g,z6m]
 refine y2 (fun h1=>?_) (fun h1=>?_)
 ·have e1:fitE p.mt s.fed xs=18:=by unfold fitE;rw[if_pos (by omega)]
  rw[he 18 (by omega) e1,e1]
  simp (disch:=(try simp only[lZ]);omega) only[aZ,aM,aT,zE5]
  exact y8 (Fz.refl (by simp (disch:=first|omega|simp (disch:=omega) only[aG,aM,aT]) only[fZ,aM,aT])) ⟨rfl,rfl⟩
 have hl:xs.length=p.mt:=by omega
 simp (disch:=(try simp only[lZ]);omega) only[aZ,aM,aT]
 refine AWP.loopP yb7 (fun k:Nat=>k≤xs.length∧∀i,i<k→0≤xs.getD i 0∧xs.getD i 0≤1073741824) (fun k=>[(5,.v (.int .i64 k))]) (fun _=>[]) (fun k=>xs.length-k) 0 ⟨by omega,fun i hi=>by omega⟩ ?_ ?_
 ·exact Cut.fg (by simp (disch:=first|omega|simp (disch:=omega) only[aG,aM,aT]) only[fZ,aM,aT,y0,z9,or_true,true_or])
 rintro k ⟨hk,hb⟩
 by_cases hlt:k<xs.length
 ·simp (disch:=(try simp only[lZ]);omega) only[aZ,aM,aT]
  refine y2 (fun h3=>?_) (fun h3=>?_)
  ·have e1 : fitE p.mt s.fed xs = 1 := by
    unfold fitE;rw[if_neg (by omega),if_pos]
    intro hc
    have:=(zB6.1 hc).2 _ (x3 0 hlt)
    omega
   rw[he 1 (by omega) e1,e1]
   simp (disch:=(try simp only[lZ]);omega) only[aZ,aM,aT,zE5]
   exact y8 (Fz.refl (by simp (disch:=first|omega|simp (disch:=omega) only[aG,aM,aT]) only[fZ,aM,aT])) ⟨rfl,rfl⟩
  ·simp (disch:=(try simp only[lZ]);omega) only[aZ,aM,aT]
   refine⟨k+1,⟨by omega,fun i hi=>?_⟩,by omega,?_⟩
   ·rcases Nat.lt_succ_iff_lt_or_eq.1 hi with h|rfl
    ·exact hb i h
    ·omega
   ·exact Cut.fg (by simp (disch:=first|omega|simp (disch:=omega) only[aG,aM,aT]) only[fZ,aM,aT,y0,z9,or_true,true_or])
 have hke:k=xs.length:=by omega
 subst hke
 have hmx:mixE xs=0:=zB6.2 ⟨by omega,fun x hx=>by obtain⟨i,hi,rfl⟩:=zJ9 0 hx;exact hb i hi⟩
 have hxm:zn7 p.mt xs:=⟨hl,fun i=>by have:=zN8 hmx i;omega⟩
 have hpv:=zt8 (w:=true) (v:=w) s.fed xs (by rw[hl,hfd]) (fun i _=>by have:=hs.fd.2 i;have:=hxm.2 i;omega) (by omega)
 have pl:=Q6 s.fed xs
 have pg:=fun i=>zT5 hs.fd.1 hl i
 simp (disch:=(try simp only[lZ]);omega) only[aZ,aM,aT]
 refine hpv.same (by simp (disch:=first|omega|simp (disch:=omega) only[aG,aM,aT]) only[fZ,aM,aT]) (by simp (disch:=first|omega|simp (disch:=omega) only[aG,aM,aT]) only[fZ,aM,aT]) (z7 ?_)
 simp (disch:=(try simp only[lZ]);omega) only[aZ,aM,aT]
 refine AWP.loopP yb8 (fun k:Nat=>k≤xs.length∧∀i,i<k→¬1073741824<s.fed.getD i 0+xs.getD i 0) (fun k=>[(7,.v (.int .i64 k))]) (fun _=>[]) (fun k=>xs.length-k) 0 ⟨by omega,fun i hi=>by omega⟩ ?_ ?_
 ·exact Cut.fg (by simp (disch:=first|omega|simp (disch:=omega) only[aG,aM,aT]) only[fZ,aM,aT,y0,z9,or_true,true_or])
 rintro k ⟨hk,hn⟩
 by_cases hlt:k<xs.length
 ·have pk:=pg k
  simp (disch:=(try simp only[lZ]);omega) only[aZ,aM,aT,pk]
  refine y2 (fun h3=>?_) (fun h3=>?_)
  ·have e1:fitE p.mt s.fed xs=2:=by unfold fitE;rw[if_neg (by omega),if_neg (fun h=>h hmx),if_pos ⟨k,hlt,h3⟩]
   rw[he 2 (by omega) e1,e1]
   simp (disch:=(try simp only[lZ]);omega) only[aZ,aM,aT,zE5]
   exact y8 (Fz.refl (by simp (disch:=first|omega|simp (disch:=omega) only[aG,aM,aT]) only[fZ,aM,aT])) ⟨rfl,rfl⟩
  ·simp (disch:=(try simp only[lZ]);omega) only[aZ,aM,aT]
   refine⟨k+1,⟨by omega,fun i hi=>?_⟩,by omega,?_⟩
   ·rcases Nat.lt_succ_iff_lt_or_eq.1 hi with h|rfl
    ·exact hn i h
    ·exact h3
   ·exact Cut.fg (by simp (disch:=first|omega|simp (disch:=omega) only[aG,aM,aT]) only[fZ,aM,aT,y0,z9,or_true,true_or])
 have hke:k=xs.length:=by omega
 subst hke
 have e1:fitE p.mt s.fed xs=0:=by unfold fitE;rw[if_neg (by omega),if_neg (fun h=>h hmx),if_neg (by rintro⟨i,hi,h3⟩;exact hn i (by omega) h3)]
 have e2:y09 p s xs=zd9 p s xs:=by unfold y09;rw[if_pos e1]
 rw[e1,e2]
 simp (disch:=(try simp only[lZ]);omega) only[aZ,aM,aT]
 refine(hcp _).mono ?_
 rintro x K ⟨ad0,r,rfl,R0,G0,L0,S0,_⟩
 refine z7 ?_
 unfold outC
 have C:=CI.start R0 G0 L0 (zc9 s.fed xs)
 have kb:=R0.get .bef rfl
 simp only[ctR]at kb
 have kx:blkAt K 0 0=some _:=G0.at rfl fun h=>h
 have kv:blkAt K 1 0=some _:=G0.at rfl fun h=>h
 have lb:=y4 kb
 have lx:=y4 kx
 have lv:=y4 kv
 have lbo:=L0 .bef rfl
 have hfdp:=ok.fd
 have hft:p.fd.toNat<p.ms.length:=by omega
 have f1:=z64 p.ms.length r.bc p.fd.toNat hft
 rw[S0.b _ hft (by omega)]at f1
 have f2:=zC0 p.ms.length r.bc
 have f3:=z91 p.ms.length r.bc p.fd.toNat
 have hbf:=hs.ok.bef _ hft
 have hpv2:=zt8 (w:=true) (v:=w) (s.bef p.fd.toNat) xs (by rw[hl,hbf.1]) (fun i _=>by have:=hbf.2 i;have:=hxm.2 i;omega) (by rw[hbf.1];omega)
 simp at lbo
 simp (disch:=(try simp only[lZ]);omega) only[aZ,aM,aT,kb,kx,f1,f2]
 refine hpv2.same (by simp (disch:=first|omega|simp (disch:=omega) only[aG,aM,aT]) only[fZ,aM,aT]) (by simp (disch:=first|omega|simp (disch:=omega) only[aG,aM,aT]) only[fZ,aM,aT]) (z7 ?_)
 have tn:=fun(B:Blk) (T:List Blk)=>xu8 (K:=K) (T:=T) (i:=(ad0 .bef).1) (j:=0) (l:=0) (B:=B)
 simp only[Nat.add_zero]at tn
 simp (disch:=(try simp only[lZ]);omega) only[aZ,aM,aT,kb,kx,kv,f1,f2,f3,tn,zE5]
 have e3:∀X B1 B2:Blk,((K++[X]).set (ad0 .bef).1 B1).set 1 B2=(K.set (ad0 .bef).1 B1).set 1 B2++[X]:=fun X B1 B2=>by rw[List.set_append_left _ _ lb,List.set_append_left _ _ (by rw[List.length_set];exact lv)]
 have P1:=fun B2:Blk=>(C.put .bef rfl (C.rm.putB p.fd.toNat (fzI (zc9 (s.bef p.fd.toNat) xs))) (Gr.set (F:=one (ad0 .bef).1) _ _ _ rfl)).last B2
 have P2:=fun B2:Blk=>(e3 ⟨0,outC p p.ms.length p.bs.length ad0 (zc9 s.fed xs)⟩ ⟨(ad0 .bef).2,(List.range p.ms.length).map (updF r.bc p.fd.toNat (fzI (zc9 (s.bef p.fd.toNat) xs)))⟩ B2)▸P1 B2
 have hw:Shw p p.ms.length {r with fd:=zc9 s.fed xs,bc:=updF r.bc p.fd.toNat (fzI (zc9 (s.bef p.fd.toNat) xs))} (zd9 p s xs):=⟨fun m hm hj=>by
  simp only[zd9]
  by_cases e:m=p.fd.toNat
  ·rw[e,x1,x1]
  ·rw[x9 _ _ e,x9 _ _ e];exact S0.b m hm hj,S0.h,S0.c,rfl⟩
 exact y8 (r:=.tup [stA p (zd9 p s xs),.v (.int .i64 0)]) (Fz.tup (l:=[_,_]) ⟨hw.fz (ad:=adO ad0 K.length) (P2 _) hs.hl,Fz.refl rfl,trivial⟩) ⟨rfl,rfl⟩
theorem yE3(p:Pl)(s:Sy)(hp:y6 p=0)(hg:Gd p s):VR P false z1K [stA p s] [] (isR (.fs true (ints (insL p s)))):=by
 refine z8z (by simp) (.inr rfl) fun _ _=>?_
 have ok:=y7 hp
 obtain⟨m1,m2,m3⟩:=ok.mt1
 have n1:=ok.n1
 have n2:=ok.n2
 have b2:=ok.b2
 have bnd:=fun x=>(zB9 hg x).1
 have tt:=hg.tt
 have hz:=z9Z m2
 have hbn:=fun m hm=>z95 (w:=true) (v:=true) p m hm
 unfold plA plC at hbn
 rw[m3]at hbn
 have bl:=zH4 p s
 have bll:=zH5 p s
 unfold stA stC
 simp (disch:=(try simp only[lZ]);omega) only[aZ,aM,aT,zI1,z1M]
 refine hz.same rfl (by simp (disch:=first|omega|simp (disch:=omega) only[aG,aM,aT]) only[fZ,aM,aT]) (z7 ?_)
 rw[y4T]
 simp (disch:=(try simp only[lZ]);omega) only[aZ,aM,aT]
 refine AWP.loopP z67 (fun k:Nat=>k≤p.ms.length) (fun k=>[(3,.fs true (ints (tb p.mt fun x=>sm k (inM p s x)))),(4,.v (.int .i64 k))]) (fun _=>[]) (fun k=>p.ms.length-k) 0 (by omega) ?_ ?_
 ·simp only[sm]
  exact Cut.fg (by simp (disch:=first|omega|simp (disch:=omega) only[aG,aM,aT]) only[fZ,aM,aT,y0,z9,or_true,true_or])
 rintro k hk
 by_cases hlt:k<p.ms.length
 ·have e1:=y0t p s k hlt
  have hbk:=hg.ok.bef k hlt
  have hml:=hbk.1
  simp (disch:=(try simp only[lZ]);omega) only[aZ,aM,aT]
  refine(hbn k hlt).same (by simp (disch:=first|omega|simp (disch:=omega) only[aG,aM,aT]) only[fZ,aM,aT]) rfl (z7 ?_)
  by_cases hb:binN p k
  ·have hzz:y3 (p.ms.getD k [])=0:=hb
   rw[decide_eq_true hb]
   simp (disch:=(try simp only[lZ]);omega) only[aZ,aM,aT]
   refine⟨k+1,by omega,by omega,?_⟩
   have e:(fun x=>sm (k+1) (inM p s x))=fun x=>sm k (inM p s x):=by funext x;simp only[sm,inM];rw[if_pos hzz];omega
   rw[e]
   try simp (disch:=(try simp only[lZ]);omega) only[aZ,aM,aT]
   exact Cut.fg (by simp (disch:=first|omega|simp (disch:=omega) only[aG,aM,aT]) only[fZ,aM,aT,y0,z9,or_true,true_or])
  ·have hzz:¬y3 (p.ms.getD k [])=0:=hb
   rw[decide_eq_false hb]
   have hpv:=zt8 (w:=true) (v:=true) (tb p.mt fun x=>sm k (inM p s x)) (s.bef k) (by rw[zb2,hml]) (fun x hx=>by
    rw[zb2]at hx
    rw[zx3 _ _ _ hx]
    have g1:=hbk.2 x
    have g2:=z9T (zY1 hg x) hk
    have g3:=zn8 (n:=k) (f:=inM p s x) fun i hi=>zY1 hg x i (by omega)
    have g4:=zn8 (zY2 hg x)
    have hbx:=bnd x
    have:=tt x
    unfold insT at hbx;omega) (by rw[zb2];omega)
   rw[z20]at hpv
   simp (disch:=(try simp only[lZ]);omega) only[aZ,aM,aT,e1]
   refine hpv.same (by simp (disch:=first|omega|simp (disch:=omega) only[aG,aM,aT]) only[fZ,aM,aT]) (by simp (disch:=first|omega|simp (disch:=omega) only[aG,aM,aT]) only[fZ,aM,aT]) (z7 ?_)
   simp (disch:=(try simp only[lZ]);omega) only[aZ,aM,aT]
   refine⟨k+1,by omega,by omega,?_⟩
   have e:(fun x=>sm (k+1) (inM p s x))=fun x=>sm k (inM p s x)+(s.bef k).getD x 0:=by funext x;simp only[sm,inM];rw[if_neg hzz]
   rw[e]
   try simp (disch:=(try simp only[lZ]);omega) only[aZ,aM,aT]
   exact Cut.fg (by simp (disch:=first|omega|simp (disch:=omega) only[aG,aM,aT]) only[fZ,aM,aT,y0,z9,or_true,true_or])
 have hke:k=p.ms.length:=by omega
 subst hke
 simp (disch:=(try simp only[lZ]);omega) only[aZ,aM,aT]
 refine AWP.loopP z68 (fun i:Nat=>i≤p.bs.length) (fun i=>[(3,.fs true (ints (tb p.mt fun x=>sm p.ms.length (inM p s x)+sm i (inB p s x)))),(5,.v (.int .i64 i))]) (fun _=>[]) (fun i=>p.bs.length-i) 0 (by omega) ?_ ?_
 ·simp only[sm,Int.add_zero]
  exact Cut.fg (by simp (disch:=first|omega|simp (disch:=omega) only[aG,aM,aT]) only[fZ,aM,aT,y0,z9,or_true,true_or])
 rintro i hi
 by_cases hit:i<p.bs.length
 ·have e1:=yr9 p s i hit
  have e2:=z1k p s i
  have hrl:=ok.rl hit
  simp (disch:=(try simp only[lZ]);omega) only[aZ,aM,aT,e1,e2]
  refine AWP.loopP z69 (fun k:Nat=>k≤p.rl i+1) (fun k=>[(3,.fs true (ints (tb p.mt fun x=>sm p.ms.length (inM p s x)+sm i (inB p s x)+sm k (fun q=>(slt p s i q).getD x 0)))),(6,.v (.int .i64 k))]) (fun _=>[]) (fun k=>p.rl i+1-k) 0 (by omega) ?_ ?_
  ·simp only[sm,Int.add_zero]
   exact Cut.fg (by simp (disch:=first|omega|simp (disch:=omega) only[aG,aM,aT]) only[fZ,aM,aT,y0,z9,or_true,true_or])
  rintro k hk
  by_cases hkt:k<p.rl i+1
  ·have e3:=z7U p s i k hkt
   have hsk:=yL4 hg.ok hit (show k≤p.rl i by omega)
   have hpv:=zt8 (w:=true) (v:=true) (tb p.mt fun x=>sm p.ms.length (inM p s x)+sm i (inB p s x)+sm k (fun q=>(slt p s i q).getD x 0)) (slt p s i k) (by rw[zb2,hsk.1]) (fun x hx=>by
    rw[zb2]at hx
    rw[zx3 _ _ _ hx]
    have g1:=hsk.2 x
    have g2:=z9T (n:=p.rl i+1) (k:=k) (f:=fun q=>(slt p s i q).getD x 0) (fun q hq=>(yj7 hg hit (by omega)).2 x) (by omega)
    have g3:=zn8 (n:=k) (f:=fun q=>(slt p s i q).getD x 0) fun q hq=>(yj7 hg hit (by omega)).2 x
    rw[← z9Y]at g2
    have g4:=z9T (n:=p.bs.length) (k:=i+1) (f:=inB p s x) (zY2 hg x) (by omega)
    have g5:sm (i+1) (inB p s x)=sm i (inB p s x)+inB p s x i:=rfl
    have g6:=zn8 (n:=i) (f:=inB p s x) fun y hy=>zY2 hg x y (by omega)
    have g7:=zn8 (zY1 hg x)
    have hbx:=bnd x
    have:=tt x
    unfold insT at hbx;omega) (by rw[zb2];omega)
   rw[z20]at hpv
   simp (disch:=(try simp only[lZ]);omega) only[aZ,aM,aT,e1,e3]
   refine hpv.same (by simp (disch:=first|omega|simp (disch:=omega) only[aG,aM,aT]) only[fZ,aM,aT]) (by simp (disch:=first|omega|simp (disch:=omega) only[aG,aM,aT]) only[fZ,aM,aT]) (z7 ?_)
   simp (disch:=(try simp only[lZ]);omega) only[aZ,aM,aT]
   refine⟨k+1,by omega,by omega,?_⟩
   have e:(fun x=>sm p.ms.length (inM p s x)+sm i (inB p s x)+sm (k+1) (fun q=>(slt p s i q).getD x 0))=fun x=>sm p.ms.length (inM p s x)+sm i (inB p s x)+sm k (fun q=>(slt p s i q).getD x 0)+(slt p s i k).getD x 0:=by funext x;simp only[sm];omega
   rw[e]
   try simp (disch:=(try simp only[lZ]);omega) only[aZ,aM,aT]
   exact Cut.fg (by simp (disch:=first|omega|simp (disch:=omega) only[aG,aM,aT]) only[fZ,aM,aT,y0,z9,or_true,true_or])
  ·have hke:k=p.rl i+1:=by omega
   subst hke
   simp (disch:=(try simp only[lZ]);omega) only[aZ,aM,aT,e1,e2]
   refine⟨i+1,by omega,by omega,?_⟩
   have e:(fun x=>sm p.ms.length (inM p s x)+sm (i+1) (inB p s x))=fun x=>sm p.ms.length (inM p s x)+sm i (inB p s x)+sm (p.rl i+1) (fun q=>(slt p s i q).getD x 0):=by funext x;simp only[sm];rw[z9Y];simp only[sm];omega
   rw[e]
   try simp (disch:=(try simp only[lZ]);omega) only[aZ,aM,aT]
   exact Cut.fg (by simp (disch:=first|omega|simp (disch:=omega) only[aG,aM,aT]) only[fZ,aM,aT,y0,z9,or_true,true_or])
 have hie:i=p.bs.length:=by omega
 subst hie
 simp (disch:=(try simp only[lZ]);omega) only[aZ,aM,aT,yc1]
 exact y8 (Fz.refl (by simp (disch:=first|omega|simp (disch:=omega) only[aG,aM,aT]) only[fZ,aM,aT])) ⟨rfl,rfl⟩
theorem y5o{p:Pl}{s:Sy}(h:Gd p s){m:Nat}(hm:m<p.ms.length):arrK p s m 0=s.bef m:=by
 have hl:=(h.bl m hm).1
 unfold arrK
 simp only[sm]
 refine Z5 0 (by rw[zb2,hl]) fun x hx=>?_
 rw[zb2]at hx
 rw[zx3 _ _ _ hx];omega
theorem xa1{p:Pl}(ok:POk p){s:Sy}(h:Gd p s){m:Nat}(hm:m<p.ms.length){k:Nat}(hk:k≤p.bs.length):zn7 p.mt (arrK p s m k):=by
 have:=(h.mvK ok k hk).1.ok.bef m hm
 rw[z9W ok h hm _ hk]at this;exact this
theorem y5p(p:Pl)(s:Sy)(m i:Nat):arrK p s m (i+1)=if tpS p i=m then zc9 (arrK p s m i) (slt p s i (p.rl i))else arrK p s m i:=by
 unfold arrK
 by_cases e:tpS p i=m
 ·rw[if_pos e,z20]
  refine z9S fun x _=>?_
  simp only[sm];rw[if_pos e,z21];omega
 ·rw[if_neg e]
  refine z9S fun x _=>?_
  simp only[sm];rw[if_neg e];omega
theorem updG{α:Type}(G:Nat→Nat→α)(i k:Nat)(x:α)(y q:Nat):updF G i (updF (G i) k x) y q=if y=i then(if q=k then x else G i q)else G y q:=by
 unfold updF;split<;>rfl
structure SJ(p:Pl)(s:Sy)(o:Nat)(ad:Rd)(bx:List A)(F:Nat→List Int)(G:Nat→Nat→List Int)(r:Rs)(Q:List Blk):Prop where
 c:CI [] p o ad r Q bx
 b:∀m,m<p.ms.length→r.bc m=fzI (F m)
 h:∀m,m<p.ms.length→r.hl m=s.hal.getD m false
 d:∀y,y<p.bs.length→∀q,q≤p.rl y→r.sc y q=fzI (G y q)
 f:r.fd=s.fed
section
variable {p:Pl} {s:Sy} {o:Nat} {ad:Rd} {bx:List A} {F F':Nat→List Int} {G G':Nat→Nat→List Int} {r:Rs} {Q:List Blk}
theorem SJ.as(h:SJ p s o ad bx F G r Q)(hF:∀m,m<p.ms.length→F m=F' m)(hG:∀y,y<p.bs.length→∀q,q≤p.rl y→G y q=G' y q):SJ p s o ad bx F' G' r Q :=
 ⟨h.c,fun m hm=>by rw[h.b m hm,hF m hm],h.h,fun y hy q hq=>by rw[h.d y hy q hq,hG y hy q hq],h.f⟩
theorem SJ.putB(h:SJ p s o ad bx F G r Q)(i:Nat)(x:List Int):SJ p s o ad bx (updF F i x) G {r with bc:=updF r.bc i (fzI x)} (Q.set (ad .bef).1 ⟨(ad .bef).2,(List.range p.ms.length).map (updF r.bc i (fzI x))⟩) :=
 ⟨h.c.put .bef rfl (h.c.rm.putB i (fzI x)) (Gr.set (F:=one (ad .bef).1) _ _ _ rfl),fun m hm=>by
  by_cases e:m=i
  ·subst e;simp only[x1]
  ·simp only[x9 _ _ e];exact h.b m hm,h.h,h.d,h.f⟩
theorem SJ.putS(h:SJ p s o ad bx F G r Q){i:Nat}(hi:i<p.bs.length)(k:Nat)(x:List Int):SJ p s o ad bx F (updF G i (updF (G i) k x)) {r with sc:=updF r.sc i (updF (r.sc i) k (fzI x))} (Q.set (ad (.sl i)).1 ⟨(ad (.sl i)).2,(List.range (p.rl i+1)).map (updF (r.sc i) k (fzI x))⟩) :=
 ⟨h.c.put (.sl i) (by simpa [usR]using hi) (h.c.rm.putS hi k (fzI x)) (Gr.set (F:=one (ad (.sl i)).1) _ _ _ rfl),h.b,h.h,fun y hy q hq=>by
  by_cases e:y=i
  ·subst e
   simp only[x1]
   by_cases e2:q=k
   ·subst e2;simp only[x1]
   ·simp only[x9 _ _ e2];exact h.d y hy q hq
  ·simp only[x9 _ _ e];exact h.d y hy q hq,h.f⟩
end
def mvG(p:Pl)(s:Sy)(i k:Nat):Nat→Nat→List Int:=fun y q=>if y<i then(if q=0 then y9 p.mt else slt p s y (q-1))else if y=i∧1≤q∧q<k then slt p s y (q-1)else slt p s y q
def dsG(p:Pl)(s:Sy)(i:Nat):Nat→Nat→List Int:=fun y q=>if q=0 then(if y<i∧s.hal.getD (frS p y) false=false then prtL p (frS p y) (arrL p s (frS p y)) (otS p y)else y9 p.mt)else slt p s y (q-1)
theorem y1e(p:Pl)(s:Sy)(hp:y6 p=0)(hg:Gd p s):VR P false z6n [stA p s] [] (isR (stA p (stpS p s))):=by
 refine ym7 (by simp) (.inr rfl) fun _ _=>?_
 have ok:=y7 hp
 obtain⟨m1,m2,m3⟩:=ok.mt1
 have n1:=ok.n1
 have n2:=ok.n2
 have b2:=ok.b2
 have hz:=z9Z m2
 have hcp:=fun H=>z94 (H:=H) p s hp hg.ok p.ms.length
 have hbn:=fun m hm=>z95 (w:=true) (v:=true) p m hm
 have hsp:=fun m xs=>yC6 (w:=true) (v:=true) (p.ms.getD m []) xs
 unfold plA plC at hbn
 rw[m3]at hbn
 have bl:=zH4 p s
 have bll:=zH5 p s
 unfold stA stC at hcp ⊢
 simp (disch:=(try simp only[lZ]);omega) only[aZ,aM,aT,z0h,z6p]
 refine(hcp _).mono ?_
 rintro x K ⟨ad0,r,rfl,R0,G0,L0,S0,_⟩
 refine z7 ?_
 unfold outC
 have C:=CI.start R0 G0 L0 r.fd
 simp (disch:=(try simp only[lZ]);omega) only[aZ,aM,aT]
 obtain⟨Q,hQ⟩:∃Q,Q=K++[⟨0,outC p p.ms.length p.bs.length ad0 r.fd⟩]:=⟨_,rfl⟩
 rw[← hQ]at C
 refine AWP.cut (e':=_) (H':=Q) (by rw[hQ];exact Cut.refl _ _ _) ?_
 generalize hO:K.length=o at C
 have hrA:∃ad,ad=adO ad0 o:=⟨_,rfl⟩
 obtain⟨ad,had⟩:=hrA
 rw[← had]at C
 clear hQ R0 G0 L0 hO had
 have SS:SJ p s o ad _ (fun m=>arrK p s m 0) (mvG p s 0 1) r Q:=⟨C,fun m hm=>by rw[y5o hg hm];exact S0.b m hm (by omega),S0.h,fun y hyb q hq=>by unfold mvG;rw[if_neg (by omega),if_neg (by omega)];exact S0.c y hyb q hq,S0.f⟩
 refine AWP.loopM yc2 (fun x:Nat×Rs×List Blk=>x.1≤p.bs.length∧SJ p s o ad _ (fun m=>arrK p s m x.1) (mvG p s x.1 1) x.2.1 x.2.2) (fun x=>[(3,.v (.int .i64 x.1))]) (fun x=>x.2.2) (fun x=>p.bs.length-x.1) (0,r,Q) ⟨by omega,SS⟩ ?_ ?_
 ·exact Cut.fg (by simp (disch:=first|omega|simp (disch:=omega) only[aG,aM,aT]) only[fZ,aM,aT,y0,z9,or_true,true_or])
 clear SS C S0
 rintro⟨i,r,Q⟩ ⟨hi,S⟩
 simp only at hi S
 have C:=S.c
 have qo:=C.rm.ot
 rw[C.ro]at qo
 have qx:blkAt Q 0 0=some _:=C.bx
 by_cases hit:i<p.bs.length
 ·have us:usR p.bs.length (.sl i)=true:=by simpa [usR]using hit
  have e1:=yr9 p s i hit
  have e2:=z1k p s i
  have e3:=z7U p s i (p.rl i) (by omega)
  have e4:(((p.rl i+1:Nat):Int)-1).toNat=p.rl i:=by omega
  have hrl:=ok.rl hit
  have htp:=y4P ok hit
  have hto:(p.bs.getD i b0).to=(tpS p i:Int):=by have:=ok.bt _ (x3 b0 hit);unfold tpS;omega
  have qb:=C.rm.get .bef rfl
  have ql:=C.rm.get .bel rfl
  simp only[ctR]at qb ql
  have f1:=z64 p.ms.length r.bc (tpS p i) htp
  rw[S.b _ htp]at f1
  have f2:=zC0 p.ms.length r.bc
  have f3:=z91 p.ms.length r.bc (tpS p i)
  have g1:nthA ((List.range p.bs.length).map (celB p ad)) i=some (.sl (ad (.sl i)).1 (ad (.sl i)).2 1 0 (p.rl i+1)):=z64 p.bs.length (celB p ad) i hit
  have g2:=zC0 p.bs.length (celB p ad)
  have hak:=xa1 ok hg htp (k:=i) (by omega)
  have hsk:=yL4 hg.ok hit (Nat.le_refl (p.rl i))
  have hpv:=zt8 (w:=true) (v:=true) (arrK p s (tpS p i) i) (slt p s i (p.rl i)) (by rw[hak.1,hsk.1]) (fun x _=>by have:=hak.2 x;have:=hsk.2 x;omega) (by rw[hak.1];omega)
  have lb:=y4 qb
  have lo:=y4 qo
  have hib:=C.hi .bef rfl
  have his:=C.hi _ us
  have hil:=C.hi .bel rfl
  have nbo:=C.rm.ne (c:=.bef) (d:=.out) rfl rfl (by simp)
  have nbl:=C.rm.ne (c:=.bef) (d:=.bel) rfl rfl (by simp)
  have nso:=C.rm.ne (c:=.sl i) (d:=.out) us rfl (by simp)
  have nsl:=C.rm.ne (c:=.sl i) (d:=.bel) us rfl (by simp)
  rw[C.ro]at nbo nso
  simp at hib his hil
  unfold outC at qo
  simp (disch:=(try simp only[lZ]);omega) only[aZ,aM,aT,qx,qo,qb,ql,e1,e2,e3,e4,f1,f2,hto]
  refine hpv.same (by simp (disch:=first|omega|simp (disch:=omega) only[aG,aM,aT]) only[fZ,aM,aT]) (by simp (disch:=first|omega|simp (disch:=omega) only[aG,aM,aT]) only[fZ,aM,aT]) (z7 ?_)
  simp (disch:=(try simp only[lZ]);omega) only[aZ,aM,aT,qx,qo,qb,ql,e1,e2,e3,e4,f1,f2,f3,hto]
  have S1:=(S.putB (tpS p i) (zc9 (arrK p s (tpS p i) i) (slt p s i (p.rl i)))).as (F':=fun m=>arrK p s m (i+1)) (G':=mvG p s i 1) (fun m hm=>by
   show updF (fun m=>arrK p s m i) (tpS p i) _ m=arrK p s m (i+1)
   rw[y5p]
   by_cases e:tpS p i=m
   ·rw[if_pos e,← e,x1]
   ·rw[if_neg e,x9 _ _ (Ne.symm e)]) fun y hy q hq=>rfl
  refine AWP.loopM yc3 (fun x:Nat×Rs×List Blk=>1≤x.1∧x.1≤p.rl i+1∧SJ p s o ad _ (fun m=>arrK p s m (i+1)) (mvG p s i x.1) x.2.1 x.2.2) (fun x=>[(7,.v (.int .i64 x.1))]) (fun x=>x.2.2) (fun x=>p.rl i+1-x.1) (1,_,_) ⟨Nat.le_refl _,by omega,S1⟩ ?_ ?_
  ·try simp (disch:=(try simp only[lZ]);omega) only[aZ,aM,aT]
   exact Cut.fg (by simp (disch:=first|omega|simp (disch:=omega) only[aG,aM,aT]) only[fZ,aM,aT,y0,z9,or_true,true_or])
  clear S S1 C qo qx qb ql f1 f2 f3 hpv lb lo
  rintro⟨k,r,Q⟩ ⟨hk1,hk,S⟩
  simp only at hk1 hk S
  have C:=S.c
  have qo:=C.rm.ot
  rw[C.ro]at qo
  have qx:blkAt Q 0 0=some _:=C.bx
  have ql:=C.rm.get .bel rfl
  have qs:=C.rm.get (.sl i) us
  simp only[ctR]at ql qs
  have lo:=y4 qo
  have ls:=y4 qs
  have f2:=zC0 (p.rl i+1) (r.sc i)
  have f3:=z91 (p.rl i+1) (r.sc i)
  unfold outC at qo
  by_cases hkt:k<p.rl i+1
  ·have e5:=z7U p s i (k-1) (by omega)
   have e6:((k:Int)-1).toNat=k-1:=by omega
   simp (disch:=(try simp only[lZ]);omega) only[aZ,aM,aT,qx,qo,ql,qs,e2,e5,e6,g1,g2,f2,f3]
   have S2:=(S.putS hit k (slt p s i (k-1))).as (F':=fun m=>arrK p s m (i+1)) (G':=mvG p s i (k+1)) (fun m hm=>rfl) fun y hy q hq=>by
    rw[updG];unfold mvG
    by_cases e:y=i
    ·subst e;(repeat' split)<;>first|rfl|(exfalso;omega)|(subst_vars;rfl)
    ·(repeat' split)<;>first|rfl|(exfalso;omega)
   refine⟨(k+1,_,_),⟨by simp only;omega,by simp only;omega,S2⟩,by simp only;omega,?_⟩
   try simp (disch:=(try simp only[lZ]);omega) only[aZ,aM,aT]
   exact Cut.fg (by simp (disch:=first|omega|simp (disch:=omega) only[aG,aM,aT]) only[fZ,aM,aT,y0,z9,or_true,true_or])
  have hke:k=p.rl i+1:=by omega
  subst hke
  simp (disch:=(try simp only[lZ]);omega) only[aZ,aM,aT,qx,qo,ql,qs,e2,g1,g2]
  refine hz.same rfl (by simp (disch:=first|omega|simp (disch:=omega) only[aG,aM,aT]) only[fZ,aM,aT]) (z7 ?_)
  have f0:∀x,splA ((List.range (p.rl i+1)).map (r.sc i)) 0 [x]=(List.range (p.rl i+1)).map (updF (r.sc i) 0 x):=fun x=>f3 0 x (by omega)
  simp (disch:=(try simp only[lZ]);omega) only[aZ,aM,aT,qx,qo,ql,qs,e2,g1,g2,f2,f0]
  have S2:=(S.putS hit 0 (y9 p.mt)).as (F':=fun m=>arrK p s m (i+1)) (G':=mvG p s (i+1) 1) (fun m hm=>rfl) fun y hy q hq=>by
   rw[updG];unfold mvG
   by_cases e:y=i
   ·subst e;(repeat' split)<;>first|rfl|(exfalso;omega)|(subst_vars;rfl)
   ·(repeat' split)<;>first|rfl|(exfalso;omega)
  refine⟨(i+1,_,_),⟨by simp only;omega,S2⟩,by simp only;omega,?_⟩
  try simp (disch:=(try simp only[lZ]);omega) only[aZ,aM,aT]
  exact Cut.fg (by simp (disch:=first|omega|simp (disch:=omega) only[aG,aM,aT]) only[fZ,aM,aT,y0,z9,or_true,true_or])
 have hie:i=p.bs.length:=by omega
 subst hie
 have S:=S.as (F':=arrL p s) (G':=dsG p s 0) (fun m hm=>rfl) fun y hy q hq=>by
  unfold mvG dsG
  rw[if_pos hy]
  by_cases e:q=0
  ·rw[if_pos e,if_pos e,if_neg (by omega)]
  ·rw[if_neg e,if_neg e]
 clear C
 unfold outC at qo
 simp (disch:=(try simp only[lZ]);omega) only[aZ,aM,aT,qx,qo,bll]
 refine AWP.loopM yc4 (fun x:Nat×Rs×List Blk=>x.1≤p.bs.length∧SJ p s o ad _ (arrL p s) (dsG p s x.1) x.2.1 x.2.2) (fun x=>[(8,.v (.int .i64 x.1))]) (fun x=>x.2.2) (fun x=>p.bs.length-x.1) (0,r,Q) ⟨by omega,S⟩ ?_ ?_
 ·exact Cut.fg (by simp (disch:=first|omega|simp (disch:=omega) only[aG,aM,aT]) only[fZ,aM,aT,y0,z9,or_true,true_or])
 clear S qo qx hi hit
 rintro⟨i,r,Q⟩ ⟨hi,S⟩
 simp only at hi S
 have C:=S.c
 have qo:=C.rm.ot
 rw[C.ro]at qo
 have qx:blkAt Q 0 0=some _:=C.bx
 have hsl:=hg.hl
 by_cases hit:i<p.bs.length
 ·have us:usR p.bs.length (.sl i)=true:=by simpa [usR]using hit
  have hbt:=ok.bt _ (x3 b0 hit)
  have hfl:=y6w ok hit
  have hfr:(p.bs.getD i b0).fr=(frS p i:Int):=by unfold frS;omega
  have hot:(p.bs.getD i b0).ot=(otS p i:Int):=by unfold otS;omega
  have hoo:otS p i<y3 (p.ms.getD (frS p i) []):=by unfold otS frS;omega
  have hnb:¬binN p (frS p i):=fun hb=>by have:y3 (p.ms.getD (frS p i) [])=0:=hb;omega
  have hak:=y8C ok hg hfl
  have hms:=z4W hp hfl hnb hak
  have hsp2:=hsp (frS p i) (arrL p s (frS p i))
  unfold zO3 at hsp2
  rw[if_neg (by omega),hms]at hsp2
  have hml:(msM (p.ms.getD (frS p i) []) (arrL p s (frS p i))).length=y3 (p.ms.getD (frS p i) []):=zT3 _ _ _
  have hpl:(msM (p.ms.getD (frS p i) []) (arrL p s (frS p i))).getD (otS p i) []=prtL p (frS p i) (arrL p s (frS p i)) (otS p i):=rfl
  have qb:=C.rm.get .bef rfl
  have ql:=C.rm.get .bel rfl
  have qs:=C.rm.get (.sl i) us
  simp only[ctR]at qb ql qs
  have f1:=z64 p.ms.length r.bc (frS p i) hfl
  rw[S.b _ hfl]at f1
  have f2:=zC0 p.ms.length r.bc
  have g1:nthA ((List.range p.bs.length).map (celB p ad)) i=some (.sl (ad (.sl i)).1 (ad (.sl i)).2 1 0 (p.rl i+1)):=z64 p.bs.length (celB p ad) i hit
  have g2:=zC0 p.bs.length (celB p ad)
  have h2:=zC0 (p.rl i+1) (r.sc i)
  have h3:∀x,splA ((List.range (p.rl i+1)).map (r.sc i)) 0 [x]=(List.range (p.rl i+1)).map (updF (r.sc i) 0 x):=fun x=>z91 (p.rl i+1) (r.sc i) 0 x (by omega)
  have ls:=y4 qs
  unfold outC at qo
  cases hh:s.hal.getD (frS p i) false with
  | false =>
   simp (disch:=(try simp only[lZ]);omega) only[aZ,aM,aT,qx,qo,hfr,hh,qb,f1,f2]
   refine hsp2.same (by unfold mcA mcC;simp (disch:=first|omega|simp (disch:=omega) only[aG,aM,aT]) only[fZ,aM,aT]) (by simp (disch:=first|omega|simp (disch:=omega) only[aG,aM,aT]) only[fZ,aM,aT]) (z7 ?_)
   simp (disch:=(try simp only[lZ]);omega) only[aZ,aM,aT,qx,qo,hfr,hot,qb,ql,qs,f1,f2,g1,g2,h2,h3,hml,hpl]
   have S2:=(S.putS hit 0 (prtL p (frS p i) (arrL p s (frS p i)) (otS p i))).as (F':=arrL p s) (G':=dsG p s (i+1)) (fun m hm=>rfl) fun y hy q hq=>by
    rw[updG];unfold dsG
    by_cases e:y=i
    ·subst e
     rw[if_pos rfl]
     by_cases e2:q=0
     ·rw[if_pos e2,if_pos e2,if_pos ⟨by omega,hh⟩]
     ·rw[if_neg e2,if_neg e2,if_neg e2]
    ·rw[if_neg e]
     by_cases e2:q=0
     ·rw[if_pos e2,if_pos e2]
      by_cases e3:y<i∧s.hal.getD (frS p y) false=false
      ·rw[if_pos e3,if_pos ⟨by omega,e3.2⟩]
      ·rw[if_neg e3,if_neg (fun h=>e3 ⟨by omega,h.2⟩)]
     ·rw[if_neg e2,if_neg e2]
   refine⟨(i+1,_,_),⟨by simp only;omega,S2⟩,by simp only;omega,?_⟩
   try simp (disch:=(try simp only[lZ]);omega) only[aZ,aM,aT]
   exact Cut.fg (by simp (disch:=first|omega|simp (disch:=omega) only[aG,aM,aT]) only[fZ,aM,aT,y0,z9,or_true,true_or])
  | true =>
   simp (disch:=(try simp only[lZ]);omega) only[aZ,aM,aT,qx,qo,hfr,hh]
   have S2:=S.as (F':=arrL p s) (G':=dsG p s (i+1)) (fun m hm=>rfl) fun y hy q hq=>by
    unfold dsG
    by_cases e2:q=0
    ·rw[if_pos e2,if_pos e2]
     by_cases e3:y<i∧s.hal.getD (frS p y) false=false
     ·rw[if_pos e3,if_pos ⟨by omega,e3.2⟩]
     ·rw [if_neg e3, if_neg (fun h => e3 ⟨by
       have:y≠i:=fun e=>by rw[e,hh]at h;cases h.2
       omega,h.2⟩)]
    ·rw[if_neg e2,if_neg e2]
   refine⟨(i+1,_,_),⟨by simp only;omega,S2⟩,by simp only;omega,?_⟩
   try simp (disch:=(try simp only[lZ]);omega) only[aZ,aM,aT]
   exact Cut.fg (by simp (disch:=first|omega|simp (disch:=omega) only[aG,aM,aT]) only[fZ,aM,aT,y0,z9,or_true,true_or])
 have hie:i=p.bs.length:=by omega
 subst hie
 have S2:=S.as (F':=fun m=>if m<0∧runs p s m then y9 p.mt else arrL p s m) (G':=dsG p s p.bs.length) (fun m hm=>by rw[if_neg (by omega)]) fun y hy q hq=>rfl
 unfold outC at qo
 simp (disch:=(try simp only[lZ]);omega) only[aZ,aM,aT,qx,qo]
 refine AWP.loopM yc5 (fun x:Nat×Rs×List Blk=>x.1≤p.ms.length∧SJ p s o ad _ (fun m=>if m<x.1∧runs p s m then y9 p.mt else arrL p s m) (dsG p s p.bs.length) x.2.1 x.2.2) (fun x=>[(12,.v (.int .i64 x.1))]) (fun x=>x.2.2) (fun x=>p.ms.length-x.1) (0,r,Q) ⟨by omega,S2⟩ ?_ ?_
 ·exact Cut.fg (by simp (disch:=first|omega|simp (disch:=omega) only[aG,aM,aT]) only[fZ,aM,aT,y0,z9,or_true,true_or])
 clear S S2 qo qx hi hit C
 rintro⟨k,r,Q⟩ ⟨hk,S⟩
 simp only at hk S
 have C:=S.c
 have qo:=C.rm.ot
 rw[C.ro]at qo
 have qx:blkAt Q 0 0=some _:=C.bx
 have qv:blkAt Q 1 0=some z8:=C.rv
 have lv:=y4 qv
 unfold outC at qo
 by_cases hkt:k<p.ms.length
 ·have qb:=C.rm.get .bef rfl
  simp only[ctR]at qb
  have lb:=y4 qb
  have f2:=zC0 p.ms.length r.bc
  have f3:=z91 p.ms.length r.bc k
  by_cases hr:runs p s k
  ·have hb:¬binN p k:=fun hb=>hr (.inl hb)
   have hh:s.hal.getD k false=false:=by
    cases h:s.hal.getD k false with
    | false=>rfl
    | true=>exact absurd (.inr h) hr
   simp (disch:=(try simp only[lZ]);omega) only[aZ,aM,aT,qx,qo]
   refine(hbn k hkt).same (by simp (disch:=first|omega|simp (disch:=omega) only[aG,aM,aT]) only[fZ,aM,aT]) rfl (z7 ?_)
   rw[decide_eq_false hb]
   simp (disch:=(try simp only[lZ]);omega) only[aZ,aM,aT,qx,qo,hh]
   refine hz.same rfl (by simp (disch:=first|omega|simp (disch:=omega) only[aG,aM,aT]) only[fZ,aM,aT]) (z7 ?_)
   simp (disch:=(try simp only[lZ]);omega) only[aZ,aM,aT,qx,qo,qb,f2,f3]
   have S3:=(S.putB k (y9 p.mt)).as (F':=fun m=>if m<k+1∧runs p s m then y9 p.mt else arrL p s m) (G':=dsG p s p.bs.length) (fun m hm=>by
    by_cases e:m=k
    ·subst e;rw[x1,if_pos ⟨by omega,hr⟩]
    ·rw[x9 _ _ e]
     by_cases e2:m<k∧runs p s m
     ·rw[if_pos e2,if_pos ⟨by omega,e2.2⟩]
     ·rw[if_neg e2,if_neg (fun h=>e2 ⟨by omega,h.2⟩)]) fun y hy q hq=>rfl
   refine⟨(k+1,_,_),⟨by simp only;omega,S3⟩,by simp only;omega,?_⟩
   try simp (disch:=(try simp only[lZ]);omega) only[aZ,aM,aT]
   exact Cut.fg (by simp (disch:=first|omega|simp (disch:=omega) only[aG,aM,aT]) only[fZ,aM,aT,y0,z9,or_true,true_or])
  ·have S3 := S.as (F' := fun m => if m < k + 1 ∧ runs p s m then y9 p.mt else arrL p s m) (G' := dsG p s p.bs.length) (fun m hm => by
    by_cases e2:m<k∧runs p s m
    ·rw[if_pos e2,if_pos ⟨by omega,e2.2⟩]
    ·rw [if_neg e2, if_neg (fun h => e2 ⟨by
      have:m≠k:=fun e=>hr (e▸h.2)
      omega,h.2⟩)]) fun y hy q hq=>rfl
   simp (disch:=(try simp only[lZ]);omega) only[aZ,aM,aT,qx,qo]
   refine(hbn k hkt).same (by simp (disch:=first|omega|simp (disch:=omega) only[aG,aM,aT]) only[fZ,aM,aT]) rfl (z7 ?_)
   by_cases hb:binN p k
   ·rw[decide_eq_true hb]
    simp (disch:=(try simp only[lZ]);omega) only[aZ,aM,aT]
    refine⟨(k+1,r,Q),⟨by simp only;omega,S3⟩,by simp only;omega,?_⟩
    try simp (disch:=(try simp only[lZ]);omega) only[aZ,aM,aT]
    exact Cut.fg (by simp (disch:=first|omega|simp (disch:=omega) only[aG,aM,aT]) only[fZ,aM,aT,y0,z9,or_true,true_or])
   ·have hh : s.hal.getD k false = true := by
     cases h:s.hal.getD k false with
     | true=>rfl
     | false=>exact absurd (fun hc=>by rcases hc with h1|h1;exact hb h1;rw[h]at h1;cases h1) hr
    rw[decide_eq_false hb]
    simp (disch:=(try simp only[lZ]);omega) only[aZ,aM,aT,qx,qo,hh]
    refine⟨(k+1,r,Q),⟨by simp only;omega,S3⟩,by simp only;omega,?_⟩
    try simp (disch:=(try simp only[lZ]);omega) only[aZ,aM,aT]
    exact Cut.fg (by simp (disch:=first|omega|simp (disch:=omega) only[aG,aM,aT]) only[fZ,aM,aT,y0,z9,or_true,true_or])
 have hke:k=p.ms.length:=by omega
 subst hke
 have hio:=C.hi .out rfl
 rw[C.ro]at hio
 simp at hio
 simp (disch:=(try simp only[lZ]);omega) only[aZ,aM,aT,qx,qo,qv,yy4]
 have hst:=hg.stp hp
 have hw:Shw p p.ms.length r (stpS p s):=⟨fun m hm _=>by
  rw[S.b m hm,z9X ok hg hm]
  by_cases hr:runs p s m
  ·rw[if_pos ⟨hm,hr⟩,if_pos hr]
  ·rw[if_neg (fun h=>hr h.2),if_neg hr],fun m hm=>by rw[S.h m hm,hst.2.2.1],fun y hy q hq=>by
  rw[S.d y hy q hq]
  unfold dsG
  cases q with
  | zero =>
   rw[if_pos rfl,z4Z ok hg hy]
   have hbt:=ok.bt _ (x3 b0 hy)
   have hoo:y3 (p.ms.getD (frS p y) [])≠0:=by unfold frS;omega
   by_cases hr:runs p s (frS p y)
   ·rw [if_pos hr, if_pos ⟨hy, by
     cases h:s.hal.getD (frS p y) false with
     | false=>rfl
     | true=>exact absurd (.inr h) hr⟩]
   ·rw[if_neg hr,if_neg (fun h=>hr (fun hc=>by rcases hc with h1|h1;exact hoo h1;rw[h.2]at h1;cases h1))]
  | succ q=>rw[if_neg (by omega),z40 hy (by omega)];rfl,by rw[S.f,hst.2.2.2]⟩
 exact y8 (r:=stA p (stpS p s)) (hw.fz (ad:=ad) (C.last _) hst.1.hl) ⟨rfl,rfl⟩
theorem y5q(l:List Int)(h:∀i,i<l.length→0≤l.getD i 0):∀(n k:Nat),k+n=l.length→sumT l k≤l.sum
 | 0,k,e=>by rw[show k=l.length by omega,zd8];exact Int.le_refl _
 | n+1,k,e=>by
  have h1:=y5q l h n (k+1) (by omega)
  have h2:=ze9 l k (by omega)
  have h3:=h k (by omega)
  omega
theorem z96{w v u:Bool}{p:Pl}(ok:POk p)(xs:List Int):VR P false z3z [plA w v p,.fs u (ints xs)] [] (isR (.v (.int .i64 (fedE p xs)))):=by
 refine yb6 (by simp) (.inr rfl) fun _ _=>?_
 obtain⟨m1,m2,m3⟩:=ok.mt1
 unfold plA plC
 rw[m3]
 by_cases h1:(xs.length:Int)≠p.mt
 ·have e:fedE p xs=18:=by unfold fedE;rw[if_pos (by omega)]
  rw[e]
  simp (disch:=(try simp only[lZ]);omega) only[aZ,aM,aT,zx8,zP9,decide_eq_true h1,zx9]
  exact y1 ⟨rfl,rfl⟩
 have h1':xs.length=p.mt:=by omega
 simp (disch:=(try simp only[lZ]);omega) only[aZ,aM,aT,zx8,zP9,decide_eq_false h1]
 refine AWP.loopP z8v (fun k:Nat=>k≤xs.length∧sumT xs k≤2000∧∀i,i<k→0≤xs.getD i 0∧xs.getD i 0≤2000) (fun k=>[(2,.v (.int .i64 0)),(4,.v (.int .i64 (2000-sumT xs k))),(5,.v (.int .i64 k))]) (fun _=>[]) (fun k=>xs.length-k) 0 ⟨by omega,by rw[ze8];omega,fun i hi=>absurd hi (by omega)⟩ ?_ ?_
 ·rw[ze8]
  exact Cut.fg (by simp (disch:=first|omega|simp (disch:=omega) only[aG,aM,aT]) only[fZ,aM,aT,Int.sub_zero,y0,z9,or_true,true_or])
 rintro k ⟨hk,h2,hg⟩
 have hb:=zB5 xs 0 2000 k hk hg
 by_cases hkt:k<xs.length
 ·have hs:=ze9 xs k hkt
  by_cases hbad:xs.getD k 0<0∨xs.getD k 0>2000-sumT xs k
  ·have e : fedE p xs = 1 := by
    unfold fedE
    rw[if_neg (by omega)]
    by_cases hm:mixE xs=0
    ·rw[if_neg (fun h=>h hm),if_pos]
     have hall:=zT0 hm
     have h3:=hall k hkt
     have h4:=y5q xs (fun i hi=>(hall i hi).1) (xs.length-(k+1)) (k+1) (by omega)
     omega
    ·rw[if_pos hm]
   rw[e]
   by_cases h:xs.getD k 0<0
   ·simp (disch:=(try simp only[lZ]);omega) only[aZ,aM,aT,decide_eq_true h,zx9]
    exact y1 ⟨rfl,rfl⟩
   ·simp (disch:=(try simp only[lZ]);omega) only[aZ,aM,aT,decide_eq_false h,decide_eq_true (show xs.getD k 0>2000-sumT xs k by omega),zx9]
    exact y1 ⟨rfl,rfl⟩
  ·have e2:2000-sumT xs k-xs.getD k 0=2000-sumT xs (k+1):=by omega
   simp (disch:=(try simp only[lZ]);omega) only[aZ,aM,aT,decide_eq_false (show ¬xs.getD k 0<0 by omega),decide_eq_false (show ¬xs.getD k 0>2000-sumT xs k by omega)]
   refine⟨k+1,⟨by omega,by omega,fun i hi=>?_⟩,by omega,?_⟩
   ·by_cases e:i=k
    ·subst e;omega
    ·exact hg i (by omega)
   ·exact Cut.fg (by simp (disch:=first|omega|simp (disch:=omega) only[aG,aM,aT]) only[fZ,aM,aT,e2,y0,z9,or_true,true_or])
 have hke:k=xs.length:=by omega
 subst hke
 rw[zd8]at hb h2
 have hm:mixE xs=0:=zB6.2 ⟨by omega,fun x hx=>by obtain⟨i,hi,rfl⟩:=zJ9 0 hx;have:=hg i hi;omega⟩
 have e:fedE p xs=0:=by unfold fedE;rw[if_neg (by omega),if_neg (fun h=>h hm),if_neg (by omega)]
 rw[e]
 simp (disch:=(try simp only[lZ]);omega) only[aZ,aM,aT,zx9]
 exact y1 ⟨rfl,rfl⟩
theorem xa2{p:Pl}(hc:chkP p=0){xs:List Int}(hf:fedE p xs=0){k:Nat}(hk:k≤yN p xs)(h:k=yN p xs∨sumI p (itS p (zd9 p (newS p) xs) k)≤0):befL p (itS p (zd9 p (newS p) xs) k)=yldL p xs:=by
 obtain⟨hI,hn,hz⟩:=yD6 hc hf
 have hp:=(zc7 hc).1
 have hGd:=(hI.it hp k).1
 have hz0:sumI p (itS p (zd9 p (newS p) xs) k)=0:=by
  rcases h with e|h
  ·rw[e];exact hz
  ·have:0≤sumI p (itS p (zd9 p (newS p) xs) k):=zn8 fun x _=>(zB9 hGd x).2
   omega
 have hzz:=yD7 hGd (y0y hGd hz0)
 have hE:Eqv p (itS p (zd9 p (newS p) xs) k) (yS p xs):=y5a hp hI.1 hk (.inr hzz)
 refine List.map_congr_left fun m hm=>?_
 have hm:=List.mem_range.1 hm
 unfold yldM
 by_cases hb:binN p m
 ·rw[if_pos hb];exact hE.bef m hm
 ·rw[if_neg hb];exact yr5 hGd hzz hm hb
theorem xu9{p:Pl}(hc:chkP p=0){xs:List Int}(hf:fedE p xs=0):bndR p xs.sum=(((yN p xs:Nat):Int),0)∧((yN p xs:Nat):Int)≤2000000000000000:=by
 obtain⟨h1,h2,h3⟩:=z92 hf
 have hg:=z9u h2
 have hb:=y4X hc (g:=xs.sum) (by omega)
 have e:((yN p xs:Nat):Int)=xs.sum*perP p:=by
  unfold yN
  rw[Int.natCast_mul,Int.toNat_of_nonneg hg.1,Int.toNat_of_nonneg hb.2.2.1]
 unfold bndR
 rw[if_neg (fun h=>h hc),if_neg (by omega),e]
 exact⟨rfl,hb.2.1⟩
set_option maxHeartbeats 1000000 in
theorem yL5{u:Bool}(p:Pl)(xs:List Int)(hl9:xs.length≤9223372036854775807):VR P false z3n [plA true true p,.fs u (ints xs)] [] (isR (yldT (yldR p xs))):=by
 refine ya9 (by simp) (.inr rfl) fun _ _=>?_
 have hck:=z4Y (w:=true) (v:=true) p
 unfold plA plC at *
 by_cases hc:chkP p=0
 case neg =>
  have e:yldR p xs=([],chkP p):=by unfold yldR;rw[if_pos hc]
  rw[e]
  simp (disch:=(try simp only[lZ]);omega) only[aZ,aM,aT,zl6,zx5]
  refine hck.same (by simp (disch:=first|omega|simp (disch:=omega) only[aG,aM,aT]) only[fZ,aM,aT]) rfl (z7 ?_)
  simp (disch:=(try simp only[lZ]);omega) only[aZ,aM,aT,decide_eq_true (show ¬chkP p=0 from hc),zx6]
  exact y8 (ys2 _ _) ⟨rfl,rfl⟩
 have hp:=(zc7 hc).1
 have ok:=y7 hp
 obtain⟨m1,m2,m3⟩:=ok.mt1
 have hfd:=z96 (w:=true) (v:=true) (u:=u) ok xs
 unfold plA plC at hfd
 rw[m3]at hck hfd ⊢
 by_cases hf:fedE p xs=0
 case neg =>
  have e:yldR p xs=([],fedE p xs):=by unfold yldR;rw[if_neg (fun h=>h hc),if_pos hf]
  rw[e]
  simp (disch:=(try simp only[lZ]);omega) only[aZ,aM,aT,zl6,zx5]
  refine hck.same (by simp (disch:=first|omega|simp (disch:=omega) only[aG,aM,aT]) only[fZ,aM,aT]) rfl (z7 ?_)
  simp (disch:=(try simp only[lZ]);omega) only[aZ,aM,aT,hc]
  refine hfd.same (by simp (disch:=first|omega|simp (disch:=omega) only[aG,aM,aT]) only[fZ,aM,aT]) rfl (z7 ?_)
  simp (disch:=(try simp only[lZ]);omega) only[aZ,aM,aT,decide_eq_true (show ¬fedE p xs=0 from hf),zx6]
  exact y8 (ys2 _ _) ⟨rfl,rfl⟩
 have e:yldR p xs=(yldL p xs,0):=by unfold yldR;rw[if_neg (fun h=>h hc),if_neg (fun h=>h hf)]
 rw[e]
 obtain⟨f1,f2,f3⟩:=z92 hf
 obtain⟨hI,hn,hz⟩:=yD6 hc hf
 have hnw:=y6F (w:=true) (v:=true) p hp
 have hfe:=y1d (w:=u) p (newS p) xs hp (Gd.new p) hl9
 rw[ys1 hf,show y09 p (newS p) xs=zd9 p (newS p) xs from if_pos (ys1 hf)]at hfe
 have hsu:=yr8 (w:=u) xs (by omega) (zN8 f2)
 rw[yq9]at hsu
 obtain⟨b1,b2⟩:=xu9 hc hf
 have hbn:=yK6 (w:=true) (v:=true) p xs.sum
 rw[b1]at hbn
 have hby:=fun k hk h=>xa2 (k:=k) hc hf hk h
 have hgd:=fun k=>(hI.it hp k).1
 have hin:=fun k=>yE3 p (itS p (zd9 p (newS p) xs) k) hp (hgd k)
 have hsi:=fun k=>y97 (w:=true) m2 (hgd k)
 have hst:=fun k=>y1e p (itS p (zd9 p (newS p) xs) k) hp (hgd k)
 have hits:∀k,stpS p (itS p (zd9 p (newS p) xs) k)=itS p (zd9 p (newS p) xs) (k+1):=fun _=>rfl
 have hit0:zd9 p (newS p) xs=itS p (zd9 p (newS p) xs) 0:=rfl
 rw[hit0]at hfe
 simp only[hits]at hst
 generalize newS p=s0 at *
 generalize zd9 p s0 xs=s1 at *
 simp only[stA,stC]at hfe hin hst hnw
 unfold plA plC at hbn
 rw[m3]at hbn
 simp (disch:=(try simp only[lZ]);omega) only[aZ,aM,aT,zl6,zx5]
 refine hck.same (by simp (disch:=first|omega|simp (disch:=omega) only[aG,aM,aT]) only[fZ,aM,aT]) rfl (z7 ?_)
 simp (disch:=(try simp only[lZ]);omega) only[aZ,aM,aT,hc]
 refine hfd.same (by simp (disch:=first|omega|simp (disch:=omega) only[aG,aM,aT]) only[fZ,aM,aT]) rfl (z7 ?_)
 simp (disch:=(try simp only[lZ]);omega) only[aZ,aM,aT,hf]
 refine hnw.same (by simp (disch:=first|omega|simp (disch:=omega) only[aG,aM,aT]) only[fZ,aM,aT]) (by simp (disch:=first|omega|simp (disch:=omega) only[aG,aM,aT]) only[fZ,aM,aT]) (z7 ?_)
 simp (disch:=(try simp only[lZ]);omega) only[aZ,aM,aT]
 refine hfe.same (by simp (disch:=first|omega|simp (disch:=omega) only[aG,aM,aT]) only[fZ,aM,aT]) (by simp (disch:=first|omega|simp (disch:=omega) only[aG,aM,aT]) only[fZ,aM,aT]) (z7 ?_)
 simp (disch:=(try simp only[lZ]);omega) only[aZ,aM,aT]
 refine hsu.same (by simp (disch:=first|omega|simp (disch:=omega) only[aG,aM,aT]) only[fZ,aM,aT]) rfl (z7 ?_)
 simp (disch:=(try simp only[lZ]);omega) only[aZ,aM,aT]
 refine hbn.same (by simp (disch:=first|omega|simp (disch:=omega) only[aG,aM,aT]) only[fZ,aM,aT]) rfl (z7 ?_)
 simp (disch:=(try simp only[lZ]);omega) only[aZ,aM,aT]
 refine AWP.loopP z8p (fun k:Nat=>k≤yN p xs) (fun k=>[(9,.v (.int .i64 k))]) (fun k=>[(1,⟨0,stC p (itS p s1 k)⟩)]) (fun k=>yN p xs-k) 0 (by omega) ?_ ?_
 ·exact Cut.fg (by simp (disch:=first|omega|simp (disch:=omega) only[aG,aM,aT]) only[fZ,aM,aT,stC,y0,z9,or_true,true_or])
 rintro k hk
 have hbk:=hby k hk
 have hsk:=hsi k
 by_cases hkt:k<yN p xs
 case neg =>
  rw[← hbk (.inl (by omega))]
  simp (disch:=(try simp only[lZ]);omega) only[aZ,aM,aT,stC,decide_eq_false (show ¬(k:Int)<yN p xs by omega),zx6]
  exact y8 (Fz.refl (by simp (disch:=first|omega|simp (disch:=omega) only[aG,aM,aT]) only[fZ,aM,aT])) ⟨rfl,rfl⟩
 by_cases hpos:sumI p (itS p s1 k)>0
 case neg =>
  rw[← hbk (.inr (by omega))]
  simp (disch:=(try simp only[lZ]);omega) only[aZ,aM,aT,stC,decide_eq_true (show(k:Int)<yN p xs by omega)]
  refine(hin k).same (by simp (disch:=first|omega|simp (disch:=omega) only[aG,aM,aT]) only[fZ,aM,aT]) (by simp (disch:=first|omega|simp (disch:=omega) only[aG,aM,aT]) only[fZ,aM,aT]) (z7 ?_)
  simp (disch:=(try simp only[lZ]);omega) only[aZ,aM,aT]
  refine hsk.same (by simp (disch:=first|omega|simp (disch:=omega) only[aG,aM,aT]) only[fZ,aM,aT]) rfl (z7 ?_)
  simp (disch:=(try simp only[lZ]);omega) only[aZ,aM,aT,decide_eq_false hpos,zx6]
  exact y8 (Fz.refl (by simp (disch:=first|omega|simp (disch:=omega) only[aG,aM,aT]) only[fZ,aM,aT])) ⟨rfl,rfl⟩
 simp (disch:=(try simp only[lZ]);omega) only[aZ,aM,aT,stC,decide_eq_true (show(k:Int)<yN p xs by omega)]
 refine(hin k).same (by simp (disch:=first|omega|simp (disch:=omega) only[aG,aM,aT]) only[fZ,aM,aT]) (by simp (disch:=first|omega|simp (disch:=omega) only[aG,aM,aT]) only[fZ,aM,aT]) (z7 ?_)
 simp (disch:=(try simp only[lZ]);omega) only[aZ,aM,aT]
 refine hsk.same (by simp (disch:=first|omega|simp (disch:=omega) only[aG,aM,aT]) only[fZ,aM,aT]) rfl (z7 ?_)
 simp (disch:=(try simp only[lZ]);omega) only[aZ,aM,aT,decide_eq_true hpos]
 refine(hst k).same (by simp (disch:=first|omega|simp (disch:=omega) only[aG,aM,aT]) only[fZ,aM,aT]) (by simp (disch:=first|omega|simp (disch:=omega) only[aG,aM,aT]) only[fZ,aM,aT]) (z7 ?_)
 simp (disch:=(try simp only[lZ]);omega) only[aZ,aM,aT]
 refine⟨k+1,by omega,by omega,?_⟩
 exact Cut.fg (by simp (disch:=first|omega|simp (disch:=omega) only[aG,aM,aT]) only[fZ,aM,aT,stC,y0,z9,or_true,true_or])
theorem y1f{w v:Bool}{p:Pl}(ok:POk p)(g:Bt):VR P false z6B [plA w v p,btA g] [] (isR (.v (.int .i64 (glE p g)))):=by
 refine yn2 (by simp) (.inr rfl) fun _ _=>?_
 obtain⟨m1,m2,m3⟩:=ok.mt1
 have n2:=ok.n2
 unfold plA plC btA btC
 rw[m3]
 by_cases c1:g.fr<0∨g.fr≥p.ms.length
 ·have e:glE p g=7:=by unfold glE;rw[if_pos (by omega)]
  rw[e]
  rcases c1 with h|h
  ·simp (disch:=(try simp only[lZ]);omega) only[aZ,aM,zs5,zF5,decide_eq_true h,W4]
   exact y1 ⟨rfl,rfl⟩
  ·simp (disch:=(try simp only[lZ]);omega) only[aZ,aM,zs5,zF5,decide_eq_false (show ¬g.fr<0 by omega),decide_eq_true h,W4]
   exact y1 ⟨rfl,rfl⟩
 have ho:=zf1 (w:=w) (p.ms.getD g.fr.toNat [])
 unfold mcA mcC at ho
 simp (disch:=(try simp only[lZ]);omega) only[aZ,aM,zs5,zF5,decide_eq_false (show ¬g.fr<0 by omega),decide_eq_false (show ¬g.fr≥p.ms.length by omega)]
 refine ho.same (by simp (disch:=first|omega|simp (disch:=omega) only[aG,aM]) only[fZ,aM]) rfl (z7 ?_)
 by_cases c2:((y3 (p.ms.getD g.fr.toNat []):Nat):Int)≠0
 ·have e:glE p g=21:=by unfold glE;rw[if_neg (by omega),if_pos (by omega)]
  rw[e]
  simp (disch:=(try simp only[lZ]);omega) only[aZ,aM,decide_eq_true c2,W4]
  exact y1 ⟨rfl,rfl⟩
 by_cases c3:g.ot<0∨g.ot≥p.mt
 ·have e:glE p g=18:=by unfold glE;rw[if_neg (by omega),if_neg (by omega),if_pos (by omega)]
  rw[e]
  rcases c3 with h|h
  ·simp (disch:=(try simp only[lZ]);omega) only[aZ,aM,decide_eq_false c2,decide_eq_true h,W4]
   exact y1 ⟨rfl,rfl⟩
  ·simp (disch:=(try simp only[lZ]);omega) only[aZ,aM,decide_eq_false c2,decide_eq_false (show ¬g.ot<0 by omega),decide_eq_true h,W4]
   exact y1 ⟨rfl,rfl⟩
 by_cases c4:g.to < -1000000∨g.to>1000000∨g.ln<0∨g.ln>1000
 ·have e:glE p g=1:=by unfold glE;rw[if_neg (by omega),if_neg (by omega),if_neg (by omega),if_pos c4]
  rw[e]
  by_cases d1:g.to < -1000000
  ·simp (disch:=(try simp only[lZ]);omega) only[aZ,aM,decide_eq_false c2,decide_eq_false (show ¬g.ot<0 by omega),decide_eq_false (show ¬g.ot≥p.mt by omega),decide_eq_true d1,W4]
   exact y1 ⟨rfl,rfl⟩
  by_cases d2:g.to>1000000
  ·simp (disch:=(try simp only[lZ]);omega) only[aZ,aM,decide_eq_false c2,decide_eq_false (show ¬g.ot<0 by omega),decide_eq_false (show ¬g.ot≥p.mt by omega),decide_eq_false d1,decide_eq_true d2,W4]
   exact y1 ⟨rfl,rfl⟩
  by_cases d3:g.ln<0
  ·simp (disch:=(try simp only[lZ]);omega) only[aZ,aM,decide_eq_false c2,decide_eq_false (show ¬g.ot<0 by omega),decide_eq_false (show ¬g.ot≥p.mt by omega),decide_eq_false d1,decide_eq_false d2,decide_eq_true d3,W4]
   exact y1 ⟨rfl,rfl⟩
  have d4:g.ln>1000:=by omega
  simp (disch:=(try simp only[lZ]);omega) only[aZ,aM,decide_eq_false c2,decide_eq_false (show ¬g.ot<0 by omega),decide_eq_false (show ¬g.ot≥p.mt by omega),decide_eq_false d1,decide_eq_false d2,decide_eq_false d3,decide_eq_true d4,W4]
  exact y1 ⟨rfl,rfl⟩
 have e:glE p g=0:=by
  unfold glE
  rw[if_neg (by omega),if_neg (by omega),if_neg (by omega),if_neg c4]
 rw[e]
 simp (disch:=(try simp only[lZ]);omega) only[aZ,aM,decide_eq_false c2,decide_eq_false (show ¬g.ot<0 by omega),decide_eq_false (show ¬g.ot≥p.mt by omega),decide_eq_false (show ¬g.to < -1000000 by omega),decide_eq_false (show ¬g.to>1000000 by omega),decide_eq_false (show ¬g.ln<0 by omega),decide_eq_false (show ¬g.ln>1000 by omega),W4]
 exact y1 ⟨rfl,rfl⟩
theorem z45{w v u:Bool}{p:Pl}(ok:POk p)(l:List Bt):VR P false z3H [plA w v p,.fs u (bts l)] [] (isR (.v (.int .i64 (zb3 p l)))):=by
 refine yc7 (by simp) (.inr rfl) fun _ _=>?_
 obtain⟨m1,m2,m3⟩:=ok.mt1
 have hgo:=fun g=>y1f (w:=w) (v:=v) ok g
 unfold plA plC at *
 unfold btA btC at hgo
 by_cases h1:(l.length:Int)>24
 ·have e:zb3 p l=8:=by unfold zb3;rw[if_pos (by omega)]
  rw[e]
  simp (disch:=(try simp only[lZ]);omega) only[aZ,aM,zy1,zQ4,decide_eq_true h1,zy2]
  exact y1 ⟨rfl,rfl⟩
 have h1':¬24<l.length:=by omega
 simp (disch:=(try simp only[lZ]);omega) only[aZ,aM,zy1,zQ4,decide_eq_false h1]
 refine AWP.loopP z8A (fun k:Nat=>k≤l.length∧∀i,i<k→¬badG p (l.getD i b0)) (fun k=>[(2,.v (.int .i64 0)),(3,.v (.int .i64 k))]) (fun _=>[]) (fun k=>l.length-k) 0 ⟨by omega,fun i hi=>absurd hi (by omega)⟩ ?_ ?_
 ·exact Cut.fg (by simp (disch:=first|omega|simp (disch:=omega) only[aG,aM]) only[fZ,aM,y0,z9,or_true,true_or])
 rintro k ⟨hk,hg⟩
 by_cases hkt:k<l.length
 ·have ew:=yE0 h1' hkt hg
  have hgs:¬badG p (l.getD k b0)→∀i,i<k+1→¬badG p (l.getD i b0):=fun h i hi=>by
   by_cases e:i=k
   ·subst e;exact h
   ·exact hg i (by omega)
  simp (disch:=(try simp only[lZ]);omega) only[aZ,aM]
  refine(hgo _).same (by simp (disch:=first|omega|simp (disch:=omega) only[aG,aM]) only[fZ,aM]) rfl (z7 ?_)
  by_cases hb:glE p (l.getD k b0)=0
  case neg =>
   rw[ew hb]
   simp (disch:=(try simp only[lZ]);omega) only[aZ,aM,decide_eq_true (show ¬glE p (l.getD k b0)=0 from hb),zy2]
   exact y1 ⟨rfl,rfl⟩
  simp (disch:=(try simp only[lZ]);omega) only[aZ,aM,hb]
  refine⟨k+1,⟨by omega,hgs (fun h=>h hb)⟩,by omega,?_⟩
  exact Cut.of' 1 rfl (by omega) (by simp (disch:=first|omega|simp (disch:=omega) only[aG,aM]) only[fZ,aM]) (by simp (disch:=first|omega|simp (disch:=omega) only[aG,aM]) only[fZ,aM])
 have hke:k=l.length:=by omega
 subst hke
 rw[z1m h1' hg]
 simp (disch:=(try simp only[lZ]);omega) only[aZ,aM]
 refine AWP.loopP z8B (fun k:Nat=>k≤l.length∧∀j,j<k→¬twiG l j) (fun k=>[(2,.v (.int .i64 0)),(6,.v (.int .i64 k))]) (fun k=>[]) (fun k=>l.length-k) 0 ⟨by omega,fun i hi=>absurd hi (by omega)⟩ ?_ ?_
 ·exact Cut.fg (by simp (disch:=first|omega|simp (disch:=omega) only[aG,aM]) only[fZ,aM,y0,z9,or_true,true_or])
 rintro k ⟨hk,ht⟩
 by_cases hkt:k<l.length
 ·simp (disch:=(try simp only[lZ]);omega) only[aZ,aM]
  refine AWP.loopP z8C (fun i:Nat=>i≤k∧∀j,j<i→(l.getD j b0).fr≠(l.getD k b0).fr) (fun i=>[(2,.v (.int .i64 0)),(7,.v (.int .i64 i))]) (fun k=>[]) (fun i=>k-i) 0 ⟨by omega,fun i hi=>absurd hi (by omega)⟩ ?_ ?_
  ·exact Cut.fg (by simp (disch:=first|omega|simp (disch:=omega) only[aG,aM]) only[fZ,aM,y0,z9,or_true,true_or])
  rintro i ⟨hi,hn⟩
  by_cases hit:i<k
  ·by_cases he:(l.getD k b0).fr=(l.getD i b0).fr
   ·rw[if_pos (show dupG l from⟨k,hkt,i,hit,he.symm⟩)]
    simp (disch:=(try simp only[lZ]);omega) only[aZ,aM,decide_eq_true (show(i:Int)<k by omega),decide_eq_true he,zy2]
    exact y1 ⟨rfl,rfl⟩
   ·simp (disch:=(try simp only[lZ]);omega) only[aZ,aM,decide_eq_true (show(i:Int)<k by omega),decide_eq_false he]
    refine⟨i+1,⟨by omega,fun j hj=>?_⟩,by omega,?_⟩
    ·by_cases e:j=i
     ·subst e;exact fun h=>he h.symm
     ·exact hn j (by omega)
    ·exact Cut.fg (by simp (disch:=first|omega|simp (disch:=omega) only[aG,aM]) only[fZ,aM,y0,z9,or_true,true_or])
  have hie:i=k:=by omega
  subst hie
  simp (disch:=(try simp only[lZ]);omega) only[aZ,aM,decide_eq_false (show ¬(i:Int)<i by omega)]
  refine⟨i+1,⟨by omega,fun j hj=>?_⟩,by omega,?_⟩
  ·by_cases e:j=i
   ·subst e
    rintro⟨q,q1,q2⟩
    exact hn q q1 q2
   ·exact ht j (by omega)
  ·exact Cut.fg (by simp (disch:=first|omega|simp (disch:=omega) only[aG,aM]) only[fZ,aM,y0,z9,or_true,true_or])
 have hke:k=l.length:=by omega
 subst hke
 rw[if_neg (show ¬dupG l from fun⟨k,h1,h2⟩=>ht k h1 h2)]
 simp (disch:=(try simp only[lZ]);omega) only[aZ,aM,zy2]
 exact y1 ⟨rfl,rfl⟩
theorem yL6{u u':Bool}(p:Pl)(xs:List Int)(l:List Bt)(hl9:xs.length≤9223372036854775807):VR P false z3q [plA true true p,.fs u (ints xs),.fs u' (bts l)] [] (isR (zw1 (valR p xs l))):=by
 refine yb0 (by simp) (.inr rfl) fun _ _=>?_
 have hy:=yL5 (u:=u) p xs hl9
 unfold yldT at hy
 unfold plA plC zw1 at *
 by_cases h1:(yldR p xs).2=0
 case neg =>
  have e:valR p xs l=(0,(yldR p xs).2):=by unfold valR;rw[if_pos h1]
  rw[e]
  simp (disch:=(try simp only[lZ]);omega) only[aZ,aM,zl7,zx7]
  refine hy.same (by simp (disch:=first|omega|simp (disch:=omega) only[aG,aM]) only[fZ,aM]) (by simp (disch:=first|omega|simp (disch:=omega) only[aG,aM]) only[fZ,aM]) (z7 ?_)
  simp (disch:=(try simp only[lZ]);omega) only[aZ,aM,decide_eq_true (show ¬(yldR p xs).2=0 from h1),zP5]
  exact y8 (Fz.refl rfl) ⟨rfl,rfl⟩
 obtain⟨hc,hf,hyr⟩:=ys3 h1
 have ok:=y7 (zc7 hc).1
 have hw:=z45 (w:=true) (v:=true) (u:=u') ok l
 unfold plA plC at hw
 rw[hyr]at hy h1
 by_cases h2:zb3 p l=0
 case neg =>
  have e:valR p xs l=(0,zb3 p l):=by unfold valR;rw[hyr,if_neg (fun h=>h rfl),if_pos h2]
  rw[e]
  simp (disch:=(try simp only[lZ]);omega) only[aZ,aM,zl7,zx7]
  refine hy.same (by simp (disch:=first|omega|simp (disch:=omega) only[aG,aM]) only[fZ,aM]) (by simp (disch:=first|omega|simp (disch:=omega) only[aG,aM]) only[fZ,aM]) (z7 ?_)
  simp (disch:=(try simp only[lZ]);omega) only[aZ,aM]
  refine hw.same (by simp (disch:=first|omega|simp (disch:=omega) only[aG,aM]) only[fZ,aM]) rfl (z7 ?_)
  simp (disch:=(try simp only[lZ]);omega) only[aZ,aM,decide_eq_true (show ¬zb3 p l=0 from h2),zP5]
  exact y8 (Fz.refl rfl) ⟨rfl,rfl⟩
 have e:valR p xs l=(wrtS (yldL p xs) l,0):=by unfold valR;rw[hyr,if_neg (fun h=>h rfl),if_neg (fun h=>h h2)]
 rw[e]
 obtain⟨g1,g2⟩:=ys4 hc hf h2
 have hYl:=z44 p xs
 have n2:=ok.n2
 generalize yldL p xs=Y at *
 have hL:=z7W Y l
 have hbd:∀k,k≤l.length→-17179869184000000*(k:Int)≤sumT (wrtL Y l) k∧sumT (wrtL Y l) k≤17179869184000000*k:=fun k hk=>zB5 (wrtL Y l) (-17179869184000000) 17179869184000000 k (by omega) fun i hi=>by
  rw[z43 _ _ _ (by omega)]
  have:=yE2 (g2 _ (x3 b0 (k:=i) (l:=l) (by omega)))
  omega
 have hsu:=fun k hk=>ze9 (wrtL Y l) k hk
 have hall:sumT (wrtL Y l) l.length=wrtS Y l:=by rw[← hL];exact zd8 _
 simp (disch:=(try simp only[lZ]);omega) only[aZ,aM,zl7,zx7]
 refine hy.same (by simp (disch:=first|omega|simp (disch:=omega) only[aG,aM]) only[fZ,aM]) (by simp (disch:=first|omega|simp (disch:=omega) only[aG,aM]) only[fZ,aM]) (z7 ?_)
 simp (disch:=(try simp only[lZ]);omega) only[aZ,aM]
 refine hw.same (by simp (disch:=first|omega|simp (disch:=omega) only[aG,aM]) only[fZ,aM]) rfl (z7 ?_)
 simp (disch:=(try simp only[lZ]);omega) only[aZ,aM,h2]
 refine AWP.loopP z8q (fun k:Nat=>k≤l.length) (fun k=>[(8,.v (.int .i64 (sumT (wrtL Y l) k))),(9,.v (.int .i64 k))]) (fun _=>[]) (fun k=>l.length-k) 0 (by omega) ?_ ?_
 ·rw[ze8]
  exact Cut.fg (by simp (disch:=first|omega|simp (disch:=omega) only[aG,aM]) only[fZ,aM,y0,z9,or_true,true_or])
 rintro k hk
 by_cases hkt:k<l.length
 case neg =>
  have hke:k=l.length:=by omega
  subst hke
  rw[← hall]
  simp (disch:=(try simp only[lZ]);omega) only[aZ,aM,zP5]
  exact y8 (Fz.refl rfl) ⟨rfl,rfl⟩
 have hgk:=g2 _ (x3 b0 (k:=k) (l:=l) hkt)
 have hs:=hsu k (by omega)
 rw[z43 _ _ _ hkt]at hs
 have q0:=hbd k hk
 have q00:=hbd (k+1) (by omega)
 have q2:=yE2 hgk
 have hw:=y5m Y (l.getD k b0)
 have hpu:=fun i=>yB9 (w:=true) (Y.getD (l.getD k b0).fr.toNat []) i
 have hto:=yr8 (w:=true) (Y.getD (l.getD k b0).fr.toNat []) (by have:=(zB6.1 hgk.2.2.2.2).1;omega) (zN8 hgk.2.2.2.2)
 rw[yq9]at hto
 unfold zw1 at hpu
 obtain⟨p1,p2,p3,p4,p5⟩:=hgk
 generalize hgg:l.getD k b0=g at *
 generalize hmm:Y.getD g.fr.toNat []=m at *
 simp (disch:=(try simp only[lZ]);omega) only[aZ,aM,hgg,hmm]
 refine(hpu g.ot).same (by simp (disch:=first|omega|simp (disch:=omega) only[aG,aM]) only[fZ,aM]) rfl (z7 ?_)
 by_cases h1:(purM m g.ot).2=0
 ·by_cases h2:(purM m g.ot).1≥g.ln
  ·rw[if_pos ⟨h1,h2⟩]at hw
   simp (disch:=(try simp only[lZ]);omega) only[aZ,aM,h1,hgg,decide_eq_true h2]
   refine hto.same (by simp (disch:=first|omega|simp (disch:=omega) only[aG,aM]) only[fZ,aM]) rfl (z7 ?_)
   simp (disch:=(try simp only[lZ]);omega) only[aZ,aM]
   rw[← hw,← hs]
   refine⟨k+1,by omega,by omega,?_⟩
   exact Cut.fg (by simp (disch:=first|omega|simp (disch:=omega) only[aG,aM]) only[fZ,aM,y0,z9,or_true,true_or])
  ·rw[if_neg (fun h=>h2 h.2)]at hw
   rw[hw,Int.add_zero]at hs
   simp (disch:=(try simp only[lZ]);omega) only[aZ,aM,h1,hgg,decide_eq_false h2]
   refine⟨k+1,by omega,by omega,?_⟩
   rw[hs]
   exact Cut.fg (by simp (disch:=first|omega|simp (disch:=omega) only[aG,aM]) only[fZ,aM,y0,z9,or_true,true_or])
 ·rw[if_neg (fun h=>h1 h.1)]at hw
  rw[hw,Int.add_zero]at hs
  simp (disch:=(try simp only[lZ]);omega) only[aZ,aM,hgg,decide_eq_false h1]
  refine⟨k+1,by omega,by omega,?_⟩
  rw[hs]
  exact Cut.fg (by simp (disch:=first|omega|simp (disch:=omega) only[aG,aM]) only[fZ,aM,y0,z9,or_true,true_or])
end Go.Proofs.YtcppaddgclkekaaGreat
namespace Go.Proofs.YtcppaddgclkekaaGreat
open Go Go.Lft
set_option linter.unusedSimpArgs false
set_option linter.unusedVariables false
structure Og where
 r:Mc
 c:Int
def og0:Og:=⟨[],0⟩
def ogC(w:Bool)(o:Og):List A:=[.fs w (rows w o.r),.v (.int .i64 o.c)]
def ogA(w:Bool)(o:Og):A:=.agg (ogC w o)
def ogs(w:Bool)(l:List Og):List A:=l.map (ogA w)
def ogL(w:Bool)(L:List (List Og)):List A:=L.map fun l=>.fs w (ogs w l)
theorem y8K(w:Bool)(l:List Og):(ogs w l).length=l.length:=by simp [ogs]
theorem y8L(w v:Bool)(l:List Og)(kk:IntKind)(j:Int)(h1:0≤j)(h2:j<l.length):idxA 2 (.fs w (ogs v l)) (.v (.int kk j))=some (.fp w [.fs v (rows v (l.getD j.toNat og0).r),.v (.int .i64 (l.getD j.toNat og0).c)]) :=
 zH7 2 w l og0 kk j (ogC v) (fun _=>rfl) (fun _=>rfl) h1 h2
theorem xa3(n:Nat)(w:Bool)(l:List Og):A.bdL n (ogs w l)=true:=z1C n l fun o=>by simp [ogA,ogC,A.bd,A.bdL,r_bd]
theorem xa4(l:List Og):A.clL (ogs true l)=true:=z1D l fun o=>by simp [ogA,ogC,A.cl,A.clL,r_cl]
theorem y5r(w:Bool)(L:List (List Og)):(ogL w L).length=L.length:=by simp [ogL]
theorem y5s(w v:Bool)(L:List (List Og))(kk:IntKind)(j:Int)(h1:0≤j)(h2:j<L.length):idxA 1 (.fs w (ogL v L)) (.v (.int kk j))=some (.fp w [.fs v (ogs v (L.getD j.toNat []))]) :=
 zH7 1 w L [] kk j (fun l=>[.fs v (ogs v l)]) (fun _=>rfl) (fun _=>rfl) h1 h2
theorem y0A(n:Nat)(w:Bool)(L:List (List Og)):A.bdL n (ogL w L)=true:=z1C n L fun l=>by simp [A.bd,xa3]
theorem y5t(L:List (List Og)):A.clL (ogL true L)=true:=z1D L fun l=>by simp [A.cl,xa4]
theorem aG37:type_of% (ai9 @y8K<|ai9 @y8L<|ai9 @xa3<|ai9 @xa4<|ai9 @y5r<|ai9 @y5s<|ai9 @y0A<|@y5t):=⟨@y8K,@y8L,@xa3,@xa4,@y5r,@y5s,@y0A,@y5t⟩
attribute [local congr] Q7 Q8 Q9 za1 Z9 Y0 za2 Y2 Y3 Y4 za3 za0
def ogE(p:Pl)(m:Nat)(o:Og):Int:=if w5 o.r p.mt≠0 then w5 o.r p.mt else if y3 o.r≠y3 (p.ms.getD m [])then 3 else if o.c<0∨1000000000000<o.c then 1 else 0
def ogsE(p:Pl)(m:Nat)(l:List Og):Int:=if 4<l.length then 8 else zc5 (ogE p m) l
def za4(p:Pl)(L:List (List Og)):Int:=if L.length≠p.ms.length then 3 else zc5 (fun m=>ogsE p m (L.getD m [])) (List.range p.ms.length)
theorem zc8{n i:Nat}(h:i<n):(List.range n).getD i 0=i:=by simp [List.getD_eq_getElem?_getD,h]
theorem yE4{p:Pl}{L:List (List Og)}(hl:L.length=p.ms.length){k:Nat}(hk:k<p.ms.length)(hg:∀i,i<k→ogsE p i (L.getD i [])=0)(hb:ogsE p k (L.getD k [])≠0):za4 p L=ogsE p k (L.getD k []):=by
 have:=za7 (f:=fun m=>ogsE p m (L.getD m [])) 0 (l:=List.range p.ms.length) (k:=k) (by simpa using hk) (fun i hi=>by rw[zc8 (by omega)];exact hg i hi) (by rw[zc8 hk];exact hb)
 rw[zc8 hk]at this
 unfold za4
 rw[if_neg (by omega),this]
theorem yk0{p:Pl}{L:List (List Og)}(hl:L.length=p.ms.length)(hg:∀i,i<p.ms.length→ogsE p i (L.getD i [])=0):za4 p L=0:=by
 unfold za4
 rw[if_neg (by omega)]
 exact w7 0 fun i hi=>by
  have hi':i<p.ms.length:=by simpa using hi
  rw[zc8 hi'];exact hg i hi'
theorem z46{w v u:Bool}{p:Pl}(ok:POk p)(L:List (List Og)):VR P false zz8 [plA w v p,.fs u (ogL u L)] [] (isR (.v (.int .i64 (za4 p L)))):=by
 refine z1p (by simp) (.inr rfl) fun _ _=>?_
 obtain⟨m1,m2,m3⟩:=ok.mt1
 have n2:=ok.n2
 unfold plA plC
 rw[m3]
 by_cases h1:(L.length:Int)≠p.ms.length
 ·have e:za4 p L=3:=by unfold za4;rw[if_pos (by omega)]
  rw[e]
  simp (disch:=(try simp only[lZ]);omega) only[aZ,aM,aG37,zd7,zk6,decide_eq_true h1,w9]
  exact y1 ⟨rfl,rfl⟩
 have hl:L.length=p.ms.length:=by omega
 simp (disch:=(try simp only[lZ]);omega) only[aZ,aM,aG37,zd7,zk6,decide_eq_false h1]
 refine AWP.loopP z0k (fun k:Nat=>k≤L.length∧∀i,i<k→ogsE p i (L.getD i [])=0) (fun k=>[(2,.v (.int .i64 0)),(4,.v (.int .i64 k))]) (fun _=>[]) (fun k=>L.length-k) 0 ⟨by omega,fun i hi=>absurd hi (by omega)⟩ ?_ ?_
 ·exact Cut.fg (by simp (disch:=first|omega|simp (disch:=omega) only[aG,aM,aG37]) only[fZ,aM,aG37,y0,z9,or_true,true_or])
 rintro k ⟨hk,hg⟩
 by_cases hkt:k<L.length
 case neg =>
  have hke:k=p.ms.length:=by omega
  rw[yk0 hl (fun i hi=>hg i (by omega))]
  simp (disch:=(try simp only[lZ]);omega) only[aZ,aM,aG37,decide_eq_false (show ¬(k:Int)<L.length by omega),w9]
  exact y1 ⟨rfl,rfl⟩
 have ew:=yE4 hl (k:=k) (by omega) hg
 have hgs:ogsE p k (L.getD k [])=0→∀i,i<k+1→ogsE p i (L.getD i [])=0:=fun h i hi=>by
  by_cases e:i=k
  ·subst e;exact h
  ·exact hg i (by omega)
 generalize hlk:L.getD k []=l at *
 by_cases h4:(l.length:Int)>4
 ·have e:ogsE p k l=8:=by unfold ogsE;rw[if_pos (by omega)]
  rw[ew (by omega),e]
  simp (disch:=(try simp only[lZ]);omega) only[aZ,aM,aG37,hlk,decide_eq_true h4,w9]
  exact y1 ⟨rfl,rfl⟩
 have eo:ogsE p k l=zc5 (ogE p k) l:=by unfold ogsE;rw[if_neg (by omega)]
 simp (disch:=(try simp only[lZ]);omega) only[aZ,aM,aG37,hlk,decide_eq_false h4]
 refine AWP.loopP z0l (fun j:Nat=>j≤l.length∧∀i,i<j→ogE p k (l.getD i og0)=0) (fun j=>[(2,.v (.int .i64 0)),(10,.v (.int .i64 j))]) (fun _=>[]) (fun j=>l.length-j) 0 ⟨by omega,fun i hi=>absurd hi (by omega)⟩ ?_ ?_
 ·exact Cut.fg (by simp (disch:=first|omega|simp (disch:=omega) only[aG,aM,aG37]) only[fZ,aM,aG37,y0,z9,or_true,true_or])
 rintro j ⟨hj,hgj⟩
 by_cases hjt:j<l.length
 case neg =>
  have hje:j=l.length:=by omega
  subst hje
  have e0:ogsE p k l=0:=by rw[eo];exact w7 og0 hgj
  simp (disch:=(try simp only[lZ]);omega) only[aZ,aM,aG37]
  refine⟨k+1,⟨by omega,hgs e0⟩,by omega,?_⟩
  exact Cut.fg (by simp (disch:=first|omega|simp (disch:=omega) only[aG,aM,aG37]) only[fZ,aM,aG37,y0,z9,or_true,true_or])
 have ej:ogE p k (l.getD j og0)≠0→za4 p L=ogE p k (l.getD j og0):=fun h=>by
  have:=za7 og0 hjt hgj h
  rw[ew (by rw[eo,this];exact h),eo,this]
 have hgn:ogE p k (l.getD j og0)=0→∀i,i<j+1→ogE p k (l.getD i og0)=0:=fun h i hi=>by
  by_cases e:i=j
  ·subst e;exact h
  ·exact hgj i (by omega)
 generalize hoj:l.getD j og0=o at *
 have hmc:=zB8 (w:=u) o.r (p.mt:Int)
 have ho1:=W5 (w:=u) o.r
 have ho2:=W5 (w:=w) (p.ms.getD k [])
 unfold mcA mcC at *
 simp (disch:=(try simp only[lZ]);omega) only[aZ,aM,aG37,hoj]
 refine hmc.same (by simp (disch:=first|omega|simp (disch:=omega) only[aG,aM,aG37]) only[fZ,aM,aG37]) rfl (z7 ?_)
 by_cases c1:w5 o.r p.mt=0
 case neg =>
  have e:ogE p k o=w5 o.r p.mt:=by unfold ogE;rw[if_pos c1]
  rw[ej (by omega),e]
  simp (disch:=(try simp only[lZ]);omega) only[aZ,aM,aG37,decide_eq_true (show ¬w5 o.r p.mt=0 from c1),w9]
  exact y1 ⟨rfl,rfl⟩
 simp (disch:=(try simp only[lZ]);omega) only[aZ,aM,aG37,c1]
 refine ho1.same (by simp (disch:=first|omega|simp (disch:=omega) only[aG,aM,aG37]) only[fZ,aM,aG37]) rfl (z7 ?_)
 simp (disch:=(try simp only[lZ]);omega) only[aZ,aM,aG37]
 refine ho2.same (by simp (disch:=first|omega|simp (disch:=omega) only[aG,aM,aG37]) only[fZ,aM,aG37]) rfl (z7 ?_)
 by_cases c2:((y3 o.r:Nat):Int)≠(y3 (p.ms.getD k []):Nat)
 ·have e:ogE p k o=3:=by unfold ogE;rw[if_neg (by omega),if_pos (by omega)]
  rw[ej (by omega),e]
  simp (disch:=(try simp only[lZ]);omega) only[aZ,aM,aG37,decide_eq_true c2,w9]
  exact y1 ⟨rfl,rfl⟩
 by_cases c3:o.c<0∨o.c>1000000000000
 ·have e:ogE p k o=1:=by unfold ogE;rw[if_neg (by omega),if_neg (by omega),if_pos (by omega)]
  rw[ej (by omega),e]
  rcases c3 with h|h
  ·simp (disch:=(try simp only[lZ]);omega) only[aZ,aM,aG37,decide_eq_false c2,decide_eq_true h,w9]
   exact y1 ⟨rfl,rfl⟩
  ·simp (disch:=(try simp only[lZ]);omega) only[aZ,aM,aG37,decide_eq_false c2,decide_eq_false (show ¬o.c<0 by omega),decide_eq_true h,w9]
   exact y1 ⟨rfl,rfl⟩
 have e:ogE p k o=0:=by unfold ogE;rw[if_neg (by omega),if_neg (by omega),if_neg (by omega)]
 simp (disch:=(try simp only[lZ]);omega) only[aZ,aM,aG37,decide_eq_false c2,decide_eq_false (show ¬o.c<0 by omega),decide_eq_false (show ¬o.c>1000000000000 by omega)]
 refine⟨j+1,⟨by omega,hgn e⟩,by omega,?_⟩
 exact Cut.of' 1 rfl (by omega) (by simp (disch:=first|omega|simp (disch:=omega) only[aG,aM,aG37]) only[fZ,aM,aG37]) (by simp (disch:=first|omega|simp (disch:=omega) only[aG,aM,aG37]) only[fZ,aM,aG37])
end Go.Proofs.YtcppaddgclkekaaGreat
namespace Go.Proofs.YtcppaddgclkekaaGreat
open Go Go.Lft
set_option linter.unusedSimpArgs false
set_option linter.unusedVariables false
attribute [local congr] Q7 Q8 Q9 za1 Z9 Y0 za2 Y2 Y3 Y4 za3 za0
def prd:List (List Og)→Nat
 | []=>1
 | l :: L=>max 1 l.length*prd L
theorem y5u:∀(L:List (List Og)),1≤prd L
 | []=>Nat.le_refl _
 | l :: L=>by
  have:=y5u L
  unfold prd
  exact Nat.mul_le_mul (Nat.le_max_left 1 l.length) this
theorem yL7:∀(L M:List (List Og)),prd (L++M)=prd L*prd M
 | [],M=>by simp [prd]
 | l :: L,M=>by
  show max 1 l.length*prd (L++M)=(max 1 l.length*prd L)*prd M
  rw[yL7 L M,Nat.mul_assoc]
theorem y0B(L:List (List Og))(k:Nat)(h:k<L.length):prd (L.take (k+1))=prd (L.take k)*max 1 (L.getD k []).length:=by
 rw[Z3 L k [] h,yL7]
 show _*(max 1 (L.getD k []).length*1)=_
 rw[Nat.mul_one]
theorem y0C(L:List (List Og))(k:Nat):prd (L.take k)≤prd L:=by
 have h:=yL7 (L.take k) (L.drop k)
 rw[List.take_append_drop]at h
 have h2:=y5u (L.drop k)
 rw[h]
 exact Nat.le_mul_of_pos_right _ h2
theorem y5v{u:Bool}(L:List (List Og))(hl:L.length≤1000)(hb:∀l∈L,l.length≤100):VR P false z0m [.fs u (ogL u L)] [] (isR (.v (.bool (decide (256<prd L))))):=by
 refine z7c (by simp) (.inr rfl) fun _ _=>?_
 simp (disch:=(try simp only[lZ]);omega) only[aZ,aM,aG37,zA0,z0o]
 refine AWP.loopP z5u (fun k:Nat=>k≤L.length∧prd (L.take k)≤256) (fun k=>[(1,.v (.bool false)),(2,.v (.int .i64 (prd (L.take k)))),(3,.v (.int .i64 k))]) (fun _=>[]) (fun k=>L.length-k) 0 ⟨by omega,by simp [prd]⟩ ?_ ?_
 ·exact Cut.fg (by simp (disch:=first|omega|simp (disch:=omega) only[aG,aM,aG37]) only[fZ,aM,aG37,List.take_zero,show((prd []:Nat):Int)=1 from rfl,y0,z9,or_true,true_or])
 rintro k ⟨hk,hp⟩
 by_cases hkt:k<L.length
 ·have hs:=y0B L k hkt
  have hlk:=hb _ (x3 [] hkt)
  have h1:=Nat.mul_le_mul hp (show max 1 (L.getD k []).length≤100 by omega)
  have h2:((prd (L.take k):Nat):Int)*max 1 ((L.getD k []).length:Int)=((prd (L.take (k+1)):Nat):Int):=by rw[hs,Int.natCast_mul];congr 1;omega
  have h3:((prd (L.take k):Nat):Int)*max 1 ((L.getD k []).length:Int)≤25600:=by rw[h2,hs];omega
  have h4:0≤((prd (L.take k):Nat):Int)*max 1 ((L.getD k []).length:Int):=by rw[h2];omega
  by_cases hm:((prd (L.take (k+1)):Nat):Int)>256
  ·have:=y0C L (k+1)
   rw[decide_eq_true (show 256<prd L by omega)]
   simp (disch:=(try simp only[lZ]);omega) only[aZ,aM,aG37,h2,decide_eq_true hm,z0p]
   exact y1 ⟨rfl,rfl⟩
  ·simp (disch:=(try simp only[lZ]);omega) only[aZ,aM,aG37,h2,decide_eq_false hm]
   refine⟨k+1,⟨by omega,by omega⟩,by omega,?_⟩
   exact Cut.fg (by simp (disch:=first|omega|simp (disch:=omega) only[aG,aM,aG37]) only[fZ,aM,aG37,y0,z9,or_true,true_or])
 have hke:k=L.length:=by omega
 subst hke
 rw[List.take_length]at hp
 rw[decide_eq_false (show ¬256<prd L by omega)]
 simp (disch:=(try simp only[lZ]);omega) only[aZ,aM,aG37,z0p]
 exact y1 ⟨rfl,rfl⟩
def spc(L:List (List Og))(pk:List Int)(m:Nat):Int:=if(L.getD m []).length=0 then 0 else((L.getD m []).getD (pk.getD m 0).toNat og0).c
def spcL(L:List (List Og))(pk:List Int):List Int:=(List.range L.length).map (spc L pk)
def spcS(L:List (List Og))(pk:List Int):Int:=(spcL L pk).sum
theorem z7X(L:List (List Og))(pk:List Int):(spcL L pk).length=L.length:=by simp [spcL]
theorem z47(L:List (List Og))(pk:List Int)(m:Nat)(h:m<L.length):(spcL L pk).getD m 0=spc L pk m:=by simp [spcL,List.getD_eq_getElem?_getD,h]
def PkOk(L:List (List Og))(pk:List Int):Prop:=pk.length=L.length∧∀m,m<L.length→0≤pk.getD m 0∧(pk.getD m 0<(L.getD m []).length∨((L.getD m []).length=0∧pk.getD m 0=0))
def yE5(L:List (List Og)):Prop:=∀l∈L,∀o∈l,0≤o.c∧o.c≤1000000000000
theorem yE6{L:List (List Og)}{pk:List Int}(hc:yE5 L)(hp:PkOk L pk){m:Nat}(hm:m<L.length):0≤spc L pk m∧spc L pk m≤1000000000000:=by
 have h1:=hp.2 m hm
 unfold spc
 split
 ·omega
 ·exact hc _ (x3 [] hm) _ (x3 og0 (by omega))
theorem y1g{u u':Bool}(L:List (List Og))(pk:List Int)(hl:L.length≤1000)(hc:yE5 L)(hp:PkOk L pk):VR P false zV8 [.fs u (ogL u L),.fs u' (ints pk)] [] (isR (.v (.int .i64 (spcS L pk)))):=by
 refine z5w (by simp) (.inr rfl) fun _ _=>?_
 have hL:=z7X L pk
 have hbd:∀k,k≤L.length→0*(k:Int)≤sumT (spcL L pk) k∧sumT (spcL L pk) k≤1000000000000*k:=fun k hk=>zB5 (spcL L pk) 0 1000000000000 k (by omega) fun i hi=>by
  rw[z47 _ _ _ (by omega)]
  exact yE6 hc hp (by omega)
 have hsu:=fun k hk=>ze9 (spcL L pk) k hk
 have hall:sumT (spcL L pk) L.length=spcS L pk:=by rw[← hL];exact zd8 _
 obtain⟨p1,p2⟩:=hp
 simp (disch:=(try simp only[lZ]);omega) only[aZ,aM,aG37,zu8,zW0]
 refine AWP.loopP z3L (fun k:Nat=>k≤L.length) (fun k=>[(3,.v (.int .i64 (sumT (spcL L pk) k))),(4,.v (.int .i64 k))]) (fun _=>[]) (fun k=>L.length-k) 0 (by omega) ?_ ?_
 ·rw[ze8]
  exact Cut.fg (by simp (disch:=first|omega|simp (disch:=omega) only[aG,aM,aG37]) only[fZ,aM,aG37,y0,z9,or_true,true_or])
 rintro k hk
 by_cases hkt:k<L.length
 ·have hs:=hsu k (by omega)
  rw[z47 _ _ _ hkt]at hs
  have b1:=hbd k hk
  have b2:=yE6 hc ⟨p1,p2⟩ hkt
  have q2:=p2 k hkt
  unfold spc at hs b2
  generalize hlk:L.getD k []=l at *
  generalize hpk:pk.getD k 0=x at *
  by_cases h0:l.length=0
  ·rw[if_pos h0,Int.add_zero]at hs
   simp (disch:=(try simp only[lZ]);omega) only[aZ,aM,aG37,hlk,hpk,decide_eq_false (show ¬(l.length:Int)>0 by omega)]
   refine⟨k+1,by omega,by omega,?_⟩
   rw[hs]
   exact Cut.fg (by simp (disch:=first|omega|simp (disch:=omega) only[aG,aM,aG37]) only[fZ,aM,aG37,y0,z9,or_true,true_or])
  ·rw[if_neg h0]at hs b2
   simp (disch:=(try simp only[lZ]);omega) only[aZ,aM,aG37,hlk,hpk,decide_eq_true (show(l.length:Int)>0 by omega)]
   rw[← hs]
   refine⟨k+1,by omega,by omega,?_⟩
   exact Cut.fg (by simp (disch:=first|omega|simp (disch:=omega) only[aG,aM,aG37]) only[fZ,aM,aG37,y0,z9,or_true,true_or])
 have hke:k=L.length:=by omega
 subst hke
 rw[← hall]
 simp (disch:=(try simp only[lZ]);omega) only[aZ,aM,aG37,z7d]
 exact y1 ⟨rfl,rfl⟩
theorem yk1{u:Bool}(r:Mc)(hl:r.length≤1000)(hr:∀x∈r,x.length≤1000):VR P false zW7 [.fs u (rows u r)] [] (isR (.fs true (rows true r))):=by
 refine z5E (by simp) (.inr rfl) fun _ _=>?_
 simp (disch:=(try simp only[lZ]);omega) only[aZ,aM,aG37,zv0,zW9]
 refine AWP.cut (Cut.virt 2 1 rfl) ?_
 refine AWP.loopP z35 (fun k:Nat=>k≤r.length) (fun k=>[(2,.vs 0 k 1 k),(3,.v (.int .i64 k))]) (fun k=>[(0,⟨k,rows true (r.take k)⟩)]) (fun k=>r.length-k) 0 (by omega) ?_ ?_
 ·rw[List.take_zero]
  exact Cut.fg (by simp (disch:=first|omega|simp (disch:=omega) only[aG,aM,aG37]) only[fZ,aM,aG37,y0,z9,or_true,true_or])
 rintro k hk
 have hrl:(rows true (r.take k)).length=k:=by rw[zH8,List.length_take];omega
 by_cases hkt:k<r.length
 ·have hro:=hr _ (x3 [] hkt)
  have hk2:=Z3 r k [] hkt
  generalize hrk:r.getD k []=x at *
  simp (disch:=(try simp only[lZ]);omega) only[aZ,aM,aG37,hrk,hrl]
  refine⟨k+1,by omega,by omega,?_⟩
  rw[List.take_take,Nat.min_self,hk2,show rows true (r.take k++[x])=rows true (r.take k)++[.fs true (ints x)] by simp [rows]]
  exact Cut.of' 1 rfl (by omega) ⟨rfl,FzL.cat (FzL.refl (r_bd _ _ _)) ⟨zK3 1 _ 1 1 _ x (by omega) rfl (by simp (disch:=(try simp only[lZ]);omega) only[aZ,aM,aG37]),trivial⟩,trivial⟩ (by simp (disch:=first|omega|simp (disch:=omega) only[aG,aM,aG37]) only[fZ,aM,aG37])
 have hke:k=r.length:=by omega
 subst hke
 rw[List.take_length]at hrl ⊢
 simp (disch:=(try simp only[lZ]);omega) only[aZ,aM,aG37,z7t]
 exact y8 (y7V 0 _ 0 _ _ r (by omega) rfl (by simp (disch:=(try simp only[lZ]);omega) only[aZ,aM,aG37])) ⟨rfl,rfl⟩
end Go.Proofs.YtcppaddgclkekaaGreat
