/- Lemmas and walks that the proof of SetpointBests uses. No statement is claimed here. -/
import Derived.Test.YtcppaddgclkekaaGreatSetpointBestsZaq
namespace Go.Proofs.YtcppaddgclkekaaGreat
open Go Go.Lft
set_option linter.unusedSimpArgs false
set_option linter.unusedVariables false
attribute [local congr] Q7 Q8 Q9 za1 Z9 Y0 za2 Y2 Y3 Y4 za3 za0
def tab(N:Nat)(D:Nat→Bool):List Bool:=(List.range N).map D
theorem y9D(N:Nat)(D:Nat→Bool):(tab N D).length=N:=by simp [tab]
theorem y9E(N:Nat)(D:Nat→Bool)(k:Nat)(h:k<N):(tab N D).getD k false=D k:=by simp [tab,List.getD_eq_getElem?_getD,h]
theorem y4J{N:Nat}{D E:Nat→Bool}(h:∀k,k<N→D k=E k):tab N D=tab N E:=by
 unfold tab;exact List.map_congr_left fun k hk=>h k (List.mem_range.1 hk)
theorem y9F(N:Nat)(D:Nat→Bool)(k:Nat)(h:k<N):(tab N D).set k true=tab N (fun j=>D j || j == k):=by
 apply List.ext_getElem (by simp [tab])
 intro i h1 h2
 simp only[tab,List.length_set,List.length_map,List.length_range]at h1
 rw[List.getElem_set]
 by_cases hk:k=i
 ·subst hk;simp [tab]
 ·have:(i == k)=false:=by simpa using Ne.symm hk
  simp [tab,hk,this]
theorem y9G(N:Nat):List.replicate N false=tab N fun _=>false:=by
 apply List.ext_getElem (by simp [tab])
 intro i h1 h2
 simp [tab]
def both(n:Int)(l:Arcs)(v k:Nat):Bool:=(y8u n l v).getD k false && (y8u n (xA2 l) v).getD k false
def y4K(p:Pl)(m o:Int):Int×Int:=if y6 p≠0 then(0,y6 p)else if zg2 p.bs m o<0 then(0,7)else(zg2 p.bs m o,0)
theorem yq7{w v:Bool}(p:Pl)(m o:Int):VR P false z4x [plA w v p,.v (.int .i64 m),.v (.int .i64 o)] [] (isR (.tup [.v (.int .i64 (y4K p m o).1),.v (.int .i64 (y4K p m o).2)])):=by
 refine ye7 (by simp) (.inr rfl) fun _ _=>?_
 unfold plA plC y4K
 simp (disch:=(try simp only[lZ]);omega) only[aZ,aM,zS1,z4z]
 refine(zr7 (w:=w) (v:=v) p).same (by unfold plA plC;simp (disch:=first|omega|simp (disch:=omega) only[aG,aM]) only[fZ,aM]) rfl (z7 ?_)
 simp (disch:=(try simp only[lZ]);omega) only[aZ,aM]
 refine y2 (fun h1=>?_) (fun h1=>?_)
 ·rw[if_pos h1]
  simp (disch:=(try simp only[lZ]);omega) only[aZ,aM,zS2]
  exact y8 (Fz.refl (by simp (disch:=first|omega|simp (disch:=omega) only[aG,aM]) only[fZ,aM])) ⟨rfl,rfl⟩
 rw[if_neg h1]
 have ok:=y7 (Classical.not_not.1 h1)
 have hb2:=ok.b2
 simp (disch:=(try simp only[lZ]);omega) only[aZ,aM]
 refine(yq6 (w:=w) (v:=v) p (by omega) m o).same (by unfold plA plC;simp (disch:=first|omega|simp (disch:=omega) only[aG,aM]) only[fZ,aM]) rfl (z7 ?_)
 simp (disch:=(try simp only[lZ]);omega) only[aZ,aM]
 refine y2 (fun h2=>?_) (fun h2=>?_)
 ·rw[if_pos h2]
  simp (disch:=(try simp only[lZ]);omega) only[aZ,aM,zS2]
  exact y8 (Fz.refl (by simp (disch:=first|omega|simp (disch:=omega) only[aG,aM]) only[fZ,aM])) ⟨rfl,rfl⟩
 ·rw[if_neg h2]
  simp (disch:=(try simp only[lZ]);omega) only[aZ,aM,zS2]
  exact y8 (Fz.refl (by simp (disch:=first|omega|simp (disch:=omega) only[aG,aM]) only[fZ,aM])) ⟨rfl,rfl⟩
def wayV(p:Pl)(mt:Int)(m:Nat):Int×Bool:=wayR p mt p.ms.length m 0
def wayT(x:Int×Bool):A:=.tup [.v (.int .i64 x.1),.v (.bool x.2)]
theorem xt8{p:Pl}(h:POk p){i:Nat}(hi:i<p.ms.length)(mt:Int):((p.ms.getD i []).getD mt.toNat []).length<1000000000:=by
 have hm:=h.mc _ (x3 [] hi)
 by_cases hk:mt.toNat<(p.ms.getD i []).length
 ·have:=(hm.row _ (x3 [] hk)).2.1;omega
 ·rw[List.getD_eq_getElem?_getD,List.getElem?_eq_none (by omega)];simp
theorem yC8{w v:Bool}(p:Pl)(h:POk p)(m:Nat)(hm:m<p.ms.length)(mt:Int)(h0:0≤mt)(h1:mt<p.mat):VR P false z84 [plA w v p,.v (.int .i64 m),.v (.int .i64 mt)] [] (isR (wayT (wayV p mt m))):=by
 refine yz1 (by simp) (.inr rfl) fun _ _=>?_
 have hn2:=h.n2
 have hb2:=h.b2
 unfold plA plC
 simp (disch:=(try simp only[lZ]);omega) only[aZ,aM,z2Q,z86]
 refine AWP.loopP yn6 (fun k:Nat=>k≤p.ms.length+1∧∀i,i<k→¬binN p (posR p mt m i)) (fun k=>[(1,.v (.int .i64 (posR p mt m k))),(3,.v (.int .i64 0)),(4,.v (.bool false)),(5,.v (.int .i64 (farR p mt m k))),(6,.v (.int .i64 k))]) (fun _=>[]) (fun k=>p.ms.length+1-k) 0 ⟨by omega,fun i hi=>by omega⟩ ?_ ?_
 ·simp only[posR,farR]
  try simp (disch:=(try simp only[lZ]);omega) only[aZ,aM]
  exact Cut.of' 1 rfl (by omega) (by simp (disch:=first|omega|simp (disch:=omega) only[aG,aM]) only[fZ,aM]) (by simp (disch:=first|omega|simp (disch:=omega) only[aG,aM]) only[fZ,aM])
 rintro k ⟨hk,hb⟩
 by_cases hlt:k<p.ms.length+1
 ·have hp:=z5Z h h0 h1 hm k hb
  have hf:=z50 h h0 h1 hm k hb
  simp (disch:=(try simp only[lZ]);omega) only[aZ,aM]
  refine(zf1 (w:=w) (p.ms.getD (posR p mt m k) [])).same (by unfold mcA mcC;simp (disch:=first|omega|simp (disch:=omega) only[aG,aM]) only[fZ,aM]) rfl (z7 ?_)
  by_cases hbin:binN p (posR p mt m k)
  ·have hz:y3 (p.ms.getD (posR p mt m k) [])=0:=hbin
   have hw:wayV p mt m=(farR p mt m k,true):=yp8 (by omega) hb hbin
   rw[hz,hw]
   simp (disch:=(try simp only[lZ]);omega) only[aZ,aM,z87]
   exact y8 (Fz.refl (by simp (disch:=first|omega|simp (disch:=omega) only[aG,aM]) only[fZ,aM])) ⟨rfl,rfl⟩
  ·have hz:¬y3 (p.ms.getD (posR p mt m k) [])=0:=hbin
   obtain⟨o1,o2,o3,o4,o5,o6,o7⟩:=z6Z h h0 h1 hp hbin
   have o1':(zg2 p.bs (posR p mt m k) (zf0 (p.ms.getD (posR p mt m k) []) mt)).toNat=outB p mt (posR p mt m k):=rfl
   have o8:=yY6 p.bs (posR p mt m k) (zf0 (p.ms.getD (posR p mt m k) []) mt)
   have hr4:=xt8 h hp mt
   have o9:(p.bs.getD (outB p mt (posR p mt m k)) b0).ln=lx p mt (posR p mt m k):=rfl
   simp (disch:=(try simp only[lZ]);omega) only[aZ,aM]
   refine⟨?_,?_,?_⟩
   all_goals
    refine(yi9 (w:=w) (p.ms.getD (posR p mt m k) []) mt hr4).same (by unfold mcA mcC;simp (disch:=first|omega|simp (disch:=omega) only[aG,aM]) only[fZ,aM]) rfl (z7 ?_)
    simp (disch:=(try simp only[lZ]);omega) only[aZ,aM]
    refine(yZ9 (w:=w) (v:=v) p (by omega) (posR p mt m k) (zf0 (p.ms.getD (posR p mt m k) []) mt)).same (by unfold plA plC;simp (disch:=first|omega|simp (disch:=omega) only[aG,aM]) only[fZ,aM]) rfl (z7 ?_)
    simp (disch:=(try simp only[lZ]);omega) only[aZ,aM,o1',o5,o9]
    refine⟨k+1,⟨by omega,fun i hi=>?_⟩,by omega,?_⟩
    ·rcases Nat.lt_succ_iff_lt_or_eq.1 hi with h|rfl
     ·exact hb i h
     ·exact hbin
    ·simp only[posR,farR]
     try simp (disch:=(try simp only[lZ]);omega) only[aZ,aM]
     exact Cut.of' 1 rfl (by omega) (by simp (disch:=first|omega|simp (disch:=omega) only[aG,aM]) only[fZ,aM]) (by simp (disch:=first|omega|simp (disch:=omega) only[aG,aM]) only[fZ,aM])
 ·have hw : wayV p mt m = (0, false) := by
   rcases z1h h h0 h1 hm with⟨k',g1,g2,g3,g4⟩|⟨g1,g2⟩
   ·exact absurd g3 (hb k' (by omega))
   ·exact g2
  rw[hw]
  simp (disch:=(try simp only[lZ]);omega) only[aZ,aM,z87]
  exact y8 (Fz.refl (by simp (disch:=first|omega|simp (disch:=omega) only[aG,aM]) only[fZ,aM])) ⟨rfl,rfl⟩
theorem yK3{w v:Bool}(p:Pl)(m:Nat)(h1:m<p.ms.length):VR P false z0z [plA w v p,.v (.int .i64 m)] [] (isR (.v (.bool (decide (binN p m))))):=by
 have:=y8t (w:=w) (v:=v) p m (by omega) (by omega)
 rw[Int.toNat_natCast]at this;exact this
def visN(p:Pl)(mt:Int)(m j:Nat)(i:Nat):Bool:=(List.range j).any fun l=>posR p mt m l == i
theorem y4L(p:Pl)(mt:Int)(m j i:Nat):visN p mt m (j+1) i=(visN p mt m j i || i == posR p mt m j):=by
 unfold visN
 rw[List.range_succ,List.any_append]
 simp only[List.any_cons,List.any_nil,Bool.or_false]
 congr 1
 by_cases h:posR p mt m j=i
 ·subst h;simp
 ·rw[beq_eq_false_iff_ne.2 h,beq_eq_false_iff_ne.2 (Ne.symm h)]
theorem y0d{p:Pl}{mt:Int}{m j i:Nat}:visN p mt m j i=true↔∃l,l<j∧posR p mt m l=i:=by
 unfold visN;simp
theorem yC9{w v:Bool}(p:Pl)(h:POk p)(m:Nat)(hm:m<p.ms.length)(mt:Int)(h0:0≤mt)(h1:mt<p.mat):VR P false z6M [plA w v p,.v (.int .i64 m),.v (.int .i64 mt)] [] (isR (wayT (wayV p mt m))):=by
 refine yn9 (by simp) (.inr rfl) fun _ _=>?_
 have hn2:=h.n2
 have hb2:=h.b2
 unfold plA plC
 simp (disch:=(try simp only[lZ]);omega) only[aZ,aM,z0F,z6O]
 refine AWP.loopP ye6 (fun k:Nat=>k≤p.ms.length∧(∀i,i<k→¬binN p (posR p mt m i))∧∀i l,i<l→l<k→posR p mt m i≠posR p mt m l) (fun k=>[(5,.v (.int .i64 (posR p mt m k))),(6,.v (.int .i64 (farR p mt m k)))]) (fun k=>[(1,⟨0,za9 (tab 24 (visN p mt m k))⟩)]) (fun k=>p.ms.length-k) 0 ⟨by omega,fun i hi=>by omega,fun i l hi hl=>by omega⟩ ?_ ?_
 ·have e0:tab 24 (visN p mt m 0)=List.replicate 24 false:=by rw[y9G];exact y4J fun k _=>rfl
  simp only[posR,farR,e0]
  try simp (disch:=(try simp only[lZ]);omega) only[aZ,aM]
  exact Cut.of' 2 rfl (by omega) (by simp (disch:=first|omega|simp (disch:=omega) only[aG,aM]) only[fZ,aM]) (by simp (disch:=first|omega|simp (disch:=omega) only[aG,aM]) only[fZ,aM])
 rintro k ⟨hk,hb,hd⟩
 have hp:=z5Z h h0 h1 hm k hb
 have hf:=z50 h h0 h1 hm k hb
 have htl:=y9D 24 (visN p mt m k)
 simp (disch:=(try simp only[lZ]);omega) only[aZ,aM]
 refine(yK3 (w:=w) (v:=v) p _ hp).same (by unfold plA plC;simp (disch:=first|omega|simp (disch:=omega) only[aG,aM]) only[fZ,aM]) rfl (z7 ?_)
 by_cases hbin:binN p (posR p mt m k)
 ·have hw:wayV p mt m=(farR p mt m k,true):=yp8 (by omega) hb hbin
  simp (disch:=(try simp only[lZ]);omega) only[aZ,aM,decide_eq_true hbin]
  refine(yK3 (w:=w) (v:=v) p _ hp).same (by unfold plA plC;simp (disch:=first|omega|simp (disch:=omega) only[aG,aM]) only[fZ,aM]) rfl (z7 ?_)
  rw[hw]
  simp (disch:=(try simp only[lZ]);omega) only[aZ,aM,decide_eq_true hbin,z6P]
  exact y8 (Fz.refl (by simp (disch:=first|omega|simp (disch:=omega) only[aG,aM]) only[fZ,aM])) ⟨rfl,rfl⟩
 have hg:=y9E 24 (visN p mt m k) (posR p mt m k) (by omega)
 cases hv:visN p mt m k (posR p mt m k)with
 | true =>
  obtain⟨l,l1,l2⟩:=y0d.1 hv
  have hnone:=yi7 l1 l2 hb
  have hw:wayV p mt m=(0,false):=yC0 hnone _
  simp (disch:=(try simp only[lZ]);omega) only[aZ,aM,decide_eq_false hbin,hg,hv]
  refine(yK3 (w:=w) (v:=v) p _ hp).same (by unfold plA plC;simp (disch:=first|omega|simp (disch:=omega) only[aG,aM]) only[fZ,aM]) rfl (z7 ?_)
  rw[hw]
  simp (disch:=(try simp only[lZ]);omega) only[aZ,aM,decide_eq_false hbin,z6P]
  exact y8 (Fz.refl (by simp (disch:=first|omega|simp (disch:=omega) only[aG,aM]) only[fZ,aM])) ⟨rfl,rfl⟩
 | false =>
  have hd':∀i l,i<l→l<k+1→posR p mt m i≠posR p mt m l:=fun i l hi hl he=>by
   rcases Nat.lt_succ_iff_lt_or_eq.1 hl with h|rfl
   ·exact hd i l hi h he
   ·rw[y0d.2 ⟨i,hi,he⟩]at hv;cases hv
  have hb':∀i,i<k+1→¬binN p (posR p mt m i):=fun i hi=>by
   rcases Nat.lt_succ_iff_lt_or_eq.1 hi with h|rfl
   ·exact hb i h
   ·exact hbin
  have hk':k+1≤p.ms.length:=by
   apply Nat.le_of_not_lt;intro hc
   obtain⟨i,l,a1,a2,a3⟩:=y4d p.ms.length (posR p mt m) fun i hi=>z5Z h h0 h1 hm i fun l hl=>hb l (by omega)
   exact hd' i l a1 (by omega) a3
  have e2:(tab 24 (visN p mt m k)).set (posR p mt m k) true=tab 24 (visN p mt m (k+1)):=by
   rw[y9F _ _ _ (by omega)]
   exact y4J fun j _=>(y4L p mt m k j).symm
  obtain⟨o1,o2,o3,o4,o5,o6,o7⟩:=z6Z h h0 h1 hp hbin
  have o1':(zg2 p.bs (posR p mt m k) (zf0 (p.ms.getD (posR p mt m k) []) mt)).toNat=outB p mt (posR p mt m k):=rfl
  have o8:=yY6 p.bs (posR p mt m k) (zf0 (p.ms.getD (posR p mt m k) []) mt)
  have hr4:=xt8 h hp mt
  have o9:(p.bs.getD (outB p mt (posR p mt m k)) b0).ln=lx p mt (posR p mt m k):=rfl
  simp (disch:=(try simp only[lZ]);omega) only[aZ,aM,decide_eq_false hbin,hg,hv,e2]
  refine⟨?_,?_,?_⟩
  all_goals
   refine(z2p (w:=w) (p.ms.getD (posR p mt m k) []) mt hr4).same (by unfold mcA mcC;simp (disch:=first|omega|simp (disch:=omega) only[aG,aM]) only[fZ,aM]) rfl (z7 ?_)
   simp (disch:=(try simp only[lZ]);omega) only[aZ,aM]
   refine(yq6 (w:=w) (v:=v) p (by omega) (posR p mt m k) (zf0 (p.ms.getD (posR p mt m k) []) mt)).same (by unfold plA plC;simp (disch:=first|omega|simp (disch:=omega) only[aG,aM]) only[fZ,aM]) rfl (z7 ?_)
   simp (disch:=(try simp only[lZ]);omega) only[aZ,aM,o1',o5,o9]
   refine⟨k+1,⟨hk',hb',hd'⟩,by omega,?_⟩
   simp only[posR,farR]
   try simp (disch:=(try simp only[lZ]);omega) only[aZ,aM]
   exact Cut.of' 2 rfl (by omega) (by simp (disch:=first|omega|simp (disch:=omega) only[aG,aM]) only[fZ,aM]) (by simp (disch:=first|omega|simp (disch:=omega) only[aG,aM]) only[fZ,aM])
def drB(p:Pl):Bool:=(List.range p.ms.length).all fun m=>(List.range p.mat.toNat).all fun mt=>(wayV p mt m).2
theorem z2Z{p:Pl}(h:POk p):drB p=true↔∀m,m<p.ms.length→∀mt:Nat,(mt:Int)<p.mat→(wayV p mt m).2=true:=by
 unfold drB
 have:=h.m1
 simp only[List.all_eq_true,List.mem_range]
 exact⟨fun g m hm mt hmt=>g m hm mt (by omega),fun g m hm mt hmt=>g m hm mt (by omega)⟩
def zt7(p:Pl):Bool×Int:=if y6 p≠0 then(false,y6 p)else(drB p,0)
theorem yD0{w v:Bool}(p:Pl):VR P false z1Y [plA w v p] [] (isR (.tup [.v (.bool (zt7 p).1),.v (.int .i64 (zt7 p).2)])):=by
 refine z8M (by simp) (.inr rfl) fun _ _=>?_
 unfold plA plC zt7
 simp (disch:=(try simp only[lZ]);omega) only[aZ,aM,zI7,z10]
 refine(zy9 (w:=w) (v:=v) p).same (by unfold plA plC;simp (disch:=first|omega|simp (disch:=omega) only[aG,aM]) only[fZ,aM]) rfl (z7 ?_)
 simp (disch:=(try simp only[lZ]);omega) only[aZ,aM]
 refine y2 (fun h1=>?_) (fun h1=>?_)
 ·rw[if_pos h1]
  simp (disch:=(try simp only[lZ]);omega) only[aZ,aM,zI8]
  exact y8 (Fz.refl (by simp (disch:=first|omega|simp (disch:=omega) only[aG,aM]) only[fZ,aM])) ⟨rfl,rfl⟩
 rw[if_neg h1]
 have h:=y7 (Classical.not_not.1 h1)
 have hn2:=h.n2
 have hm1:=h.m1
 have hm2:=h.m2
 simp (disch:=(try simp only[lZ]);omega) only[aZ,aM]
 refine AWP.loopP z7g (fun k:Nat=>k≤p.ms.length∧∀m,m<k→∀mt:Nat,(mt:Int)<p.mat→(wayV p mt m).2=true) (fun k=>[(1,.v (.bool false)),(2,.v (.int .i64 0)),(5,.v (.int .i64 k))]) (fun _=>[]) (fun k=>p.ms.length-k) 0 ⟨by omega,fun i hi=>by omega⟩ (by refine Cut.of' (1) ?_ (by omega) ?_ ?_<;>simp (disch:=first|omega|simp (disch:=omega) only[aG,aM]) only[fZ,aM]) ?_
 rintro k ⟨hk,hb⟩
 by_cases hlt:k<p.ms.length
 ·simp (disch:=(try simp only[lZ]);omega) only[aZ,aM]
  refine AWP.loopP z7h (fun j:Nat=>(j:Int)≤p.mat∧∀mt:Nat,mt<j→(wayV p mt k).2=true) (fun j=>[(1,.v (.bool false)),(2,.v (.int .i64 0)),(6,.v (.int .i64 j))]) (fun _=>[]) (fun j=>p.mat.toNat-j) 0 ⟨by omega,fun i hi=>by omega⟩ (by refine Cut.of' (1) ?_ (by omega) ?_ ?_<;>simp (disch:=first|omega|simp (disch:=omega) only[aG,aM]) only[fZ,aM]) ?_
  rintro j ⟨hj,hc⟩
  by_cases hjl:(j:Int)<p.mat
  ·simp (disch:=(try simp only[lZ]);omega) only[aZ,aM]
   refine(yC8 (w:=w) (v:=v) p h k hlt j (by omega) hjl).same (by unfold plA plC;simp (disch:=first|omega|simp (disch:=omega) only[aG,aM]) only[fZ,aM]) rfl (z7 ?_)
   unfold wayT
   simp (disch:=(try simp only[lZ]);omega) only[aZ,aM]
   refine z7J (fun h2=>?_) (fun h2=>?_)
   ·have hd : drB p = false := by
     apply Bool.eq_false_iff.2
     intro hc
     have:=(z2Z h).1 hc k hlt j hjl
     simp_all
    rw[hd]
    simp (disch:=(try simp only[lZ]);omega) only[aZ,aM,zI8]
    exact y8 (Fz.refl (by simp (disch:=first|omega|simp (disch:=omega) only[aG,aM]) only[fZ,aM])) ⟨rfl,rfl⟩
   ·simp (disch:=(try simp only[lZ]);omega) only[aZ,aM]
    refine⟨j+1,⟨by omega,fun i hi=>?_⟩,by omega,(by refine Cut.of' (1) ?_ (by omega) ?_ ?_<;>simp (disch:=first|omega|simp (disch:=omega) only[aG,aM]) only[fZ,aM])⟩
    rcases Nat.lt_succ_iff_lt_or_eq.1 hi with h|rfl
    ·exact hc i h
    ·simpa using h2
  ·simp (disch:=(try simp only[lZ]);omega) only[aZ,aM]
   refine⟨k+1,⟨by omega,fun i hi=>?_⟩,by omega,(by refine Cut.of' (1) ?_ (by omega) ?_ ?_<;>simp (disch:=first|omega|simp (disch:=omega) only[aG,aM]) only[fZ,aM])⟩
   rcases Nat.lt_succ_iff_lt_or_eq.1 hi with h|rfl
   ·exact hb i h
   ·exact fun mt hmt=>hc mt (by omega)
 ·have hd:drB p=true:=(z2Z h).2 fun m hm=>hb m (by omega)
  rw[hd]
  simp (disch:=(try simp only[lZ]);omega) only[aZ,aM,zI8]
  exact y8 (Fz.refl (by simp (disch:=first|omega|simp (disch:=omega) only[aG,aM]) only[fZ,aM])) ⟨rfl,rfl⟩
theorem z9O{w v:Bool}(p:Pl):VR P false z0C [plA w v p] [] (isR (.tup [.v (.bool (zt7 p).1),.v (.int .i64 (zt7 p).2)])):=by
 refine z7u (by simp) (.inr rfl) fun _ _=>?_
 unfold plA plC zt7
 simp (disch:=(try simp only[lZ]);omega) only[aZ,aM,zA5,z0E]
 refine(zr7 (w:=w) (v:=v) p).same (by unfold plA plC;simp (disch:=first|omega|simp (disch:=omega) only[aG,aM]) only[fZ,aM]) rfl (z7 ?_)
 simp (disch:=(try simp only[lZ]);omega) only[aZ,aM]
 refine y2 (fun h1=>?_) (fun h1=>?_)
 ·rw[if_pos h1]
  simp (disch:=(try simp only[lZ]);omega) only[aZ,aM,zA6]
  exact y8 (Fz.refl (by simp (disch:=first|omega|simp (disch:=omega) only[aG,aM]) only[fZ,aM])) ⟨rfl,rfl⟩
 rw[if_neg h1]
 have h:=y7 (Classical.not_not.1 h1)
 have hn2:=h.n2
 have hm1:=h.m1
 have hm2:=h.m2
 simp (disch:=(try simp only[lZ]);omega) only[aZ,aM]
 refine AWP.loopP z5F (fun k:Nat=>k≤p.ms.length∧∀m,m<k→∀mt:Nat,(mt:Int)<p.mat→(wayV p mt m).2=true) (fun k=>[(1,.v (.bool false)),(2,.v (.int .i64 0)),(5,.v (.int .i64 k))]) (fun _=>[]) (fun k=>p.ms.length-k) 0 ⟨by omega,fun i hi=>by omega⟩ (by refine Cut.of' (1) ?_ (by omega) ?_ ?_<;>simp (disch:=first|omega|simp (disch:=omega) only[aG,aM]) only[fZ,aM]) ?_
 rintro k ⟨hk,hb⟩
 by_cases hlt:k<p.ms.length
 ·simp (disch:=(try simp only[lZ]);omega) only[aZ,aM]
  refine AWP.loopP z5G (fun j:Nat=>(j:Int)≤p.mat∧∀mt:Nat,mt<j→(wayV p mt k).2=true) (fun j=>[(1,.v (.bool false)),(2,.v (.int .i64 0)),(9,.v (.int .i64 j))]) (fun _=>[]) (fun j=>p.mat.toNat-j) 0 ⟨by omega,fun i hi=>by omega⟩ (by refine Cut.of' (1) ?_ (by omega) ?_ ?_<;>simp (disch:=first|omega|simp (disch:=omega) only[aG,aM]) only[fZ,aM]) ?_
  rintro j ⟨hj,hc⟩
  by_cases hjl:(j:Int)<p.mat
  ·simp (disch:=(try simp only[lZ]);omega) only[aZ,aM]
   refine(yC9 (w:=w) (v:=v) p h k hlt j (by omega) hjl).same (by unfold plA plC;simp (disch:=first|omega|simp (disch:=omega) only[aG,aM]) only[fZ,aM]) rfl (z7 ?_)
   unfold wayT
   simp (disch:=(try simp only[lZ]);omega) only[aZ,aM]
   refine z7J (fun h2=>?_) (fun h2=>?_)
   ·have hd : drB p = false := by
     apply Bool.eq_false_iff.2
     intro hc
     have:=(z2Z h).1 hc k hlt j hjl
     simp_all
    rw[hd]
    simp (disch:=(try simp only[lZ]);omega) only[aZ,aM,zA6]
    exact y8 (Fz.refl (by simp (disch:=first|omega|simp (disch:=omega) only[aG,aM]) only[fZ,aM])) ⟨rfl,rfl⟩
   ·simp (disch:=(try simp only[lZ]);omega) only[aZ,aM]
    refine⟨j+1,⟨by omega,fun i hi=>?_⟩,by omega,(by refine Cut.of' (1) ?_ (by omega) ?_ ?_<;>simp (disch:=first|omega|simp (disch:=omega) only[aG,aM]) only[fZ,aM])⟩
    rcases Nat.lt_succ_iff_lt_or_eq.1 hi with h|rfl
    ·exact hc i h
    ·simpa using h2
  ·simp (disch:=(try simp only[lZ]);omega) only[aZ,aM]
   refine⟨k+1,⟨by omega,fun i hi=>?_⟩,by omega,(by refine Cut.of' (1) ?_ (by omega) ?_ ?_<;>simp (disch:=first|omega|simp (disch:=omega) only[aG,aM]) only[fZ,aM])⟩
   rcases Nat.lt_succ_iff_lt_or_eq.1 hi with h|rfl
   ·exact hb i h
   ·exact fun mt hmt=>hc mt (by omega)
 ·have hd:drB p=true:=(z2Z h).2 fun m hm=>hb m (by omega)
  rw[hd]
  simp (disch:=(try simp only[lZ]);omega) only[aZ,aM,zA6]
  exact y8 (Fz.refl (by simp (disch:=first|omega|simp (disch:=omega) only[aG,aM]) only[fZ,aM])) ⟨rfl,rfl⟩
def zq6(p:Pl)(m mt:Int):Int×Int :=
 if y6 p≠0 then(0,y6 p)else if m<0∨(p.ms.length:Int)≤m then(0,7)else if mt<0∨p.mat≤mt then(0,18)
 else if(wayV p mt m.toNat).2=false then(0,23)else((wayV p mt m.toNat).1,0)
theorem yD1{w v:Bool}(p:Pl)(m mt:Int):VR P false z2e [plA w v p,.v (.int .i64 m),.v (.int .i64 mt)] [] (isR (.tup [.v (.int .i64 (zq6 p m mt).1),.v (.int .i64 (zq6 p m mt).2)])):=by
 refine z88 (by simp) (.inr rfl) fun _ _=>?_
 unfold plA plC zq6
 simp (disch:=(try simp only[lZ]);omega) only[aZ,aM,zJ4,z2g]
 refine(zy9 (w:=w) (v:=v) p).same (by unfold plA plC;simp (disch:=first|omega|simp (disch:=omega) only[aG,aM]) only[fZ,aM]) rfl (z7 ?_)
 simp (disch:=(try simp only[lZ]);omega) only[aZ,aM]
 refine y2 (fun h1=>?_) (fun h1=>?_)
 ·rw[if_pos h1]
  simp (disch:=(try simp only[lZ]);omega) only[aZ,aM,zj0]
  exact y8 (Fz.refl (by simp (disch:=first|omega|simp (disch:=omega) only[aG,aM]) only[fZ,aM])) ⟨rfl,rfl⟩
 rw[if_neg h1]
 have h:=y7 (Classical.not_not.1 h1)
 simp (disch:=(try simp only[lZ]);omega) only[aZ,aM]
 refine y2 (fun h2=>?_) (fun h2=>?_)
 ·rw[if_pos h2]
  simp (disch:=(try simp only[lZ]);omega) only[aZ,aM,zj0]
  exact y8 (Fz.refl (by simp (disch:=first|omega|simp (disch:=omega) only[aG,aM]) only[fZ,aM])) ⟨rfl,rfl⟩
 rw[if_neg h2]
 simp (disch:=(try simp only[lZ]);omega) only[aZ,aM]
 refine y2 (fun h3=>?_) (fun h3=>?_)
 ·rw[if_pos h3]
  simp (disch:=(try simp only[lZ]);omega) only[aZ,aM,zj0]
  exact y8 (Fz.refl (by simp (disch:=first|omega|simp (disch:=omega) only[aG,aM]) only[fZ,aM])) ⟨rfl,rfl⟩
 rw[if_neg h3]
 have hw:=yC8 (w:=w) (v:=v) p h m.toNat (by omega) mt (by omega) (by omega)
 rw[Int.toNat_of_nonneg (by omega)]at hw
 simp (disch:=(try simp only[lZ]);omega) only[aZ,aM]
 refine hw.same (by unfold plA plC;simp (disch:=first|omega|simp (disch:=omega) only[aG,aM]) only[fZ,aM]) rfl (z7 ?_)
 unfold wayT
 simp (disch:=(try simp only[lZ]);omega) only[aZ,aM]
 refine z7J (fun h2=>?_) (fun h2=>?_)
 ·rw[if_pos (by simpa using h2)]
  simp (disch:=(try simp only[lZ]);omega) only[aZ,aM,zj0]
  exact y8 (Fz.refl (by simp (disch:=first|omega|simp (disch:=omega) only[aG,aM]) only[fZ,aM])) ⟨rfl,rfl⟩
 ·rw[if_neg (by simpa using h2)]
  simp (disch:=(try simp only[lZ]);omega) only[aZ,aM,zj0]
  exact y8 (Fz.refl (by simp (disch:=first|omega|simp (disch:=omega) only[aG,aM]) only[fZ,aM])) ⟨rfl,rfl⟩
theorem y4M{p:Pl}(h:y6 p=0):∀m∈p.ms,w5 m p.mat=0:=by
 unfold y6 at h
 split at h
 ·cases h
 split at h
 ·cases h
 split at h
 ·cases h
 split at h
 ·contradiction
 rename_i h4
 exact zi1 (Classical.not_not.1 h4)
theorem z4W{p:Pl}(h:y6 p=0){m:Nat}(hm:m<p.ms.length)(hb:¬binN p m){xs:List Int}(hx:zn7 p.mt xs):msE (p.ms.getD m []) xs=0:=by
 obtain⟨m1,m2,m3⟩:=(y7 h).mt1
 have h1:=y4M h _ (x3 [] hm)
 unfold msE
 rw[hx.1,← m3,if_neg (fun hc=>hc h1)]
 have h2:zc5 badE xs=0:=w7 0 fun k hk=>by
  have:=hx.2 k
  exact yJ6 (by omega)
 rw[if_neg (fun hc=>hc h2),if_neg (show ¬y3 (p.ms.getD m [])=0 from hb)]
def prt(p:Pl)(s:Sy)(m o:Nat):List Int:=(msM (p.ms.getD m []) (s.bef m)).getD o []
theorem y0e{p:Pl}(h:y6 p=0){s:Sy}{m:Nat}(hm:m<p.ms.length)(hb:¬binN p m)(hx:zn7 p.mt (s.bef m)){o:Nat}(ho:o<y3 (p.ms.getD m [])):zn7 p.mt (prt p s m o):=by
 obtain⟨z1,z2,z3⟩:=yq4 (z4W h hm hb hx)
 have hl:=y4E (p.ms.getD m []) (s.bef m) ho
 refine⟨hl.trans hx.1,fun i=>?_⟩
 unfold prt
 by_cases hi:i<(s.bef m).length
 ·rw[y4D _ _ ho hi]
  have hk:i<(p.ms.getD m []).length:=by have:=z1.len;omega
  have:=y9B z1 z2 hk (z3 i hi) o ho
  have:=z3 i hi
  omega
 ·rw[List.getD_eq_getElem?_getD,List.getElem?_eq_none (by omega)];simp
def disK(p:Pl)(s:Sy)(m k:Nat):Sy:={s with fst:=fun i=>if(p.bs.getD i b0).fr=m∧(p.bs.getD i b0).ot<k then prt p s m (p.bs.getD i b0).ot.toNat else s.fst i}
def disS(p:Pl)(s:Sy)(m:Nat):Sy:={disK p s m (y3 (p.ms.getD m []))with bef:=updF s.bef m (y9 p.mt)}
theorem y4N(n:Nat)(l:List Int)(h:l.length=n):zc9 (y9 n) l=l:=by
 refine Z5 0 (by rw[Q6];simp [y9,h]) fun i hi=>?_
 rw[Q6]at hi
 rw[zt5 _ _ _ hi]
 have:(y9 n).getD i 0=0:=by simp [y9,List.getD_eq_getElem?_getD,List.getElem?_replicate];split<;>rfl
 omega
theorem PM.anewB {H : List Blk} {p : Pl} {ad : Ad} {s : Sy} (h : PM H p ad s) {m : Nat} (hm : m < p.ms.length) (v : Nat) (l : List Int) (H' : List Blk)
    (hH':H'=(H++[(⟨v,ints l⟩:Blk)]).set (ad .bef).1 ⟨(ad .bef).2,befC p (upd ad (.bm m) (H.length,v))⟩) :
    PM H' p (upd ad (.bm m) (H.length,v)) {s with bef:=updF s.bef m l}∧Tr p H ad H' (upd ad (.bm m) (H.length,v))∧Gr (one (ad .bef).1) H H':=by
  subst hH'
  have hb:(ad .bef).1<H.length:=h.lt (c:=.bef) rfl
  have hg:Gr (one (ad .bef).1) H ((H++[(⟨v,ints l⟩:Blk)]).set (ad .bef).1 ⟨(ad .bef).2,befC p (upd ad (.bm m) (H.length,v))⟩) :=
    (Gr.app (F:=one (ad .bef).1) H _).trans (Gr.set (F:=one (ad .bef).1) _ _ _ rfl) fun i _ hf=>hf
  refine⟨h.anew (.bm m) .bef (H.length,v) (by simpa [usd]using hm) rfl (by simp) ⟨by simp,by simp⟩ hg (Nat.le_refl _) ?_ ?_ ?_,Tr.anew rfl hg (Nat.le_refl _) (by simp),hg⟩
  · rw[y5 _ _ _ _ _ (by simp;omega),x5]
    simp [ctn,x1,blkAt]
  · rw[x0 _ _ _ _ (by simp;omega)];rfl
  · intro e h1 h2 he
    cases e with
    | bm j =>
      have:j≠m:=fun hc=>h1 (by rw[hc])
      simp [ctn,x9 _ _ this]
    | bef=>exact absurd rfl h2
    | root=>simp [ctn,zw3,upd]
    | bel =>
      simp only[ctn,z2Y]
      congr 1<;>first|rfl|(funext j;first|rfl|simp [cvC,upd])
    | re j=>simp [ctn,upd]
    | _=>rfl
theorem yD2{p:Pl}(ok:POk p)(s:Sy){m o b:Nat}(f1:b<p.bs.length)(f2:(p.bs.getD b b0).fr=m)(f3:(p.bs.getD b b0).ot=o)(hb:zg2 p.bs m o=b):
    (disK p s m (o+1)).fst b=prt p s m o∧∀j,j≠b→j<p.bs.length→(disK p s m (o+1)).fst j=(disK p s m o).fst j:=by
  refine⟨?_,fun j hj hl=>?_⟩
  · simp only[disK];rw[if_pos ⟨f2,by omega⟩,f3];rfl
  · simp only[disK]
    by_cases h1:(p.bs.getD j b0).fr=m
    · have h2 : (p.bs.getD j b0).ot ≠ o := fun hc => by
        have:=ok.un j hl
        rw[h1,hc,hb]at this;omega
      by_cases h3:(p.bs.getD j b0).ot<o
      · rw[if_pos ⟨h1,by omega⟩,if_pos ⟨h1,h3⟩]
      · rw[if_neg (by omega),if_neg (by omega)]
    · rw[if_neg (fun hc=>h1 hc.1),if_neg (fun hc=>h1 hc.1)]
theorem y6r{n:Nat}{l:List Int}(h:zn7 n l):Sm (y9 n) l:=fun i _=>by
 have:=(zi2 n).2 i
 have:=h.2 i
 omega
theorem y9H{H:List Blk}{p:Pl}{ad:Ad}{s:Sy}(hp:y6 p=0)(h:PM H p ad s)(hs:SyOk p s){m:Nat}(hm:m<p.ms.length)(hb:¬binN p m)(hz:∀i,i<p.bs.length→(p.bs.getD i b0).fr=m→s.fst i=y9 p.mt):
    VR P false zk9 [.lp (ad .root).1 0 0,.v (.int .i64 m)] H (fun r H'=>r=.v (.int .i64 0)∧∃ad':Ad,PM H' p ad' (disS p s m)∧Tr p H ad H' ad'):=by
  refine zJ3 (by simp) (.inl rfl) fun _ _=>?_
  have ok:=y7 hp
  have hr:=h.rt
  unfold zw3 slA at hr
  obtain⟨m1,m2,m3⟩:=ok.mt1
  have hbe:=h.get .bef rfl
  simp only[ctn]at hbe
  have n0:=z1j p ad m hm
  have bl:=zr6 p ad
  unfold slA at n0
  have hu:usd p (.bm m)=true:=by simpa [usd]using hm
  have hbm:=h.get _ hu
  simp only[ctn]at hbm
  have hx:=hs.bef m hm
  have hE:=z4W hp hm hb hx
  have hn2:=ok.n2
  have hb2:=ok.b2
  simp (disch:=(try simp only[lZ]);omega) only[aZ,aM,zc3,zl1,hr,hbe,n0,bl]
  refine(z9G (w:=true) (v:=false) (p.ms.getD m []) (s.bef m)).use ⟨by unfold mcA mcC;exact Ld.refl (by simp (disch:=first|omega|simp (disch:=omega) only[aG,aM]) only[fZ,aM]),zD6 H _ _ _ _ hx.1.symm hbm,trivial⟩ (by rw[yC7 hE];simp (disch:=first|omega|simp (disch:=omega) only[aG,aM]) only[fZ,aM]) (z7 ?_)
  rw[yC7 hE]
  have ml:(msM (p.ms.getD m []) (s.bef m)).length=y3 (p.ms.getD m []):=by unfold msM;exact zT3 _ _ _
  have ho4:y3 (p.ms.getD m [])≤4:=by
    have hmo:=ok.mc _ (x3 [] hm)
    rcases yX1 (m:=p.ms.getD m [])with h0|h0
    · omega
    · have:=hmo.row _ (x3 [] h0);omega
  simp (disch:=(try simp only[lZ]);omega) only[aZ,aM,ml]
  refine AWP.loopM zC3 (fun x:Nat×List Blk=>x.1≤y3 (p.ms.getD m [])∧PM x.2 p ad (disK p s m x.1)∧Tr p H ad x.2 ad) (fun x=>[(2,.v (.int .i64 0)),(5,.v (.int .i64 x.1))]) (fun x=>x.2) (fun x=>y3 (p.ms.getD m [])-x.1) (0,H) ?_ ?_ ?_
  · refine⟨by omega,?_,Tr.refl _ _⟩
    have:disK p s m 0=s:=by
      unfold disK
      have:(fun i=>if(p.bs.getD i b0).fr=m∧(p.bs.getD i b0).ot<(0:Nat)then prt p s m (p.bs.getD i b0).ot.toNat else s.fst i)=s.fst:=by
        funext i
        by_cases hi:i<p.bs.length
        · have:=ok.bt _ (x3 b0 hi)
          rw[if_neg (by omega)]
        · rw[if_neg]
          rintro⟨h1,h2⟩
          rw[List.getD_eq_getElem?_getD,List.getElem?_eq_none (by omega)]at h2
          simp [b0]at h2
      rw[this]
    rw[this];exact h
  · exact Cut.fg (by simp (disch:=first|omega|simp (disch:=omega) only[aG,aM]) only[fZ,aM,y0,z9,or_true,true_or])
  rintro⟨o,K⟩ ⟨ho,hK,hT⟩
  simp only at ho hK hT
  have kr:=hK.rt
  unfold zw3 slA at kr
  by_cases hlt:o<y3 (p.ms.getD m [])
  · have hfo:=ok.op m hm o hlt
    obtain⟨f1,f2,f3⟩:=z7O hfo
    have hnx:y4K p m o=(zg2 p.bs m o,0):=by unfold y4K;rw[if_neg (fun hc=>hc hp),if_neg (by omega)]
    have hv:=yq7 (w:=true) (v:=true) p m o
    rw[hnx]at hv
    unfold plA plC at hv
    have hpl:=y4E (p.ms.getD m []) (s.bef m) hlt
    simp (disch:=(try simp only[lZ]);omega) only[aZ,aM,kr,ml]
    refine hv.same (by simp (disch:=first|omega|simp (disch:=omega) only[aG,aM]) only[fZ,aM]) rfl (z7 ?_)
    have kbl:=hK.get .bel rfl
    simp only[ctn]at kbl
    have kn0:=z52 p ad (zg2 p.bs m o).toNat f1
    have kl:=zt6 p ad
    unfold slA at kn0
    generalize hbo:(zg2 p.bs m o).toNat=b at *
    have hbo':zg2 p.bs m o=b:=by omega
    try rw[hbo']at hnx
    rw[hbo']
    simp (disch:=(try simp only[lZ]);omega) only[aZ,aM,kr,kbl,kn0,kl]
    have hub:usd p (.fi b)=true:=by simpa [usd]using f1
    have kfb:=hK.get _ hub
    have e1:(disK p s m o).fst b=y9 p.mt:=by
      simp only[disK];rw[if_neg (by omega)];exact hz b f1 f2
    simp only[ctn,e1]at kfb
    have hpo:=y0e hp hm hb hx hlt
    have hadd:=y4p (w:=true) (b:=prt p s m o) kfb (hpo.1.trans (zi2 _).1.symm) (y6r hpo) (by rw[(zi2 _).1];omega)
    rw[(zi2 _).1,y4N _ _ hpo.1]at hadd
    refine hadd.mono ?_
    rintro r H' hH
    obtain⟨d1,d2⟩:=yD2 ok s f1 f2 f3 hbo'
    have P2:PM H' p ad (disK p s m (o+1)):=by
      have:=hK.put (s':=disK p s m (o+1)) (.fi b) hub fun d hd hdu=>by
        cases d with
        | fi j=>simp only[ctn];rw[d2 j (fun hc=>hd (by rw[hc])) (by simpa [usd]using hdu)]
        | _=>rfl
      simp only[ctn,d1]at this
      rw[hH];exact this
    have T2:Tr p K ad H' ad:=by rw[hH];exact Tr.one hub (Gr.set (F:=one (ad (.fi b)).1) _ _ _ rfl)
    clear hH
    refine z7 ?_
    simp (disch:=(try simp only[lZ]);omega) only[aZ,aM]
    refine⟨(o+1,H'),⟨by simp only;omega,P2,hT.trans T2⟩,by simp only;omega,?_⟩
    try simp (disch:=(try simp only[lZ]);omega) only[aZ,aM]
    exact Cut.fg (by simp (disch:=first|omega|simp (disch:=omega) only[aG,aM]) only[fZ,aM,y0,z9,or_true,true_or])
  · have hoe:o=y3 (p.ms.getD m []):=by omega
    have kbf:=hK.get .bef rfl
    simp only[ctn]at kbf
    have kl:=zr6 p ad
    have ltb:=hK.lt (c:=.bef) rfl
    have ltr:=hK.lt (c:=.root) rfl
    rw[m3]at kr
    simp (disch:=(try simp only[lZ]);omega) only[aZ,aM,kr]
    refine(z1i m2 kr).mono ?_
    rintro r H' ⟨rfl,hH⟩
    rw[hH]
    refine z7 ?_
    have sp:=yZ8 p ad m (K.length,0) hm
    unfold slA at sp
    obtain⟨P2,T2,_⟩:=hK.anewB hm 0 (y9 p.mt) _ rfl
    rw[List.set_append_left _ _ ltb]at P2 T2
    simp (disch:=(try simp only[lZ]);omega) only[aZ,aM,kr,kbf,kl,sp,zM5]
    rw[hoe]at P2
    exact zd5 (R:=fun r H'=>r=.v (.int .i64 0)∧∃ad':Ad,PM H' p ad' (disS p s m)∧Tr p H ad H' ad') ⟨rfl,_,P2,hT.trans T2⟩
end Go.Proofs.YtcppaddgclkekaaGreat
namespace Go.Proofs.YtcppaddgclkekaaGreat
open Go Go.Lft
set_option linter.unusedSimpArgs false
set_option linter.unusedVariables false
def sm:Nat→(Nat→Int)→Int
 | 0,_=>0
 | n+1,f=>sm n f+f n
theorem Z7{n:Nat}{f g:Nat→Int}(h:∀i,i<n→f i=g i):sm n f=sm n g:=by
 induction n with
 | zero=>rfl
 | succ n ih=>simp only[sm];rw[ih fun i hi=>h i (by omega),h n (by omega)]
theorem zn8{n:Nat}{f:Nat→Int}(h:∀i,i<n→0≤f i):0≤sm n f:=by
 induction n with
 | zero=>simp [sm]
 | succ n ih=>simp only[sm];have:=ih fun i hi=>h i (by omega);have:=h n (by omega);omega
theorem yK4{n:Nat}{f:Nat→Int}(h:∀i,i<n→0≤f i){i:Nat}(hi:i<n):f i≤sm n f:=by
 induction n with
 | zero=>omega
 | succ n ih =>
  simp only[sm]
  have h1:=zn8 (n:=n) fun i hi=>h i (by omega)
  by_cases e:i=n
  ·subst e;omega
  ·have:=ih (fun i hi=>h i (by omega)) (by omega)
   have:=h n (by omega)
   omega
theorem z9P{n:Nat}(f:Nat→Int)(g:Nat→Int){i:Nat}(hi:i<n)(h:∀j,j≠i→j<n→g j=f j):sm n g=sm n f-f i+g i:=by
 induction n with
 | zero=>omega
 | succ n ih =>
  simp only[sm]
  by_cases e:i=n
  ·subst e
   rw[Z7 (f:=g) (g:=f) fun j hj=>h j (by omega) (by omega)];omega
  ·rw[ih (by omega) fun j hj hl=>h j hj (by omega),h n (Ne.symm e) (by omega)];omega
theorem y0f{n:Nat}(f g:Nat→Int):sm n (fun i=>f i+g i)=sm n f+sm n g:=by
 induction n with
 | zero=>rfl
 | succ n ih=>simp only[sm];rw[ih];omega
def befT(p:Pl)(s:Sy)(x:Nat):Int:=sm p.ms.length fun m=>(s.bef m).getD x 0
def fstT(p:Pl)(s:Sy)(x:Nat):Int:=sm p.bs.length fun i=>(s.fst i).getD x 0
def rngT(p:Pl)(s:Sy)(x:Nat):Int:=sm p.bs.length fun i=>sm (p.rl i) fun q=>(s.rng i q).getD x 0
def tot(p:Pl)(s:Sy)(x:Nat):Int:=befT p s x+fstT p s x+rngT p s x
structure Gd(p:Pl)(s:Sy):Prop where
 bl:∀m,m<p.ms.length→(s.bef m).length=p.mt∧∀x,0≤(s.bef m).getD x 0
 fl:∀i,i<p.bs.length→(s.fst i).length=p.mt∧∀x,0≤(s.fst i).getD x 0
 rl:∀i,i<p.bs.length→∀q,q<p.rl i→(s.rng i q).length=p.mt∧∀x,0≤(s.rng i q).getD x 0
 ps:∀i,i<p.bs.length→0<p.rl i→s.pos i<p.rl i
 hl:s.hal.length=p.ms.length
 fd:zn7 p.mt s.fed
 tt:∀x,tot p s x≤1073741824
theorem Gd.parts{p:Pl}{s:Sy}(h:Gd p s)(x:Nat):0≤befT p s x∧0≤fstT p s x∧0≤rngT p s x :=
 ⟨zn8 fun m hm=>(h.bl m hm).2 x,zn8 fun i hi=>(h.fl i hi).2 x,zn8 fun i hi=>zn8 fun q hq=>(h.rl i hi q hq).2 x⟩
theorem Gd.ok{p:Pl}{s:Sy}(h:Gd p s):SyOk p s:=by
 refine⟨fun m hm=>⟨(h.bl m hm).1,fun x=>⟨(h.bl m hm).2 x,?_⟩⟩,fun i hi=>⟨(h.fl i hi).1,fun x=>⟨(h.fl i hi).2 x,?_⟩⟩,fun i hi q hq=>⟨(h.rl i hi q hq).1,fun x=>⟨(h.rl i hi q hq).2 x,?_⟩⟩,h.ps,h.hl,h.fd⟩
 ·have h1:=yK4 (f:=fun m=>(s.bef m).getD x 0) (fun m hm=>(h.bl m hm).2 x) hm
  have h2:=h.tt x
  have h3:=h.parts x
  unfold tot at h2;unfold befT at h2 h3;omega
 ·have h1:=yK4 (f:=fun m=>(s.fst m).getD x 0) (fun m hm=>(h.fl m hm).2 x) hi
  have h2:=h.tt x
  have h3:=h.parts x
  unfold tot at h2;unfold fstT at h2 h3;omega
 ·have h0:=yK4 (f:=fun q=>(s.rng i q).getD x 0) (fun q hq=>(h.rl i hi q hq).2 x) hq
  have h1:=yK4 (f:=fun i=>sm (p.rl i) fun q=>(s.rng i q).getD x 0) (fun j hj=>zn8 fun q hq=>(h.rl j hj q hq).2 x) hi
  have h2:=h.tt x
  have h3:=h.parts x
  unfold tot at h2;unfold rngT at h2 h3;omega
def tpS(p:Pl)(i:Nat):Nat:=(p.bs.getD i b0).to.toNat
def mvA(p:Pl)(s:Sy)(i:Nat):Sy:={movS p s i with bef:=updF s.bef (tpS p i) (zc9 (s.bef (tpS p i)) (outM p s i))}
theorem y4O(p:Pl)(s:Sy)(i:Nat):(movS p s i).bef=s.bef:=by unfold movS;split<;>rfl
theorem y9I(p:Pl)(s:Sy)(i:Nat):(movS p s i).hal=s.hal:=by unfold movS;split<;>rfl
theorem y9J(p:Pl)(s:Sy)(i:Nat):(movS p s i).fed=s.fed:=by unfold movS;split<;>rfl
theorem z9Q(p:Pl)(s:Sy)(i:Nat):(movS p s i).fst=updF s.fst i (y9 p.mt):=by unfold movS;split<;>rfl
theorem Y5(n x:Nat):(y9 n).getD x 0=0:=by simp [y9,List.getD_eq_getElem?_getD,List.getElem?_replicate];split<;>rfl
theorem y4P{p:Pl}(ok:POk p){i:Nat}(hi:i<p.bs.length):tpS p i<p.ms.length:=by
 have:=ok.bt _ (x3 b0 hi)
 unfold tpS;omega
theorem zi7{n:Nat}{l:List Int}(hl:l.length=n){x:Nat}(h:n≤x):l.getD x 0=0:=by rw[List.getD_eq_getElem?_getD,List.getElem?_eq_none (by omega)];rfl
theorem zT5{n:Nat}{a b:List Int}(ha:a.length=n)(hb:b.length=n)(x:Nat):(zc9 a b).getD x 0=a.getD x 0+b.getD x 0:=by
 by_cases h:x<n
 ·exact zt5 _ _ _ (by omega)
 ·rw[zi7 (n:=n) (by rw[Q6,ha]) (by omega),zi7 ha (by omega),zi7 hb (by omega)];rfl
theorem y4Q{p:Pl}(ok:POk p){s:Sy}(h:Gd p s){i:Nat}(hi:i<p.bs.length)(x:Nat):tot p (mvA p s i) x=tot p s x:=by
 have ho:=(h.ok.out hi).1
 have ht:=y4P ok hi
 have hb:befT p (mvA p s i) x=befT p s x+(outM p s i).getD x 0:=by
  unfold befT
  rw[z9P (fun m=>(s.bef m).getD x 0) (fun m=>((mvA p s i).bef m).getD x 0) ht fun j hj _=>by simp only[mvA];rw[x9 _ _ hj]]
  simp only[mvA,x1]
  rw[zT5 (h.bl _ ht).1 ho];omega
 have hf:fstT p (mvA p s i) x=fstT p s x-(s.fst i).getD x 0:=by
  unfold fstT
  rw[z9P (fun j=>(s.fst j).getD x 0) (fun j=>((mvA p s i).fst j).getD x 0) hi fun j hj _=>by simp only[mvA,z9Q];rw[x9 _ _ hj]]
  simp only[mvA,z9Q,x1,Y5];omega
 have hr:rngT p (mvA p s i) x=rngT p s x+(s.fst i).getD x 0-(outM p s i).getD x 0:=by
  unfold rngT
  rw[z9P (fun j=>sm (p.rl j) fun q=>(s.rng j q).getD x 0) (fun j=>sm (p.rl j) fun q=>((mvA p s i).rng j q).getD x 0) hi fun j hj _=>by
   simp only[mvA,movS];split
   ·simp only[rolS,empS];rw[x9 _ _ hj]
   ·rfl]
  by_cases hrl:0<p.rl i
  ·have e1:(mvA p s i).rng=(rolS p (empS p s i) i (s.fst i)).rng:=by simp only[mvA,movS];rw[if_pos hrl]
   have e2:outM p s i=s.rng i (p.nxt s i):=by unfold outM;rw[if_pos hrl]
   rw[e1,e2]
   rw[z9P (fun q=>(s.rng i q).getD x 0) (fun q=>((rolS p (empS p s i) i (s.fst i)).rng i q).getD x 0) (i:=p.nxt s i) (Nat.mod_lt _ hrl) fun q hq _=>by
    simp only[rolS,x1]
    show((updF (s.rng i) (p.nxt s i) (s.fst i)) q).getD x 0=_
    rw[x9 _ _ hq]]
   have e3:(rolS p (empS p s i) i (s.fst i)).rng i (p.nxt s i)=s.fst i:=by
    simp only[rolS,x1]
    exact x1 (s.rng i) (p.nxt s i) _
   rw[e3];omega
  ·have e1:(mvA p s i).rng=s.rng:=by simp only[mvA,movS];rw[if_neg hrl];rfl
   have e2:outM p s i=s.fst i:=by unfold outM;rw[if_neg hrl]
   rw[e1,e2];omega
 unfold tot
 omega
theorem Gd.mvA{p:Pl}(ok:POk p){s:Sy}(h:Gd p s){i:Nat}(hi:i<p.bs.length):Gd p (mvA p s i):=by
 have hk:=h.ok
 have hm:=hk.mov hi
 have ho:=hk.out hi
 refine⟨fun m hm2=>?_,fun j hj=>?_,fun j hj q hq=>?_,hm.pos,hm.hal,hm.fed,fun x=>by rw[y4Q ok h hi];exact h.tt x⟩
 ·simp only[Go.Proofs.YtcppaddgclkekaaGreat.mvA]
  by_cases e:m=tpS p i
  ·rw[e,x1]
   have hb:=h.bl _ (y4P ok hi)
   refine⟨by rw[Q6];exact hb.1,fun x=>?_⟩
   rw[zT5 hb.1 ho.1]
   have:=hb.2 x
   have:=(ho.2 x).1
   omega
  ·rw[x9 _ _ e];exact h.bl m hm2
 ·exact⟨(hm.fst j hj).1,fun x=>((hm.fst j hj).2 x).1⟩
 ·exact⟨(hm.rng j hj q hq).1,fun x=>((hm.rng j hj q hq).2 x).1⟩
def mvK(p:Pl)(s:Sy):Nat→Sy
 | 0=>s
 | k+1=>mvA p (mvK p s k) k
theorem Gd.mvK{p:Pl}(ok:POk p){s:Sy}(h:Gd p s):∀k,k≤p.bs.length→Gd p (mvK p s k)∧∀x,tot p (mvK p s k) x=tot p s x
 | 0,_=>⟨h,fun _=>rfl⟩
 | k+1,hk=>by
  obtain⟨h1,h2⟩:=Gd.mvK ok h k (by omega)
  exact⟨h1.mvA ok (by omega),fun x=>by
   simp only[Go.Proofs.YtcppaddgclkekaaGreat.mvK]
   rw[y4Q ok h1 (by omega),h2]⟩
theorem z9R(p:Pl)(s:Sy):∀k,(mvK p s k).hal=s.hal∧(mvK p s k).fed=s.fed
 | 0=>⟨rfl,rfl⟩
 | k+1=>by
  obtain⟨h1,h2⟩:=z9R p s k
  exact⟨by simp only[mvK,mvA,y9I];exact h1,by simp only[mvK,mvA,y9J];exact h2⟩
theorem yq8(p:Pl)(s:Sy):∀k i,(mvK p s k).fst i=if i<k then y9 p.mt else s.fst i
 | 0,i=>by simp [mvK]
 | k+1,i=>by
  simp only[mvK,mvA,z9Q]
  by_cases e:i=k
  ·rw[e,x1,if_pos (by omega)]
  ·rw[x9 _ _ e,yq8 p s k i]
   by_cases h:i<k
   ·rw[if_pos h,if_pos (by omega)]
   ·rw[if_neg h,if_neg (by omega)]
theorem yq9(l:List Int):sm l.length (fun i=>l.getD i 0)=l.sum:=by
 have:∀n,n≤l.length→sm n (fun i=>l.getD i 0)=(l.take n).sum:=by
  intro n
  induction n with
  | zero=>intro _;simp [sm]
  | succ n ih =>
   intro hn
   simp only[sm]
   rw[ih (by omega),Z3 l n 0 (by omega),List.sum_append];simp
 rw[this _ (Nat.le_refl _),List.take_length]
theorem y0g{p:Pl}(hp:y6 p=0){s:Sy}{m:Nat}(hm:m<p.ms.length)(hz:∀i,i<p.bs.length→(p.bs.getD i b0).fr=m→s.fst i=y9 p.mt)(x:Nat):
    ∀o,o≤y3 (p.ms.getD m [])→fstT p (disK p s m o) x=fstT p s x+sm o fun o=>(prt p s m o).getD x 0
  | 0,_=>by
    have ok:=y7 hp
    simp only[sm]
    unfold fstT
    rw[Z7 (g:=fun i=>(s.fst i).getD x 0) fun i hi=>?_]
    · omega
    · have:=ok.bt _ (x3 b0 hi)
      simp only[disK];rw[if_neg (by omega)]
  | o+1,ho=>by
    have ok:=y7 hp
    have ih:=y0g hp hm hz x o (by omega)
    have hfo:=ok.op m hm o (by omega)
    obtain⟨f1,f2,f3⟩:=z7O hfo
    generalize hbo:(zg2 p.bs m o).toNat=b at *
    obtain⟨d1,d2⟩:=yD2 ok s f1 f2 f3 (by omega)
    simp only[sm]
    unfold fstT at ih ⊢
    rw[z9P (fun i=>((disK p s m o).fst i).getD x 0) (fun i=>((disK p s m (o+1)).fst i).getD x 0) f1 fun j hj hl=>by rw[d2 j hj hl],ih]
    rw[d1]
    have:(disK p s m o).fst b=y9 p.mt:=by simp only[disK];rw[if_neg (by omega)];exact hz b f1 f2
    rw[this,Y5];omega
theorem y4R{p:Pl}(hp:y6 p=0){s:Sy}{m:Nat}(hm:m<p.ms.length)(hb:¬binN p m)(hx:zn7 p.mt (s.bef m))(x:Nat):(sm (y3 (p.ms.getD m [])) fun o=>(prt p s m o).getD x 0)=(s.bef m).getD x 0:=by
 obtain⟨z1,z2,z3⟩:=yq4 (z4W hp hm hb hx)
 by_cases hxl:x<(s.bef m).length
 ·have hk:x<(p.ms.getD m []).length:=by have:=z1.len;omega
  have d:=yK1 z1 z2 hk (z3 x hxl)
  have hl:=(zn6 z1 z2 hk (z3 x hxl)).2.2.1
  have h1:=yq9 (divM (p.ms.getD m []) x ((s.bef m).getD x 0))
  rw[d.len,hl,d.sum]at h1
  rw[← h1]
  exact Z7 fun o ho=>y4D _ _ ho hxl
 ·have e:∀o,o<y3 (p.ms.getD m [])→(prt p s m o).getD x 0=0:=fun o ho=>zi7 (y4E (p.ms.getD m []) (s.bef m) ho) (by omega)
  rw[Z7 (g:=fun _=>0) e,zi7 rfl (by omega)]
  generalize y3 (p.ms.getD m [])=n
  induction n with
  | zero=>rfl
  | succ n ih=>simp only[sm,ih];rfl
theorem y0h{p:Pl}(hp:y6 p=0){s:Sy}{m:Nat}(hm:m<p.ms.length)(hb:¬binN p m)(hx:zn7 p.mt (s.bef m))(hz:∀i,i<p.bs.length→(p.bs.getD i b0).fr=m→s.fst i=y9 p.mt)(x:Nat):tot p (disS p s m) x=tot p s x:=by
 have h1:=y0g hp hm hz x _ (Nat.le_refl _)
 rw[y4R hp hm hb hx]at h1
 have h2:fstT p (disS p s m) x=fstT p s x+(s.bef m).getD x 0:=h1
 have h3:befT p (disS p s m) x=befT p s x-(s.bef m).getD x 0:=by
  unfold befT
  rw[z9P (fun j=>(s.bef j).getD x 0) (fun j=>((disS p s m).bef j).getD x 0) hm fun j hj _=>by simp only[disS];rw[x9 _ _ hj]]
  simp only[disS,x1,Y5];omega
 have h4:rngT p (disS p s m) x=rngT p s x:=rfl
 unfold tot;omega
theorem Gd.disS{p:Pl}(hp:y6 p=0){s:Sy}(h:Gd p s){m:Nat}(hm:m<p.ms.length)(hb:¬binN p m)(hz:∀i,i<p.bs.length→(p.bs.getD i b0).fr=m→s.fst i=y9 p.mt):Gd p (disS p s m):=by
 have hx:=h.ok.bef m hm
 have ok:=y7 hp
 refine⟨fun j hj=>?_,fun i hi=>?_,h.rl,h.ps,h.hl,h.fd,fun x=>by rw[y0h hp hm hb hx hz];exact h.tt x⟩
 ·simp only[Go.Proofs.YtcppaddgclkekaaGreat.disS]
  by_cases e:j=m
  ·rw[e,x1];exact⟨(zi2 _).1,fun x=>by rw[Y5];omega⟩
  ·rw[x9 _ _ e];exact h.bl j hj
 ·simp only[Go.Proofs.YtcppaddgclkekaaGreat.disS,disK]
  split
  ·rename_i hc
   have hbt:=ok.bt _ (x3 b0 hi)
   have hpo:=y0e hp hm hb hx (o:=(p.bs.getD i b0).ot.toNat) (by omega)
   exact⟨hpo.1,fun x=>(hpo.2 x).1⟩
  ·exact h.fl i hi
def disA(p:Pl)(s:Sy)(m:Nat):Sy:=if y3 (p.ms.getD m [])=0∨s.hal.getD m false=true then s else disS p s m
def dsK(p:Pl)(s:Sy):Nat→Sy
 | 0=>s
 | k+1=>disA p (dsK p s k) k
theorem yK5{p:Pl}(s:Sy):∀(k i:Nat),(k:Int)≤(p.bs.getD i b0).fr→(dsK p s k).fst i=s.fst i
 | 0,i,_=>rfl
 | k+1,i,h=>by
  have ih:=yK5 (p:=p) s k i (by omega)
  simp only[dsK,disA]
  split
  ·exact ih
  ·simp only[disS,disK];rw[if_neg (by omega)];exact ih
theorem z54{p:Pl}(s:Sy):∀k,(dsK p s k).hal=s.hal∧(dsK p s k).fed=s.fed
 | 0=>⟨rfl,rfl⟩
 | k+1=>by
  obtain⟨h1,h2⟩:=z54 (p:=p) s k
  simp only[dsK,disA]
  split
  ·exact⟨h1,h2⟩
  ·exact⟨h1,h2⟩
theorem Gd.dsK{p:Pl}(hp:y6 p=0){s:Sy}(h:Gd p s)(hz:∀i,i<p.bs.length→s.fst i=y9 p.mt):∀k,k≤p.ms.length→Gd p (dsK p s k)∧∀x,tot p (dsK p s k) x=tot p s x
 | 0,_=>⟨h,fun _=>rfl⟩
 | k+1,hk=>by
  obtain⟨h1,h2⟩:=Gd.dsK hp h hz k (by omega)
  have hz2:∀i,i<p.bs.length→(p.bs.getD i b0).fr=k→(Go.Proofs.YtcppaddgclkekaaGreat.dsK p s k).fst i=y9 p.mt:=fun i hi hf=>by rw[yK5 s k i (by omega)];exact hz i hi
  simp only[Go.Proofs.YtcppaddgclkekaaGreat.dsK,disA]
  split
  ·exact⟨h1,h2⟩
  ·rename_i hc
   have hb:¬binN p k:=fun hb=>hc (.inl hb)
   exact⟨h1.disS hp (by omega) hb hz2,fun x=>by rw[y0h hp (by omega) hb (h1.ok.bef k (by omega)) hz2,h2]⟩
def stpS(p:Pl)(s:Sy):Sy:=dsK p (mvK p s p.bs.length) p.ms.length
theorem Gd.stp{p:Pl}(hp:y6 p=0){s:Sy}(h:Gd p s):Gd p (stpS p s)∧(∀x,tot p (stpS p s) x=tot p s x)∧(stpS p s).hal=s.hal∧(stpS p s).fed=s.fed:=by
 obtain⟨h1,h2⟩:=h.mvK (y7 hp) p.bs.length (Nat.le_refl _)
 obtain⟨h3,h4⟩:=h1.dsK hp (fun i hi=>by rw[yq8,if_pos hi]) p.ms.length (Nat.le_refl _)
 exact⟨h3,fun x=>(h4 x).trans (h2 x),(z54 _ _).1.trans (z9R p s _).1,(z54 _ _).2.trans (z9R p s _).2⟩
end Go.Proofs.YtcppaddgclkekaaGreat
namespace Go.Proofs.YtcppaddgclkekaaGreat
open Go Go.Lft
set_option linter.unusedSimpArgs false
set_option linter.unusedVariables false
attribute [local congr] Q7 Q8 Q9 za1 Z9 Y0 za2 Y2 Y3 Y4 za3 za0
theorem y4S{H:List Blk}{p:Pl}{ad:Ad}{i v:Nat}(h0:0<p.ms.length)(h1:p.ms.length≤100)(hb:blkAt H i v=some (befC p ad)):VR P false ze2 [.sl i v 1 0 p.ms.length] H (fun r H'=>r=.sl H.length 1 1 0 p.ms.length∧H'=H++[⟨1,befC p ad⟩]):=by
 refine zs8 (by simp) (.inl rfl) fun _ _=>?_
 have lt:=y4 hb
 have bl:=zr6 p ad
 have bo:(befC p ad).all A.one=true:=by simp [befC,slA,A.one]
 have tk:(befC p ad).take p.ms.length=befC p ad:=List.take_of_length_le (by omega)
 simp (disch:=(try simp only[lZ]);omega) only[aZ,aM,X9,ze4,hb,bl,tk,bo,zv3]
 exact zd5 (R:=fun r H'=>_) ⟨rfl,rfl⟩
theorem Tr.keep{p:Pl}{K K':List Blk}{ad ad':Ad}(T:Tr p K ad K' ad'){i v:Nat}{l:List A}(hb:blkAt K i v=some l)(hn:¬ftp p ad i):blkAt K' i v=some l∧¬ftp p ad' i :=
 ⟨T.1.at hb hn,fun hc=>by
  rcases T.2.1 i hc with h|h
  ·have:=y4 hb;omega
  ·exact hn h⟩
def Mid(H:List Blk)(p:Pl)(ad:Ad)(K:List Blk)(ad':Ad)(st:Sy):Prop :=
 PM K p ad' st∧Tr p H ad K ad'∧(blkAt K H.length 0=some [.lp (ad .root).1 0 0]∧¬ftp p ad' H.length)∧blkAt K (H.length+1) 0=some [.v (.int .i64 0)]∧¬ftp p ad' (H.length+1)
theorem Mid.next{H K K':List Blk}{p:Pl}{ad ad' ad2:Ad}{st st':Sy}(h:Mid H p ad K ad' st)(hP:PM K' p ad2 st')(hT:Tr p K ad' K' ad2):Mid H p ad K' ad2 st' :=
 ⟨hP,h.2.1.trans hT,hT.keep h.2.2.1.1 h.2.2.1.2,hT.keep h.2.2.2.1 h.2.2.2.2⟩
theorem xt9(f:Nat→List Int)(m:Nat):updF f m (f m)=f:=by
 funext j
 unfold updF
 split
 ·rename_i h;rw[h]
 ·rfl
theorem y9K{H:List Blk}{p:Pl}{ad:Ad}{s:Sy}(hp:y6 p=0)(h:PM H p ad s)(hg:Gd p s):VR P false zH0 [.lp (ad .root).1 0 0] H (fun r H'=>r=.v (.int .i64 0)∧∃ad':Ad,PM H' p ad' (stpS p s)∧Tr p H ad H' ad'):=by
 refine z2W (by simp) (.inl rfl) fun _ _=>?_
 have ok:=y7 hp
 obtain⟨m1,m2,m3⟩:=ok.mt1
 have n1:=ok.n1
 have n2:=ok.n2
 have b2:=ok.b2
 have hr:=h.rt
 unfold zw3 slA at hr
 have ltr:=h.lt (c:=.root) rfl
 have ltb:=h.lt (c:=.bef) rfl
 have hbe:=h.get .bef rfl
 simp only[ctn]at hbe
 have hc:=y4S (H:=H++[⟨0,[.lp (ad .root).1 0 0]⟩,⟨0,[.v (.int .i64 0)]⟩]) (p:=p) (ad:=ad) (i:=(ad .bef).1) (v:=(ad .bef).2) n1 (by omega) (by rw[x2 _ _ _ _ ltb];exact hbe)
 simp (disch:=(try simp only[lZ]);omega) only[aZ,aM,zn3,zH2,hr]
 refine hc.mono ?_
 rintro r H' ⟨rfl,hH⟩
 rw[hH]
 refine z7 ?_
 have ltr2:(ad .root).1<(H++[(⟨0,[.lp (ad .root).1 0 0]⟩:Blk),⟨0,[.v (.int .i64 0)]⟩]).length:=by simp;omega
 simp (disch:=(try simp only[lZ]);omega) only[aZ,aM,hr]
 have M0:Mid H p ad (H++[⟨0,[.lp (ad .root).1 0 0]⟩,⟨0,[.v (.int .i64 0)]⟩,⟨1,befC p ad⟩,⟨0,[.sl (H.length+(1+1)) 1 1 0 p.ms.length]⟩]) ad s:=by
  refine⟨h.grow _,Tr.gr (Gr.app _ _),⟨by rw[x5];rfl,?_⟩,by rw[zg6];rfl,?_⟩
  ·rintro⟨c,hc1,hc2⟩;have:=h.lt hc1;omega
  ·rintro⟨c,hc1,hc2⟩;have:=h.lt hc1;omega
 refine AWP.loopM z1x (fun x:Nat×Ad×List Blk=>x.1≤p.ms.length∧Mid H p ad x.2.2 x.2.1 s) (fun x=>[(4,.v (.int .i64 x.1))]) (fun x=>x.2.2) (fun x=>p.ms.length-x.1) (0,ad,_) ⟨by omega,M0⟩ ?_ ?_
 ·exact Cut.fg (by simp (disch:=first|omega|simp (disch:=omega) only[aG,aM]) only[fZ,aM,y0,z9,or_true,true_or])
 clear M0
 rintro⟨k,a1,K⟩ ⟨hk,hM⟩
 simp only at hk hM
 have hM0:=hM
 obtain⟨kP,kT,⟨kS,kS2⟩,kE,kE2⟩:=hM
 have kr:=kP.rt
 rw[kT.2.2]at kr
 unfold zw3 slA at kr
 have kb:=kP.get .bef rfl
 simp only[ctn]at kb
 have kl:=zr6 p a1
 by_cases hlt:k<p.ms.length
 ·have kn:=z1j p a1 k hlt
  unfold slA at kn
  have hu:usd p (.bm k)=true:=by simpa [usd]using hlt
  have km:=kP.get _ hu
  simp only[ctn]at km
  have hml:=(hg.bl k hlt).1
  have hcl:=yZ6 (kp:=true) (by omega) (by omega) km
  rw[hml]at hcl
  simp (disch:=(try simp only[lZ]);omega) only[aZ,aM,kS,kr,kb,kl,kn]
  refine hcl.mono ?_
  rintro r H' ⟨rfl,hH⟩
  have sp:=yZ8 p a1 k (K.length,1) hlt
  unfold slA at sp
  have ltkb:=kP.lt (c:=.bef) rfl
  obtain⟨P2,T2,_⟩:=kP.anewB hlt 1 (s.bef k) _ rfl
  rw[xt9,List.set_append_left _ _ ltkb]at P2
  rw[List.set_append_left _ _ ltkb]at T2
  rw[hH]
  refine z7 ?_
  simp (disch:=(try simp only[lZ]);omega) only[aZ,aM,kb,kl,sp]
  refine⟨(k+1,_,_),⟨by simp only;omega,hM0.next P2 T2⟩,by simp only;omega,?_⟩
  try simp (disch:=(try simp only[lZ]);omega) only[aZ,aM]
  exact Cut.fg (by simp (disch:=first|omega|simp (disch:=omega) only[aG,aM]) only[fZ,aM,y0,z9,or_true,true_or])
 ·have hke:k=p.ms.length:=by omega
  clear hr hbe hc
  simp (disch:=(try simp only[lZ]);omega) only[aZ,aM,kS,kr]
  refine AWP.loopM z1y (fun x:Nat×Ad×List Blk=>x.1≤p.bs.length∧Mid H p ad x.2.2 x.2.1 (mvK p s x.1)) (fun x=>[(8,.v (.int .i64 x.1))]) (fun x=>x.2.2) (fun x=>p.bs.length-x.1) (0,a1,K) ⟨by omega,hM0⟩ ?_ ?_
  ·exact Cut.fg (by simp (disch:=first|omega|simp (disch:=omega) only[aG,aM]) only[fZ,aM,y0,z9,or_true,true_or])
  clear hM0 kP kT kS kS2 kE kE2 kr kb kl
  rintro⟨j,a2,L⟩ ⟨hj,hM⟩
  simp only at hj hM
  have hM0:=hM
  obtain⟨kP,kT,⟨kS,kS2⟩,kE,kE2⟩:=hM
  obtain⟨gj,gt⟩:=hg.mvK ok j hj
  have kr:=kP.rt
  rw[kT.2.2]at kr
  unfold zw3 slA at kr
  have lS:=y4 kS
  have lE:=y4 kE
  have lr:=kP.lt (c:=.root) rfl
  rw[kT.2.2]at lr
  by_cases hjt:j<p.bs.length
  ·have hmv:=y9z ok (kP.grow [⟨0,[.v (.int .i64 (p.bs.getD j b0).fr),.v (.int .i64 (p.bs.getD j b0).ot),.v (.int .i64 (p.bs.getD j b0).to),.v (.int .i64 (p.bs.getD j b0).ln)]⟩]) gj.ok hjt
   rw[kT.2.2]at hmv
   simp (disch:=(try simp only[lZ]);omega) only[aZ,aM,kS]
   refine hmv.mono ?_
   rintro r H' ⟨a3,o,rfl,P3,T3,hO,hO2⟩
   have hM1:Mid H p ad (L++[⟨0,[.v (.int .i64 (p.bs.getD j b0).fr),.v (.int .i64 (p.bs.getD j b0).ot),.v (.int .i64 (p.bs.getD j b0).to),.v (.int .i64 (p.bs.getD j b0).ln)]⟩]) a2 (mvK p s j):=hM0.next (kP.grow _) (Tr.gr (Gr.app _ _))
   have hM2:=hM1.next P3 T3
   have hB:=(T3.keep (i:=L.length) (v:=0) (l:=[.v (.int .i64 (p.bs.getD j b0).fr),.v (.int .i64 (p.bs.getD j b0).ot),.v (.int .i64 (p.bs.getD j b0).to),.v (.int .i64 (p.bs.getD j b0).ln)]) (by rw[x5];rfl) (by rintro⟨c,hc1,hc2⟩;have:=kP.lt hc1;omega)).1
   clear hM1
   have hM3:=hM2
   obtain⟨_,qT,⟨qS,_⟩,_,_⟩:=hM2
   have qr:=P3.rt
   rw[qT.2.2]at qr
   unfold zw3 slA at qr
   have qb:=P3.get .bef rfl
   simp only[ctn]at qb
   have ql:=zr6 p a3
   have ht:=y4P ok hjt
   have hbt:=ok.bt _ (x3 b0 hjt)
   have qn:=z1j p a3 (tpS p j) ht
   unfold slA at qn
   have htp:(p.bs.getD j b0).to.toNat=tpS p j:=rfl
   have hu:usd p (.bm (tpS p j))=true:=by simpa [usd]using ht
   have qm:=P3.get _ hu
   simp only[ctn,y4O]at qm
   have ma:=gj.ok.bef _ ht
   have mo:=gj.ok.out hjt
   have hadd:=yZ5 qm hO (fun hc=>hO2 ⟨_,hu,hc.symm⟩) (mo.1.trans ma.1.symm) (fun x _=>by have:=ma.2 x;have:=mo.2 x;omega) (by rw[ma.1];omega)
   rw[ma.1,mo.1]at hadd
   unfold slA
   refine z7 ?_
   simp (disch:=(try simp only[lZ]);omega) only[aZ,aM,hB,qS,qr,qb,ql,qn,htp]
   refine hadd.mono ?_
   rintro r H2 hH2
   have P4:PM H2 p a3 (mvK p s (j+1)):=by
    have:=P3.put (s':=mvA p (mvK p s j) j) (.bm (tpS p j)) hu fun d hd hdu=>by
     cases d with
     | bm m=>simp only[ctn,mvA,y4O];rw[x9 _ _ (fun hc=>hd (by rw[hc]))]
     | _=>rfl
    simp only[ctn,mvA,x1]at this
    rw[hH2];exact this
   have T4:Tr p H' a3 H2 a3:=by rw[hH2];exact Tr.one hu (Gr.set (F:=one (a3 (.bm (tpS p j))).1) _ _ _ rfl)
   clear hH2
   refine z7 ?_
   simp (disch:=(try simp only[lZ]);omega) only[aZ,aM]
   refine⟨(j+1,a3,H2),⟨by simp only;omega,hM3.next P4 T4⟩,by simp only;omega,?_⟩
   try simp (disch:=(try simp only[lZ]);omega) only[aZ,aM]
   exact Cut.fg (by simp (disch:=first|omega|simp (disch:=omega) only[aG,aM]) only[fZ,aM,y0,z9,or_true,true_or])
  ·have hje:j=p.bs.length:=by omega
   simp (disch:=(try simp only[lZ]);omega) only[aZ,aM,kS,kr]
   obtain⟨hz1,hz2⟩:=hg.mvK ok p.bs.length (Nat.le_refl _)
   have hz:∀i,i<p.bs.length→(mvK p s p.bs.length).fst i=y9 p.mt:=fun i hi=>by rw[yq8,if_pos hi]
   have hhal:=(z9R p s p.bs.length).1
   rw[hje]at hM0
   generalize hs1:mvK p s p.bs.length=s1 at *
   refine AWP.loopM z1z (fun x:Nat×Ad×List Blk=>x.1≤p.ms.length∧Mid H p ad x.2.2 x.2.1 (dsK p s1 x.1)) (fun x=>[(16,.v (.int .i64 x.1))]) (fun x=>x.2.2) (fun x=>p.ms.length-x.1) (0,a2,L) ⟨by omega,hM0⟩ ?_ ?_
   ·exact Cut.fg (by simp (disch:=first|omega|simp (disch:=omega) only[aG,aM]) only[fZ,aM,y0,z9,or_true,true_or])
   clear hM0 kP kT kS kS2 kE kE2 kr lS lE lr gj gt
   rintro⟨m,a3,N⟩ ⟨hm,hM⟩
   simp only at hm hM
   have hM0:=hM
   obtain⟨kP,kT,⟨kS,kS2⟩,kE,kE2⟩:=hM
   obtain⟨gj,gt⟩:=hz1.dsK hp hz m hm
   have kr:=kP.rt
   rw[kT.2.2]at kr
   unfold zw3 slA at kr
   by_cases hmt:m<p.ms.length
   ·have hbn:=y4x ok kP m (by omega) (by omega)
    rw[kT.2.2,Int.toNat_natCast]at hbn
    have kh:=kP.get .hal rfl
    simp only[ctn]at kh
    have hhl:=gj.hl
    have hh0:(dsK p s1 m).hal=s1.hal:=(z54 _ _).1
    rw[hh0]at kh hhl
    simp (disch:=(try simp only[lZ]);omega) only[aZ,aM,kS]
    refine hbn.mono ?_
    rintro r H' ⟨rfl,hH⟩
    rw[hH]
    refine z7 ?_
    have skip:(y3 (p.ms.getD m [])=0∨s1.hal.getD m false=true)→Mid H p ad N a3 (dsK p s1 (m+1)):=fun hc=>by
     simp only[dsK,disA];rw[hh0,if_pos hc];exact hM0
    by_cases hb:binN p m
    ·rw[decide_eq_true hb]
     simp (disch:=(try simp only[lZ]);omega) only[aZ,aM]
     refine⟨(m+1,a3,N),⟨by simp only;omega,skip (.inl hb)⟩,by simp only;omega,?_⟩
     try simp (disch:=(try simp only[lZ]);omega) only[aZ,aM]
     exact Cut.fg (by simp (disch:=first|omega|simp (disch:=omega) only[aG,aM]) only[fZ,aM,y0,z9,or_true,true_or])
    ·rw[decide_eq_false hb]
     cases hha:s1.hal.getD m false with
     | true =>
      simp (disch:=(try simp only[lZ]);omega) only[aZ,aM,kS,kr,kh,hhl,hha]
      refine⟨(m+1,a3,N),⟨by simp only;omega,skip (.inr hha)⟩,by simp only;omega,?_⟩
      try simp (disch:=(try simp only[lZ]);omega) only[aZ,aM]
      exact Cut.fg (by simp (disch:=first|omega|simp (disch:=omega) only[aG,aM]) only[fZ,aM,y0,z9,or_true,true_or])
     | false =>
      have hz2:∀i,i<p.bs.length→(p.bs.getD i b0).fr=m→(dsK p s1 m).fst i=y9 p.mt:=fun i hi hf=>by rw[yK5 s1 m i (by omega)];exact hz i hi
      have hds:=y9H hp kP gj.ok hmt hb hz2
      rw[kT.2.2]at hds
      simp (disch:=(try simp only[lZ]);omega) only[aZ,aM,kS,kr,kh,hhl,hha]
      refine hds.mono ?_
      rintro r H' ⟨rfl,a4,P4,T4⟩
      have hM4:Mid H p ad H' a4 (dsK p s1 (m+1)):=by
       refine hM0.next ?_ T4
       simp only[dsK,disA];rw[hh0,if_neg (by rintro(h|h);exact hb h;rw[hha]at h;cases h)];exact P4
      refine z7 ?_
      simp (disch:=(try simp only[lZ]);omega) only[aZ,aM]
      refine⟨(m+1,a4,H'),⟨by simp only;omega,hM4⟩,by simp only;omega,?_⟩
      try simp (disch:=(try simp only[lZ]);omega) only[aZ,aM]
      exact Cut.fg (by simp (disch:=first|omega|simp (disch:=omega) only[aG,aM]) only[fZ,aM,y0,z9,or_true,true_or])
   ·have hme:m=p.ms.length:=by omega
    have hse:=z7R kE
    have lE:=y4 kE
    rw[hme]at kP
    simp (disch:=(try simp only[lZ]);omega) only[aZ,aM,kE,hse,z4N]
    exact zd5 (R:=fun r H'=>r=.v (.int .i64 0)∧∃ad':Ad,PM H' p ad' (stpS p s)∧Tr p H ad H' ad') ⟨rfl,a3,by unfold stpS;rw[hs1];exact kP,kT⟩
def tb(n:Nat)(f:Nat→Int):List Int:=(List.range n).map f
theorem zb2(n:Nat)(f:Nat→Int):(tb n f).length=n:=by simp [tb]
theorem zx3(n:Nat)(f:Nat→Int)(x:Nat)(h:x<n):(tb n f).getD x 0=f x:=by simp [tb,List.getD_eq_getElem?_getD,h]
theorem z9S{n:Nat}{f g:Nat→Int}(h:∀x,x<n→f x=g x):tb n f=tb n g:=List.map_congr_left fun x hx=>h x (List.mem_range.1 hx)
theorem y4T(n:Nat):y9 n=tb n fun _=>0:=by
 refine Z5 0 (by simp [y9,tb]) fun x hx=>?_
 rw[Y5,zx3 _ _ _ (by simpa [y9]using hx)]
theorem z20(n:Nat)(f:Nat→Int)(l:List Int):zc9 (tb n f) l=tb n fun x=>f x+l.getD x 0:=by
 refine Z5 0 (by rw[Q6,zb2,zb2]) fun x hx=>?_
 rw[Q6,zb2]at hx
 rw[zt5 _ _ _ (by rw[zb2];exact hx),zx3 _ _ _ hx,zx3 _ _ _ hx]
theorem y0i(mat:Nat)(ct:Nat→List Int)(x:Nat)(hl:∀q,(ct q).length=mat∨True):∀k,x<mat→(accR mat ct k).getD x 0=sm k fun q=>(ct q).getD x 0
 | 0,hx=>by simp only[accR,sm];exact Y5 _ _
 | k+1,hx=>by
  simp only[accR,sm]
  rw[zt5 _ _ _ (by rw[z4U];exact hx),y0i mat ct x hl k hx]
theorem z9T{n k:Nat}{f:Nat→Int}(h:∀i,i<n→0≤f i)(hk:k≤n):sm k f≤sm n f:=by
  induction n with
  | zero => have : k = 0 := by omega
            subst this;exact Int.le_refl _
  | succ n ih =>
    by_cases e:k=n+1
    · rw[e];exact Int.le_refl _
    · have:=ih (fun i hi=>h i (by omega)) (by omega)
      have:=h n (by omega)
      simp only[sm];omega
def inM(p:Pl)(s:Sy)(x m:Nat):Int:=if y3 (p.ms.getD m [])=0 then 0 else(s.bef m).getD x 0
def inB(p:Pl)(s:Sy)(x i:Nat):Int:=(s.fst i).getD x 0+sm (p.rl i) fun q=>(s.rng i q).getD x 0
def insT(p:Pl)(s:Sy)(x:Nat):Int:=sm p.ms.length (inM p s x)+sm p.bs.length (inB p s x)
def insL(p:Pl)(s:Sy):List Int:=tb p.mt (insT p s)
theorem zY1{p:Pl}{s:Sy}(h:Gd p s)(x:Nat):∀m,m<p.ms.length→0≤inM p s x m:=fun m hm=>by
 unfold inM;split
 ·exact Int.le_refl _
 ·exact(h.bl m hm).2 x
theorem zY2{p:Pl}{s:Sy}(h:Gd p s)(x:Nat):∀i,i<p.bs.length→0≤inB p s x i:=fun i hi=>by
 unfold inB
 have:=(h.fl i hi).2 x
 have:=zn8 (n:=p.rl i) (f:=fun q=>(s.rng i q).getD x 0) fun q hq=>(h.rl i hi q hq).2 x
 omega
theorem xu0{p:Pl}{s:Sy}(h:Gd p s)(x:Nat):sm p.ms.length (inM p s x)≤befT p s x∧sm p.bs.length (inB p s x)=fstT p s x+rngT p s x:=by
 constructor
 ·unfold befT
  have:∀n,n≤p.ms.length→sm n (inM p s x)≤sm n fun m=>(s.bef m).getD x 0:=by
   intro n
   induction n with
   | zero=>intro _;exact Int.le_refl _
   | succ n ih =>
    intro hn
    have:=ih (by omega)
    have h1:inM p s x n≤(s.bef n).getD x 0:=by
     unfold inM;split
     ·exact(h.bl n (by omega)).2 x
     ·exact Int.le_refl _
    simp only[sm];omega
  exact this _ (Nat.le_refl _)
 ·unfold fstT rngT
  rw[← y0f]
  exact Z7 fun i _=>rfl
theorem zB9{p:Pl}{s:Sy}(h:Gd p s)(x:Nat):insT p s x≤tot p s x∧0≤insT p s x:=by
 have h1:=xu0 h x
 have h2:=zn8 (zY1 h x)
 have h3:=zn8 (zY2 h x)
 unfold insT tot;omega
theorem y4U{H:List Blk}{p:Pl}{ad:Ad}{s:Sy}(hp:y6 p=0)(h:PM H p ad s)(hg:Gd p s):VR P false zw7 [.lp (ad .root).1 0 0] H (fun r H'=>r=.sl H.length 0 1 0 p.mt∧Gr nof H H'∧blkAt H' H.length 0=some (ints (insL p s))):=by
 refine z0s (by simp) (.inl rfl) fun _ _=>?_
 have ok:=y7 hp
 obtain⟨m1,m2,m3⟩:=ok.mt1
 have n1:=ok.n1
 have n2:=ok.n2
 have b2:=ok.b2
 have hr:=h.rt
 unfold zw3 slA at hr
 have ltr:=h.lt (c:=.root) rfl
 have bnd:=fun x=>(zB9 hg x).1
 have tt:=hg.tt
 simp (disch:=(try simp only[lZ]);omega) only[aZ,aM,zi5,zw9]
 rw[m3]at hr
 refine(z1i m2 hr).mono ?_
 rintro r H' ⟨rfl,hH⟩
 rw[hH]
 refine z7 ?_
 rw[y4T]
 simp (disch:=(try simp only[lZ]);omega) only[aZ,aM,hr]
 refine AWP.loopM zY4 (fun k:Nat=>k≤p.ms.length) (fun k=>[(3,.v (.int .i64 k))]) (fun k=>H++[⟨0,ints (tb p.mt fun x=>sm k (inM p s x))⟩]) (fun k=>p.ms.length-k) 0 (by omega) ?_ ?_
 ·exact Cut.fg (by simp (disch:=first|omega|simp (disch:=omega) only[aG,aM]) only[fZ,aM,y0,z9,or_true,true_or])
 rintro k hk
 by_cases hlt:k<p.ms.length
 ·have hP:=h.grow [⟨0,ints (tb p.mt fun x=>sm k (inM p s x))⟩]
  have kb:=hP.get .bef rfl
  simp only[ctn]at kb
  have kl:=zr6 p ad
  have kn:=z1j p ad k hlt
  unfold slA at kn
  have hu:usd p (.bm k)=true:=by simpa [usd]using hlt
  have km:=hP.get _ hu
  simp only[ctn]at km
  have hbn:=y4x ok hP k (by omega) (by omega)
  rw[Int.toNat_natCast]at hbn
  have hml:=(hg.bl k hlt).1
  simp (disch:=(try simp only[lZ]);omega) only[aZ,aM,kb,kl,kn]
  refine hbn.mono ?_
  rintro r H' ⟨rfl,hH⟩
  rw[hH]
  refine z7 ?_
  by_cases hb:binN p k
  ·have hz:y3 (p.ms.getD k [])=0:=hb
   rw[decide_eq_true hb]
   simp (disch:=(try simp only[lZ]);omega) only[aZ,aM]
   refine⟨k+1,by omega,by omega,?_⟩
   have e:(fun x=>sm (k+1) (inM p s x))=fun x=>sm k (inM p s x):=by funext x;simp only[sm,inM];rw[if_pos hz];omega
   rw[e]
   try simp (disch:=(try simp only[lZ]);omega) only[aZ,aM]
   exact Cut.fg (by simp (disch:=first|omega|simp (disch:=omega) only[aG,aM]) only[fZ,aM,y0,z9,or_true,true_or])
  ·have hz:¬y3 (p.ms.getD k [])=0:=hb
   rw[decide_eq_false hb]
   have ha:blkAt (H++[⟨0,ints (tb p.mt fun x=>sm k (inM p s x))⟩]) H.length 0=some (ints (tb p.mt fun x=>sm k (inM p s x))):=by rw[x5];rfl
   have hadd:=yZ5 ha km (fun hc=>by have:=h.lt hu;omega) (by rw[hml,zb2]) (fun x hx=>by
    rw[zb2]at hx
    rw[zx3 _ _ _ hx]
    have g1:=(hg.ok.bef k hlt).2 x
    have g2:=z9T (zY1 hg x) hk
    have g3:=zn8 (n:=k) (f:=inM p s x) fun i hi=>zY1 hg x i (by omega)
    have g4:=zn8 (zY2 hg x)
    have hbx:=bnd x
    have:=tt x
    unfold insT at hbx;omega) (by rw[zb2];omega)
   rw[zb2,hml,z20]at hadd
   simp (disch:=(try simp only[lZ]);omega) only[aZ,aM]
   refine hadd.mono ?_
   rintro r H' hH
   rw[hH]
   refine z7 ?_
   simp (disch:=(try simp only[lZ]);omega) only[aZ,aM]
   refine⟨k+1,by omega,by omega,?_⟩
   have e:(fun x=>sm (k+1) (inM p s x))=fun x=>sm k (inM p s x)+(s.bef k).getD x 0:=by funext x;simp only[sm,inM];rw[if_neg hz]
   rw[e]
   try simp (disch:=(try simp only[lZ]);omega) only[aZ,aM]
   exact Cut.fg (by simp (disch:=first|omega|simp (disch:=omega) only[aG,aM]) only[fZ,aM,y0,z9,or_true,true_or])
 ·have hke:k=p.ms.length:=by omega
  rw[hke]
  simp (disch:=(try simp only[lZ]);omega) only[aZ,aM,hr]
  have hoff:∀c,usd p c=true→¬one H.length (ad c).1:=fun c hc hf=>by have:=h.lt hc;have:(ad c).1=H.length:=hf;omega
  refine AWP.loopM zY5 (fun x:Nat×List Blk=>x.1≤p.bs.length∧PM x.2 p ad s∧Gr nof H x.2∧blkAt x.2 H.length 0=some (ints (tb p.mt fun y=>sm p.ms.length (inM p s y)+sm x.1 (inB p s y)))) (fun x=>[(9,.v (.int .i64 x.1))]) (fun x=>x.2) (fun x=>p.bs.length-x.1) (0,H++[(⟨0,ints (tb p.mt fun x=>sm p.ms.length (inM p s x))⟩:Blk)]) ⟨by omega,h.grow _,Gr.app _ _,by rw[x5];simp only[sm,Int.add_zero];rfl⟩ ?_ ?_
  ·exact Cut.fg (by simp (disch:=first|omega|simp (disch:=omega) only[aG,aM]) only[fZ,aM,y0,z9,or_true,true_or])
  rintro⟨i,K⟩ ⟨hi,kP,kG,kO⟩
  simp only at hi kP kG kO
  by_cases hlt2:i<p.bs.length
  ·have kb:=kP.get .bel rfl
   simp only[ctn]at kb
   have kl:=zt6 p ad
   have k0:=z52 p ad i hlt2
   have k1:=yj1 p ad i hlt2
   unfold slA at k0
   have lK:=y4 kO
   have lbK:=kP.lt (c:=.bel) rfl
   have uf:usd p (.fi i)=true:=by simpa [usd]using hlt2
   have td2:((z2Y p ad).drop (i*2)).take 2=cvC p ad i:=by
    apply List.ext_getElem?
    intro j
    rw[List.getElem?_take,List.getElem?_drop]
    split
    ·rename_i hj;exact z01 _ (z00 p ad) _ i j hlt2 hj
    ·rw[List.getElem?_eq_none (by rw[z00];omega)]
   have fo:=hg.ok.fst i hlt2
   have P1:=kP.grow [⟨0,cvC p ad i⟩]
   have f1:=P1.get _ uf
   simp only[ctn]at f1
   have O1:blkAt (K++[(⟨0,cvC p ad i⟩:Blk)]) H.length 0=_:=(x2 _ _ _ _ lK).trans kO
   have q0:∀x,0≤sm p.ms.length (inM p s x):=fun x=>zn8 (zY1 hg x)
   have q1:∀x,0≤sm i (inB p s x):=fun x=>zn8 fun j hj=>zY2 hg x j (by omega)
   have q2:∀x,sm (i+1) (inB p s x)≤sm p.bs.length (inB p s x):=fun x=>z9T (zY2 hg x) (by omega)
   have q3:∀x,sm p.ms.length (inM p s x)+sm i (inB p s x)+inB p s x i≤1073741824:=fun x=>by
    have e1:=q2 x
    have e2:=bnd x
    have e3:=tt x
    unfold insT at e2
    simp only[sm]at e1;omega
   have a1:=yZ5 O1 f1 (fun hc=>by have:=h.lt uf;omega) (by rw[fo.1,zb2]) (fun x hx=>by
    rw[zb2]at hx
    rw[zx3 _ _ _ hx]
    have g1:=fo.2 x
    have g2:=q0 x
    have g3:=q1 x
    have g4:=q3 x
    have g5:=zY2 hg x i hlt2
    omega) (by rw[zb2];omega)
   rw[zb2,fo.1,z20]at a1
   have lP1:=y4 f1
   have P2:PM ((K++[(⟨0,cvC p ad i⟩:Blk)]).set H.length ⟨0,ints (tb p.mt fun x=>(sm p.ms.length (inM p s x)+sm i (inB p s x))+(s.fst i).getD x 0)⟩) p ad s:=P1.gr (Gr.set (F:=one H.length) _ _ _ rfl) hoff
   have G2:Gr nof H ((K++[(⟨0,cvC p ad i⟩:Blk)]).set H.length ⟨0,ints (tb p.mt fun x=>(sm p.ms.length (inM p s x)+sm i (inB p s x))+(s.fst i).getD x 0)⟩):=(kG.trans (Gr.app (F:=nof) K _) fun _ _ h=>h).trans (Gr.set (F:=one H.length) _ _ _ rfl) fun z hz hf=>by have:z=H.length:=hf;omega
   have O2:blkAt ((K++[(⟨0,cvC p ad i⟩:Blk)]).set H.length ⟨0,ints (tb p.mt fun x=>(sm p.ms.length (inM p s x)+sm i (inB p s x))+(s.fst i).getD x 0)⟩) H.length 0=_:=x0 _ _ _ _ (by simp;omega)
   have B2:blkAt ((K++[(⟨0,cvC p ad i⟩:Blk)]).set H.length ⟨0,ints (tb p.mt fun x=>(sm p.ms.length (inM p s x)+sm i (inB p s x))+(s.fst i).getD x 0)⟩) K.length 0=some (cvC p ad i):=by
    rw[y5 _ _ _ _ _ (by omega),x5];rfl
   unfold cvC slA at *
   by_cases hrl:0<p.rl i
   ·rw[if_pos hrl]at *
    have hu:usd p (.re i)=true:=by simp [usd,hlt2,hrl]
    rw[h.zr.2 i]at *
    simp (disch:=(try simp only[lZ]);omega) only[aZ,aM,kb,kl,td2]
    refine a1.mono ?_
    rintro r H' hH
    rw[← hH]at P2 G2 O2 B2
    clear hH
    refine z7 ?_
    have h15:=ok.rl hlt2
    have hre:=P2.get _ hu
    rw[h.zr.2 i]at hre
    simp only[ctn]at hre
    have hct:∀q,q<p.rl i→blkAt H' (ad (.ri i q)).1 (ad (.ri i q)).2=some (ints (s.rng i q))∧zn7 p.mt (s.rng i q):=fun q hq=>⟨P2.get (.ri i q) (by simp [usd,hlt2,hq]),hg.ok.rng i hlt2 q hq⟩
    have hbt:=y4v hre (by omega) ⟨m1,m2⟩ hct
    simp (disch:=(try simp only[lZ]);omega) only[aZ,aM,B2]
    refine hbt.mono ?_
    rintro r H2 ⟨rfl,hH2⟩
    have hal:=z4U p.mt (s.rng i) (p.rl i)
    have O3:blkAt H2 H.length 0=some (ints (tb p.mt fun x=>(sm p.ms.length (inM p s x)+sm i (inB p s x))+(s.fst i).getD x 0)):=by rw[hH2,x2 _ _ _ _ (y4 O2)];exact O2
    have T3:blkAt H2 H'.length 0=some (ints (accR p.mt (s.rng i) (p.rl i))):=by rw[hH2,x5];rfl
    have P3:PM H2 p ad s:=by rw[hH2];exact P2.grow _
    have G3:Gr nof H H2:=by rw[hH2];exact G2.trans (Gr.app (F:=nof) H' _) fun _ _ h=>h
    have lO2:=y4 O2
    clear hH2
    have hac:∀x,x<p.mt→(accR p.mt (s.rng i) (p.rl i)).getD x 0=sm (p.rl i) fun q=>(s.rng i q).getD x 0:=fun x hx=>y0i p.mt (s.rng i) x (fun _=>.inr trivial) _ hx
    have a2:=yZ5 O3 T3 (by omega) (by rw[hal,zb2]) (fun x hx=>by
     rw[zb2]at hx
     rw[zx3 _ _ _ hx,hac x hx]
     have g1:=fo.2 x
     have g2:=q0 x
     have g3:=q1 x
     have g4:=q3 x
     have g5:=zn8 (n:=p.rl i) (f:=fun q=>(s.rng i q).getD x 0) fun q hq=>(hg.rl i hlt2 q hq).2 x
     have g6:inB p s x i=(s.fst i).getD x 0+sm (p.rl i) fun q=>(s.rng i q).getD x 0:=rfl
     rw[g6]at g4
     omega) (by rw[zb2];omega)
    rw[zb2,hal,z20,z9S (g:=fun x=>sm p.ms.length (inM p s x)+sm (i+1) (inB p s x)) fun x hx=>by rw[hac x hx];simp only[sm,inB];omega]at a2
    refine z7 ?_
    simp (disch:=(try simp only[lZ]);omega) only[aZ,aM]
    refine a2.mono ?_
    rintro r H4 hH4
    have I4:PM H4 p ad s∧Gr nof H H4∧blkAt H4 H.length 0=some (ints (tb p.mt fun x=>sm p.ms.length (inM p s x)+sm (i+1) (inB p s x))):=by
     rw[hH4]
     exact⟨P3.gr (Gr.set (F:=one H.length) _ _ _ rfl) hoff,G3.trans (Gr.set (F:=one H.length) _ _ _ rfl) fun z hz hf=>by have:z=H.length:=hf;omega,x0 _ _ _ _ (y4 O3)⟩
    clear hH4
    refine z7 ?_
    simp (disch:=(try simp only[lZ]);omega) only[aZ,aM]
    refine⟨(i+1,H4),⟨by simp only;omega,I4⟩,by simp only;omega,?_⟩
    try simp (disch:=(try simp only[lZ]);omega) only[aZ,aM]
    exact Cut.fg (by simp (disch:=first|omega|simp (disch:=omega) only[aG,aM]) only[fZ,aM,y0,z9,or_true,true_or])
   ·rw[if_neg hrl]at *
    simp (disch:=(try simp only[lZ]);omega) only[aZ,aM,kb,kl,td2]
    refine a1.mono ?_
    rintro r H' hH
    rw[← hH]at P2 G2 O2 B2
    clear hH
    refine z7 ?_
    simp (disch:=(try simp only[lZ]);omega) only[aZ,aM,B2]
    refine y08.mono ?_
    rintro r H2 ⟨rfl,hH2⟩
    rw[hH2]
    refine z7 ?_
    simp (disch:=(try simp only[lZ]);omega) only[aZ,aM]
    refine y9u.mono ?_
    rintro r H3 hH3
    rw[hH3]
    have hr0:p.rl i=0:=by omega
    rw[z9S (g:=fun x=>sm p.ms.length (inM p s x)+sm (i+1) (inB p s x)) fun x hx=>by simp only[sm,inB,hr0];omega]at O2
    refine z7 ?_
    simp (disch:=(try simp only[lZ]);omega) only[aZ,aM]
    refine⟨(i+1,H'),⟨by simp only;omega,P2,G2,O2⟩,by simp only;omega,?_⟩
    try simp (disch:=(try simp only[lZ]);omega) only[aZ,aM]
    exact Cut.fg (by simp (disch:=first|omega|simp (disch:=omega) only[aG,aM]) only[fZ,aM,y0,z9,or_true,true_or])
  ·have hie:i=p.bs.length:=by omega
   rw[hie]at kO
   simp (disch:=(try simp only[lZ]);omega) only[aZ,aM,z1s]
   exact zd5 (R:=fun r H'=>r=.sl H.length 0 1 0 p.mt∧Gr nof H H'∧blkAt H' H.length 0=some (ints (insL p s))) ⟨rfl,kG,kO⟩
def posM(x:Int):Prop:=0<x
instance:DecidablePred posM:=fun x=>inferInstanceAs (Decidable (0<x))
theorem y6s{H:List Blk}{p:Pl}{ad:Ad}{s:Sy}(hp:y6 p=0)(h:PM H p ad s)(hg:Gd p s):VR P false zw4 [.lp (ad .root).1 0 0] H (fun r H'=>r=.sl H.length 0 1 0 p.mt∧Gr nof H H'∧blkAt H' H.length 0=some (ints (insL p s))):=by
 refine z0f (by simp) (.inl rfl) fun _ _=>?_
 simp (disch:=(try simp only[lZ]);omega) only[aZ,aM,zi4,zw6]
 refine(y4U hp h hg).mono ?_
 rintro r H' ⟨rfl,hG,hO⟩
 refine z7 ?_
 simp (disch:=(try simp only[lZ]);omega) only[aZ,aM,z1o]
 exact zd5 (R:=fun r H'=>r=.sl H.length 0 1 0 p.mt∧Gr nof H H'∧blkAt H' H.length 0=some (ints (insL p s))) ⟨rfl,hG,hO⟩
theorem xu1{H:List Blk}{p:Pl}{ad:Ad}{s:Sy}(hp:y6 p=0)(h:PM H p ad s)(hg:Gd p s):VR P false zE1 [.lp (ad .root).1 0 0] H (fun r H'=>r=.v (.int .i64 0)∧∃ad':Ad,PM H' p ad' (stpS p s)∧Tr p H ad H' ad'):=by
 refine z2z (by simp) (.inl rfl) fun _ _=>?_
 simp (disch:=(try simp only[lZ]);omega) only[aZ,aM,zl9,zE3]
 refine(y9K hp h hg).mono ?_
 rintro r H' ⟨rfl,hE⟩
 refine z7 ?_
 simp (disch:=(try simp only[lZ]);omega) only[aZ,aM,z3v]
 exact zd5 (R:=fun r H'=>r=.v (.int .i64 0)∧∃ad':Ad,PM H' p ad' (stpS p s)∧Tr p H ad H' ad') ⟨rfl,hE⟩
def itS(p:Pl)(s:Sy):Nat→Sy
 | 0=>s
 | k+1=>stpS p (itS p s k)
theorem Gd.it{p:Pl}(hp:y6 p=0){s:Sy}(h:Gd p s):∀k,Gd p (itS p s k)∧(∀x,tot p (itS p s k) x=tot p s x)∧(itS p s k).hal=s.hal∧(itS p s k).fed=s.fed
 | 0=>⟨h,fun _=>rfl,rfl,rfl⟩
 | k+1=>by
  obtain⟨h1,h2,h3,h4⟩:=Gd.it hp h k
  obtain⟨g1,g2,g3,g4⟩:=h1.stp hp
  exact⟨g1,fun x=>(g2 x).trans (h2 x),g3.trans h3,g4.trans h4⟩
def ovr(fed xs:List Int):Prop:=∃i,i<xs.length∧1073741824<fed.getD i 0+xs.getD i 0
instance(fed xs:List Int):Decidable (ovr fed xs):=inferInstanceAs (Decidable (∃i,i<xs.length∧1073741824<fed.getD i 0+xs.getD i 0))
def fitE(mt:Nat)(fed xs:List Int):Int:=if xs.length≠mt then 18 else if mixE xs≠0 then 1 else if ovr fed xs then 2 else 0
theorem y9L{w:Bool}{mt:Nat}{fed xs:List Int}(h16:mt≤16)(hf:zn7 mt fed):VR P false zE9 [.fp false [.v (.int .i64 mt),.any,.any,.any,.any,.any,.any,.fs false (ints fed)],.fs w (ints xs)] [] (isR (.v (.int .i64 (fitE mt fed xs)))):=by
 refine z2I (by simp) (.inr rfl) fun _ _=>?_
 unfold fitE
 simp (disch:=(try simp only[lZ]);omega) only[aZ,aM,zm2,zF1]
 refine y2 (fun h1=>?_) (fun h1=>?_)
 ·rw[if_pos (by omega)]
  simp (disch:=(try simp only[lZ]);omega) only[aZ,aM,zf7]
  exact y1 ⟨rfl,rfl⟩
 have hl:xs.length=mt:=by omega
 rw[if_neg (by omega)]
 simp (disch:=(try simp only[lZ]);omega) only[aZ,aM]
 refine(yZ7 (w:=w) xs mt).same (by simp (disch:=first|omega|simp (disch:=omega) only[aG,aM]) only[fZ,aM]) rfl (z7 ?_)
 by_cases h2:mixE xs=0
 ·rw[if_neg (by omega),decide_eq_true (⟨by omega,h2⟩:(xs.length:Int)=mt∧mixE xs=0)]
  have hb:=zB6.1 h2
  simp (disch:=(try simp only[lZ]);omega) only[aZ,aM]
  refine AWP.loopP z1r (fun k:Nat=>k≤xs.length∧∀i,i<k→¬1073741824<fed.getD i 0+xs.getD i 0) (fun k=>[(2,.v (.int .i64 0)),(3,.v (.int .i64 k))]) (fun _=>[]) (fun k=>xs.length-k) 0 ⟨by omega,fun i hi=>by omega⟩ (by refine Cut.of' (0) ?_ (by omega) ?_ ?_<;>simp (disch:=first|omega|simp (disch:=omega) only[aG,aM]) only[fZ,aM]) ?_
  rintro k ⟨hk,hn⟩
  by_cases hlt:k<xs.length
  ·have b1:=hb.2 _ (x3 0 hlt)
   have b2:=hf.2 k
   have fl:=hf.1
   simp (disch:=(try simp only[lZ]);omega) only[aZ,aM]
   refine y2 (fun h3=>?_) (fun h3=>?_)
   ·rw[if_pos ⟨k,hlt,h3⟩]
    simp (disch:=(try simp only[lZ]);omega) only[aZ,aM,zf7]
    exact y1 ⟨rfl,rfl⟩
   ·simp (disch:=(try simp only[lZ]);omega) only[aZ,aM]
    refine⟨k+1,⟨by omega,fun i hi=>?_⟩,by omega,(by refine Cut.of' (0) ?_ (by omega) ?_ ?_<;>simp (disch:=first|omega|simp (disch:=omega) only[aG,aM]) only[fZ,aM])⟩
    rcases Nat.lt_succ_iff_lt_or_eq.1 hi with h|rfl
    ·exact hn i h
    ·exact h3
  ·rw[if_neg (by rintro⟨i,hi,h3⟩;exact hn i (by omega) h3)]
   simp (disch:=(try simp only[lZ]);omega) only[aZ,aM,zf7]
   exact y1 ⟨rfl,rfl⟩
 ·rw[if_pos h2,decide_eq_false (by rintro⟨_,h⟩;exact h2 h)]
  simp (disch:=(try simp only[lZ]);omega) only[aZ,aM,zf7]
  exact y1 ⟨rfl,rfl⟩
theorem PM.ldr{H:List Blk}{p:Pl}{ad:Ad}{s:Sy}(ok:POk p)(h:PM H p ad s)(hs:SyOk p s):Ld H (.lp (ad .root).1 0 0) (.fp false [.v (.int .i64 p.mt),.any,.any,.any,.any,.any,.any,.fs false (ints s.fed)]):=by
 have hr:=h.rt
 unfold zw3 slA at hr
 obtain⟨m1,m2,m3⟩:=ok.mt1
 rw[m3]at hr
 exact Ld.lp (o:=0) hr ⟨Ld.refl rfl,Ld.any,Ld.any,Ld.any,Ld.any,Ld.any,Ld.any,zD6 H _ _ _ _ hs.fed.1.symm (h.get .fed rfl),trivial⟩ (by simp)
def zd9(p:Pl)(s:Sy)(xs:List Int):Sy:={s with fed:=zc9 s.fed xs,bef:=updF s.bef p.fd.toNat (zc9 (s.bef p.fd.toNat) xs)}
def fedS(s:Sy)(xs:List Int):Sy:={s with fed:=zc9 s.fed xs}
theorem z9U{mt:Nat}{fed xs:List Int}(h:fitE mt fed xs=0):xs.length=mt∧zn7 mt xs:=by
 unfold fitE at h
 split at h
 ·cases h
 rename_i h1
 split at h
 ·cases h
 rename_i h2
 have hl:xs.length=mt:=by omega
 exact⟨hl,hl,fun i=>by have:=zN8 (Classical.not_not.1 h2) i;omega⟩
theorem y9M{w:Bool}{H:List Blk}{p:Pl}{ad:Ad}{s:Sy}(hp:y6 p=0)(h:PM H p ad s)(hg:Gd p s){xs:List Int}(he:fitE p.mt s.fed xs=0):VR P false zD8 [.lp (ad .root).1 0 0,.fs w (ints xs)] H (fun r H'=>r=.v (.int .i64 0)∧PM H' p ad (zd9 p s xs)∧Tr p H ad H' ad):=by
 refine z2y (by simp) (.inl rfl) fun _ _=>?_
 have ok:=y7 hp
 obtain⟨m1,m2,m3⟩:=ok.mt1
 have hv:=(y9L (w:=w) (xs:=xs) m2 hg.fd)
 rw[he]at hv
 obtain⟨hl,hxm⟩:=z9U he
 have hfd:=ok.fd
 have ht:p.fd.toNat<p.ms.length:=by omega
 have hu:usd p (.bm p.fd.toNat)=true:=by simpa [usd]using ht
 have hr:=h.rt
 unfold zw3 slA at hr
 have ltf:=h.lt (c:=.fed) rfl
 have ltr:=h.lt (c:=.root) rfl
 have nrf:=h.ne (c:=.root) (d:=.fed) rfl rfl (by simp)
 have qf:=h.get .fed rfl
 simp only[ctn]at qf
 have sm1:Sm s.fed xs:=fun i _=>by have:=hg.fd.2 i;have:=hxm.2 i;omega
 have a1:=y4p (w:=w) qf (hl.trans hg.fd.1.symm) sm1 (by rw[hg.fd.1];omega)
 rw[hg.fd.1]at a1
 have P1:PM (H.set (ad .fed).1 ⟨(ad .fed).2,ints (zc9 s.fed xs)⟩) p ad (fedS s xs):=by
  have:=h.put (s':=fedS s xs) .fed rfl fun d hd _=>by
   cases d with
   | fed=>exact absurd rfl hd
   | _=>rfl
  simp only[ctn,fedS]at this
  exact this
 have T1:Tr p H ad (H.set (ad .fed).1 ⟨(ad .fed).2,ints (zc9 s.fed xs)⟩) ad:=Tr.one (c:=.fed) rfl (Gr.set (F:=one (ad .fed).1) _ _ _ rfl)
 have bl:=hg.ok.bef _ ht
 have kr:=P1.rt
 unfold zw3 slA at kr
 have kb:=P1.get .bef rfl
 simp only[ctn]at kb
 have kl:=zr6 p ad
 have kn:=z1j p ad p.fd.toNat ht
 unfold slA at kn
 have qm:=P1.get _ hu
 simp only[ctn,fedS]at qm
 have sm2:Sm (s.bef p.fd.toNat) xs:=fun i _=>by have:=bl.2 i;have:=hxm.2 i;omega
 have a2:=y4p (w:=w) qm (hl.trans bl.1.symm) sm2 (by rw[bl.1];omega)
 rw[bl.1]at a2
 simp (disch:=(try simp only[lZ]);omega) only[aZ,aM,zl8,zE0]
 refine hv.use ⟨h.ldr ok hg.ok,Ld.refl (by simp (disch:=first|omega|simp (disch:=omega) only[aG,aM]) only[fZ,aM]),trivial⟩ rfl (z7 ?_)
 rw[hl]at *
 simp (disch:=(try simp only[lZ]);omega) only[aZ,aM,hr]
 refine a1.mono ?_
 rintro r H' hH
 rw[hH]
 refine z7 ?_
 simp (disch:=(try simp only[lZ]);omega) only[aZ,aM,kr,kb,kl,kn]
 refine a2.mono ?_
 rintro r H2 hH2
 have P2:PM H2 p ad (zd9 p s xs):=by
  have:=P1.put (s':=zd9 p s xs) (.bm p.fd.toNat) hu fun d hd _=>by
   cases d with
   | bm m=>simp only[ctn,zd9,fedS];rw[x9 _ _ (fun hc=>hd (by rw[hc]))]
   | _=>rfl
  simp only[ctn,zd9,x1]at this
  rw[hH2];exact this
 have T2:Tr p H ad H2 ad:=by rw[hH2];exact T1.trans (Tr.one hu (Gr.set (F:=one (ad (.bm p.fd.toNat)).1) _ _ _ rfl))
 clear hH2
 refine z7 ?_
 simp (disch:=(try simp only[lZ]);omega) only[aZ,aM,z3t]
 exact zd5 (R:=fun r H'=>r=.v (.int .i64 0)∧PM H' p ad (zd9 p s xs)∧Tr p H ad H' ad) ⟨rfl,P2,T2⟩
def badT(a b:List Int)(i:Nat):Prop:=b.getD i 0<0∨a.getD i 0<b.getD i 0
instance(a b:List Int)(i:Nat):Decidable (badT a b i):=inferInstanceAs (Decidable (_∨_))
def chkP(p:Pl):Int:=if(zt7 p).2≠0 then(zt7 p).2 else if(zt7 p).1=true then 0 else 23
theorem zc7{p:Pl}(h:chkP p=0):y6 p=0∧drB p=true:=by
 by_cases hp:y6 p=0
 ·have hd:zt7 p=(drB p,0):=by unfold zt7;rw[if_neg (fun hc=>hc hp)]
  unfold chkP at h
  rw[hd]at h
  cases hb:drB p with
  | true=>exact⟨hp,rfl⟩
  | false=>rw[hb]at h;simp at h
 ·have hd:zt7 p=(false,y6 p):=by unfold zt7;rw[if_pos hp]
  unfold chkP at h
  rw[hd]at h
  rw[if_pos hp]at h;exact absurd h hp
theorem z4X{w v:Bool}(p:Pl):VR P false z3Q [plA w v p] [] (isR (.v (.int .i64 (chkP p)))):=by
 refine yd0 (by simp) (.inr rfl) fun _ _=>?_
 have hv:=z9O (w:=w) (v:=v) p
 unfold chkP
 unfold plA plC at hv ⊢
 simp (disch:=(try simp only[lZ]);omega) only[aZ,aM,zQ5,z3S]
 refine hv.same (by simp (disch:=first|omega|simp (disch:=omega) only[aG,aM]) only[fZ,aM]) rfl (z7 ?_)
 generalize zt7 p=d at *
 obtain⟨d1,d2⟩:=d
 simp (disch:=(try simp only[lZ]);omega) only[aZ,aM]
 refine y2 (fun h1=>?_) (fun h1=>?_)
 ·rw[if_pos h1]
  simp (disch:=(try simp only[lZ]);omega) only[aZ,aM,zQ6]
  exact y8 (Fz.refl (by simp (disch:=first|omega|simp (disch:=omega) only[aG,aM]) only[fZ,aM])) ⟨rfl,rfl⟩
 rw[if_neg h1]
 cases d1
 ·simp (disch:=(try simp only[lZ]);omega) only[aZ,aM,zQ6]
  exact y8 (Fz.refl (by simp (disch:=first|omega|simp (disch:=omega) only[aG,aM]) only[fZ,aM])) ⟨rfl,rfl⟩
 ·simp (disch:=(try simp only[lZ]);omega) only[aZ,aM,zQ6]
  exact y8 (Fz.refl (by simp (disch:=first|omega|simp (disch:=omega) only[aG,aM]) only[fZ,aM])) ⟨rfl,rfl⟩
theorem z4Y{w v:Bool}(p:Pl):VR P false z3w [plA w v p] [] (isR (.v (.int .i64 (chkP p)))):=by
 refine yb5 (by simp) (.inr rfl) fun _ _=>?_
 have hv:=yD0 (w:=w) (v:=v) p
 have hc:=zy9 (w:=w) (v:=v) p
 have e:chkP p=if y6 p≠0 then y6 p else if(zt7 p).1=true then 0 else 23:=by
  unfold chkP zt7
  by_cases hp:y6 p≠0
  ·rw[if_pos hp]<;>simp [hp]
  ·rw[if_neg hp,if_neg (by simp)]<;>simp [hp]
 rw[e]
 unfold plA plC at hv hc ⊢
 simp (disch:=(try simp only[lZ]);omega) only[aZ,aM,zP7,z3y]
 refine hc.same (by simp (disch:=first|omega|simp (disch:=omega) only[aG,aM]) only[fZ,aM]) rfl (z7 ?_)
 simp (disch:=(try simp only[lZ]);omega) only[aZ,aM]
 refine y2 (fun h1=>?_) (fun h1=>?_)
 ·rw[if_pos h1]
  simp (disch:=(try simp only[lZ]);omega) only[aZ,aM,zP8]
  exact y8 (Fz.refl (by simp (disch:=first|omega|simp (disch:=omega) only[aG,aM]) only[fZ,aM])) ⟨rfl,rfl⟩
 rw[if_neg h1]
 simp (disch:=(try simp only[lZ]);omega) only[aZ,aM]
 refine hv.same (by simp (disch:=first|omega|simp (disch:=omega) only[aG,aM]) only[fZ,aM]) rfl (z7 ?_)
 cases hd:(zt7 p).1
 ·simp (disch:=(try simp only[lZ]);omega) only[aZ,aM,zP8]
  exact y8 (Fz.refl (by simp (disch:=first|omega|simp (disch:=omega) only[aG,aM]) only[fZ,aM])) ⟨rfl,rfl⟩
 ·simp (disch:=(try simp only[lZ]);omega) only[aZ,aM,zP8]
  exact y8 (Fz.refl (by simp (disch:=first|omega|simp (disch:=omega) only[aG,aM]) only[fZ,aM])) ⟨rfl,rfl⟩
def mxN:Nat→(Nat→Int)→Int
 | 0,_=>0
 | n+1,f=>max (mxN n f) (f n)
def lngP(p:Pl)(k:Nat):Int:=mxN k fun i=>(p.bs.getD i b0).ln
theorem yj6{p:Pl}(ok:POk p):∀k,k≤p.bs.length→0≤lngP p k∧lngP p k≤16
 | 0,_=>by simp [lngP,mxN]
 | k+1,h=>by
  have ih:=yj6 ok k (by omega)
  have:=ok.bt _ (x3 b0 (show k<p.bs.length by omega))
  unfold lngP at ih ⊢
  simp only[mxN]
  omega
def hgI(p:Pl)(m:Nat)(h:Int):Nat→Int
 | 0=>h
 | x+1=>max (hgI p m h x) (zq6 p m x).1
def hgO(p:Pl):Nat→Int
 | 0=>0
 | m+1=>hgI p m (hgO p m) p.mt
def perP(p:Pl):Int:=lngP p p.bs.length+hgO p p.ms.length
theorem y4V{p:Pl}(h:chkP p=0){m x:Nat}(hm:m<p.ms.length)(hx:x<p.mt):(zq6 p m x).2=0∧0≤(zq6 p m x).1∧(zq6 p m x).1≤1000000:=by
 obtain⟨hp,hd⟩:=zc7 h
 have ok:=y7 hp
 obtain⟨m1,m2,m3⟩:=ok.mt1
 have hw:(wayV p x m).2=true:=by
  unfold drB at hd
  rw[List.all_eq_true]at hd
  have h1:=hd m (List.mem_range.2 hm)
  rw[List.all_eq_true]at h1
  exact h1 x (List.mem_range.2 hx)
 unfold zq6
 rw[if_neg (fun hc=>hc hp),if_neg (by omega),if_neg (by omega),Int.toNat_natCast,hw,if_neg (by decide)]
 refine⟨rfl,?_⟩
 rcases z1h ok (mt:=x) (by omega) (by omega) hm with⟨k,k1,k2,k3,k4⟩|⟨k1,k2⟩
 ·have hf:=z50 ok (mt:=x) (by omega) (by omega) hm k k2
  have hn:=ok.n2
  have:wayV p x m=(farR p x m k,true):=k4
  rw[this]
  simp only
  omega
 ·have:wayV p x m=(0,false):=k2
  rw[this]at hw;cases hw
theorem y8v{p:Pl}(h:chkP p=0){m:Nat}(hm:m<p.ms.length){h0:Int}(hh:0≤h0∧h0≤1000000):∀x,x≤p.mt→0≤hgI p m h0 x∧hgI p m h0 x≤1000000
 | 0,_=>hh
 | x+1,hx=>by
  have ih:=y8v h hm hh x (by omega)
  have:=(y4V h hm (x:=x) (by omega)).2
  simp only[hgI]
  omega
theorem y0j{p:Pl}(h:chkP p=0):∀m,m≤p.ms.length→0≤hgO p m∧hgO p m≤1000000
 | 0,_=>by simp [hgO]
 | m+1,hm=>y8v h (by omega) (y0j h m (by omega)) _ (Nat.le_refl _)
theorem y4W{w v:Bool}(p:Pl)(h:chkP p=0):VR P false z14 [plA w v p] [] (isR (.v (.int .i64 (perP p)))):=by
 refine z8O (by simp) (.inr rfl) fun _ _=>?_
 obtain⟨hp,hd⟩:=zc7 h
 have ok:=y7 hp
 obtain⟨m1,m2,m3⟩:=ok.mt1
 have n2:=ok.n2
 have b2:=ok.b2
 have hh:=fun m x=>yD1 (w:=w) (v:=v) p m x
 unfold perP
 unfold plA plC at *
 rw[m3]at *
 simp (disch:=(try simp only[lZ]);omega) only[aZ,aM,zJ0,z16]
 refine AWP.loopP z7l (fun k:Nat=>k≤p.bs.length) (fun k=>[(2,.v (.int .i64 (lngP p k))),(4,.v (.int .i64 k))]) (fun _=>[]) (fun k=>p.bs.length-k) 0 (by omega) ?_ ?_
 ·exact Cut.fg (by simp (disch:=first|omega|simp (disch:=omega) only[aG,aM]) only[fZ,aM,y0,z9,or_true,true_or,lngP,mxN])
 rintro k hk
 by_cases hlt:k<p.bs.length
 ·have hbl:=yj6 ok k hk
  have e:lngP p (k+1)=max (lngP p k) (p.bs.getD k b0).ln:=rfl
  simp (disch:=(try simp only[lZ]);omega) only[aZ,aM]
  refine⟨k+1,by omega,by omega,?_⟩
  rw[e]
  try simp (disch:=(try simp only[lZ]);omega) only[aZ,aM]
  exact Cut.fg (by simp (disch:=first|omega|simp (disch:=omega) only[aG,aM]) only[fZ,aM,y0,z9,or_true,true_or])
 have hke:k=p.bs.length:=by omega
 rw[hke]
 simp (disch:=(try simp only[lZ]);omega) only[aZ,aM]
 refine AWP.loopP z7m (fun m:Nat=>m≤p.ms.length) (fun m=>[(3,.v (.int .i64 (hgO p m))),(6,.v (.int .i64 m))]) (fun _=>[]) (fun m=>p.ms.length-m) 0 (by omega) ?_ ?_
 ·exact Cut.fg (by simp (disch:=first|omega|simp (disch:=omega) only[aG,aM]) only[fZ,aM,y0,z9,or_true,true_or,hgO])
 rintro m hm
 by_cases hmt:m<p.ms.length
 ·simp (disch:=(try simp only[lZ]);omega) only[aZ,aM]
  refine AWP.loopP z7n (fun x:Nat=>x≤p.mt) (fun x=>[(3,.v (.int .i64 (hgI p m (hgO p m) x))),(7,.v (.int .i64 x))]) (fun _=>[]) (fun x=>p.mt-x) 0 (by omega) ?_ ?_
  ·exact Cut.fg (by simp (disch:=first|omega|simp (disch:=omega) only[aG,aM]) only[fZ,aM,y0,z9,or_true,true_or,hgI])
  rintro x hx
  by_cases hxt:x<p.mt
  ·have e:hgI p m (hgO p m) (x+1)=max (hgI p m (hgO p m) x) (zq6 p m x).1:=rfl
   simp (disch:=(try simp only[lZ]);omega) only[aZ,aM]
   refine(hh m x).same (by simp (disch:=first|omega|simp (disch:=omega) only[aG,aM]) only[fZ,aM]) rfl (z7 ?_)
   simp (disch:=(try simp only[lZ]);omega) only[aZ,aM]
   refine⟨x+1,by omega,by omega,?_⟩
   rw[e]
   try simp (disch:=(try simp only[lZ]);omega) only[aZ,aM]
   exact Cut.fg (by simp (disch:=first|omega|simp (disch:=omega) only[aG,aM]) only[fZ,aM,y0,z9,or_true,true_or])
  ·have hxe:x=p.mt:=by omega
   rw[hxe]
   simp (disch:=(try simp only[lZ]);omega) only[aZ,aM]
   refine⟨m+1,by omega,by omega,?_⟩
   have e:hgO p (m+1)=hgI p m (hgO p m) p.mt:=rfl
   rw[e]
   try simp (disch:=(try simp only[lZ]);omega) only[aZ,aM]
   exact Cut.fg (by simp (disch:=first|omega|simp (disch:=omega) only[aG,aM]) only[fZ,aM,y0,z9,or_true,true_or])
 ·have hme:m=p.ms.length:=by omega
  have q1:=yj6 ok p.bs.length (Nat.le_refl _)
  have q2:=y0j h p.ms.length (Nat.le_refl _)
  rw[hme]
  simp (disch:=(try simp only[lZ]);omega) only[aZ,aM,yd6]
  exact y1 ⟨rfl,rfl⟩
def bndR(p:Pl)(g:Int):Int×Int:=if chkP p≠0 then(0,chkP p)else if g<0∨1073741824<g then(0,1)else(g*perP p,0)
theorem y4X{p:Pl}(h:chkP p=0){g:Int}(hg:¬(g<0∨1073741824<g)):0≤g*perP p∧g*perP p≤2000000000000000∧0≤perP p∧perP p≤1000016:=by
 have ok:=y7 (zc7 h).1
 have q1:=yj6 ok p.bs.length (Nat.le_refl _)
 have q2:=y0j h p.ms.length (Nat.le_refl _)
 have q3:0≤perP p∧perP p≤1000016:=by unfold perP;omega
 have h1:=Int.mul_nonneg (show 0≤g by omega) q3.1
 have h2:g*perP p≤1073741824*1000016:=Int.mul_le_mul (by omega) q3.2 q3.1 (by omega)
 omega
theorem yK6{w v:Bool}(p:Pl)(g:Int):VR P false z3B [plA w v p,.v (.int .i64 g)] [] (isR (.tup [.v (.int .i64 (bndR p g).1),.v (.int .i64 (bndR p g).2)])):=by
 refine yb9 (by simp) (.inr rfl) fun _ _=>?_
 have hc:=z4Y (w:=w) (v:=v) p
 unfold bndR
 by_cases h:chkP p=0
 ·have hper:=y4W (w:=w) (v:=v) p h
  rw[if_neg (fun hc=>hc h)]
  rw[h]at hc
  unfold plA plC at *
  simp (disch:=(try simp only[lZ]);omega) only[aZ,aM,zy0,zQ0]
  refine hc.same (by simp (disch:=first|omega|simp (disch:=omega) only[aG,aM]) only[fZ,aM]) rfl (z7 ?_)
  by_cases hg:g<0∨1073741824<g
  ·rw[if_pos hg]
   simp (disch:=(try simp only[lZ]);omega) only[aZ,aM,decide_eq_true hg,zQ1]
   exact y8 (Fz.refl (by simp (disch:=first|omega|simp (disch:=omega) only[aG,aM]) only[fZ,aM])) ⟨rfl,rfl⟩
  ·have hm:=y4X h hg
   rw[if_neg hg]
   simp (disch:=(try simp only[lZ]);omega) only[aZ,aM,decide_eq_false hg]
   refine hper.same (by simp (disch:=first|omega|simp (disch:=omega) only[aG,aM]) only[fZ,aM]) rfl (z7 ?_)
   simp (disch:=(try simp only[lZ]);omega) only[aZ,aM,zQ1]
   exact y8 (Fz.refl (by simp (disch:=first|omega|simp (disch:=omega) only[aG,aM]) only[fZ,aM])) ⟨rfl,rfl⟩
 ·rw[if_pos h]
  generalize chkP p=e at *
  unfold plA plC at *
  simp (disch:=(try simp only[lZ]);omega) only[aZ,aM,zy0,zQ0]
  refine hc.same (by simp (disch:=first|omega|simp (disch:=omega) only[aG,aM]) only[fZ,aM]) rfl (z7 ?_)
  simp (disch:=(try simp only[lZ]);omega) only[aZ,aM,decide_eq_true h,zQ1]
  exact y8 (Fz.refl (by simp (disch:=first|omega|simp (disch:=omega) only[aG,aM]) only[fZ,aM])) ⟨rfl,rfl⟩
theorem VR.fs0{P:Program}{kp:Bool}{f:Nat}{w:Bool}{l:List A}{H:List Blk}{R:A→List Blk→Prop}(h:∀(a:Option Addr) (c:Nat),VR P kp f (.v (.slice a 0 c) :: l) H R):VR P kp f (.fs w [] :: l) H R:=fun c vs hH hs hr=>by
 obtain⟨x,xs,rfl,h1,h2⟩:=hr.uncons
 cases h1 with
 | fs0 w a cp=>exact h a cp c _ hH hs (RL.cons (.v _) h2)
 | fs w l b o cp k f e1 e2 e3=>exact h (some ⟨b,o,none⟩) cp c _ hH hs (RL.cons (.v _) h2)
theorem y4Y{w:Bool}(xs:List Int)(h:xs.length≤1000):VR P false zs6 [.fs w (ints xs)] [] (isR (.fs true (ints xs))):=by
 cases xs with
 | nil =>
  refine VR.fs0 fun a c=>?_
  refine zo0 (by simp) (.inr rfl) fun _ _=>?_
  cases a with
  | none =>
   have he:eqsA false (.v (.slice none 0 c)) (.v (.slice none 0 0))=some (.v (.bool true)):=rfl
   simp (disch:=(try simp only[lZ]);omega) only[aZ,aM,X0,zb1,zh0,he]
   exact y8 (z3d _ _) ⟨rfl,rfl⟩
  | some a =>
   have he:eqsA false (.v (.slice (some a) 0 c)) (.v (.slice none 0 0))=some (.v (.bool false)):=rfl
   have hn:∀H size,zz6 H size (.v (.slice (some a) 0 c))=some (0,[]):=fun _ _=>rfl
   simp (disch:=(try simp only[lZ]);omega) only[aZ,aM,X0,zb1,zh0,he,hn]
   exact y8 (zK3 0 _ 0 1 0 [] (by omega) rfl (by simp (disch:=(try simp only[lZ]);omega) only[aZ,aM];rfl)) ⟨rfl,rfl⟩
 | cons x xs =>
  refine zo0 (by simp) (.inr rfl) fun _ _=>?_
  have he:eqsA false (.fs w (ints (x :: xs))) (.v (.slice none 0 0))=some (.v (.bool false)):=by simp only[eqsA];rw[if_neg (by rw[zU1];simp)]
  generalize hl:x :: xs=l at *
  simp (disch:=(try simp only[lZ]);omega) only[aZ,aM,X0,zb1,zh0,he]
  exact y8 (zK3 0 _ 0 1 _ l (by omega) rfl (by simp (disch:=(try simp only[lZ]);omega) only[aZ,aM])) ⟨rfl,rfl⟩
theorem z7S(l:List Bt):za5 4 (bts l)=some (l.flatMap btC):=by
 induction l with
 | nil=>rfl
 | cons b l ih =>
  rw[show bts (b :: l)=btA b :: bts l from rfl,yA4 4 _ _ (btC b) rfl rfl,ih];rfl
theorem y4Z(l:List Bt):(l.flatMap btC).all A.one=true:=by
 rw[List.all_eq_true]
 intro a ha
 obtain⟨b,_,hb⟩:=List.mem_flatMap.1 ha
 simp only[btC,List.mem_cons,List.not_mem_nil,or_false]at hb
 rcases hb with rfl|rfl|rfl|rfl<;>rfl
theorem yr0(l:List Bt):(l.flatMap btC).length=l.length*4:=by
 induction l with
 | nil=>rfl
 | cons b l ih=>rw[List.flatMap_cons,List.length_append,ih];simp [btC];omega
theorem y0k(n:Nat)(l:List Bt):A.bdL n (l.flatMap btC)=true:=z51 fun a ha=>by
 obtain⟨b,_,hb⟩:=List.mem_flatMap.1 ha
 simp only[btC,List.mem_cons,List.not_mem_nil,or_false]at hb
 rcases hb with rfl|rfl|rfl|rfl<;>rfl
theorem y40{w:Bool}(xs:List Bt)(h:xs.length≤100000):VR P false zc1 [.fs w (bts xs)] [] (isR (.fs true (bts xs))):=by
 cases xs with
 | nil =>
  refine VR.fs0 fun a c=>?_
  refine zb6 (by simp) (.inr rfl) fun _ _=>?_
  cases a with
  | none =>
   have he:eqsA false (.v (.slice none 0 c)) (.v (.slice none 0 0))=some (.v (.bool true)):=rfl
   simp (disch:=(try simp only[lZ]);omega) only[aZ,aM,w4,w6,Y6,he]
   exact y8 (z3d _ _) ⟨rfl,rfl⟩
  | some a =>
   have he:eqsA false (.v (.slice (some a) 0 c)) (.v (.slice none 0 0))=some (.v (.bool false)):=rfl
   have hn:∀H size,zz6 H size (.v (.slice (some a) 0 c))=some (0,[]):=fun _ _=>rfl
   simp (disch:=(try simp only[lZ]);omega) only[aZ,aM,w4,w6,Y6,he,hn]
   exact y8 (Fz.sl (l:=[]) (r:=[]) (els:=[]) (by omega) (by simp (disch:=(try simp only[lZ]);omega) only[aZ,aM]) trivial rfl rfl (by simp)) ⟨rfl,rfl⟩
 | cons x xs =>
  refine zb6 (by simp) (.inr rfl) fun _ _=>?_
  have he:eqsA false (.fs w (bts (x :: xs))) (.v (.slice none 0 0))=some (.v (.bool false)):=by simp only[eqsA];rw[if_neg (by rw[z9r];simp)]
  generalize hl:x :: xs=l at *
  have hn:∀H,zz6 H 4 (.fs w (bts l))=some (l.length,l.flatMap btC):=fun H=>by simp only[zz6,z7S,Option.bind_some,y4Z,if_true,z9r]
  simp (disch:=(try simp only[lZ]);omega) only[aZ,aM,w4,w6,Y6,he,hn]
  exact y8 (Fz.sl (r:=l.flatMap btC) (els:=bts l) (by omega) (by simp (disch:=(try simp only[lZ]);omega) only[aZ,aM]) (FzL.refl (y0k _ _)) (by rw[z7S,List.drop_zero,List.take_of_length_le (by rw[yr0];omega)]) (z9r _) (by rw[yr0];omega)) ⟨rfl,rfl⟩
def mxF(m:Mc):A:=.fs true (rows true m)
def mxC(l:List Mc)(n:Nat):List A:=l.map mxF++List.replicate (n-l.length) nilS
def mxE(l:List Mc)(x:A)(n:Nat):List A:=l.map mxF++x :: List.replicate (n-(l.length+1)) nilS
theorem y9N(l:List Mc)(n:Nat)(h:l.length≤n):(mxC l n).length=n:=by simp [mxC];omega
theorem y9O(l:List Mc)(x:A)(n:Nat)(h:l.length<n):(mxE l x n).length=n:=by simp [mxE];omega
theorem xA3(l:List Mc)(n:Nat)(h:l.length<n):mxC l n=mxE l nilS n:=by
 unfold mxC mxE
 rw[show n-l.length=(n-(l.length+1))+1 by omega,List.replicate_succ]
theorem y9P(l:List Mc)(x:A)(n k:Nat)(h:k=l.length):nthA (mxE l x n) k=some x:=by
 subst h
 rw[Y8]
 unfold mxE
 rw[List.getElem?_append_right (by simp)];simp
theorem y41(l:List Mc)(x y:A)(n k:Nat)(h:k=l.length):(mxE l x n).set k y=mxE l y n:=by
 subst h
 unfold mxE
 rw[List.set_append_right _ _ (by simp)];simp
theorem y9Q(l:List Mc)(x y:A)(n k:Nat)(h:k=l.length):splA (mxE l x n) k [y]=mxE l y n:=by
 rw[zP1,y41 _ _ _ _ _ h]
 unfold mxE;simp;omega
theorem xA4(l:List Mc)(m:Mc)(n:Nat):mxE l (mxF m) n=mxC (l++[m]) n:=by simp [mxE,mxC]
theorem z63(n:Nat)(l:List Mc):A.bdL n (l.map mxF)=true:=z51 fun a ha=>by
 obtain⟨m,_,rfl⟩:=List.mem_map.1 ha
 simp [mxF,A.bd,r_bd]
theorem xu2(n k:Nat):A.bdL n (List.replicate k nilS)=true:=z51 fun a ha=>by
 rw[(List.mem_replicate.1 ha).2];rfl
theorem y8w(m:Nat)(H:List Blk)(l:List Mc)(x y:A)(n:Nat)(h:Fz m H x y):FzL m H (mxE l x n) (mxE l y n) :=
 FzL.cat (FzL.refl (z63 _ _)) ⟨h,FzL.refl (xu2 _ _)⟩
theorem yr1(l:List Mc):za5 1 (mcs true l)=some (l.map mxF):=by
 induction l with
 | nil=>rfl
 | cons m l ih =>
  rw[show mcs true (m :: l)=mcA true m :: mcs true l from rfl,yA4 1 _ _ [mxF m] rfl rfl,ih];rfl
theorem y42{w v:Bool}(p:Pl)(hp:y6 p=0):VR P false z1T [plA w v p] [] (isR (plA true true p)):=by
 refine z8G (by simp) (.inr rfl) fun _ _=>?_
 have ok:=y7 hp
 have n2:=ok.n2
 have b2:=ok.b2
 have e0:repA p.ms.length [nilS]=mxC [] p.ms.length:=by rw[yO7];simp [mxC]
 unfold nilS at e0
 unfold plA plC
 simp (disch:=(try simp only[lZ]);omega) only[aZ,aM,zI4,z1V,e0]
 refine AWP.loopP z7e (fun k:Nat=>k≤p.ms.length) (fun k=>[(4,.v (.int .i64 k))]) (fun k=>[(2,⟨0,mxC (p.ms.take k) p.ms.length⟩)]) (fun k=>p.ms.length-k) 0 (by omega) ?_ ?_
 ·rw[List.take_zero]
  exact Cut.fg (by simp (disch:=first|omega|simp (disch:=omega) only[aG,aM]) only[fZ,aM,y0,z9,or_true,true_or])
 rintro k hk
 have hkl:(p.ms.take k).length=k:=by simp;omega
 by_cases hlt:k<p.ms.length
 ·have mcl:=y9N (p.ms.take k) p.ms.length (by omega)
  have mx0:=xA3 (p.ms.take k) p.ms.length (by omega)
  have mel:=fun x=>y9O (p.ms.take k) x p.ms.length (by omega)
  have men:=fun x=>y9P (p.ms.take k) x p.ms.length k hkl.symm
  have mes:=fun x y=>y41 (p.ms.take k) x y p.ms.length k hkl.symm
  have mep:=fun x y=>y9Q (p.ms.take k) x y p.ms.length k hkl.symm
  have hmo:=ok.mc _ (x3 [] hlt)
  have hml:=hmo.len
  have hm2:=hmo.m2
  unfold nilS at *
  simp (disch:=(try simp only[lZ]);omega) only[aZ,aM,mx0,mel]
  refine AWP.cut (Cut.virtB 2 0 k 1 rfl (by rw[← Y8];exact men _)) ?_
  simp (disch:=(try simp only[lZ]);omega) only[aZ,aM,mes]
  refine AWP.loopP z7f (fun j:Nat=>j≤(p.ms.getD k []).length) (fun j=>[(10,.v (.int .i64 j))]) (fun j=>[(2,⟨0,mxE (p.ms.take k) (.vs 4 j 1 j) p.ms.length⟩),(4,⟨j,rows true ((p.ms.getD k []).take j)⟩)]) (fun j=>(p.ms.getD k []).length-j) 0 (by omega) ?_ ?_
  ·rw[List.take_zero]
   exact Cut.fg (by simp (disch:=first|omega|simp (disch:=omega) only[aG,aM]) only[fZ,aM,y0,z9,or_true,true_or])
  rintro j hj
  by_cases hjt:j<(p.ms.getD k []).length
  ·have hro:=hmo.row _ (x3 [] hjt)
   simp (disch:=(try simp only[lZ]);omega) only[aZ,aM,mel,men]
   refine(y4Y (w:=w) ((p.ms.getD k []).getD j []) (by omega)).same (by simp (disch:=first|omega|simp (disch:=omega) only[aG,aM]) only[fZ,aM]) (by simp (disch:=first|omega|simp (disch:=omega) only[aG,aM]) only[fZ,aM]) (z7 ?_)
   have ht:List.take j (List.take j (p.ms.getD k []))++[List.getD (p.ms.getD k []) j []]=List.take (j+1) (p.ms.getD k []):=by rw[List.take_take,Nat.min_self,Z3 _ _ _ hjt]
   have hrl:(rows true ((p.ms.getD k []).take j)).length=j:=by rw[zH8,List.length_take];omega
   simp (disch:=(try simp only[lZ]);omega) only[aZ,aM,mel,men,mep,hrl,ht]
   refine⟨j+1,by omega,by omega,?_⟩
   try simp (disch:=(try simp only[lZ]);omega) only[aZ,aM]
   exact Cut.of' 5 rfl (by omega) (by simp (disch:=first|omega|simp (disch:=omega) only[aG,aM]) only[fZ,aM,fun H=>eq_true (y8w 5 H (p.ms.take k) (.vs 4 (j+1) 1 (j+1)) _ p.ms.length (Fz.refl rfl))]) (by simp (disch:=first|omega|simp (disch:=omega) only[aG,aM]) only[fZ,aM])
  ·have hje:j=(p.ms.getD k []).length:=by omega
   subst hje
   rw[List.take_length]
   have hmc:mxE (p.ms.take k) (mxF (p.ms.getD k [])) p.ms.length=mxC (p.ms.take (k+1)) p.ms.length:=by rw[xA4,← Z3 _ _ _ hlt]
   simp (disch:=(try simp only[lZ]);omega) only[aZ,aM]
   refine⟨k+1,by omega,by omega,?_⟩
   rw[← hmc]
   refine Cut.of' 3 rfl (by omega) ⟨rfl,by simp (disch:=first|omega|simp (disch:=omega) only[aG,aM]) only[fZ,aM],rfl,by simp (disch:=first|omega|simp (disch:=omega) only[aG,aM]) only[fZ,aM],rfl,y8w _ _ _ _ _ _ (y7V 3 _ 4 _ _ _ (by omega) rfl (by simp (disch:=(try simp only[lZ]);omega) only[aZ,aM])),trivial⟩ (by simp (disch:=first|omega|simp (disch:=omega) only[aG,aM]) only[fZ,aM])
 ·have hke:k=p.ms.length:=by omega
  subst hke
  rw[List.take_length]
  simp (disch:=(try simp only[lZ]);omega) only[aZ,aM]
  refine(y40 (w:=v) p.bs (by omega)).same (by simp (disch:=first|omega|simp (disch:=omega) only[aG,aM]) only[fZ,aM]) (by simp (disch:=first|omega|simp (disch:=omega) only[aG,aM]) only[fZ,aM]) (z7 ?_)
  simp (disch:=(try simp only[lZ]);omega) only[aZ,aM,yd1]
  have hmx:mxC p.ms p.ms.length=p.ms.map mxF:=by simp [mxC]
  rw[hmx]
  exact y8 (r:=plA true true p) (Fz.agg ⟨Fz.refl rfl,Fz.sl (l:=p.ms.map mxF) (r:=p.ms.map mxF) (els:=mcs true p.ms) (by omega) (by simp (disch:=(try simp only[lZ]);omega) only[aZ,aM]) (FzL.refl (z63 _ _)) (by rw[yr1,List.drop_zero,List.take_of_length_le (by simp)]) (yA0 _ _) (by simp),Fz.refl (by simp (disch:=first|omega|simp (disch:=omega) only[aG,aM]) only[fZ,aM]),Fz.refl rfl,trivial⟩) ⟨rfl,rfl⟩
end Go.Proofs.YtcppaddgclkekaaGreat
