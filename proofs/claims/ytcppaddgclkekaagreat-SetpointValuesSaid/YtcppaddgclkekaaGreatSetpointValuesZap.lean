/- Lemmas and walks that the proof of SetpointValues uses. No statement is claimed here. -/
import Derived.Test.YtcppaddgclkekaaGreatSetpointValuesZao
import Derived.Lib.Mul64
namespace Go.Proofs.YtcppaddgclkekaaGreat
open Go Go.Lft
set_option linter.unusedSimpArgs false
set_option linter.unusedVariables false
attribute [local congr] Q5 Q6 Q7 Q9 Z7 Z8 za0 Z9 Y0 Y2 za1 Q8
theorem y22:∀(n:Nat) (f:Nat→Nat),(∀i,i≤n→f i<n)→∃i j,i<j∧j≤n∧f i=f j
 | 0,f,h=>by have:=h 0 (by omega);omega
 | n+1,f,h=>by
  by_cases hx:∃i,i≤n∧f i=f (n+1)
  ·obtain⟨i,h1,h2⟩:=hx;exact⟨i,n+1,by omega,by omega,h2⟩
  ·have hne:∀i,i≤n→f i≠f (n+1):=fun i hi hc=>hx ⟨i,hi,hc⟩
   obtain⟨i,j,h1,h2,h3⟩:=y22 n (fun i=>if f i=n then f (n+1)else f i) fun i hi=>by
    have a1:=h i (by omega)
    have a2:=h (n+1) (by omega)
    have a3:=hne i hi
    split<;>omega
   have a1:=hne i (by omega)
   have a2:=hne j h2
   refine⟨i,j,h1,by omega,?_⟩
   split at h3<;>split at h3<;>omega
theorem y7a{q:List Int}{x y:Int}(h:ltO q x y):x≠y:=by rintro rfl;unfold ltO at h;omega
theorem yZ3{q T:List Int}{n:Nat}(hl:T.length=n)(hr:InR n T)(hs:T.Pairwise (ltO q)):∀i:Nat,i<n→∃l,l<n∧T.getD l 0=(i:Int):=fun i hi=>by
 apply Classical.byContradiction;intro hc
 have hne:∀l,l<n→T.getD l 0≠(i:Int):=fun l hl' he=>hc ⟨l,hl',he⟩
 have hin:∀l,l<n→0≤T.getD l 0∧T.getD l 0<n:=fun l hl'=>hr _ (ze9 (by omega))
 obtain⟨m,rfl⟩:∃m,n=m+1:=⟨n-1,by omega⟩
 obtain⟨a,b,h1,h2,h3⟩:=y22 m (fun l=>if(T.getD l 0).toNat<i then(T.getD l 0).toNat else(T.getD l 0).toNat-1) fun l hl'=>by
  have a1:=hin l (by omega)
  have a2:=hne l (by omega)
  split<;>omega
 have a1:=hin a (by omega)
 have a2:=hne a (by omega)
 have b1:=hin b (by omega)
 have b2:=hne b (by omega)
 have hab:T.getD a 0=T.getD b 0:=by
  split at h3<;>split at h3<;>omega
 have:=List.pairwise_iff_getElem.1 hs a b (by omega) (by omega) h1
 refine y7a this ?_
 simpa [List.getD_eq_getElem?_getD,show a<T.length by omega,show b<T.length by omega]using hab
theorem yd5{q T:List Int}(hs:T.Pairwise (ltO q)){i j:Nat}(hij:i<j)(hj:j<T.length):ltO q (T.getD i 0) (T.getD j 0):=by
 have:=List.pairwise_iff_getElem.1 hs i j (by omega) hj hij
 simpa [List.getD_eq_getElem?_getD,show i<T.length by omega,hj]using this
def incs(p:List Int)(T:List Int):List Int:=T.foldl (fun p x=>inc p x.toNat) p
theorem yv8(p T:List Int)(k:Nat)(h:k<T.length):incs p (T.take (k+1))=inc (incs p (T.take k)) (T.getD k 0).toNat:=by
 unfold incs
 rw[List.take_succ_eq_append_getElem h,List.foldl_append]
 simp [List.getD_eq_getElem?_getD,h]
theorem y42(p T:List Int):(incs p T).length=p.length:=by
 unfold incs
 induction T generalizing p with
 | nil=>rfl
 | cons x T ih=>rw[List.foldl_cons,ih,yC1]
theorem yv9{p0 q0 T:List Int}(hl:p0.length=q0.length)(hq:∀i,i<q0.length→0≤q0.getD i 0)(hT:T.length=q0.length)(hr:InR q0.length T)(hs:T.Pairwise (ltO q0)):
    ∀k,k≤q0.length→(rd p0 q0 k).1=incs p0 (T.take k)∧∀i,i<q0.length→(rd p0 q0 k).2.getD i 0=if ∃l,l<k∧T.getD l 0=(i:Int)then -1 else q0.getD i 0
  | 0,_=>⟨by simp [rd,incs],fun i _=>by rw[if_neg (by rintro⟨l,h,_⟩;omega)];rfl⟩
  | k+1,hk=>by
    obtain⟨h1,h2⟩:=yv9 hl hq hT hr hs k (by omega)
    have hll:=zB7 p0 q0 k
    have hin:=hr _ (ze9 (l:=T) (i:=k) (by omega))
    have hb:zc1 (rd p0 q0 k).2=(T.getD k 0).toNat:=by
      have hTk:(rd p0 q0 k).2.getD (T.getD k 0).toNat 0=q0.getD (T.getD k 0).toNat 0:=by
        rw[h2 _ (by omega),if_neg]
        rintro⟨l,l1,l2⟩
        exact y7a (yd5 hs l1 (by omega)) (by omega)
      have hge:∀i,i<q0.length→(rd p0 q0 k).2.getD i 0≤q0.getD (T.getD k 0).toNat 0∧(i<(T.getD k 0).toNat→(rd p0 q0 k).2.getD i 0<q0.getD (T.getD k 0).toNat 0):=fun i hi=>by
        rw[h2 i hi]
        have hnn:=hq (T.getD k 0).toNat (by omega)
        split
        · omega
        · rename_i hx
          obtain⟨l,l1,l2⟩:=yZ3 hT hr hs i hi
          have hkl:k≤l:=Nat.le_of_not_lt fun hc=>hx ⟨l,hc,l2⟩
          by_cases hkl2:k=l
          · subst hkl2
            rw[l2,Int.toNat_natCast]
            exact⟨Int.le_refl _,fun h=>by omega⟩
          · have:=yd5 hs (show k<l by omega) (by omega)
            rw[l2]at this
            unfold ltO kq at this
            rw[Int.toNat_natCast]at this
            omega
      refine yZ1 (by omega) (fun i hi=>?_) fun i hi=>?_
      · rw[hTk];exact(hge i (by omega)).1
      · rw[hTk];exact(hge i (by omega)).2 hi
    refine⟨?_,fun i hi=>?_⟩
    · simp only[rd]
      rw[hb,h1,yv8 _ _ _ (by omega)]
    · simp only[rd]
      rw[hb,X4]
      by_cases he:(T.getD k 0).toNat=i
      · rw[if_pos ⟨he,by omega⟩,if_pos ⟨k,by omega,by omega⟩]
      · rw[if_neg (fun h=>he h.1),h2 i hi]
        have:(∃l,l<k∧T.getD l 0=(i:Int))↔∃l,l<k+1∧T.getD l 0=(i:Int):=by
          constructor
          · rintro⟨l,a,b⟩;exact⟨l,by omega,b⟩
          · rintro⟨l,a,b⟩
            rcases Nat.lt_succ_iff_lt_or_eq.1 a with h|rfl
            · exact⟨l,h,b⟩
            · omega
        simp only[this]
theorem y23(a:Int)(n:Nat):a.fdiv (2 ^ n)=a / 2 ^ n:=Int.fdiv_eq_ediv_of_nonneg a (Int.le_of_lt (Int.pow_pos (by decide)))
theorem y24(a:Int)(k:IntKind)(b:Int)(h0:0≤b)(h1:b≤63):s2A (.bin .shr) (.v (.int .i64 a)) (.v (.int k b))=some (.v (.int .i64 (a / 2 ^ b.toNat))):=by
 have e:min b.toNat 64=b.toNat:=Nat.min_eq_left (by omega)
 have h:k2v (.bin .shr) (.int .i64 a) (.int k b)=some (.int .i64 (a / 2 ^ b.toNat)):=by
  rw[← y23,← e]
  simp only[k2v,binOp,Op.shift,z2E,show ¬b<0 by omega,if_false];rfl
 simp only[s2A,h,Option.map_some]
theorem y7b(a:Int)(k:IntKind)(b:Int)(h0:0≤b)(h1:b≤63):s2A (.bin .shr) (.v (.int .u64 a)) (.v (.int k b))=some (.v (.int .u64 (a / 2 ^ b.toNat))):=by
 have e:min b.toNat 64=b.toNat:=Nat.min_eq_left (by omega)
 have h:k2v (.bin .shr) (.int .u64 a) (.int k b)=some (.int .u64 (a / 2 ^ b.toNat)):=by
  rw[← y23,← e]
  simp only[k2v,binOp,Op.shift,z2E,show ¬b<0 by omega,if_false];rfl
 simp only[s2A,h,Option.map_some]
theorem xj7(a:Int)(k:IntKind)(b:Int)(h0:0≤b)(h1:b≤63):s2A (.bin .shl) (.v (.int .i64 a)) (.v (.int k b))=some (.v (.int .i64 (IntKind.wrap .i64 (a*2 ^ b.toNat)))):=by
 have e:min b.toNat 64=b.toNat:=Nat.min_eq_left (by omega)
 have h:k2v (.bin .shl) (.int .i64 a) (.int k b)=some (.int .i64 (IntKind.wrap .i64 (a*2 ^ b.toNat))):=by
  rw[← e]
  simp only[k2v,binOp,Op.shift,z2E,show ¬b<0 by omega,if_false];rfl
 simp only[s2A,h,Option.map_some]
theorem yS1(a:Nat)(k:Nat)(ha:a<2 ^ 64)(hk:2 ^ k-1<2 ^ 64):(BitVec.ofInt 64 (a:Int) &&& BitVec.ofInt 64 ((2 ^ k-1:Nat):Int)).toNat=a % 2 ^ k:=by
 rw[BitVec.toNat_and,BitVec.toNat_ofInt,BitVec.toNat_ofInt]
 have e1:((a:Int) % (2 ^ 64:Nat)).toNat=a:=by omega
 have e2:(((2 ^ k-1:Nat):Int) % (2 ^ 64:Nat)).toNat=2 ^ k-1:=by
  rw[Int.emod_eq_of_lt (by omega) (by omega)];rfl
 rw[e1,e2,Nat.and_two_pow_sub_one_eq_mod]
theorem y25(a m:Int)(k:Nat)(hk:k≤62)(hm:m=2 ^ k-1)(h0:0≤a)(h1:a≤9223372036854775807):s2A (.bin .and) (.v (.int .i64 a)) (.v (.int .i64 m))=some (.v (.int .i64 (a % 2 ^ k))):=by
 obtain⟨b,rfl⟩:∃b:Nat,a=b:=⟨a.toNat,by omega⟩
 have hp:(2:Nat) ^ k≤2 ^ 62:=Nat.pow_le_pow_right (by decide) hk
 have h1p:1≤2 ^ k:=Nat.one_le_two_pow
 have e62:(2:Nat) ^ 62=4611686018427387904:=by decide
 have e64:(2:Nat) ^ 64=18446744073709551616:=by decide
 have hm':m=((2 ^ k-1:Nat):Int):=by
  rw[hm,Int.natCast_sub h1p,Int.natCast_pow];rfl
 have hb:=yS1 b k (by omega) (by omega)
 have h:k2v (.bin .and) (.int .i64 b) (.int .i64 m)=some (.int .i64 (IntKind.wrap .i64 ((BitVec.ofInt 64 (b:Int) &&& BitVec.ofInt 64 m).toNat))):=by
  simp [k2v,binOp,Op.intBits,z2E];rfl
 have hlt:b % 2 ^ k<2 ^ k:=Nat.mod_lt _ (by omega)
 rw[hm',hb,yA7 (by omega) (by omega)]at h
 rw[hm']
 simp only[s2A,h,Option.map_some,Int.natCast_emod,Int.natCast_pow]
 rfl
theorem y26(a m:Int)(k:Nat)(hk:k≤62)(hm:m=2 ^ k-1)(h0:0≤a)(h1:a≤18446744073709551615):s2A (.bin .and) (.v (.int .u64 a)) (.v (.int .u64 m))=some (.v (.int .u64 (a % 2 ^ k))):=by
 obtain⟨b,rfl⟩:∃b:Nat,a=b:=⟨a.toNat,by omega⟩
 have hp:(2:Nat) ^ k≤2 ^ 62:=Nat.pow_le_pow_right (by decide) hk
 have h1p:1≤2 ^ k:=Nat.one_le_two_pow
 have e62:(2:Nat) ^ 62=4611686018427387904:=by decide
 have e64:(2:Nat) ^ 64=18446744073709551616:=by decide
 have hm':m=((2 ^ k-1:Nat):Int):=by
  rw[hm,Int.natCast_sub h1p,Int.natCast_pow];rfl
 have hb:=yS1 b k (by omega) (by omega)
 have h:k2v (.bin .and) (.int .u64 b) (.int .u64 m)=some (.int .u64 (IntKind.wrap .u64 ((BitVec.ofInt 64 (b:Int) &&& BitVec.ofInt 64 m).toNat))):=by
  simp [k2v,binOp,Op.intBits,z2E];rfl
 have hlt:b % 2 ^ k<2 ^ k:=Nat.mod_lt _ (by omega)
 rw[hm',hb,zi3 (by omega) (by omega)]at h
 rw[hm']
 simp only[s2A,h,Option.map_some,Int.natCast_emod,Int.natCast_pow]
 rfl
theorem zR0(l:List Int)(k:Nat)(h:k<l.length):l.take (k+1)=l.take k++[l.getD k 0]:=by
 rw[List.take_succ_eq_append_getElem h];simp [List.getD_eq_getElem?_getD,h]
def sumK(l:List Int)(k:Nat):Int:=(l.take k).sum
theorem z0y(l:List Int):sumK l 0=0:=by simp [sumK]
theorem z4o(l:List Int)(k:Nat)(h:k<l.length):sumK l (k+1)=sumK l k+l.getD k 0:=by
 unfold sumK;rw[zR0 l k h];simp
theorem z0Q(l:List Int):sumK l l.length=l.sum:=by simp [sumK]
theorem yS2{w:Bool}(x:Int):VR P false yQ4 [.fs w [.v (.int .i64 x)]] [] (isR (.v (.bool (decide (-1125899906842624≤x∧x≤1125899906842624))))):=by
 refine y2z (by simp) (.inr rfl) fun _ _=>?_
 have e:[A.v (.int .i64 x)]=ints [x]:=rfl
 rw[e]
 simp (disch:=(try simp only[lZ]);omega) only[aZ,yj2,yQ6]
 refine AWP.loopP yY9 (fun k:Nat=>k≤1∧(k=1→-1125899906842624≤x∧x≤1125899906842624)) (fun k=>[(1,.v (.bool false)),(2,.v (.int .i64 k))]) (fun _=>[]) (fun k=>1-k) 0 ⟨by omega,fun h=>by omega⟩ ?_ ?_
 ·simp only[List.length_cons,List.length_nil]
  exact Cut.of' 0 rfl (by omega) (by simp (disch:=first|omega|simp (disch:=omega) only[aG]) only[fZ]) (by simp (disch:=first|omega|simp (disch:=omega) only[aG]) only[fZ])
 rintro k ⟨hk,hx⟩
 by_cases hlt:k<1
 ·have hk0:k=0:=by omega
  subst hk0
  simp (disch:=(try simp only[lZ]);omega) only[aZ,List.length_cons,List.length_nil,List.getD_cons_zero]
  refine y1 (fun h3=>?_) (fun h3=>?_)
  ·simp (disch:=(try simp only[lZ]);omega) only[aZ,yQ7]
   exact y2 ⟨ys2 (by omega),rfl⟩
  ·simp (disch:=(try simp only[lZ]);omega) only[aZ]
   exact⟨1,⟨by omega,fun _=>by omega⟩,by omega,(by refine Cut.of' (0) ?_ (by omega) ?_ ?_<;>simp (disch:=first|omega|simp (disch:=omega) only[aG]) only[fZ,Int.zero_add])⟩
 ·have hk1:k=1:=by omega
  subst hk1
  simp (disch:=(try simp only[lZ]);omega) only[aZ,yQ7,List.length_cons,List.length_nil]
  exact y2 ⟨y73 (hx rfl),rfl⟩
theorem yZ4(x:Int):VR P false z4e [.v (.int .i64 x)] [] (isR (.tup [.v (.int .i64 (if -1125899906842624≤x∧x≤1125899906842624 then x else 0)),.v (.int .i64 (if -1125899906842624≤x∧x≤1125899906842624 then 0 else 2))])):=by
 refine ya1 (by simp) (.inr rfl) fun _ _=>?_
 simp (disch:=(try simp only[lZ]);omega) only[aZ,zQ5,z4g]
 refine(yS2 (w:=false) x).use ⟨zB9 _ 0 0 1 [x] rfl rfl,trivial⟩ rfl (z7 ?_)
 by_cases h:-1125899906842624≤x∧x≤1125899906842624
 ·rw[if_pos h,if_pos h]
  simp (disch:=(try simp only[lZ]);omega) only[aZ,decide_eq_true h,z4h]
  exact x1 (Fz.refl rfl) ⟨rfl,rfl⟩
 ·rw[if_neg h,if_neg h]
  simp (disch:=(try simp only[lZ]);omega) only[aZ,decide_eq_false h,z4h]
  exact x1 (Fz.refl rfl) ⟨rfl,rfl⟩
theorem y27{w:Bool}(l:List Int)(hl:l.length≤512)(hr:∀x∈l,0≤x∧x≤1125899906842624):VR P false yu4 [.fs w (ints l)] [] (isR (.tup [.v (.int .i64 (if l.sum≤1125899906842624 then l.sum else 0)),.v (.int .i64 (if l.sum≤1125899906842624 then 0 else 2))])):=by
 refine yY8 (by simp) (.inr rfl) fun _ _=>?_
 have e25:(2:Int) ^ (25:Int).toNat=33554432:=by decide
 have e25':(2:Int) ^ 25=33554432:=by decide
 simp (disch:=(try simp only[lZ]);omega) only[aZ,z8L,yu6]
 refine AWP.loopP (α:=Nat×Int×Int) yB9 (fun s=>s.1≤l.length∧s.2.1*33554432+s.2.2=sumK l s.1∧0≤s.2.1∧s.2.1≤s.1*33554432∧0≤s.2.2∧s.2.2≤s.1*33554432) (fun s=>[(1,.v (.int .i64 0)),(2,.v (.int .i64 0)),(3,.v (.int .i64 s.2.1)),(4,.v (.int .i64 s.2.2)),(5,.v (.int .i64 s.1))]) (fun _=>[]) (fun s=>l.length-s.1) (0,0,0) ⟨by omega,by simp [z0y],by simp,by simp,by simp,by simp⟩ ?_ ?_
 ·exact Cut.of' 0 rfl (by omega) (by simp (disch:=first|omega|simp (disch:=omega) only[aG]) only[fZ]) (by simp (disch:=first|omega|simp (disch:=omega) only[aG]) only[fZ])
 rintro⟨k,hi,lo⟩ ⟨h1,h2,h3,h4,h5,h6⟩
 simp only at h1 h2 h3 h4 h5 h6
 by_cases hlt:k<l.length
 ·have hx:=hr _ (ze9 hlt)
  have hs:=z4o l k hlt
  simp (disch:=(try simp only[lZ]);omega) only[aZ]
  refine(yS2 (w:=false) (l.getD k 0)).use ⟨zB9 _ 0 0 1 [l.getD k 0] rfl rfl,trivial⟩ rfl (z7 ?_)
  simp (disch:=(try simp only[lZ]);omega) only[aZ,decide_eq_true (show -1125899906842624≤l.getD k 0∧l.getD k 0≤1125899906842624 by omega),y24,e25,y25 (l.getD k 0) 33554431 25 (by omega) rfl (by omega) (by omega),e25']
  refine⟨(k+1,hi+l.getD k 0 / 33554432,lo+l.getD k 0 % 33554432),⟨by simp only;omega,?_,?_,?_,?_,?_⟩,by simp only;omega,?_⟩
  ·simp only;omega
  ·simp only;omega
  ·simp only;omega
  ·simp only;omega
  ·simp only;omega
  ·exact Cut.of' 0 rfl (by omega) (by simp (disch:=first|omega|simp (disch:=omega) only[aG]) only[fZ]) (by simp (disch:=first|omega|simp (disch:=omega) only[aG]) only[fZ])
 ·have hke:k=l.length:=by omega
  subst hke
  rw[z0Q]at h2
  simp (disch:=(try simp only[lZ]);omega) only[aZ,y24,e25]
  refine y1 (fun h7=>?_) (fun h7=>?_)
  ·rw[if_neg (by omega),if_neg (by omega)]
   simp (disch:=(try simp only[lZ]);omega) only[aZ,yu7]
   exact x1 (Fz.refl rfl) ⟨rfl,rfl⟩
  ·have e5:(hi+lo / 33554432)*33554432+lo % 33554432=l.sum:=by omega
   simp (disch:=(try simp only[lZ]);omega) only[aZ,xj7,e25,y25 lo 33554431 25 (by omega) rfl (by omega) (by omega),e25',e5]
   refine(yZ4 l.sum).same (by simp (disch:=first|omega|simp (disch:=omega) only[aG]) only[fZ]) rfl (z7 ?_)
   have e6:(-1125899906842624≤l.sum∧l.sum≤1125899906842624)=(l.sum≤1125899906842624):=propext (by omega)
   simp only[e6]
   simp (disch:=(try simp only[lZ]);omega) only[aZ,yu7]
   exact x1 (Fz.refl rfl) ⟨rfl,rfl⟩
def badW(w:Int):Prop:=w<0∨1125899906842624<w
instance:DecidablePred badW:=fun w=>by unfold badW;infer_instance
def zj6(ws:List Int):Int×Int :=
 if ws.length<1∨512<ws.length then(0,1)else if ∃i,i<ws.length∧badW (ws.getD i 0)then(0,1)else if ws.sum≤1125899906842624 then(ws.sum,0)else(0,2)
theorem yw0{ws:List Int}(h:ws.length<1∨512<ws.length):zj6 ws=(0,1):=by unfold zj6;rw[if_pos h]
theorem yw1{ws:List Int}(h:¬(ws.length<1∨512<ws.length))(h2:∃i,i<ws.length∧badW (ws.getD i 0)):zj6 ws=(0,1):=by unfold zj6;rw[if_neg h,if_pos h2]
theorem z8S{ws:List Int}(h:¬(ws.length<1∨512<ws.length))(h2:¬∃i,i<ws.length∧badW (ws.getD i 0)):zj6 ws=if ws.sum≤1125899906842624 then(ws.sum,0)else(0,2):=by unfold zj6;rw[if_neg h,if_neg h2]
def zu6(x:Int×Int):A:=.tup [.v (.int .i64 x.1),.v (.int .i64 x.2)]
theorem yZ5{w:Bool}(ws:List Int):VR P false z0n [.fs w (ints ws)] [] (isR (zu6 (zj6 ws))):=by
 refine z60 (by simp) (.inr rfl) fun _ _=>?_
 unfold zu6
 simp (disch:=(try simp only[lZ]);omega) only[aZ,zz5,z0p]
 refine y1 (fun h1=>?_) (fun h1=>?_)
 ·rw[yw0 (by omega)]
  simp (disch:=(try simp only[lZ]);omega) only[aZ,zl4]
  exact x1 (Fz.refl rfl) ⟨rfl,rfl⟩
 have h1:¬(ws.length<1∨512<ws.length):=by omega
 simp (disch:=(try simp only[lZ]);omega) only[aZ]
 refine AWP.loopP z5i (fun k:Nat=>k≤ws.length∧∀i,i<k→¬badW (ws.getD i 0)) (fun k=>[(1,.v (.int .i64 0)),(2,.v (.int .i64 0)),(3,.v (.int .i64 k))]) (fun _=>[]) (fun k=>ws.length-k) 0 ⟨by omega,fun i hi=>by omega⟩ (by refine Cut.of' (0) ?_ (by omega) ?_ ?_<;>simp (disch:=first|omega|simp (disch:=omega) only[aG]) only[fZ]) ?_
 rintro k ⟨hk,hb⟩
 by_cases hlt:k<ws.length
 ·simp (disch:=(try simp only[lZ]);omega) only[aZ]
  refine y1 (fun h3=>?_) (fun h3=>?_)
  ·rw[yw1 h1 ⟨k,hlt,h3⟩]
   simp (disch:=(try simp only[lZ]);omega) only[aZ,zl4]
   exact x1 (Fz.refl rfl) ⟨rfl,rfl⟩
  ·simp (disch:=(try simp only[lZ]);omega) only[aZ]
   refine⟨k+1,⟨by omega,fun i hi=>?_⟩,by omega,(by refine Cut.of' (0) ?_ (by omega) ?_ ?_<;>simp (disch:=first|omega|simp (disch:=omega) only[aG]) only[fZ])⟩
   rcases Nat.lt_succ_iff_lt_or_eq.1 hi with h|rfl
   ·exact hb i h
   ·exact h3
 ·have hno : ¬ ∃ i, i < ws.length ∧ badW (ws.getD i 0) := by
   rintro⟨i,h2,h3⟩;exact hb i (by omega) h3
  have hall:∀x∈ws,0≤x∧x≤1125899906842624:=fun x hx=>by
   obtain⟨i,h2,rfl⟩:=zq1 hx
   have:=hb i (by omega)
   unfold badW at this;omega
  rw[z8S h1 hno]
  simp (disch:=(try simp only[lZ]);omega) only[aZ]
  refine(y27 (w:=w) ws (by omega) hall).same (by simp (disch:=first|omega|simp (disch:=omega) only[aG]) only[fZ]) rfl (z7 ?_)
  by_cases h4:ws.sum≤1125899906842624
  ·simp only[if_pos h4]
   simp (disch:=(try simp only[lZ]);omega) only[aZ,zl4]
   exact x1 (Fz.refl rfl) ⟨rfl,rfl⟩
  ·simp only[if_neg h4]
   simp (disch:=(try simp only[lZ]);omega) only[aZ,zl4]
   exact x1 (Fz.refl rfl) ⟨rfl,rfl⟩
theorem y79{ws:List Int}(h:∀i,i<ws.length→¬badW (ws.getD i 0)):∀k,k≤ws.length→0≤sumK ws k∧sumK ws k≤sumK ws ws.length:=fun k hk=>by
 have hall:∀x∈ws,0≤x:=fun x hx=>by
  obtain⟨i,h2,rfl⟩:=zq1 hx
  have:=h i (by omega)
  unfold badW at this;omega
 have h1:=z0w (ws.take k) fun x hx=>hall x (List.mem_of_mem_take hx)
 have h2:=z0w (ws.drop k) fun x hx=>hall x (List.mem_of_mem_drop hx)
 have h3:ws.sum=(ws.take k).sum+(ws.drop k).sum:=by rw[← List.sum_append,List.take_append_drop]
 rw[z0Q]
 unfold sumK
 omega
theorem yC5{w:Bool}(ws:List Int):VR P false z8E [.fs w (ints ws)] [] (isR (zu6 (zj6 ws))):=by
 refine yu1 (by simp) (.inr rfl) fun _ _=>?_
 unfold zu6
 simp (disch:=(try simp only[lZ]);omega) only[aZ,z2s,z8G]
 refine y1 (fun h1=>?_) (fun h1=>?_)
 ·rw[yw0 (by omega)]
  simp (disch:=(try simp only[lZ]);omega) only[aZ,zQ2]
  exact x1 (Fz.refl rfl) ⟨rfl,rfl⟩
 have h1:¬(ws.length<1∨512<ws.length):=by omega
 simp (disch:=(try simp only[lZ]);omega) only[aZ]
 refine AWP.loopP yi8 (fun k:Nat=>k≤ws.length∧∀i,i<k→¬badW (ws.getD i 0)) (fun k=>[(1,.v (.int .i64 0)),(2,.v (.int .i64 0)),(3,.v (.int .i64 k))]) (fun _=>[]) (fun k=>ws.length-k) 0 ⟨by omega,fun i hi=>by omega⟩ (by refine Cut.of' (0) ?_ (by omega) ?_ ?_<;>simp (disch:=first|omega|simp (disch:=omega) only[aG]) only[fZ]) ?_
 rintro k ⟨hk,hb⟩
 by_cases hlt:k<ws.length
 ·simp (disch:=(try simp only[lZ]);omega) only[aZ]
  refine y1 (fun h3=>?_) (fun h3=>?_)
  ·rw[yw1 h1 ⟨k,hlt,h3⟩]
   simp (disch:=(try simp only[lZ]);omega) only[aZ,zQ2]
   exact x1 (Fz.refl rfl) ⟨rfl,rfl⟩
  ·simp (disch:=(try simp only[lZ]);omega) only[aZ]
   refine⟨k+1,⟨by omega,fun i hi=>?_⟩,by omega,(by refine Cut.of' (0) ?_ (by omega) ?_ ?_<;>simp (disch:=first|omega|simp (disch:=omega) only[aG]) only[fZ])⟩
   rcases Nat.lt_succ_iff_lt_or_eq.1 hi with h|rfl
   ·exact hb i h
   ·exact h3
 have hb:∀i,i<ws.length→¬badW (ws.getD i 0):=fun i hi=>hb i (by omega)
 have hno:¬∃i,i<ws.length∧badW (ws.getD i 0):=by
  rintro⟨i,h2,h3⟩;exact hb i h2 h3
 have hle:=y79 hb
 rw[z8S h1 hno]
 simp (disch:=(try simp only[lZ]);omega) only[aZ]
 refine AWP.loopP yi9 (fun k:Nat=>k≤ws.length∧sumK ws k≤1125899906842624) (fun k=>[(1,.v (.int .i64 0)),(2,.v (.int .i64 0)),(4,.v (.int .i64 (sumK ws k))),(5,.v (.int .i64 k))]) (fun _=>[]) (fun k=>ws.length-k) 0 ⟨by omega,by rw[z0y];omega⟩ (by refine Cut.of' (0) ?_ (by omega) ?_ ?_<;>simp (disch:=first|omega|simp (disch:=omega) only[aG]) only[fZ,z0y]) ?_
 rintro k ⟨hk,hs⟩
 by_cases hlt:k<ws.length
 ·have h5:=hle k (by omega)
  have h6:=hle (k+1) (by omega)
  have h7:=z4o ws k hlt
  have h8:=hb k hlt
  unfold badW at h8
  simp (disch:=(try simp only[lZ]);omega) only[aZ,← h7]
  refine y1 (fun h3=>?_) (fun h3=>?_)
  ·rw[z0Q]at h6
   rw[if_neg (by omega)]
   simp (disch:=(try simp only[lZ]);omega) only[aZ,zQ2]
   exact x1 (Fz.refl rfl) ⟨rfl,rfl⟩
  ·simp (disch:=(try simp only[lZ]);omega) only[aZ]
   exact⟨k+1,⟨by omega,by omega⟩,by omega,(by refine Cut.of' (0) ?_ (by omega) ?_ ?_<;>simp (disch:=first|omega|simp (disch:=omega) only[aG]) only[fZ])⟩
 ·have hke:k=ws.length:=by omega
  subst hke
  rw[z0Q]at hs ⊢
  rw[if_pos hs]
  simp (disch:=(try simp only[lZ]);omega) only[aZ,zQ2]
  exact x1 (Fz.refl rfl) ⟨rfl,rfl⟩
theorem y43(a:Int)(ha:0≤a)(k:Nat):a / 2 ^ k=2*(a / 2 ^ (k+1))+a / 2 ^ k % 2:=by
 have h1:a / 2 ^ (k+1)=a / 2 ^ k / 2:=by
  rw[Int.pow_succ,Int.ediv_ediv_of_nonneg (Int.le_of_lt (Int.pow_pos (by decide)))]
 rw[h1];omega
theorem yw2(a:Int)(h0:0≤a)(h1:a≤70368744177664):a / 2 ^ 51=0:=by
 have:(2:Int) ^ 51=2251799813685248:=by decide
 rw[this];omega
theorem yw3(a:Int)(h0:0≤a)(h1:a≤70368744177664)(k:Nat):0≤a / 2 ^ k∧a / 2 ^ k≤70368744177664:=by
 have hp:(0:Int)<2 ^ k:=Int.pow_pos (by decide)
 refine⟨Int.ediv_nonneg h0 (Int.le_of_lt hp),?_⟩
 have:=Int.ediv_le_self (2 ^ k) h0
 omega
theorem y28(a b c:Int)(ha:0≤a∧a≤70368744177664)(hb:0≤b∧b≤c)(hc:0<c∧c≤1125899906842624):VR P false z1V [.v (.int .i64 a),.v (.int .i64 b),.v (.int .i64 c)] [] (isR (zu6 (a*b / c,a*b % c))):=by
 refine z8H (by simp) (.inr rfl) fun _ _=>?_
 simp (disch:=(try simp only[lZ]);omega) only[aZ,zH9,z1X]
 refine AWP.loopP (α:=Nat×Int×Int) z6Y (fun s=>s.1≤51∧c*s.2.1+s.2.2=a / 2 ^ s.1*b∧0≤s.2.2∧s.2.2<c∧0≤s.2.1∧s.2.1≤a / 2 ^ s.1) (fun s=>[(5,.v (.int .i64 s.2.1)),(6,.v (.int .i64 s.2.2)),(7,.v (.int .i64 (s.1-1)))]) (fun _=>[]) (fun s=>s.1) (51,0,0) ⟨Nat.le_refl _,?_,by simp,by simp only;omega,by simp,?_⟩ ?_ ?_
 ·simp only;rw[yw2 a ha.1 ha.2];simp
 ·simp only;rw[yw2 a ha.1 ha.2];simp
 ·have e51:((51:Nat):Int)-1=50:=by omega
  simp only[e51]
  exact Cut.of' 0 rfl (by omega) (by simp (disch:=first|omega|simp (disch:=omega) only[aG]) only[fZ]) (by simp (disch:=first|omega|simp (disch:=omega) only[aG]) only[fZ])
 rintro⟨m,q,r⟩ ⟨h1,h2,h3,h4,h5,h6⟩
 simp only at h1 h2 h3 h4 h5 h6
 by_cases hm:0<m
 ·obtain⟨k,rfl⟩:∃k,m=k+1:=⟨m-1,by omega⟩
  have e1:((k+1:Nat):Int)-1=(k:Nat):=by omega
  have hh:=y43 a ha.1 k
  have hd:=yw3 a ha.1 ha.2 (k+1)
  have hd2:=yw3 a ha.1 ha.2 k
  have e2:(2:Int) ^ 1=2:=by decide
  generalize hA:a / 2 ^ (k+1)=A1 at *
  generalize hB:a / 2 ^ k=A0 at *
  have hbit:A0 % 2=0∨A0 % 2=1:=by omega
  have hA0:A0*b=2*(A1*b)+A0 % 2*b:=by
   have:A0*b=(2*A1+A0 % 2)*b:=by rw[← hh]
   rw[this,Int.add_mul,Int.mul_assoc]
  simp (disch:=(try simp only[lZ]);omega) only[aZ,e1,zi3,y24,Int.toNat_natCast,hB,y25 A0 1 1 (by omega) rfl (by omega) (by omega),e2]
  have hAb:A0*b≤A0*c:=Int.mul_le_mul_of_nonneg_left hb.2 hd2.1
  obtain⟨R,hR⟩:∃R,R=2*r+A0 % 2*b:=⟨_,rfl⟩
  have hRb:0≤R∧R<3*c∧c*(2*q)+R=A0*b:=by
   have:c*(2*q)=2*(c*q):=by rw[← Int.mul_assoc,Int.mul_comm c 2,Int.mul_assoc]
   rcases hbit with h|h<;>rw[h]at hR hA0<;>omega
  refine yd2 (fun e'=>e'=[.v (.int .i64 a),.v (.int .i64 b),.v (.int .i64 c),.v (.int .i64 0),.v (.int .i64 0),.v (.int .i64 (2*q)),.v (.int .i64 R),.v (.int .i64 (k:Nat))]) ?_ ?_ ?_
  ·intro ht
   have h1:=of_decide_eq_true ht
   rw[h1]at hR
   have:2*r+b=R:=by omega
   simp (disch:=(try simp only[lZ]);omega) only[aZ,this]
   exact⟨trivial,trivial,by first|rfl|trivial⟩
  ·intro ht
   have h1:=of_decide_eq_false ht
   have h0:A0 % 2=0:=by omega
   rw[h0]at hR
   have:2*r=R:=by omega
   simp (disch:=(try simp only[lZ]);omega) only[aZ,this]
   exact⟨trivial,trivial,by first|rfl|trivial⟩
  rintro e' rfl
  clear hbit hh hA0
  simp (disch:=(try simp only[lZ]);omega) only[aZ]
  refine AWP.loopP (α:=Int×Int) z6Z (fun s=>c*s.1+s.2=A0*b∧0≤s.2∧s.2<3*c∧0≤s.1) (fun s=>[(5,.v (.int .i64 s.1)),(6,.v (.int .i64 s.2))]) (fun _=>[]) (fun s=>s.2.toNat) (2*q,R) ⟨hRb.2.2,hRb.1,hRb.2.1,by simp only;omega⟩ ?_ ?_
  ·exact Cut.of' 0 rfl (by omega) (by simp (disch:=first|omega|simp (disch:=omega) only[aG]) only[fZ]) (by simp (disch:=first|omega|simp (disch:=omega) only[aG]) only[fZ])
  rintro⟨u,v⟩ ⟨g1,g2,g3,g4⟩
  simp only at g1 g2 g3 g4
  have hu:u≤A0:=by
   apply Int.le_of_mul_le_mul_left (a:=c) _ hc.1
   rw[Int.mul_comm c A0];omega
  by_cases hv:c≤v
  ·simp (disch:=(try simp only[lZ]);omega) only[aZ]
   refine⟨(u+1,v-c),⟨?_,by simp only;omega,by simp only;omega,by simp only;omega⟩,by simp only;omega,?_⟩
   ·simp only;rw[Int.mul_add];omega
   ·exact Cut.of' 0 rfl (by omega) (by simp (disch:=first|omega|simp (disch:=omega) only[aG]) only[fZ]) (by simp (disch:=first|omega|simp (disch:=omega) only[aG]) only[fZ])
  ·simp (disch:=(try simp only[lZ]);omega) only[aZ]
   refine⟨(k,u,v),⟨by simp only;omega,by simp only[hB];exact g1,g2,by simp only;omega,g4,by simp only[hB];exact hu⟩,by simp only;omega,?_⟩
   exact Cut.of' 0 rfl (by omega) (by simp (disch:=first|omega|simp (disch:=omega) only[aG]) only[fZ]) (by simp (disch:=first|omega|simp (disch:=omega) only[aG]) only[fZ])
 ·have hm0:m=0:=by omega
  subst hm0
  rw[Int.pow_zero,Int.ediv_one]at h2
  have hq:a*b / c=q:=by
   rw[← h2,Int.add_comm,Int.add_mul_ediv_left _ _ (by omega),Int.ediv_eq_zero_of_lt h3 h4,Int.zero_add]
  have hr:a*b % c=r:=by
   rw[← h2,Int.add_comm,Int.add_mul_emod_self_left,Int.emod_eq_of_lt h3 h4]
  rw[hq,hr]
  unfold zu6
  simp (disch:=(try simp only[lZ]);omega) only[aZ,z99]
  exact x1 (Fz.refl rfl) ⟨rfl,rfl⟩
theorem y44(x y:Int)(hx:0≤x∧x≤18446744073709551615)(hy:0≤y∧y≤18446744073709551615):VR P false z6j [.v (.int .u64 x),.v (.int .u64 y)] [] (isR (.tup [.v (.int .u64 (x*y / 18446744073709551616)),.v (.int .u64 (IntKind.wrap .u64 (x*y)))])):=by
 refine yj0 (by simp) (.inr rfl) fun _ _=>?_
 have e32:(2:Int) ^ (32:Int).toNat=4294967296:=by decide
 have e32':(2:Int) ^ 32=4294967296:=by decide
 obtain⟨X,rfl⟩:∃X:Nat,x=X:=⟨x.toNat,by omega⟩
 obtain⟨Y,rfl⟩:∃Y:Nat,y=Y:=⟨y.toNat,by omega⟩
 obtain⟨m1,m2,m3,m4⟩:=Go.Lib.mul64_hi X Y (by omega) (by omega)
 have n4:(X:Int) / 4294967296*((Y:Int) / 4294967296)+((X:Int) / 4294967296*((Y:Int) % 4294967296)+(X:Int) % 4294967296*((Y:Int) % 4294967296) / 4294967296) / 4294967296+(((X:Int) / 4294967296*((Y:Int) % 4294967296)+(X:Int) % 4294967296*((Y:Int) % 4294967296) / 4294967296) % 4294967296+(X:Int) % 4294967296*((Y:Int) / 4294967296)) / 4294967296=(X:Int)*Y / 18446744073709551616:=by
  have:=congrArg (fun n:Nat=>(n:Int)) m4
  simpa only[Int.natCast_add,Int.natCast_mul,Int.natCast_ediv,Int.natCast_emod,Int.cast_ofNat_Int]using this
 have n1:(X:Int) % 4294967296*((Y:Int) % 4294967296)<18446744073709551616:=by
  have:=Int.ofNat_lt.2 m1
  simpa only[Int.natCast_add,Int.natCast_mul,Int.natCast_ediv,Int.natCast_emod,Int.cast_ofNat_Int]using this
 have n2:(X:Int) / 4294967296*((Y:Int) % 4294967296)+(X:Int) % 4294967296*((Y:Int) % 4294967296) / 4294967296<18446744073709551616:=by
  have:=Int.ofNat_lt.2 m2
  simpa only[Int.natCast_add,Int.natCast_mul,Int.natCast_ediv,Int.natCast_emod,Int.cast_ofNat_Int]using this
 have n3:((X:Int) / 4294967296*((Y:Int) % 4294967296)+(X:Int) % 4294967296*((Y:Int) % 4294967296) / 4294967296) % 4294967296+(X:Int) % 4294967296*((Y:Int) / 4294967296)<18446744073709551616:=by
  have:=Int.ofNat_lt.2 m3
  simpa only[Int.natCast_add,Int.natCast_mul,Int.natCast_ediv,Int.natCast_emod,Int.cast_ofNat_Int]using this
 have p1:0≤(X:Int) % 4294967296*((Y:Int) % 4294967296):=Int.mul_nonneg (by omega) (by omega)
 have p2:0≤(X:Int) / 4294967296*((Y:Int) % 4294967296):=Int.mul_nonneg (by omega) (by omega)
 have p3:0≤(X:Int) % 4294967296*((Y:Int) / 4294967296):=Int.mul_nonneg (by omega) (by omega)
 have p4:0≤(X:Int) / 4294967296*((Y:Int) / 4294967296):=Int.mul_nonneg (by omega) (by omega)
 have p5:(X:Int)*Y / 18446744073709551616≤18446744073709551615:=by
  have:(X:Int)*Y≤18446744073709551615*18446744073709551615:=Int.mul_le_mul (by omega) (by omega) (by omega) (by omega)
  omega
 have p6:0≤(X:Int)*Y:=Int.mul_nonneg (by omega) (by omega)
 simp (disch:=(try simp only[lZ]);omega) only[aZ,z0q,z6l,y26 (X:Int) 4294967295 32 (by omega) rfl (by omega) (by omega),y26 (Y:Int) 4294967295 32 (by omega) rfl (by omega) (by omega),y7b,e32,e32']
 generalize hA:(X:Int) / 4294967296*((Y:Int) / 4294967296)=A at *
 generalize hB:(X:Int) / 4294967296*((Y:Int) % 4294967296)=B at *
 generalize hC:(X:Int) % 4294967296*((Y:Int) / 4294967296)=C at *
 generalize hD:(X:Int) % 4294967296*((Y:Int) % 4294967296)=D at *
 simp (disch:=(try simp only[lZ]);omega) only[aZ,zi3,y7b,e32,e32',y26 (B+D / 4294967296) 4294967295 32 (by omega) rfl (by omega) (by omega),hA,hC,n4,yu2]
 exact x1 (Fz.refl rfl) ⟨rfl,rfl⟩
theorem yC6(lo y:Int)(hlo:0≤lo∧lo≤18446744073709551615)(hy:0<y∧y≤18446744073709551615):VR P false z0r [.v (.int .u64 0),.v (.int .u64 lo),.v (.int .u64 y)] [] (isR (.tup [.v (.int .u64 (lo / y)),.v (.int .u64 (lo % y))])):=by
 refine yj1 (by simp) (.inr rfl) fun _ _=>?_
 have h1:lo.tdiv y=lo / y:=Int.tdiv_eq_ediv_of_nonneg hlo.1
 have h2:lo.tmod y=lo % y:=Int.tmod_eq_emod_of_nonneg hlo.1
 have h3:0≤lo / y:=Int.ediv_nonneg hlo.1 (by omega)
 have h4:lo / y≤lo:=Int.ediv_le_self y hlo.1
 simp (disch:=(try simp only[lZ]);omega) only[aZ,z0s,z6n,h1,h2,zi3,yu3]
 exact x1 (Fz.refl rfl) ⟨rfl,rfl⟩
def zL7(t:Int)(ws:List Int):Int :=
 if t<0∨70368744177664<t then 1 else if(zj6 ws).2≠0 then(zj6 ws).2 else if(zj6 ws).1=0∧0<t then 10 else 0
def zL8(t:Int)(ws:List Int):List Int×Int:=if zL7 t ws≠0 then([],zL7 t ws)else(zv7 t ws,0)
structure SplitOk(t:Int)(ws:List Int):Prop where
 t0:0≤t∧t≤70368744177664
 len:1≤ws.length∧ws.length≤512
 w:∀x∈ws,0≤x∧x≤1125899906842624
 sum:ws.sum≤1125899906842624
 pos:ws.sum=0→t=0
 we:zj6 ws=(ws.sum,0)
theorem zA0{t:Int}{ws:List Int}(h:zL7 t ws=0):SplitOk t ws:=by
 unfold zL7 at h
 split at h
 ·cases h
 rename_i h1
 split at h
 ·contradiction
 rename_i h2
 split at h
 ·cases h
 rename_i h3
 have h2':=Classical.not_not.1 h2
 have hw:zj6 ws=if ws.length<1∨512<ws.length then(0,1)else if ∃i,i<ws.length∧badW (ws.getD i 0)then(0,1)else if ws.sum≤1125899906842624 then(ws.sum,0)else(0,2):=rfl
 by_cases a1:ws.length<1∨512<ws.length
 ·rw[if_pos a1]at hw;rw[hw]at h2';cases h2'
 rw[if_neg a1]at hw
 by_cases a2:∃i,i<ws.length∧badW (ws.getD i 0)
 ·rw[if_pos a2]at hw;rw[hw]at h2';cases h2'
 rw[if_neg a2]at hw
 by_cases a3:ws.sum≤1125899906842624
 ·rw[if_pos a3]at hw
  rw[hw]at h3
  refine⟨by omega,by omega,fun x hx=>?_,a3,fun hz=>?_,hw⟩
  ·obtain⟨i,h4,rfl⟩:=zq1 hx
   apply Classical.byContradiction;intro hc
   exact a2 ⟨i,h4,by unfold badW;omega⟩
  ·simp only at h3;omega
 ·rw[if_neg a3]at hw;rw[hw]at h2';cases h2'
theorem SplitOk.sp{t:Int}{ws:List Int}(h:SplitOk t ws):SpOk t ws:=⟨h.t0.1,fun w hw=>(h.w w hw).1,fun hc=>by have:=h.len;rw[hc]at this;simp at this,h.pos⟩
theorem w_le{t:Int}{ws:List Int}(h:SplitOk t ws){i:Nat}(hi:i<ws.length):0≤ws.getD i 0∧ws.getD i 0≤ws.sum:=by
 have h1:=h.w _ (ze9 hi)
 refine⟨h1.1,?_⟩
 have:=z7b ((List.replicate ws.length 0).set i (ws.getD i 0)) ws (by simp) fun l hl=>by
  simp only[List.length_set,List.length_replicate]at hl
  rw[X4]
  split
  ·rename_i hc;rw[hc.1];exact Int.le_refl _
  ·have:=(h.w _ (ze9 hl)).1
   simpa [List.getD_eq_getElem?_getD,hl]using this
 rw[z0P _ _ _ (by simpa using hi)]at this
 have e1:(List.replicate ws.length (0:Int)).sum=0:=by
  induction ws.length with
  | zero=>rfl
  | succ n ih=>rw[List.replicate_succ,List.sum_cons,ih];rfl
 have e2:(List.replicate ws.length (0:Int)).getD i 0=0:=by simp [List.getD_eq_getElem?_getD,hi]
 omega
theorem q_le{t:Int}{ws:List Int}(h:SplitOk t ws){i:Nat}(hi:i<ws.length):0≤t*ws.getD i 0 / ws.sum∧t*ws.getD i 0 / ws.sum≤t:=by
 have h1:=w_le h hi
 have h0:=h.t0.1
 refine⟨Int.ediv_nonneg (Int.mul_nonneg h0 h1.1) (by omega),?_⟩
 by_cases hz:ws.sum=0
 ·rw[hz,Int.ediv_zero];exact h0
 ·have:t*ws.getD i 0≤t*ws.sum:=Int.mul_le_mul_of_nonneg_left h1.2 h0
  have:=Int.ediv_le_ediv (show 0<ws.sum by omega) this
  rwa [Int.mul_ediv_cancel _ hz]at this
theorem r_le{t:Int}{ws:List Int}(h:SplitOk t ws){i:Nat}(hi:i<ws.length):0≤t*ws.getD i 0 % ws.sum∧t*ws.getD i 0 % ws.sum≤1125899906842624:=by
 have h1:=w_le h hi
 by_cases hz:ws.sum=0
 ·rw[hz,h.pos hz];simp
 ·have:=Int.emod_lt_of_pos (t*ws.getD i 0) (show 0<ws.sum by omega)
  have:=Int.emod_nonneg (t*ws.getD i 0) hz
  have:=h.sum
  omega
def zL9(t:Int)(ws:List Int)(k:Nat):List Int:=(quos t ws).take k++List.replicate (ws.length-k) 0
def z1Y(t:Int)(ws:List Int)(k:Nat):List Int:=(rems t ws).take k++List.replicate (ws.length-k) 0
def z1Z(n k:Nat):List Int:=rng 0 k++List.replicate (n-k) 0
theorem z8T(l:List Int)(n k:Nat)(y:Int)(hl:l.length=n)(hk:k<n)(hy:y=l.getD k 0):(l.take k++List.replicate (n-k) 0).set k y=l.take (k+1)++List.replicate (n-(k+1)) 0:=by
 subst hy
 have h1:(l.take k).length=k:=by simp;omega
 rw[List.set_append_right _ _ (by omega),h1,Nat.sub_self,show n-k=(n-(k+1))+1 by omega,List.replicate_succ,List.set_cons_zero,zR0 l k (by omega)]
 simp
theorem z4p(l:List Int)(n k:Nat)(hl:l.length=n)(hk:k≤n):(l.take k++List.replicate (n-k) (0:Int)).length=n:=by simp;omega
theorem yw4(l:List Int)(n k:Nat)(hl:l.length=n)(hk:k<n):(l.take k++List.replicate (n-k) (0:Int)).getD k 0=0:=by
 have h1:(l.take k).length=k:=by simp;omega
 rw[zu5,h1,if_neg (by omega),Nat.sub_self]
 simp [List.getD_eq_getElem?_getD,show 0<n-k by omega]
theorem yk3{t:Int}{ws:List Int}(h:SplitOk t ws):∀k,k≤ws.length→0≤sumK (quos t ws) k∧sumK (quos t ws) k≤t:=fun k hk=>by
 have hl:=zl7 t ws
 have hnn:∀x∈quos t ws,0≤x:=fun x hx=>by
  obtain⟨i,h2,rfl⟩:=zq1 hx
  exact y2S h.sp i (by omega)
 have h1:=z0w ((quos t ws).take k) fun x hx=>hnn x (List.mem_of_mem_take hx)
 have h2:=z0w ((quos t ws).drop k) fun x hx=>hnn x (List.mem_of_mem_drop hx)
 have h3:(quos t ws).sum=((quos t ws).take k).sum+((quos t ws).drop k).sum:=by rw[← List.sum_append,List.take_append_drop]
 have h4:=(yj5 h.sp).1
 unfold sumK;omega
theorem z8U(n k:Nat)(hk:k≤n):z1Z n k=(rng 0 n).take k++List.replicate (n-k) 0:=by
 unfold z1Z
 congr 1
 have:rng 0 n=rng 0 k++rng (0+k) (n-k):=by rw[← yv7];congr 1;omega
 rw[this,List.take_append_of_le_length (by rw[zp1];exact Nat.le_refl _),List.take_of_length_le (by rw[zp1];exact Nat.le_refl _)]
theorem yS3{t:Int}{ws:List Int}(h:t<0∨70368744177664<t):zL8 t ws=([],1):=by unfold zL8 zL7;rw[if_pos h];rfl
theorem y45{t:Int}{ws:List Int}(h:¬(t<0∨70368744177664<t))(h2:(zj6 ws).2≠0):zL8 t ws=([],(zj6 ws).2):=by unfold zL8 zL7;rw[if_neg h,if_pos h2,if_pos h2]
theorem z7c{t:Int}{ws:List Int}(h:¬(t<0∨70368744177664<t))(h2:¬(zj6 ws).2≠0)(h3:(zj6 ws).1=0∧0<t):zL8 t ws=([],10):=by unfold zL8 zL7;rw[if_neg h,if_neg h2,if_pos h3];rfl
theorem xj8{t:Int}{ws:List Int}(h:¬(t<0∨70368744177664<t))(h2:¬(zj6 ws).2≠0)(h3:¬((zj6 ws).1=0∧0<t)):zL7 t ws=0∧zL8 t ws=(zv7 t ws,0):=by
 have:zL7 t ws=0:=by unfold zL7;rw[if_neg h,if_neg h2,if_neg h3]
 exact⟨this,by unfold zL8;rw[if_neg (by omega)]⟩
theorem yk4{p0 q0:List Int}(hp:∀i,i<p0.length→0≤p0.getD i 0∧p0.getD i 0≤70368744177664):∀k i,i<p0.length→0≤(rd p0 q0 k).1.getD i 0∧(rd p0 q0 k).1.getD i 0≤70368744177664+k
 | 0,i,hi=>by have:=hp i hi;simp only[rd];omega
 | k+1,i,hi=>by
  have ih:=yk4 (q0:=q0) hp k
  simp only[rd,inc]
  rw[X4]
  split
  ·rename_i h
   rw[h.1]
   have:=ih i hi;omega
  ·have:=ih i hi;omega
def y7c(t:Int)(ws:List Int):A→List Blk→Prop:=fun r G=>((zL8 t ws).2≠0∧r=.tup [.fs true [],.v (.int .i64 (zL8 t ws).2)]∧G=[])∨((zL8 t ws).2=0∧∃ver,r=.tup [.sl 0 ver 1 0 ws.length,.v (.int .i64 0)]∧G=[⟨ver,ints (zv7 t ws)⟩])
theorem ya2{w:Bool}(t:Int)(ws:List Int):VR P false z35 [.v (.int .i64 t),.fs w (ints ws)] [] (y7c t ws):=by
 refine z98 (by simp) (.inr rfl) fun _ _=>?_
 simp (disch:=(try simp only[lZ]);omega) only[aZ,zQ1,z37]
 refine y1 (fun h1=>?_) (fun h1=>?_)
 ·simp (disch:=(try simp only[lZ]);omega) only[aZ,zx0]
  exact z0M (.inl ⟨by rw[yS3 h1];decide,by rw[yS3 h1],rfl⟩)
 simp (disch:=(try simp only[lZ]);omega) only[aZ]
 refine(yC5 (w:=w) ws).same (by simp (disch:=first|omega|simp (disch:=omega) only[aG]) only[fZ]) rfl (z7 ?_)
 unfold zu6
 simp (disch:=(try simp only[lZ]);omega) only[aZ]
 refine y1 (fun h2=>?_) (fun h2=>?_)
 ·simp (disch:=(try simp only[lZ]);omega) only[aZ,zx0]
  exact z0M (.inl ⟨by rw[y45 h1 h2];exact h2,by rw[y45 h1 h2],rfl⟩)
 simp (disch:=(try simp only[lZ]);omega) only[aZ]
 refine y1 (fun h3=>?_) (fun h3=>?_)
 ·simp (disch:=(try simp only[lZ]);omega) only[aZ,zx0]
  exact z0M (.inl ⟨by rw[z7c h1 h2 h3];decide,by rw[z7c h1 h2 h3],rfl⟩)
 obtain⟨e0,e1⟩:=xj8 h1 h2 h3
 have ok:=zA0 e0
 obtain⟨t0,t1⟩:=ok.t0
 obtain⟨n0,n1⟩:=ok.len
 have hws:=ok.sum
 have hl:=zl7 t ws
 have hl2:=zq2 t ws
 have hlb:=yj5 ok.sp
 rw[ok.we]
 have p0:ints []=([]:List A):=rfl
 simp (disch:=(try simp only[lZ]);omega) only[aZ]
 refine AWP.loopP (α:=Nat×Nat×Nat) z8z (fun s=>s.1≤ws.length) (fun s=>[(2,.v (.slice none 0 0)),(3,.v (.int .i64 0)),(6,.sl 0 s.2.1 1 0 s.1),(7,.sl 1 s.2.2 1 0 s.1),(8,.v (.int .i64 (t-sumK (quos t ws) s.1))),(9,.v (.int .i64 s.1))]) (fun s=>[(0,⟨s.2.1,ints ((quos t ws).take s.1)⟩),(1,⟨s.2.2,ints ((rems t ws).take s.1)⟩)]) (fun s=>ws.length-s.1) (0,0,0) (by simp) ?_ ?_
 ·simp only[List.take_zero,z0y,Int.sub_zero,p0]
  try simp (disch:=(try simp only[lZ]);omega) only[aZ]
  exact Cut.of' 2 rfl (by omega) (by simp (disch:=first|omega|simp (disch:=omega) only[aG]) only[fZ]) (by simp (disch:=first|omega|simp (disch:=omega) only[aG]) only[fZ])
 rintro⟨k,v1,v2⟩ hk
 simp only at hk
 have hsb:=yk3 ok k hk
 have lt1:((quos t ws).take k).length=k:=by simp;omega
 have lt2:((rems t ws).take k).length=k:=by simp;omega
 by_cases hlt:k<ws.length
 ·have hsb1:=yk3 ok (k+1) (by omega)
  have hs1:=z4o (quos t ws) k (by omega)
  have g1:(quos t ws).getD k 0=t*ws.getD k 0 / ws.sum:=zi8 _ _ _ hlt
  have g2:(rems t ws).getD k 0=t*ws.getD k 0 % ws.sum:=zi8 _ _ _ hlt
  have ts1:=zR0 (quos t ws) k (by omega)
  have ts2:=zR0 (rems t ws) k (by omega)
  rw[g1]at hs1 ts1
  rw[g2]at ts2
  have hwl:=w_le ok hlt
  have tk1:∀l:List Int,(l.take k).take k=l.take k:=fun l=>by rw[List.take_take,Nat.min_self]
  have sa:(t-sumK (quos t ws) k)-t*ws.getD k 0 / ws.sum=t-sumK (quos t ws) (k+1):=by omega
  have hqr:=q_le ok hlt
  simp (disch:=(try simp only[lZ]);omega) only[aZ]
  refine y1 (fun h4=>?_) (fun h4=>?_)
  ·simp (disch:=(try simp only[lZ]);omega) only[aZ]
   refine(y28 t (ws.getD k 0) ws.sum ⟨t0,t1⟩ hwl ⟨by omega,hws⟩).same (by simp (disch:=first|omega|simp (disch:=omega) only[aG]) only[fZ]) rfl (z7 ?_)
   unfold zu6
   simp (disch:=(try simp only[lZ]);omega) only[aZ,tk1,sa]
   refine⟨(k+1,v1+1,v2+1),by simp only;omega,by simp only;omega,?_⟩
   simp only[ts1,ts2]
   try simp (disch:=(try simp only[lZ]);omega) only[aZ]
   exact Cut.of' 2 rfl (by omega) (by simp (disch:=first|omega|simp (disch:=omega) only[aG]) only[fZ,tk1]) (by simp (disch:=first|omega|simp (disch:=omega) only[aG]) only[fZ])
  ·have hz:ws.sum=0:=by omega
   have z1:t*ws.getD k 0 / ws.sum=0:=by rw[hz,Int.ediv_zero]
   have z2:t*ws.getD k 0 % ws.sum=0:=by rw[hz,ok.pos hz];simp
   rw[z1]at sa ts1
   rw[z2]at ts2
   simp (disch:=(try simp only[lZ]);omega) only[aZ,tk1,sa]
   refine⟨(k+1,v1+1,v2+1),by simp only;omega,by simp only;omega,?_⟩
   simp only[ts1,ts2]
   try simp (disch:=(try simp only[lZ]);omega) only[aZ]
   exact Cut.of' 2 rfl (by omega) (by simp (disch:=first|omega|simp (disch:=omega) only[aG]) only[fZ,tk1]) (by simp (disch:=first|omega|simp (disch:=omega) only[aG]) only[fZ])
 ·have hke:k=ws.length:=by omega
  subst hke
  have tq:(quos t ws).take ws.length=quos t ws:=List.take_of_length_le (by omega)
  have tr:(rems t ws).take ws.length=rems t ws:=List.take_of_length_le (by omega)
  have sq:sumK (quos t ws) ws.length=(quos t ws).sum:=by rw[← hl,z0Q]
  have hlN:t-(quos t ws).sum=(zB2 t ws:Nat):=by unfold zB2;omega
  have hpb:∀i,i<(quos t ws).length→0≤(quos t ws).getD i 0∧(quos t ws).getD i 0≤70368744177664:=fun i hi=>by
   rw[show(quos t ws).getD i 0=t*ws.getD i 0 / ws.sum from zi8 _ _ _ (by omega)]
   have:=q_le ok (i:=i) (by omega);omega
  rw[tq,tr,sq,hlN]
  have hln:zB2 t ws<ws.length:=by omega
  clear hsb lt1 lt2 hlt
  simp (disch:=(try simp only[lZ]);omega) only[aZ]
  refine AWP.loopP (α:=Nat) z8A (fun m=>m≤zB2 t ws) (fun m=>[(8,.v (.int .i64 (zB2 t ws-m)))]) (fun m=>[(0,⟨v1,ints (rd (quos t ws) (rems t ws) m).1⟩),(1,⟨v2,ints (rd (quos t ws) (rems t ws) m).2⟩)]) (fun m=>zB2 t ws-m) 0 (Nat.zero_le _) ?_ ?_
  ·simp only[rd,Int.sub_zero,Int.natCast_zero]
   exact Cut.of' 2 rfl (by omega) (by simp (disch:=first|omega|simp (disch:=omega) only[aG]) only[fZ]) (by simp (disch:=first|omega|simp (disch:=omega) only[aG]) only[fZ])
  rintro m hm
  have hrl:=zB7 (quos t ws) (rems t ws) m
  have hrb:=yk4 (q0:=rems t ws) hpb m
  obtain⟨p,hp⟩:∃p,p=(rd (quos t ws) (rems t ws) m).1:=⟨_,rfl⟩
  obtain⟨q,hq⟩:∃q,q=(rd (quos t ws) (rems t ws) m).2:=⟨_,rfl⟩
  rw[← hp,← hq]at hrl ⊢
  rw[← hp]at hrb
  by_cases hml:m<zB2 t ws
  ·have hrs:rd (quos t ws) (rems t ws) (m+1)=(inc p (zc1 q),q.set (zc1 q) (-1)):=by rw[rd,← hp,← hq]
   simp (disch:=(try simp only[lZ]);omega) only[aZ]
   refine AWP.loopP (α:=Nat) z8B (fun i=>1≤i∧i≤q.length) (fun i=>[(12,.v (.int .i64 (zi1 q i))),(13,.v (.int .i64 i))]) (fun _=>[]) (fun i=>q.length-i) 1 ⟨Nat.le_refl _,by omega⟩ ?_ ?_
   ·simp only[y2R]
    exact Cut.of' 2 rfl (by omega) (by simp (disch:=first|omega|simp (disch:=omega) only[aG]) only[fZ]) (by simp (disch:=first|omega|simp (disch:=omega) only[aG]) only[fZ])
   rintro i ⟨hi1,hi2⟩
   have hbl:=zx2 q i (by omega)
   by_cases hil:i<q.length
   ·have hbs:zi1 q (i+1)=if q.getD (zi1 q i) 0<q.getD i 0 then i else zi1 q i:=rfl
    simp (disch:=(try simp only[lZ]);omega) only[aZ]
    refine y1 (fun h5=>?_) (fun h5=>?_)
    ·rw[if_pos h5]at hbs
     simp (disch:=(try simp only[lZ]);omega) only[aZ]
     refine⟨i+1,⟨by omega,by omega⟩,by omega,?_⟩
     rw[hbs]
     exact Cut.of' 2 rfl (by omega) (by simp (disch:=first|omega|simp (disch:=omega) only[aG]) only[fZ]) (by simp (disch:=first|omega|simp (disch:=omega) only[aG]) only[fZ])
    ·rw[if_neg h5]at hbs
     simp (disch:=(try simp only[lZ]);omega) only[aZ]
     refine⟨i+1,⟨by omega,by omega⟩,by omega,?_⟩
     rw[hbs]
     exact Cut.of' 2 rfl (by omega) (by simp (disch:=first|omega|simp (disch:=omega) only[aG]) only[fZ]) (by simp (disch:=first|omega|simp (disch:=omega) only[aG]) only[fZ])
   ·have hie:i=q.length:=by omega
    subst hie
    have hbI:zi1 q q.length=zc1 q:=rfl
    rw[hbI]at hbl ⊢
    have hb:=hrb (zc1 q) (by omega)
    have hinc:p.set (zc1 q) (p.getD (zc1 q) 0+1)=inc p (zc1 q):=rfl
    simp (disch:=(try simp only[lZ]);omega) only[aZ,hinc]
    refine⟨m+1,by omega,by omega,?_⟩
    rw[hrs]
    try simp (disch:=(try simp only[lZ]);omega) only[aZ]
    exact Cut.of' 2 rfl (by omega) (by simp (disch:=first|omega|simp (disch:=omega) only[aG]) only[fZ]) (by simp (disch:=first|omega|simp (disch:=omega) only[aG]) only[fZ,Int.sub_sub])
  ·have hme:m=zB2 t ws:=by omega
   subst hme
   have hpR:p=zv7 t ws:=hp
   simp (disch:=(try simp only[lZ]);omega) only[aZ,zx0]
   refine⟨.tup [.sl 0 v1 1 0 ws.length,.v (.int .i64 0)],[⟨v1,ints (zv7 t ws)⟩],Cut.of' 1 rfl (by omega) ⟨rfl,by rw[hpR];exact FzL.refl (zn6 _ _),trivial⟩ ⟨Fz.refl rfl,trivial⟩,.inr ⟨by rw[e1],v1,rfl,rfl⟩⟩
theorem y29(x:Int):VR P false ze7 [.v (.int .i64 x)] [] (isR (.v (.bool (decide (badM x))))):=by
 refine z2r (by simp) (.inr rfl) fun _ _=>?_
 simp (disch:=(try simp only[lZ]);omega) only[aZ,aM,aBl,zl1,zE5,z38]
 exact y2 ⟨rfl,rfl⟩
theorem yS4{xs:List Int}{k:Nat}(hk:k<xs.length)(hb:∀i,i<k→¬badM (xs.getD i 0))(hp:badM (xs.getD k 0)):idxE badM xs=k:=zQ7 (p:=badM) 0 hk hb hp
theorem yw5{xs:List Int}(hb:∀i,i<xs.length→¬badM (xs.getD i 0)):idxE badM xs=-1:=zz8 (p:=badM) 0 hb
theorem yC7{w:Bool}(xs:List Int)(hl:xs.length<1000000000):VR P false zE6 [.fs w (ints xs),.fn ze7 []] [] (isR (.v (.int .i64 (idxE badM xs)))):=by
 refine z2t (by simp) (.inr rfl) fun _ _=>?_
 simp (disch:=(try simp only[lZ]);omega) only[aZ,aM,aBl,zl2,zE8]
 refine AWP.loopP z05 (fun k:Nat=>k≤xs.length∧∀i,i<k→¬badM (xs.getD i 0)) (fun k=>[(2,.v (.int .i64 0)),(3,.v (.int .i64 k))]) (fun _=>[]) (fun k=>xs.length-k) 0 ⟨by omega,fun i hi=>by omega⟩ (by refine Cut.of' (0) ?_ (by omega) ?_ ?_<;>simp (disch:=first|omega|simp (disch:=omega) only[aG,aM,aBl]) only[fZ,aM,aBl]) ?_
 rintro k ⟨hk,hb⟩
 by_cases hlt:k<xs.length
 ·simp (disch:=(try simp only[lZ]);omega) only[aZ,aM,aBl]
  refine⟨by kernel_rfl,?_⟩
  refine(y29 (xs.getD k 0)).same (by simp (disch:=first|omega|simp (disch:=omega) only[aG,aM,aBl]) only[fZ,aM,aBl]) rfl (z7 ?_)
  simp (disch:=(try simp only[lZ]);omega) only[aZ,aM,aBl]
  refine y1 (fun h3=>?_) (fun h3=>?_)
  ·simp (disch:=(try simp only[lZ]);omega) only[aZ,aM,aBl,zE9]
   exact y2 ⟨by rw[yS4 hlt hb h3],rfl⟩
  ·simp (disch:=(try simp only[lZ]);omega) only[aZ,aM,aBl]
   refine⟨k+1,⟨by omega,fun i hi=>?_⟩,by omega,(by refine Cut.of' (0) ?_ (by omega) ?_ ?_<;>simp (disch:=first|omega|simp (disch:=omega) only[aG,aM,aBl]) only[fZ,aM,aBl])⟩
   rcases Nat.lt_succ_iff_lt_or_eq.1 hi with h|rfl
   ·exact hb i h
   ·exact h3
 ·simp (disch:=(try simp only[lZ]);omega) only[aZ,aM,aBl,zE9]
  exact y2 ⟨by rw[yw5 fun i hi=>hb i (by omega)],rfl⟩
theorem ya3{w:Bool}(xs:List Int)(hl:xs.length<1000000000):VR P false zr2 [.fs w (ints xs),.fn ze7 []] [] (isR (.v (.bool (decide (0≤idxE badM xs))))):=by
 refine zW2 (by simp) (.inr rfl) fun _ _=>?_
 simp (disch:=(try simp only[lZ]);omega) only[aZ,aM,aBl,zf7,zr4]
 refine(yC7 (w:=w) xs hl).same (by simp (disch:=first|omega|simp (disch:=omega) only[aG,aM,aBl]) only[fZ,aM,aBl]) rfl (z7 ?_)
 simp (disch:=(try simp only[lZ]);omega) only[aZ,aM,aBl,z0k]
 exact y2 ⟨vdec Iff.rfl,rfl⟩
theorem yC8{w v:Bool}(l:List (List Int))(hl:l.length<1000000000):VR P false zt9 [.fs w (rows v l)] [] (isR (.v (.int .i64 (zc7 mixE l)))):=by
 refine z5b (by simp) (.inr rfl) fun _ _=>?_
 simp (disch:=(try simp only[lZ]);omega) only[aZ,aM,aBl,zu0,zV0]
 refine AWP.loopP z3R (fun k:Nat=>k≤l.length∧∀i,i<k→mixE (l.getD i [])=0) (fun k=>[(1,.v (.int .i64 0)),(2,.v (.int .i64 k))]) (fun _=>[]) (fun k=>l.length-k) 0 ⟨by omega,fun i hi=>by omega⟩ (by refine Cut.of' (0) ?_ (by omega) ?_ ?_<;>simp (disch:=first|omega|simp (disch:=omega) only[aG,aM,aBl]) only[fZ,aM,aBl]) ?_
 rintro k ⟨hk,hb⟩
 by_cases hlt:k<l.length
 ·simp (disch:=(try simp only[lZ]);omega) only[aZ,aM,aBl]
  refine y1 (fun h3=>?_) (fun h3=>?_)
  ·have he:=yR3 (xs:=l.getD k []) (by omega)
   simp (disch:=(try simp only[lZ]);omega) only[aZ,aM,aBl,zu1]
   exact y2 ⟨by rw[zc0 [] hlt hb (by omega),he],rfl⟩
  ·simp (disch:=(try simp only[lZ]);omega) only[aZ,aM,aBl]
   refine(ya3 (w:=v) (l.getD k []) (by omega)).same (by simp (disch:=first|omega|simp (disch:=omega) only[aG,aM,aBl]) only[fZ,aM,aBl]) rfl (z7 ?_)
   simp (disch:=(try simp only[lZ]);omega) only[aZ,aM,aBl]
   refine y1 (fun h4=>?_) (fun h4=>?_)
   ·have he:=yR4 (xs:=l.getD k []) (by omega) h4
    simp (disch:=(try simp only[lZ]);omega) only[aZ,aM,aBl,zu1]
    exact y2 ⟨by rw[zc0 [] hlt hb (by omega),he],rfl⟩
   ·have he:=yv2 (xs:=l.getD k []) (by omega) h4
    simp (disch:=(try simp only[lZ]);omega) only[aZ,aM,aBl]
    refine⟨k+1,⟨by omega,fun i hi=>?_⟩,by omega,(by refine Cut.of' (0) ?_ (by omega) ?_ ?_<;>simp (disch:=first|omega|simp (disch:=omega) only[aG,aM,aBl]) only[fZ,aM,aBl])⟩
    rcases Nat.lt_succ_iff_lt_or_eq.1 hi with h|rfl
    ·exact hb i h
    ·exact he
 ·simp (disch:=(try simp only[lZ]);omega) only[aZ,aM,aBl,zu1]
  exact y2 ⟨by rw[Z0 [] fun i hi=>hb i (by omega)],rfl⟩
theorem yZ6(xs:List Int):zc7 mixE [xs]=mixE xs:=by
 unfold zc7 zc7;split
 ·rfl
 ·rename_i h;exact(Classical.not_not.1 h).symm
theorem z6o(xs:List Int):VR P false zt9 [.fs false [.fs false (ints xs)]] [] (isR (.v (.int .i64 (mixE xs)))):=by
 have h:=yC8 (w:=false) (v:=false) [xs] (by simp)
 rw[yZ6]at h;exact h
theorem yC9{w:Bool}(xs:List Int):VR P false z3S [.fs w (ints xs)] [] (isR (.v (.int .i64 (mixE xs)))):=by
 refine z92 (by simp) (.inr rfl) fun _ _=>?_
 simp (disch:=(try simp only[lZ]);omega) only[aZ,aM,aBl,zP5,z3U]
 refine y1 (fun h1=>?_) (fun h1=>?_)
 ·simp (disch:=(try simp only[lZ]);omega) only[aZ,aM,aBl,zP6]
  exact y2 ⟨by rw[yR3 (by omega)],rfl⟩
 simp (disch:=(try simp only[lZ]);omega) only[aZ,aM,aBl]
 refine AWP.loopP z8v (fun k:Nat=>k≤xs.length∧∀i,i<k→¬badM (xs.getD i 0)) (fun k=>[(1,.v (.int .i64 0)),(2,.v (.int .i64 k))]) (fun _=>[]) (fun k=>xs.length-k) 0 ⟨by omega,fun i hi=>by omega⟩ (by refine Cut.of' (0) ?_ (by omega) ?_ ?_<;>simp (disch:=first|omega|simp (disch:=omega) only[aG,aM,aBl]) only[fZ,aM,aBl]) ?_
 rintro k ⟨hk,hb⟩
 by_cases hlt:k<xs.length
 ·simp (disch:=(try simp only[lZ]);omega) only[aZ,aM,aBl]
  refine y1 (fun h3=>?_) (fun h3=>?_)
  ·simp (disch:=(try simp only[lZ]);omega) only[aZ,aM,aBl,zP6]
   exact y2 ⟨by rw[yR4 (by omega) (by rw[yS4 hlt hb h3];omega)],rfl⟩
  ·simp (disch:=(try simp only[lZ]);omega) only[aZ,aM,aBl]
   refine⟨k+1,⟨by omega,fun i hi=>?_⟩,by omega,(by refine Cut.of' (0) ?_ (by omega) ?_ ?_<;>simp (disch:=first|omega|simp (disch:=omega) only[aG,aM,aBl]) only[fZ,aM,aBl])⟩
   rcases Nat.lt_succ_iff_lt_or_eq.1 hi with h|rfl
   ·exact hb i h
   ·exact h3
 ·simp (disch:=(try simp only[lZ]);omega) only[aZ,aM,aBl,zP6]
  exact y2 ⟨by rw[yv2 (by omega) (by rw[yw5 fun i hi=>hb i (by omega)];omega)],rfl⟩
theorem zV6{w:Bool}(xs:List Int):VR P false zT9 [.fs w (ints xs)] [] (isR (zu6 (totM xs))):=by
 refine z42 (by simp) (.inr rfl) fun _ _=>?_
 unfold zu6
 simp (disch:=(try simp only[lZ]);omega) only[aZ,aM,aBl,zt4,zU1]
 refine(z6o xs).use (yu9 (by simp [zZ,blkAt,za2,A.cells,A.one,Lft.one,retA,A.bdL,A.bd,zn6])) rfl (z7 ?_)
 simp (disch:=(try simp only[lZ]);omega) only[aZ,aM,aBl]
 refine y1 (fun h1=>?_) (fun h1=>?_)
 ·rw[z7a h1]
  simp (disch:=(try simp only[lZ]);omega) only[aZ,aM,aBl,zU2]
  exact x1 (Fz.refl rfl) ⟨rfl,rfl⟩
 have h1:=Classical.not_not.1 h1
 have h2:=yj3 h1
 have h3:=(zz9.1 h1).1
 rw[z8O h1]
 simp (disch:=(try simp only[lZ]);omega) only[aZ,aM,aBl]
 refine AWP.loopP z3v (fun k:Nat=>k≤xs.length) (fun k=>[(4,.v (.int .i64 (sumT xs k))),(5,.v (.int .i64 k))]) (fun _=>[]) (fun k=>xs.length-k) 0 (by omega) ?_ ?_
 ·rw[zf8]
  exact Cut.of' 1 rfl (by omega) (by simp (disch:=first|omega|simp (disch:=omega) only[aG,aM,aBl]) only[fZ,aM,aBl]) (by simp (disch:=first|omega|simp (disch:=omega) only[aG,aM,aBl]) only[fZ,aM,aBl])
 rintro k hk
 have h4:=h2 k hk
 by_cases hlt:k<xs.length
 ·have h5:=zQ9 h1 k hlt
  simp (disch:=(try simp only[lZ]);omega) only[aZ,aM,aBl]
  refine⟨k+1,by omega,by omega,?_⟩
  rw[zf9 xs k hlt]
  exact Cut.of' 1 rfl (by omega) (by simp (disch:=first|omega|simp (disch:=omega) only[aG,aM,aBl]) only[fZ,aM,aBl]) (by simp (disch:=first|omega|simp (disch:=omega) only[aG,aM,aBl]) only[fZ,aM,aBl])
 ·have hke:k=xs.length:=by omega
  subst hke
  simp (disch:=(try simp only[lZ]);omega) only[aZ,aM,aBl,zU2,ze8]
  exact x1 (Fz.refl rfl) ⟨rfl,rfl⟩
theorem yD0{w:Bool}(xs:List Int):VR P false z3w [.fs w (ints xs)] [] (isR (zu6 (totM xs))):=by
 refine z9X (by simp) (.inr rfl) fun _ _=>?_
 unfold zu6
 simp (disch:=(try simp only[lZ]);omega) only[aZ,aM,aBl,zP0,z3y]
 refine(yC9 (w:=w) xs).same (by simp (disch:=first|omega|simp (disch:=omega) only[aG,aM,aBl]) only[fZ,aM,aBl]) rfl (z7 ?_)
 simp (disch:=(try simp only[lZ]);omega) only[aZ,aM,aBl]
 refine y1 (fun h1=>?_) (fun h1=>?_)
 ·rw[z7a h1]
  simp (disch:=(try simp only[lZ]);omega) only[aZ,aM,aBl,z3z]
  exact x1 (Fz.refl rfl) ⟨rfl,rfl⟩
 have h1:=Classical.not_not.1 h1
 have h2:=yj3 h1
 have h3:=(zz9.1 h1).1
 rw[z8O h1]
 simp (disch:=(try simp only[lZ]);omega) only[aZ,aM,aBl]
 refine AWP.loopP z8i (fun k:Nat=>k≤xs.length) (fun k=>[(4,.v (.int .i64 (sumT xs k))),(5,.v (.int .i64 k))]) (fun _=>[]) (fun k=>xs.length-k) 0 (by omega) ?_ ?_
 ·rw[zf8]
  exact Cut.of' 0 rfl (by omega) (by simp (disch:=first|omega|simp (disch:=omega) only[aG,aM,aBl]) only[fZ,aM,aBl]) (by simp (disch:=first|omega|simp (disch:=omega) only[aG,aM,aBl]) only[fZ,aM,aBl])
 rintro k hk
 have h4:=h2 k hk
 by_cases hlt:k<xs.length
 ·have h5:=zQ9 h1 k hlt
  simp (disch:=(try simp only[lZ]);omega) only[aZ,aM,aBl]
  refine⟨k+1,by omega,by omega,?_⟩
  rw[zf9 xs k hlt]
  exact Cut.of' 0 rfl (by omega) (by simp (disch:=first|omega|simp (disch:=omega) only[aG,aM,aBl]) only[fZ,aM,aBl]) (by simp (disch:=first|omega|simp (disch:=omega) only[aG,aM,aBl]) only[fZ,aM,aBl])
 ·have hke:k=xs.length:=by omega
  subst hke
  simp (disch:=(try simp only[lZ]);omega) only[aZ,aM,aBl,z3z,ze8]
  exact x1 (Fz.refl rfl) ⟨rfl,rfl⟩
theorem z5p{w:Bool}(xs:List Int)(i:Int):VR P false zJ2 [.fs w (ints xs),.v (.int .i64 i)] [] (isR (zu6 (purM xs i))):=by
 refine z3u (by simp) (.inr rfl) fun _ _=>?_
 have ht:=zV6 (w:=w) xs
 unfold zu6 at ht ⊢
 simp (disch:=(try simp only[lZ]);omega) only[aZ,aM,aBl,zo1,zJ4]
 refine ht.same (by simp (disch:=first|omega|simp (disch:=omega) only[aG,aM,aBl]) only[fZ,aM,aBl]) (by simp (disch:=first|omega|simp (disch:=omega) only[aG,aM,aBl]) only[fZ,aM,aBl]) (z7 ?_)
 by_cases h1:mixE xs=0
 case neg =>
  rw[z7a h1,yR5 h1]
  simp (disch:=(try simp only[lZ]);omega) only[aZ,aM,aBl,zg4]
  exact x1 (Fz.refl rfl) ⟨rfl,rfl⟩
 rw[z8O h1]
 have h2:=z8P h1
 simp (disch:=(try simp only[lZ]);omega) only[aZ,aM,aBl]
 refine y1 (fun h3=>?_) (fun h3=>?_)
 ·rw[yR6 h1 h3]
  simp (disch:=(try simp only[lZ]);omega) only[aZ,aM,aBl,zg4]
  exact x1 (Fz.refl rfl) ⟨rfl,rfl⟩
 simp (disch:=(try simp only[lZ]);omega) only[aZ,aM,aBl]
 refine y1 (fun h4=>?_) (fun h4=>?_)
 ·rw[yR7 h1 h3 h4]
  simp (disch:=(try simp only[lZ]);omega) only[aZ,aM,aBl,zg4]
  exact x1 (Fz.refl rfl) ⟨rfl,rfl⟩
 rw[y2L h1 h3 h4]
 have h5:=zL6 h1 i.toNat
 have h6:0≤xs.getD i.toNat 0*1000 / xs.sum:=Int.ediv_nonneg (by omega) h2.1
 have h7:xs.getD i.toNat 0*1000 / xs.sum≤xs.getD i.toNat 0*1000:=Int.ediv_le_self _ (by omega)
 simp (disch:=(try simp only[lZ]);omega) only[aZ,aM,aBl,zg4]
 exact x1 (Fz.refl rfl) ⟨rfl,rfl⟩
theorem yw6{w:Bool}(xs:List Int)(i:Int):VR P false z1o [.fs w (ints xs),.v (.int .i64 i)] [] (isR (zu6 (purM xs i))):=by
 refine z7Z (by simp) (.inr rfl) fun _ _=>?_
 have ht:=yD0 (w:=w) xs
 unfold zu6 at ht ⊢
 simp (disch:=(try simp only[lZ]);omega) only[aZ,aM,aBl,zG4,z1q]
 refine ht.same (by simp (disch:=first|omega|simp (disch:=omega) only[aG,aM,aBl]) only[fZ,aM,aBl]) (by simp (disch:=first|omega|simp (disch:=omega) only[aG,aM,aBl]) only[fZ,aM,aBl]) (z7 ?_)
 by_cases h1:mixE xs=0
 case neg =>
  rw[z7a h1,yR5 h1]
  simp (disch:=(try simp only[lZ]);omega) only[aZ,aM,aBl,zp9]
  exact x1 (Fz.refl rfl) ⟨rfl,rfl⟩
 rw[z8O h1]
 have h2:=z8P h1
 simp (disch:=(try simp only[lZ]);omega) only[aZ,aM,aBl]
 refine y1 (fun h3=>?_) (fun h3=>?_)
 ·rw[yR6 h1 h3]
  simp (disch:=(try simp only[lZ]);omega) only[aZ,aM,aBl,zp9]
  exact x1 (Fz.refl rfl) ⟨rfl,rfl⟩
 simp (disch:=(try simp only[lZ]);omega) only[aZ,aM,aBl]
 refine y1 (fun h4=>?_) (fun h4=>?_)
 ·rw[yR7 h1 h3 h4]
  simp (disch:=(try simp only[lZ]);omega) only[aZ,aM,aBl,zp9]
  exact x1 (Fz.refl rfl) ⟨rfl,rfl⟩
 rw[y2L h1 h3 h4]
 have h5:=zL6 h1 i.toNat
 have h6:0≤xs.getD i.toNat 0*1000 / xs.sum:=Int.ediv_nonneg (by omega) h2.1
 have h7:xs.getD i.toNat 0*1000 / xs.sum≤xs.getD i.toNat 0*1000:=Int.ediv_le_self _ (by omega)
 simp (disch:=(try simp only[lZ]);omega) only[aZ,aM,aBl,zp9]
 exact x1 (Fz.refl rfl) ⟨rfl,rfl⟩
def y8a(t:Int)(ws:List Int):Prop:=0<ws.sum→∀i,i<ws.length→VR P false z0r [.v (.int .u64 (t*ws.getD i 0 / 18446744073709551616)),.v (.int .u64 (IntKind.wrap .u64 (t*ws.getD i 0))),.v (.int .u64 ws.sum)] [] (isR (.tup [.v (.int .u64 (t*ws.getD i 0 / ws.sum)),.v (.int .u64 (t*ws.getD i 0 % ws.sum))]))
theorem yD1{t:Int}{ws:List Int}(h:SplitOk t ws)(hs:∀i,i<ws.length→t*ws.getD i 0≤18446744073709551615):y8a t ws:=fun hp i hi=>by
 have h1:=hs i hi
 have h2:0≤t*ws.getD i 0:=Int.mul_nonneg h.t0.1 (w_le h hi).1
 have:=h.sum
 rw[show t*ws.getD i 0 / 18446744073709551616=0 by omega,zi3 h2 h1]
 exact yC6 _ _ ⟨h2,h1⟩ ⟨hp,by omega⟩
theorem ya4{w:Bool}(t:Int)(ws:List Int)(hd:zL7 t ws=0→y8a t ws):VR P false z4a [.v (.int .i64 t),.fs w (ints ws)] [] (y7c t ws):=by
 refine ya0 (by simp) (.inr rfl) fun _ _=>?_
 simp (disch:=(try simp only[lZ]);omega) only[aZ,zQ3,z4c]
 refine y1 (fun h1=>?_) (fun h1=>?_)
 ·simp (disch:=(try simp only[lZ]);omega) only[aZ,zx1]
  exact z0M (.inl ⟨by rw[yS3 h1];decide,by rw[yS3 h1],rfl⟩)
 simp (disch:=(try simp only[lZ]);omega) only[aZ]
 refine(yZ5 (w:=w) ws).same (by simp (disch:=first|omega|simp (disch:=omega) only[aG]) only[fZ]) rfl (z7 ?_)
 unfold zu6
 simp (disch:=(try simp only[lZ]);omega) only[aZ]
 refine y1 (fun h2=>?_) (fun h2=>?_)
 ·simp (disch:=(try simp only[lZ]);omega) only[aZ,zx1]
  exact z0M (.inl ⟨by rw[y45 h1 h2];exact h2,by rw[y45 h1 h2],rfl⟩)
 simp (disch:=(try simp only[lZ]);omega) only[aZ]
 refine y1 (fun h3=>?_) (fun h3=>?_)
 ·simp (disch:=(try simp only[lZ]);omega) only[aZ,zx1]
  exact z0M (.inl ⟨by rw[z7c h1 h2 h3];decide,by rw[z7c h1 h2 h3],rfl⟩)
 obtain⟨e0,e1⟩:=xj8 h1 h2 h3
 have hd:=hd e0
 have ok:=zA0 e0
 obtain⟨t0,t1⟩:=ok.t0
 obtain⟨n0,n1⟩:=ok.len
 have hws:=ok.sum
 have hl:=zl7 t ws
 have hl2:=zq2 t ws
 have hlb:=yj5 ok.sp
 rw[ok.we]
 simp (disch:=(try simp only[lZ]);omega) only[aZ]
 refine AWP.loopP (α:=Nat) z8I (fun k=>k≤ws.length) (fun k=>[(8,.v (.int .i64 (t-sumK (quos t ws) k))),(9,.v (.int .i64 k))]) (fun k=>[(0,⟨0,ints (zL9 t ws k)⟩),(1,⟨0,ints (z1Y t ws k)⟩),(2,⟨0,ints (z1Z ws.length k)⟩)]) (fun k=>ws.length-k) 0 (by omega) ?_ ?_
 ·have z1:zL9 t ws 0=List.replicate ws.length 0:=by simp [zL9]
  have z2:z1Y t ws 0=List.replicate ws.length 0:=by simp [z1Y]
  have z3:z1Z ws.length 0=List.replicate ws.length 0:=by simp [z1Z,rng]
  simp only[z1,z2,z3,z0y,Int.sub_zero]
  try simp (disch:=(try simp only[lZ]);omega) only[aZ]
  exact Cut.of' 4 rfl (by omega) (by simp (disch:=first|omega|simp (disch:=omega) only[aG]) only[fZ]) (by simp (disch:=first|omega|simp (disch:=omega) only[aG]) only[fZ])
 rintro k hk
 have hsb:=yk3 ok k hk
 have f1:(zL9 t ws k).length=ws.length:=z4p _ _ _ hl hk
 have f2:(z1Y t ws k).length=ws.length:=z4p _ _ _ hl2 hk
 have f3:(z1Z ws.length k).length=ws.length:=by rw[z8U _ _ hk];exact z4p _ _ _ (zp1 _ _) hk
 by_cases hlt:k<ws.length
 ·have hsb1:=yk3 ok (k+1) (by omega)
  have hs1:=z4o (quos t ws) k (by omega)
  have g1:(quos t ws).getD k 0=t*ws.getD k 0 / ws.sum:=zi8 _ _ _ hlt
  have g2:(rems t ws).getD k 0=t*ws.getD k 0 % ws.sum:=zi8 _ _ _ hlt
  rw[g1]at hs1
  have u1:(zL9 t ws k).set k (t*ws.getD k 0 / ws.sum)=zL9 t ws (k+1):=z8T _ _ _ _ hl hlt g1.symm
  have u2:(z1Y t ws k).set k (t*ws.getD k 0 % ws.sum)=z1Y t ws (k+1):=z8T _ _ _ _ hl2 hlt g2.symm
  have u3:(z1Z ws.length k).set k (k:Int)=z1Z ws.length (k+1):=by
   rw[z8U _ _ hk,z8U _ _ (by omega)]
   exact z8T _ _ _ _ (zp1 _ _) hlt (by rw[yk0 _ _ _ hlt,Nat.zero_add])
  have f1':(zL9 t ws (k+1)).length=ws.length:=z4p _ _ _ hl (by omega)
  have u4:(zL9 t ws (k+1)).getD k 0=t*ws.getD k 0 / ws.sum:=by
   rw[← u1,X4,if_pos ⟨rfl,by omega⟩]
  have hwl:=w_le ok hlt
  have hqr:=q_le ok hlt
  have hrr:=r_le ok hlt
  have sa:(t-sumK (quos t ws) k)-t*ws.getD k 0 / ws.sum=t-sumK (quos t ws) (k+1):=by omega
  simp (disch:=(try simp only[lZ]);omega) only[aZ,Int.toNat_natCast,u3]
  refine y1 (fun h4=>?_) (fun h4=>?_)
  ·have hdk:=hd (by omega) k hlt
   simp (disch:=(try simp only[lZ]);omega) only[aZ,zi3]
   refine(y44 t (ws.getD k 0) ⟨t0,by omega⟩ ⟨hwl.1,by omega⟩).same (by simp (disch:=first|omega|simp (disch:=omega) only[aG]) only[fZ]) rfl (z7 ?_)
   simp (disch:=(try simp only[lZ]);omega) only[aZ,zi3]
   refine hdk.same (by simp (disch:=first|omega|simp (disch:=omega) only[aG]) only[fZ]) rfl (z7 ?_)
   simp (disch:=(try simp only[lZ]);omega) only[aZ,Int.toNat_natCast,u1,u2,u4,sa]
   refine⟨?_,?_⟩
   all_goals
    refine⟨k+1,by omega,by omega,?_⟩
    exact Cut.of' 4 rfl (by omega) (by simp (disch:=first|omega|simp (disch:=omega) only[aG]) only[fZ]) (by simp (disch:=first|omega|simp (disch:=omega) only[aG]) only[fZ])
  ·have hz:ws.sum=0:=by omega
   have z1:t*ws.getD k 0 / ws.sum=0:=by rw[hz,Int.ediv_zero]
   have z2:t*ws.getD k 0 % ws.sum=0:=by rw[hz,ok.pos hz];simp
   rw[z1]at sa u1
   rw[z2]at u2
   have u5:(zL9 t ws k).getD k 0=0:=yw4 _ _ _ hl hlt
   have v1:(zL9 t ws k).set k 0=zL9 t ws k:=z8Q (by simp) fun i hi=>by
    rw[X4];split
    ·rename_i h;rw[← h.1,u5]
    ·rfl
   have v2:(z1Y t ws k).set k 0=z1Y t ws k:=z8Q (by simp) fun i hi=>by
    rw[X4];split
    ·rename_i h;rw[← h.1];exact(yw4 _ _ _ hl2 hlt).symm
    ·rfl
   rw[v1]at u1
   rw[v2]at u2
   simp (disch:=(try simp only[lZ]);omega) only[aZ,Int.toNat_natCast,u5,sa]
   refine⟨k+1,by omega,by omega,?_⟩
   rw[← u1,← u2]
   exact Cut.of' 4 rfl (by omega) (by simp (disch:=first|omega|simp (disch:=omega) only[aG]) only[fZ]) (by simp (disch:=first|omega|simp (disch:=omega) only[aG]) only[fZ])
 ·have hke:k=ws.length:=by omega
  subst hke
  have tq:zL9 t ws ws.length=quos t ws:=by
   unfold zL9;rw[List.take_of_length_le (by omega),Nat.sub_self];simp
  have tr:z1Y t ws ws.length=rems t ws:=by
   unfold z1Y;rw[List.take_of_length_le (by omega),Nat.sub_self];simp
  have to:z1Z ws.length ws.length=rng 0 ws.length:=by
   unfold z1Z;rw[Nat.sub_self];simp
  have sq:sumK (quos t ws) ws.length=(quos t ws).sum:=by rw[← hl,z0Q]
  have hlN:t-(quos t ws).sum=(zB2 t ws:Nat):=by unfold zB2;omega
  have hln:zB2 t ws<ws.length:=by omega
  have hQ:QOk (rems t ws):=fun i hi=>by
   rw[show(rems t ws).getD i 0=t*ws.getD i 0 % ws.sum from zi8 _ _ _ (by omega)]
   exact r_le ok (by omega)
  have hs:=yk2 (p:=quos t ws) hQ (by omega)
  unfold HS at hs
  rw[hl2]at hs
  have hpb:∀i,i<(quos t ws).length→0≤(quos t ws).getD i 0∧(quos t ws).getD i 0≤70368744177664:=fun i hi=>by
   rw[show(quos t ws).getD i 0=t*ws.getD i 0 / ws.sum from zi8 _ _ _ (by omega)]
   have:=q_le ok (i:=i) (by omega);omega
  rw[tq,tr,to,sq,hlN]
  clear f1 f2 f3 hsb
  simp (disch:=(try simp only[lZ]);omega) only[aZ]
  refine hs.mono ?_
  rintro r H' ⟨rfl,T,T1,T2,T3,rfl⟩
  refine z7 ?_
  have hsrt:=yv9 (p0:=quos t ws) (q0:=rems t ws) (T:=T) (by omega) (fun i hi=>(hQ i hi).1) (by omega) (by rw[hl2];exact T2) T3
  have hrb:=yk4 (q0:=rems t ws) hpb
  simp (disch:=(try simp only[lZ]);omega) only[aZ]
  refine AWP.loopP (α:=Nat) z8J (fun j=>j≤zB2 t ws) (fun j=>[(20,.v (.int .i64 j))]) (fun j=>[(0,⟨0,ints (incs (quos t ws) (T.take j))⟩)]) (fun j=>zB2 t ws-j) 0 (Nat.zero_le _) ?_ ?_
  ·simp only[List.take_zero,incs,List.foldl_nil]
   exact Cut.of' 4 rfl (by omega) (by simp (disch:=first|omega|simp (disch:=omega) only[aG]) only[fZ]) (by simp (disch:=first|omega|simp (disch:=omega) only[aG]) only[fZ])
  rintro j hj
  have il:=y42 (quos t ws) (T.take j)
  by_cases hjl:j<zB2 t ws
  ·have hx:=T2 _ (ze9 (l:=T) (i:=j) (by omega))
   have his:=yv8 (quos t ws) T j (by omega)
   have hb:=hrb j (T.getD j 0).toNat (by omega)
   rw[(hsrt j (by omega)).1]at hb
   unfold inc at his
   simp (disch:=(try simp only[lZ]);omega) only[aZ,Int.toNat_natCast]
   refine⟨j+1,by omega,by omega,?_⟩
   rw[his]
   exact Cut.of' 4 rfl (by omega) (by simp (disch:=first|omega|simp (disch:=omega) only[aG]) only[fZ]) (by simp (disch:=first|omega|simp (disch:=omega) only[aG]) only[fZ])
  ·have hje:j=zB2 t ws:=by omega
   subst hje
   have hpR:zv7 t ws=incs (quos t ws) (T.take (zB2 t ws)):=(hsrt _ (by omega)).1
   simp (disch:=(try simp only[lZ]);omega) only[aZ,zx1]
   exact⟨.tup [.sl 0 0 1 0 ws.length,.v (.int .i64 0)],[⟨0,ints (zv7 t ws)⟩],Cut.of' 1 rfl (by omega) ⟨rfl,by rw[hpR];exact FzL.refl (zn6 _ _),trivial⟩ ⟨Fz.refl rfl,trivial⟩,.inr ⟨by rw[e1],0,rfl,rfl⟩⟩
end Go.Proofs.YtcppaddgclkekaaGreat
namespace Go.Proofs.YtcppaddgclkekaaGreat
open Go Go.Lft
set_option linter.unusedSimpArgs false
set_option linter.unusedVariables false
def isB(m o:Int)(b:Bt):Prop:=b.fr=m∧b.ot=o
instance(m o:Int):DecidablePred (isB m o):=fun b=>by unfold isB;infer_instance
def zf1(bs:List Bt)(m o:Int):Int:=idxE (isB m o) bs
def zu7(ms:List Mc)(b:Bt):Int :=
 if b.fr<0∨(ms.length:Int)≤b.fr∨b.ot<0∨(y4 (ms.getD b.fr.toNat []):Int)≤b.ot∨b.to<0∨(ms.length:Int)≤b.to then 7
 else if b.ln<1∨16<b.ln then 1 else 0
def y3a(bs:List Bt):Prop:=∃k,k<bs.length∧zf1 bs (bs.getD k b0).fr (bs.getD k b0).ot≠k
def ya5(ms:List Mc)(bs:List Bt):Prop:=∃i,i<ms.length∧∃o,o<y4 (ms.getD i [])∧zf1 bs i o<0
instance(bs:List Bt):Decidable (y3a bs):=by unfold y3a;infer_instance
instance(ms:List Mc)(bs:List Bt):Decidable (ya5 ms bs):=by unfold ya5;infer_instance
def zg9(ms:List Mc)(bs:List Bt):Int :=
 if zc7 (zu7 ms) bs≠0 then zc7 (zu7 ms) bs else if y3a bs then 6 else 0
def x0(p:Pl):Int :=
 if p.mat<1∨16<p.mat then 1 else if p.ms.length=0 then 10 else if 24<p.ms.length∨48<p.bs.length then 8
 else if zc7 (fun m=>w6 m p.mat) p.ms≠0 then zc7 (fun m=>w6 m p.mat) p.ms
 else if zg9 p.ms p.bs≠0 then zg9 p.ms p.bs
 else if ya5 p.ms p.bs then 3
 else if p.fd<0∨(p.ms.length:Int)≤p.fd then 7
 else if y4 (p.ms.getD p.fd.toNat [])=0 then 13 else 0
structure POk(p:Pl):Prop where
 m1:1≤p.mat
 m2:p.mat≤16
 n1:1≤p.ms.length
 n2:p.ms.length≤24
 b2:p.bs.length≤48
 mc:∀m∈p.ms,MOk m p.mat
 bt:∀b∈p.bs,0≤b.fr∧b.fr<p.ms.length∧0≤b.ot∧b.ot<y4 (p.ms.getD b.fr.toNat [])∧0≤b.to∧b.to<p.ms.length∧1≤b.ln∧b.ln≤16
 un:∀k,k<p.bs.length→zf1 p.bs (p.bs.getD k b0).fr (p.bs.getD k b0).ot=k
 op:∀i,i<p.ms.length→∀o,o<y4 (p.ms.getD i [])→0≤zf1 p.bs i o
 fd:0≤p.fd∧p.fd<p.ms.length
 fo:y4 (p.ms.getD p.fd.toNat [])≠0
theorem y46{ms:List Mc}{b:Bt}(h:zu7 ms b=0):0≤b.fr∧b.fr<ms.length∧0≤b.ot∧b.ot<y4 (ms.getD b.fr.toNat [])∧0≤b.to∧b.to<ms.length∧1≤b.ln∧b.ln≤16:=by
 unfold zu7 at h
 split at h
 ·cases h
 ·split at h
  ·cases h
  ·omega
theorem y6{p:Pl}(h:x0 p=0):POk p:=by
 unfold x0 at h
 split at h
 ·cases h
 rename_i h1
 split at h
 ·cases h
 rename_i h2
 split at h
 ·cases h
 rename_i h3
 split at h
 ·contradiction
 rename_i h4
 split at h
 ·contradiction
 rename_i h5
 split at h
 ·cases h
 rename_i h6
 split at h
 ·cases h
 rename_i h7
 split at h
 ·cases h
 rename_i h8
 have h5:=Classical.not_not.1 h5
 unfold zg9 at h5
 split at h5
 ·contradiction
 rename_i h9
 split at h5
 ·cases h5
 rename_i h10
 refine⟨by omega,by omega,by omega,by omega,by omega,fun m hm=>zL5 (zg7 (Classical.not_not.1 h4) m hm),fun b hb=>y46 (zg7 (Classical.not_not.1 h9) b hb),fun k hk=>?_,fun i hi o ho=>?_,by omega,h8⟩
 ·apply Classical.byContradiction;intro hc;exact h10 ⟨k,hk,hc⟩
 ·apply Classical.byContradiction;intro hc;exact h6 ⟨i,hi,o,ho,by omega⟩
theorem z7d{bs:List Bt}{m o:Int}(h:0≤zf1 bs m o):(zf1 bs m o).toNat<bs.length∧(bs.getD (zf1 bs m o).toNat b0).fr=m∧(bs.getD (zf1 bs m o).toNat b0).ot=o:=by
 have h1:=z5j (isB m o) bs
 have h2:=z2w (p:=isB m o) b0 h
 unfold zf1 at h ⊢
 exact⟨by omega,h2⟩
theorem yS5(bs:List Bt)(m o:Int):-1≤zf1 bs m o∧zf1 bs m o<bs.length:=z5j (isB m o) bs
def outB(p:Pl)(mt:Int)(at0:Nat):Nat:=(zf1 p.bs at0 (zd8 (p.ms.getD at0 []) mt)).toNat
def nx(p:Pl)(mt:Int)(at0:Nat):Nat:=(p.bs.getD (outB p mt at0) b0).to.toNat
def lx(p:Pl)(mt:Int)(at0:Nat):Int:=(p.bs.getD (outB p mt at0) b0).ln
def binN(p:Pl)(at0:Nat):Prop:=y4 (p.ms.getD at0 [])=0
instance(p:Pl):DecidablePred (binN p):=fun i=>by unfold binN;infer_instance
def wayR(p:Pl)(mt:Int):Nat→Nat→Int→Int×Bool
 | 0,at0,n=>if binN p at0 then(n,true)else(0,false)
 | f+1,at0,n=>if binN p at0 then(n,true)else wayR p mt f (nx p mt at0) (n+lx p mt at0)
def posR(p:Pl)(mt:Int)(m:Nat):Nat→Nat
 | 0=>m
 | k+1=>nx p mt (posR p mt m k)
def farR(p:Pl)(mt:Int)(m:Nat):Nat→Int
 | 0=>0
 | k+1=>farR p mt m k+lx p mt (posR p mt m k)
theorem z6p{p:Pl}(h:POk p){mt:Int}(h0:0≤mt)(h1:mt<p.mat){i:Nat}(hi:i<p.ms.length)(hb:¬binN p i):
    0≤zf1 p.bs i (zd8 (p.ms.getD i []) mt)∧outB p mt i<p.bs.length∧(p.bs.getD (outB p mt i) b0).fr=i∧nx p mt i<p.ms.length∧(p.bs.getD (outB p mt i) b0).to=nx p mt i∧1≤lx p mt i∧lx p mt i≤16:=by
  have hm:=h.mc _ (x3 [] hi)
  obtain⟨g1,g2,g3⟩:=z4k hm hb h0 h1
  have h2:0≤zf1 p.bs i (zd8 (p.ms.getD i []) mt):=by
    have:=h.op i hi (zd8 (p.ms.getD i []) mt).toNat (by omega)
    rw[Int.toNat_of_nonneg g1]at this;exact this
  obtain⟨h3,h4,h5⟩:=z7d h2
  have h6:=h.bt _ (x3 b0 h3)
  have h7:(p.bs.getD (outB p mt i) b0).to=nx p mt i:=by unfold nx outB;omega
  refine⟨h2,h3,h4,?_,h7,h6.2.2.2.2.2.2.1,h6.2.2.2.2.2.2.2⟩
  unfold outB at h7;omega
theorem z5q{p:Pl}(h:POk p){mt:Int}(h0:0≤mt)(h1:mt<p.mat){m:Nat}(hm:m<p.ms.length):∀(k:Nat),(∀i,i<k→¬binN p (posR p mt m i))→posR p mt m k<p.ms.length
 | 0,_=>hm
 | k+1,hb=>(z6p h h0 h1 (z5q h h0 h1 hm k fun i hi=>hb i (by omega)) (hb k (by omega))).2.2.2.1
theorem z5r{p:Pl}(h:POk p){mt:Int}(h0:0≤mt)(h1:mt<p.mat){m:Nat}(hm:m<p.ms.length):∀(k:Nat),(∀i,i<k→¬binN p (posR p mt m i))→0≤farR p mt m k∧farR p mt m k≤16*k
 | 0,_=>by simp [farR]
 | k+1,hb=>by
  have h2:=z5r h h0 h1 hm k fun i hi=>hb i (by omega)
  have h3:=z6p h h0 h1 (z5q h h0 h1 hm k fun i hi=>hb i (by omega)) (hb k (by omega))
  simp only[farR];omega
theorem z8V{p:Pl}{mt:Int}{m:Nat}:∀(k f:Nat),(∀i,i<k→¬binN p (posR p mt m i))→wayR p mt (k+f) m 0=wayR p mt f (posR p mt m k) (farR p mt m k)
 | 0,f,_=>by simp [posR,farR]
 | k+1,f,hb=>by
  rw[show k+1+f=k+(f+1) by omega,z8V k (f+1) fun i hi=>hb i (by omega)]
  simp only[wayR,posR,farR]
  rw[if_neg (hb k (by omega))]
theorem y47{p:Pl}{mt:Int}{f at0:Nat}{n:Int}(h:binN p at0):wayR p mt f at0 n=(n,true):=by
 cases f<;>simp [wayR,h]
theorem yw7{p:Pl}{mt:Int}{m:Nat}(h:∀i,¬binN p (posR p mt m i))(f:Nat):wayR p mt f m 0=(0,false):=by
 have:=z8V (p:=p) (mt:=mt) (m:=m) f 0 fun i _=>h i
 rw[Nat.add_zero]at this
 rw[this];simp [wayR,h f]
theorem xs3{p:Pl}{mt:Int}{m i j:Nat}(hij:i<j)(he:posR p mt m i=posR p mt m j):∀k,∃l,l<j∧posR p mt m k=posR p mt m l:=by
 intro k
 induction k with
 | zero=>exact⟨0,by omega,rfl⟩
 | succ k ih =>
  obtain⟨l,h1,h2⟩:=ih
  by_cases hl:l+1<j
  ·exact⟨l+1,hl,by simp only[posR,h2]⟩
  ·have:l+1=j:=by omega
   exact⟨i,hij,by rw[he,← this];simp only[posR,h2]⟩
theorem yd6{p:Pl}{mt:Int}{m i j:Nat}(hij:i<j)(he:posR p mt m i=posR p mt m j)(hb:∀l,l<j→¬binN p (posR p mt m l)):∀k,¬binN p (posR p mt m k):=fun k=>by
 obtain⟨l,h1,h2⟩:=xs3 hij he k
 rw[h2];exact hb l h1
theorem y3b:∀(n:Nat) (f:Nat→Nat),(∀i,i≤n→f i<n)→∃i j,i<j∧j≤n∧f i=f j
 | 0,f,h=>by have:=h 0 (by omega);omega
 | n+1,f,h=>by
  by_cases hx:∃i,i≤n∧f i=f (n+1)
  ·obtain⟨i,h1,h2⟩:=hx;exact⟨i,n+1,by omega,by omega,h2⟩
  ·have hne:∀i,i≤n→f i≠f (n+1):=fun i hi hc=>hx ⟨i,hi,hc⟩
   obtain⟨i,j,h1,h2,h3⟩:=y3b n (fun i=>if f i=n then f (n+1)else f i) fun i hi=>by
    have a1:=h i (by omega)
    have a2:=h (n+1) (by omega)
    have a3:=hne i hi
    split<;>omega
   have a1:=hne i (by omega)
   have a2:=hne j h2
   refine⟨i,j,h1,by omega,?_⟩
   split at h3<;>split at h3<;>omega
theorem y48{p:Pl}(h:POk p){mt:Int}(h0:0≤mt)(h1:mt<p.mat){m:Nat}(hm:m<p.ms.length)(hb:∀i,i<p.ms.length→¬binN p (posR p mt m i)):∀k,¬binN p (posR p mt m k):=by
 obtain⟨i,j,h2,h3,h4⟩:=y3b p.ms.length (posR p mt m) fun i hi=>z5q h h0 h1 hm i fun l hl=>hb l (by omega)
 exact yd6 h2 h4 fun l hl=>hb l (by omega)
theorem yk5{p:Pl}{mt:Int}{m k f:Nat}(hk:k≤f)(hb:∀i,i<k→¬binN p (posR p mt m i))(he:binN p (posR p mt m k)):wayR p mt f m 0=(farR p mt m k,true):=by
 rw[show f=k+(f-k) by omega,z8V k _ hb,y47 he]
theorem xs4{Q:Nat→Prop}(h:∃k,Q k):∃k,Q k∧∀i,i<k→¬Q i:=by
 obtain⟨k,hk⟩:=h
 induction k using Nat.strongRecOn with
 | ind k ih =>
  by_cases hx:∃i,i<k∧Q i
  ·obtain⟨i,h1,h2⟩:=hx;exact ih i h1 h2
  ·exact⟨k,hk,fun i hi hq=>hx ⟨i,hi,hq⟩⟩
theorem z0R{p:Pl}(h:POk p){mt:Int}(h0:0≤mt)(h1:mt<p.mat){m:Nat}(hm:m<p.ms.length):
    (∃k,k<p.ms.length∧(∀i,i<k→¬binN p (posR p mt m i))∧binN p (posR p mt m k)∧wayR p mt p.ms.length m 0=(farR p mt m k,true)) ∨
    ((∀i,¬binN p (posR p mt m i))∧wayR p mt p.ms.length m 0=(0,false)):=by
  by_cases hx:∃k,k<p.ms.length∧binN p (posR p mt m k)
  · obtain⟨k0,g1,g2⟩:=hx
    obtain⟨k,k1,k2⟩:=xs4 (Q:=fun k=>binN p (posR p mt m k)) ⟨k0,g2⟩
    have hle:k≤k0:=Nat.le_of_not_lt fun hc=>k2 k0 hc g2
    exact .inl ⟨k,by omega,k2,k1,yk5 (by omega) k2 k1⟩
  · have hn:∀i,i<p.ms.length→¬binN p (posR p mt m i):=fun i hi hc=>hx ⟨i,hi,hc⟩
    have:=y48 h h0 h1 hm hn
    exact .inr ⟨this,yw7 this _⟩
theorem t1:x0 ⟨1,[[[900,100]],[[]]],[⟨0,0,1,2⟩,⟨0,1,0,3⟩],0⟩=0:=by decide +kernel
end Go.Proofs.YtcppaddgclkekaaGreat
namespace Go.Proofs.YtcppaddgclkekaaGreat
open Go Go.Lft
set_option linter.unusedSimpArgs false
set_option linter.unusedVariables false
attribute [local congr] Q5 Q6 Q7 Q9 Z7 Z8 za0 Z9 Y0 Y2 za1 Q8
theorem W3{w:Bool}(m:Mc):VR P false z1I [mcA w m] [] (isR (.v (.int .i64 (y4 m)))):=by
 refine z8h (by simp) (.inr rfl) fun _ _=>?_
 unfold mcA mcC
 simp (disch:=(try simp only[lZ]);omega) only[aZ,aM,zH3,z1K]
 refine y1 (fun h1=>?_) (fun h1=>?_)
 ·simp (disch:=(try simp only[lZ]);omega) only[aZ,aM,z1L]
  refine y2 ⟨?_,rfl⟩
  have:m=[]:=List.eq_nil_of_length_eq_zero (by omega)
  subst this;rfl
 ·simp (disch:=(try simp only[lZ]);omega) only[aZ,aM,z1L]
  exact y2 ⟨rfl,rfl⟩
theorem zj7{w:Bool}(m:Mc):VR P false z58 [mcA w m] [] (isR (.v (.int .i64 (y4 m)))):=by
 refine yi2 (by simp) (.inr rfl) fun _ _=>?_
 unfold mcA mcC
 simp (disch:=(try simp only[lZ]);omega) only[aZ,aM,z0b,z6a]
 refine y1 (fun h1=>?_) (fun h1=>?_)
 ·simp (disch:=(try simp only[lZ]);omega) only[aZ,aM,z6b]
  refine y2 ⟨?_,rfl⟩
  have:m=[]:=List.eq_nil_of_length_eq_zero (by omega)
  subst this;rfl
 ·simp (disch:=(try simp only[lZ]);omega) only[aZ,aM,z6b]
  exact y2 ⟨rfl,rfl⟩
theorem yw8{m:Mc}{mat:Int}(h:¬(mat<0∨(m.length:Int)≤mat)){k:Nat}(hk:k<(m.getD mat.toNat []).length)(hb:∀i,i<k→¬0<(m.getD mat.toNat []).getD i 0)(hp:0<(m.getD mat.toNat []).getD k 0):zd8 m mat=k:=by
 unfold zd8;rw[if_neg h]
 exact zQ7 (p:=fun r:Int=>0<r) 0 hk hb hp
theorem yd7{m:Mc}{mat:Int}(h:¬(mat<0∨(m.length:Int)≤mat))(hb:∀i,i<(m.getD mat.toNat []).length→¬0<(m.getD mat.toNat []).getD i 0):zd8 m mat=-1:=by
 unfold zd8;rw[if_neg h]
 exact zz8 (p:=fun r:Int=>0<r) 0 hb
theorem z10{w:Bool}(m:Mc)(mat:Int)(hl:(m.getD mat.toNat []).length<1000000000):VR P false z1S [mcA w m,.v (.int .i64 mat)] [] (isR (.v (.int .i64 (zd8 m mat)))):=by
 refine z8D (by simp) (.inr rfl) fun _ _=>?_
 unfold mcA mcC
 simp (disch:=(try simp only[lZ]);omega) only[aZ,aM,zH7,z1U]
 refine y1 (fun h1=>?_) (fun h1=>?_)
 ·simp (disch:=(try simp only[lZ]);omega) only[aZ,aM,zH8]
  exact y2 ⟨by unfold zd8;rw[if_pos h1],rfl⟩
 simp (disch:=(try simp only[lZ]);omega) only[aZ,aM]
 refine AWP.loopP z6X (fun k:Nat=>k≤(m.getD mat.toNat []).length∧∀i,i<k→¬0<(m.getD mat.toNat []).getD i 0) (fun k=>[(2,.v (.int .i64 0)),(4,.v (.int .i64 k))]) (fun _=>[]) (fun k=>(m.getD mat.toNat []).length-k) 0 ⟨by omega,fun i hi=>by omega⟩ (by refine Cut.of' (1) ?_ (by omega) ?_ ?_<;>simp (disch:=first|omega|simp (disch:=omega) only[aG,aM]) only[fZ,aM]) ?_
 rintro k ⟨hk,hb⟩
 by_cases hlt:k<(m.getD mat.toNat []).length
 ·simp (disch:=(try simp only[lZ]);omega) only[aZ,aM]
  refine y1 (fun h3=>?_) (fun h3=>?_)
  ·simp (disch:=(try simp only[lZ]);omega) only[aZ,aM,zH8]
   exact y2 ⟨by rw[yw8 h1 hlt hb h3],rfl⟩
  ·simp (disch:=(try simp only[lZ]);omega) only[aZ,aM]
   refine⟨k+1,⟨by omega,fun i hi=>?_⟩,by omega,(by refine Cut.of' (1) ?_ (by omega) ?_ ?_<;>simp (disch:=first|omega|simp (disch:=omega) only[aG,aM]) only[fZ,aM])⟩
   rcases Nat.lt_succ_iff_lt_or_eq.1 hi with h|rfl
   ·exact hb i h
   ·exact h3
 ·simp (disch:=(try simp only[lZ]);omega) only[aZ,aM,zH8]
  exact y2 ⟨by rw[yd7 h1 fun i hi=>hb i (by omega)],rfl⟩
theorem yd8{w:Bool}(m:Mc)(mat:Int)(hl:(m.getD mat.toNat []).length<1000000000):VR P false z6g [mcA w m,.v (.int .i64 mat)] [] (isR (.v (.int .i64 (zd8 m mat)))):=by
 refine yi7 (by simp) (.inr rfl) fun _ _=>?_
 unfold mcA mcC
 simp (disch:=(try simp only[lZ]);omega) only[aZ,aM,z0i,z6i]
 refine y1 (fun h1=>?_) (fun h1=>?_)
 ·simp (disch:=(try simp only[lZ]);omega) only[aZ,aM,z0j]
  exact y2 ⟨by unfold zd8;rw[if_pos h1],rfl⟩
 simp (disch:=(try simp only[lZ]);omega) only[aZ,aM]
 refine AWP.loopP z97 (fun k:Nat=>k≤(m.getD mat.toNat []).length∧∀i,i<k→¬0<(m.getD mat.toNat []).getD i 0) (fun k=>[(2,.v (.int .i64 0)),(4,.v (.int .i64 k))]) (fun _=>[]) (fun k=>(m.getD mat.toNat []).length-k) 0 ⟨by omega,fun i hi=>by omega⟩ (by refine Cut.of' (1) ?_ (by omega) ?_ ?_<;>simp (disch:=first|omega|simp (disch:=omega) only[aG,aM]) only[fZ,aM]) ?_
 rintro k ⟨hk,hb⟩
 by_cases hlt:k<(m.getD mat.toNat []).length
 ·simp (disch:=(try simp only[lZ]);omega) only[aZ,aM]
  refine y1 (fun h3=>?_) (fun h3=>?_)
  ·simp (disch:=(try simp only[lZ]);omega) only[aZ,aM,z0j]
   exact y2 ⟨by rw[yw8 h1 hlt hb h3],rfl⟩
  ·simp (disch:=(try simp only[lZ]);omega) only[aZ,aM]
   refine⟨k+1,⟨by omega,fun i hi=>?_⟩,by omega,(by refine Cut.of' (1) ?_ (by omega) ?_ ?_<;>simp (disch:=first|omega|simp (disch:=omega) only[aG,aM]) only[fZ,aM])⟩
   rcases Nat.lt_succ_iff_lt_or_eq.1 hi with h|rfl
   ·exact hb i h
   ·exact h3
 ·simp (disch:=(try simp only[lZ]);omega) only[aZ,aM,z0j]
  exact y2 ⟨by rw[yd7 h1 fun i hi=>hb i (by omega)],rfl⟩
theorem yS6{outs:Nat}{r:List Int}(h:4<r.length):rowE outs r=8:=by unfold rowE;rw[if_pos h]
theorem yS7{outs:Nat}{r:List Int}(h:¬4<r.length)(h2:r.length≠outs):rowE outs r=3:=by unfold rowE;rw[if_neg h,if_pos h2]
theorem yw9{outs:Nat}{r:List Int}(h:¬4<r.length)(h2:r.length=outs){k:Nat}(hk:k<r.length)(hb:∀i,i<k→zr7 (r.getD i 0)=0)(hn:r.getD k 0<0∨1000<r.getD k 0):rowE outs r=1:=by
 unfold rowE
 have h3:=zc0 (f:=zr7) 0 hk hb (by rw[yd1 hn];omega)
 rw[yd1 hn]at h3
 rw[if_neg h,if_neg (by omega),h3];rfl
theorem y3c{outs:Nat}{r:List Int}(h:¬4<r.length)(h2:r.length=outs)(hb:∀i,i<r.length→zr7 (r.getD i 0)=0)(hs:0<r.length∧r.sum≠1000):rowE outs r=17:=by
 unfold rowE
 have h3:=Z0 (f:=zr7) 0 hb
 rw[if_neg h,if_neg (by omega),h3,if_neg (by omega),if_pos hs]
theorem y7d{outs:Nat}{r:List Int}(h:¬4<r.length)(h2:r.length=outs)(hb:∀i,i<r.length→zr7 (r.getD i 0)=0)(hs:¬(0<r.length∧r.sum≠1000)):rowE outs r=0:=by
 unfold rowE
 have h3:=Z0 (f:=zr7) 0 hb
 rw[if_neg h,if_neg (by omega),h3,if_neg (by omega),if_neg hs]
theorem y7e{r:List Int}{k:Nat}(hk:k≤r.length)(h4:¬4<r.length)(hb:∀i,i<k→zr7 (r.getD i 0)=0):0≤sumT r k∧sumT r k≤4000:=by
 have:=zI1 r 0 1000 k hk fun i hi=>z8N (hb i hi)
 omega
theorem y3d{w:Bool}(r:List Int)(outs:Nat):VR P false z8w [.fs w (ints r),.v (.int .i64 outs)] [] (isR (.v (.int .i64 (rowE outs r)))):=by
 refine yu0 (by simp) (.inr rfl) fun _ _=>?_
 simp (disch:=(try simp only[lZ]);omega) only[aZ,aM,z2q,z8y]
 refine y1 (fun h1=>?_) (fun h1=>?_)
 ·simp (disch:=(try simp only[lZ]);omega) only[aZ,aM,zz0]
  exact y2 ⟨by rw[yS6 (by omega)],rfl⟩
 have h1:¬4<r.length:=by omega
 simp (disch:=(try simp only[lZ]);omega) only[aZ,aM]
 refine y1 (fun h2=>?_) (fun h2=>?_)
 ·simp (disch:=(try simp only[lZ]);omega) only[aZ,aM,zz0]
  exact y2 ⟨by rw[yS7 h1 (by omega)],rfl⟩
 have h2:r.length=outs:=by omega
 simp (disch:=(try simp only[lZ]);omega) only[aZ,aM]
 refine AWP.loopP yi5 (fun k:Nat=>k≤r.length∧∀i,i<k→zr7 (r.getD i 0)=0) (fun k=>[(2,.v (.int .i64 0)),(3,.v (.int .i64 (sumT r k))),(4,.v (.int .i64 k))]) (fun _=>[]) (fun k=>r.length-k) 0 ⟨by omega,fun i hi=>by omega⟩ (by refine Cut.of' (0) ?_ (by omega) ?_ ?_<;>simp (disch:=first|omega|simp (disch:=omega) only[aG,aM]) only[fZ,aM,zf8]) ?_
 rintro k ⟨hk,hb⟩
 have hs:=y7e hk h1 hb
 by_cases hlt:k<r.length
 ·simp (disch:=(try simp only[lZ]);omega) only[aZ,aM]
  refine y1 (fun h3=>?_) (fun h3=>?_)
  ·simp (disch:=(try simp only[lZ]);omega) only[aZ,aM,zz0]
   exact y2 ⟨by rw[yw9 h1 h2 hlt hb h3],rfl⟩
  ·simp (disch:=(try simp only[lZ]);omega) only[aZ,aM]
   refine⟨k+1,⟨by omega,fun i hi=>?_⟩,by omega,(by refine Cut.of' (0) ?_ (by omega) ?_ ?_<;>simp (disch:=first|omega|simp (disch:=omega) only[aG,aM]) only[fZ,aM,zf9 r k hlt])⟩
   rcases Nat.lt_succ_iff_lt_or_eq.1 hi with h|rfl
   ·exact hb i h
   ·exact yu8 h3
 ·have hkl:k=r.length:=by omega
  subst hkl
  rw[ze8]
  simp (disch:=(try simp only[lZ]);omega) only[aZ,aM]
  refine y1 (fun h3=>?_) (fun h3=>?_)
  ·simp (disch:=(try simp only[lZ]);omega) only[aZ,aM,zz0]
   exact y2 ⟨by rw[y3c h1 h2 hb (by omega)],rfl⟩
  ·simp (disch:=(try simp only[lZ]);omega) only[aZ,aM,zz0]
   exact y2 ⟨by rw[y7d h1 h2 hb (by omega)],rfl⟩
theorem z6q{m:Mc}{mat:Int}(h:mat<1∨16<mat):w6 m mat=1:=by unfold w6;rw[if_pos h]
theorem yd9{m:Mc}{mat:Int}(h:¬(mat<1∨16<mat))(h2:(m.length:Int)≠mat):w6 m mat=18:=by unfold w6;rw[if_neg h,if_pos h2]
theorem zM0{m:Mc}{mat:Int}(h:¬(mat<1∨16<mat))(h2:(m.length:Int)=mat){k:Nat}(hk:k<m.length)(hb:∀i,i<k→rowE (y4 m) (m.getD i [])=0)(hn:rowE (y4 m) (m.getD k [])≠0):w6 m mat=rowE (y4 m) (m.getD k []):=by
 unfold w6;rw[if_neg h,if_neg (by omega)]
 exact zc0 [] hk hb hn
theorem z8W{m:Mc}{mat:Int}(h:¬(mat<1∨16<mat))(h2:(m.length:Int)=mat)(hb:∀i,i<m.length→rowE (y4 m) (m.getD i [])=0):w6 m mat=0:=by
 unfold w6;rw[if_neg h,if_neg (by omega)]
 exact Z0 [] hb
theorem yk6(m:Mc):(m.getD 0 []).length=y4 m:=rfl
theorem z4q{w:Bool}(m:Mc)(mat:Int):VR P false z3B [mcA w m,.v (.int .i64 mat)] [] (isR (.v (.int .i64 (w6 m mat)))):=by
 refine z9Y (by simp) (.inr rfl) fun _ _=>?_
 unfold mcA mcC
 simp (disch:=(try simp only[lZ]);omega) only[aZ,aM,zP1,z3D]
 refine y1 (fun h1=>?_) (fun h1=>?_)
 ·simp (disch:=(try simp only[lZ]);omega) only[aZ,aM,zw9]
  exact y2 ⟨by rw[z6q h1],rfl⟩
 simp (disch:=(try simp only[lZ]);omega) only[aZ,aM]
 refine y1 (fun h2=>?_) (fun h2=>?_)
 ·simp (disch:=(try simp only[lZ]);omega) only[aZ,aM,zw9]
  exact y2 ⟨by rw[yd9 h1 h2],rfl⟩
 have h2:(m.length:Int)=mat:=by omega
 subst h2
 simp (disch:=(try simp only[lZ]);omega) only[aZ,aM]
 refine AWP.loopP z8k (fun k:Nat=>k≤m.length∧∀i,i<k→rowE (y4 m) (m.getD i [])=0) (fun k=>[(2,.v (.int .i64 0)),(4,.v (.int .i64 k))]) (fun _=>[]) (fun k=>m.length-k) 0 ⟨by omega,fun i hi=>by omega⟩ (by refine Cut.of' (1) ?_ (by omega) ?_ ?_<;>simp (disch:=first|omega|simp (disch:=omega) only[aG,aM]) only[fZ,aM]) ?_
 rintro k ⟨hk,hb⟩
 by_cases hlt:k<m.length
 ·simp (disch:=(try simp only[lZ]);omega) only[aZ,aM,yk6]
  refine(y3d (w:=w) (m.getD k []) (y4 m)).same (by simp (disch:=first|omega|simp (disch:=omega) only[aG,aM]) only[fZ,aM]) rfl (z7 ?_)
  simp (disch:=(try simp only[lZ]);omega) only[aZ,aM]
  refine y1 (fun h3=>?_) (fun h3=>?_)
  ·simp (disch:=(try simp only[lZ]);omega) only[aZ,aM,zw9]
   exact y2 ⟨by rw[zM0 h1 rfl hlt hb h3],rfl⟩
  ·simp (disch:=(try simp only[lZ]);omega) only[aZ,aM]
   refine⟨k+1,⟨by omega,fun i hi=>?_⟩,by omega,(by refine Cut.of' (1) ?_ (by omega) ?_ ?_<;>simp (disch:=first|omega|simp (disch:=omega) only[aG,aM]) only[fZ,aM])⟩
   rcases Nat.lt_succ_iff_lt_or_eq.1 hi with h|rfl
   ·exact hb i h
   ·exact Classical.not_not.1 h3
 ·have hkl:k=m.length:=by omega
  subst hkl
  simp (disch:=(try simp only[lZ]);omega) only[aZ,aM,zw9]
  exact y2 ⟨by rw[z8W h1 rfl hb],rfl⟩
theorem zA1{w:Bool}(m:Mc)(mat:Int):VR P false zZ5 [mcA w m,.v (.int .i64 mat)] [] (isR (.v (.int .i64 (w6 m mat)))):=by
 have hou:=yk6 m
 refine z6N (by simp) (.inr rfl) fun _ _=>?_
 unfold mcA mcC
 simp (disch:=(try simp only[lZ]);omega) only[aZ,aM,zy7,zZ7]
 refine y1 (fun h1=>?_) (fun h1=>?_)
 ·simp (disch:=(try simp only[lZ]);omega) only[aZ,aM,W4]
  exact y2 ⟨by rw[z6q h1],rfl⟩
 simp (disch:=(try simp only[lZ]);omega) only[aZ,aM]
 refine y1 (fun h2=>?_) (fun h2=>?_)
 ·simp (disch:=(try simp only[lZ]);omega) only[aZ,aM,W4]
  exact y2 ⟨by rw[yd9 h1 h2],rfl⟩
 have h2:(m.length:Int)=mat:=by omega
 subst h2
 simp (disch:=(try simp only[lZ]);omega) only[aZ,aM]
 refine AWP.loopP z43 (fun k:Nat=>k≤m.length∧∀i,i<k→rowE (y4 m) (m.getD i [])=0) (fun k=>[(4,.v (.int .i64 0)),(5,.v (.int .i64 k))]) (fun _=>[]) (fun k=>m.length-k) 0 ⟨by omega,fun i hi=>by omega⟩ (by refine Cut.of' (1) ?_ (by omega) ?_ ?_<;>simp (disch:=first|omega|simp (disch:=omega) only[aG,aM]) only[fZ,aM]) ?_
 rintro k ⟨hk,hb⟩
 by_cases hlt:k<m.length
 ·simp (disch:=(try simp only[lZ]);omega) only[aZ,aM,yk6]
  refine y1 (fun h3=>?_) (fun h3=>?_)
  ·have hr:rowE (y4 m) (m.getD k [])=8:=yS6 (by omega)
   simp (disch:=(try simp only[lZ]);omega) only[aZ,aM,W4]
   exact y2 ⟨by rw[zM0 h1 rfl hlt hb (by omega),hr],rfl⟩
  have h3:¬4<(m.getD k []).length:=by omega
  simp (disch:=(try simp only[lZ]);omega) only[aZ,aM]
  refine y1 (fun h4=>?_) (fun h4=>?_)
  ·have hr:rowE (y4 m) (m.getD k [])=3:=yS7 h3 (by omega)
   simp (disch:=(try simp only[lZ]);omega) only[aZ,aM,W4]
   exact y2 ⟨by rw[zM0 h1 rfl hlt hb (by omega),hr],rfl⟩
  have h4:(m.getD k []).length=y4 m:=by omega
  simp (disch:=(try simp only[lZ]);omega) only[aZ,aM]
  refine AWP.loopP z44 (fun j:Nat=>j≤(m.getD k []).length∧∀i,i<j→zr7 ((m.getD k []).getD i 0)=0) (fun j=>[(4,.v (.int .i64 0)),(10,.v (.int .i64 (sumT (m.getD k []) j))),(11,.v (.int .i64 j))]) (fun _=>[]) (fun j=>(m.getD k []).length-j) 0 ⟨by omega,fun i hi=>by omega⟩ (by refine Cut.of' (1) ?_ (by omega) ?_ ?_<;>simp (disch:=first|omega|simp (disch:=omega) only[aG,aM]) only[fZ,aM,zf8]) ?_
  rintro j ⟨hj,hc⟩
  have hs:=y7e hj h3 hc
  by_cases hjl:j<(m.getD k []).length
  ·simp (disch:=(try simp only[lZ]);omega) only[aZ,aM]
   refine y1 (fun h5=>?_) (fun h5=>?_)
   ·have hr:=yw9 h3 h4 hjl hc h5
    simp (disch:=(try simp only[lZ]);omega) only[aZ,aM,W4]
    exact y2 ⟨by rw[zM0 h1 rfl hlt hb (by omega),hr],rfl⟩
   ·simp (disch:=(try simp only[lZ]);omega) only[aZ,aM]
    refine⟨j+1,⟨by omega,fun i hi=>?_⟩,by omega,(by refine Cut.of' (1) ?_ (by omega) ?_ ?_<;>simp (disch:=first|omega|simp (disch:=omega) only[aG,aM]) only[fZ,aM,zf9 _ j hjl])⟩
    rcases Nat.lt_succ_iff_lt_or_eq.1 hi with h|rfl
    ·exact hc i h
    ·exact yu8 h5
  ·have hje:j=(m.getD k []).length:=by omega
   subst hje
   rw[ze8]
   rw[ze8]at hs
   simp (disch:=(try simp only[lZ]);omega) only[aZ,aM]
   refine y1 (fun h5=>?_) (fun h5=>?_)
   ·have hr:=y3c h3 h4 hc (by omega)
    simp (disch:=(try simp only[lZ]);omega) only[aZ,aM,W4]
    exact y2 ⟨by rw[zM0 h1 rfl hlt hb (by omega),hr],rfl⟩
   ·have hr:=y7d h3 h4 hc (by omega)
    simp (disch:=(try simp only[lZ]);omega) only[aZ,aM]
    refine⟨k+1,⟨by omega,fun i hi=>?_⟩,by omega,(by refine Cut.of' (1) ?_ (by omega) ?_ ?_<;>simp (disch:=first|omega|simp (disch:=omega) only[aG,aM]) only[fZ,aM])⟩
    rcases Nat.lt_succ_iff_lt_or_eq.1 hi with h|rfl
    ·exact hb i h
    ·exact hr
 ·have hkl:k=m.length:=by omega
  subst hkl
  simp (disch:=(try simp only[lZ]);omega) only[aZ,aM,W4]
  exact y2 ⟨by rw[z8W h1 rfl hb],rfl⟩
theorem zl8{m:Mc}{mat:Int}(h:MOk m mat)(ho:y4 m≠0){k:Nat}(hk:k<m.length){t:Int}(ht:0≤t∧t≤1073741824):zL7 t (m.getD k [])=0∧(m.getD k []).sum=1000∧(m.getD k []).length=y4 m∧y4 m≤4∧∀i,i<(m.getD k []).length→0≤(m.getD k []).getD i 0∧(m.getD k []).getD i 0≤1000:=by
 obtain⟨r1,r2,r3,r4⟩:=h.row _ (x3 [] hk)
 have hs:=r4 (by omega)
 have hb:∀i,i<(m.getD k []).length→0≤(m.getD k []).getD i 0∧(m.getD k []).getD i 0≤1000:=fun i hi=>r3 _ (ze9 hi)
 refine⟨?_,hs,r1,by omega,hb⟩
 have hw:zj6 (m.getD k [])=(1000,0):=by
  rw[z8S (by omega) (by
   rintro⟨i,hi,h2⟩
   have:=hb i hi
   unfold badW at h2;omega),hs,if_pos (by omega)]
 unfold zL7
 rw[hw,if_neg (by omega),if_neg (by simp),if_neg (by simp)]
theorem y8b{m:Mc}{mat:Int}(h:MOk m mat)(ho:y4 m≠0){k:Nat}(hk:k<m.length){t:Int}(ht:0≤t∧t≤1073741824):y8a t (m.getD k []):=by
 obtain⟨h1,h2,h3,h4,h5⟩:=zl8 h ho hk ht
 refine yD1 (zA0 h1) fun i hi=>?_
 have:=h5 i hi
 have:t*(m.getD k []).getD i 0≤1073741824*1000:=Int.mul_le_mul ht.2 this.2 this.1 (by omega)
 omega
def divR(l:List Int)(main:Nat)(mass:Int):List Int :=
 if mass=0∨0<l.getD main 0 then l else(l.set (zc1 l) (l.getD (zc1 l) 0-1)).set main 1
theorem z7e(l:List Int)(main:Nat)(mass:Int):(divR l main mass).length=l.length:=by unfold divR;split<;>simp
def divM(m:Mc)(k:Nat)(mass:Int):List Int:=divR (zv7 mass (m.getD k [])) (zd8 m k).toNat mass
theorem yD2{w:Bool}(l:List Int)(h0:0<l.length)(hl:l.length<1000000):VR P false zF0 [.fs w (ints l)] [] (isR (.v (.int .i64 (zc1 l)))):=by
 refine z2u (by simp) (.inr rfl) fun _ _=>?_
 simp (disch:=(try simp only[lZ]);omega) only[aZ,aM,zl3,zF2]
 refine AWP.loopP z06 (fun k:Nat=>k≤l.length) (fun k=>[(2,.v (.int .i64 (zi1 l k))),(3,.v (.int .i64 k))]) (fun _=>[]) (fun k=>l.length-k) 0 (by omega) ?_ ?_
 ·simp only[zi1]
  exact Cut.of' 0 rfl (by omega) (by simp (disch:=first|omega|simp (disch:=omega) only[aG,aM]) only[fZ,aM]) (by simp (disch:=first|omega|simp (disch:=omega) only[aG,aM]) only[fZ,aM])
 rintro k hk
 have hbl:zi1 l k<l.length:=by
  by_cases h:0<k
  ·have:=zx2 l k h;omega
  ·have:k=0:=by omega
   subst this;exact h0
 by_cases hlt:k<l.length
 ·have hbs:zi1 l (k+1)=if l.getD (zi1 l k) 0<l.getD k 0 then k else zi1 l k:=rfl
  simp (disch:=(try simp only[lZ]);omega) only[aZ,aM]
  refine y1 (fun h5=>?_) (fun h5=>?_)
  ·rw[if_pos h5]at hbs
   simp (disch:=(try simp only[lZ]);omega) only[aZ,aM]
   refine⟨k+1,by omega,by omega,?_⟩
   rw[hbs]
   exact Cut.of' 0 rfl (by omega) (by simp (disch:=first|omega|simp (disch:=omega) only[aG,aM]) only[fZ,aM]) (by simp (disch:=first|omega|simp (disch:=omega) only[aG,aM]) only[fZ,aM])
  ·rw[if_neg h5]at hbs
   simp (disch:=(try simp only[lZ]);omega) only[aZ,aM]
   refine⟨k+1,by omega,by omega,?_⟩
   rw[hbs]
   exact Cut.of' 0 rfl (by omega) (by simp (disch:=first|omega|simp (disch:=omega) only[aG,aM]) only[fZ,aM]) (by simp (disch:=first|omega|simp (disch:=omega) only[aG,aM]) only[fZ,aM])
 ·have hke:k=l.length:=by omega
  subst hke
  simp (disch:=(try simp only[lZ]);omega) only[aZ,aM,z4d]
  exact y2 ⟨rfl,rfl⟩
theorem z8X{t:Int}{ws l:List Int}(h:SpR t ws l)(ht:0<t)(hne:ws≠[]):0<l.getD (zc1 l) 0:=by
 apply Int.lt_of_not_ge;intro hc
 have hl:0<l.length:=by rw[h.len];exact List.length_pos_iff.2 hne
 have:=(z4m l l.length).1
 change ∀i,i<l.length→l.getD i 0≤l.getD (zc1 l) 0 at this
 have hs:=yj4 0 l fun x hx=>by
  obtain⟨i,h1,rfl⟩:=zq1 hx
  have:=this i h1;omega
 rw[h.sum]at hs;omega
theorem yS8{t:Int}{ws l:List Int}(h:SpR t ws l)(ok:SplitOk t ws):∀i,i<l.length→0≤l.getD i 0∧l.getD i 0≤t+1:=fun i hi=>by
 have:=q_le ok (i:=i) (by rw[← h.len];exact hi)
 rcases h.two i (by rw[← h.len];exact hi)with h1|⟨h1,_⟩<;>omega
theorem yZ7{w:Bool}(m:Mc)(mat:Int)(h:MOk m mat)(ho:y4 m≠0)(k:Nat)(hk:k<m.length)(t:Int)(ht:0≤t∧t≤1073741824):VR P false zK7 [mcA w m,.v (.int .i64 k),.v (.int .i64 t)] [] (isR (.fs true (ints (divM m k t)))):=by
 refine z39 (by simp) (.inr rfl) fun _ _=>?_
 obtain⟨h1,h2,h3,h4,h5⟩:=zl8 h ho hk ht
 have hd:=y8b h ho hk ht
 have ok:=zA0 h1
 have hsp:=z4n ok.sp
 have hne:m.getD k []≠[]:=ok.sp.ne
 have hlen:=h.len
 obtain⟨g1,g2,g3⟩:=z4k h ho (k:=k) (by omega) (by omega)
 have hrow:((m.getD (k:Int).toNat []).length)<1000000000:=by rw[Int.toNat_natCast];omega
 unfold mcA mcC divM
 simp (disch:=(try simp only[lZ]);omega) only[aZ,aM,zo7,zK9]
 refine(ya4 (w:=w) t (m.getD k []) fun _=>hd).useS (LdL.refl (by simp (disch:=first|omega|simp (disch:=omega) only[aG,aM]) only[fZ,aM])) ?_ ?_
 ·rintro r G (⟨_,rfl,rfl⟩|⟨_,ver,rfl,rfl⟩)
  ·rfl
  ·simp (disch:=first|omega|simp (disch:=omega) only[aG,aM]) only[fZ,aM,List.all_cons,List.all_nil]
 rintro r G (⟨hbad,rfl,rfl⟩|⟨_,ver,rfl,rfl⟩)
 ·exfalso;apply hbad;unfold zL8;rw[if_neg (by omega)]
 refine z7 ?_
 have e1:A.shL 1 (ints (zv7 t (m.getD k [])))=ints (zv7 t (m.getD k [])):=zR8 _ (zn6 0 _)
 have hpl:=hsp.len
 have hpb:=yS8 hsp ok
 have hpp:=fun hp=>z8X hsp hp hne
 generalize zv7 t (m.getD k [])=l at *
 simp (disch:=(try simp only[lZ]);omega) only[aZ,aM,A.sh,A.shL,Blk.sh,List.map_cons,List.map_nil,e1]
 refine(z10 (w:=w) m k hrow).same (by unfold mcA mcC;simp (disch:=first|omega|simp (disch:=omega) only[aG,aM]) only[fZ,aM]) rfl (z7 ?_)
 have hmb:=hpb (zd8 m k).toNat (by omega)
 simp (disch:=(try simp only[lZ]);omega) only[aZ,aM]
 refine y1 (fun h6=>?_) (fun h6=>?_)
 ·have hdv:divR l (zd8 m k).toNat t=(l.set (zc1 l) (l.getD (zc1 l) 0-1)).set (zd8 m k).toNat 1:=by unfold divR;rw[if_neg (by omega)]
  have hbp:=hpp (by omega)
  have hbl:zc1 l<l.length:=zx2 l l.length (by omega)
  have hbb:=hpb _ hbl
  have hbm:zc1 l≠(zd8 m k).toNat:=by intro hc;rw[hc]at hbp;omega
  have hg:(l.set (zc1 l) (l.getD (zc1 l) 0-1)).getD (zd8 m k).toNat 0=0:=by rw[X4,if_neg (fun h=>hbm h.1)];omega
  have z:(0:Int)+1=1:=rfl
  simp (disch:=(try simp only[lZ]);omega) only[aZ,aM]
  refine(yD2 (w:=false) l (by omega) (by omega)).use ⟨zB9 _ 1 ver _ l hpl.symm (by simp (disch:=(try simp only[lZ]);omega) only[aZ,aM]),trivial⟩ rfl (z7 ?_)
  simp (disch:=(try simp only[lZ]);omega) only[aZ,aM,Int.toNat_natCast,hg,z,← hdv,zL0]
  exact x1 (zR9 0 _ 1 ver _ (divR l (zd8 m k).toNat t) (by omega) (by rw[z7e];omega) (by simp (disch:=(try simp only[lZ]);omega) only[aZ,aM])) ⟨rfl,rfl⟩
 ·have hdv:divR l (zd8 m k).toNat t=l:=by unfold divR;rw[if_pos (by omega)]
  rw[hdv]
  simp (disch:=(try simp only[lZ]);omega) only[aZ,aM,zL0]
  exact x1 (zR9 0 _ 1 ver _ l (by omega) hpl.symm (by simp (disch:=(try simp only[lZ]);omega) only[aZ,aM])) ⟨rfl,rfl⟩
theorem yD3{w:Bool}(m:Mc)(mat:Int)(h:MOk m mat)(ho:y4 m≠0)(k:Nat)(hk:k<m.length)(t:Int)(ht:0≤t∧t≤1073741824):VR P false z3N [mcA w m,.v (.int .i64 k),.v (.int .i64 t)] [] (isR (.fs true (ints (divM m k t)))):=by
 refine z91 (by simp) (.inr rfl) fun _ _=>?_
 obtain⟨h1,h2,h3,h4,h5⟩:=zl8 h ho hk ht
 have ok:=zA0 h1
 have hsp:=z4n ok.sp
 have hne:m.getD k []≠[]:=ok.sp.ne
 have hlen:=h.len
 obtain⟨g1,g2,g3⟩:=z4k h ho (k:=k) (by omega) (by omega)
 have hrow:((m.getD (k:Int).toNat []).length)<1000000000:=by rw[Int.toNat_natCast];omega
 unfold mcA mcC divM
 simp (disch:=(try simp only[lZ]);omega) only[aZ,aM,zP4,z3P]
 refine(ya2 (w:=w) t (m.getD k [])).useS (LdL.refl (by simp (disch:=first|omega|simp (disch:=omega) only[aG,aM]) only[fZ,aM])) ?_ ?_
 ·rintro r G (⟨_,rfl,rfl⟩|⟨_,ver,rfl,rfl⟩)
  ·rfl
  ·simp (disch:=first|omega|simp (disch:=omega) only[aG,aM]) only[fZ,aM,List.all_cons,List.all_nil]
 rintro r G (⟨hbad,rfl,rfl⟩|⟨_,ver,rfl,rfl⟩)
 ·exfalso;apply hbad;unfold zL8;rw[if_neg (by omega)]
 refine z7 ?_
 have e1:A.shL 1 (ints (zv7 t (m.getD k [])))=ints (zv7 t (m.getD k [])):=zR8 _ (zn6 0 _)
 have hpl:=hsp.len
 have hpb:=yS8 hsp ok
 have hpp:=fun hp=>z8X hsp hp hne
 generalize zv7 t (m.getD k [])=l at *
 simp (disch:=(try simp only[lZ]);omega) only[aZ,aM,A.sh,A.shL,Blk.sh,List.map_cons,List.map_nil,e1]
 refine(yd8 (w:=w) m k hrow).same (by unfold mcA mcC;simp (disch:=first|omega|simp (disch:=omega) only[aG,aM]) only[fZ,aM]) rfl (z7 ?_)
 have hmb:=hpb (zd8 m k).toNat (by omega)
 simp (disch:=(try simp only[lZ]);omega) only[aZ,aM]
 refine y1 (fun h6=>?_) (fun h6=>?_)
 ·have hdv:divR l (zd8 m k).toNat t=l:=by unfold divR;rw[if_pos (by omega)]
  rw[hdv]
  simp (disch:=(try simp only[lZ]);omega) only[aZ,aM,z3Q]
  exact x1 (zR9 0 _ 1 ver _ l (by omega) hpl.symm (by simp (disch:=(try simp only[lZ]);omega) only[aZ,aM])) ⟨rfl,rfl⟩
 ·have hdv:divR l (zd8 m k).toNat t=(l.set (zc1 l) (l.getD (zc1 l) 0-1)).set (zd8 m k).toNat 1:=by unfold divR;rw[if_neg h6]
  have hbI:zi1 l l.length=zc1 l:=rfl
  have hbl:zc1 l<l.length:=zx2 l l.length (by omega)
  have hbb:=hpb _ hbl
  simp (disch:=(try simp only[lZ]);omega) only[aZ,aM]
  refine AWP.loopP z8u (fun i:Nat=>i≤l.length) (fun i=>[(8,.v (.int .i64 (zi1 l i))),(9,.v (.int .i64 i))]) (fun _=>[]) (fun i=>l.length-i) 0 (by omega) ?_ ?_
  ·simp only[zi1]
   exact Cut.of' 2 rfl (by omega) (by simp (disch:=first|omega|simp (disch:=omega) only[aG,aM]) only[fZ,aM]) (by simp (disch:=first|omega|simp (disch:=omega) only[aG,aM]) only[fZ,aM])
  rintro i hi
  have hbi:zi1 l i<l.length:=by
   by_cases h:0<i
   ·have:=zx2 l i h;omega
   ·have:i=0:=by omega
    subst this;show 0<l.length;omega
  by_cases hil:i<l.length
  ·have hbs:zi1 l (i+1)=if l.getD (zi1 l i) 0<l.getD i 0 then i else zi1 l i:=rfl
   simp (disch:=(try simp only[lZ]);omega) only[aZ,aM]
   refine y1 (fun h7=>?_) (fun h7=>?_)
   ·rw[if_pos h7]at hbs
    simp (disch:=(try simp only[lZ]);omega) only[aZ,aM]
    refine⟨i+1,by omega,by omega,?_⟩
    rw[hbs]
    exact Cut.of' 2 rfl (by omega) (by simp (disch:=first|omega|simp (disch:=omega) only[aG,aM]) only[fZ,aM]) (by simp (disch:=first|omega|simp (disch:=omega) only[aG,aM]) only[fZ,aM])
   ·rw[if_neg h7]at hbs
    simp (disch:=(try simp only[lZ]);omega) only[aZ,aM]
    refine⟨i+1,by omega,by omega,?_⟩
    rw[hbs]
    exact Cut.of' 2 rfl (by omega) (by simp (disch:=first|omega|simp (disch:=omega) only[aG,aM]) only[fZ,aM]) (by simp (disch:=first|omega|simp (disch:=omega) only[aG,aM]) only[fZ,aM])
  ·have hie:i=l.length:=by omega
   subst hie
   rw[hbI]at hbi ⊢
   simp (disch:=(try simp only[lZ]);omega) only[aZ,aM,Int.toNat_natCast,← hdv,z3Q]
   exact x1 (zR9 0 _ 1 ver _ (divR l (zd8 m k).toNat t) (by omega) (by rw[z7e];omega) (by simp (disch:=(try simp only[lZ]);omega) only[aZ,aM])) ⟨rfl,rfl⟩
end Go.Proofs.YtcppaddgclkekaaGreat
namespace Go.Proofs.YtcppaddgclkekaaGreat
open Go Go.Lft
set_option linter.unusedSimpArgs false
set_option linter.unusedVariables false
def mtx(k n:Nat)(f:Nat→Nat→Int):List (List Int):=(List.range k).map fun o=>(List.range n).map fun i=>f o i
theorem zR1(k n:Nat)(f:Nat→Nat→Int):(mtx k n f).length=k:=by simp [mtx]
theorem z8Y(k n:Nat)(f:Nat→Nat→Int)(o:Nat)(h:o<k):(mtx k n f).getD o []=(List.range n).map fun i=>f o i:=by
 simp [mtx,List.getD_eq_getElem?_getD,h]
theorem yD4(n:Nat)(g:Nat→Int)(i:Nat)(h:i<n):((List.range n).map g).getD i 0=g i:=by simp [List.getD_eq_getElem?_getD,h]
theorem y3e(n:Nat)(g:Nat→Int):((List.range n).map g).length=n:=by simp
theorem yk7{k n:Nat}{f g:Nat→Nat→Int}(h:∀o i,o<k→i<n→f o i=g o i):mtx k n f=mtx k n g:=by
 unfold mtx
 refine List.map_congr_left fun o ho=>List.map_congr_left fun i hi=>h o i (by simpa using ho) (by simpa using hi)
theorem y8c{k n:Nat}(f:Nat→Nat→Int)(o i:Nat)(v:Int)(ho:o<k)(hi:i<n):(mtx k n f).set o (((List.range n).map fun i=>f o i).set i v)=mtx k n fun a b=>if a=o∧b=i then v else f a b:=by
 refine List.ext_getElem (by simp [mtx]) fun a h1 h2=>?_
 simp only[mtx,List.getElem_set,List.getElem_map,List.getElem_range]
 by_cases h:o=a
 ·subst h
  rw[if_pos rfl]
  refine List.ext_getElem (by simp) fun b h3 h4=>?_
  simp only[List.getElem_set,List.getElem_map,List.getElem_range,true_and]
  by_cases hb:i=b
  ·subst hb;simp
  ·rw[if_neg hb,if_neg (fun h=>hb h.symm)]
 ·rw[if_neg h]
  refine List.map_congr_left fun b _=>?_
  rw[if_neg (fun hh=>h hh.1.symm)]
theorem yS9(k n:Nat):mtx k n (fun _ _=>0)++[List.replicate n 0]=mtx (k+1) n fun _ _=>0:=by
 simp only[mtx,List.range_succ,List.map_append,List.map_cons,List.map_nil]
 congr 2
 rw[List.map_const',List.length_range]
theorem xj9(n:Nat)(f:Nat→Nat→Int):mtx 0 n f=[]:=rfl
def rowB(M:List (List Int)):List Blk:=M.map fun l=>⟨0,ints l⟩
def ptrA(k n:Nat):List A:=(List.range k).map fun o=>.sl (o+2) 0 1 0 n
theorem z8Z(k n:Nat):(ptrA k n).length=k:=by simp [ptrA]
theorem y3f(k n o:Nat)(h:o<k):nthA (ptrA k n) o=some (.sl (o+2) 0 1 0 n):=by simp [Y6,ptrA,h]
theorem yD5(k n:Nat):ptrA k n++[.sl (k+2) 0 1 0 n]=ptrA (k+1) n:=by simp [ptrA,List.range_succ]
theorem z5s{n:Nat}:∀{l:List A},(∀a∈l,A.bd n a=true)→A.bdL n l=true
 | [],_=>rfl
 | a :: l,h=>by
  simp only[A.bdL,Bool.and_eq_true]
  exact⟨h a (by simp),z5s fun b hb=>h b (by simp [hb])⟩
theorem z11(k n m:Nat)(h:k+2≤m):A.bdL m (ptrA k n)=true:=by
 refine z5s fun a ha=>?_
 obtain⟨o,ho,rfl⟩:=List.mem_map.1 ha
 have:o<k:=by simpa using ho
 simp only[A.bd,decide_eq_true_eq];omega
theorem y3g(n:Nat)(g:Nat→Int)(x:Nat)(y:Int)(h:x<n):splA (ints ((List.range n).map g)) x [.v (.int .i64 y)]=ints (((List.range n).map g).set x y):=y1T _ _ _ (by simpa using h)
def hm(b:List A)(v:Nat)(p:List A)(M:List (List Int)):List Blk:=⟨0,b⟩ :: ⟨v,p⟩ :: rowB M
theorem xs5(b:List A)(v:Nat)(p:List A):[(⟨0,b⟩:Blk),⟨v,p⟩]=hm b v p []:=rfl
theorem z6r(b:List A)(v:Nat)(p:List A)(M:List (List Int)):(hm b v p M).length=M.length+2:=by simp [hm,rowB]
theorem hm_b(b:List A)(v:Nat)(p:List A)(M:List (List Int)):blkAt (hm b v p M) 0 0=some b:=by simp [hm,blkAt]
theorem hm_p(b:List A)(v:Nat)(p:List A)(M:List (List Int)):blkAt (hm b v p M) 1 v=some p:=by simp [hm,blkAt]
theorem y3h:∀(M:List (List Int)) (o:Nat),o<M.length→blkAt (rowB M) o 0=some (ints (M.getD o []))
 | [],o,h=>by simp at h
 | l :: M,0,_=>by simp [rowB,blkAt]
 | l :: M,o+1,h=>by
  have:=y3h M o (by simpa using h)
  simpa [rowB,blkAt]using this
theorem hm_r(b:List A)(v:Nat)(p:List A)(M:List (List Int))(o:Nat)(h:o<M.length):blkAt (hm b v p M) (o+2) 0=some (ints (M.getD o [])):=by
 exact y3h M o h
theorem y8d(b:List A)(v:Nat)(p:List A)(k n:Nat)(f:Nat→Nat→Int)(o:Nat)(h:o<k):blkAt (hm b v p (mtx k n f)) (o+2) 0=some (ints ((List.range n).map fun i=>f o i)):=by
 rw[hm_r _ _ _ _ _ (by rw[zR1];exact h),z8Y _ _ _ _ h]
theorem xk0(b:List A)(v v':Nat)(p q:List A)(M:List (List Int)):(hm b v p M).set 1 ⟨v',q⟩=hm b v' q M:=rfl
theorem xk1(b:List A)(v:Nat)(p:List A)(M:List (List Int))(o:Nat)(l:List Int):(hm b v p M).set (o+2) ⟨0,ints l⟩=hm b v p (M.set o l):=by
 simp [hm,rowB,List.map_set]
theorem y7f(b:List A)(v:Nat)(p:List A)(M:List (List Int))(l:List Int):hm b v p M++[⟨0,ints l⟩]=hm b v p (M++[l]):=by simp [hm,rowB]
theorem z63{b:List A}{v:Nat}{p:List A}{M:List (List Int)}{n:Nat}(h1:A.bdL n b=true)(h2:A.bdL n p=true):okB n (hm b v p M):=by
 intro B hB
 rcases List.mem_cons.1 hB with rfl|hB
 ·exact h1
 rcases List.mem_cons.1 hB with rfl|hB
 ·exact h2
 obtain⟨l,_,rfl⟩:=List.mem_map.1 hB
 exact zn6 n l
def padA(j k n:Nat):List A:=ptrA j n++List.replicate (k-j) (.v (.slice none 0 0))
theorem y3i(j k n:Nat)(h:j≤k):(padA j k n).length=k:=by simp [padA,z8Z];omega
theorem y49(k n:Nat):List.replicate k (A.v (.slice none 0 0))=padA 0 k n:=by simp [padA,ptrA]
theorem y8e(k n:Nat):padA k k n=ptrA k n:=by simp [padA]
theorem y8f(p r:List A)(a b:A):splA (p++a :: r) p.length [b]=p++[b]++r:=by
 induction p with
 | nil=>rfl
 | cons c p ih=>simp only[List.cons_append,List.length_cons,z2L];rw[ih]
theorem y3j(j k n:Nat)(h:j<k):splA (padA j k n) j [.sl (j+2) 0 1 0 n]=padA (j+1) k n:=by
 have:=y8f (ptrA j n) (List.replicate (k-(j+1)) (.v (.slice none 0 0))) (.v (.slice none 0 0)) (.sl (j+2) 0 1 0 n)
 rw[z8Z,yD5,← List.replicate_succ,show k-(j+1)+1=k-j by omega]at this
 exact this
theorem y7g(j k n m:Nat)(h:j+2≤m):A.bdL m (padA j k n)=true:=by
 refine z5s fun a ha=>?_
 rcases List.mem_append.1 ha with h1|h1
 ·obtain⟨o,ho,rfl⟩:=List.mem_map.1 h1
  have:o<j:=by simpa using ho
  simp only[A.bd,decide_eq_true_eq];omega
 ·rw[(List.mem_replicate.1 h1).2];rfl
theorem aQ:type_of% (ai9 @y3i<|ai9 @y3j<|ai9 @zR1<|ai9 @z8Y<|ai9 @yD4<|ai9 @y3e<|ai9 @z8Z<|ai9 @y3f<|ai9 @z6r<|ai9 @hm_b<|ai9 @hm_p<|ai9 @y3g<|ai9 @y8d<|ai9 @xk0<|ai9 @xk1<|@y7f):=⟨@y3i,@y3j,@zR1,@z8Y,@yD4,@y3e,@z8Z,@y3f,@z6r,@hm_b,@hm_p,@y3g,@y8d,@xk0,@xk1,@y7f⟩
theorem xk2{n0:Nat}{e e':List A}{b b':List A}{v:Nat}{p:List A}{M:List (List Int)}(hn:n0≤M.length+2)(hb:FzL (M.length+2) (hm b v p M) b b')(hp:A.bdL (M.length+2) p=true)(he:FzL (M.length+2) (hm b v p M) e e'):Cut n0 e (hm b v p M) e' (hm b' v p M):=by
 refine Cut.of hn (z6r _ _ _ _) (fun i B' h=>?_) he
 match i with
 | 0=>cases h;exact⟨⟨0,b⟩,rfl,rfl,hb⟩
 | 1=>cases h;exact⟨⟨v,p⟩,rfl,rfl,FzL.refl hp⟩
 | i+2 =>
  refine⟨B',h,rfl,FzL.refl ?_⟩
  obtain⟨l,_,rfl⟩:=List.mem_map.1 (List.mem_of_getElem? (l:=rowB M) h)
  exact zn6 _ l
theorem y7h{m:Nat}{b:List A}{v:Nat}{p:List A}{M:List (List Int)}{k n:Nat}(hm2:m≤2)(hk:M.length=k)(hn:∀l∈M,l.length=n):FzL m (hm b v p M) (ptrA k n) (rows true M):=by
 have z:∀j,j≤k→FzL m (hm b v p M) (ptrA j n) (rows true (M.take j)):=by
  intro j
  induction j with
  | zero=>intro _;exact trivial
  | succ j ih =>
   intro hj
   rw[← yD5,List.take_succ_eq_append_getElem (by omega),← y12]
   refine FzL.cat (ih (by omega)) ⟨?_,trivial⟩
   have he:M.getD j []=M[j]'(by omega):=by simp [List.getD_eq_getElem?_getD,show j<M.length by omega]
   exact zR9 m _ (j+2) 0 n _ (by omega) (hn _ (List.getElem_mem _)).symm (by rw[hm_r _ _ _ _ _ (by omega),he])
 have:=z k (Nat.le_refl _)
 rwa [List.take_of_length_le (by omega)]at this
theorem xk3{b:List A}{v:Nat}{M:List (List Int)}{k n:Nat}(hk:M.length=k)(hn:∀l∈M,l.length=n):Fz 0 (hm b v (ptrA k n) M) (.sl 1 v 1 0 k) (.fs true (rows true M)):=by
 subst hk
 refine Fz.sl (Nat.zero_le _) (hm_p _ _ _ _) (y7h (by omega) rfl hn) ?_ (zG0 _ _) (by rw[zG0];omega)
 rw[List.drop_zero,Nat.mul_one,← zG0 true M,List.take_length];exact z2M _ _
theorem y8g{b:List A}{v:Nat}{M:List (List Int)}{k n:Nat}(hk:M.length=k)(hn:∀l∈M,l.length=n):Fz 0 (hm b v (ptrA k n) M) (.vs 1 v 1 k) (.fs true (rows true M)):=by
 subst hk
 refine Fz.vs (Nat.zero_le _) (hm_p _ _ _ _) (y7h (by omega) rfl hn) ?_ (zG0 _ _) (by rw[zG0];omega)
 rw[Nat.mul_one,← zG0 true M,List.take_length];exact z2M _ _
theorem y5a{k n:Nat}{f:Nat→Nat→Int}:∀l∈mtx k n f,l.length=n:=by
 intro l hl
 obtain⟨o,_,rfl⟩:=List.mem_map.1 hl
 simp
end Go.Proofs.YtcppaddgclkekaaGreat
