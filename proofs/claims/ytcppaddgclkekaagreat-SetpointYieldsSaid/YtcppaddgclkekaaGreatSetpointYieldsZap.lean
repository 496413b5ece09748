/- Lemmas and walks that the proof of SetpointYields uses. No statement is claimed here. -/
import Derived.Test.YtcppaddgclkekaaGreatSetpointYieldsZao
import Derived.Lib.Mul64
namespace Go.Proofs.YtcppaddgclkekaaGreat
open Go Go.Lft
set_option linter.unusedSimpArgs false
set_option linter.unusedVariables false
attribute [local congr] W0 W1 W2 W4 Z3 Z4 W5 Z5 Z6 Z7 W6 W3
theorem y16:∀(n:Nat) (f:Nat→Nat),(∀i,i≤n→f i<n)→∃i j,i<j∧j≤n∧f i=f j
 | 0,f,h=>by have:=h 0 (by omega);omega
 | n+1,f,h=>by
  by_cases hx:∃i,i≤n∧f i=f (n+1)
  ·obtain⟨i,h1,h2⟩:=hx;exact⟨i,n+1,by omega,by omega,h2⟩
  ·have hne:∀i,i≤n→f i≠f (n+1):=fun i hi hc=>hx ⟨i,hi,hc⟩
   obtain⟨i,j,h1,h2,h3⟩:=y16 n (fun i=>if f i=n then f (n+1)else f i) fun i hi=>by
    have a1:=h i (by omega)
    have a2:=h (n+1) (by omega)
    have a3:=hne i hi
    split<;>omega
   have a1:=hne i (by omega)
   have a2:=hne j h2
   refine⟨i,j,h1,by omega,?_⟩
   split at h3<;>split at h3<;>omega
theorem y6n{q:List Int}{x y:Int}(h:ltO q x y):x≠y:=by rintro rfl;unfold ltO at h;omega
theorem yT6{q T:List Int}{n:Nat}(hl:T.length=n)(hr:InR n T)(hs:T.Pairwise (ltO q)):∀i:Nat,i<n→∃l,l<n∧T.getD l 0=(i:Int):=fun i hi=>by
 apply Classical.byContradiction;intro hc
 have hne:∀l,l<n→T.getD l 0≠(i:Int):=fun l hl' he=>hc ⟨l,hl',he⟩
 have hin:∀l,l<n→0≤T.getD l 0∧T.getD l 0<n:=fun l hl'=>hr _ (ze7 (by omega))
 obtain⟨m,rfl⟩:∃m,n=m+1:=⟨n-1,by omega⟩
 obtain⟨a,b,h1,h2,h3⟩:=y16 m (fun l=>if(T.getD l 0).toNat<i then(T.getD l 0).toNat else(T.getD l 0).toNat-1) fun l hl'=>by
  have a1:=hin l (by omega)
  have a2:=hne l (by omega)
  split<;>omega
 have a1:=hin a (by omega)
 have a2:=hne a (by omega)
 have b1:=hin b (by omega)
 have b2:=hne b (by omega)
 have hab:T.getD a 0=T.getD b 0:=by
  split at h3<;>split at h3<;>omega
 have:=List.pairwise_iff_getElem.1 hs a b (by omega) (by omega) h1
 refine y6n this ?_
 simpa [List.getD_eq_getElem?_getD,show a<T.length by omega,show b<T.length by omega]using hab
theorem z9Z{q T:List Int}(hs:T.Pairwise (ltO q)){i j:Nat}(hij:i<j)(hj:j<T.length):ltO q (T.getD i 0) (T.getD j 0):=by
 have:=List.pairwise_iff_getElem.1 hs i j (by omega) hj hij
 simpa [List.getD_eq_getElem?_getD,show i<T.length by omega,hj]using this
def incs(p:List Int)(T:List Int):List Int:=T.foldl (fun p x=>inc p x.toNat) p
theorem yr0(p T:List Int)(k:Nat)(h:k<T.length):incs p (T.take (k+1))=inc (incs p (T.take k)) (T.getD k 0).toNat:=by
 unfold incs
 rw[List.take_succ_eq_append_getElem h,List.foldl_append]
 simp [List.getD_eq_getElem?_getD,h]
theorem y4d(p T:List Int):(incs p T).length=p.length:=by
 unfold incs
 induction T generalizing p with
 | nil=>rfl
 | cons x T ih=>rw[List.foldl_cons,ih,yx1]
theorem yr1{p0 q0 T:List Int}(hl:p0.length=q0.length)(hq:∀i,i<q0.length→0≤q0.getD i 0)(hT:T.length=q0.length)(hr:InR q0.length T)(hs:T.Pairwise (ltO q0)):
    ∀k,k≤q0.length→(rd p0 q0 k).1=incs p0 (T.take k)∧∀i,i<q0.length→(rd p0 q0 k).2.getD i 0=if ∃l,l<k∧T.getD l 0=(i:Int)then -1 else q0.getD i 0
  | 0,_=>⟨by simp [rd,incs],fun i _=>by rw[if_neg (by rintro⟨l,h,_⟩;omega)];rfl⟩
  | k+1,hk=>by
    obtain⟨h1,h2⟩:=yr1 hl hq hT hr hs k (by omega)
    have hll:=zA8 p0 q0 k
    have hin:=hr _ (ze7 (l:=T) (i:=k) (by omega))
    have hb:zc0 (rd p0 q0 k).2=(T.getD k 0).toNat:=by
      have hTk:(rd p0 q0 k).2.getD (T.getD k 0).toNat 0=q0.getD (T.getD k 0).toNat 0:=by
        rw[h2 _ (by omega),if_neg]
        rintro⟨l,l1,l2⟩
        exact y6n (z9Z hs l1 (by omega)) (by omega)
      have hge:∀i,i<q0.length→(rd p0 q0 k).2.getD i 0≤q0.getD (T.getD k 0).toNat 0∧(i<(T.getD k 0).toNat→(rd p0 q0 k).2.getD i 0<q0.getD (T.getD k 0).toNat 0):=fun i hi=>by
        rw[h2 i hi]
        have hnn:=hq (T.getD k 0).toNat (by omega)
        split
        · omega
        · rename_i hx
          obtain⟨l,l1,l2⟩:=yT6 hT hr hs i hi
          have hkl:k≤l:=Nat.le_of_not_lt fun hc=>hx ⟨l,hc,l2⟩
          by_cases hkl2:k=l
          · subst hkl2
            rw[l2,Int.toNat_natCast]
            exact⟨Int.le_refl _,fun h=>by omega⟩
          · have:=z9Z hs (show k<l by omega) (by omega)
            rw[l2]at this
            unfold ltO kq at this
            rw[Int.toNat_natCast]at this
            omega
      refine yT4 (by omega) (fun i hi=>?_) fun i hi=>?_
      · rw[hTk];exact(hge i (by omega)).1
      · rw[hTk];exact(hge i (by omega)).2 hi
    refine⟨?_,fun i hi=>?_⟩
    · simp only[rd]
      rw[hb,h1,yr0 _ _ _ (by omega)]
    · simp only[rd]
      rw[hb,X4]
      by_cases he:(T.getD k 0).toNat=i
      · rw[if_pos ⟨he,by omega⟩,if_pos ⟨k,by omega,by omega⟩]
      · rw[if_neg (fun h=>he h.1),h2 i hi]
        have:(∃l,l<k∧T.getD l 0=(i:Int))↔∃l,l<k+1∧T.getD l 0=(i:Int):=by
          constructor
          · rintro⟨l,a,b⟩;exact⟨l,by omega,b⟩
          · rintro⟨l,a,b⟩
            rcases Nat.lt_succ_iff_lt_or_eq.1 a with h|rfl
            · exact⟨l,h,b⟩
            · omega
        simp only[this]
theorem y17(a:Int)(n:Nat):a.fdiv (2 ^ n)=a / 2 ^ n:=Int.fdiv_eq_ediv_of_nonneg a (Int.le_of_lt (Int.pow_pos (by decide)))
theorem y18(a:Int)(k:IntKind)(b:Int)(h0:0≤b)(h1:b≤63):s2A (.bin .shr) (.v (.int .i64 a)) (.v (.int k b))=some (.v (.int .i64 (a / 2 ^ b.toNat))):=by
 have e:min b.toNat 64=b.toNat:=Nat.min_eq_left (by omega)
 have h:k2v (.bin .shr) (.int .i64 a) (.int k b)=some (.int .i64 (a / 2 ^ b.toNat)):=by
  rw[← y17,← e]
  simp only[k2v,binOp,Op.shift,z2o,show ¬b<0 by omega,if_false];rfl
 simp only[s2A,h,Option.map_some]
theorem y6o(a:Int)(k:IntKind)(b:Int)(h0:0≤b)(h1:b≤63):s2A (.bin .shr) (.v (.int .u64 a)) (.v (.int k b))=some (.v (.int .u64 (a / 2 ^ b.toNat))):=by
 have e:min b.toNat 64=b.toNat:=Nat.min_eq_left (by omega)
 have h:k2v (.bin .shr) (.int .u64 a) (.int k b)=some (.int .u64 (a / 2 ^ b.toNat)):=by
  rw[← y17,← e]
  simp only[k2v,binOp,Op.shift,z2o,show ¬b<0 by omega,if_false];rfl
 simp only[s2A,h,Option.map_some]
theorem xf0(a:Int)(k:IntKind)(b:Int)(h0:0≤b)(h1:b≤63):s2A (.bin .shl) (.v (.int .i64 a)) (.v (.int k b))=some (.v (.int .i64 (IntKind.wrap .i64 (a*2 ^ b.toNat)))):=by
 have e:min b.toNat 64=b.toNat:=Nat.min_eq_left (by omega)
 have h:k2v (.bin .shl) (.int .i64 a) (.int k b)=some (.int .i64 (IntKind.wrap .i64 (a*2 ^ b.toNat))):=by
  rw[← e]
  simp only[k2v,binOp,Op.shift,z2o,show ¬b<0 by omega,if_false];rfl
 simp only[s2A,h,Option.map_some]
theorem yM6(a:Nat)(k:Nat)(ha:a<2 ^ 64)(hk:2 ^ k-1<2 ^ 64):(BitVec.ofInt 64 (a:Int) &&& BitVec.ofInt 64 ((2 ^ k-1:Nat):Int)).toNat=a % 2 ^ k:=by
 rw[BitVec.toNat_and,BitVec.toNat_ofInt,BitVec.toNat_ofInt]
 have e1:((a:Int) % (2 ^ 64:Nat)).toNat=a:=by omega
 have e2:(((2 ^ k-1:Nat):Int) % (2 ^ 64:Nat)).toNat=2 ^ k-1:=by
  rw[Int.emod_eq_of_lt (by omega) (by omega)];rfl
 rw[e1,e2,Nat.and_two_pow_sub_one_eq_mod]
theorem y19(a m:Int)(k:Nat)(hk:k≤62)(hm:m=2 ^ k-1)(h0:0≤a)(h1:a≤9223372036854775807):s2A (.bin .and) (.v (.int .i64 a)) (.v (.int .i64 m))=some (.v (.int .i64 (a % 2 ^ k))):=by
 obtain⟨b,rfl⟩:∃b:Nat,a=b:=⟨a.toNat,by omega⟩
 have hp:(2:Nat) ^ k≤2 ^ 62:=Nat.pow_le_pow_right (by decide) hk
 have h1p:1≤2 ^ k:=Nat.one_le_two_pow
 have e62:(2:Nat) ^ 62=4611686018427387904:=by decide
 have e64:(2:Nat) ^ 64=18446744073709551616:=by decide
 have hm':m=((2 ^ k-1:Nat):Int):=by
  rw[hm,Int.natCast_sub h1p,Int.natCast_pow];rfl
 have hb:=yM6 b k (by omega) (by omega)
 have h:k2v (.bin .and) (.int .i64 b) (.int .i64 m)=some (.int .i64 (IntKind.wrap .i64 ((BitVec.ofInt 64 (b:Int) &&& BitVec.ofInt 64 m).toNat))):=by
  simp [k2v,binOp,Op.intBits,z2o];rfl
 have hlt:b % 2 ^ k<2 ^ k:=Nat.mod_lt _ (by omega)
 rw[hm',hb,yv5 (by omega) (by omega)]at h
 rw[hm']
 simp only[s2A,h,Option.map_some,Int.natCast_emod,Int.natCast_pow]
 rfl
theorem y2a(a m:Int)(k:Nat)(hk:k≤62)(hm:m=2 ^ k-1)(h0:0≤a)(h1:a≤18446744073709551615):s2A (.bin .and) (.v (.int .u64 a)) (.v (.int .u64 m))=some (.v (.int .u64 (a % 2 ^ k))):=by
 obtain⟨b,rfl⟩:∃b:Nat,a=b:=⟨a.toNat,by omega⟩
 have hp:(2:Nat) ^ k≤2 ^ 62:=Nat.pow_le_pow_right (by decide) hk
 have h1p:1≤2 ^ k:=Nat.one_le_two_pow
 have e62:(2:Nat) ^ 62=4611686018427387904:=by decide
 have e64:(2:Nat) ^ 64=18446744073709551616:=by decide
 have hm':m=((2 ^ k-1:Nat):Int):=by
  rw[hm,Int.natCast_sub h1p,Int.natCast_pow];rfl
 have hb:=yM6 b k (by omega) (by omega)
 have h:k2v (.bin .and) (.int .u64 b) (.int .u64 m)=some (.int .u64 (IntKind.wrap .u64 ((BitVec.ofInt 64 (b:Int) &&& BitVec.ofInt 64 m).toNat))):=by
  simp [k2v,binOp,Op.intBits,z2o];rfl
 have hlt:b % 2 ^ k<2 ^ k:=Nat.mod_lt _ (by omega)
 rw[hm',hb,zh9 (by omega) (by omega)]at h
 rw[hm']
 simp only[s2A,h,Option.map_some,Int.natCast_emod,Int.natCast_pow]
 rfl
theorem zP3(l:List Int)(k:Nat)(h:k<l.length):l.take (k+1)=l.take k++[l.getD k 0]:=by
 rw[List.take_succ_eq_append_getElem h];simp [List.getD_eq_getElem?_getD,h]
def sumK(l:List Int)(k:Nat):Int:=(l.take k).sum
theorem z0h(l:List Int):sumK l 0=0:=by simp [sumK]
theorem z3Y(l:List Int)(k:Nat)(h:k<l.length):sumK l (k+1)=sumK l k+l.getD k 0:=by
 unfold sumK;rw[zP3 l k h];simp
theorem z0B(l:List Int):sumK l l.length=l.sum:=by simp [sumK]
theorem yM7{w:Bool}(x:Int):VR P false yL2 [.fs w [.v (.int .i64 x)]] [] (isR (.v (.bool (decide (-1125899906842624≤x∧x≤1125899906842624))))):=by
 refine y1D (by simp) (.inr rfl) fun _ _=>?_
 have e:[A.v (.int .i64 x)]=ints [x]:=rfl
 rw[e]
 simp (disch:=(try simp only[lZ]);omega) only[aZ,ye5,yL4]
 refine AWP.loopP yT2 (fun k:Nat=>k≤1∧(k=1→-1125899906842624≤x∧x≤1125899906842624)) (fun k=>[(1,.v (.bool false)),(2,.v (.int .i64 k))]) (fun _=>[]) (fun k=>1-k) 0 ⟨by omega,fun h=>by omega⟩ ?_ ?_
 ·simp only[List.length_cons,List.length_nil]
  exact Cut.of' 0 rfl (by omega) (by simp (disch:=first|omega|simp (disch:=omega) only[aG]) only[fZ]) (by simp (disch:=first|omega|simp (disch:=omega) only[aG]) only[fZ])
 rintro k ⟨hk,hx⟩
 by_cases hlt:k<1
 ·have hk0:k=0:=by omega
  subst hk0
  simp (disch:=(try simp only[lZ]);omega) only[aZ,List.length_cons,List.length_nil,List.getD_cons_zero]
  refine y1 (fun h3=>?_) (fun h3=>?_)
  ·simp (disch:=(try simp only[lZ]);omega) only[aZ,yL5]
   exact y2 ⟨yn5 (by omega),rfl⟩
  ·simp (disch:=(try simp only[lZ]);omega) only[aZ]
   exact⟨1,⟨by omega,fun _=>by omega⟩,by omega,(by refine Cut.of' (0) ?_ (by omega) ?_ ?_<;>simp (disch:=first|omega|simp (disch:=omega) only[aG]) only[fZ,Int.zero_add])⟩
 ·have hk1:k=1:=by omega
  subst hk1
  simp (disch:=(try simp only[lZ]);omega) only[aZ,yL5,List.length_cons,List.length_nil]
  exact y2 ⟨y7g (hx rfl),rfl⟩
theorem yT7(x:Int):VR P false z3N [.v (.int .i64 x)] [] (isR (.tup [.v (.int .i64 (if -1125899906842624≤x∧x≤1125899906842624 then x else 0)),.v (.int .i64 (if -1125899906842624≤x∧x≤1125899906842624 then 0 else 2))])):=by
 refine z9r (by simp) (.inr rfl) fun _ _=>?_
 simp (disch:=(try simp only[lZ]);omega) only[aZ,zO8,z3P]
 refine(yM7 (w:=false) x).use ⟨zB0 _ 0 0 1 [x] rfl rfl,trivial⟩ rfl (z7 ?_)
 by_cases h:-1125899906842624≤x∧x≤1125899906842624
 ·rw[if_pos h,if_pos h]
  simp (disch:=(try simp only[lZ]);omega) only[aZ,decide_eq_true h,z3Q]
  exact x2 (Fz.refl rfl) ⟨rfl,rfl⟩
 ·rw[if_neg h,if_neg h]
  simp (disch:=(try simp only[lZ]);omega) only[aZ,decide_eq_false h,z3Q]
  exact x2 (Fz.refl rfl) ⟨rfl,rfl⟩
theorem y2b{w:Bool}(l:List Int)(hl:l.length≤512)(hr:∀x∈l,0≤x∧x≤1125899906842624):VR P false yp7 [.fs w (ints l)] [] (isR (.tup [.v (.int .i64 (if l.sum≤1125899906842624 then l.sum else 0)),.v (.int .i64 (if l.sum≤1125899906842624 then 0 else 2))])):=by
 refine yT1 (by simp) (.inr rfl) fun _ _=>?_
 have e25:(2:Int) ^ (25:Int).toNat=33554432:=by decide
 have e25':(2:Int) ^ 25=33554432:=by decide
 simp (disch:=(try simp only[lZ]);omega) only[aZ,z75,yp9]
 refine AWP.loopP (α:=Nat×Int×Int) yw8 (fun s=>s.1≤l.length∧s.2.1*33554432+s.2.2=sumK l s.1∧0≤s.2.1∧s.2.1≤s.1*33554432∧0≤s.2.2∧s.2.2≤s.1*33554432) (fun s=>[(1,.v (.int .i64 0)),(2,.v (.int .i64 0)),(3,.v (.int .i64 s.2.1)),(4,.v (.int .i64 s.2.2)),(5,.v (.int .i64 s.1))]) (fun _=>[]) (fun s=>l.length-s.1) (0,0,0) ⟨by omega,by simp [z0h],by simp,by simp,by simp,by simp⟩ ?_ ?_
 ·exact Cut.of' 0 rfl (by omega) (by simp (disch:=first|omega|simp (disch:=omega) only[aG]) only[fZ]) (by simp (disch:=first|omega|simp (disch:=omega) only[aG]) only[fZ])
 rintro⟨k,hi,lo⟩ ⟨h1,h2,h3,h4,h5,h6⟩
 simp only at h1 h2 h3 h4 h5 h6
 by_cases hlt:k<l.length
 ·have hx:=hr _ (ze7 hlt)
  have hs:=z3Y l k hlt
  simp (disch:=(try simp only[lZ]);omega) only[aZ]
  refine(yM7 (w:=false) (l.getD k 0)).use ⟨zB0 _ 0 0 1 [l.getD k 0] rfl rfl,trivial⟩ rfl (z7 ?_)
  simp (disch:=(try simp only[lZ]);omega) only[aZ,decide_eq_true (show -1125899906842624≤l.getD k 0∧l.getD k 0≤1125899906842624 by omega),y18,e25,y19 (l.getD k 0) 33554431 25 (by omega) rfl (by omega) (by omega),e25']
  refine⟨(k+1,hi+l.getD k 0 / 33554432,lo+l.getD k 0 % 33554432),⟨by simp only;omega,?_,?_,?_,?_,?_⟩,by simp only;omega,?_⟩
  ·simp only;omega
  ·simp only;omega
  ·simp only;omega
  ·simp only;omega
  ·simp only;omega
  ·exact Cut.of' 0 rfl (by omega) (by simp (disch:=first|omega|simp (disch:=omega) only[aG]) only[fZ]) (by simp (disch:=first|omega|simp (disch:=omega) only[aG]) only[fZ])
 ·have hke:k=l.length:=by omega
  subst hke
  rw[z0B]at h2
  simp (disch:=(try simp only[lZ]);omega) only[aZ,y18,e25]
  refine y1 (fun h7=>?_) (fun h7=>?_)
  ·rw[if_neg (by omega),if_neg (by omega)]
   simp (disch:=(try simp only[lZ]);omega) only[aZ,yq0]
   exact x2 (Fz.refl rfl) ⟨rfl,rfl⟩
  ·have e5:(hi+lo / 33554432)*33554432+lo % 33554432=l.sum:=by omega
   simp (disch:=(try simp only[lZ]);omega) only[aZ,xf0,e25,y19 lo 33554431 25 (by omega) rfl (by omega) (by omega),e25',e5]
   refine(yT7 l.sum).same (by simp (disch:=first|omega|simp (disch:=omega) only[aG]) only[fZ]) rfl (z7 ?_)
   have e6:(-1125899906842624≤l.sum∧l.sum≤1125899906842624)=(l.sum≤1125899906842624):=propext (by omega)
   simp only[e6]
   simp (disch:=(try simp only[lZ]);omega) only[aZ,yq0]
   exact x2 (Fz.refl rfl) ⟨rfl,rfl⟩
def badW(w:Int):Prop:=w<0∨1125899906842624<w
instance:DecidablePred badW:=fun w=>by unfold badW;infer_instance
def zj3(ws:List Int):Int×Int :=
 if ws.length<1∨512<ws.length then(0,1)else if ∃i,i<ws.length∧badW (ws.getD i 0)then(0,1)else if ws.sum≤1125899906842624 then(ws.sum,0)else(0,2)
theorem yr2{ws:List Int}(h:ws.length<1∨512<ws.length):zj3 ws=(0,1):=by unfold zj3;rw[if_pos h]
theorem yr3{ws:List Int}(h:¬(ws.length<1∨512<ws.length))(h2:∃i,i<ws.length∧badW (ws.getD i 0)):zj3 ws=(0,1):=by unfold zj3;rw[if_neg h,if_pos h2]
theorem z8a{ws:List Int}(h:¬(ws.length<1∨512<ws.length))(h2:¬∃i,i<ws.length∧badW (ws.getD i 0)):zj3 ws=if ws.sum≤1125899906842624 then(ws.sum,0)else(0,2):=by unfold zj3;rw[if_neg h,if_neg h2]
def z0i(x:Int×Int):A:=.tup [.v (.int .i64 x.1),.v (.int .i64 x.2)]
theorem yT8{w:Bool}(ws:List Int):VR P false zZ6 [.fs w (ints ws)] [] (isR (z0i (zj3 ws))):=by
 refine z6t (by simp) (.inr rfl) fun _ _=>?_
 unfold z0i
 simp (disch:=(try simp only[lZ]);omega) only[aZ,zy7,zZ8]
 refine y1 (fun h1=>?_) (fun h1=>?_)
 ·rw[yr2 (by omega)]
  simp (disch:=(try simp only[lZ]);omega) only[aZ,zk8]
  exact x2 (Fz.refl rfl) ⟨rfl,rfl⟩
 have h1:¬(ws.length<1∨512<ws.length):=by omega
 simp (disch:=(try simp only[lZ]);omega) only[aZ]
 refine AWP.loopP z4Q (fun k:Nat=>k≤ws.length∧∀i,i<k→¬badW (ws.getD i 0)) (fun k=>[(1,.v (.int .i64 0)),(2,.v (.int .i64 0)),(3,.v (.int .i64 k))]) (fun _=>[]) (fun k=>ws.length-k) 0 ⟨by omega,fun i hi=>by omega⟩ (by refine Cut.of' (0) ?_ (by omega) ?_ ?_<;>simp (disch:=first|omega|simp (disch:=omega) only[aG]) only[fZ]) ?_
 rintro k ⟨hk,hb⟩
 by_cases hlt:k<ws.length
 ·simp (disch:=(try simp only[lZ]);omega) only[aZ]
  refine y1 (fun h3=>?_) (fun h3=>?_)
  ·rw[yr3 h1 ⟨k,hlt,h3⟩]
   simp (disch:=(try simp only[lZ]);omega) only[aZ,zk8]
   exact x2 (Fz.refl rfl) ⟨rfl,rfl⟩
  ·simp (disch:=(try simp only[lZ]);omega) only[aZ]
   refine⟨k+1,⟨by omega,fun i hi=>?_⟩,by omega,(by refine Cut.of' (0) ?_ (by omega) ?_ ?_<;>simp (disch:=first|omega|simp (disch:=omega) only[aG]) only[fZ])⟩
   rcases Nat.lt_succ_iff_lt_or_eq.1 hi with h|rfl
   ·exact hb i h
   ·exact h3
 ·have hno : ¬ ∃ i, i < ws.length ∧ badW (ws.getD i 0) := by
   rintro⟨i,h2,h3⟩;exact hb i (by omega) h3
  have hall:∀x∈ws,0≤x∧x≤1125899906842624:=fun x hx=>by
   obtain⟨i,h2,rfl⟩:=zp7 hx
   have:=hb i (by omega)
   unfold badW at this;omega
  rw[z8a h1 hno]
  simp (disch:=(try simp only[lZ]);omega) only[aZ]
  refine(y2b (w:=w) ws (by omega) hall).same (by simp (disch:=first|omega|simp (disch:=omega) only[aG]) only[fZ]) rfl (z7 ?_)
  by_cases h4:ws.sum≤1125899906842624
  ·simp only[if_pos h4]
   simp (disch:=(try simp only[lZ]);omega) only[aZ,zk8]
   exact x2 (Fz.refl rfl) ⟨rfl,rfl⟩
  ·simp only[if_neg h4]
   simp (disch:=(try simp only[lZ]);omega) only[aZ,zk8]
   exact x2 (Fz.refl rfl) ⟨rfl,rfl⟩
theorem y7n{ws:List Int}(h:∀i,i<ws.length→¬badW (ws.getD i 0)):∀k,k≤ws.length→0≤sumK ws k∧sumK ws k≤sumK ws ws.length:=fun k hk=>by
 have hall:∀x∈ws,0≤x:=fun x hx=>by
  obtain⟨i,h2,rfl⟩:=zp7 hx
  have:=h i (by omega)
  unfold badW at this;omega
 have h1:=z0f (ws.take k) fun x hx=>hall x (List.mem_of_mem_take hx)
 have h2:=z0f (ws.drop k) fun x hx=>hall x (List.mem_of_mem_drop hx)
 have h3:ws.sum=(ws.take k).sum+(ws.drop k).sum:=by rw[← List.sum_append,List.take_append_drop]
 rw[z0B]
 unfold sumK
 omega
theorem yx5{w:Bool}(ws:List Int):VR P false z7Y [.fs w (ints ws)] [] (isR (z0i (zj3 ws))):=by
 refine yp4 (by simp) (.inr rfl) fun _ _=>?_
 unfold z0i
 simp (disch:=(try simp only[lZ]);omega) only[aZ,z2c,z70]
 refine y1 (fun h1=>?_) (fun h1=>?_)
 ·rw[yr2 (by omega)]
  simp (disch:=(try simp only[lZ]);omega) only[aZ,zO5]
  exact x2 (Fz.refl rfl) ⟨rfl,rfl⟩
 have h1:¬(ws.length<1∨512<ws.length):=by omega
 simp (disch:=(try simp only[lZ]);omega) only[aZ]
 refine AWP.loopP ye1 (fun k:Nat=>k≤ws.length∧∀i,i<k→¬badW (ws.getD i 0)) (fun k=>[(1,.v (.int .i64 0)),(2,.v (.int .i64 0)),(3,.v (.int .i64 k))]) (fun _=>[]) (fun k=>ws.length-k) 0 ⟨by omega,fun i hi=>by omega⟩ (by refine Cut.of' (0) ?_ (by omega) ?_ ?_<;>simp (disch:=first|omega|simp (disch:=omega) only[aG]) only[fZ]) ?_
 rintro k ⟨hk,hb⟩
 by_cases hlt:k<ws.length
 ·simp (disch:=(try simp only[lZ]);omega) only[aZ]
  refine y1 (fun h3=>?_) (fun h3=>?_)
  ·rw[yr3 h1 ⟨k,hlt,h3⟩]
   simp (disch:=(try simp only[lZ]);omega) only[aZ,zO5]
   exact x2 (Fz.refl rfl) ⟨rfl,rfl⟩
  ·simp (disch:=(try simp only[lZ]);omega) only[aZ]
   refine⟨k+1,⟨by omega,fun i hi=>?_⟩,by omega,(by refine Cut.of' (0) ?_ (by omega) ?_ ?_<;>simp (disch:=first|omega|simp (disch:=omega) only[aG]) only[fZ])⟩
   rcases Nat.lt_succ_iff_lt_or_eq.1 hi with h|rfl
   ·exact hb i h
   ·exact h3
 have hb:∀i,i<ws.length→¬badW (ws.getD i 0):=fun i hi=>hb i (by omega)
 have hno:¬∃i,i<ws.length∧badW (ws.getD i 0):=by
  rintro⟨i,h2,h3⟩;exact hb i h2 h3
 have hle:=y7n hb
 rw[z8a h1 hno]
 simp (disch:=(try simp only[lZ]);omega) only[aZ]
 refine AWP.loopP ye2 (fun k:Nat=>k≤ws.length∧sumK ws k≤1125899906842624) (fun k=>[(1,.v (.int .i64 0)),(2,.v (.int .i64 0)),(4,.v (.int .i64 (sumK ws k))),(5,.v (.int .i64 k))]) (fun _=>[]) (fun k=>ws.length-k) 0 ⟨by omega,by rw[z0h];omega⟩ (by refine Cut.of' (0) ?_ (by omega) ?_ ?_<;>simp (disch:=first|omega|simp (disch:=omega) only[aG]) only[fZ,z0h]) ?_
 rintro k ⟨hk,hs⟩
 by_cases hlt:k<ws.length
 ·have h5:=hle k (by omega)
  have h6:=hle (k+1) (by omega)
  have h7:=z3Y ws k hlt
  have h8:=hb k hlt
  unfold badW at h8
  simp (disch:=(try simp only[lZ]);omega) only[aZ,← h7]
  refine y1 (fun h3=>?_) (fun h3=>?_)
  ·rw[z0B]at h6
   rw[if_neg (by omega)]
   simp (disch:=(try simp only[lZ]);omega) only[aZ,zO5]
   exact x2 (Fz.refl rfl) ⟨rfl,rfl⟩
  ·simp (disch:=(try simp only[lZ]);omega) only[aZ]
   exact⟨k+1,⟨by omega,by omega⟩,by omega,(by refine Cut.of' (0) ?_ (by omega) ?_ ?_<;>simp (disch:=first|omega|simp (disch:=omega) only[aG]) only[fZ])⟩
 ·have hke:k=ws.length:=by omega
  subst hke
  rw[z0B]at hs ⊢
  rw[if_pos hs]
  simp (disch:=(try simp only[lZ]);omega) only[aZ,zO5]
  exact x2 (Fz.refl rfl) ⟨rfl,rfl⟩
theorem y4e(a:Int)(ha:0≤a)(k:Nat):a / 2 ^ k=2*(a / 2 ^ (k+1))+a / 2 ^ k % 2:=by
 have h1:a / 2 ^ (k+1)=a / 2 ^ k / 2:=by
  rw[Int.pow_succ,Int.ediv_ediv_of_nonneg (Int.le_of_lt (Int.pow_pos (by decide)))]
 rw[h1];omega
theorem yr4(a:Int)(h0:0≤a)(h1:a≤70368744177664):a / 2 ^ 51=0:=by
 have:(2:Int) ^ 51=2251799813685248:=by decide
 rw[this];omega
theorem yr5(a:Int)(h0:0≤a)(h1:a≤70368744177664)(k:Nat):0≤a / 2 ^ k∧a / 2 ^ k≤70368744177664:=by
 have hp:(0:Int)<2 ^ k:=Int.pow_pos (by decide)
 refine⟨Int.ediv_nonneg h0 (Int.le_of_lt hp),?_⟩
 have:=Int.ediv_le_self (2 ^ k) h0
 omega
theorem y2c(a b c:Int)(ha:0≤a∧a≤70368744177664)(hb:0≤b∧b≤c)(hc:0<c∧c≤1125899906842624):VR P false z1F [.v (.int .i64 a),.v (.int .i64 b),.v (.int .i64 c)] [] (isR (z0i (a*b / c,a*b % c))):=by
 refine z71 (by simp) (.inr rfl) fun _ _=>?_
 simp (disch:=(try simp only[lZ]);omega) only[aZ,zG8,z1H]
 refine AWP.loopP (α:=Nat×Int×Int) z6r (fun s=>s.1≤51∧c*s.2.1+s.2.2=a / 2 ^ s.1*b∧0≤s.2.2∧s.2.2<c∧0≤s.2.1∧s.2.1≤a / 2 ^ s.1) (fun s=>[(5,.v (.int .i64 s.2.1)),(6,.v (.int .i64 s.2.2)),(7,.v (.int .i64 (s.1-1)))]) (fun _=>[]) (fun s=>s.1) (51,0,0) ⟨Nat.le_refl _,?_,by simp,by simp only;omega,by simp,?_⟩ ?_ ?_
 ·simp only;rw[yr4 a ha.1 ha.2];simp
 ·simp only;rw[yr4 a ha.1 ha.2];simp
 ·have e51:((51:Nat):Int)-1=50:=by omega
  simp only[e51]
  exact Cut.of' 0 rfl (by omega) (by simp (disch:=first|omega|simp (disch:=omega) only[aG]) only[fZ]) (by simp (disch:=first|omega|simp (disch:=omega) only[aG]) only[fZ])
 rintro⟨m,q,r⟩ ⟨h1,h2,h3,h4,h5,h6⟩
 simp only at h1 h2 h3 h4 h5 h6
 by_cases hm:0<m
 ·obtain⟨k,rfl⟩:∃k,m=k+1:=⟨m-1,by omega⟩
  have e1:((k+1:Nat):Int)-1=(k:Nat):=by omega
  have hh:=y4e a ha.1 k
  have hd:=yr5 a ha.1 ha.2 (k+1)
  have hd2:=yr5 a ha.1 ha.2 k
  have e2:(2:Int) ^ 1=2:=by decide
  generalize hA:a / 2 ^ (k+1)=A1 at *
  generalize hB:a / 2 ^ k=A0 at *
  have hbit:A0 % 2=0∨A0 % 2=1:=by omega
  have hA0:A0*b=2*(A1*b)+A0 % 2*b:=by
   have:A0*b=(2*A1+A0 % 2)*b:=by rw[← hh]
   rw[this,Int.add_mul,Int.mul_assoc]
  simp (disch:=(try simp only[lZ]);omega) only[aZ,e1,zh9,y18,Int.toNat_natCast,hB,y19 A0 1 1 (by omega) rfl (by omega) (by omega),e2]
  have hAb:A0*b≤A0*c:=Int.mul_le_mul_of_nonneg_left hb.2 hd2.1
  obtain⟨R,hR⟩:∃R,R=2*r+A0 % 2*b:=⟨_,rfl⟩
  have hRb:0≤R∧R<3*c∧c*(2*q)+R=A0*b:=by
   have:c*(2*q)=2*(c*q):=by rw[← Int.mul_assoc,Int.mul_comm c 2,Int.mul_assoc]
   rcases hbit with h|h<;>rw[h]at hR hA0<;>omega
  refine z9W (fun e'=>e'=[.v (.int .i64 a),.v (.int .i64 b),.v (.int .i64 c),.v (.int .i64 0),.v (.int .i64 0),.v (.int .i64 (2*q)),.v (.int .i64 R),.v (.int .i64 (k:Nat))]) ?_ ?_ ?_
  ·intro ht
   have h1:=of_decide_eq_true ht
   rw[h1]at hR
   have:2*r+b=R:=by omega
   simp (disch:=(try simp only[lZ]);omega) only[aZ,this]
   exact⟨trivial,trivial,by first|rfl|trivial⟩
  ·intro ht
   have h1:=of_decide_eq_false ht
   have h0:A0 % 2=0:=by omega
   rw[h0]at hR
   have:2*r=R:=by omega
   simp (disch:=(try simp only[lZ]);omega) only[aZ,this]
   exact⟨trivial,trivial,by first|rfl|trivial⟩
  rintro e' rfl
  clear hbit hh hA0
  simp (disch:=(try simp only[lZ]);omega) only[aZ]
  refine AWP.loopP (α:=Int×Int) z6s (fun s=>c*s.1+s.2=A0*b∧0≤s.2∧s.2<3*c∧0≤s.1) (fun s=>[(5,.v (.int .i64 s.1)),(6,.v (.int .i64 s.2))]) (fun _=>[]) (fun s=>s.2.toNat) (2*q,R) ⟨hRb.2.2,hRb.1,hRb.2.1,by simp only;omega⟩ ?_ ?_
  ·exact Cut.of' 0 rfl (by omega) (by simp (disch:=first|omega|simp (disch:=omega) only[aG]) only[fZ]) (by simp (disch:=first|omega|simp (disch:=omega) only[aG]) only[fZ])
  rintro⟨u,v⟩ ⟨g1,g2,g3,g4⟩
  simp only at g1 g2 g3 g4
  have hu:u≤A0:=by
   apply Int.le_of_mul_le_mul_left (a:=c) _ hc.1
   rw[Int.mul_comm c A0];omega
  by_cases hv:c≤v
  ·simp (disch:=(try simp only[lZ]);omega) only[aZ]
   refine⟨(u+1,v-c),⟨?_,by simp only;omega,by simp only;omega,by simp only;omega⟩,by simp only;omega,?_⟩
   ·simp only;rw[Int.mul_add];omega
   ·exact Cut.of' 0 rfl (by omega) (by simp (disch:=first|omega|simp (disch:=omega) only[aG]) only[fZ]) (by simp (disch:=first|omega|simp (disch:=omega) only[aG]) only[fZ])
  ·simp (disch:=(try simp only[lZ]);omega) only[aZ]
   refine⟨(k,u,v),⟨by simp only;omega,by simp only[hB];exact g1,g2,by simp only;omega,g4,by simp only[hB];exact hu⟩,by simp only;omega,?_⟩
   exact Cut.of' 0 rfl (by omega) (by simp (disch:=first|omega|simp (disch:=omega) only[aG]) only[fZ]) (by simp (disch:=first|omega|simp (disch:=omega) only[aG]) only[fZ])
 ·have hm0:m=0:=by omega
  subst hm0
  rw[Int.pow_zero,Int.ediv_one]at h2
  have hq:a*b / c=q:=by
   rw[← h2,Int.add_comm,Int.add_mul_ediv_left _ _ (by omega),Int.ediv_eq_zero_of_lt h3 h4,Int.zero_add]
  have hr:a*b % c=r:=by
   rw[← h2,Int.add_comm,Int.add_mul_emod_self_left,Int.emod_eq_of_lt h3 h4]
  rw[hq,hr]
  unfold z0i
  simp (disch:=(try simp only[lZ]);omega) only[aZ,z9p]
  exact x2 (Fz.refl rfl) ⟨rfl,rfl⟩
theorem y4f(x y:Int)(hx:0≤x∧x≤18446744073709551615)(hy:0≤y∧y≤18446744073709551615):VR P false z5M [.v (.int .u64 x),.v (.int .u64 y)] [] (isR (.tup [.v (.int .u64 (x*y / 18446744073709551616)),.v (.int .u64 (IntKind.wrap .u64 (x*y)))])):=by
 refine ye3 (by simp) (.inr rfl) fun _ _=>?_
 have e32:(2:Int) ^ (32:Int).toNat=4294967296:=by decide
 have e32':(2:Int) ^ 32=4294967296:=by decide
 obtain⟨X,rfl⟩:∃X:Nat,x=X:=⟨x.toNat,by omega⟩
 obtain⟨Y,rfl⟩:∃Y:Nat,y=Y:=⟨y.toNat,by omega⟩
 obtain⟨m1,m2,m3,m4⟩:=Go.Lib.mul64_hi X Y (by omega) (by omega)
 have n4:(X:Int) / 4294967296*((Y:Int) / 4294967296)+((X:Int) / 4294967296*((Y:Int) % 4294967296)+(X:Int) % 4294967296*((Y:Int) % 4294967296) / 4294967296) / 4294967296+(((X:Int) / 4294967296*((Y:Int) % 4294967296)+(X:Int) % 4294967296*((Y:Int) % 4294967296) / 4294967296) % 4294967296+(X:Int) % 4294967296*((Y:Int) / 4294967296)) / 4294967296=(X:Int)*Y / 18446744073709551616:=by
  have:=congrArg (fun n:Nat=>(n:Int)) m4
  simpa only[Int.natCast_add,Int.natCast_mul,Int.natCast_ediv,Int.natCast_emod,Int.cast_ofNat_Int]using this
 have n1:(X:Int) % 4294967296*((Y:Int) % 4294967296)<18446744073709551616:=by
  have:=Int.ofNat_lt.2 m1
  simpa only[Int.natCast_add,Int.natCast_mul,Int.natCast_ediv,Int.natCast_emod,Int.cast_ofNat_Int]using this
 have n2:(X:Int) / 4294967296*((Y:Int) % 4294967296)+(X:Int) % 4294967296*((Y:Int) % 4294967296) / 4294967296<18446744073709551616:=by
  have:=Int.ofNat_lt.2 m2
  simpa only[Int.natCast_add,Int.natCast_mul,Int.natCast_ediv,Int.natCast_emod,Int.cast_ofNat_Int]using this
 have n3:((X:Int) / 4294967296*((Y:Int) % 4294967296)+(X:Int) % 4294967296*((Y:Int) % 4294967296) / 4294967296) % 4294967296+(X:Int) % 4294967296*((Y:Int) / 4294967296)<18446744073709551616:=by
  have:=Int.ofNat_lt.2 m3
  simpa only[Int.natCast_add,Int.natCast_mul,Int.natCast_ediv,Int.natCast_emod,Int.cast_ofNat_Int]using this
 have p1:0≤(X:Int) % 4294967296*((Y:Int) % 4294967296):=Int.mul_nonneg (by omega) (by omega)
 have p2:0≤(X:Int) / 4294967296*((Y:Int) % 4294967296):=Int.mul_nonneg (by omega) (by omega)
 have p3:0≤(X:Int) % 4294967296*((Y:Int) / 4294967296):=Int.mul_nonneg (by omega) (by omega)
 have p4:0≤(X:Int) / 4294967296*((Y:Int) / 4294967296):=Int.mul_nonneg (by omega) (by omega)
 have p5:(X:Int)*Y / 18446744073709551616≤18446744073709551615:=by
  have:(X:Int)*Y≤18446744073709551615*18446744073709551615:=Int.mul_le_mul (by omega) (by omega) (by omega) (by omega)
  omega
 have p6:0≤(X:Int)*Y:=Int.mul_nonneg (by omega) (by omega)
 simp (disch:=(try simp only[lZ]);omega) only[aZ,zZ9,z5O,y2a (X:Int) 4294967295 32 (by omega) rfl (by omega) (by omega),y2a (Y:Int) 4294967295 32 (by omega) rfl (by omega) (by omega),y6o,e32,e32']
 generalize hA:(X:Int) / 4294967296*((Y:Int) / 4294967296)=A at *
 generalize hB:(X:Int) / 4294967296*((Y:Int) % 4294967296)=B at *
 generalize hC:(X:Int) % 4294967296*((Y:Int) / 4294967296)=C at *
 generalize hD:(X:Int) % 4294967296*((Y:Int) % 4294967296)=D at *
 simp (disch:=(try simp only[lZ]);omega) only[aZ,zh9,y6o,e32,e32',y2a (B+D / 4294967296) 4294967295 32 (by omega) rfl (by omega) (by omega),hA,hC,n4,yp5]
 exact x2 (Fz.refl rfl) ⟨rfl,rfl⟩
theorem yx6(lo y:Int)(hlo:0≤lo∧lo≤18446744073709551615)(hy:0<y∧y≤18446744073709551615):VR P false z0a [.v (.int .u64 0),.v (.int .u64 lo),.v (.int .u64 y)] [] (isR (.tup [.v (.int .u64 (lo / y)),.v (.int .u64 (lo % y))])):=by
 refine ye4 (by simp) (.inr rfl) fun _ _=>?_
 have h1:lo.tdiv y=lo / y:=Int.tdiv_eq_ediv_of_nonneg hlo.1
 have h2:lo.tmod y=lo % y:=Int.tmod_eq_emod_of_nonneg hlo.1
 have h3:0≤lo / y:=Int.ediv_nonneg hlo.1 (by omega)
 have h4:lo / y≤lo:=Int.ediv_le_self y hlo.1
 simp (disch:=(try simp only[lZ]);omega) only[aZ,z0b,z5Q,h1,h2,zh9,yp6]
 exact x2 (Fz.refl rfl) ⟨rfl,rfl⟩
def zK5(t:Int)(ws:List Int):Int :=
 if t<0∨70368744177664<t then 1 else if(zj3 ws).2≠0 then(zj3 ws).2 else if(zj3 ws).1=0∧0<t then 10 else 0
def zK6(t:Int)(ws:List Int):List Int×Int:=if zK5 t ws≠0 then([],zK5 t ws)else(zv1 t ws,0)
structure SplitOk(t:Int)(ws:List Int):Prop where
 t0:0≤t∧t≤70368744177664
 len:1≤ws.length∧ws.length≤512
 w:∀x∈ws,0≤x∧x≤1125899906842624
 sum:ws.sum≤1125899906842624
 pos:ws.sum=0→t=0
 we:zj3 ws=(ws.sum,0)
theorem zz1{t:Int}{ws:List Int}(h:zK5 t ws=0):SplitOk t ws:=by
 unfold zK5 at h
 split at h
 ·cases h
 rename_i h1
 split at h
 ·contradiction
 rename_i h2
 split at h
 ·cases h
 rename_i h3
 have h2':=Classical.not_not.1 h2
 have hw:zj3 ws=if ws.length<1∨512<ws.length then(0,1)else if ∃i,i<ws.length∧badW (ws.getD i 0)then(0,1)else if ws.sum≤1125899906842624 then(ws.sum,0)else(0,2):=rfl
 by_cases a1:ws.length<1∨512<ws.length
 ·rw[if_pos a1]at hw;rw[hw]at h2';cases h2'
 rw[if_neg a1]at hw
 by_cases a2:∃i,i<ws.length∧badW (ws.getD i 0)
 ·rw[if_pos a2]at hw;rw[hw]at h2';cases h2'
 rw[if_neg a2]at hw
 by_cases a3:ws.sum≤1125899906842624
 ·rw[if_pos a3]at hw
  rw[hw]at h3
  refine⟨by omega,by omega,fun x hx=>?_,a3,fun hz=>?_,hw⟩
  ·obtain⟨i,h4,rfl⟩:=zp7 hx
   apply Classical.byContradiction;intro hc
   exact a2 ⟨i,h4,by unfold badW;omega⟩
  ·simp only at h3;omega
 ·rw[if_neg a3]at hw;rw[hw]at h2';cases h2'
theorem SplitOk.sp{t:Int}{ws:List Int}(h:SplitOk t ws):SpOk t ws:=⟨h.t0.1,fun w hw=>(h.w w hw).1,fun hc=>by have:=h.len;rw[hc]at this;simp at this,h.pos⟩
theorem w_le{t:Int}{ws:List Int}(h:SplitOk t ws){i:Nat}(hi:i<ws.length):0≤ws.getD i 0∧ws.getD i 0≤ws.sum:=by
 have h1:=h.w _ (ze7 hi)
 refine⟨h1.1,?_⟩
 have:=z6D ((List.replicate ws.length 0).set i (ws.getD i 0)) ws (by simp) fun l hl=>by
  simp only[List.length_set,List.length_replicate]at hl
  rw[X4]
  split
  ·rename_i hc;rw[hc.1];exact Int.le_refl _
  ·have:=(h.w _ (ze7 hl)).1
   simpa [List.getD_eq_getElem?_getD,hl]using this
 rw[z0A _ _ _ (by simpa using hi)]at this
 have e1:(List.replicate ws.length (0:Int)).sum=0:=by
  induction ws.length with
  | zero=>rfl
  | succ n ih=>rw[List.replicate_succ,List.sum_cons,ih];rfl
 have e2:(List.replicate ws.length (0:Int)).getD i 0=0:=by simp [List.getD_eq_getElem?_getD,hi]
 omega
theorem q_le{t:Int}{ws:List Int}(h:SplitOk t ws){i:Nat}(hi:i<ws.length):0≤t*ws.getD i 0 / ws.sum∧t*ws.getD i 0 / ws.sum≤t:=by
 have h1:=w_le h hi
 have h0:=h.t0.1
 refine⟨Int.ediv_nonneg (Int.mul_nonneg h0 h1.1) (by omega),?_⟩
 by_cases hz:ws.sum=0
 ·rw[hz,Int.ediv_zero];exact h0
 ·have:t*ws.getD i 0≤t*ws.sum:=Int.mul_le_mul_of_nonneg_left h1.2 h0
  have:=Int.ediv_le_ediv (show 0<ws.sum by omega) this
  rwa [Int.mul_ediv_cancel _ hz]at this
theorem r_le{t:Int}{ws:List Int}(h:SplitOk t ws){i:Nat}(hi:i<ws.length):0≤t*ws.getD i 0 % ws.sum∧t*ws.getD i 0 % ws.sum≤1125899906842624:=by
 have h1:=w_le h hi
 by_cases hz:ws.sum=0
 ·rw[hz,h.pos hz];simp
 ·have:=Int.emod_lt_of_pos (t*ws.getD i 0) (show 0<ws.sum by omega)
  have:=Int.emod_nonneg (t*ws.getD i 0) hz
  have:=h.sum
  omega
def zK7(t:Int)(ws:List Int)(k:Nat):List Int:=(quos t ws).take k++List.replicate (ws.length-k) 0
def z1I(t:Int)(ws:List Int)(k:Nat):List Int:=(rems t ws).take k++List.replicate (ws.length-k) 0
def z1J(n k:Nat):List Int:=rng 0 k++List.replicate (n-k) 0
theorem z8b(l:List Int)(n k:Nat)(y:Int)(hl:l.length=n)(hk:k<n)(hy:y=l.getD k 0):(l.take k++List.replicate (n-k) 0).set k y=l.take (k+1)++List.replicate (n-(k+1)) 0:=by
 subst hy
 have h1:(l.take k).length=k:=by simp;omega
 rw[List.set_append_right _ _ (by omega),h1,Nat.sub_self,show n-k=(n-(k+1))+1 by omega,List.replicate_succ,List.set_cons_zero,zP3 l k (by omega)]
 simp
theorem z3Z(l:List Int)(n k:Nat)(hl:l.length=n)(hk:k≤n):(l.take k++List.replicate (n-k) (0:Int)).length=n:=by simp;omega
theorem yr6(l:List Int)(n k:Nat)(hl:l.length=n)(hk:k<n):(l.take k++List.replicate (n-k) (0:Int)).getD k 0=0:=by
 have h1:(l.take k).length=k:=by simp;omega
 rw[zu0,h1,if_neg (by omega),Nat.sub_self]
 simp [List.getD_eq_getElem?_getD,show 0<n-k by omega]
theorem yf6{t:Int}{ws:List Int}(h:SplitOk t ws):∀k,k≤ws.length→0≤sumK (quos t ws) k∧sumK (quos t ws) k≤t:=fun k hk=>by
 have hl:=zl3 t ws
 have hnn:∀x∈quos t ws,0≤x:=fun x hx=>by
  obtain⟨i,h2,rfl⟩:=zp7 hx
  exact y1W h.sp i (by omega)
 have h1:=z0f ((quos t ws).take k) fun x hx=>hnn x (List.mem_of_mem_take hx)
 have h2:=z0f ((quos t ws).drop k) fun x hx=>hnn x (List.mem_of_mem_drop hx)
 have h3:(quos t ws).sum=((quos t ws).take k).sum+((quos t ws).drop k).sum:=by rw[← List.sum_append,List.take_append_drop]
 have h4:=(ye8 h.sp).1
 unfold sumK;omega
theorem z8c(n k:Nat)(hk:k≤n):z1J n k=(rng 0 n).take k++List.replicate (n-k) 0:=by
 unfold z1J
 congr 1
 have:rng 0 n=rng 0 k++rng (0+k) (n-k):=by rw[← yq9];congr 1;omega
 rw[this,List.take_append_of_le_length (by rw[zo7];exact Nat.le_refl _),List.take_of_length_le (by rw[zo7];exact Nat.le_refl _)]
theorem yM8{t:Int}{ws:List Int}(h:t<0∨70368744177664<t):zK6 t ws=([],1):=by unfold zK6 zK5;rw[if_pos h];rfl
theorem y4g{t:Int}{ws:List Int}(h:¬(t<0∨70368744177664<t))(h2:(zj3 ws).2≠0):zK6 t ws=([],(zj3 ws).2):=by unfold zK6 zK5;rw[if_neg h,if_pos h2,if_pos h2]
theorem z6E{t:Int}{ws:List Int}(h:¬(t<0∨70368744177664<t))(h2:¬(zj3 ws).2≠0)(h3:(zj3 ws).1=0∧0<t):zK6 t ws=([],10):=by unfold zK6 zK5;rw[if_neg h,if_neg h2,if_pos h3];rfl
theorem xf1{t:Int}{ws:List Int}(h:¬(t<0∨70368744177664<t))(h2:¬(zj3 ws).2≠0)(h3:¬((zj3 ws).1=0∧0<t)):zK5 t ws=0∧zK6 t ws=(zv1 t ws,0):=by
 have:zK5 t ws=0:=by unfold zK5;rw[if_neg h,if_neg h2,if_neg h3]
 exact⟨this,by unfold zK6;rw[if_neg (by omega)]⟩
theorem yf7{p0 q0:List Int}(hp:∀i,i<p0.length→0≤p0.getD i 0∧p0.getD i 0≤70368744177664):∀k i,i<p0.length→0≤(rd p0 q0 k).1.getD i 0∧(rd p0 q0 k).1.getD i 0≤70368744177664+k
 | 0,i,hi=>by have:=hp i hi;simp only[rd];omega
 | k+1,i,hi=>by
  have ih:=yf7 (q0:=q0) hp k
  simp only[rd,inc]
  rw[X4]
  split
  ·rename_i h
   rw[h.1]
   have:=ih i hi;omega
  ·have:=ih i hi;omega
def y6p(t:Int)(ws:List Int):A→List Blk→Prop:=fun r G=>((zK6 t ws).2≠0∧r=.tup [.fs true [],.v (.int .i64 (zK6 t ws).2)]∧G=[])∨((zK6 t ws).2=0∧∃ver,r=.tup [.sl 0 ver 1 0 ws.length,.v (.int .i64 0)]∧G=[⟨ver,ints (zv1 t ws)⟩])
theorem z9s{w:Bool}(t:Int)(ws:List Int):VR P false z3E [.v (.int .i64 t),.fs w (ints ws)] [] (y6p t ws):=by
 refine z9o (by simp) (.inr rfl) fun _ _=>?_
 simp (disch:=(try simp only[lZ]);omega) only[aZ,zO4,z3G]
 refine y1 (fun h1=>?_) (fun h1=>?_)
 ·simp (disch:=(try simp only[lZ]);omega) only[aZ,zw1]
  exact z0w (.inl ⟨by rw[yM8 h1];decide,by rw[yM8 h1],rfl⟩)
 simp (disch:=(try simp only[lZ]);omega) only[aZ]
 refine(yx5 (w:=w) ws).same (by simp (disch:=first|omega|simp (disch:=omega) only[aG]) only[fZ]) rfl (z7 ?_)
 unfold z0i
 simp (disch:=(try simp only[lZ]);omega) only[aZ]
 refine y1 (fun h2=>?_) (fun h2=>?_)
 ·simp (disch:=(try simp only[lZ]);omega) only[aZ,zw1]
  exact z0w (.inl ⟨by rw[y4g h1 h2];exact h2,by rw[y4g h1 h2],rfl⟩)
 simp (disch:=(try simp only[lZ]);omega) only[aZ]
 refine y1 (fun h3=>?_) (fun h3=>?_)
 ·simp (disch:=(try simp only[lZ]);omega) only[aZ,zw1]
  exact z0w (.inl ⟨by rw[z6E h1 h2 h3];decide,by rw[z6E h1 h2 h3],rfl⟩)
 obtain⟨e0,e1⟩:=xf1 h1 h2 h3
 have ok:=zz1 e0
 obtain⟨t0,t1⟩:=ok.t0
 obtain⟨n0,n1⟩:=ok.len
 have hws:=ok.sum
 have hl:=zl3 t ws
 have hl2:=zp8 t ws
 have hlb:=ye8 ok.sp
 rw[ok.we]
 have p0:ints []=([]:List A):=rfl
 simp (disch:=(try simp only[lZ]);omega) only[aZ]
 refine AWP.loopP (α:=Nat×Nat×Nat) z7T (fun s=>s.1≤ws.length) (fun s=>[(2,.v (.slice none 0 0)),(3,.v (.int .i64 0)),(6,.sl 0 s.2.1 1 0 s.1),(7,.sl 1 s.2.2 1 0 s.1),(8,.v (.int .i64 (t-sumK (quos t ws) s.1))),(9,.v (.int .i64 s.1))]) (fun s=>[(0,⟨s.2.1,ints ((quos t ws).take s.1)⟩),(1,⟨s.2.2,ints ((rems t ws).take s.1)⟩)]) (fun s=>ws.length-s.1) (0,0,0) (by simp) ?_ ?_
 ·simp only[List.take_zero,z0h,Int.sub_zero,p0]
  try simp (disch:=(try simp only[lZ]);omega) only[aZ]
  exact Cut.of' 2 rfl (by omega) (by simp (disch:=first|omega|simp (disch:=omega) only[aG]) only[fZ]) (by simp (disch:=first|omega|simp (disch:=omega) only[aG]) only[fZ])
 rintro⟨k,v1,v2⟩ hk
 simp only at hk
 have hsb:=yf6 ok k hk
 have lt1:((quos t ws).take k).length=k:=by simp;omega
 have lt2:((rems t ws).take k).length=k:=by simp;omega
 by_cases hlt:k<ws.length
 ·have hsb1:=yf6 ok (k+1) (by omega)
  have hs1:=z3Y (quos t ws) k (by omega)
  have g1:(quos t ws).getD k 0=t*ws.getD k 0 / ws.sum:=zi5 _ _ _ hlt
  have g2:(rems t ws).getD k 0=t*ws.getD k 0 % ws.sum:=zi5 _ _ _ hlt
  have ts1:=zP3 (quos t ws) k (by omega)
  have ts2:=zP3 (rems t ws) k (by omega)
  rw[g1]at hs1 ts1
  rw[g2]at ts2
  have hwl:=w_le ok hlt
  have tk1:∀l:List Int,(l.take k).take k=l.take k:=fun l=>by rw[List.take_take,Nat.min_self]
  have sa:(t-sumK (quos t ws) k)-t*ws.getD k 0 / ws.sum=t-sumK (quos t ws) (k+1):=by omega
  have hqr:=q_le ok hlt
  simp (disch:=(try simp only[lZ]);omega) only[aZ]
  refine y1 (fun h4=>?_) (fun h4=>?_)
  ·simp (disch:=(try simp only[lZ]);omega) only[aZ]
   refine(y2c t (ws.getD k 0) ws.sum ⟨t0,t1⟩ hwl ⟨by omega,hws⟩).same (by simp (disch:=first|omega|simp (disch:=omega) only[aG]) only[fZ]) rfl (z7 ?_)
   unfold z0i
   simp (disch:=(try simp only[lZ]);omega) only[aZ,tk1,sa]
   refine⟨(k+1,v1+1,v2+1),by simp only;omega,by simp only;omega,?_⟩
   simp only[ts1,ts2]
   try simp (disch:=(try simp only[lZ]);omega) only[aZ]
   exact Cut.of' 2 rfl (by omega) (by simp (disch:=first|omega|simp (disch:=omega) only[aG]) only[fZ,tk1]) (by simp (disch:=first|omega|simp (disch:=omega) only[aG]) only[fZ])
  ·have hz:ws.sum=0:=by omega
   have z1:t*ws.getD k 0 / ws.sum=0:=by rw[hz,Int.ediv_zero]
   have z2:t*ws.getD k 0 % ws.sum=0:=by rw[hz,ok.pos hz];simp
   rw[z1]at sa ts1
   rw[z2]at ts2
   simp (disch:=(try simp only[lZ]);omega) only[aZ,tk1,sa]
   refine⟨(k+1,v1+1,v2+1),by simp only;omega,by simp only;omega,?_⟩
   simp only[ts1,ts2]
   try simp (disch:=(try simp only[lZ]);omega) only[aZ]
   exact Cut.of' 2 rfl (by omega) (by simp (disch:=first|omega|simp (disch:=omega) only[aG]) only[fZ,tk1]) (by simp (disch:=first|omega|simp (disch:=omega) only[aG]) only[fZ])
 ·have hke:k=ws.length:=by omega
  subst hke
  have tq:(quos t ws).take ws.length=quos t ws:=List.take_of_length_le (by omega)
  have tr:(rems t ws).take ws.length=rems t ws:=List.take_of_length_le (by omega)
  have sq:sumK (quos t ws) ws.length=(quos t ws).sum:=by rw[← hl,z0B]
  have hlN:t-(quos t ws).sum=(zA3 t ws:Nat):=by unfold zA3;omega
  have hpb:∀i,i<(quos t ws).length→0≤(quos t ws).getD i 0∧(quos t ws).getD i 0≤70368744177664:=fun i hi=>by
   rw[show(quos t ws).getD i 0=t*ws.getD i 0 / ws.sum from zi5 _ _ _ (by omega)]
   have:=q_le ok (i:=i) (by omega);omega
  rw[tq,tr,sq,hlN]
  have hln:zA3 t ws<ws.length:=by omega
  clear hsb lt1 lt2 hlt
  simp (disch:=(try simp only[lZ]);omega) only[aZ]
  refine AWP.loopP (α:=Nat) z7U (fun m=>m≤zA3 t ws) (fun m=>[(8,.v (.int .i64 (zA3 t ws-m)))]) (fun m=>[(0,⟨v1,ints (rd (quos t ws) (rems t ws) m).1⟩),(1,⟨v2,ints (rd (quos t ws) (rems t ws) m).2⟩)]) (fun m=>zA3 t ws-m) 0 (Nat.zero_le _) ?_ ?_
  ·simp only[rd,Int.sub_zero,Int.natCast_zero]
   exact Cut.of' 2 rfl (by omega) (by simp (disch:=first|omega|simp (disch:=omega) only[aG]) only[fZ]) (by simp (disch:=first|omega|simp (disch:=omega) only[aG]) only[fZ])
  rintro m hm
  have hrl:=zA8 (quos t ws) (rems t ws) m
  have hrb:=yf7 (q0:=rems t ws) hpb m
  obtain⟨p,hp⟩:∃p,p=(rd (quos t ws) (rems t ws) m).1:=⟨_,rfl⟩
  obtain⟨q,hq⟩:∃q,q=(rd (quos t ws) (rems t ws) m).2:=⟨_,rfl⟩
  rw[← hp,← hq]at hrl ⊢
  rw[← hp]at hrb
  by_cases hml:m<zA3 t ws
  ·have hrs:rd (quos t ws) (rems t ws) (m+1)=(inc p (zc0 q),q.set (zc0 q) (-1)):=by rw[rd,← hp,← hq]
   simp (disch:=(try simp only[lZ]);omega) only[aZ]
   refine AWP.loopP (α:=Nat) z7V (fun i=>1≤i∧i≤q.length) (fun i=>[(12,.v (.int .i64 (zh7 q i))),(13,.v (.int .i64 i))]) (fun _=>[]) (fun i=>q.length-i) 1 ⟨Nat.le_refl _,by omega⟩ ?_ ?_
   ·simp only[y1V]
    exact Cut.of' 2 rfl (by omega) (by simp (disch:=first|omega|simp (disch:=omega) only[aG]) only[fZ]) (by simp (disch:=first|omega|simp (disch:=omega) only[aG]) only[fZ])
   rintro i ⟨hi1,hi2⟩
   have hbl:=zw3 q i (by omega)
   by_cases hil:i<q.length
   ·have hbs:zh7 q (i+1)=if q.getD (zh7 q i) 0<q.getD i 0 then i else zh7 q i:=rfl
    simp (disch:=(try simp only[lZ]);omega) only[aZ]
    refine y1 (fun h5=>?_) (fun h5=>?_)
    ·rw[if_pos h5]at hbs
     simp (disch:=(try simp only[lZ]);omega) only[aZ]
     refine⟨i+1,⟨by omega,by omega⟩,by omega,?_⟩
     rw[hbs]
     exact Cut.of' 2 rfl (by omega) (by simp (disch:=first|omega|simp (disch:=omega) only[aG]) only[fZ]) (by simp (disch:=first|omega|simp (disch:=omega) only[aG]) only[fZ])
    ·rw[if_neg h5]at hbs
     simp (disch:=(try simp only[lZ]);omega) only[aZ]
     refine⟨i+1,⟨by omega,by omega⟩,by omega,?_⟩
     rw[hbs]
     exact Cut.of' 2 rfl (by omega) (by simp (disch:=first|omega|simp (disch:=omega) only[aG]) only[fZ]) (by simp (disch:=first|omega|simp (disch:=omega) only[aG]) only[fZ])
   ·have hie:i=q.length:=by omega
    subst hie
    have hbI:zh7 q q.length=zc0 q:=rfl
    rw[hbI]at hbl ⊢
    have hb:=hrb (zc0 q) (by omega)
    have hinc:p.set (zc0 q) (p.getD (zc0 q) 0+1)=inc p (zc0 q):=rfl
    simp (disch:=(try simp only[lZ]);omega) only[aZ,hinc]
    refine⟨m+1,by omega,by omega,?_⟩
    rw[hrs]
    try simp (disch:=(try simp only[lZ]);omega) only[aZ]
    exact Cut.of' 2 rfl (by omega) (by simp (disch:=first|omega|simp (disch:=omega) only[aG]) only[fZ]) (by simp (disch:=first|omega|simp (disch:=omega) only[aG]) only[fZ,Int.sub_sub])
  ·have hme:m=zA3 t ws:=by omega
   subst hme
   have hpR:p=zv1 t ws:=hp
   simp (disch:=(try simp only[lZ]);omega) only[aZ,zw1]
   refine⟨.tup [.sl 0 v1 1 0 ws.length,.v (.int .i64 0)],[⟨v1,ints (zv1 t ws)⟩],Cut.of' 1 rfl (by omega) ⟨rfl,by rw[hpR];exact FzL.refl (zn2 _ _),trivial⟩ ⟨Fz.refl rfl,trivial⟩,.inr ⟨by rw[e1],v1,rfl,rfl⟩⟩
theorem y2d(x:Int):VR P false ze6 [.v (.int .i64 x)] [] (isR (.v (.bool (decide (badM x))))):=by
 refine z2b (by simp) (.inr rfl) fun _ _=>?_
 simp (disch:=(try simp only[lZ]);omega) only[aZ,aM,aBl,zk5,zD5,z3H]
 exact y2 ⟨rfl,rfl⟩
theorem y4h{xs:List Int}{k:Nat}(hk:k<xs.length)(hb:∀i,i<k→¬badM (xs.getD i 0))(hp:badM (xs.getD k 0)):idxE badM xs=k:=zP0 (p:=badM) 0 hk hb hp
theorem y2e{xs:List Int}(hb:∀i,i<xs.length→¬badM (xs.getD i 0)):idxE badM xs=-1:=zz0 (p:=badM) 0 hb
theorem yx7{w:Bool}(xs:List Int)(hl:xs.length<1000000000):VR P false zD6 [.fs w (ints xs),.fn ze6 []] [] (isR (.v (.int .i64 (idxE badM xs)))):=by
 refine z2d (by simp) (.inr rfl) fun _ _=>?_
 simp (disch:=(try simp only[lZ]);omega) only[aZ,aM,aBl,zk6,zD8]
 refine AWP.loopP z0S (fun k:Nat=>k≤xs.length∧∀i,i<k→¬badM (xs.getD i 0)) (fun k=>[(2,.v (.int .i64 0)),(3,.v (.int .i64 k))]) (fun _=>[]) (fun k=>xs.length-k) 0 ⟨by omega,fun i hi=>by omega⟩ (by refine Cut.of' (0) ?_ (by omega) ?_ ?_<;>simp (disch:=first|omega|simp (disch:=omega) only[aG,aM,aBl]) only[fZ,aM,aBl]) ?_
 rintro k ⟨hk,hb⟩
 by_cases hlt:k<xs.length
 ·simp (disch:=(try simp only[lZ]);omega) only[aZ,aM,aBl]
  refine⟨by kernel_rfl,?_⟩
  refine(y2d (xs.getD k 0)).same (by simp (disch:=first|omega|simp (disch:=omega) only[aG,aM,aBl]) only[fZ,aM,aBl]) rfl (z7 ?_)
  simp (disch:=(try simp only[lZ]);omega) only[aZ,aM,aBl]
  refine y1 (fun h3=>?_) (fun h3=>?_)
  ·simp (disch:=(try simp only[lZ]);omega) only[aZ,aM,aBl,zD9]
   exact y2 ⟨by rw[y4h hlt hb h3],rfl⟩
  ·simp (disch:=(try simp only[lZ]);omega) only[aZ,aM,aBl]
   refine⟨k+1,⟨by omega,fun i hi=>?_⟩,by omega,(by refine Cut.of' (0) ?_ (by omega) ?_ ?_<;>simp (disch:=first|omega|simp (disch:=omega) only[aG,aM,aBl]) only[fZ,aM,aBl])⟩
   rcases Nat.lt_succ_iff_lt_or_eq.1 hi with h|rfl
   ·exact hb i h
   ·exact h3
 ·simp (disch:=(try simp only[lZ]);omega) only[aZ,aM,aBl,zD9]
  exact y2 ⟨by rw[y2e fun i hi=>hb i (by omega)],rfl⟩
theorem z9t{w:Bool}(xs:List Int)(hl:xs.length<1000000000):VR P false zq7 [.fs w (ints xs),.fn ze6 []] [] (isR (.v (.bool (decide (0≤idxE badM xs))))):=by
 refine zU5 (by simp) (.inr rfl) fun _ _=>?_
 simp (disch:=(try simp only[lZ]);omega) only[aZ,aM,aBl,zf5,zq9]
 refine(yx7 (w:=w) xs hl).same (by simp (disch:=first|omega|simp (disch:=omega) only[aG,aM,aBl]) only[fZ,aM,aBl]) rfl (z7 ?_)
 simp (disch:=(try simp only[lZ]);omega) only[aZ,aM,aBl,zZ3]
 exact y2 ⟨vdec Iff.rfl,rfl⟩
theorem yx8{w v:Bool}(l:List (List Int))(hl:l.length<1000000000):VR P false zt4 [.fs w (rows v l)] [] (isR (.v (.int .i64 (zc6 mixE l)))):=by
 refine z4J (by simp) (.inr rfl) fun _ _=>?_
 simp (disch:=(try simp only[lZ]);omega) only[aZ,aM,aBl,zt5,zT3]
 refine AWP.loopP z3t (fun k:Nat=>k≤l.length∧∀i,i<k→mixE (l.getD i [])=0) (fun k=>[(1,.v (.int .i64 0)),(2,.v (.int .i64 k))]) (fun _=>[]) (fun k=>l.length-k) 0 ⟨by omega,fun i hi=>by omega⟩ (by refine Cut.of' (0) ?_ (by omega) ?_ ?_<;>simp (disch:=first|omega|simp (disch:=omega) only[aG,aM,aBl]) only[fZ,aM,aBl]) ?_
 rintro k ⟨hk,hb⟩
 by_cases hlt:k<l.length
 ·simp (disch:=(try simp only[lZ]);omega) only[aZ,aM,aBl]
  refine y1 (fun h3=>?_) (fun h3=>?_)
  ·have he:=y35 (xs:=l.getD k []) (by omega)
   simp (disch:=(try simp only[lZ]);omega) only[aZ,aM,aBl,zt6]
   exact y2 ⟨by rw[zb9 [] hlt hb (by omega),he],rfl⟩
  ·simp (disch:=(try simp only[lZ]);omega) only[aZ,aM,aBl]
   refine(z9t (w:=v) (l.getD k []) (by omega)).same (by simp (disch:=first|omega|simp (disch:=omega) only[aG,aM,aBl]) only[fZ,aM,aBl]) rfl (z7 ?_)
   simp (disch:=(try simp only[lZ]);omega) only[aZ,aM,aBl]
   refine y1 (fun h4=>?_) (fun h4=>?_)
   ·have he:=y36 (xs:=l.getD k []) (by omega) h4
    simp (disch:=(try simp only[lZ]);omega) only[aZ,aM,aBl,zt6]
    exact y2 ⟨by rw[zb9 [] hlt hb (by omega),he],rfl⟩
   ·have he:=y1P (xs:=l.getD k []) (by omega) h4
    simp (disch:=(try simp only[lZ]);omega) only[aZ,aM,aBl]
    refine⟨k+1,⟨by omega,fun i hi=>?_⟩,by omega,(by refine Cut.of' (0) ?_ (by omega) ?_ ?_<;>simp (disch:=first|omega|simp (disch:=omega) only[aG,aM,aBl]) only[fZ,aM,aBl])⟩
    rcases Nat.lt_succ_iff_lt_or_eq.1 hi with h|rfl
    ·exact hb i h
    ·exact he
 ·simp (disch:=(try simp only[lZ]);omega) only[aZ,aM,aBl,zt6]
  exact y2 ⟨by rw[Z0 [] fun i hi=>hb i (by omega)],rfl⟩
theorem yT9(xs:List Int):zc6 mixE [xs]=mixE xs:=by
 unfold zc6 zc6;split
 ·rfl
 ·rename_i h;exact(Classical.not_not.1 h).symm
theorem z5R(xs:List Int):VR P false zt4 [.fs false [.fs false (ints xs)]] [] (isR (.v (.int .i64 (mixE xs)))):=by
 have h:=yx8 (w:=false) (v:=false) [xs] (by simp)
 rw[yT9]at h;exact h
theorem zT9{w:Bool}(xs:List Int):VR P false zS2 [.fs w (ints xs)] [] (isR (z0i (totM xs))):=by
 refine z4A (by simp) (.inr rfl) fun _ _=>?_
 unfold z0i
 simp (disch:=(try simp only[lZ]);omega) only[aZ,aM,aBl,zs9,zS4]
 refine(z5R xs).use (yq2 (by simp [zZ,blkAt,za1,A.cells,A.one,Lft.one,retA,A.bdL,A.bd,zn2])) rfl (z7 ?_)
 simp (disch:=(try simp only[lZ]);omega) only[aZ,aM,aBl]
 refine y1 (fun h1=>?_) (fun h1=>?_)
 ·rw[yM1 h1]
  simp (disch:=(try simp only[lZ]);omega) only[aZ,aM,aBl,zS5]
  exact x2 (Fz.refl rfl) ⟨rfl,rfl⟩
 have h1:=Classical.not_not.1 h1
 have h2:=yM2 h1
 have h3:=(zP2.1 h1).1
 rw[yw9 h1]
 simp (disch:=(try simp only[lZ]);omega) only[aZ,aM,aBl]
 refine AWP.loopP z3b (fun k:Nat=>k≤xs.length) (fun k=>[(4,.v (.int .i64 (sumT xs k))),(5,.v (.int .i64 k))]) (fun _=>[]) (fun k=>xs.length-k) 0 (by omega) ?_ ?_
 ·rw[zl1]
  exact Cut.of' 1 rfl (by omega) (by simp (disch:=first|omega|simp (disch:=omega) only[aG,aM,aBl]) only[fZ,aM,aBl]) (by simp (disch:=first|omega|simp (disch:=omega) only[aG,aM,aBl]) only[fZ,aM,aBl])
 rintro k hk
 have h4:=h2 k hk
 by_cases hlt:k<xs.length
 ·have h5:=z0z h1 k hlt
  simp (disch:=(try simp only[lZ]);omega) only[aZ,aM,aBl]
  refine⟨k+1,by omega,by omega,?_⟩
  rw[zl2 xs k hlt]
  exact Cut.of' 1 rfl (by omega) (by simp (disch:=first|omega|simp (disch:=omega) only[aG,aM,aBl]) only[fZ,aM,aBl]) (by simp (disch:=first|omega|simp (disch:=omega) only[aG,aM,aBl]) only[fZ,aM,aBl])
 ·have hke:k=xs.length:=by omega
  subst hke
  simp (disch:=(try simp only[lZ]);omega) only[aZ,aM,aBl,zS5,zi4]
  exact x2 (Fz.refl rfl) ⟨rfl,rfl⟩
theorem z4X{w:Bool}(xs:List Int)(i:Int):VR P false zI1 [.fs w (ints xs),.v (.int .i64 i)] [] (isR (z0i (purM xs i))):=by
 refine z3a (by simp) (.inr rfl) fun _ _=>?_
 have ht:=zT9 (w:=w) xs
 unfold z0i at ht ⊢
 simp (disch:=(try simp only[lZ]);omega) only[aZ,aM,aBl,zn7,zI3]
 refine ht.same (by simp (disch:=first|omega|simp (disch:=omega) only[aG,aM,aBl]) only[fZ,aM,aBl]) (by simp (disch:=first|omega|simp (disch:=omega) only[aG,aM,aBl]) only[fZ,aM,aBl]) (z7 ?_)
 by_cases h1:mixE xs=0
 case neg =>
  rw[yM1 h1,y37 h1]
  simp (disch:=(try simp only[lZ]);omega) only[aZ,aM,aBl,zg0]
  exact x2 (Fz.refl rfl) ⟨rfl,rfl⟩
 rw[yw9 h1]
 have h2:=ye6 h1
 simp (disch:=(try simp only[lZ]);omega) only[aZ,aM,aBl]
 refine y1 (fun h3=>?_) (fun h3=>?_)
 ·rw[y38 h1 h3]
  simp (disch:=(try simp only[lZ]);omega) only[aZ,aM,aBl,zg0]
  exact x2 (Fz.refl rfl) ⟨rfl,rfl⟩
 simp (disch:=(try simp only[lZ]);omega) only[aZ,aM,aBl]
 refine y1 (fun h4=>?_) (fun h4=>?_)
 ·rw[y39 h1 h3 h4]
  simp (disch:=(try simp only[lZ]);omega) only[aZ,aM,aBl,zg0]
  exact x2 (Fz.refl rfl) ⟨rfl,rfl⟩
 rw[y7k h1 h3 h4]
 have h5:=z3V h1 i.toNat
 have h6:0≤xs.getD i.toNat 0*1000 / xs.sum:=Int.ediv_nonneg (by omega) h2.1
 have h7:xs.getD i.toNat 0*1000 / xs.sum≤xs.getD i.toNat 0*1000:=Int.ediv_le_self _ (by omega)
 simp (disch:=(try simp only[lZ]);omega) only[aZ,aM,aBl,zg0]
 exact x2 (Fz.refl rfl) ⟨rfl,rfl⟩
def y7o(t:Int)(ws:List Int):Prop:=0<ws.sum→∀i,i<ws.length→VR P false z0a [.v (.int .u64 (t*ws.getD i 0 / 18446744073709551616)),.v (.int .u64 (IntKind.wrap .u64 (t*ws.getD i 0))),.v (.int .u64 ws.sum)] [] (isR (.tup [.v (.int .u64 (t*ws.getD i 0 / ws.sum)),.v (.int .u64 (t*ws.getD i 0 % ws.sum))]))
theorem yx9{t:Int}{ws:List Int}(h:SplitOk t ws)(hs:∀i,i<ws.length→t*ws.getD i 0≤18446744073709551615):y7o t ws:=fun hp i hi=>by
 have h1:=hs i hi
 have h2:0≤t*ws.getD i 0:=Int.mul_nonneg h.t0.1 (w_le h hi).1
 have:=h.sum
 rw[show t*ws.getD i 0 / 18446744073709551616=0 by omega,zh9 h2 h1]
 exact yx6 _ _ ⟨h2,h1⟩ ⟨hp,by omega⟩
theorem z9u{w:Bool}(t:Int)(ws:List Int)(hd:zK5 t ws=0→y7o t ws):VR P false z3J [.v (.int .i64 t),.fs w (ints ws)] [] (y6p t ws):=by
 refine z9q (by simp) (.inr rfl) fun _ _=>?_
 simp (disch:=(try simp only[lZ]);omega) only[aZ,zO6,z3L]
 refine y1 (fun h1=>?_) (fun h1=>?_)
 ·simp (disch:=(try simp only[lZ]);omega) only[aZ,zw2]
  exact z0w (.inl ⟨by rw[yM8 h1];decide,by rw[yM8 h1],rfl⟩)
 simp (disch:=(try simp only[lZ]);omega) only[aZ]
 refine(yT8 (w:=w) ws).same (by simp (disch:=first|omega|simp (disch:=omega) only[aG]) only[fZ]) rfl (z7 ?_)
 unfold z0i
 simp (disch:=(try simp only[lZ]);omega) only[aZ]
 refine y1 (fun h2=>?_) (fun h2=>?_)
 ·simp (disch:=(try simp only[lZ]);omega) only[aZ,zw2]
  exact z0w (.inl ⟨by rw[y4g h1 h2];exact h2,by rw[y4g h1 h2],rfl⟩)
 simp (disch:=(try simp only[lZ]);omega) only[aZ]
 refine y1 (fun h3=>?_) (fun h3=>?_)
 ·simp (disch:=(try simp only[lZ]);omega) only[aZ,zw2]
  exact z0w (.inl ⟨by rw[z6E h1 h2 h3];decide,by rw[z6E h1 h2 h3],rfl⟩)
 obtain⟨e0,e1⟩:=xf1 h1 h2 h3
 have hd:=hd e0
 have ok:=zz1 e0
 obtain⟨t0,t1⟩:=ok.t0
 obtain⟨n0,n1⟩:=ok.len
 have hws:=ok.sum
 have hl:=zl3 t ws
 have hl2:=zp8 t ws
 have hlb:=ye8 ok.sp
 rw[ok.we]
 simp (disch:=(try simp only[lZ]);omega) only[aZ]
 refine AWP.loopP (α:=Nat) z72 (fun k=>k≤ws.length) (fun k=>[(8,.v (.int .i64 (t-sumK (quos t ws) k))),(9,.v (.int .i64 k))]) (fun k=>[(0,⟨0,ints (zK7 t ws k)⟩),(1,⟨0,ints (z1I t ws k)⟩),(2,⟨0,ints (z1J ws.length k)⟩)]) (fun k=>ws.length-k) 0 (by omega) ?_ ?_
 ·have z1:zK7 t ws 0=List.replicate ws.length 0:=by simp [zK7]
  have z2:z1I t ws 0=List.replicate ws.length 0:=by simp [z1I]
  have z3:z1J ws.length 0=List.replicate ws.length 0:=by simp [z1J,rng]
  simp only[z1,z2,z3,z0h,Int.sub_zero]
  try simp (disch:=(try simp only[lZ]);omega) only[aZ]
  exact Cut.of' 4 rfl (by omega) (by simp (disch:=first|omega|simp (disch:=omega) only[aG]) only[fZ]) (by simp (disch:=first|omega|simp (disch:=omega) only[aG]) only[fZ])
 rintro k hk
 have hsb:=yf6 ok k hk
 have f1:(zK7 t ws k).length=ws.length:=z3Z _ _ _ hl hk
 have f2:(z1I t ws k).length=ws.length:=z3Z _ _ _ hl2 hk
 have f3:(z1J ws.length k).length=ws.length:=by rw[z8c _ _ hk];exact z3Z _ _ _ (zo7 _ _) hk
 by_cases hlt:k<ws.length
 ·have hsb1:=yf6 ok (k+1) (by omega)
  have hs1:=z3Y (quos t ws) k (by omega)
  have g1:(quos t ws).getD k 0=t*ws.getD k 0 / ws.sum:=zi5 _ _ _ hlt
  have g2:(rems t ws).getD k 0=t*ws.getD k 0 % ws.sum:=zi5 _ _ _ hlt
  rw[g1]at hs1
  have u1:(zK7 t ws k).set k (t*ws.getD k 0 / ws.sum)=zK7 t ws (k+1):=z8b _ _ _ _ hl hlt g1.symm
  have u2:(z1I t ws k).set k (t*ws.getD k 0 % ws.sum)=z1I t ws (k+1):=z8b _ _ _ _ hl2 hlt g2.symm
  have u3:(z1J ws.length k).set k (k:Int)=z1J ws.length (k+1):=by
   rw[z8c _ _ hk,z8c _ _ (by omega)]
   exact z8b _ _ _ _ (zo7 _ _) hlt (by rw[yf3 _ _ _ hlt,Nat.zero_add])
  have f1':(zK7 t ws (k+1)).length=ws.length:=z3Z _ _ _ hl (by omega)
  have u4:(zK7 t ws (k+1)).getD k 0=t*ws.getD k 0 / ws.sum:=by
   rw[← u1,X4,if_pos ⟨rfl,by omega⟩]
  have hwl:=w_le ok hlt
  have hqr:=q_le ok hlt
  have hrr:=r_le ok hlt
  have sa:(t-sumK (quos t ws) k)-t*ws.getD k 0 / ws.sum=t-sumK (quos t ws) (k+1):=by omega
  simp (disch:=(try simp only[lZ]);omega) only[aZ,Int.toNat_natCast,u3]
  refine y1 (fun h4=>?_) (fun h4=>?_)
  ·have hdk:=hd (by omega) k hlt
   simp (disch:=(try simp only[lZ]);omega) only[aZ,zh9]
   refine(y4f t (ws.getD k 0) ⟨t0,by omega⟩ ⟨hwl.1,by omega⟩).same (by simp (disch:=first|omega|simp (disch:=omega) only[aG]) only[fZ]) rfl (z7 ?_)
   simp (disch:=(try simp only[lZ]);omega) only[aZ,zh9]
   refine hdk.same (by simp (disch:=first|omega|simp (disch:=omega) only[aG]) only[fZ]) rfl (z7 ?_)
   simp (disch:=(try simp only[lZ]);omega) only[aZ,Int.toNat_natCast,u1,u2,u4,sa]
   refine⟨?_,?_⟩
   all_goals
    refine⟨k+1,by omega,by omega,?_⟩
    exact Cut.of' 4 rfl (by omega) (by simp (disch:=first|omega|simp (disch:=omega) only[aG]) only[fZ]) (by simp (disch:=first|omega|simp (disch:=omega) only[aG]) only[fZ])
  ·have hz:ws.sum=0:=by omega
   have z1:t*ws.getD k 0 / ws.sum=0:=by rw[hz,Int.ediv_zero]
   have z2:t*ws.getD k 0 % ws.sum=0:=by rw[hz,ok.pos hz];simp
   rw[z1]at sa u1
   rw[z2]at u2
   have u5:(zK7 t ws k).getD k 0=0:=yr6 _ _ _ hl hlt
   have v1:(zK7 t ws k).set k 0=zK7 t ws k:=z78 (by simp) fun i hi=>by
    rw[X4];split
    ·rename_i h;rw[← h.1,u5]
    ·rfl
   have v2:(z1I t ws k).set k 0=z1I t ws k:=z78 (by simp) fun i hi=>by
    rw[X4];split
    ·rename_i h;rw[← h.1];exact(yr6 _ _ _ hl2 hlt).symm
    ·rfl
   rw[v1]at u1
   rw[v2]at u2
   simp (disch:=(try simp only[lZ]);omega) only[aZ,Int.toNat_natCast,u5,sa]
   refine⟨k+1,by omega,by omega,?_⟩
   rw[← u1,← u2]
   exact Cut.of' 4 rfl (by omega) (by simp (disch:=first|omega|simp (disch:=omega) only[aG]) only[fZ]) (by simp (disch:=first|omega|simp (disch:=omega) only[aG]) only[fZ])
 ·have hke:k=ws.length:=by omega
  subst hke
  have tq:zK7 t ws ws.length=quos t ws:=by
   unfold zK7;rw[List.take_of_length_le (by omega),Nat.sub_self];simp
  have tr:z1I t ws ws.length=rems t ws:=by
   unfold z1I;rw[List.take_of_length_le (by omega),Nat.sub_self];simp
  have to:z1J ws.length ws.length=rng 0 ws.length:=by
   unfold z1J;rw[Nat.sub_self];simp
  have sq:sumK (quos t ws) ws.length=(quos t ws).sum:=by rw[← hl,z0B]
  have hlN:t-(quos t ws).sum=(zA3 t ws:Nat):=by unfold zA3;omega
  have hln:zA3 t ws<ws.length:=by omega
  have hQ:QOk (rems t ws):=fun i hi=>by
   rw[show(rems t ws).getD i 0=t*ws.getD i 0 % ws.sum from zi5 _ _ _ (by omega)]
   exact r_le ok (by omega)
  have hs:=yf5 (p:=quos t ws) hQ (by omega)
  unfold HS at hs
  rw[hl2]at hs
  have hpb:∀i,i<(quos t ws).length→0≤(quos t ws).getD i 0∧(quos t ws).getD i 0≤70368744177664:=fun i hi=>by
   rw[show(quos t ws).getD i 0=t*ws.getD i 0 / ws.sum from zi5 _ _ _ (by omega)]
   have:=q_le ok (i:=i) (by omega);omega
  rw[tq,tr,to,sq,hlN]
  clear f1 f2 f3 hsb
  simp (disch:=(try simp only[lZ]);omega) only[aZ]
  refine hs.mono ?_
  rintro r H' ⟨rfl,T,T1,T2,T3,rfl⟩
  refine z7 ?_
  have hsrt:=yr1 (p0:=quos t ws) (q0:=rems t ws) (T:=T) (by omega) (fun i hi=>(hQ i hi).1) (by omega) (by rw[hl2];exact T2) T3
  have hrb:=yf7 (q0:=rems t ws) hpb
  simp (disch:=(try simp only[lZ]);omega) only[aZ]
  refine AWP.loopP (α:=Nat) z73 (fun j=>j≤zA3 t ws) (fun j=>[(20,.v (.int .i64 j))]) (fun j=>[(0,⟨0,ints (incs (quos t ws) (T.take j))⟩)]) (fun j=>zA3 t ws-j) 0 (Nat.zero_le _) ?_ ?_
  ·simp only[List.take_zero,incs,List.foldl_nil]
   exact Cut.of' 4 rfl (by omega) (by simp (disch:=first|omega|simp (disch:=omega) only[aG]) only[fZ]) (by simp (disch:=first|omega|simp (disch:=omega) only[aG]) only[fZ])
  rintro j hj
  have il:=y4d (quos t ws) (T.take j)
  by_cases hjl:j<zA3 t ws
  ·have hx:=T2 _ (ze7 (l:=T) (i:=j) (by omega))
   have his:=yr0 (quos t ws) T j (by omega)
   have hb:=hrb j (T.getD j 0).toNat (by omega)
   rw[(hsrt j (by omega)).1]at hb
   unfold inc at his
   simp (disch:=(try simp only[lZ]);omega) only[aZ,Int.toNat_natCast]
   refine⟨j+1,by omega,by omega,?_⟩
   rw[his]
   exact Cut.of' 4 rfl (by omega) (by simp (disch:=first|omega|simp (disch:=omega) only[aG]) only[fZ]) (by simp (disch:=first|omega|simp (disch:=omega) only[aG]) only[fZ])
  ·have hje:j=zA3 t ws:=by omega
   subst hje
   have hpR:zv1 t ws=incs (quos t ws) (T.take (zA3 t ws)):=(hsrt _ (by omega)).1
   simp (disch:=(try simp only[lZ]);omega) only[aZ,zw2]
   exact⟨.tup [.sl 0 0 1 0 ws.length,.v (.int .i64 0)],[⟨0,ints (zv1 t ws)⟩],Cut.of' 1 rfl (by omega) ⟨rfl,by rw[hpR];exact FzL.refl (zn2 _ _),trivial⟩ ⟨Fz.refl rfl,trivial⟩,.inr ⟨by rw[e1],0,rfl,rfl⟩⟩
end Go.Proofs.YtcppaddgclkekaaGreat
namespace Go.Proofs.YtcppaddgclkekaaGreat
open Go Go.Lft
set_option linter.unusedSimpArgs false
set_option linter.unusedVariables false
def isB(m o:Int)(b:Bt):Prop:=b.fr=m∧b.ot=o
instance(m o:Int):DecidablePred (isB m o):=fun b=>by unfold isB;infer_instance
def ze9(bs:List Bt)(m o:Int):Int:=idxE (isB m o) bs
def zu1(ms:List Mc)(b:Bt):Int :=
 if b.fr<0∨(ms.length:Int)≤b.fr∨b.ot<0∨(y4 (ms.getD b.fr.toNat []):Int)≤b.ot∨b.to<0∨(ms.length:Int)≤b.to then 7
 else if b.ln<1∨16<b.ln then 1 else 0
def y2f(bs:List Bt):Prop:=∃k,k<bs.length∧ze9 bs (bs.getD k b0).fr (bs.getD k b0).ot≠k
def z9v(ms:List Mc)(bs:List Bt):Prop:=∃i,i<ms.length∧∃o,o<y4 (ms.getD i [])∧ze9 bs i o<0
instance(bs:List Bt):Decidable (y2f bs):=by unfold y2f;infer_instance
instance(ms:List Mc)(bs:List Bt):Decidable (z9v ms bs):=by unfold z9v;infer_instance
def zg5(ms:List Mc)(bs:List Bt):Int :=
 if zc6 (zu1 ms) bs≠0 then zc6 (zu1 ms) bs else if y2f bs then 6 else 0
def x0(p:Pl):Int :=
 if p.mat<1∨16<p.mat then 1 else if p.ms.length=0 then 10 else if 24<p.ms.length∨48<p.bs.length then 8
 else if zc6 (fun m=>w6 m p.mat) p.ms≠0 then zc6 (fun m=>w6 m p.mat) p.ms
 else if zg5 p.ms p.bs≠0 then zg5 p.ms p.bs
 else if z9v p.ms p.bs then 3
 else if p.fd<0∨(p.ms.length:Int)≤p.fd then 7
 else if y4 (p.ms.getD p.fd.toNat [])=0 then 13 else 0
structure POk(p:Pl):Prop where
 m1:1≤p.mat
 m2:p.mat≤16
 n1:1≤p.ms.length
 n2:p.ms.length≤24
 b2:p.bs.length≤48
 mc:∀m∈p.ms,MOk m p.mat
 bt:∀b∈p.bs,0≤b.fr∧b.fr<p.ms.length∧0≤b.ot∧b.ot<y4 (p.ms.getD b.fr.toNat [])∧0≤b.to∧b.to<p.ms.length∧1≤b.ln∧b.ln≤16
 un:∀k,k<p.bs.length→ze9 p.bs (p.bs.getD k b0).fr (p.bs.getD k b0).ot=k
 op:∀i,i<p.ms.length→∀o,o<y4 (p.ms.getD i [])→0≤ze9 p.bs i o
 fd:0≤p.fd∧p.fd<p.ms.length
 fo:y4 (p.ms.getD p.fd.toNat [])≠0
theorem y4i{ms:List Mc}{b:Bt}(h:zu1 ms b=0):0≤b.fr∧b.fr<ms.length∧0≤b.ot∧b.ot<y4 (ms.getD b.fr.toNat [])∧0≤b.to∧b.to<ms.length∧1≤b.ln∧b.ln≤16:=by
 unfold zu1 at h
 split at h
 ·cases h
 ·split at h
  ·cases h
  ·omega
theorem y6{p:Pl}(h:x0 p=0):POk p:=by
 unfold x0 at h
 split at h
 ·cases h
 rename_i h1
 split at h
 ·cases h
 rename_i h2
 split at h
 ·cases h
 rename_i h3
 split at h
 ·contradiction
 rename_i h4
 split at h
 ·contradiction
 rename_i h5
 split at h
 ·cases h
 rename_i h6
 split at h
 ·cases h
 rename_i h7
 split at h
 ·cases h
 rename_i h8
 have h5:=Classical.not_not.1 h5
 unfold zg5 at h5
 split at h5
 ·contradiction
 rename_i h9
 split at h5
 ·cases h5
 rename_i h10
 refine⟨by omega,by omega,by omega,by omega,by omega,fun m hm=>zK4 (zg3 (Classical.not_not.1 h4) m hm),fun b hb=>y4i (zg3 (Classical.not_not.1 h9) b hb),fun k hk=>?_,fun i hi o ho=>?_,by omega,h8⟩
 ·apply Classical.byContradiction;intro hc;exact h10 ⟨k,hk,hc⟩
 ·apply Classical.byContradiction;intro hc;exact h6 ⟨i,hi,o,ho,by omega⟩
theorem z6F{bs:List Bt}{m o:Int}(h:0≤ze9 bs m o):(ze9 bs m o).toNat<bs.length∧(bs.getD (ze9 bs m o).toNat b0).fr=m∧(bs.getD (ze9 bs m o).toNat b0).ot=o:=by
 have h1:=z4R (isB m o) bs
 have h2:=z2g (p:=isB m o) b0 h
 unfold ze9 at h ⊢
 exact⟨by omega,h2⟩
theorem yM9(bs:List Bt)(m o:Int):-1≤ze9 bs m o∧ze9 bs m o<bs.length:=z4R (isB m o) bs
def outB(p:Pl)(mt:Int)(at0:Nat):Nat:=(ze9 p.bs at0 (zd7 (p.ms.getD at0 []) mt)).toNat
def nx(p:Pl)(mt:Int)(at0:Nat):Nat:=(p.bs.getD (outB p mt at0) b0).to.toNat
def lx(p:Pl)(mt:Int)(at0:Nat):Int:=(p.bs.getD (outB p mt at0) b0).ln
def binN(p:Pl)(at0:Nat):Prop:=y4 (p.ms.getD at0 [])=0
instance(p:Pl):DecidablePred (binN p):=fun i=>by unfold binN;infer_instance
def wayR(p:Pl)(mt:Int):Nat→Nat→Int→Int×Bool
 | 0,at0,n=>if binN p at0 then(n,true)else(0,false)
 | f+1,at0,n=>if binN p at0 then(n,true)else wayR p mt f (nx p mt at0) (n+lx p mt at0)
def posR(p:Pl)(mt:Int)(m:Nat):Nat→Nat
 | 0=>m
 | k+1=>nx p mt (posR p mt m k)
def farR(p:Pl)(mt:Int)(m:Nat):Nat→Int
 | 0=>0
 | k+1=>farR p mt m k+lx p mt (posR p mt m k)
theorem z5S{p:Pl}(h:POk p){mt:Int}(h0:0≤mt)(h1:mt<p.mat){i:Nat}(hi:i<p.ms.length)(hb:¬binN p i):
    0≤ze9 p.bs i (zd7 (p.ms.getD i []) mt)∧outB p mt i<p.bs.length∧(p.bs.getD (outB p mt i) b0).fr=i∧nx p mt i<p.ms.length∧(p.bs.getD (outB p mt i) b0).to=nx p mt i∧1≤lx p mt i∧lx p mt i≤16:=by
  have hm:=h.mc _ (x4 [] hi)
  obtain⟨g1,g2,g3⟩:=z3T hm hb h0 h1
  have h2:0≤ze9 p.bs i (zd7 (p.ms.getD i []) mt):=by
    have:=h.op i hi (zd7 (p.ms.getD i []) mt).toNat (by omega)
    rw[Int.toNat_of_nonneg g1]at this;exact this
  obtain⟨h3,h4,h5⟩:=z6F h2
  have h6:=h.bt _ (x4 b0 h3)
  have h7:(p.bs.getD (outB p mt i) b0).to=nx p mt i:=by unfold nx outB;omega
  refine⟨h2,h3,h4,?_,h7,h6.2.2.2.2.2.2.1,h6.2.2.2.2.2.2.2⟩
  unfold outB at h7;omega
theorem z4Y{p:Pl}(h:POk p){mt:Int}(h0:0≤mt)(h1:mt<p.mat){m:Nat}(hm:m<p.ms.length):∀(k:Nat),(∀i,i<k→¬binN p (posR p mt m i))→posR p mt m k<p.ms.length
 | 0,_=>hm
 | k+1,hb=>(z5S h h0 h1 (z4Y h h0 h1 hm k fun i hi=>hb i (by omega)) (hb k (by omega))).2.2.2.1
theorem z4Z{p:Pl}(h:POk p){mt:Int}(h0:0≤mt)(h1:mt<p.mat){m:Nat}(hm:m<p.ms.length):∀(k:Nat),(∀i,i<k→¬binN p (posR p mt m i))→0≤farR p mt m k∧farR p mt m k≤16*k
 | 0,_=>by simp [farR]
 | k+1,hb=>by
  have h2:=z4Z h h0 h1 hm k fun i hi=>hb i (by omega)
  have h3:=z5S h h0 h1 (z4Y h h0 h1 hm k fun i hi=>hb i (by omega)) (hb k (by omega))
  simp only[farR];omega
theorem z8d{p:Pl}{mt:Int}{m:Nat}:∀(k f:Nat),(∀i,i<k→¬binN p (posR p mt m i))→wayR p mt (k+f) m 0=wayR p mt f (posR p mt m k) (farR p mt m k)
 | 0,f,_=>by simp [posR,farR]
 | k+1,f,hb=>by
  rw[show k+1+f=k+(f+1) by omega,z8d k (f+1) fun i hi=>hb i (by omega)]
  simp only[wayR,posR,farR]
  rw[if_neg (hb k (by omega))]
theorem y4j{p:Pl}{mt:Int}{f at0:Nat}{n:Int}(h:binN p at0):wayR p mt f at0 n=(n,true):=by
 cases f<;>simp [wayR,h]
theorem yr7{p:Pl}{mt:Int}{m:Nat}(h:∀i,¬binN p (posR p mt m i))(f:Nat):wayR p mt f m 0=(0,false):=by
 have:=z8d (p:=p) (mt:=mt) (m:=m) f 0 fun i _=>h i
 rw[Nat.add_zero]at this
 rw[this];simp [wayR,h f]
theorem xn5{p:Pl}{mt:Int}{m i j:Nat}(hij:i<j)(he:posR p mt m i=posR p mt m j):∀k,∃l,l<j∧posR p mt m k=posR p mt m l:=by
 intro k
 induction k with
 | zero=>exact⟨0,by omega,rfl⟩
 | succ k ih =>
  obtain⟨l,h1,h2⟩:=ih
  by_cases hl:l+1<j
  ·exact⟨l+1,hl,by simp only[posR,h2]⟩
  ·have:l+1=j:=by omega
   exact⟨i,hij,by rw[he,← this];simp only[posR,h2]⟩
theorem z90{p:Pl}{mt:Int}{m i j:Nat}(hij:i<j)(he:posR p mt m i=posR p mt m j)(hb:∀l,l<j→¬binN p (posR p mt m l)):∀k,¬binN p (posR p mt m k):=fun k=>by
 obtain⟨l,h1,h2⟩:=xn5 hij he k
 rw[h2];exact hb l h1
theorem y2g:∀(n:Nat) (f:Nat→Nat),(∀i,i≤n→f i<n)→∃i j,i<j∧j≤n∧f i=f j
 | 0,f,h=>by have:=h 0 (by omega);omega
 | n+1,f,h=>by
  by_cases hx:∃i,i≤n∧f i=f (n+1)
  ·obtain⟨i,h1,h2⟩:=hx;exact⟨i,n+1,by omega,by omega,h2⟩
  ·have hne:∀i,i≤n→f i≠f (n+1):=fun i hi hc=>hx ⟨i,hi,hc⟩
   obtain⟨i,j,h1,h2,h3⟩:=y2g n (fun i=>if f i=n then f (n+1)else f i) fun i hi=>by
    have a1:=h i (by omega)
    have a2:=h (n+1) (by omega)
    have a3:=hne i hi
    split<;>omega
   have a1:=hne i (by omega)
   have a2:=hne j h2
   refine⟨i,j,h1,by omega,?_⟩
   split at h3<;>split at h3<;>omega
theorem y4k{p:Pl}(h:POk p){mt:Int}(h0:0≤mt)(h1:mt<p.mat){m:Nat}(hm:m<p.ms.length)(hb:∀i,i<p.ms.length→¬binN p (posR p mt m i)):∀k,¬binN p (posR p mt m k):=by
 obtain⟨i,j,h2,h3,h4⟩:=y2g p.ms.length (posR p mt m) fun i hi=>z4Y h h0 h1 hm i fun l hl=>hb l (by omega)
 exact z90 h2 h4 fun l hl=>hb l (by omega)
theorem yf8{p:Pl}{mt:Int}{m k f:Nat}(hk:k≤f)(hb:∀i,i<k→¬binN p (posR p mt m i))(he:binN p (posR p mt m k)):wayR p mt f m 0=(farR p mt m k,true):=by
 rw[show f=k+(f-k) by omega,z8d k _ hb,y4j he]
theorem xn6{Q:Nat→Prop}(h:∃k,Q k):∃k,Q k∧∀i,i<k→¬Q i:=by
 obtain⟨k,hk⟩:=h
 induction k using Nat.strongRecOn with
 | ind k ih =>
  by_cases hx:∃i,i<k∧Q i
  ·obtain⟨i,h1,h2⟩:=hx;exact ih i h1 h2
  ·exact⟨k,hk,fun i hi hq=>hx ⟨i,hi,hq⟩⟩
theorem z0C{p:Pl}(h:POk p){mt:Int}(h0:0≤mt)(h1:mt<p.mat){m:Nat}(hm:m<p.ms.length):
    (∃k,k<p.ms.length∧(∀i,i<k→¬binN p (posR p mt m i))∧binN p (posR p mt m k)∧wayR p mt p.ms.length m 0=(farR p mt m k,true)) ∨
    ((∀i,¬binN p (posR p mt m i))∧wayR p mt p.ms.length m 0=(0,false)):=by
  by_cases hx:∃k,k<p.ms.length∧binN p (posR p mt m k)
  · obtain⟨k0,g1,g2⟩:=hx
    obtain⟨k,k1,k2⟩:=xn6 (Q:=fun k=>binN p (posR p mt m k)) ⟨k0,g2⟩
    have hle:k≤k0:=Nat.le_of_not_lt fun hc=>k2 k0 hc g2
    exact .inl ⟨k,by omega,k2,k1,yf8 (by omega) k2 k1⟩
  · have hn:∀i,i<p.ms.length→¬binN p (posR p mt m i):=fun i hi hc=>hx ⟨i,hi,hc⟩
    have:=y4k h h0 h1 hm hn
    exact .inr ⟨this,yr7 this _⟩
theorem t1:x0 ⟨1,[[[900,100]],[[]]],[⟨0,0,1,2⟩,⟨0,1,0,3⟩],0⟩=0:=by decide +kernel
end Go.Proofs.YtcppaddgclkekaaGreat
namespace Go.Proofs.YtcppaddgclkekaaGreat
open Go Go.Lft
set_option linter.unusedSimpArgs false
set_option linter.unusedVariables false
attribute [local congr] W0 W1 W2 W4 Z3 Z4 W5 Z5 Z6 Z7 W6 W3
theorem W9{w:Bool}(m:Mc):VR P false z1s [mcA w m] [] (isR (.v (.int .i64 (y4 m)))):=by
 refine z7D (by simp) (.inr rfl) fun _ _=>?_
 unfold mcA mcC
 simp (disch:=(try simp only[lZ]);omega) only[aZ,aM,zG2,z1u]
 refine y1 (fun h1=>?_) (fun h1=>?_)
 ·simp (disch:=(try simp only[lZ]);omega) only[aZ,aM,z1v]
  refine y2 ⟨?_,rfl⟩
  have:m=[]:=List.eq_nil_of_length_eq_zero (by omega)
  subst this;rfl
 ·simp (disch:=(try simp only[lZ]);omega) only[aZ,aM,z1v]
  exact y2 ⟨rfl,rfl⟩
theorem zo8{w:Bool}(m:Mc):VR P false z5B [mcA w m] [] (isR (.v (.int .i64 (y4 m)))):=by
 refine yd5 (by simp) (.inr rfl) fun _ _=>?_
 unfold mcA mcC
 simp (disch:=(try simp only[lZ]);omega) only[aZ,aM,zY4,z5D]
 refine y1 (fun h1=>?_) (fun h1=>?_)
 ·simp (disch:=(try simp only[lZ]);omega) only[aZ,aM,z5E]
  refine y2 ⟨?_,rfl⟩
  have:m=[]:=List.eq_nil_of_length_eq_zero (by omega)
  subst this;rfl
 ·simp (disch:=(try simp only[lZ]);omega) only[aZ,aM,z5E]
  exact y2 ⟨rfl,rfl⟩
theorem yr8{m:Mc}{mat:Int}(h:¬(mat<0∨(m.length:Int)≤mat)){k:Nat}(hk:k<(m.getD mat.toNat []).length)(hb:∀i,i<k→¬0<(m.getD mat.toNat []).getD i 0)(hp:0<(m.getD mat.toNat []).getD k 0):zd7 m mat=k:=by
 unfold zd7;rw[if_neg h]
 exact zP0 (p:=fun r:Int=>0<r) 0 hk hb hp
theorem z91{m:Mc}{mat:Int}(h:¬(mat<0∨(m.length:Int)≤mat))(hb:∀i,i<(m.getD mat.toNat []).length→¬0<(m.getD mat.toNat []).getD i 0):zd7 m mat=-1:=by
 unfold zd7;rw[if_neg h]
 exact zz0 (p:=fun r:Int=>0<r) 0 hb
theorem z1K{w:Bool}(m:Mc)(mat:Int)(hl:(m.getD mat.toNat []).length<1000000000):VR P false z1C [mcA w m,.v (.int .i64 mat)] [] (isR (.v (.int .i64 (zd7 m mat)))):=by
 refine z7X (by simp) (.inr rfl) fun _ _=>?_
 unfold mcA mcC
 simp (disch:=(try simp only[lZ]);omega) only[aZ,aM,zG6,z1E]
 refine y1 (fun h1=>?_) (fun h1=>?_)
 ·simp (disch:=(try simp only[lZ]);omega) only[aZ,aM,zG7]
  exact y2 ⟨by unfold zd7;rw[if_pos h1],rfl⟩
 simp (disch:=(try simp only[lZ]);omega) only[aZ,aM]
 refine AWP.loopP z6q (fun k:Nat=>k≤(m.getD mat.toNat []).length∧∀i,i<k→¬0<(m.getD mat.toNat []).getD i 0) (fun k=>[(2,.v (.int .i64 0)),(4,.v (.int .i64 k))]) (fun _=>[]) (fun k=>(m.getD mat.toNat []).length-k) 0 ⟨by omega,fun i hi=>by omega⟩ (by refine Cut.of' (1) ?_ (by omega) ?_ ?_<;>simp (disch:=first|omega|simp (disch:=omega) only[aG,aM]) only[fZ,aM]) ?_
 rintro k ⟨hk,hb⟩
 by_cases hlt:k<(m.getD mat.toNat []).length
 ·simp (disch:=(try simp only[lZ]);omega) only[aZ,aM]
  refine y1 (fun h3=>?_) (fun h3=>?_)
  ·simp (disch:=(try simp only[lZ]);omega) only[aZ,aM,zG7]
   exact y2 ⟨by rw[yr8 h1 hlt hb h3],rfl⟩
  ·simp (disch:=(try simp only[lZ]);omega) only[aZ,aM]
   refine⟨k+1,⟨by omega,fun i hi=>?_⟩,by omega,(by refine Cut.of' (1) ?_ (by omega) ?_ ?_<;>simp (disch:=first|omega|simp (disch:=omega) only[aG,aM]) only[fZ,aM])⟩
   rcases Nat.lt_succ_iff_lt_or_eq.1 hi with h|rfl
   ·exact hb i h
   ·exact h3
 ·simp (disch:=(try simp only[lZ]);omega) only[aZ,aM,zG7]
  exact y2 ⟨by rw[z91 h1 fun i hi=>hb i (by omega)],rfl⟩
theorem z92{w:Bool}(m:Mc)(mat:Int)(hl:(m.getD mat.toNat []).length<1000000000):VR P false z5J [mcA w m,.v (.int .i64 mat)] [] (isR (.v (.int .i64 (zd7 m mat)))):=by
 refine ye0 (by simp) (.inr rfl) fun _ _=>?_
 unfold mcA mcC
 simp (disch:=(try simp only[lZ]);omega) only[aZ,aM,zZ1,z5L]
 refine y1 (fun h1=>?_) (fun h1=>?_)
 ·simp (disch:=(try simp only[lZ]);omega) only[aZ,aM,zZ2]
  exact y2 ⟨by unfold zd7;rw[if_pos h1],rfl⟩
 simp (disch:=(try simp only[lZ]);omega) only[aZ,aM]
 refine AWP.loopP z9n (fun k:Nat=>k≤(m.getD mat.toNat []).length∧∀i,i<k→¬0<(m.getD mat.toNat []).getD i 0) (fun k=>[(2,.v (.int .i64 0)),(4,.v (.int .i64 k))]) (fun _=>[]) (fun k=>(m.getD mat.toNat []).length-k) 0 ⟨by omega,fun i hi=>by omega⟩ (by refine Cut.of' (1) ?_ (by omega) ?_ ?_<;>simp (disch:=first|omega|simp (disch:=omega) only[aG,aM]) only[fZ,aM]) ?_
 rintro k ⟨hk,hb⟩
 by_cases hlt:k<(m.getD mat.toNat []).length
 ·simp (disch:=(try simp only[lZ]);omega) only[aZ,aM]
  refine y1 (fun h3=>?_) (fun h3=>?_)
  ·simp (disch:=(try simp only[lZ]);omega) only[aZ,aM,zZ2]
   exact y2 ⟨by rw[yr8 h1 hlt hb h3],rfl⟩
  ·simp (disch:=(try simp only[lZ]);omega) only[aZ,aM]
   refine⟨k+1,⟨by omega,fun i hi=>?_⟩,by omega,(by refine Cut.of' (1) ?_ (by omega) ?_ ?_<;>simp (disch:=first|omega|simp (disch:=omega) only[aG,aM]) only[fZ,aM])⟩
   rcases Nat.lt_succ_iff_lt_or_eq.1 hi with h|rfl
   ·exact hb i h
   ·exact h3
 ·simp (disch:=(try simp only[lZ]);omega) only[aZ,aM,zZ2]
  exact y2 ⟨by rw[z91 h1 fun i hi=>hb i (by omega)],rfl⟩
theorem yN0{outs:Nat}{r:List Int}(h:4<r.length):rowE outs r=8:=by unfold rowE;rw[if_pos h]
theorem yN1{outs:Nat}{r:List Int}(h:¬4<r.length)(h2:r.length≠outs):rowE outs r=3:=by unfold rowE;rw[if_neg h,if_pos h2]
theorem yr9{outs:Nat}{r:List Int}(h:¬4<r.length)(h2:r.length=outs){k:Nat}(hk:k<r.length)(hb:∀i,i<k→zr2 (r.getD i 0)=0)(hn:r.getD k 0<0∨1000<r.getD k 0):rowE outs r=1:=by
 unfold rowE
 have h3:=zb9 (f:=zr2) 0 hk hb (by rw[z9V hn];omega)
 rw[z9V hn]at h3
 rw[if_neg h,if_neg (by omega),h3];rfl
theorem y2h{outs:Nat}{r:List Int}(h:¬4<r.length)(h2:r.length=outs)(hb:∀i,i<r.length→zr2 (r.getD i 0)=0)(hs:0<r.length∧r.sum≠1000):rowE outs r=17:=by
 unfold rowE
 have h3:=Z0 (f:=zr2) 0 hb
 rw[if_neg h,if_neg (by omega),h3,if_neg (by omega),if_pos hs]
theorem y6q{outs:Nat}{r:List Int}(h:¬4<r.length)(h2:r.length=outs)(hb:∀i,i<r.length→zr2 (r.getD i 0)=0)(hs:¬(0<r.length∧r.sum≠1000)):rowE outs r=0:=by
 unfold rowE
 have h3:=Z0 (f:=zr2) 0 hb
 rw[if_neg h,if_neg (by omega),h3,if_neg (by omega),if_neg hs]
theorem y6r{r:List Int}{k:Nat}(hk:k≤r.length)(h4:¬4<r.length)(hb:∀i,i<k→zr2 (r.getD i 0)=0):0≤sumT r k∧sumT r k≤4000:=by
 have:=zP1 r 0 1000 k hk fun i hi=>z77 (hb i hi)
 omega
theorem y2i{w:Bool}(r:List Int)(outs:Nat):VR P false z7Q [.fs w (ints r),.v (.int .i64 outs)] [] (isR (.v (.int .i64 (rowE outs r)))):=by
 refine yp3 (by simp) (.inr rfl) fun _ _=>?_
 simp (disch:=(try simp only[lZ]);omega) only[aZ,aM,z2a,z7S]
 refine y1 (fun h1=>?_) (fun h1=>?_)
 ·simp (disch:=(try simp only[lZ]);omega) only[aZ,aM,zy2]
  exact y2 ⟨by rw[yN0 (by omega)],rfl⟩
 have h1:¬4<r.length:=by omega
 simp (disch:=(try simp only[lZ]);omega) only[aZ,aM]
 refine y1 (fun h2=>?_) (fun h2=>?_)
 ·simp (disch:=(try simp only[lZ]);omega) only[aZ,aM,zy2]
  exact y2 ⟨by rw[yN1 h1 (by omega)],rfl⟩
 have h2:r.length=outs:=by omega
 simp (disch:=(try simp only[lZ]);omega) only[aZ,aM]
 refine AWP.loopP yd8 (fun k:Nat=>k≤r.length∧∀i,i<k→zr2 (r.getD i 0)=0) (fun k=>[(2,.v (.int .i64 0)),(3,.v (.int .i64 (sumT r k))),(4,.v (.int .i64 k))]) (fun _=>[]) (fun k=>r.length-k) 0 ⟨by omega,fun i hi=>by omega⟩ (by refine Cut.of' (0) ?_ (by omega) ?_ ?_<;>simp (disch:=first|omega|simp (disch:=omega) only[aG,aM]) only[fZ,aM,zl1]) ?_
 rintro k ⟨hk,hb⟩
 have hs:=y6r hk h1 hb
 by_cases hlt:k<r.length
 ·simp (disch:=(try simp only[lZ]);omega) only[aZ,aM]
  refine y1 (fun h3=>?_) (fun h3=>?_)
  ·simp (disch:=(try simp only[lZ]);omega) only[aZ,aM,zy2]
   exact y2 ⟨by rw[yr9 h1 h2 hlt hb h3],rfl⟩
  ·simp (disch:=(try simp only[lZ]);omega) only[aZ,aM]
   refine⟨k+1,⟨by omega,fun i hi=>?_⟩,by omega,(by refine Cut.of' (0) ?_ (by omega) ?_ ?_<;>simp (disch:=first|omega|simp (disch:=omega) only[aG,aM]) only[fZ,aM,zl2 r k hlt])⟩
   rcases Nat.lt_succ_iff_lt_or_eq.1 hi with h|rfl
   ·exact hb i h
   ·exact yq1 h3
 ·have hkl:k=r.length:=by omega
  subst hkl
  rw[zi4]
  simp (disch:=(try simp only[lZ]);omega) only[aZ,aM]
  refine y1 (fun h3=>?_) (fun h3=>?_)
  ·simp (disch:=(try simp only[lZ]);omega) only[aZ,aM,zy2]
   exact y2 ⟨by rw[y2h h1 h2 hb (by omega)],rfl⟩
  ·simp (disch:=(try simp only[lZ]);omega) only[aZ,aM,zy2]
   exact y2 ⟨by rw[y6q h1 h2 hb (by omega)],rfl⟩
theorem z5T{m:Mc}{mat:Int}(h:mat<1∨16<mat):w6 m mat=1:=by unfold w6;rw[if_pos h]
theorem z93{m:Mc}{mat:Int}(h:¬(mat<1∨16<mat))(h2:(m.length:Int)≠mat):w6 m mat=18:=by unfold w6;rw[if_neg h,if_pos h2]
theorem zK8{m:Mc}{mat:Int}(h:¬(mat<1∨16<mat))(h2:(m.length:Int)=mat){k:Nat}(hk:k<m.length)(hb:∀i,i<k→rowE (y4 m) (m.getD i [])=0)(hn:rowE (y4 m) (m.getD k [])≠0):w6 m mat=rowE (y4 m) (m.getD k []):=by
 unfold w6;rw[if_neg h,if_neg (by omega)]
 exact zb9 [] hk hb hn
theorem z8e{m:Mc}{mat:Int}(h:¬(mat<1∨16<mat))(h2:(m.length:Int)=mat)(hb:∀i,i<m.length→rowE (y4 m) (m.getD i [])=0):w6 m mat=0:=by
 unfold w6;rw[if_neg h,if_neg (by omega)]
 exact Z0 [] hb
theorem yf9(m:Mc):(m.getD 0 []).length=y4 m:=rfl
theorem z30{w:Bool}(m:Mc)(mat:Int):VR P false z3d [mcA w m,.v (.int .i64 mat)] [] (isR (.v (.int .i64 (w6 m mat)))):=by
 refine z9f (by simp) (.inr rfl) fun _ _=>?_
 unfold mcA mcC
 simp (disch:=(try simp only[lZ]);omega) only[aZ,aM,zN6,z3f]
 refine y1 (fun h1=>?_) (fun h1=>?_)
 ·simp (disch:=(try simp only[lZ]);omega) only[aZ,aM,zw0]
  exact y2 ⟨by rw[z5T h1],rfl⟩
 simp (disch:=(try simp only[lZ]);omega) only[aZ,aM]
 refine y1 (fun h2=>?_) (fun h2=>?_)
 ·simp (disch:=(try simp only[lZ]);omega) only[aZ,aM,zw0]
  exact y2 ⟨by rw[z93 h1 h2],rfl⟩
 have h2:(m.length:Int)=mat:=by omega
 subst h2
 simp (disch:=(try simp only[lZ]);omega) only[aZ,aM]
 refine AWP.loopP z7F (fun k:Nat=>k≤m.length∧∀i,i<k→rowE (y4 m) (m.getD i [])=0) (fun k=>[(2,.v (.int .i64 0)),(4,.v (.int .i64 k))]) (fun _=>[]) (fun k=>m.length-k) 0 ⟨by omega,fun i hi=>by omega⟩ (by refine Cut.of' (1) ?_ (by omega) ?_ ?_<;>simp (disch:=first|omega|simp (disch:=omega) only[aG,aM]) only[fZ,aM]) ?_
 rintro k ⟨hk,hb⟩
 by_cases hlt:k<m.length
 ·simp (disch:=(try simp only[lZ]);omega) only[aZ,aM,yf9]
  refine(y2i (w:=w) (m.getD k []) (y4 m)).same (by simp (disch:=first|omega|simp (disch:=omega) only[aG,aM]) only[fZ,aM]) rfl (z7 ?_)
  simp (disch:=(try simp only[lZ]);omega) only[aZ,aM]
  refine y1 (fun h3=>?_) (fun h3=>?_)
  ·simp (disch:=(try simp only[lZ]);omega) only[aZ,aM,zw0]
   exact y2 ⟨by rw[zK8 h1 rfl hlt hb h3],rfl⟩
  ·simp (disch:=(try simp only[lZ]);omega) only[aZ,aM]
   refine⟨k+1,⟨by omega,fun i hi=>?_⟩,by omega,(by refine Cut.of' (1) ?_ (by omega) ?_ ?_<;>simp (disch:=first|omega|simp (disch:=omega) only[aG,aM]) only[fZ,aM])⟩
   rcases Nat.lt_succ_iff_lt_or_eq.1 hi with h|rfl
   ·exact hb i h
   ·exact Classical.not_not.1 h3
 ·have hkl:k=m.length:=by omega
  subst hkl
  simp (disch:=(try simp only[lZ]);omega) only[aZ,aM,zw0]
  exact y2 ⟨by rw[z8e h1 rfl hb],rfl⟩
theorem zz2{w:Bool}(m:Mc)(mat:Int):VR P false zX8 [mcA w m,.v (.int .i64 mat)] [] (isR (.v (.int .i64 (w6 m mat)))):=by
 have hou:=yf9 m
 refine z6g (by simp) (.inr rfl) fun _ _=>?_
 unfold mcA mcC
 simp (disch:=(try simp only[lZ]);omega) only[aZ,aM,zx9,zY0]
 refine y1 (fun h1=>?_) (fun h1=>?_)
 ·simp (disch:=(try simp only[lZ]);omega) only[aZ,aM,Q3]
  exact y2 ⟨by rw[z5T h1],rfl⟩
 simp (disch:=(try simp only[lZ]);omega) only[aZ,aM]
 refine y1 (fun h2=>?_) (fun h2=>?_)
 ·simp (disch:=(try simp only[lZ]);omega) only[aZ,aM,Q3]
  exact y2 ⟨by rw[z93 h1 h2],rfl⟩
 have h2:(m.length:Int)=mat:=by omega
 subst h2
 simp (disch:=(try simp only[lZ]);omega) only[aZ,aM]
 refine AWP.loopP z4B (fun k:Nat=>k≤m.length∧∀i,i<k→rowE (y4 m) (m.getD i [])=0) (fun k=>[(4,.v (.int .i64 0)),(5,.v (.int .i64 k))]) (fun _=>[]) (fun k=>m.length-k) 0 ⟨by omega,fun i hi=>by omega⟩ (by refine Cut.of' (1) ?_ (by omega) ?_ ?_<;>simp (disch:=first|omega|simp (disch:=omega) only[aG,aM]) only[fZ,aM]) ?_
 rintro k ⟨hk,hb⟩
 by_cases hlt:k<m.length
 ·simp (disch:=(try simp only[lZ]);omega) only[aZ,aM,yf9]
  refine y1 (fun h3=>?_) (fun h3=>?_)
  ·have hr:rowE (y4 m) (m.getD k [])=8:=yN0 (by omega)
   simp (disch:=(try simp only[lZ]);omega) only[aZ,aM,Q3]
   exact y2 ⟨by rw[zK8 h1 rfl hlt hb (by omega),hr],rfl⟩
  have h3:¬4<(m.getD k []).length:=by omega
  simp (disch:=(try simp only[lZ]);omega) only[aZ,aM]
  refine y1 (fun h4=>?_) (fun h4=>?_)
  ·have hr:rowE (y4 m) (m.getD k [])=3:=yN1 h3 (by omega)
   simp (disch:=(try simp only[lZ]);omega) only[aZ,aM,Q3]
   exact y2 ⟨by rw[zK8 h1 rfl hlt hb (by omega),hr],rfl⟩
  have h4:(m.getD k []).length=y4 m:=by omega
  simp (disch:=(try simp only[lZ]);omega) only[aZ,aM]
  refine AWP.loopP z4C (fun j:Nat=>j≤(m.getD k []).length∧∀i,i<j→zr2 ((m.getD k []).getD i 0)=0) (fun j=>[(4,.v (.int .i64 0)),(10,.v (.int .i64 (sumT (m.getD k []) j))),(11,.v (.int .i64 j))]) (fun _=>[]) (fun j=>(m.getD k []).length-j) 0 ⟨by omega,fun i hi=>by omega⟩ (by refine Cut.of' (1) ?_ (by omega) ?_ ?_<;>simp (disch:=first|omega|simp (disch:=omega) only[aG,aM]) only[fZ,aM,zl1]) ?_
  rintro j ⟨hj,hc⟩
  have hs:=y6r hj h3 hc
  by_cases hjl:j<(m.getD k []).length
  ·simp (disch:=(try simp only[lZ]);omega) only[aZ,aM]
   refine y1 (fun h5=>?_) (fun h5=>?_)
   ·have hr:=yr9 h3 h4 hjl hc h5
    simp (disch:=(try simp only[lZ]);omega) only[aZ,aM,Q3]
    exact y2 ⟨by rw[zK8 h1 rfl hlt hb (by omega),hr],rfl⟩
   ·simp (disch:=(try simp only[lZ]);omega) only[aZ,aM]
    refine⟨j+1,⟨by omega,fun i hi=>?_⟩,by omega,(by refine Cut.of' (1) ?_ (by omega) ?_ ?_<;>simp (disch:=first|omega|simp (disch:=omega) only[aG,aM]) only[fZ,aM,zl2 _ j hjl])⟩
    rcases Nat.lt_succ_iff_lt_or_eq.1 hi with h|rfl
    ·exact hc i h
    ·exact yq1 h5
  ·have hje:j=(m.getD k []).length:=by omega
   subst hje
   rw[zi4]
   rw[zi4]at hs
   simp (disch:=(try simp only[lZ]);omega) only[aZ,aM]
   refine y1 (fun h5=>?_) (fun h5=>?_)
   ·have hr:=y2h h3 h4 hc (by omega)
    simp (disch:=(try simp only[lZ]);omega) only[aZ,aM,Q3]
    exact y2 ⟨by rw[zK8 h1 rfl hlt hb (by omega),hr],rfl⟩
   ·have hr:=y6q h3 h4 hc (by omega)
    simp (disch:=(try simp only[lZ]);omega) only[aZ,aM]
    refine⟨k+1,⟨by omega,fun i hi=>?_⟩,by omega,(by refine Cut.of' (1) ?_ (by omega) ?_ ?_<;>simp (disch:=first|omega|simp (disch:=omega) only[aG,aM]) only[fZ,aM])⟩
    rcases Nat.lt_succ_iff_lt_or_eq.1 hi with h|rfl
    ·exact hb i h
    ·exact hr
 ·have hkl:k=m.length:=by omega
  subst hkl
  simp (disch:=(try simp only[lZ]);omega) only[aZ,aM,Q3]
  exact y2 ⟨by rw[z8e h1 rfl hb],rfl⟩
theorem zl4{m:Mc}{mat:Int}(h:MOk m mat)(ho:y4 m≠0){k:Nat}(hk:k<m.length){t:Int}(ht:0≤t∧t≤1073741824):zK5 t (m.getD k [])=0∧(m.getD k []).sum=1000∧(m.getD k []).length=y4 m∧y4 m≤4∧∀i,i<(m.getD k []).length→0≤(m.getD k []).getD i 0∧(m.getD k []).getD i 0≤1000:=by
 obtain⟨r1,r2,r3,r4⟩:=h.row _ (x4 [] hk)
 have hs:=r4 (by omega)
 have hb:∀i,i<(m.getD k []).length→0≤(m.getD k []).getD i 0∧(m.getD k []).getD i 0≤1000:=fun i hi=>r3 _ (ze7 hi)
 refine⟨?_,hs,r1,by omega,hb⟩
 have hw:zj3 (m.getD k [])=(1000,0):=by
  rw[z8a (by omega) (by
   rintro⟨i,hi,h2⟩
   have:=hb i hi
   unfold badW at h2;omega),hs,if_pos (by omega)]
 unfold zK5
 rw[hw,if_neg (by omega),if_neg (by simp),if_neg (by simp)]
theorem y7p{m:Mc}{mat:Int}(h:MOk m mat)(ho:y4 m≠0){k:Nat}(hk:k<m.length){t:Int}(ht:0≤t∧t≤1073741824):y7o t (m.getD k []):=by
 obtain⟨h1,h2,h3,h4,h5⟩:=zl4 h ho hk ht
 refine yx9 (zz1 h1) fun i hi=>?_
 have:=h5 i hi
 have:t*(m.getD k []).getD i 0≤1073741824*1000:=Int.mul_le_mul ht.2 this.2 this.1 (by omega)
 omega
def divR(l:List Int)(main:Nat)(mass:Int):List Int :=
 if mass=0∨0<l.getD main 0 then l else(l.set (zc0 l) (l.getD (zc0 l) 0-1)).set main 1
theorem z6G(l:List Int)(main:Nat)(mass:Int):(divR l main mass).length=l.length:=by unfold divR;split<;>simp
def divM(m:Mc)(k:Nat)(mass:Int):List Int:=divR (zv1 mass (m.getD k [])) (zd7 m k).toNat mass
theorem yy0{w:Bool}(l:List Int)(h0:0<l.length)(hl:l.length<1000000):VR P false zE0 [.fs w (ints l)] [] (isR (.v (.int .i64 (zc0 l)))):=by
 refine z2e (by simp) (.inr rfl) fun _ _=>?_
 simp (disch:=(try simp only[lZ]);omega) only[aZ,aM,zk7,zE2]
 refine AWP.loopP z0T (fun k:Nat=>k≤l.length) (fun k=>[(2,.v (.int .i64 (zh7 l k))),(3,.v (.int .i64 k))]) (fun _=>[]) (fun k=>l.length-k) 0 (by omega) ?_ ?_
 ·simp only[zh7]
  exact Cut.of' 0 rfl (by omega) (by simp (disch:=first|omega|simp (disch:=omega) only[aG,aM]) only[fZ,aM]) (by simp (disch:=first|omega|simp (disch:=omega) only[aG,aM]) only[fZ,aM])
 rintro k hk
 have hbl:zh7 l k<l.length:=by
  by_cases h:0<k
  ·have:=zw3 l k h;omega
  ·have:k=0:=by omega
   subst this;exact h0
 by_cases hlt:k<l.length
 ·have hbs:zh7 l (k+1)=if l.getD (zh7 l k) 0<l.getD k 0 then k else zh7 l k:=rfl
  simp (disch:=(try simp only[lZ]);omega) only[aZ,aM]
  refine y1 (fun h5=>?_) (fun h5=>?_)
  ·rw[if_pos h5]at hbs
   simp (disch:=(try simp only[lZ]);omega) only[aZ,aM]
   refine⟨k+1,by omega,by omega,?_⟩
   rw[hbs]
   exact Cut.of' 0 rfl (by omega) (by simp (disch:=first|omega|simp (disch:=omega) only[aG,aM]) only[fZ,aM]) (by simp (disch:=first|omega|simp (disch:=omega) only[aG,aM]) only[fZ,aM])
  ·rw[if_neg h5]at hbs
   simp (disch:=(try simp only[lZ]);omega) only[aZ,aM]
   refine⟨k+1,by omega,by omega,?_⟩
   rw[hbs]
   exact Cut.of' 0 rfl (by omega) (by simp (disch:=first|omega|simp (disch:=omega) only[aG,aM]) only[fZ,aM]) (by simp (disch:=first|omega|simp (disch:=omega) only[aG,aM]) only[fZ,aM])
 ·have hke:k=l.length:=by omega
  subst hke
  simp (disch:=(try simp only[lZ]);omega) only[aZ,aM,z3M]
  exact y2 ⟨rfl,rfl⟩
theorem z8f{t:Int}{ws l:List Int}(h:SpR t ws l)(ht:0<t)(hne:ws≠[]):0<l.getD (zc0 l) 0:=by
 apply Int.lt_of_not_ge;intro hc
 have hl:0<l.length:=by rw[h.len];exact List.length_pos_iff.2 hne
 have:=(z3W l l.length).1
 change ∀i,i<l.length→l.getD i 0≤l.getD (zc0 l) 0 at this
 have hs:=ye7 0 l fun x hx=>by
  obtain⟨i,h1,rfl⟩:=zp7 hx
  have:=this i h1;omega
 rw[h.sum]at hs;omega
theorem yN2{t:Int}{ws l:List Int}(h:SpR t ws l)(ok:SplitOk t ws):∀i,i<l.length→0≤l.getD i 0∧l.getD i 0≤t+1:=fun i hi=>by
 have:=q_le ok (i:=i) (by rw[← h.len];exact hi)
 rcases h.two i (by rw[← h.len];exact hi)with h1|⟨h1,_⟩<;>omega
theorem yU0{w:Bool}(m:Mc)(mat:Int)(h:MOk m mat)(ho:y4 m≠0)(k:Nat)(hk:k<m.length)(t:Int)(ht:0≤t∧t≤1073741824):VR P false zJ6 [mcA w m,.v (.int .i64 k),.v (.int .i64 t)] [] (isR (.fs true (ints (divM m k t)))):=by
 refine z3I (by simp) (.inr rfl) fun _ _=>?_
 obtain⟨h1,h2,h3,h4,h5⟩:=zl4 h ho hk ht
 have hd:=y7p h ho hk ht
 have ok:=zz1 h1
 have hsp:=z3X ok.sp
 have hne:m.getD k []≠[]:=ok.sp.ne
 have hlen:=h.len
 obtain⟨g1,g2,g3⟩:=z3T h ho (k:=k) (by omega) (by omega)
 have hrow:((m.getD (k:Int).toNat []).length)<1000000000:=by rw[Int.toNat_natCast];omega
 unfold mcA mcC divM
 simp (disch:=(try simp only[lZ]);omega) only[aZ,aM,zo3,zJ8]
 refine(z9u (w:=w) t (m.getD k []) fun _=>hd).useS (LdL.refl (by simp (disch:=first|omega|simp (disch:=omega) only[aG,aM]) only[fZ,aM])) ?_ ?_
 ·rintro r G (⟨_,rfl,rfl⟩|⟨_,ver,rfl,rfl⟩)
  ·rfl
  ·simp (disch:=first|omega|simp (disch:=omega) only[aG,aM]) only[fZ,aM,List.all_cons,List.all_nil]
 rintro r G (⟨hbad,rfl,rfl⟩|⟨_,ver,rfl,rfl⟩)
 ·exfalso;apply hbad;unfold zK6;rw[if_neg (by omega)]
 refine z7 ?_
 have e1:A.shL 1 (ints (zv1 t (m.getD k [])))=ints (zv1 t (m.getD k [])):=zQ1 _ (zn2 0 _)
 have hpl:=hsp.len
 have hpb:=yN2 hsp ok
 have hpp:=fun hp=>z8f hsp hp hne
 generalize zv1 t (m.getD k [])=l at *
 simp (disch:=(try simp only[lZ]);omega) only[aZ,aM,A.sh,A.shL,Blk.sh,List.map_cons,List.map_nil,e1]
 refine(z1K (w:=w) m k hrow).same (by unfold mcA mcC;simp (disch:=first|omega|simp (disch:=omega) only[aG,aM]) only[fZ,aM]) rfl (z7 ?_)
 have hmb:=hpb (zd7 m k).toNat (by omega)
 simp (disch:=(try simp only[lZ]);omega) only[aZ,aM]
 refine y1 (fun h6=>?_) (fun h6=>?_)
 ·have hdv:divR l (zd7 m k).toNat t=(l.set (zc0 l) (l.getD (zc0 l) 0-1)).set (zd7 m k).toNat 1:=by unfold divR;rw[if_neg (by omega)]
  have hbp:=hpp (by omega)
  have hbl:zc0 l<l.length:=zw3 l l.length (by omega)
  have hbb:=hpb _ hbl
  have hbm:zc0 l≠(zd7 m k).toNat:=by intro hc;rw[hc]at hbp;omega
  have hg:(l.set (zc0 l) (l.getD (zc0 l) 0-1)).getD (zd7 m k).toNat 0=0:=by rw[X4,if_neg (fun h=>hbm h.1)];omega
  have z:(0:Int)+1=1:=rfl
  simp (disch:=(try simp only[lZ]);omega) only[aZ,aM]
  refine(yy0 (w:=false) l (by omega) (by omega)).use ⟨zB0 _ 1 ver _ l hpl.symm (by simp (disch:=(try simp only[lZ]);omega) only[aZ,aM]),trivial⟩ rfl (z7 ?_)
  simp (disch:=(try simp only[lZ]);omega) only[aZ,aM,Int.toNat_natCast,hg,z,← hdv,zJ9]
  exact x2 (zQ2 0 _ 1 ver _ (divR l (zd7 m k).toNat t) (by omega) (by rw[z6G];omega) (by simp (disch:=(try simp only[lZ]);omega) only[aZ,aM])) ⟨rfl,rfl⟩
 ·have hdv:divR l (zd7 m k).toNat t=l:=by unfold divR;rw[if_pos (by omega)]
  rw[hdv]
  simp (disch:=(try simp only[lZ]);omega) only[aZ,aM,zJ9]
  exact x2 (zQ2 0 _ 1 ver _ l (by omega) hpl.symm (by simp (disch:=(try simp only[lZ]);omega) only[aZ,aM])) ⟨rfl,rfl⟩
theorem yy1{w:Bool}(m:Mc)(mat:Int)(h:MOk m mat)(ho:y4 m≠0)(k:Nat)(hk:k<m.length)(t:Int)(ht:0≤t∧t≤1073741824):VR P false z3p [mcA w m,.v (.int .i64 k),.v (.int .i64 t)] [] (isR (.fs true (ints (divM m k t)))):=by
 refine z9i (by simp) (.inr rfl) fun _ _=>?_
 obtain⟨h1,h2,h3,h4,h5⟩:=zl4 h ho hk ht
 have ok:=zz1 h1
 have hsp:=z3X ok.sp
 have hne:m.getD k []≠[]:=ok.sp.ne
 have hlen:=h.len
 obtain⟨g1,g2,g3⟩:=z3T h ho (k:=k) (by omega) (by omega)
 have hrow:((m.getD (k:Int).toNat []).length)<1000000000:=by rw[Int.toNat_natCast];omega
 unfold mcA mcC divM
 simp (disch:=(try simp only[lZ]);omega) only[aZ,aM,zN9,z3r]
 refine(z9s (w:=w) t (m.getD k [])).useS (LdL.refl (by simp (disch:=first|omega|simp (disch:=omega) only[aG,aM]) only[fZ,aM])) ?_ ?_
 ·rintro r G (⟨_,rfl,rfl⟩|⟨_,ver,rfl,rfl⟩)
  ·rfl
  ·simp (disch:=first|omega|simp (disch:=omega) only[aG,aM]) only[fZ,aM,List.all_cons,List.all_nil]
 rintro r G (⟨hbad,rfl,rfl⟩|⟨_,ver,rfl,rfl⟩)
 ·exfalso;apply hbad;unfold zK6;rw[if_neg (by omega)]
 refine z7 ?_
 have e1:A.shL 1 (ints (zv1 t (m.getD k [])))=ints (zv1 t (m.getD k [])):=zQ1 _ (zn2 0 _)
 have hpl:=hsp.len
 have hpb:=yN2 hsp ok
 have hpp:=fun hp=>z8f hsp hp hne
 generalize zv1 t (m.getD k [])=l at *
 simp (disch:=(try simp only[lZ]);omega) only[aZ,aM,A.sh,A.shL,Blk.sh,List.map_cons,List.map_nil,e1]
 refine(z92 (w:=w) m k hrow).same (by unfold mcA mcC;simp (disch:=first|omega|simp (disch:=omega) only[aG,aM]) only[fZ,aM]) rfl (z7 ?_)
 have hmb:=hpb (zd7 m k).toNat (by omega)
 simp (disch:=(try simp only[lZ]);omega) only[aZ,aM]
 refine y1 (fun h6=>?_) (fun h6=>?_)
 ·have hdv:divR l (zd7 m k).toNat t=l:=by unfold divR;rw[if_pos (by omega)]
  rw[hdv]
  simp (disch:=(try simp only[lZ]);omega) only[aZ,aM,z3s]
  exact x2 (zQ2 0 _ 1 ver _ l (by omega) hpl.symm (by simp (disch:=(try simp only[lZ]);omega) only[aZ,aM])) ⟨rfl,rfl⟩
 ·have hdv:divR l (zd7 m k).toNat t=(l.set (zc0 l) (l.getD (zc0 l) 0-1)).set (zd7 m k).toNat 1:=by unfold divR;rw[if_neg h6]
  have hbI:zh7 l l.length=zc0 l:=rfl
  have hbl:zc0 l<l.length:=zw3 l l.length (by omega)
  have hbb:=hpb _ hbl
  simp (disch:=(try simp only[lZ]);omega) only[aZ,aM]
  refine AWP.loopP z7P (fun i:Nat=>i≤l.length) (fun i=>[(8,.v (.int .i64 (zh7 l i))),(9,.v (.int .i64 i))]) (fun _=>[]) (fun i=>l.length-i) 0 (by omega) ?_ ?_
  ·simp only[zh7]
   exact Cut.of' 2 rfl (by omega) (by simp (disch:=first|omega|simp (disch:=omega) only[aG,aM]) only[fZ,aM]) (by simp (disch:=first|omega|simp (disch:=omega) only[aG,aM]) only[fZ,aM])
  rintro i hi
  have hbi:zh7 l i<l.length:=by
   by_cases h:0<i
   ·have:=zw3 l i h;omega
   ·have:i=0:=by omega
    subst this;show 0<l.length;omega
  by_cases hil:i<l.length
  ·have hbs:zh7 l (i+1)=if l.getD (zh7 l i) 0<l.getD i 0 then i else zh7 l i:=rfl
   simp (disch:=(try simp only[lZ]);omega) only[aZ,aM]
   refine y1 (fun h7=>?_) (fun h7=>?_)
   ·rw[if_pos h7]at hbs
    simp (disch:=(try simp only[lZ]);omega) only[aZ,aM]
    refine⟨i+1,by omega,by omega,?_⟩
    rw[hbs]
    exact Cut.of' 2 rfl (by omega) (by simp (disch:=first|omega|simp (disch:=omega) only[aG,aM]) only[fZ,aM]) (by simp (disch:=first|omega|simp (disch:=omega) only[aG,aM]) only[fZ,aM])
   ·rw[if_neg h7]at hbs
    simp (disch:=(try simp only[lZ]);omega) only[aZ,aM]
    refine⟨i+1,by omega,by omega,?_⟩
    rw[hbs]
    exact Cut.of' 2 rfl (by omega) (by simp (disch:=first|omega|simp (disch:=omega) only[aG,aM]) only[fZ,aM]) (by simp (disch:=first|omega|simp (disch:=omega) only[aG,aM]) only[fZ,aM])
  ·have hie:i=l.length:=by omega
   subst hie
   rw[hbI]at hbi ⊢
   simp (disch:=(try simp only[lZ]);omega) only[aZ,aM,Int.toNat_natCast,← hdv,z3s]
   exact x2 (zQ2 0 _ 1 ver _ (divR l (zd7 m k).toNat t) (by omega) (by rw[z6G];omega) (by simp (disch:=(try simp only[lZ]);omega) only[aZ,aM])) ⟨rfl,rfl⟩
end Go.Proofs.YtcppaddgclkekaaGreat
namespace Go.Proofs.YtcppaddgclkekaaGreat
open Go Go.Lft
set_option linter.unusedSimpArgs false
set_option linter.unusedVariables false
def mtx(k n:Nat)(f:Nat→Nat→Int):List (List Int):=(List.range k).map fun o=>(List.range n).map fun i=>f o i
theorem zP4(k n:Nat)(f:Nat→Nat→Int):(mtx k n f).length=k:=by simp [mtx]
theorem z8g(k n:Nat)(f:Nat→Nat→Int)(o:Nat)(h:o<k):(mtx k n f).getD o []=(List.range n).map fun i=>f o i:=by
 simp [mtx,List.getD_eq_getElem?_getD,h]
theorem yy2(n:Nat)(g:Nat→Int)(i:Nat)(h:i<n):((List.range n).map g).getD i 0=g i:=by simp [List.getD_eq_getElem?_getD,h]
theorem y2j(n:Nat)(g:Nat→Int):((List.range n).map g).length=n:=by simp
theorem yg0{k n:Nat}{f g:Nat→Nat→Int}(h:∀o i,o<k→i<n→f o i=g o i):mtx k n f=mtx k n g:=by
 unfold mtx
 refine List.map_congr_left fun o ho=>List.map_congr_left fun i hi=>h o i (by simpa using ho) (by simpa using hi)
theorem y7q{k n:Nat}(f:Nat→Nat→Int)(o i:Nat)(v:Int)(ho:o<k)(hi:i<n):(mtx k n f).set o (((List.range n).map fun i=>f o i).set i v)=mtx k n fun a b=>if a=o∧b=i then v else f a b:=by
 refine List.ext_getElem (by simp [mtx]) fun a h1 h2=>?_
 simp only[mtx,List.getElem_set,List.getElem_map,List.getElem_range]
 by_cases h:o=a
 ·subst h
  rw[if_pos rfl]
  refine List.ext_getElem (by simp) fun b h3 h4=>?_
  simp only[List.getElem_set,List.getElem_map,List.getElem_range,true_and]
  by_cases hb:i=b
  ·subst hb;simp
  ·rw[if_neg hb,if_neg (fun h=>hb h.symm)]
 ·rw[if_neg h]
  refine List.map_congr_left fun b _=>?_
  rw[if_neg (fun hh=>h hh.1.symm)]
theorem yN3(k n:Nat):mtx k n (fun _ _=>0)++[List.replicate n 0]=mtx (k+1) n fun _ _=>0:=by
 simp only[mtx,List.range_succ,List.map_append,List.map_cons,List.map_nil]
 congr 2
 rw[List.map_const',List.length_range]
theorem xf2(n:Nat)(f:Nat→Nat→Int):mtx 0 n f=[]:=rfl
def rowB(M:List (List Int)):List Blk:=M.map fun l=>⟨0,ints l⟩
def ptrA(k n:Nat):List A:=(List.range k).map fun o=>.sl (o+2) 0 1 0 n
theorem z8h(k n:Nat):(ptrA k n).length=k:=by simp [ptrA]
theorem y2k(k n o:Nat)(h:o<k):nthA (ptrA k n) o=some (.sl (o+2) 0 1 0 n):=by simp [Y6,ptrA,h]
theorem yy3(k n:Nat):ptrA k n++[.sl (k+2) 0 1 0 n]=ptrA (k+1) n:=by simp [ptrA,List.range_succ]
theorem z40{n:Nat}:∀{l:List A},(∀a∈l,A.bd n a=true)→A.bdL n l=true
 | [],_=>rfl
 | a :: l,h=>by
  simp only[A.bdL,Bool.and_eq_true]
  exact⟨h a (by simp),z40 fun b hb=>h b (by simp [hb])⟩
theorem z1L(k n m:Nat)(h:k+2≤m):A.bdL m (ptrA k n)=true:=by
 refine z40 fun a ha=>?_
 obtain⟨o,ho,rfl⟩:=List.mem_map.1 ha
 have:o<k:=by simpa using ho
 simp only[A.bd,decide_eq_true_eq];omega
theorem y2l(n:Nat)(g:Nat→Int)(x:Nat)(y:Int)(h:x<n):splA (ints ((List.range n).map g)) x [.v (.int .i64 y)]=ints (((List.range n).map g).set x y):=y0Y _ _ _ (by simpa using h)
def hm(b:List A)(v:Nat)(p:List A)(M:List (List Int)):List Blk:=⟨0,b⟩ :: ⟨v,p⟩ :: rowB M
theorem xn7(b:List A)(v:Nat)(p:List A):[(⟨0,b⟩:Blk),⟨v,p⟩]=hm b v p []:=rfl
theorem z5U(b:List A)(v:Nat)(p:List A)(M:List (List Int)):(hm b v p M).length=M.length+2:=by simp [hm,rowB]
theorem hm_b(b:List A)(v:Nat)(p:List A)(M:List (List Int)):blkAt (hm b v p M) 0 0=some b:=by simp [hm,blkAt]
theorem hm_p(b:List A)(v:Nat)(p:List A)(M:List (List Int)):blkAt (hm b v p M) 1 v=some p:=by simp [hm,blkAt]
theorem y2m:∀(M:List (List Int)) (o:Nat),o<M.length→blkAt (rowB M) o 0=some (ints (M.getD o []))
 | [],o,h=>by simp at h
 | l :: M,0,_=>by simp [rowB,blkAt]
 | l :: M,o+1,h=>by
  have:=y2m M o (by simpa using h)
  simpa [rowB,blkAt]using this
theorem hm_r(b:List A)(v:Nat)(p:List A)(M:List (List Int))(o:Nat)(h:o<M.length):blkAt (hm b v p M) (o+2) 0=some (ints (M.getD o [])):=by
 exact y2m M o h
theorem y7r(b:List A)(v:Nat)(p:List A)(k n:Nat)(f:Nat→Nat→Int)(o:Nat)(h:o<k):blkAt (hm b v p (mtx k n f)) (o+2) 0=some (ints ((List.range n).map fun i=>f o i)):=by
 rw[hm_r _ _ _ _ _ (by rw[zP4];exact h),z8g _ _ _ _ h]
theorem xf3(b:List A)(v v':Nat)(p q:List A)(M:List (List Int)):(hm b v p M).set 1 ⟨v',q⟩=hm b v' q M:=rfl
theorem xf4(b:List A)(v:Nat)(p:List A)(M:List (List Int))(o:Nat)(l:List Int):(hm b v p M).set (o+2) ⟨0,ints l⟩=hm b v p (M.set o l):=by
 simp [hm,rowB,List.map_set]
theorem y6s(b:List A)(v:Nat)(p:List A)(M:List (List Int))(l:List Int):hm b v p M++[⟨0,ints l⟩]=hm b v p (M++[l]):=by simp [hm,rowB]
theorem z6w{b:List A}{v:Nat}{p:List A}{M:List (List Int)}{n:Nat}(h1:A.bdL n b=true)(h2:A.bdL n p=true):okB n (hm b v p M):=by
 intro B hB
 rcases List.mem_cons.1 hB with rfl|hB
 ·exact h1
 rcases List.mem_cons.1 hB with rfl|hB
 ·exact h2
 obtain⟨l,_,rfl⟩:=List.mem_map.1 hB
 exact zn2 n l
def padA(j k n:Nat):List A:=ptrA j n++List.replicate (k-j) (.v (.slice none 0 0))
theorem y2n(j k n:Nat)(h:j≤k):(padA j k n).length=k:=by simp [padA,z8h];omega
theorem y4l(k n:Nat):List.replicate k (A.v (.slice none 0 0))=padA 0 k n:=by simp [padA,ptrA]
theorem y7s(k n:Nat):padA k k n=ptrA k n:=by simp [padA]
theorem y7t(p r:List A)(a b:A):splA (p++a :: r) p.length [b]=p++[b]++r:=by
 induction p with
 | nil=>rfl
 | cons c p ih=>simp only[List.cons_append,List.length_cons,z2v];rw[ih]
theorem y2o(j k n:Nat)(h:j<k):splA (padA j k n) j [.sl (j+2) 0 1 0 n]=padA (j+1) k n:=by
 have:=y7t (ptrA j n) (List.replicate (k-(j+1)) (.v (.slice none 0 0))) (.v (.slice none 0 0)) (.sl (j+2) 0 1 0 n)
 rw[z8h,yy3,← List.replicate_succ,show k-(j+1)+1=k-j by omega]at this
 exact this
theorem y6t(j k n m:Nat)(h:j+2≤m):A.bdL m (padA j k n)=true:=by
 refine z40 fun a ha=>?_
 rcases List.mem_append.1 ha with h1|h1
 ·obtain⟨o,ho,rfl⟩:=List.mem_map.1 h1
  have:o<j:=by simpa using ho
  simp only[A.bd,decide_eq_true_eq];omega
 ·rw[(List.mem_replicate.1 h1).2];rfl
theorem aQ:type_of% (ai9 @y2n<|ai9 @y2o<|ai9 @zP4<|ai9 @z8g<|ai9 @yy2<|ai9 @y2j<|ai9 @z8h<|ai9 @y2k<|ai9 @z5U<|ai9 @hm_b<|ai9 @hm_p<|ai9 @y2l<|ai9 @y7r<|ai9 @xf3<|ai9 @xf4<|@y6s):=⟨@y2n,@y2o,@zP4,@z8g,@yy2,@y2j,@z8h,@y2k,@z5U,@hm_b,@hm_p,@y2l,@y7r,@xf3,@xf4,@y6s⟩
theorem xf5{n0:Nat}{e e':List A}{b b':List A}{v:Nat}{p:List A}{M:List (List Int)}(hn:n0≤M.length+2)(hb:FzL (M.length+2) (hm b v p M) b b')(hp:A.bdL (M.length+2) p=true)(he:FzL (M.length+2) (hm b v p M) e e'):Cut n0 e (hm b v p M) e' (hm b' v p M):=by
 refine Cut.of hn (z5U _ _ _ _) (fun i B' h=>?_) he
 match i with
 | 0=>cases h;exact⟨⟨0,b⟩,rfl,rfl,hb⟩
 | 1=>cases h;exact⟨⟨v,p⟩,rfl,rfl,FzL.refl hp⟩
 | i+2 =>
  refine⟨B',h,rfl,FzL.refl ?_⟩
  obtain⟨l,_,rfl⟩:=List.mem_map.1 (List.mem_of_getElem? (l:=rowB M) h)
  exact zn2 _ l
theorem y6u{m:Nat}{b:List A}{v:Nat}{p:List A}{M:List (List Int)}{k n:Nat}(hm2:m≤2)(hk:M.length=k)(hn:∀l∈M,l.length=n):FzL m (hm b v p M) (ptrA k n) (rows true M):=by
 have z:∀j,j≤k→FzL m (hm b v p M) (ptrA j n) (rows true (M.take j)):=by
  intro j
  induction j with
  | zero=>intro _;exact trivial
  | succ j ih =>
   intro hj
   rw[← yy3,List.take_succ_eq_append_getElem (by omega),← y07]
   refine FzL.cat (ih (by omega)) ⟨?_,trivial⟩
   have he:M.getD j []=M[j]'(by omega):=by simp [List.getD_eq_getElem?_getD,show j<M.length by omega]
   exact zQ2 m _ (j+2) 0 n _ (by omega) (hn _ (List.getElem_mem _)).symm (by rw[hm_r _ _ _ _ _ (by omega),he])
 have:=z k (Nat.le_refl _)
 rwa [List.take_of_length_le (by omega)]at this
theorem xf6{b:List A}{v:Nat}{M:List (List Int)}{k n:Nat}(hk:M.length=k)(hn:∀l∈M,l.length=n):Fz 0 (hm b v (ptrA k n) M) (.sl 1 v 1 0 k) (.fs true (rows true M)):=by
 subst hk
 refine Fz.sl (Nat.zero_le _) (hm_p _ _ _ _) (y6u (by omega) rfl hn) ?_ (zF0 _ _) (by rw[zF0];omega)
 rw[List.drop_zero,Nat.mul_one,← zF0 true M,List.take_length];exact z2w _ _
theorem y7u{b:List A}{v:Nat}{M:List (List Int)}{k n:Nat}(hk:M.length=k)(hn:∀l∈M,l.length=n):Fz 0 (hm b v (ptrA k n) M) (.vs 1 v 1 k) (.fs true (rows true M)):=by
 subst hk
 refine Fz.vs (Nat.zero_le _) (hm_p _ _ _ _) (y6u (by omega) rfl hn) ?_ (zF0 _ _) (by rw[zF0];omega)
 rw[Nat.mul_one,← zF0 true M,List.take_length];exact z2w _ _
theorem y4m{k n:Nat}{f:Nat→Nat→Int}:∀l∈mtx k n f,l.length=n:=by
 intro l hl
 obtain⟨o,_,rfl⟩:=List.mem_map.1 hl
 simp
end Go.Proofs.YtcppaddgclkekaaGreat
namespace Go.Proofs.YtcppaddgclkekaaGreat
open Go Go.Lft
set_option linter.unusedSimpArgs false
set_option linter.unusedVariables false
attribute [local congr] W0 W1 W2 W4 Z3 Z4 W5 Z5 Z6 Z7 W6 W3
def badE(x:Int):Int:=if x<0∨1073741824<x then 18 else 0
theorem z6H{x:Int}(h:x<0∨1073741824<x):badE x=18:=by unfold badE;rw[if_pos h]
theorem yy4{x:Int}(h:¬(x<0∨1073741824<x)):badE x=0:=by unfold badE;rw[if_neg h]
theorem z8i{x:Int}(h:badE x=0):0≤x∧x≤1073741824:=by unfold badE at h;split at h<;>omega
def msE(m:Mc)(xs:List Int):Int:=if w6 m xs.length≠0 then w6 m xs.length else if zc6 badE xs≠0 then 18 else if y4 m=0 then 13 else 0
def msM(m:Mc)(xs:List Int):List (List Int):=mtx (y4 m) xs.length fun o i=>(divM m i (xs.getD i 0)).getD o 0
def msF(m:Mc)(xs:List Int)(x o:Nat):Nat→Nat→Int:=fun a b=>if b<x∨(b=x∧a<o)then(divM m b (xs.getD b 0)).getD a 0 else 0
def xf7(m:Mc)(xs:List Int):A→List Blk→Prop:=fun r G=>(msE m xs≠0∧r=.tup [.v (.slice none 0 0),.v (.int .i64 (msE m xs))]∧G=[])∨(msE m xs=0∧r=.tup [.sl 1 0 1 0 (y4 m),.v (.int .i64 0)]∧G=hm [.any] 0 (ptrA (y4 m) xs.length) (msM m xs))
theorem yN4(m:Mc)(xs:List Int)(n:Nat):mtx (y4 m) n (msF m xs 0 0)=mtx (y4 m) n fun _ _=>0:=yg0 fun o i _ _=>by unfold msF;rw[if_neg (by omega)]
theorem yN5(m:Mc)(xs:List Int)(x:Nat):mtx (y4 m) xs.length (msF m xs x (y4 m))=mtx (y4 m) xs.length (msF m xs (x+1) 0):=yg0 fun o i ho _=>by
 unfold msF
 by_cases h:i<x∨(i=x∧o<y4 m)
 ·rw[if_pos h,if_pos (by omega)]
 ·rw[if_neg h,if_neg (by omega)]
theorem y2p(m:Mc)(xs:List Int):mtx (y4 m) xs.length (msF m xs xs.length 0)=msM m xs:=yg0 fun o i ho hi=>by
 unfold msF;rw[if_pos (by omega)]
theorem y2q(m:Mc)(xs:List Int){x o:Nat}(ho:o<y4 m)(hx:x<xs.length):(mtx (y4 m) xs.length (msF m xs x o)).set o (((List.range xs.length).map fun i=>msF m xs x o o i).set x ((divM m x (xs.getD x 0)).getD o 0))=mtx (y4 m) xs.length (msF m xs x (o+1)):=by
 rw[y7q _ o x _ ho hx]
 refine yg0 fun a b _ _=>?_
 by_cases h:a=o∧b=x
 ·obtain⟨rfl,rfl⟩:=h
  rw[if_pos ⟨rfl,rfl⟩];unfold msF;rw[if_pos (by omega)]
 ·rw[if_neg h];unfold msF
  by_cases h2:b<x∨(b=x∧a<o)
  ·rw[if_pos h2,if_pos (by omega)]
  ·rw[if_neg h2,if_neg (by omega)]
theorem yN6{m:Mc}{mat:Int}(h:MOk m mat)(ho:y4 m≠0){k:Nat}(hk:k<m.length){t:Int}(ht:0≤t∧t≤1073741824):(divM m k t).length=y4 m:=by
 obtain⟨h1,h2,h3,h4,h5⟩:=zl4 h ho hk ht
 unfold divM
 rw[z6G,(z3X (zz1 h1).sp).len,h3]
theorem z6x{w v:Bool}(m:Mc)(xs:List Int):VR P false zy3 [mcA w m,.fs v (ints xs)] [] (xf7 m xs):=by
 refine z6o (by simp) (.inr rfl) fun _ _=>?_
 unfold mcA mcC
 simp (disch:=(try simp only[lZ]);omega) only[aZ,aM,aQ,zy4,zZ0]
 refine(zz2 (w:=w) m xs.length).same (by unfold mcA mcC;simp (disch:=first|omega|simp (disch:=omega) only[aG,aM,aQ]) only[fZ,aM,aQ]) rfl (z7 ?_)
 simp (disch:=(try simp only[lZ]);omega) only[aZ,aM,aQ]
 refine y1 (fun h1=>?_) (fun h1=>?_)
 ·have he:msE m xs=w6 m xs.length:=by unfold msE;rw[if_pos h1]
  simp (disch:=(try simp only[lZ]);omega) only[aZ,aM,aQ,zk4]
  exact x2 (r:=.tup [.v (.slice none 0 0),.v (.int .i64 (w6 m xs.length))]) (Fz.refl rfl) (.inl ⟨by omega,by rw[he],rfl⟩)
 have h1':w6 m xs.length=0:=Classical.not_not.1 h1
 have ok:=zK4 h1'
 have k1:=ok.m1
 have k2:=ok.m2
 have k3:=ok.len
 simp (disch:=(try simp only[lZ]);omega) only[aZ,aM,aQ]
 refine AWP.loopP z4M (fun i:Nat=>i≤xs.length∧∀j,j<i→badE (xs.getD j 0)=0) (fun i=>[(6,.v (.int .i64 i))]) (fun _=>[]) (fun i=>xs.length-i) 0 ⟨by omega,by omega⟩ ?_ ?_
 ·exact Cut.of' 1 rfl (by omega) (by simp (disch:=first|omega|simp (disch:=omega) only[aG,aM,aQ]) only[fZ,aM,aQ]) (by simp (disch:=first|omega|simp (disch:=omega) only[aG,aM,aQ]) only[fZ,aM,aQ])
 rintro i ⟨hi,hi2⟩
 by_cases hlt:i<xs.length
 ·simp (disch:=(try simp only[lZ]);omega) only[aZ,aM,aQ]
  refine y1 (fun h2=>?_) (fun h2=>?_)
  ·have he : msE m xs = 18 := by
    unfold msE;rw[if_neg h1,if_pos]
    rw[zb9 0 hlt hi2 (by rw[z6H (by omega)];omega),z6H (by omega)];omega
   simp (disch:=(try simp only[lZ]);omega) only[aZ,aM,aQ,zk4]
   exact x2 (r:=.tup [.v (.slice none 0 0),.v (.int .i64 18)]) (Fz.refl rfl) (.inl ⟨by omega,by rw[he],rfl⟩)
  ·simp (disch:=(try simp only[lZ]);omega) only[aZ,aM,aQ]
   refine⟨i+1,⟨by omega,fun j hj=>?_⟩,by omega,?_⟩
   ·by_cases hji:j=i
    ·subst hji;exact yy4 (by omega)
    ·exact hi2 j (by omega)
   ·exact Cut.of' 1 rfl (by omega) (by simp (disch:=first|omega|simp (disch:=omega) only[aG,aM,aQ]) only[fZ,aM,aQ]) (by simp (disch:=first|omega|simp (disch:=omega) only[aG,aM,aQ]) only[fZ,aM,aQ])
 have hie:i=xs.length:=by omega
 subst hie
 have hb:zc6 badE xs=0:=Z0 0 hi2
 have hbd:∀i,i<xs.length→0≤xs.getD i 0∧xs.getD i 0≤1073741824:=fun i hi=>z8i (hi2 i hi)
 simp (disch:=(try simp only[lZ]);omega) only[aZ,aM,aQ]
 refine(W9 (w:=w) m).same (by unfold mcA mcC;simp (disch:=first|omega|simp (disch:=omega) only[aG,aM,aQ]) only[fZ,aM,aQ]) rfl (z7 ?_)
 simp (disch:=(try simp only[lZ]);omega) only[aZ,aM,aQ]
 refine y1 (fun h3=>?_) (fun h3=>?_)
 ·have he : msE m xs = 13 := by
   unfold msE;rw[if_neg h1,if_neg (by omega),if_pos (by omega)]
  simp (disch:=(try simp only[lZ]);omega) only[aZ,aM,aQ,zk4]
  exact x2 (r:=.tup [.v (.slice none 0 0),.v (.int .i64 13)]) (Fz.refl rfl) (.inl ⟨by omega,by rw[he],rfl⟩)
 have he:msE m xs=0:=by
  unfold msE;rw[if_neg h1,if_neg (by omega),if_neg (by omega)]
 have ho:y4 m≠0:=by omega
 have ho4:y4 m≤4:=by
  have:=(zl4 ok ho (k:=0) (by omega) (t:=0) (by omega)).2.2.2.1;exact this
 simp (disch:=(try simp only[lZ]);omega) only[aZ,aM,aQ]
 rw[y4l _ xs.length,xn7]
 refine AWP.loopM z4N (fun j:Nat=>j≤y4 m) (fun j=>[(13,.v (.int .i64 j))]) (fun j=>hm [.fs w (rows w m)] 0 (padA j (y4 m) xs.length) (mtx j xs.length fun _ _=>0)) (fun j=>y4 m-j) 0 (by omega) ?_ ?_
 ·rw[xf2]
  exact Cut.same (by omega) (z6w (by simp (disch:=first|omega|simp (disch:=omega) only[aG,aM,aQ]) only[fZ,aM,aQ]) (y6t _ _ _ _ (by simp (disch:=(try simp only[lZ]);omega) only[aZ,aM,aQ];omega))) (by simp (disch:=first|omega|simp (disch:=omega) only[aG,aM,aQ]) only[fZ,aM,aQ])
 rintro j hj
 by_cases hlt2:j<y4 m
 ·simp (disch:=(try simp only[lZ]);omega) only[aZ,aM,aQ]
  rw[yN3]
  refine⟨j+1,by omega,by omega,?_⟩
  exact Cut.same (by omega) (z6w (by simp (disch:=first|omega|simp (disch:=omega) only[aG,aM,aQ]) only[fZ,aM,aQ]) (y6t _ _ _ _ (by simp (disch:=(try simp only[lZ]);omega) only[aZ,aM,aQ];omega))) (by simp (disch:=first|omega|simp (disch:=omega) only[aG,aM,aQ]) only[fZ,aM,aQ])
 have hje:j=y4 m:=by omega
 subst hje
 rw[y7s,← yN4 m xs]
 simp (disch:=(try simp only[lZ]);omega) only[aZ,aM,aQ]
 refine AWP.loopM z4O (fun x:Nat=>x≤xs.length) (fun x=>[(17,.v (.int .i64 x))]) (fun x=>hm [.fs w (rows w m)] 0 (ptrA (y4 m) xs.length) (mtx (y4 m) xs.length (msF m xs x 0))) (fun x=>xs.length-x) 0 (by omega) ?_ ?_
 ·exact Cut.same (by omega) (z6w (by simp (disch:=first|omega|simp (disch:=omega) only[aG,aM,aQ]) only[fZ,aM,aQ]) (z1L _ _ _ (by simp (disch:=(try simp only[lZ]);omega) only[aZ,aM,aQ];omega))) (by simp (disch:=first|omega|simp (disch:=omega) only[aG,aM,aQ]) only[fZ,aM,aQ])
 rintro x hx
 by_cases hltx:x<xs.length
 ·have hbx:=hbd x hltx
  have hdl:=yN6 ok ho (k:=x) (by omega) hbx
  have hms:=fun o ho=>y2q m xs (x:=x) (o:=o) ho hltx
  simp (disch:=(try simp only[lZ]);omega) only[aZ,aM,aQ]
  refine(yU0 (w:=w) m _ ok ho x (by omega) (xs.getD x 0) hbx).same (by unfold mcA mcC;simp (disch:=first|omega|simp (disch:=omega) only[aG,aM,aQ]) only[fZ,aM,aQ]) (by simp (disch:=first|omega|simp (disch:=omega) only[aG,aM,aQ]) only[fZ,aM,aQ]) (z7 ?_)
  simp (disch:=(try simp only[lZ]);omega) only[aZ,aM,aQ]
  refine AWP.loopM z4P (fun o:Nat=>o≤y4 m) (fun o=>[(23,.v (.int .i64 o))]) (fun o=>hm [.fs w (rows w m)] 0 (ptrA (y4 m) xs.length) (mtx (y4 m) xs.length (msF m xs x o))) (fun o=>y4 m-o) 0 (by omega) ?_ ?_
  ·exact Cut.same (by omega) (z6w (by simp (disch:=first|omega|simp (disch:=omega) only[aG,aM,aQ]) only[fZ,aM,aQ]) (z1L _ _ _ (by simp (disch:=(try simp only[lZ]);omega) only[aZ,aM,aQ];omega))) (by simp (disch:=first|omega|simp (disch:=omega) only[aG,aM,aQ]) only[fZ,aM,aQ])
  rintro o ho2
  by_cases hlto:o<y4 m
  ·simp (disch:=(try simp only[lZ]);omega) only[aZ,aM,aQ]
   rw[hms o hlto]
   refine⟨o+1,by omega,by omega,?_⟩
   exact Cut.same (by omega) (z6w (by simp (disch:=first|omega|simp (disch:=omega) only[aG,aM,aQ]) only[fZ,aM,aQ]) (z1L _ _ _ (by simp (disch:=(try simp only[lZ]);omega) only[aZ,aM,aQ];omega))) (by simp (disch:=first|omega|simp (disch:=omega) only[aG,aM,aQ]) only[fZ,aM,aQ])
  have hoe:o=y4 m:=by omega
  subst hoe
  rw[yN5]
  simp (disch:=(try simp only[lZ]);omega) only[aZ,aM,aQ]
  refine⟨x+1,by omega,by omega,?_⟩
  exact Cut.same (by omega) (z6w (by simp (disch:=first|omega|simp (disch:=omega) only[aG,aM,aQ]) only[fZ,aM,aQ]) (z1L _ _ _ (by simp (disch:=(try simp only[lZ]);omega) only[aZ,aM,aQ];omega))) (by simp (disch:=first|omega|simp (disch:=omega) only[aG,aM,aQ]) only[fZ,aM,aQ])
 have hxe:x=xs.length:=by omega
 subst hxe
 rw[y2p]
 have hml:(msM m xs).length=y4 m:=zP4 _ _ _
 simp (disch:=(try simp only[lZ]);omega) only[aZ,aM,aQ,zk4]
 refine⟨_,hm [.any] 0 (ptrA (y4 m) xs.length) (msM m xs),xf5 (by omega) ⟨Fz.any,trivial⟩ (z1L _ _ _ (by omega)) ?_,.inr ⟨he,rfl,rfl⟩⟩
 exact⟨Fz.refl (by simp [retA,A.bd,A.bdL,hml]),trivial⟩
theorem yN7(m:Mc)(xs:List Int):∀l∈msM m xs,l.length=xs.length:=y4m
theorem y2r(m:Mc)(xs:List Int):(msM m xs).length=y4 m:=zP4 _ _ _
def zK9(m:Mc)(xs:List Int):A:=.tup [if msE m xs≠0 then .v (.slice none 0 0)else .fs true (rows true (msM m xs)),.v (.int .i64 (msE m xs))]
theorem z8j{w v:Bool}(m:Mc)(xs:List Int):VR P false zy3 [mcA w m,.fs v (ints xs)] [] (isR (zK9 m xs)):=by
 refine(z6x (w:=w) (v:=v) m xs).cut ?_
 rintro r G (⟨h1,rfl,rfl⟩|⟨h1,rfl,rfl⟩)
 ·exact⟨_,_,Cut.refl _ _ _,by unfold zK9;rw[if_pos h1],rfl⟩
 ·refine⟨zK9 m xs,[],Cut.of (Nat.le_refl _) rfl (fun i B' h=>by simp at h) ⟨?_,trivial⟩,rfl,rfl⟩
  unfold zK9
  rw[if_neg (by omega),h1]
  exact Fz.tup ⟨xf6 (y2r m xs) (yN7 m xs),Fz.refl rfl,trivial⟩
end Go.Proofs.YtcppaddgclkekaaGreat
