/- Lemmas and walks that the proof of SetpointBests uses. No statement is claimed here. -/
import Derived.Test.YtcppaddgclkekaaGreatSetpointBestsZao
import Derived.Lib.Mul64
namespace Go.Proofs.YtcppaddgclkekaaGreat
open Go Go.Lft
set_option linter.unusedSimpArgs false
set_option linter.unusedVariables false
attribute [local congr] Q7 Q8 Q9 za1 Z9 Y0 za2 Y2 Y3 Y4 za3 za0
theorem y34:∀(n:Nat) (f:Nat→Nat),(∀i,i≤n→f i<n)→∃i j,i<j∧j≤n∧f i=f j
 | 0,f,h=>by have:=h 0 (by omega);omega
 | n+1,f,h=>by
  by_cases hx:∃i,i≤n∧f i=f (n+1)
  ·obtain⟨i,h1,h2⟩:=hx;exact⟨i,n+1,by omega,by omega,h2⟩
  ·have hne:∀i,i≤n→f i≠f (n+1):=fun i hi hc=>hx ⟨i,hi,hc⟩
   obtain⟨i,j,h1,h2,h3⟩:=y34 n (fun i=>if f i=n then f (n+1)else f i) fun i hi=>by
    have a1:=h i (by omega)
    have a2:=h (n+1) (by omega)
    have a3:=hne i hi
    split<;>omega
   have a1:=hne i (by omega)
   have a2:=hne j h2
   refine⟨i,j,h1,by omega,?_⟩
   split at h3<;>split at h3<;>omega
theorem y8k{q:List Int}{x y:Int}(h:ltO q x y):x≠y:=by rintro rfl;unfold ltO at h;omega
theorem y03{q T:List Int}{n:Nat}(hl:T.length=n)(hr:InR n T)(hs:T.Pairwise (ltO q)):∀i:Nat,i<n→∃l,l<n∧T.getD l 0=(i:Int):=fun i hi=>by
 apply Classical.byContradiction;intro hc
 have hne:∀l,l<n→T.getD l 0≠(i:Int):=fun l hl' he=>hc ⟨l,hl',he⟩
 have hin:∀l,l<n→0≤T.getD l 0∧T.getD l 0<n:=fun l hl'=>hr _ (zg0 (by omega))
 obtain⟨m,rfl⟩:∃m,n=m+1:=⟨n-1,by omega⟩
 obtain⟨a,b,h1,h2,h3⟩:=y34 m (fun l=>if(T.getD l 0).toNat<i then(T.getD l 0).toNat else(T.getD l 0).toNat-1) fun l hl'=>by
  have a1:=hin l (by omega)
  have a2:=hne l (by omega)
  split<;>omega
 have a1:=hin a (by omega)
 have a2:=hne a (by omega)
 have b1:=hin b (by omega)
 have b2:=hne b (by omega)
 have hab:T.getD a 0=T.getD b 0:=by
  split at h3<;>split at h3<;>omega
 have:=List.pairwise_iff_getElem.1 hs a b (by omega) (by omega) h1
 refine y8k this ?_
 simpa [List.getD_eq_getElem?_getD,show a<T.length by omega,show b<T.length by omega]using hab
theorem yi6{q T:List Int}(hs:T.Pairwise (ltO q)){i j:Nat}(hij:i<j)(hj:j<T.length):ltO q (T.getD i 0) (T.getD j 0):=by
 have:=List.pairwise_iff_getElem.1 hs i j (by omega) hj hij
 simpa [List.getD_eq_getElem?_getD,show i<T.length by omega,hj]using this
def incs(p:List Int)(T:List Int):List Int:=T.foldl (fun p x=>inc p x.toNat) p
theorem yB1(p T:List Int)(k:Nat)(h:k<T.length):incs p (T.take (k+1))=inc (incs p (T.take k)) (T.getD k 0).toNat:=by
 unfold incs
 rw[List.take_succ_eq_append_getElem h,List.foldl_append]
 simp [List.getD_eq_getElem?_getD,h]
theorem y57(p T:List Int):(incs p T).length=p.length:=by
 unfold incs
 induction T generalizing p with
 | nil=>rfl
 | cons x T ih=>rw[List.foldl_cons,ih,yI1]
theorem yB2{p0 q0 T:List Int}(hl:p0.length=q0.length)(hq:∀i,i<q0.length→0≤q0.getD i 0)(hT:T.length=q0.length)(hr:InR q0.length T)(hs:T.Pairwise (ltO q0)):
    ∀k,k≤q0.length→(rd p0 q0 k).1=incs p0 (T.take k)∧∀i,i<q0.length→(rd p0 q0 k).2.getD i 0=if ∃l,l<k∧T.getD l 0=(i:Int)then -1 else q0.getD i 0
  | 0,_=>⟨by simp [rd,incs],fun i _=>by rw[if_neg (by rintro⟨l,h,_⟩;omega)];rfl⟩
  | k+1,hk=>by
    obtain⟨h1,h2⟩:=yB2 hl hq hT hr hs k (by omega)
    have hll:=zD4 p0 q0 k
    have hin:=hr _ (zg0 (l:=T) (i:=k) (by omega))
    have hb:zc6 (rd p0 q0 k).2=(T.getD k 0).toNat:=by
      have hTk:(rd p0 q0 k).2.getD (T.getD k 0).toNat 0=q0.getD (T.getD k 0).toNat 0:=by
        rw[h2 _ (by omega),if_neg]
        rintro⟨l,l1,l2⟩
        exact y8k (yi6 hs l1 (by omega)) (by omega)
      have hge:∀i,i<q0.length→(rd p0 q0 k).2.getD i 0≤q0.getD (T.getD k 0).toNat 0∧(i<(T.getD k 0).toNat→(rd p0 q0 k).2.getD i 0<q0.getD (T.getD k 0).toNat 0):=fun i hi=>by
        rw[h2 i hi]
        have hnn:=hq (T.getD k 0).toNat (by omega)
        split
        · omega
        · rename_i hx
          obtain⟨l,l1,l2⟩:=y03 hT hr hs i hi
          have hkl:k≤l:=Nat.le_of_not_lt fun hc=>hx ⟨l,hc,l2⟩
          by_cases hkl2:k=l
          · subst hkl2
            rw[l2,Int.toNat_natCast]
            exact⟨Int.le_refl _,fun h=>by omega⟩
          · have:=yi6 hs (show k<l by omega) (by omega)
            rw[l2]at this
            unfold ltO kq at this
            rw[Int.toNat_natCast]at this
            omega
      refine y01 (by omega) (fun i hi=>?_) fun i hi=>?_
      · rw[hTk];exact(hge i (by omega)).1
      · rw[hTk];exact(hge i (by omega)).2 hi
    refine⟨?_,fun i hi=>?_⟩
    · simp only[rd]
      rw[hb,h1,yB1 _ _ _ (by omega)]
    · simp only[rd]
      rw[hb,X5]
      by_cases he:(T.getD k 0).toNat=i
      · rw[if_pos ⟨he,by omega⟩,if_pos ⟨k,by omega,by omega⟩]
      · rw[if_neg (fun h=>he h.1),h2 i hi]
        have:(∃l,l<k∧T.getD l 0=(i:Int))↔∃l,l<k+1∧T.getD l 0=(i:Int):=by
          constructor
          · rintro⟨l,a,b⟩;exact⟨l,by omega,b⟩
          · rintro⟨l,a,b⟩
            rcases Nat.lt_succ_iff_lt_or_eq.1 a with h|rfl
            · exact⟨l,h,b⟩
            · omega
        simp only[this]
theorem y35(a:Int)(n:Nat):a.fdiv (2 ^ n)=a / 2 ^ n:=Int.fdiv_eq_ediv_of_nonneg a (Int.le_of_lt (Int.pow_pos (by decide)))
theorem y36(a:Int)(k:IntKind)(b:Int)(h0:0≤b)(h1:b≤63):s2A (.bin .shr) (.v (.int .i64 a)) (.v (.int k b))=some (.v (.int .i64 (a / 2 ^ b.toNat))):=by
 have e:min b.toNat 64=b.toNat:=Nat.min_eq_left (by omega)
 have h:k2v (.bin .shr) (.int .i64 a) (.int k b)=some (.int .i64 (a / 2 ^ b.toNat)):=by
  rw[← y35,← e]
  simp only[k2v,binOp,Op.shift,z24,show ¬b<0 by omega,if_false];rfl
 simp only[s2A,h,Option.map_some]
theorem y8l(a:Int)(k:IntKind)(b:Int)(h0:0≤b)(h1:b≤63):s2A (.bin .shr) (.v (.int .u64 a)) (.v (.int k b))=some (.v (.int .u64 (a / 2 ^ b.toNat))):=by
 have e:min b.toNat 64=b.toNat:=Nat.min_eq_left (by omega)
 have h:k2v (.bin .shr) (.int .u64 a) (.int k b)=some (.int .u64 (a / 2 ^ b.toNat)):=by
  rw[← y35,← e]
  simp only[k2v,binOp,Op.shift,z24,show ¬b<0 by omega,if_false];rfl
 simp only[s2A,h,Option.map_some]
theorem xr2(a:Int)(k:IntKind)(b:Int)(h0:0≤b)(h1:b≤63):s2A (.bin .shl) (.v (.int .i64 a)) (.v (.int k b))=some (.v (.int .i64 (IntKind.wrap .i64 (a*2 ^ b.toNat)))):=by
 have e:min b.toNat 64=b.toNat:=Nat.min_eq_left (by omega)
 have h:k2v (.bin .shl) (.int .i64 a) (.int k b)=some (.int .i64 (IntKind.wrap .i64 (a*2 ^ b.toNat))):=by
  rw[← e]
  simp only[k2v,binOp,Op.shift,z24,show ¬b<0 by omega,if_false];rfl
 simp only[s2A,h,Option.map_some]
theorem yY2(a:Nat)(k:Nat)(ha:a<2 ^ 64)(hk:2 ^ k-1<2 ^ 64):(BitVec.ofInt 64 (a:Int) &&& BitVec.ofInt 64 ((2 ^ k-1:Nat):Int)).toNat=a % 2 ^ k:=by
 rw[BitVec.toNat_and,BitVec.toNat_ofInt,BitVec.toNat_ofInt]
 have e1:((a:Int) % (2 ^ 64:Nat)).toNat=a:=by omega
 have e2:(((2 ^ k-1:Nat):Int) % (2 ^ 64:Nat)).toNat=2 ^ k-1:=by
  rw[Int.emod_eq_of_lt (by omega) (by omega)];rfl
 rw[e1,e2,Nat.and_two_pow_sub_one_eq_mod]
theorem y37(a m:Int)(k:Nat)(hk:k≤62)(hm:m=2 ^ k-1)(h0:0≤a)(h1:a≤9223372036854775807):s2A (.bin .and) (.v (.int .i64 a)) (.v (.int .i64 m))=some (.v (.int .i64 (a % 2 ^ k))):=by
 obtain⟨b,rfl⟩:∃b:Nat,a=b:=⟨a.toNat,by omega⟩
 have hp:(2:Nat) ^ k≤2 ^ 62:=Nat.pow_le_pow_right (by decide) hk
 have h1p:1≤2 ^ k:=Nat.one_le_two_pow
 have e62:(2:Nat) ^ 62=4611686018427387904:=by decide
 have e64:(2:Nat) ^ 64=18446744073709551616:=by decide
 have hm':m=((2 ^ k-1:Nat):Int):=by
  rw[hm,Int.natCast_sub h1p,Int.natCast_pow];rfl
 have hb:=yY2 b k (by omega) (by omega)
 have h:k2v (.bin .and) (.int .i64 b) (.int .i64 m)=some (.int .i64 (IntKind.wrap .i64 ((BitVec.ofInt 64 (b:Int) &&& BitVec.ofInt 64 m).toNat))):=by
  simp [k2v,binOp,Op.intBits,z24];rfl
 have hlt:b % 2 ^ k<2 ^ k:=Nat.mod_lt _ (by omega)
 rw[hm',hb,yG6 (by omega) (by omega)]at h
 rw[hm']
 simp only[s2A,h,Option.map_some,Int.natCast_emod,Int.natCast_pow]
 rfl
theorem y38(a m:Int)(k:Nat)(hk:k≤62)(hm:m=2 ^ k-1)(h0:0≤a)(h1:a≤18446744073709551615):s2A (.bin .and) (.v (.int .u64 a)) (.v (.int .u64 m))=some (.v (.int .u64 (a % 2 ^ k))):=by
 obtain⟨b,rfl⟩:∃b:Nat,a=b:=⟨a.toNat,by omega⟩
 have hp:(2:Nat) ^ k≤2 ^ 62:=Nat.pow_le_pow_right (by decide) hk
 have h1p:1≤2 ^ k:=Nat.one_le_two_pow
 have e62:(2:Nat) ^ 62=4611686018427387904:=by decide
 have e64:(2:Nat) ^ 64=18446744073709551616:=by decide
 have hm':m=((2 ^ k-1:Nat):Int):=by
  rw[hm,Int.natCast_sub h1p,Int.natCast_pow];rfl
 have hb:=yY2 b k (by omega) (by omega)
 have h:k2v (.bin .and) (.int .u64 b) (.int .u64 m)=some (.int .u64 (IntKind.wrap .u64 ((BitVec.ofInt 64 (b:Int) &&& BitVec.ofInt 64 m).toNat))):=by
  simp [k2v,binOp,Op.intBits,z24];rfl
 have hlt:b % 2 ^ k<2 ^ k:=Nat.mod_lt _ (by omega)
 rw[hm',hb,zj8 (by omega) (by omega)]at h
 rw[hm']
 simp only[s2A,h,Option.map_some,Int.natCast_emod,Int.natCast_pow]
 rfl
theorem zT1(l:List Int)(k:Nat)(h:k<l.length):l.take (k+1)=l.take k++[l.getD k 0]:=by
 rw[List.take_succ_eq_append_getElem h];simp [List.getD_eq_getElem?_getD,h]
def sumK(l:List Int)(k:Nat):Int:=(l.take k).sum
theorem z0Z(l:List Int):sumK l 0=0:=by simp [sumK]
theorem z4S(l:List Int)(k:Nat)(h:k<l.length):sumK l (k+1)=sumK l k+l.getD k 0:=by
 unfold sumK;rw[zT1 l k h];simp
theorem z1g(l:List Int):sumK l l.length=l.sum:=by simp [sumK]
theorem yY3{w:Bool}(x:Int):VR P false yW6 [.fs w [.v (.int .i64 x)]] [] (isR (.v (.bool (decide (-1125899906842624≤x∧x≤1125899906842624))))):=by
 refine y3B (by simp) (.inr rfl) fun _ _=>?_
 have e:[A.v (.int .i64 x)]=ints [x]:=rfl
 rw[e]
 simp (disch:=(try simp only[lZ]);omega) only[aZ,yo5,yW8]
 refine AWP.loopP y0Z (fun k:Nat=>k≤1∧(k=1→-1125899906842624≤x∧x≤1125899906842624)) (fun k=>[(1,.v (.bool false)),(2,.v (.int .i64 k))]) (fun _=>[]) (fun k=>1-k) 0 ⟨by omega,fun h=>by omega⟩ ?_ ?_
 ·simp only[List.length_cons,List.length_nil]
  exact Cut.of' 0 rfl (by omega) (by simp (disch:=first|omega|simp (disch:=omega) only[aG]) only[fZ]) (by simp (disch:=first|omega|simp (disch:=omega) only[aG]) only[fZ])
 rintro k ⟨hk,hx⟩
 by_cases hlt:k<1
 ·have hk0:k=0:=by omega
  subst hk0
  simp (disch:=(try simp only[lZ]);omega) only[aZ,List.length_cons,List.length_nil,List.getD_cons_zero]
  refine y2 (fun h3=>?_) (fun h3=>?_)
  ·simp (disch:=(try simp only[lZ]);omega) only[aZ,yW9]
   exact y1 ⟨yx3 (by omega),rfl⟩
  ·simp (disch:=(try simp only[lZ]);omega) only[aZ]
   exact⟨1,⟨by omega,fun _=>by omega⟩,by omega,(by refine Cut.of' (0) ?_ (by omega) ?_ ?_<;>simp (disch:=first|omega|simp (disch:=omega) only[aG]) only[fZ,Int.zero_add])⟩
 ·have hk1:k=1:=by omega
  subst hk1
  simp (disch:=(try simp only[lZ]);omega) only[aZ,yW9,List.length_cons,List.length_nil]
  exact y1 ⟨y9g (hx rfl),rfl⟩
theorem y04(x:Int):VR P false z4J [.v (.int .i64 x)] [] (isR (.tup [.v (.int .i64 (if -1125899906842624≤x∧x≤1125899906842624 then x else 0)),.v (.int .i64 (if -1125899906842624≤x∧x≤1125899906842624 then 0 else 2))])):=by
 refine yf2 (by simp) (.inr rfl) fun _ _=>?_
 simp (disch:=(try simp only[lZ]);omega) only[aZ,zS7,z4L]
 refine(yY3 (w:=false) x).use ⟨zD6 _ 0 0 1 [x] rfl rfl,trivial⟩ rfl (z7 ?_)
 by_cases h:-1125899906842624≤x∧x≤1125899906842624
 ·rw[if_pos h,if_pos h]
  simp (disch:=(try simp only[lZ]);omega) only[aZ,decide_eq_true h,z4M]
  exact y8 (Fz.refl rfl) ⟨rfl,rfl⟩
 ·rw[if_neg h,if_neg h]
  simp (disch:=(try simp only[lZ]);omega) only[aZ,decide_eq_false h,z4M]
  exact y8 (Fz.refl rfl) ⟨rfl,rfl⟩
theorem y39{w:Bool}(l:List Int)(hl:l.length≤512)(hr:∀x∈l,0≤x∧x≤1125899906842624):VR P false yz6 [.fs w (ints l)] [] (isR (.tup [.v (.int .i64 (if l.sum≤1125899906842624 then l.sum else 0)),.v (.int .i64 (if l.sum≤1125899906842624 then 0 else 2))])):=by
 refine y0Y (by simp) (.inr rfl) fun _ _=>?_
 have e25:(2:Int) ^ (25:Int).toNat=33554432:=by decide
 have e25':(2:Int) ^ 25=33554432:=by decide
 simp (disch:=(try simp only[lZ]);omega) only[aZ,z9q,yz8]
 refine AWP.loopP (α:=Nat×Int×Int) yH9 (fun s=>s.1≤l.length∧s.2.1*33554432+s.2.2=sumK l s.1∧0≤s.2.1∧s.2.1≤s.1*33554432∧0≤s.2.2∧s.2.2≤s.1*33554432) (fun s=>[(1,.v (.int .i64 0)),(2,.v (.int .i64 0)),(3,.v (.int .i64 s.2.1)),(4,.v (.int .i64 s.2.2)),(5,.v (.int .i64 s.1))]) (fun _=>[]) (fun s=>l.length-s.1) (0,0,0) ⟨by omega,by simp [z0Z],by simp,by simp,by simp,by simp⟩ ?_ ?_
 ·exact Cut.of' 0 rfl (by omega) (by simp (disch:=first|omega|simp (disch:=omega) only[aG]) only[fZ]) (by simp (disch:=first|omega|simp (disch:=omega) only[aG]) only[fZ])
 rintro⟨k,hi,lo⟩ ⟨h1,h2,h3,h4,h5,h6⟩
 simp only at h1 h2 h3 h4 h5 h6
 by_cases hlt:k<l.length
 ·have hx:=hr _ (zg0 hlt)
  have hs:=z4S l k hlt
  simp (disch:=(try simp only[lZ]);omega) only[aZ]
  refine(yY3 (w:=false) (l.getD k 0)).use ⟨zD6 _ 0 0 1 [l.getD k 0] rfl rfl,trivial⟩ rfl (z7 ?_)
  simp (disch:=(try simp only[lZ]);omega) only[aZ,decide_eq_true (show -1125899906842624≤l.getD k 0∧l.getD k 0≤1125899906842624 by omega),y36,e25,y37 (l.getD k 0) 33554431 25 (by omega) rfl (by omega) (by omega),e25']
  refine⟨(k+1,hi+l.getD k 0 / 33554432,lo+l.getD k 0 % 33554432),⟨by simp only;omega,?_,?_,?_,?_,?_⟩,by simp only;omega,?_⟩
  ·simp only;omega
  ·simp only;omega
  ·simp only;omega
  ·simp only;omega
  ·simp only;omega
  ·exact Cut.of' 0 rfl (by omega) (by simp (disch:=first|omega|simp (disch:=omega) only[aG]) only[fZ]) (by simp (disch:=first|omega|simp (disch:=omega) only[aG]) only[fZ])
 ·have hke:k=l.length:=by omega
  subst hke
  rw[z1g]at h2
  simp (disch:=(try simp only[lZ]);omega) only[aZ,y36,e25]
  refine y2 (fun h7=>?_) (fun h7=>?_)
  ·rw[if_neg (by omega),if_neg (by omega)]
   simp (disch:=(try simp only[lZ]);omega) only[aZ,yz9]
   exact y8 (Fz.refl rfl) ⟨rfl,rfl⟩
  ·have e5:(hi+lo / 33554432)*33554432+lo % 33554432=l.sum:=by omega
   simp (disch:=(try simp only[lZ]);omega) only[aZ,xr2,e25,y37 lo 33554431 25 (by omega) rfl (by omega) (by omega),e25',e5]
   refine(y04 l.sum).same (by simp (disch:=first|omega|simp (disch:=omega) only[aG]) only[fZ]) rfl (z7 ?_)
   have e6:(-1125899906842624≤l.sum∧l.sum≤1125899906842624)=(l.sum≤1125899906842624):=propext (by omega)
   simp only[e6]
   simp (disch:=(try simp only[lZ]);omega) only[aZ,yz9]
   exact y8 (Fz.refl rfl) ⟨rfl,rfl⟩
def badW(w:Int):Prop:=w<0∨1125899906842624<w
instance:DecidablePred badW:=fun w=>by unfold badW;infer_instance
def zl3(ws:List Int):Int×Int :=
 if ws.length<1∨512<ws.length then(0,1)else if ∃i,i<ws.length∧badW (ws.getD i 0)then(0,1)else if ws.sum≤1125899906842624 then(ws.sum,0)else(0,2)
theorem yB3{ws:List Int}(h:ws.length<1∨512<ws.length):zl3 ws=(0,1):=by unfold zl3;rw[if_pos h]
theorem yB4{ws:List Int}(h:¬(ws.length<1∨512<ws.length))(h2:∃i,i<ws.length∧badW (ws.getD i 0)):zl3 ws=(0,1):=by unfold zl3;rw[if_neg h,if_pos h2]
theorem z9x{ws:List Int}(h:¬(ws.length<1∨512<ws.length))(h2:¬∃i,i<ws.length∧badW (ws.getD i 0)):zl3 ws=if ws.sum≤1125899906842624 then(ws.sum,0)else(0,2):=by unfold zl3;rw[if_neg h,if_neg h2]
def zw1(x:Int×Int):A:=.tup [.v (.int .i64 x.1),.v (.int .i64 x.2)]
theorem y05{w:Bool}(ws:List Int):VR P false z0N [.fs w (ints ws)] [] (isR (zw1 (zl3 ws))):=by
 refine z7B (by simp) (.inr rfl) fun _ _=>?_
 unfold zw1
 simp (disch:=(try simp only[lZ]);omega) only[aZ,zB2,z0P]
 refine y2 (fun h1=>?_) (fun h1=>?_)
 ·rw[yB3 (by omega)]
  simp (disch:=(try simp only[lZ]);omega) only[aZ,zn1]
  exact y8 (Fz.refl rfl) ⟨rfl,rfl⟩
 have h1:¬(ws.length<1∨512<ws.length):=by omega
 simp (disch:=(try simp only[lZ]);omega) only[aZ]
 refine AWP.loopP z5R (fun k:Nat=>k≤ws.length∧∀i,i<k→¬badW (ws.getD i 0)) (fun k=>[(1,.v (.int .i64 0)),(2,.v (.int .i64 0)),(3,.v (.int .i64 k))]) (fun _=>[]) (fun k=>ws.length-k) 0 ⟨by omega,fun i hi=>by omega⟩ (by refine Cut.of' (0) ?_ (by omega) ?_ ?_<;>simp (disch:=first|omega|simp (disch:=omega) only[aG]) only[fZ]) ?_
 rintro k ⟨hk,hb⟩
 by_cases hlt:k<ws.length
 ·simp (disch:=(try simp only[lZ]);omega) only[aZ]
  refine y2 (fun h3=>?_) (fun h3=>?_)
  ·rw[yB4 h1 ⟨k,hlt,h3⟩]
   simp (disch:=(try simp only[lZ]);omega) only[aZ,zn1]
   exact y8 (Fz.refl rfl) ⟨rfl,rfl⟩
  ·simp (disch:=(try simp only[lZ]);omega) only[aZ]
   refine⟨k+1,⟨by omega,fun i hi=>?_⟩,by omega,(by refine Cut.of' (0) ?_ (by omega) ?_ ?_<;>simp (disch:=first|omega|simp (disch:=omega) only[aG]) only[fZ])⟩
   rcases Nat.lt_succ_iff_lt_or_eq.1 hi with h|rfl
   ·exact hb i h
   ·exact h3
 ·have hno : ¬ ∃ i, i < ws.length ∧ badW (ws.getD i 0) := by
   rintro⟨i,h2,h3⟩;exact hb i (by omega) h3
  have hall:∀x∈ws,0≤x∧x≤1125899906842624:=fun x hx=>by
   obtain⟨i,h2,rfl⟩:=zr4 hx
   have:=hb i (by omega)
   unfold badW at this;omega
  rw[z9x h1 hno]
  simp (disch:=(try simp only[lZ]);omega) only[aZ]
  refine(y39 (w:=w) ws (by omega) hall).same (by simp (disch:=first|omega|simp (disch:=omega) only[aG]) only[fZ]) rfl (z7 ?_)
  by_cases h4:ws.sum≤1125899906842624
  ·simp only[if_pos h4]
   simp (disch:=(try simp only[lZ]);omega) only[aZ,zn1]
   exact y8 (Fz.refl rfl) ⟨rfl,rfl⟩
  ·simp only[if_neg h4]
   simp (disch:=(try simp only[lZ]);omega) only[aZ,zn1]
   exact y8 (Fz.refl rfl) ⟨rfl,rfl⟩
theorem y9m{ws:List Int}(h:∀i,i<ws.length→¬badW (ws.getD i 0)):∀k,k≤ws.length→0≤sumK ws k∧sumK ws k≤sumK ws ws.length:=fun k hk=>by
 have hall:∀x∈ws,0≤x:=fun x hx=>by
  obtain⟨i,h2,rfl⟩:=zr4 hx
  have:=h i (by omega)
  unfold badW at this;omega
 have h1:=z0X (ws.take k) fun x hx=>hall x (List.mem_of_mem_take hx)
 have h2:=z0X (ws.drop k) fun x hx=>hall x (List.mem_of_mem_drop hx)
 have h3:ws.sum=(ws.take k).sum+(ws.drop k).sum:=by rw[← List.sum_append,List.take_append_drop]
 rw[z1g]
 unfold sumK
 omega
theorem yI5{w:Bool}(ws:List Int):VR P false z9j [.fs w (ints ws)] [] (isR (zw1 (zl3 ws))):=by
 refine yz3 (by simp) (.inr rfl) fun _ _=>?_
 unfold zw1
 simp (disch:=(try simp only[lZ]);omega) only[aZ,z2T,z9l]
 refine y2 (fun h1=>?_) (fun h1=>?_)
 ·rw[yB3 (by omega)]
  simp (disch:=(try simp only[lZ]);omega) only[aZ,zS4]
  exact y8 (Fz.refl rfl) ⟨rfl,rfl⟩
 have h1:¬(ws.length<1∨512<ws.length):=by omega
 simp (disch:=(try simp only[lZ]);omega) only[aZ]
 refine AWP.loopP yo1 (fun k:Nat=>k≤ws.length∧∀i,i<k→¬badW (ws.getD i 0)) (fun k=>[(1,.v (.int .i64 0)),(2,.v (.int .i64 0)),(3,.v (.int .i64 k))]) (fun _=>[]) (fun k=>ws.length-k) 0 ⟨by omega,fun i hi=>by omega⟩ (by refine Cut.of' (0) ?_ (by omega) ?_ ?_<;>simp (disch:=first|omega|simp (disch:=omega) only[aG]) only[fZ]) ?_
 rintro k ⟨hk,hb⟩
 by_cases hlt:k<ws.length
 ·simp (disch:=(try simp only[lZ]);omega) only[aZ]
  refine y2 (fun h3=>?_) (fun h3=>?_)
  ·rw[yB4 h1 ⟨k,hlt,h3⟩]
   simp (disch:=(try simp only[lZ]);omega) only[aZ,zS4]
   exact y8 (Fz.refl rfl) ⟨rfl,rfl⟩
  ·simp (disch:=(try simp only[lZ]);omega) only[aZ]
   refine⟨k+1,⟨by omega,fun i hi=>?_⟩,by omega,(by refine Cut.of' (0) ?_ (by omega) ?_ ?_<;>simp (disch:=first|omega|simp (disch:=omega) only[aG]) only[fZ])⟩
   rcases Nat.lt_succ_iff_lt_or_eq.1 hi with h|rfl
   ·exact hb i h
   ·exact h3
 have hb:∀i,i<ws.length→¬badW (ws.getD i 0):=fun i hi=>hb i (by omega)
 have hno:¬∃i,i<ws.length∧badW (ws.getD i 0):=by
  rintro⟨i,h2,h3⟩;exact hb i h2 h3
 have hle:=y9m hb
 rw[z9x h1 hno]
 simp (disch:=(try simp only[lZ]);omega) only[aZ]
 refine AWP.loopP yo2 (fun k:Nat=>k≤ws.length∧sumK ws k≤1125899906842624) (fun k=>[(1,.v (.int .i64 0)),(2,.v (.int .i64 0)),(4,.v (.int .i64 (sumK ws k))),(5,.v (.int .i64 k))]) (fun _=>[]) (fun k=>ws.length-k) 0 ⟨by omega,by rw[z0Z];omega⟩ (by refine Cut.of' (0) ?_ (by omega) ?_ ?_<;>simp (disch:=first|omega|simp (disch:=omega) only[aG]) only[fZ,z0Z]) ?_
 rintro k ⟨hk,hs⟩
 by_cases hlt:k<ws.length
 ·have h5:=hle k (by omega)
  have h6:=hle (k+1) (by omega)
  have h7:=z4S ws k hlt
  have h8:=hb k hlt
  unfold badW at h8
  simp (disch:=(try simp only[lZ]);omega) only[aZ,← h7]
  refine y2 (fun h3=>?_) (fun h3=>?_)
  ·rw[z1g]at h6
   rw[if_neg (by omega)]
   simp (disch:=(try simp only[lZ]);omega) only[aZ,zS4]
   exact y8 (Fz.refl rfl) ⟨rfl,rfl⟩
  ·simp (disch:=(try simp only[lZ]);omega) only[aZ]
   exact⟨k+1,⟨by omega,by omega⟩,by omega,(by refine Cut.of' (0) ?_ (by omega) ?_ ?_<;>simp (disch:=first|omega|simp (disch:=omega) only[aG]) only[fZ])⟩
 ·have hke:k=ws.length:=by omega
  subst hke
  rw[z1g]at hs ⊢
  rw[if_pos hs]
  simp (disch:=(try simp only[lZ]);omega) only[aZ,zS4]
  exact y8 (Fz.refl rfl) ⟨rfl,rfl⟩
theorem y58(a:Int)(ha:0≤a)(k:Nat):a / 2 ^ k=2*(a / 2 ^ (k+1))+a / 2 ^ k % 2:=by
 have h1:a / 2 ^ (k+1)=a / 2 ^ k / 2:=by
  rw[Int.pow_succ,Int.ediv_ediv_of_nonneg (Int.le_of_lt (Int.pow_pos (by decide)))]
 rw[h1];omega
theorem yB5(a:Int)(h0:0≤a)(h1:a≤70368744177664):a / 2 ^ 51=0:=by
 have:(2:Int) ^ 51=2251799813685248:=by decide
 rw[this];omega
theorem yB6(a:Int)(h0:0≤a)(h1:a≤70368744177664)(k:Nat):0≤a / 2 ^ k∧a / 2 ^ k≤70368744177664:=by
 have hp:(0:Int)<2 ^ k:=Int.pow_pos (by decide)
 refine⟨Int.ediv_nonneg h0 (Int.le_of_lt hp),?_⟩
 have:=Int.ediv_le_self (2 ^ k) h0
 omega
theorem y4a(a b c:Int)(ha:0≤a∧a≤70368744177664)(hb:0≤b∧b≤c)(hc:0<c∧c≤1125899906842624):VR P false z2k [.v (.int .i64 a),.v (.int .i64 b),.v (.int .i64 c)] [] (isR (zw1 (a*b / c,a*b % c))):=by
 refine z9m (by simp) (.inr rfl) fun _ _=>?_
 simp (disch:=(try simp only[lZ]);omega) only[aZ,zJ7,z2m]
 refine AWP.loopP (α:=Nat×Int×Int) z7z (fun s=>s.1≤51∧c*s.2.1+s.2.2=a / 2 ^ s.1*b∧0≤s.2.2∧s.2.2<c∧0≤s.2.1∧s.2.1≤a / 2 ^ s.1) (fun s=>[(5,.v (.int .i64 s.2.1)),(6,.v (.int .i64 s.2.2)),(7,.v (.int .i64 (s.1-1)))]) (fun _=>[]) (fun s=>s.1) (51,0,0) ⟨Nat.le_refl _,?_,by simp,by simp only;omega,by simp,?_⟩ ?_ ?_
 ·simp only;rw[yB5 a ha.1 ha.2];simp
 ·simp only;rw[yB5 a ha.1 ha.2];simp
 ·have e51:((51:Nat):Int)-1=50:=by omega
  simp only[e51]
  exact Cut.of' 0 rfl (by omega) (by simp (disch:=first|omega|simp (disch:=omega) only[aG]) only[fZ]) (by simp (disch:=first|omega|simp (disch:=omega) only[aG]) only[fZ])
 rintro⟨m,q,r⟩ ⟨h1,h2,h3,h4,h5,h6⟩
 simp only at h1 h2 h3 h4 h5 h6
 by_cases hm:0<m
 ·obtain⟨k,rfl⟩:∃k,m=k+1:=⟨m-1,by omega⟩
  have e1:((k+1:Nat):Int)-1=(k:Nat):=by omega
  have hh:=y58 a ha.1 k
  have hd:=yB6 a ha.1 ha.2 (k+1)
  have hd2:=yB6 a ha.1 ha.2 k
  have e2:(2:Int) ^ 1=2:=by decide
  generalize hA:a / 2 ^ (k+1)=A1 at *
  generalize hB:a / 2 ^ k=A0 at *
  have hbit:A0 % 2=0∨A0 % 2=1:=by omega
  have hA0:A0*b=2*(A1*b)+A0 % 2*b:=by
   have:A0*b=(2*A1+A0 % 2)*b:=by rw[← hh]
   rw[this,Int.add_mul,Int.mul_assoc]
  simp (disch:=(try simp only[lZ]);omega) only[aZ,e1,zj8,y36,Int.toNat_natCast,hB,y37 A0 1 1 (by omega) rfl (by omega) (by omega),e2]
  have hAb:A0*b≤A0*c:=Int.mul_le_mul_of_nonneg_left hb.2 hd2.1
  obtain⟨R,hR⟩:∃R,R=2*r+A0 % 2*b:=⟨_,rfl⟩
  have hRb:0≤R∧R<3*c∧c*(2*q)+R=A0*b:=by
   have:c*(2*q)=2*(c*q):=by rw[← Int.mul_assoc,Int.mul_comm c 2,Int.mul_assoc]
   rcases hbit with h|h<;>rw[h]at hR hA0<;>omega
  refine yi3 (fun e'=>e'=[.v (.int .i64 a),.v (.int .i64 b),.v (.int .i64 c),.v (.int .i64 0),.v (.int .i64 0),.v (.int .i64 (2*q)),.v (.int .i64 R),.v (.int .i64 (k:Nat))]) ?_ ?_ ?_
  ·intro ht
   have h1:=of_decide_eq_true ht
   rw[h1]at hR
   have:2*r+b=R:=by omega
   simp (disch:=(try simp only[lZ]);omega) only[aZ,this]
   exact⟨trivial,trivial,by first|rfl|trivial⟩
  ·intro ht
   have h1:=of_decide_eq_false ht
   have h0:A0 % 2=0:=by omega
   rw[h0]at hR
   have:2*r=R:=by omega
   simp (disch:=(try simp only[lZ]);omega) only[aZ,this]
   exact⟨trivial,trivial,by first|rfl|trivial⟩
  rintro e' rfl
  clear hbit hh hA0
  simp (disch:=(try simp only[lZ]);omega) only[aZ]
  refine AWP.loopP (α:=Int×Int) z7A (fun s=>c*s.1+s.2=A0*b∧0≤s.2∧s.2<3*c∧0≤s.1) (fun s=>[(5,.v (.int .i64 s.1)),(6,.v (.int .i64 s.2))]) (fun _=>[]) (fun s=>s.2.toNat) (2*q,R) ⟨hRb.2.2,hRb.1,hRb.2.1,by simp only;omega⟩ ?_ ?_
  ·exact Cut.of' 0 rfl (by omega) (by simp (disch:=first|omega|simp (disch:=omega) only[aG]) only[fZ]) (by simp (disch:=first|omega|simp (disch:=omega) only[aG]) only[fZ])
  rintro⟨u,v⟩ ⟨g1,g2,g3,g4⟩
  simp only at g1 g2 g3 g4
  have hu:u≤A0:=by
   apply Int.le_of_mul_le_mul_left (a:=c) _ hc.1
   rw[Int.mul_comm c A0];omega
  by_cases hv:c≤v
  ·simp (disch:=(try simp only[lZ]);omega) only[aZ]
   refine⟨(u+1,v-c),⟨?_,by simp only;omega,by simp only;omega,by simp only;omega⟩,by simp only;omega,?_⟩
   ·simp only;rw[Int.mul_add];omega
   ·exact Cut.of' 0 rfl (by omega) (by simp (disch:=first|omega|simp (disch:=omega) only[aG]) only[fZ]) (by simp (disch:=first|omega|simp (disch:=omega) only[aG]) only[fZ])
  ·simp (disch:=(try simp only[lZ]);omega) only[aZ]
   refine⟨(k,u,v),⟨by simp only;omega,by simp only[hB];exact g1,g2,by simp only;omega,g4,by simp only[hB];exact hu⟩,by simp only;omega,?_⟩
   exact Cut.of' 0 rfl (by omega) (by simp (disch:=first|omega|simp (disch:=omega) only[aG]) only[fZ]) (by simp (disch:=first|omega|simp (disch:=omega) only[aG]) only[fZ])
 ·have hm0:m=0:=by omega
  subst hm0
  rw[Int.pow_zero,Int.ediv_one]at h2
  have hq:a*b / c=q:=by
   rw[← h2,Int.add_comm,Int.add_mul_ediv_left _ _ (by omega),Int.ediv_eq_zero_of_lt h3 h4,Int.zero_add]
  have hr:a*b % c=r:=by
   rw[← h2,Int.add_comm,Int.add_mul_emod_self_left,Int.emod_eq_of_lt h3 h4]
  rw[hq,hr]
  unfold zw1
  simp (disch:=(try simp only[lZ]);omega) only[aZ,yf0]
  exact y8 (Fz.refl rfl) ⟨rfl,rfl⟩
theorem y59(x y:Int)(hx:0≤x∧x≤18446744073709551615)(hy:0≤y∧y≤18446744073709551615):VR P false z6T [.v (.int .u64 x),.v (.int .u64 y)] [] (isR (.tup [.v (.int .u64 (x*y / 18446744073709551616)),.v (.int .u64 (IntKind.wrap .u64 (x*y)))])):=by
 refine yo3 (by simp) (.inr rfl) fun _ _=>?_
 have e32:(2:Int) ^ (32:Int).toNat=4294967296:=by decide
 have e32':(2:Int) ^ 32=4294967296:=by decide
 obtain⟨X,rfl⟩:∃X:Nat,x=X:=⟨x.toNat,by omega⟩
 obtain⟨Y,rfl⟩:∃Y:Nat,y=Y:=⟨y.toNat,by omega⟩
 obtain⟨m1,m2,m3,m4⟩:=Go.Lib.mul64_hi X Y (by omega) (by omega)
 have n4:(X:Int) / 4294967296*((Y:Int) / 4294967296)+((X:Int) / 4294967296*((Y:Int) % 4294967296)+(X:Int) % 4294967296*((Y:Int) % 4294967296) / 4294967296) / 4294967296+(((X:Int) / 4294967296*((Y:Int) % 4294967296)+(X:Int) % 4294967296*((Y:Int) % 4294967296) / 4294967296) % 4294967296+(X:Int) % 4294967296*((Y:Int) / 4294967296)) / 4294967296=(X:Int)*Y / 18446744073709551616:=by
  have:=congrArg (fun n:Nat=>(n:Int)) m4
  simpa only[Int.natCast_add,Int.natCast_mul,Int.natCast_ediv,Int.natCast_emod,Int.cast_ofNat_Int]using this
 have n1:(X:Int) % 4294967296*((Y:Int) % 4294967296)<18446744073709551616:=by
  have:=Int.ofNat_lt.2 m1
  simpa only[Int.natCast_add,Int.natCast_mul,Int.natCast_ediv,Int.natCast_emod,Int.cast_ofNat_Int]using this
 have n2:(X:Int) / 4294967296*((Y:Int) % 4294967296)+(X:Int) % 4294967296*((Y:Int) % 4294967296) / 4294967296<18446744073709551616:=by
  have:=Int.ofNat_lt.2 m2
  simpa only[Int.natCast_add,Int.natCast_mul,Int.natCast_ediv,Int.natCast_emod,Int.cast_ofNat_Int]using this
 have n3:((X:Int) / 4294967296*((Y:Int) % 4294967296)+(X:Int) % 4294967296*((Y:Int) % 4294967296) / 4294967296) % 4294967296+(X:Int) % 4294967296*((Y:Int) / 4294967296)<18446744073709551616:=by
  have:=Int.ofNat_lt.2 m3
  simpa only[Int.natCast_add,Int.natCast_mul,Int.natCast_ediv,Int.natCast_emod,Int.cast_ofNat_Int]using this
 have p1:0≤(X:Int) % 4294967296*((Y:Int) % 4294967296):=Int.mul_nonneg (by omega) (by omega)
 have p2:0≤(X:Int) / 4294967296*((Y:Int) % 4294967296):=Int.mul_nonneg (by omega) (by omega)
 have p3:0≤(X:Int) % 4294967296*((Y:Int) / 4294967296):=Int.mul_nonneg (by omega) (by omega)
 have p4:0≤(X:Int) / 4294967296*((Y:Int) / 4294967296):=Int.mul_nonneg (by omega) (by omega)
 have p5:(X:Int)*Y / 18446744073709551616≤18446744073709551615:=by
  have:(X:Int)*Y≤18446744073709551615*18446744073709551615:=Int.mul_le_mul (by omega) (by omega) (by omega) (by omega)
  omega
 have p6:0≤(X:Int)*Y:=Int.mul_nonneg (by omega) (by omega)
 simp (disch:=(try simp only[lZ]);omega) only[aZ,z0Q,z6V,y38 (X:Int) 4294967295 32 (by omega) rfl (by omega) (by omega),y38 (Y:Int) 4294967295 32 (by omega) rfl (by omega) (by omega),y8l,e32,e32']
 generalize hA:(X:Int) / 4294967296*((Y:Int) / 4294967296)=A at *
 generalize hB:(X:Int) / 4294967296*((Y:Int) % 4294967296)=B at *
 generalize hC:(X:Int) % 4294967296*((Y:Int) / 4294967296)=C at *
 generalize hD:(X:Int) % 4294967296*((Y:Int) % 4294967296)=D at *
 simp (disch:=(try simp only[lZ]);omega) only[aZ,zj8,y8l,e32,e32',y38 (B+D / 4294967296) 4294967295 32 (by omega) rfl (by omega) (by omega),hA,hC,n4,yz4]
 exact y8 (Fz.refl rfl) ⟨rfl,rfl⟩
theorem yI6(lo y:Int)(hlo:0≤lo∧lo≤18446744073709551615)(hy:0<y∧y≤18446744073709551615):VR P false z0R [.v (.int .u64 0),.v (.int .u64 lo),.v (.int .u64 y)] [] (isR (.tup [.v (.int .u64 (lo / y)),.v (.int .u64 (lo % y))])):=by
 refine yo4 (by simp) (.inr rfl) fun _ _=>?_
 have h1:lo.tdiv y=lo / y:=Int.tdiv_eq_ediv_of_nonneg hlo.1
 have h2:lo.tmod y=lo % y:=Int.tmod_eq_emod_of_nonneg hlo.1
 have h3:0≤lo / y:=Int.ediv_nonneg hlo.1 (by omega)
 have h4:lo / y≤lo:=Int.ediv_le_self y hlo.1
 simp (disch:=(try simp only[lZ]);omega) only[aZ,z0S,z6X,h1,h2,zj8,yz5]
 exact y8 (Fz.refl rfl) ⟨rfl,rfl⟩
def zN9(t:Int)(ws:List Int):Int :=
 if t<0∨70368744177664<t then 1 else if(zl3 ws).2≠0 then(zl3 ws).2 else if(zl3 ws).1=0∧0<t then 10 else 0
def zO0(t:Int)(ws:List Int):List Int×Int:=if zN9 t ws≠0 then([],zN9 t ws)else(zx2 t ws,0)
structure SplitOk(t:Int)(ws:List Int):Prop where
 t0:0≤t∧t≤70368744177664
 len:1≤ws.length∧ws.length≤512
 w:∀x∈ws,0≤x∧x≤1125899906842624
 sum:ws.sum≤1125899906842624
 pos:ws.sum=0→t=0
 we:zl3 ws=(ws.sum,0)
theorem zB7{t:Int}{ws:List Int}(h:zN9 t ws=0):SplitOk t ws:=by
 unfold zN9 at h
 split at h
 ·cases h
 rename_i h1
 split at h
 ·contradiction
 rename_i h2
 split at h
 ·cases h
 rename_i h3
 have h2':=Classical.not_not.1 h2
 have hw:zl3 ws=if ws.length<1∨512<ws.length then(0,1)else if ∃i,i<ws.length∧badW (ws.getD i 0)then(0,1)else if ws.sum≤1125899906842624 then(ws.sum,0)else(0,2):=rfl
 by_cases a1:ws.length<1∨512<ws.length
 ·rw[if_pos a1]at hw;rw[hw]at h2';cases h2'
 rw[if_neg a1]at hw
 by_cases a2:∃i,i<ws.length∧badW (ws.getD i 0)
 ·rw[if_pos a2]at hw;rw[hw]at h2';cases h2'
 rw[if_neg a2]at hw
 by_cases a3:ws.sum≤1125899906842624
 ·rw[if_pos a3]at hw
  rw[hw]at h3
  refine⟨by omega,by omega,fun x hx=>?_,a3,fun hz=>?_,hw⟩
  ·obtain⟨i,h4,rfl⟩:=zr4 hx
   apply Classical.byContradiction;intro hc
   exact a2 ⟨i,h4,by unfold badW;omega⟩
  ·simp only at h3;omega
 ·rw[if_neg a3]at hw;rw[hw]at h2';cases h2'
theorem SplitOk.sp{t:Int}{ws:List Int}(h:SplitOk t ws):SpOk t ws:=⟨h.t0.1,fun w hw=>(h.w w hw).1,fun hc=>by have:=h.len;rw[hc]at this;simp at this,h.pos⟩
theorem w_le{t:Int}{ws:List Int}(h:SplitOk t ws){i:Nat}(hi:i<ws.length):0≤ws.getD i 0∧ws.getD i 0≤ws.sum:=by
 have h1:=h.w _ (zg0 hi)
 refine⟨h1.1,?_⟩
 have:=z7M ((List.replicate ws.length 0).set i (ws.getD i 0)) ws (by simp) fun l hl=>by
  simp only[List.length_set,List.length_replicate]at hl
  rw[X5]
  split
  ·rename_i hc;rw[hc.1];exact Int.le_refl _
  ·have:=(h.w _ (zg0 hl)).1
   simpa [List.getD_eq_getElem?_getD,hl]using this
 rw[z1f _ _ _ (by simpa using hi)]at this
 have e1:(List.replicate ws.length (0:Int)).sum=0:=by
  induction ws.length with
  | zero=>rfl
  | succ n ih=>rw[List.replicate_succ,List.sum_cons,ih];rfl
 have e2:(List.replicate ws.length (0:Int)).getD i 0=0:=by simp [List.getD_eq_getElem?_getD,hi]
 omega
theorem q_le{t:Int}{ws:List Int}(h:SplitOk t ws){i:Nat}(hi:i<ws.length):0≤t*ws.getD i 0 / ws.sum∧t*ws.getD i 0 / ws.sum≤t:=by
 have h1:=w_le h hi
 have h0:=h.t0.1
 refine⟨Int.ediv_nonneg (Int.mul_nonneg h0 h1.1) (by omega),?_⟩
 by_cases hz:ws.sum=0
 ·rw[hz,Int.ediv_zero];exact h0
 ·have:t*ws.getD i 0≤t*ws.sum:=Int.mul_le_mul_of_nonneg_left h1.2 h0
  have:=Int.ediv_le_ediv (show 0<ws.sum by omega) this
  rwa [Int.mul_ediv_cancel _ hz]at this
theorem r_le{t:Int}{ws:List Int}(h:SplitOk t ws){i:Nat}(hi:i<ws.length):0≤t*ws.getD i 0 % ws.sum∧t*ws.getD i 0 % ws.sum≤1125899906842624:=by
 have h1:=w_le h hi
 by_cases hz:ws.sum=0
 ·rw[hz,h.pos hz];simp
 ·have:=Int.emod_lt_of_pos (t*ws.getD i 0) (show 0<ws.sum by omega)
  have:=Int.emod_nonneg (t*ws.getD i 0) hz
  have:=h.sum
  omega
def zO1(t:Int)(ws:List Int)(k:Nat):List Int:=(quos t ws).take k++List.replicate (ws.length-k) 0
def z2n(t:Int)(ws:List Int)(k:Nat):List Int:=(rems t ws).take k++List.replicate (ws.length-k) 0
def z2o(n k:Nat):List Int:=rng 0 k++List.replicate (n-k) 0
theorem z9y(l:List Int)(n k:Nat)(y:Int)(hl:l.length=n)(hk:k<n)(hy:y=l.getD k 0):(l.take k++List.replicate (n-k) 0).set k y=l.take (k+1)++List.replicate (n-(k+1)) 0:=by
 subst hy
 have h1:(l.take k).length=k:=by simp;omega
 rw[List.set_append_right _ _ (by omega),h1,Nat.sub_self,show n-k=(n-(k+1))+1 by omega,List.replicate_succ,List.set_cons_zero,zT1 l k (by omega)]
 simp
theorem z4T(l:List Int)(n k:Nat)(hl:l.length=n)(hk:k≤n):(l.take k++List.replicate (n-k) (0:Int)).length=n:=by simp;omega
theorem yB7(l:List Int)(n k:Nat)(hl:l.length=n)(hk:k<n):(l.take k++List.replicate (n-k) (0:Int)).getD k 0=0:=by
 have h1:(l.take k).length=k:=by simp;omega
 rw[zw0,h1,if_neg (by omega),Nat.sub_self]
 simp [List.getD_eq_getElem?_getD,show 0<n-k by omega]
theorem yp6{t:Int}{ws:List Int}(h:SplitOk t ws):∀k,k≤ws.length→0≤sumK (quos t ws) k∧sumK (quos t ws) k≤t:=fun k hk=>by
 have hl:=zn5 t ws
 have hnn:∀x∈quos t ws,0≤x:=fun x hx=>by
  obtain⟨i,h2,rfl⟩:=zr4 hx
  exact y3U h.sp i (by omega)
 have h1:=z0X ((quos t ws).take k) fun x hx=>hnn x (List.mem_of_mem_take hx)
 have h2:=z0X ((quos t ws).drop k) fun x hx=>hnn x (List.mem_of_mem_drop hx)
 have h3:(quos t ws).sum=((quos t ws).take k).sum+((quos t ws).drop k).sum:=by rw[← List.sum_append,List.take_append_drop]
 have h4:=(yo8 h.sp).1
 unfold sumK;omega
theorem z9z(n k:Nat)(hk:k≤n):z2o n k=(rng 0 n).take k++List.replicate (n-k) 0:=by
 unfold z2o
 congr 1
 have:rng 0 n=rng 0 k++rng (0+k) (n-k):=by rw[← yB0];congr 1;omega
 rw[this,List.take_append_of_le_length (by rw[zq5];exact Nat.le_refl _),List.take_of_length_le (by rw[zq5];exact Nat.le_refl _)]
theorem yY4{t:Int}{ws:List Int}(h:t<0∨70368744177664<t):zO0 t ws=([],1):=by unfold zO0 zN9;rw[if_pos h];rfl
theorem y6a{t:Int}{ws:List Int}(h:¬(t<0∨70368744177664<t))(h2:(zl3 ws).2≠0):zO0 t ws=([],(zl3 ws).2):=by unfold zO0 zN9;rw[if_neg h,if_pos h2,if_pos h2]
theorem z7N{t:Int}{ws:List Int}(h:¬(t<0∨70368744177664<t))(h2:¬(zl3 ws).2≠0)(h3:(zl3 ws).1=0∧0<t):zO0 t ws=([],10):=by unfold zO0 zN9;rw[if_neg h,if_neg h2,if_pos h3];rfl
theorem xr3{t:Int}{ws:List Int}(h:¬(t<0∨70368744177664<t))(h2:¬(zl3 ws).2≠0)(h3:¬((zl3 ws).1=0∧0<t)):zN9 t ws=0∧zO0 t ws=(zx2 t ws,0):=by
 have:zN9 t ws=0:=by unfold zN9;rw[if_neg h,if_neg h2,if_neg h3]
 exact⟨this,by unfold zO0;rw[if_neg (by omega)]⟩
theorem yp7{p0 q0:List Int}(hp:∀i,i<p0.length→0≤p0.getD i 0∧p0.getD i 0≤70368744177664):∀k i,i<p0.length→0≤(rd p0 q0 k).1.getD i 0∧(rd p0 q0 k).1.getD i 0≤70368744177664+k
 | 0,i,hi=>by have:=hp i hi;simp only[rd];omega
 | k+1,i,hi=>by
  have ih:=yp7 (q0:=q0) hp k
  simp only[rd,inc]
  rw[X5]
  split
  ·rename_i h
   rw[h.1]
   have:=ih i hi;omega
  ·have:=ih i hi;omega
def y8m(t:Int)(ws:List Int):A→List Blk→Prop:=fun r G=>((zO0 t ws).2≠0∧r=.tup [.fs true [],.v (.int .i64 (zO0 t ws).2)]∧G=[])∨((zO0 t ws).2=0∧∃ver,r=.tup [.sl 0 ver 1 0 ws.length,.v (.int .i64 0)]∧G=[⟨ver,ints (zx2 t ws)⟩])
theorem yf3{w:Bool}(t:Int)(ws:List Int):VR P false z4A [.v (.int .i64 t),.fs w (ints ws)] [] (y8m t ws):=by
 refine ye9 (by simp) (.inr rfl) fun _ _=>?_
 simp (disch:=(try simp only[lZ]);omega) only[aZ,zS3,z4C]
 refine y2 (fun h1=>?_) (fun h1=>?_)
 ·simp (disch:=(try simp only[lZ]);omega) only[aZ,zy6]
  exact z1c (.inl ⟨by rw[yY4 h1];decide,by rw[yY4 h1],rfl⟩)
 simp (disch:=(try simp only[lZ]);omega) only[aZ]
 refine(yI5 (w:=w) ws).same (by simp (disch:=first|omega|simp (disch:=omega) only[aG]) only[fZ]) rfl (z7 ?_)
 unfold zw1
 simp (disch:=(try simp only[lZ]);omega) only[aZ]
 refine y2 (fun h2=>?_) (fun h2=>?_)
 ·simp (disch:=(try simp only[lZ]);omega) only[aZ,zy6]
  exact z1c (.inl ⟨by rw[y6a h1 h2];exact h2,by rw[y6a h1 h2],rfl⟩)
 simp (disch:=(try simp only[lZ]);omega) only[aZ]
 refine y2 (fun h3=>?_) (fun h3=>?_)
 ·simp (disch:=(try simp only[lZ]);omega) only[aZ,zy6]
  exact z1c (.inl ⟨by rw[z7N h1 h2 h3];decide,by rw[z7N h1 h2 h3],rfl⟩)
 obtain⟨e0,e1⟩:=xr3 h1 h2 h3
 have ok:=zB7 e0
 obtain⟨t0,t1⟩:=ok.t0
 obtain⟨n0,n1⟩:=ok.len
 have hws:=ok.sum
 have hl:=zn5 t ws
 have hl2:=zr5 t ws
 have hlb:=yo8 ok.sp
 rw[ok.we]
 have p0:ints []=([]:List A):=rfl
 simp (disch:=(try simp only[lZ]);omega) only[aZ]
 refine AWP.loopP (α:=Nat×Nat×Nat) z9e (fun s=>s.1≤ws.length) (fun s=>[(2,.v (.slice none 0 0)),(3,.v (.int .i64 0)),(6,.sl 0 s.2.1 1 0 s.1),(7,.sl 1 s.2.2 1 0 s.1),(8,.v (.int .i64 (t-sumK (quos t ws) s.1))),(9,.v (.int .i64 s.1))]) (fun s=>[(0,⟨s.2.1,ints ((quos t ws).take s.1)⟩),(1,⟨s.2.2,ints ((rems t ws).take s.1)⟩)]) (fun s=>ws.length-s.1) (0,0,0) (by simp) ?_ ?_
 ·simp only[List.take_zero,z0Z,Int.sub_zero,p0]
  try simp (disch:=(try simp only[lZ]);omega) only[aZ]
  exact Cut.of' 2 rfl (by omega) (by simp (disch:=first|omega|simp (disch:=omega) only[aG]) only[fZ]) (by simp (disch:=first|omega|simp (disch:=omega) only[aG]) only[fZ])
 rintro⟨k,v1,v2⟩ hk
 simp only at hk
 have hsb:=yp6 ok k hk
 have lt1:((quos t ws).take k).length=k:=by simp;omega
 have lt2:((rems t ws).take k).length=k:=by simp;omega
 by_cases hlt:k<ws.length
 ·have hsb1:=yp6 ok (k+1) (by omega)
  have hs1:=z4S (quos t ws) k (by omega)
  have g1:(quos t ws).getD k 0=t*ws.getD k 0 / ws.sum:=zk4 _ _ _ hlt
  have g2:(rems t ws).getD k 0=t*ws.getD k 0 % ws.sum:=zk4 _ _ _ hlt
  have ts1:=zT1 (quos t ws) k (by omega)
  have ts2:=zT1 (rems t ws) k (by omega)
  rw[g1]at hs1 ts1
  rw[g2]at ts2
  have hwl:=w_le ok hlt
  have tk1:∀l:List Int,(l.take k).take k=l.take k:=fun l=>by rw[List.take_take,Nat.min_self]
  have sa:(t-sumK (quos t ws) k)-t*ws.getD k 0 / ws.sum=t-sumK (quos t ws) (k+1):=by omega
  have hqr:=q_le ok hlt
  simp (disch:=(try simp only[lZ]);omega) only[aZ]
  refine y2 (fun h4=>?_) (fun h4=>?_)
  ·simp (disch:=(try simp only[lZ]);omega) only[aZ]
   refine(y4a t (ws.getD k 0) ws.sum ⟨t0,t1⟩ hwl ⟨by omega,hws⟩).same (by simp (disch:=first|omega|simp (disch:=omega) only[aG]) only[fZ]) rfl (z7 ?_)
   unfold zw1
   simp (disch:=(try simp only[lZ]);omega) only[aZ,tk1,sa]
   refine⟨(k+1,v1+1,v2+1),by simp only;omega,by simp only;omega,?_⟩
   simp only[ts1,ts2]
   try simp (disch:=(try simp only[lZ]);omega) only[aZ]
   exact Cut.of' 2 rfl (by omega) (by simp (disch:=first|omega|simp (disch:=omega) only[aG]) only[fZ,tk1]) (by simp (disch:=first|omega|simp (disch:=omega) only[aG]) only[fZ])
  ·have hz:ws.sum=0:=by omega
   have z1:t*ws.getD k 0 / ws.sum=0:=by rw[hz,Int.ediv_zero]
   have z2:t*ws.getD k 0 % ws.sum=0:=by rw[hz,ok.pos hz];simp
   rw[z1]at sa ts1
   rw[z2]at ts2
   simp (disch:=(try simp only[lZ]);omega) only[aZ,tk1,sa]
   refine⟨(k+1,v1+1,v2+1),by simp only;omega,by simp only;omega,?_⟩
   simp only[ts1,ts2]
   try simp (disch:=(try simp only[lZ]);omega) only[aZ]
   exact Cut.of' 2 rfl (by omega) (by simp (disch:=first|omega|simp (disch:=omega) only[aG]) only[fZ,tk1]) (by simp (disch:=first|omega|simp (disch:=omega) only[aG]) only[fZ])
 ·have hke:k=ws.length:=by omega
  subst hke
  have tq:(quos t ws).take ws.length=quos t ws:=List.take_of_length_le (by omega)
  have tr:(rems t ws).take ws.length=rems t ws:=List.take_of_length_le (by omega)
  have sq:sumK (quos t ws) ws.length=(quos t ws).sum:=by rw[← hl,z1g]
  have hlN:t-(quos t ws).sum=(zD0 t ws:Nat):=by unfold zD0;omega
  have hpb:∀i,i<(quos t ws).length→0≤(quos t ws).getD i 0∧(quos t ws).getD i 0≤70368744177664:=fun i hi=>by
   rw[show(quos t ws).getD i 0=t*ws.getD i 0 / ws.sum from zk4 _ _ _ (by omega)]
   have:=q_le ok (i:=i) (by omega);omega
  rw[tq,tr,sq,hlN]
  have hln:zD0 t ws<ws.length:=by omega
  clear hsb lt1 lt2 hlt
  simp (disch:=(try simp only[lZ]);omega) only[aZ]
  refine AWP.loopP (α:=Nat) z9f (fun m=>m≤zD0 t ws) (fun m=>[(8,.v (.int .i64 (zD0 t ws-m)))]) (fun m=>[(0,⟨v1,ints (rd (quos t ws) (rems t ws) m).1⟩),(1,⟨v2,ints (rd (quos t ws) (rems t ws) m).2⟩)]) (fun m=>zD0 t ws-m) 0 (Nat.zero_le _) ?_ ?_
  ·simp only[rd,Int.sub_zero,Int.natCast_zero]
   exact Cut.of' 2 rfl (by omega) (by simp (disch:=first|omega|simp (disch:=omega) only[aG]) only[fZ]) (by simp (disch:=first|omega|simp (disch:=omega) only[aG]) only[fZ])
  rintro m hm
  have hrl:=zD4 (quos t ws) (rems t ws) m
  have hrb:=yp7 (q0:=rems t ws) hpb m
  obtain⟨p,hp⟩:∃p,p=(rd (quos t ws) (rems t ws) m).1:=⟨_,rfl⟩
  obtain⟨q,hq⟩:∃q,q=(rd (quos t ws) (rems t ws) m).2:=⟨_,rfl⟩
  rw[← hp,← hq]at hrl ⊢
  rw[← hp]at hrb
  by_cases hml:m<zD0 t ws
  ·have hrs:rd (quos t ws) (rems t ws) (m+1)=(inc p (zc6 q),q.set (zc6 q) (-1)):=by rw[rd,← hp,← hq]
   simp (disch:=(try simp only[lZ]);omega) only[aZ]
   refine AWP.loopP (α:=Nat) z9g (fun i=>1≤i∧i≤q.length) (fun i=>[(12,.v (.int .i64 (zj5 q i))),(13,.v (.int .i64 i))]) (fun _=>[]) (fun i=>q.length-i) 1 ⟨Nat.le_refl _,by omega⟩ ?_ ?_
   ·simp only[y3T]
    exact Cut.of' 2 rfl (by omega) (by simp (disch:=first|omega|simp (disch:=omega) only[aG]) only[fZ]) (by simp (disch:=first|omega|simp (disch:=omega) only[aG]) only[fZ])
   rintro i ⟨hi1,hi2⟩
   have hbl:=zy8 q i (by omega)
   by_cases hil:i<q.length
   ·have hbs:zj5 q (i+1)=if q.getD (zj5 q i) 0<q.getD i 0 then i else zj5 q i:=rfl
    simp (disch:=(try simp only[lZ]);omega) only[aZ]
    refine y2 (fun h5=>?_) (fun h5=>?_)
    ·rw[if_pos h5]at hbs
     simp (disch:=(try simp only[lZ]);omega) only[aZ]
     refine⟨i+1,⟨by omega,by omega⟩,by omega,?_⟩
     rw[hbs]
     exact Cut.of' 2 rfl (by omega) (by simp (disch:=first|omega|simp (disch:=omega) only[aG]) only[fZ]) (by simp (disch:=first|omega|simp (disch:=omega) only[aG]) only[fZ])
    ·rw[if_neg h5]at hbs
     simp (disch:=(try simp only[lZ]);omega) only[aZ]
     refine⟨i+1,⟨by omega,by omega⟩,by omega,?_⟩
     rw[hbs]
     exact Cut.of' 2 rfl (by omega) (by simp (disch:=first|omega|simp (disch:=omega) only[aG]) only[fZ]) (by simp (disch:=first|omega|simp (disch:=omega) only[aG]) only[fZ])
   ·have hie:i=q.length:=by omega
    subst hie
    have hbI:zj5 q q.length=zc6 q:=rfl
    rw[hbI]at hbl ⊢
    have hb:=hrb (zc6 q) (by omega)
    have hinc:p.set (zc6 q) (p.getD (zc6 q) 0+1)=inc p (zc6 q):=rfl
    simp (disch:=(try simp only[lZ]);omega) only[aZ,hinc]
    refine⟨m+1,by omega,by omega,?_⟩
    rw[hrs]
    try simp (disch:=(try simp only[lZ]);omega) only[aZ]
    exact Cut.of' 2 rfl (by omega) (by simp (disch:=first|omega|simp (disch:=omega) only[aG]) only[fZ]) (by simp (disch:=first|omega|simp (disch:=omega) only[aG]) only[fZ,Int.sub_sub])
  ·have hme:m=zD0 t ws:=by omega
   subst hme
   have hpR:p=zx2 t ws:=hp
   simp (disch:=(try simp only[lZ]);omega) only[aZ,zy6]
   refine⟨.tup [.sl 0 v1 1 0 ws.length,.v (.int .i64 0)],[⟨v1,ints (zx2 t ws)⟩],Cut.of' 1 rfl (by omega) ⟨rfl,by rw[hpR];exact FzL.refl (zl4 _ _),trivial⟩ ⟨Fz.refl rfl,trivial⟩,.inr ⟨by rw[e1],v1,rfl,rfl⟩⟩
theorem y4b(x:Int):VR P false zf9 [.v (.int .i64 x)] [] (isR (.v (.bool (decide (badM x))))):=by
 refine z2S (by simp) (.inr rfl) fun _ _=>?_
 simp (disch:=(try simp only[lZ]);omega) only[aZ,aM,aBl,zm8,zG2,z4D]
 exact y1 ⟨rfl,rfl⟩
theorem yY5{xs:List Int}{k:Nat}(hk:k<xs.length)(hb:∀i,i<k→¬badM (xs.getD i 0))(hp:badM (xs.getD k 0)):idxE badM xs=k:=zH3 (p:=badM) 0 hk hb hp
theorem yB8{xs:List Int}(hb:∀i,i<xs.length→¬badM (xs.getD i 0)):idxE badM xs=-1:=zn4 (p:=badM) 0 hb
theorem yI7{w:Bool}(xs:List Int)(hl:xs.length<1000000000):VR P false zG3 [.fs w (ints xs),.fn zf9 []] [] (isR (.v (.int .i64 (idxE badM xs)))):=by
 refine z2U (by simp) (.inr rfl) fun _ _=>?_
 simp (disch:=(try simp only[lZ]);omega) only[aZ,aM,aBl,zm9,zG5]
 refine AWP.loopP z1v (fun k:Nat=>k≤xs.length∧∀i,i<k→¬badM (xs.getD i 0)) (fun k=>[(2,.v (.int .i64 0)),(3,.v (.int .i64 k))]) (fun _=>[]) (fun k=>xs.length-k) 0 ⟨by omega,fun i hi=>by omega⟩ (by refine Cut.of' (0) ?_ (by omega) ?_ ?_<;>simp (disch:=first|omega|simp (disch:=omega) only[aG,aM,aBl]) only[fZ,aM,aBl]) ?_
 rintro k ⟨hk,hb⟩
 by_cases hlt:k<xs.length
 ·simp (disch:=(try simp only[lZ]);omega) only[aZ,aM,aBl]
  refine⟨by kernel_rfl,?_⟩
  refine(y4b (xs.getD k 0)).same (by simp (disch:=first|omega|simp (disch:=omega) only[aG,aM,aBl]) only[fZ,aM,aBl]) rfl (z7 ?_)
  simp (disch:=(try simp only[lZ]);omega) only[aZ,aM,aBl]
  refine y2 (fun h3=>?_) (fun h3=>?_)
  ·simp (disch:=(try simp only[lZ]);omega) only[aZ,aM,aBl,zG6]
   exact y1 ⟨by rw[yY5 hlt hb h3],rfl⟩
  ·simp (disch:=(try simp only[lZ]);omega) only[aZ,aM,aBl]
   refine⟨k+1,⟨by omega,fun i hi=>?_⟩,by omega,(by refine Cut.of' (0) ?_ (by omega) ?_ ?_<;>simp (disch:=first|omega|simp (disch:=omega) only[aG,aM,aBl]) only[fZ,aM,aBl])⟩
   rcases Nat.lt_succ_iff_lt_or_eq.1 hi with h|rfl
   ·exact hb i h
   ·exact h3
 ·simp (disch:=(try simp only[lZ]);omega) only[aZ,aM,aBl,zG6]
  exact y1 ⟨by rw[yB8 fun i hi=>hb i (by omega)],rfl⟩
theorem yf4{w:Bool}(xs:List Int)(hl:xs.length<1000000000):VR P false zs9 [.fs w (ints xs),.fn zf9 []] [] (isR (.v (.bool (decide (0≤idxE badM xs))))):=by
 refine zY7 (by simp) (.inr rfl) fun _ _=>?_
 simp (disch:=(try simp only[lZ]);omega) only[aZ,aM,aBl,zh1,zt1]
 refine(yI7 (w:=w) xs hl).same (by simp (disch:=first|omega|simp (disch:=omega) only[aG,aM,aBl]) only[fZ,aM,aBl]) rfl (z7 ?_)
 simp (disch:=(try simp only[lZ]);omega) only[aZ,aM,aBl,z0K]
 exact y1 ⟨vdec Iff.rfl,rfl⟩
theorem yI8{w v:Bool}(l:List (List Int))(hl:l.length<1000000000):VR P false zv4 [.fs w (rows v l)] [] (isR (.v (.int .i64 (zc5 mixE l)))):=by
 refine z5K (by simp) (.inr rfl) fun _ _=>?_
 simp (disch:=(try simp only[lZ]);omega) only[aZ,aM,aBl,zv5,zX4]
 refine AWP.loopP z4m (fun k:Nat=>k≤l.length∧∀i,i<k→mixE (l.getD i [])=0) (fun k=>[(1,.v (.int .i64 0)),(2,.v (.int .i64 k))]) (fun _=>[]) (fun k=>l.length-k) 0 ⟨by omega,fun i hi=>by omega⟩ (by refine Cut.of' (0) ?_ (by omega) ?_ ?_<;>simp (disch:=first|omega|simp (disch:=omega) only[aG,aM,aBl]) only[fZ,aM,aBl]) ?_
 rintro k ⟨hk,hb⟩
 by_cases hlt:k<l.length
 ·simp (disch:=(try simp only[lZ]);omega) only[aZ,aM,aBl]
  refine y2 (fun h3=>?_) (fun h3=>?_)
  ·have he:=yX4 (xs:=l.getD k []) (by omega)
   simp (disch:=(try simp only[lZ]);omega) only[aZ,aM,aBl,zv6]
   exact y1 ⟨by rw[za7 [] hlt hb (by omega),he],rfl⟩
  ·simp (disch:=(try simp only[lZ]);omega) only[aZ,aM,aBl]
   refine(yf4 (w:=v) (l.getD k []) (by omega)).same (by simp (disch:=first|omega|simp (disch:=omega) only[aG,aM,aBl]) only[fZ,aM,aBl]) rfl (z7 ?_)
   simp (disch:=(try simp only[lZ]);omega) only[aZ,aM,aBl]
   refine y2 (fun h4=>?_) (fun h4=>?_)
   ·have he:=yX5 (xs:=l.getD k []) (by omega) h4
    simp (disch:=(try simp only[lZ]);omega) only[aZ,aM,aBl,zv6]
    exact y1 ⟨by rw[za7 [] hlt hb (by omega),he],rfl⟩
   ·have he:=yA5 (xs:=l.getD k []) (by omega) h4
    simp (disch:=(try simp only[lZ]);omega) only[aZ,aM,aBl]
    refine⟨k+1,⟨by omega,fun i hi=>?_⟩,by omega,(by refine Cut.of' (0) ?_ (by omega) ?_ ?_<;>simp (disch:=first|omega|simp (disch:=omega) only[aG,aM,aBl]) only[fZ,aM,aBl])⟩
    rcases Nat.lt_succ_iff_lt_or_eq.1 hi with h|rfl
    ·exact hb i h
    ·exact he
 ·simp (disch:=(try simp only[lZ]);omega) only[aZ,aM,aBl,zv6]
  exact y1 ⟨by rw[w7 [] fun i hi=>hb i (by omega)],rfl⟩
theorem y06(xs:List Int):zc5 mixE [xs]=mixE xs:=by
 unfold zc5 zc5;split
 ·rfl
 ·rename_i h;exact(Classical.not_not.1 h).symm
theorem z6Y(xs:List Int):VR P false zv4 [.fs false [.fs false (ints xs)]] [] (isR (.v (.int .i64 (mixE xs)))):=by
 have h:=yI8 (w:=false) (v:=false) [xs] (by simp)
 rw[y06]at h;exact h
theorem yI9{w:Bool}(xs:List Int):VR P false z4n [.fs w (ints xs)] [] (isR (.v (.int .i64 (mixE xs)))):=by
 refine ye3 (by simp) (.inr rfl) fun _ _=>?_
 simp (disch:=(try simp only[lZ]);omega) only[aZ,aM,aBl,zR7,z4p]
 refine y2 (fun h1=>?_) (fun h1=>?_)
 ·simp (disch:=(try simp only[lZ]);omega) only[aZ,aM,aBl,zR8]
  exact y1 ⟨by rw[yX4 (by omega)],rfl⟩
 simp (disch:=(try simp only[lZ]);omega) only[aZ,aM,aBl]
 refine AWP.loopP z9a (fun k:Nat=>k≤xs.length∧∀i,i<k→¬badM (xs.getD i 0)) (fun k=>[(1,.v (.int .i64 0)),(2,.v (.int .i64 k))]) (fun _=>[]) (fun k=>xs.length-k) 0 ⟨by omega,fun i hi=>by omega⟩ (by refine Cut.of' (0) ?_ (by omega) ?_ ?_<;>simp (disch:=first|omega|simp (disch:=omega) only[aG,aM,aBl]) only[fZ,aM,aBl]) ?_
 rintro k ⟨hk,hb⟩
 by_cases hlt:k<xs.length
 ·simp (disch:=(try simp only[lZ]);omega) only[aZ,aM,aBl]
  refine y2 (fun h3=>?_) (fun h3=>?_)
  ·simp (disch:=(try simp only[lZ]);omega) only[aZ,aM,aBl,zR8]
   exact y1 ⟨by rw[yX5 (by omega) (by rw[yY5 hlt hb h3];omega)],rfl⟩
  ·simp (disch:=(try simp only[lZ]);omega) only[aZ,aM,aBl]
   refine⟨k+1,⟨by omega,fun i hi=>?_⟩,by omega,(by refine Cut.of' (0) ?_ (by omega) ?_ ?_<;>simp (disch:=first|omega|simp (disch:=omega) only[aG,aM,aBl]) only[fZ,aM,aBl])⟩
   rcases Nat.lt_succ_iff_lt_or_eq.1 hi with h|rfl
   ·exact hb i h
   ·exact h3
 ·simp (disch:=(try simp only[lZ]);omega) only[aZ,aM,aBl,zR8]
  exact y1 ⟨by rw[yA5 (by omega) (by rw[yB8 fun i hi=>hb i (by omega)];omega)],rfl⟩
theorem zY0{w:Bool}(xs:List Int):VR P false zW3 [.fs w (ints xs)] [] (isR (zw1 (totM xs))):=by
 refine z5B (by simp) (.inr rfl) fun _ _=>?_
 unfold zw1
 simp (disch:=(try simp only[lZ]);omega) only[aZ,aM,aBl,zu9,zW5]
 refine(z6Y xs).use (yA2 (by simp [zZ,blkAt,za5,A.cells,A.one,Lft.one,retA,A.bdL,A.bd,zl4])) rfl (z7 ?_)
 simp (disch:=(try simp only[lZ]);omega) only[aZ,aM,aBl]
 refine y2 (fun h1=>?_) (fun h1=>?_)
 ·rw[z7L h1]
  simp (disch:=(try simp only[lZ]);omega) only[aZ,aM,aBl,zW6]
  exact y8 (Fz.refl rfl) ⟨rfl,rfl⟩
 have h1:=Classical.not_not.1 h1
 have h2:=yo6 h1
 have h3:=(zB6.1 h1).1
 rw[z9t h1]
 simp (disch:=(try simp only[lZ]);omega) only[aZ,aM,aBl]
 refine AWP.loopP z30 (fun k:Nat=>k≤xs.length) (fun k=>[(4,.v (.int .i64 (sumT xs k))),(5,.v (.int .i64 k))]) (fun _=>[]) (fun k=>xs.length-k) 0 (by omega) ?_ ?_
 ·rw[ze8]
  exact Cut.of' 1 rfl (by omega) (by simp (disch:=first|omega|simp (disch:=omega) only[aG,aM,aBl]) only[fZ,aM,aBl]) (by simp (disch:=first|omega|simp (disch:=omega) only[aG,aM,aBl]) only[fZ,aM,aBl])
 rintro k hk
 have h4:=h2 k hk
 by_cases hlt:k<xs.length
 ·have h5:=zT0 h1 k hlt
  simp (disch:=(try simp only[lZ]);omega) only[aZ,aM,aBl]
  refine⟨k+1,by omega,by omega,?_⟩
  rw[ze9 xs k hlt]
  exact Cut.of' 1 rfl (by omega) (by simp (disch:=first|omega|simp (disch:=omega) only[aG,aM,aBl]) only[fZ,aM,aBl]) (by simp (disch:=first|omega|simp (disch:=omega) only[aG,aM,aBl]) only[fZ,aM,aBl])
 ·have hke:k=xs.length:=by omega
  subst hke
  simp (disch:=(try simp only[lZ]);omega) only[aZ,aM,aBl,zW6,zd8]
  exact y8 (Fz.refl rfl) ⟨rfl,rfl⟩
theorem yJ0{w:Bool}(xs:List Int):VR P false z31 [.fs w (ints xs)] [] (isR (zw1 (totM xs))):=by
 refine yd8 (by simp) (.inr rfl) fun _ _=>?_
 unfold zw1
 simp (disch:=(try simp only[lZ]);omega) only[aZ,aM,aBl,zR2,z33]
 refine(yI9 (w:=w) xs).same (by simp (disch:=first|omega|simp (disch:=omega) only[aG,aM,aBl]) only[fZ,aM,aBl]) rfl (z7 ?_)
 simp (disch:=(try simp only[lZ]);omega) only[aZ,aM,aBl]
 refine y2 (fun h1=>?_) (fun h1=>?_)
 ·rw[z7L h1]
  simp (disch:=(try simp only[lZ]);omega) only[aZ,aM,aBl,z34]
  exact y8 (Fz.refl rfl) ⟨rfl,rfl⟩
 have h1:=Classical.not_not.1 h1
 have h2:=yo6 h1
 have h3:=(zB6.1 h1).1
 rw[z9t h1]
 simp (disch:=(try simp only[lZ]);omega) only[aZ,aM,aBl]
 refine AWP.loopP z8X (fun k:Nat=>k≤xs.length) (fun k=>[(4,.v (.int .i64 (sumT xs k))),(5,.v (.int .i64 k))]) (fun _=>[]) (fun k=>xs.length-k) 0 (by omega) ?_ ?_
 ·rw[ze8]
  exact Cut.of' 0 rfl (by omega) (by simp (disch:=first|omega|simp (disch:=omega) only[aG,aM,aBl]) only[fZ,aM,aBl]) (by simp (disch:=first|omega|simp (disch:=omega) only[aG,aM,aBl]) only[fZ,aM,aBl])
 rintro k hk
 have h4:=h2 k hk
 by_cases hlt:k<xs.length
 ·have h5:=zT0 h1 k hlt
  simp (disch:=(try simp only[lZ]);omega) only[aZ,aM,aBl]
  refine⟨k+1,by omega,by omega,?_⟩
  rw[ze9 xs k hlt]
  exact Cut.of' 0 rfl (by omega) (by simp (disch:=first|omega|simp (disch:=omega) only[aG,aM,aBl]) only[fZ,aM,aBl]) (by simp (disch:=first|omega|simp (disch:=omega) only[aG,aM,aBl]) only[fZ,aM,aBl])
 ·have hke:k=xs.length:=by omega
  subst hke
  simp (disch:=(try simp only[lZ]);omega) only[aZ,aM,aBl,z34,zd8]
  exact y8 (Fz.refl rfl) ⟨rfl,rfl⟩
theorem z5Y{w:Bool}(xs:List Int)(i:Int):VR P false zL4 [.fs w (ints xs),.v (.int .i64 i)] [] (isR (zw1 (purM xs i))):=by
 refine z3Z (by simp) (.inr rfl) fun _ _=>?_
 have ht:=zY0 (w:=w) xs
 unfold zw1 at ht ⊢
 simp (disch:=(try simp only[lZ]);omega) only[aZ,aM,aBl,zp5,zL6]
 refine ht.same (by simp (disch:=first|omega|simp (disch:=omega) only[aG,aM,aBl]) only[fZ,aM,aBl]) (by simp (disch:=first|omega|simp (disch:=omega) only[aG,aM,aBl]) only[fZ,aM,aBl]) (z7 ?_)
 by_cases h1:mixE xs=0
 case neg =>
  rw[z7L h1,yX6 h1]
  simp (disch:=(try simp only[lZ]);omega) only[aZ,aM,aBl,zh8]
  exact y8 (Fz.refl rfl) ⟨rfl,rfl⟩
 rw[z9t h1]
 have h2:=z9u h1
 simp (disch:=(try simp only[lZ]);omega) only[aZ,aM,aBl]
 refine y2 (fun h3=>?_) (fun h3=>?_)
 ·rw[yX7 h1 h3]
  simp (disch:=(try simp only[lZ]);omega) only[aZ,aM,aBl,zh8]
  exact y8 (Fz.refl rfl) ⟨rfl,rfl⟩
 simp (disch:=(try simp only[lZ]);omega) only[aZ,aM,aBl]
 refine y2 (fun h4=>?_) (fun h4=>?_)
 ·rw[yX8 h1 h3 h4]
  simp (disch:=(try simp only[lZ]);omega) only[aZ,aM,aBl,zh8]
  exact y8 (Fz.refl rfl) ⟨rfl,rfl⟩
 rw[y3N h1 h3 h4]
 have h5:=zN8 h1 i.toNat
 have h6:0≤xs.getD i.toNat 0*1000 / xs.sum:=Int.ediv_nonneg (by omega) h2.1
 have h7:xs.getD i.toNat 0*1000 / xs.sum≤xs.getD i.toNat 0*1000:=Int.ediv_le_self _ (by omega)
 simp (disch:=(try simp only[lZ]);omega) only[aZ,aM,aBl,zh8]
 exact y8 (Fz.refl rfl) ⟨rfl,rfl⟩
theorem yB9{w:Bool}(xs:List Int)(i:Int):VR P false z1N [.fs w (ints xs),.v (.int .i64 i)] [] (isR (zw1 (purM xs i))):=by
 refine z8D (by simp) (.inr rfl) fun _ _=>?_
 have ht:=yJ0 (w:=w) xs
 unfold zw1 at ht ⊢
 simp (disch:=(try simp only[lZ]);omega) only[aZ,aM,aBl,zI2,z1P]
 refine ht.same (by simp (disch:=first|omega|simp (disch:=omega) only[aG,aM,aBl]) only[fZ,aM,aBl]) (by simp (disch:=first|omega|simp (disch:=omega) only[aG,aM,aBl]) only[fZ,aM,aBl]) (z7 ?_)
 by_cases h1:mixE xs=0
 case neg =>
  rw[z7L h1,yX6 h1]
  simp (disch:=(try simp only[lZ]);omega) only[aZ,aM,aBl,zr2]
  exact y8 (Fz.refl rfl) ⟨rfl,rfl⟩
 rw[z9t h1]
 have h2:=z9u h1
 simp (disch:=(try simp only[lZ]);omega) only[aZ,aM,aBl]
 refine y2 (fun h3=>?_) (fun h3=>?_)
 ·rw[yX7 h1 h3]
  simp (disch:=(try simp only[lZ]);omega) only[aZ,aM,aBl,zr2]
  exact y8 (Fz.refl rfl) ⟨rfl,rfl⟩
 simp (disch:=(try simp only[lZ]);omega) only[aZ,aM,aBl]
 refine y2 (fun h4=>?_) (fun h4=>?_)
 ·rw[yX8 h1 h3 h4]
  simp (disch:=(try simp only[lZ]);omega) only[aZ,aM,aBl,zr2]
  exact y8 (Fz.refl rfl) ⟨rfl,rfl⟩
 rw[y3N h1 h3 h4]
 have h5:=zN8 h1 i.toNat
 have h6:0≤xs.getD i.toNat 0*1000 / xs.sum:=Int.ediv_nonneg (by omega) h2.1
 have h7:xs.getD i.toNat 0*1000 / xs.sum≤xs.getD i.toNat 0*1000:=Int.ediv_le_self _ (by omega)
 simp (disch:=(try simp only[lZ]);omega) only[aZ,aM,aBl,zr2]
 exact y8 (Fz.refl rfl) ⟨rfl,rfl⟩
def y9n(t:Int)(ws:List Int):Prop:=0<ws.sum→∀i,i<ws.length→VR P false z0R [.v (.int .u64 (t*ws.getD i 0 / 18446744073709551616)),.v (.int .u64 (IntKind.wrap .u64 (t*ws.getD i 0))),.v (.int .u64 ws.sum)] [] (isR (.tup [.v (.int .u64 (t*ws.getD i 0 / ws.sum)),.v (.int .u64 (t*ws.getD i 0 % ws.sum))]))
theorem yJ1{t:Int}{ws:List Int}(h:SplitOk t ws)(hs:∀i,i<ws.length→t*ws.getD i 0≤18446744073709551615):y9n t ws:=fun hp i hi=>by
 have h1:=hs i hi
 have h2:0≤t*ws.getD i 0:=Int.mul_nonneg h.t0.1 (w_le h hi).1
 have:=h.sum
 rw[show t*ws.getD i 0 / 18446744073709551616=0 by omega,zj8 h2 h1]
 exact yI6 _ _ ⟨h2,h1⟩ ⟨hp,by omega⟩
theorem yf5{w:Bool}(t:Int)(ws:List Int)(hd:zN9 t ws=0→y9n t ws):VR P false z4F [.v (.int .i64 t),.fs w (ints ws)] [] (y8m t ws):=by
 refine yf1 (by simp) (.inr rfl) fun _ _=>?_
 simp (disch:=(try simp only[lZ]);omega) only[aZ,zS5,z4H]
 refine y2 (fun h1=>?_) (fun h1=>?_)
 ·simp (disch:=(try simp only[lZ]);omega) only[aZ,zy7]
  exact z1c (.inl ⟨by rw[yY4 h1];decide,by rw[yY4 h1],rfl⟩)
 simp (disch:=(try simp only[lZ]);omega) only[aZ]
 refine(y05 (w:=w) ws).same (by simp (disch:=first|omega|simp (disch:=omega) only[aG]) only[fZ]) rfl (z7 ?_)
 unfold zw1
 simp (disch:=(try simp only[lZ]);omega) only[aZ]
 refine y2 (fun h2=>?_) (fun h2=>?_)
 ·simp (disch:=(try simp only[lZ]);omega) only[aZ,zy7]
  exact z1c (.inl ⟨by rw[y6a h1 h2];exact h2,by rw[y6a h1 h2],rfl⟩)
 simp (disch:=(try simp only[lZ]);omega) only[aZ]
 refine y2 (fun h3=>?_) (fun h3=>?_)
 ·simp (disch:=(try simp only[lZ]);omega) only[aZ,zy7]
  exact z1c (.inl ⟨by rw[z7N h1 h2 h3];decide,by rw[z7N h1 h2 h3],rfl⟩)
 obtain⟨e0,e1⟩:=xr3 h1 h2 h3
 have hd:=hd e0
 have ok:=zB7 e0
 obtain⟨t0,t1⟩:=ok.t0
 obtain⟨n0,n1⟩:=ok.len
 have hws:=ok.sum
 have hl:=zn5 t ws
 have hl2:=zr5 t ws
 have hlb:=yo8 ok.sp
 rw[ok.we]
 simp (disch:=(try simp only[lZ]);omega) only[aZ]
 refine AWP.loopP (α:=Nat) z9n (fun k=>k≤ws.length) (fun k=>[(8,.v (.int .i64 (t-sumK (quos t ws) k))),(9,.v (.int .i64 k))]) (fun k=>[(0,⟨0,ints (zO1 t ws k)⟩),(1,⟨0,ints (z2n t ws k)⟩),(2,⟨0,ints (z2o ws.length k)⟩)]) (fun k=>ws.length-k) 0 (by omega) ?_ ?_
 ·have z1:zO1 t ws 0=List.replicate ws.length 0:=by simp [zO1]
  have z2:z2n t ws 0=List.replicate ws.length 0:=by simp [z2n]
  have z3:z2o ws.length 0=List.replicate ws.length 0:=by simp [z2o,rng]
  simp only[z1,z2,z3,z0Z,Int.sub_zero]
  try simp (disch:=(try simp only[lZ]);omega) only[aZ]
  exact Cut.of' 4 rfl (by omega) (by simp (disch:=first|omega|simp (disch:=omega) only[aG]) only[fZ]) (by simp (disch:=first|omega|simp (disch:=omega) only[aG]) only[fZ])
 rintro k hk
 have hsb:=yp6 ok k hk
 have f1:(zO1 t ws k).length=ws.length:=z4T _ _ _ hl hk
 have f2:(z2n t ws k).length=ws.length:=z4T _ _ _ hl2 hk
 have f3:(z2o ws.length k).length=ws.length:=by rw[z9z _ _ hk];exact z4T _ _ _ (zq5 _ _) hk
 by_cases hlt:k<ws.length
 ·have hsb1:=yp6 ok (k+1) (by omega)
  have hs1:=z4S (quos t ws) k (by omega)
  have g1:(quos t ws).getD k 0=t*ws.getD k 0 / ws.sum:=zk4 _ _ _ hlt
  have g2:(rems t ws).getD k 0=t*ws.getD k 0 % ws.sum:=zk4 _ _ _ hlt
  rw[g1]at hs1
  have u1:(zO1 t ws k).set k (t*ws.getD k 0 / ws.sum)=zO1 t ws (k+1):=z9y _ _ _ _ hl hlt g1.symm
  have u2:(z2n t ws k).set k (t*ws.getD k 0 % ws.sum)=z2n t ws (k+1):=z9y _ _ _ _ hl2 hlt g2.symm
  have u3:(z2o ws.length k).set k (k:Int)=z2o ws.length (k+1):=by
   rw[z9z _ _ hk,z9z _ _ (by omega)]
   exact z9y _ _ _ _ (zq5 _ _) hlt (by rw[yp3 _ _ _ hlt,Nat.zero_add])
  have f1':(zO1 t ws (k+1)).length=ws.length:=z4T _ _ _ hl (by omega)
  have u4:(zO1 t ws (k+1)).getD k 0=t*ws.getD k 0 / ws.sum:=by
   rw[← u1,X5,if_pos ⟨rfl,by omega⟩]
  have hwl:=w_le ok hlt
  have hqr:=q_le ok hlt
  have hrr:=r_le ok hlt
  have sa:(t-sumK (quos t ws) k)-t*ws.getD k 0 / ws.sum=t-sumK (quos t ws) (k+1):=by omega
  simp (disch:=(try simp only[lZ]);omega) only[aZ,Int.toNat_natCast,u3]
  refine y2 (fun h4=>?_) (fun h4=>?_)
  ·have hdk:=hd (by omega) k hlt
   simp (disch:=(try simp only[lZ]);omega) only[aZ,zj8]
   refine(y59 t (ws.getD k 0) ⟨t0,by omega⟩ ⟨hwl.1,by omega⟩).same (by simp (disch:=first|omega|simp (disch:=omega) only[aG]) only[fZ]) rfl (z7 ?_)
   simp (disch:=(try simp only[lZ]);omega) only[aZ,zj8]
   refine hdk.same (by simp (disch:=first|omega|simp (disch:=omega) only[aG]) only[fZ]) rfl (z7 ?_)
   simp (disch:=(try simp only[lZ]);omega) only[aZ,Int.toNat_natCast,u1,u2,u4,sa]
   refine⟨?_,?_⟩
   all_goals
    refine⟨k+1,by omega,by omega,?_⟩
    exact Cut.of' 4 rfl (by omega) (by simp (disch:=first|omega|simp (disch:=omega) only[aG]) only[fZ]) (by simp (disch:=first|omega|simp (disch:=omega) only[aG]) only[fZ])
  ·have hz:ws.sum=0:=by omega
   have z1:t*ws.getD k 0 / ws.sum=0:=by rw[hz,Int.ediv_zero]
   have z2:t*ws.getD k 0 % ws.sum=0:=by rw[hz,ok.pos hz];simp
   rw[z1]at sa u1
   rw[z2]at u2
   have u5:(zO1 t ws k).getD k 0=0:=yB7 _ _ _ hl hlt
   have v1:(zO1 t ws k).set k 0=zO1 t ws k:=z9v (by simp) fun i hi=>by
    rw[X5];split
    ·rename_i h;rw[← h.1,u5]
    ·rfl
   have v2:(z2n t ws k).set k 0=z2n t ws k:=z9v (by simp) fun i hi=>by
    rw[X5];split
    ·rename_i h;rw[← h.1];exact(yB7 _ _ _ hl2 hlt).symm
    ·rfl
   rw[v1]at u1
   rw[v2]at u2
   simp (disch:=(try simp only[lZ]);omega) only[aZ,Int.toNat_natCast,u5,sa]
   refine⟨k+1,by omega,by omega,?_⟩
   rw[← u1,← u2]
   exact Cut.of' 4 rfl (by omega) (by simp (disch:=first|omega|simp (disch:=omega) only[aG]) only[fZ]) (by simp (disch:=first|omega|simp (disch:=omega) only[aG]) only[fZ])
 ·have hke:k=ws.length:=by omega
  subst hke
  have tq:zO1 t ws ws.length=quos t ws:=by
   unfold zO1;rw[List.take_of_length_le (by omega),Nat.sub_self];simp
  have tr:z2n t ws ws.length=rems t ws:=by
   unfold z2n;rw[List.take_of_length_le (by omega),Nat.sub_self];simp
  have to:z2o ws.length ws.length=rng 0 ws.length:=by
   unfold z2o;rw[Nat.sub_self];simp
  have sq:sumK (quos t ws) ws.length=(quos t ws).sum:=by rw[← hl,z1g]
  have hlN:t-(quos t ws).sum=(zD0 t ws:Nat):=by unfold zD0;omega
  have hln:zD0 t ws<ws.length:=by omega
  have hQ:QOk (rems t ws):=fun i hi=>by
   rw[show(rems t ws).getD i 0=t*ws.getD i 0 % ws.sum from zk4 _ _ _ (by omega)]
   exact r_le ok (by omega)
  have hs:=yp5 (p:=quos t ws) hQ (by omega)
  unfold HS at hs
  rw[hl2]at hs
  have hpb:∀i,i<(quos t ws).length→0≤(quos t ws).getD i 0∧(quos t ws).getD i 0≤70368744177664:=fun i hi=>by
   rw[show(quos t ws).getD i 0=t*ws.getD i 0 / ws.sum from zk4 _ _ _ (by omega)]
   have:=q_le ok (i:=i) (by omega);omega
  rw[tq,tr,to,sq,hlN]
  clear f1 f2 f3 hsb
  simp (disch:=(try simp only[lZ]);omega) only[aZ]
  refine hs.mono ?_
  rintro r H' ⟨rfl,T,T1,T2,T3,rfl⟩
  refine z7 ?_
  have hsrt:=yB2 (p0:=quos t ws) (q0:=rems t ws) (T:=T) (by omega) (fun i hi=>(hQ i hi).1) (by omega) (by rw[hl2];exact T2) T3
  have hrb:=yp7 (q0:=rems t ws) hpb
  simp (disch:=(try simp only[lZ]);omega) only[aZ]
  refine AWP.loopP (α:=Nat) z9o (fun j=>j≤zD0 t ws) (fun j=>[(20,.v (.int .i64 j))]) (fun j=>[(0,⟨0,ints (incs (quos t ws) (T.take j))⟩)]) (fun j=>zD0 t ws-j) 0 (Nat.zero_le _) ?_ ?_
  ·simp only[List.take_zero,incs,List.foldl_nil]
   exact Cut.of' 4 rfl (by omega) (by simp (disch:=first|omega|simp (disch:=omega) only[aG]) only[fZ]) (by simp (disch:=first|omega|simp (disch:=omega) only[aG]) only[fZ])
  rintro j hj
  have il:=y57 (quos t ws) (T.take j)
  by_cases hjl:j<zD0 t ws
  ·have hx:=T2 _ (zg0 (l:=T) (i:=j) (by omega))
   have his:=yB1 (quos t ws) T j (by omega)
   have hb:=hrb j (T.getD j 0).toNat (by omega)
   rw[(hsrt j (by omega)).1]at hb
   unfold inc at his
   simp (disch:=(try simp only[lZ]);omega) only[aZ,Int.toNat_natCast]
   refine⟨j+1,by omega,by omega,?_⟩
   rw[his]
   exact Cut.of' 4 rfl (by omega) (by simp (disch:=first|omega|simp (disch:=omega) only[aG]) only[fZ]) (by simp (disch:=first|omega|simp (disch:=omega) only[aG]) only[fZ])
  ·have hje:j=zD0 t ws:=by omega
   subst hje
   have hpR:zx2 t ws=incs (quos t ws) (T.take (zD0 t ws)):=(hsrt _ (by omega)).1
   simp (disch:=(try simp only[lZ]);omega) only[aZ,zy7]
   exact⟨.tup [.sl 0 0 1 0 ws.length,.v (.int .i64 0)],[⟨0,ints (zx2 t ws)⟩],Cut.of' 1 rfl (by omega) ⟨rfl,by rw[hpR];exact FzL.refl (zl4 _ _),trivial⟩ ⟨Fz.refl rfl,trivial⟩,.inr ⟨by rw[e1],0,rfl,rfl⟩⟩
end Go.Proofs.YtcppaddgclkekaaGreat
namespace Go.Proofs.YtcppaddgclkekaaGreat
open Go Go.Lft
set_option linter.unusedSimpArgs false
set_option linter.unusedVariables false
def isB(m o:Int)(b:Bt):Prop:=b.fr=m∧b.ot=o
instance(m o:Int):DecidablePred (isB m o):=fun b=>by unfold isB;infer_instance
def zg2(bs:List Bt)(m o:Int):Int:=idxE (isB m o) bs
def zw2(ms:List Mc)(b:Bt):Int :=
 if b.fr<0∨(ms.length:Int)≤b.fr∨b.ot<0∨(y3 (ms.getD b.fr.toNat []):Int)≤b.ot∨b.to<0∨(ms.length:Int)≤b.to then 7
 else if b.ln<1∨16<b.ln then 1 else 0
def y4c(bs:List Bt):Prop:=∃k,k<bs.length∧zg2 bs (bs.getD k b0).fr (bs.getD k b0).ot≠k
def yf6(ms:List Mc)(bs:List Bt):Prop:=∃i,i<ms.length∧∃o,o<y3 (ms.getD i [])∧zg2 bs i o<0
instance(bs:List Bt):Decidable (y4c bs):=by unfold y4c;infer_instance
instance(ms:List Mc)(bs:List Bt):Decidable (yf6 ms bs):=by unfold yf6;infer_instance
def zi3(ms:List Mc)(bs:List Bt):Int :=
 if zc5 (zw2 ms) bs≠0 then zc5 (zw2 ms) bs else if y4c bs then 6 else 0
def y6(p:Pl):Int :=
 if p.mat<1∨16<p.mat then 1 else if p.ms.length=0 then 10 else if 24<p.ms.length∨48<p.bs.length then 8
 else if zc5 (fun m=>w5 m p.mat) p.ms≠0 then zc5 (fun m=>w5 m p.mat) p.ms
 else if zi3 p.ms p.bs≠0 then zi3 p.ms p.bs
 else if yf6 p.ms p.bs then 3
 else if p.fd<0∨(p.ms.length:Int)≤p.fd then 7
 else if y3 (p.ms.getD p.fd.toNat [])=0 then 13 else 0
structure POk(p:Pl):Prop where
 m1:1≤p.mat
 m2:p.mat≤16
 n1:1≤p.ms.length
 n2:p.ms.length≤24
 b2:p.bs.length≤48
 mc:∀m∈p.ms,MOk m p.mat
 bt:∀b∈p.bs,0≤b.fr∧b.fr<p.ms.length∧0≤b.ot∧b.ot<y3 (p.ms.getD b.fr.toNat [])∧0≤b.to∧b.to<p.ms.length∧1≤b.ln∧b.ln≤16
 un:∀k,k<p.bs.length→zg2 p.bs (p.bs.getD k b0).fr (p.bs.getD k b0).ot=k
 op:∀i,i<p.ms.length→∀o,o<y3 (p.ms.getD i [])→0≤zg2 p.bs i o
 fd:0≤p.fd∧p.fd<p.ms.length
 fo:y3 (p.ms.getD p.fd.toNat [])≠0
theorem y6b{ms:List Mc}{b:Bt}(h:zw2 ms b=0):0≤b.fr∧b.fr<ms.length∧0≤b.ot∧b.ot<y3 (ms.getD b.fr.toNat [])∧0≤b.to∧b.to<ms.length∧1≤b.ln∧b.ln≤16:=by
 unfold zw2 at h
 split at h
 ·cases h
 ·split at h
  ·cases h
  ·omega
theorem y7{p:Pl}(h:y6 p=0):POk p:=by
 unfold y6 at h
 split at h
 ·cases h
 rename_i h1
 split at h
 ·cases h
 rename_i h2
 split at h
 ·cases h
 rename_i h3
 split at h
 ·contradiction
 rename_i h4
 split at h
 ·contradiction
 rename_i h5
 split at h
 ·cases h
 rename_i h6
 split at h
 ·cases h
 rename_i h7
 split at h
 ·cases h
 rename_i h8
 have h5:=Classical.not_not.1 h5
 unfold zi3 at h5
 split at h5
 ·contradiction
 rename_i h9
 split at h5
 ·cases h5
 rename_i h10
 refine⟨by omega,by omega,by omega,by omega,by omega,fun m hm=>zN7 (zi1 (Classical.not_not.1 h4) m hm),fun b hb=>y6b (zi1 (Classical.not_not.1 h9) b hb),fun k hk=>?_,fun i hi o ho=>?_,by omega,h8⟩
 ·apply Classical.byContradiction;intro hc;exact h10 ⟨k,hk,hc⟩
 ·apply Classical.byContradiction;intro hc;exact h6 ⟨i,hi,o,ho,by omega⟩
theorem z7O{bs:List Bt}{m o:Int}(h:0≤zg2 bs m o):(zg2 bs m o).toNat<bs.length∧(bs.getD (zg2 bs m o).toNat b0).fr=m∧(bs.getD (zg2 bs m o).toNat b0).ot=o:=by
 have h1:=z5S (isB m o) bs
 have h2:=z0W (p:=isB m o) b0 h
 unfold zg2 at h ⊢
 exact⟨by omega,h2⟩
theorem yY6(bs:List Bt)(m o:Int):-1≤zg2 bs m o∧zg2 bs m o<bs.length:=z5S (isB m o) bs
def outB(p:Pl)(mt:Int)(at0:Nat):Nat:=(zg2 p.bs at0 (zf0 (p.ms.getD at0 []) mt)).toNat
def nx(p:Pl)(mt:Int)(at0:Nat):Nat:=(p.bs.getD (outB p mt at0) b0).to.toNat
def lx(p:Pl)(mt:Int)(at0:Nat):Int:=(p.bs.getD (outB p mt at0) b0).ln
def binN(p:Pl)(at0:Nat):Prop:=y3 (p.ms.getD at0 [])=0
instance(p:Pl):DecidablePred (binN p):=fun i=>by unfold binN;infer_instance
def wayR(p:Pl)(mt:Int):Nat→Nat→Int→Int×Bool
 | 0,at0,n=>if binN p at0 then(n,true)else(0,false)
 | f+1,at0,n=>if binN p at0 then(n,true)else wayR p mt f (nx p mt at0) (n+lx p mt at0)
def posR(p:Pl)(mt:Int)(m:Nat):Nat→Nat
 | 0=>m
 | k+1=>nx p mt (posR p mt m k)
def farR(p:Pl)(mt:Int)(m:Nat):Nat→Int
 | 0=>0
 | k+1=>farR p mt m k+lx p mt (posR p mt m k)
theorem z6Z{p:Pl}(h:POk p){mt:Int}(h0:0≤mt)(h1:mt<p.mat){i:Nat}(hi:i<p.ms.length)(hb:¬binN p i):
    0≤zg2 p.bs i (zf0 (p.ms.getD i []) mt)∧outB p mt i<p.bs.length∧(p.bs.getD (outB p mt i) b0).fr=i∧nx p mt i<p.ms.length∧(p.bs.getD (outB p mt i) b0).to=nx p mt i∧1≤lx p mt i∧lx p mt i≤16:=by
  have hm:=h.mc _ (x3 [] hi)
  obtain⟨g1,g2,g3⟩:=z4O hm hb h0 h1
  have h2:0≤zg2 p.bs i (zf0 (p.ms.getD i []) mt):=by
    have:=h.op i hi (zf0 (p.ms.getD i []) mt).toNat (by omega)
    rw[Int.toNat_of_nonneg g1]at this;exact this
  obtain⟨h3,h4,h5⟩:=z7O h2
  have h6:=h.bt _ (x3 b0 h3)
  have h7:(p.bs.getD (outB p mt i) b0).to=nx p mt i:=by unfold nx outB;omega
  refine⟨h2,h3,h4,?_,h7,h6.2.2.2.2.2.2.1,h6.2.2.2.2.2.2.2⟩
  unfold outB at h7;omega
theorem z5Z{p:Pl}(h:POk p){mt:Int}(h0:0≤mt)(h1:mt<p.mat){m:Nat}(hm:m<p.ms.length):∀(k:Nat),(∀i,i<k→¬binN p (posR p mt m i))→posR p mt m k<p.ms.length
 | 0,_=>hm
 | k+1,hb=>(z6Z h h0 h1 (z5Z h h0 h1 hm k fun i hi=>hb i (by omega)) (hb k (by omega))).2.2.2.1
theorem z50{p:Pl}(h:POk p){mt:Int}(h0:0≤mt)(h1:mt<p.mat){m:Nat}(hm:m<p.ms.length):∀(k:Nat),(∀i,i<k→¬binN p (posR p mt m i))→0≤farR p mt m k∧farR p mt m k≤16*k
 | 0,_=>by simp [farR]
 | k+1,hb=>by
  have h2:=z50 h h0 h1 hm k fun i hi=>hb i (by omega)
  have h3:=z6Z h h0 h1 (z5Z h h0 h1 hm k fun i hi=>hb i (by omega)) (hb k (by omega))
  simp only[farR];omega
theorem z9A{p:Pl}{mt:Int}{m:Nat}:∀(k f:Nat),(∀i,i<k→¬binN p (posR p mt m i))→wayR p mt (k+f) m 0=wayR p mt f (posR p mt m k) (farR p mt m k)
 | 0,f,_=>by simp [posR,farR]
 | k+1,f,hb=>by
  rw[show k+1+f=k+(f+1) by omega,z9A k (f+1) fun i hi=>hb i (by omega)]
  simp only[wayR,posR,farR]
  rw[if_neg (hb k (by omega))]
theorem y6c{p:Pl}{mt:Int}{f at0:Nat}{n:Int}(h:binN p at0):wayR p mt f at0 n=(n,true):=by
 cases f<;>simp [wayR,h]
theorem yC0{p:Pl}{mt:Int}{m:Nat}(h:∀i,¬binN p (posR p mt m i))(f:Nat):wayR p mt f m 0=(0,false):=by
 have:=z9A (p:=p) (mt:=mt) (m:=m) f 0 fun i _=>h i
 rw[Nat.add_zero]at this
 rw[this];simp [wayR,h f]
theorem xz8{p:Pl}{mt:Int}{m i j:Nat}(hij:i<j)(he:posR p mt m i=posR p mt m j):∀k,∃l,l<j∧posR p mt m k=posR p mt m l:=by
 intro k
 induction k with
 | zero=>exact⟨0,by omega,rfl⟩
 | succ k ih =>
  obtain⟨l,h1,h2⟩:=ih
  by_cases hl:l+1<j
  ·exact⟨l+1,hl,by simp only[posR,h2]⟩
  ·have:l+1=j:=by omega
   exact⟨i,hij,by rw[he,← this];simp only[posR,h2]⟩
theorem yi7{p:Pl}{mt:Int}{m i j:Nat}(hij:i<j)(he:posR p mt m i=posR p mt m j)(hb:∀l,l<j→¬binN p (posR p mt m l)):∀k,¬binN p (posR p mt m k):=fun k=>by
 obtain⟨l,h1,h2⟩:=xz8 hij he k
 rw[h2];exact hb l h1
theorem y4d:∀(n:Nat) (f:Nat→Nat),(∀i,i≤n→f i<n)→∃i j,i<j∧j≤n∧f i=f j
 | 0,f,h=>by have:=h 0 (by omega);omega
 | n+1,f,h=>by
  by_cases hx:∃i,i≤n∧f i=f (n+1)
  ·obtain⟨i,h1,h2⟩:=hx;exact⟨i,n+1,by omega,by omega,h2⟩
  ·have hne:∀i,i≤n→f i≠f (n+1):=fun i hi hc=>hx ⟨i,hi,hc⟩
   obtain⟨i,j,h1,h2,h3⟩:=y4d n (fun i=>if f i=n then f (n+1)else f i) fun i hi=>by
    have a1:=h i (by omega)
    have a2:=h (n+1) (by omega)
    have a3:=hne i hi
    split<;>omega
   have a1:=hne i (by omega)
   have a2:=hne j h2
   refine⟨i,j,h1,by omega,?_⟩
   split at h3<;>split at h3<;>omega
theorem y6d{p:Pl}(h:POk p){mt:Int}(h0:0≤mt)(h1:mt<p.mat){m:Nat}(hm:m<p.ms.length)(hb:∀i,i<p.ms.length→¬binN p (posR p mt m i)):∀k,¬binN p (posR p mt m k):=by
 obtain⟨i,j,h2,h3,h4⟩:=y4d p.ms.length (posR p mt m) fun i hi=>z5Z h h0 h1 hm i fun l hl=>hb l (by omega)
 exact yi7 h2 h4 fun l hl=>hb l (by omega)
theorem yp8{p:Pl}{mt:Int}{m k f:Nat}(hk:k≤f)(hb:∀i,i<k→¬binN p (posR p mt m i))(he:binN p (posR p mt m k)):wayR p mt f m 0=(farR p mt m k,true):=by
 rw[show f=k+(f-k) by omega,z9A k _ hb,y6c he]
theorem xz9{Q:Nat→Prop}(h:∃k,Q k):∃k,Q k∧∀i,i<k→¬Q i:=by
 obtain⟨k,hk⟩:=h
 induction k using Nat.strongRecOn with
 | ind k ih =>
  by_cases hx:∃i,i<k∧Q i
  ·obtain⟨i,h1,h2⟩:=hx;exact ih i h1 h2
  ·exact⟨k,hk,fun i hi hq=>hx ⟨i,hi,hq⟩⟩
theorem z1h{p:Pl}(h:POk p){mt:Int}(h0:0≤mt)(h1:mt<p.mat){m:Nat}(hm:m<p.ms.length):
    (∃k,k<p.ms.length∧(∀i,i<k→¬binN p (posR p mt m i))∧binN p (posR p mt m k)∧wayR p mt p.ms.length m 0=(farR p mt m k,true)) ∨
    ((∀i,¬binN p (posR p mt m i))∧wayR p mt p.ms.length m 0=(0,false)):=by
  by_cases hx:∃k,k<p.ms.length∧binN p (posR p mt m k)
  · obtain⟨k0,g1,g2⟩:=hx
    obtain⟨k,k1,k2⟩:=xz9 (Q:=fun k=>binN p (posR p mt m k)) ⟨k0,g2⟩
    have hle:k≤k0:=Nat.le_of_not_lt fun hc=>k2 k0 hc g2
    exact .inl ⟨k,by omega,k2,k1,yp8 (by omega) k2 k1⟩
  · have hn:∀i,i<p.ms.length→¬binN p (posR p mt m i):=fun i hi hc=>hx ⟨i,hi,hc⟩
    have:=y6d h h0 h1 hm hn
    exact .inr ⟨this,yC0 this _⟩
theorem t1:y6 ⟨1,[[[900,100]],[[]]],[⟨0,0,1,2⟩,⟨0,1,0,3⟩],0⟩=0:=by decide +kernel
end Go.Proofs.YtcppaddgclkekaaGreat
namespace Go.Proofs.YtcppaddgclkekaaGreat
open Go Go.Lft
set_option linter.unusedSimpArgs false
set_option linter.unusedVariables false
attribute [local congr] Q7 Q8 Q9 za1 Z9 Y0 za2 Y2 Y3 Y4 za3 za0
theorem W5{w:Bool}(m:Mc):VR P false z17 [mcA w m] [] (isR (.v (.int .i64 (y3 m)))):=by
 refine z8W (by simp) (.inr rfl) fun _ _=>?_
 unfold mcA mcC
 simp (disch:=(try simp only[lZ]);omega) only[aZ,aM,zJ1,z19]
 refine y2 (fun h1=>?_) (fun h1=>?_)
 ·simp (disch:=(try simp only[lZ]);omega) only[aZ,aM,z2a]
  refine y1 ⟨?_,rfl⟩
  have:m=[]:=List.eq_nil_of_length_eq_zero (by omega)
  subst this;rfl
 ·simp (disch:=(try simp only[lZ]);omega) only[aZ,aM,z2a]
  exact y1 ⟨rfl,rfl⟩
theorem zf1{w:Bool}(m:Mc):VR P false z6I [mcA w m] [] (isR (.v (.int .i64 (y3 m)))):=by
 refine yn5 (by simp) (.inr rfl) fun _ _=>?_
 unfold mcA mcC
 simp (disch:=(try simp only[lZ]);omega) only[aZ,aM,z0B,z6K]
 refine y2 (fun h1=>?_) (fun h1=>?_)
 ·simp (disch:=(try simp only[lZ]);omega) only[aZ,aM,z6L]
  refine y1 ⟨?_,rfl⟩
  have:m=[]:=List.eq_nil_of_length_eq_zero (by omega)
  subst this;rfl
 ·simp (disch:=(try simp only[lZ]);omega) only[aZ,aM,z6L]
  exact y1 ⟨rfl,rfl⟩
theorem yC1{m:Mc}{mat:Int}(h:¬(mat<0∨(m.length:Int)≤mat)){k:Nat}(hk:k<(m.getD mat.toNat []).length)(hb:∀i,i<k→¬0<(m.getD mat.toNat []).getD i 0)(hp:0<(m.getD mat.toNat []).getD k 0):zf0 m mat=k:=by
 unfold zf0;rw[if_neg h]
 exact zH3 (p:=fun r:Int=>0<r) 0 hk hb hp
theorem yi8{m:Mc}{mat:Int}(h:¬(mat<0∨(m.length:Int)≤mat))(hb:∀i,i<(m.getD mat.toNat []).length→¬0<(m.getD mat.toNat []).getD i 0):zf0 m mat=-1:=by
 unfold zf0;rw[if_neg h]
 exact zn4 (p:=fun r:Int=>0<r) 0 hb
theorem z2p{w:Bool}(m:Mc)(mat:Int)(hl:(m.getD mat.toNat []).length<1000000000):VR P false z2h [mcA w m,.v (.int .i64 mat)] [] (isR (.v (.int .i64 (zf0 m mat)))):=by
 refine z9i (by simp) (.inr rfl) fun _ _=>?_
 unfold mcA mcC
 simp (disch:=(try simp only[lZ]);omega) only[aZ,aM,zJ5,z2j]
 refine y2 (fun h1=>?_) (fun h1=>?_)
 ·simp (disch:=(try simp only[lZ]);omega) only[aZ,aM,zJ6]
  exact y1 ⟨by unfold zf0;rw[if_pos h1],rfl⟩
 simp (disch:=(try simp only[lZ]);omega) only[aZ,aM]
 refine AWP.loopP z7y (fun k:Nat=>k≤(m.getD mat.toNat []).length∧∀i,i<k→¬0<(m.getD mat.toNat []).getD i 0) (fun k=>[(2,.v (.int .i64 0)),(4,.v (.int .i64 k))]) (fun _=>[]) (fun k=>(m.getD mat.toNat []).length-k) 0 ⟨by omega,fun i hi=>by omega⟩ (by refine Cut.of' (1) ?_ (by omega) ?_ ?_<;>simp (disch:=first|omega|simp (disch:=omega) only[aG,aM]) only[fZ,aM]) ?_
 rintro k ⟨hk,hb⟩
 by_cases hlt:k<(m.getD mat.toNat []).length
 ·simp (disch:=(try simp only[lZ]);omega) only[aZ,aM]
  refine y2 (fun h3=>?_) (fun h3=>?_)
  ·simp (disch:=(try simp only[lZ]);omega) only[aZ,aM,zJ6]
   exact y1 ⟨by rw[yC1 h1 hlt hb h3],rfl⟩
  ·simp (disch:=(try simp only[lZ]);omega) only[aZ,aM]
   refine⟨k+1,⟨by omega,fun i hi=>?_⟩,by omega,(by refine Cut.of' (1) ?_ (by omega) ?_ ?_<;>simp (disch:=first|omega|simp (disch:=omega) only[aG,aM]) only[fZ,aM])⟩
   rcases Nat.lt_succ_iff_lt_or_eq.1 hi with h|rfl
   ·exact hb i h
   ·exact h3
 ·simp (disch:=(try simp only[lZ]);omega) only[aZ,aM,zJ6]
  exact y1 ⟨by rw[yi8 h1 fun i hi=>hb i (by omega)],rfl⟩
theorem yi9{w:Bool}(m:Mc)(mat:Int)(hl:(m.getD mat.toNat []).length<1000000000):VR P false z6Q [mcA w m,.v (.int .i64 mat)] [] (isR (.v (.int .i64 (zf0 m mat)))):=by
 refine yo0 (by simp) (.inr rfl) fun _ _=>?_
 unfold mcA mcC
 simp (disch:=(try simp only[lZ]);omega) only[aZ,aM,z0I,z6S]
 refine y2 (fun h1=>?_) (fun h1=>?_)
 ·simp (disch:=(try simp only[lZ]);omega) only[aZ,aM,z0J]
  exact y1 ⟨by unfold zf0;rw[if_pos h1],rfl⟩
 simp (disch:=(try simp only[lZ]);omega) only[aZ,aM]
 refine AWP.loopP ye8 (fun k:Nat=>k≤(m.getD mat.toNat []).length∧∀i,i<k→¬0<(m.getD mat.toNat []).getD i 0) (fun k=>[(2,.v (.int .i64 0)),(4,.v (.int .i64 k))]) (fun _=>[]) (fun k=>(m.getD mat.toNat []).length-k) 0 ⟨by omega,fun i hi=>by omega⟩ (by refine Cut.of' (1) ?_ (by omega) ?_ ?_<;>simp (disch:=first|omega|simp (disch:=omega) only[aG,aM]) only[fZ,aM]) ?_
 rintro k ⟨hk,hb⟩
 by_cases hlt:k<(m.getD mat.toNat []).length
 ·simp (disch:=(try simp only[lZ]);omega) only[aZ,aM]
  refine y2 (fun h3=>?_) (fun h3=>?_)
  ·simp (disch:=(try simp only[lZ]);omega) only[aZ,aM,z0J]
   exact y1 ⟨by rw[yC1 h1 hlt hb h3],rfl⟩
  ·simp (disch:=(try simp only[lZ]);omega) only[aZ,aM]
   refine⟨k+1,⟨by omega,fun i hi=>?_⟩,by omega,(by refine Cut.of' (1) ?_ (by omega) ?_ ?_<;>simp (disch:=first|omega|simp (disch:=omega) only[aG,aM]) only[fZ,aM])⟩
   rcases Nat.lt_succ_iff_lt_or_eq.1 hi with h|rfl
   ·exact hb i h
   ·exact h3
 ·simp (disch:=(try simp only[lZ]);omega) only[aZ,aM,z0J]
  exact y1 ⟨by rw[yi8 h1 fun i hi=>hb i (by omega)],rfl⟩
theorem yY7{outs:Nat}{r:List Int}(h:4<r.length):rowE outs r=8:=by unfold rowE;rw[if_pos h]
theorem yY8{outs:Nat}{r:List Int}(h:¬4<r.length)(h2:r.length≠outs):rowE outs r=3:=by unfold rowE;rw[if_neg h,if_pos h2]
theorem yC2{outs:Nat}{r:List Int}(h:¬4<r.length)(h2:r.length=outs){k:Nat}(hk:k<r.length)(hb:∀i,i<k→zt4 (r.getD i 0)=0)(hn:r.getD k 0<0∨1000<r.getD k 0):rowE outs r=1:=by
 unfold rowE
 have h3:=za7 (f:=zt4) 0 hk hb (by rw[yi2 hn];omega)
 rw[yi2 hn]at h3
 rw[if_neg h,if_neg (by omega),h3];rfl
theorem y4e{outs:Nat}{r:List Int}(h:¬4<r.length)(h2:r.length=outs)(hb:∀i,i<r.length→zt4 (r.getD i 0)=0)(hs:0<r.length∧r.sum≠1000):rowE outs r=17:=by
 unfold rowE
 have h3:=w7 (f:=zt4) 0 hb
 rw[if_neg h,if_neg (by omega),h3,if_neg (by omega),if_pos hs]
theorem y8n{outs:Nat}{r:List Int}(h:¬4<r.length)(h2:r.length=outs)(hb:∀i,i<r.length→zt4 (r.getD i 0)=0)(hs:¬(0<r.length∧r.sum≠1000)):rowE outs r=0:=by
 unfold rowE
 have h3:=w7 (f:=zt4) 0 hb
 rw[if_neg h,if_neg (by omega),h3,if_neg (by omega),if_neg hs]
theorem y8o{r:List Int}{k:Nat}(hk:k≤r.length)(h4:¬4<r.length)(hb:∀i,i<k→zt4 (r.getD i 0)=0):0≤sumT r k∧sumT r k≤4000:=by
 have:=zB5 r 0 1000 k hk fun i hi=>z9s (hb i hi)
 omega
theorem y4f{w:Bool}(r:List Int)(outs:Nat):VR P false z9b [.fs w (ints r),.v (.int .i64 outs)] [] (isR (.v (.int .i64 (rowE outs r)))):=by
 refine yz2 (by simp) (.inr rfl) fun _ _=>?_
 simp (disch:=(try simp only[lZ]);omega) only[aZ,aM,z2R,z9d]
 refine y2 (fun h1=>?_) (fun h1=>?_)
 ·simp (disch:=(try simp only[lZ]);omega) only[aZ,aM,zA7]
  exact y1 ⟨by rw[yY7 (by omega)],rfl⟩
 have h1:¬4<r.length:=by omega
 simp (disch:=(try simp only[lZ]);omega) only[aZ,aM]
 refine y2 (fun h2=>?_) (fun h2=>?_)
 ·simp (disch:=(try simp only[lZ]);omega) only[aZ,aM,zA7]
  exact y1 ⟨by rw[yY8 h1 (by omega)],rfl⟩
 have h2:r.length=outs:=by omega
 simp (disch:=(try simp only[lZ]);omega) only[aZ,aM]
 refine AWP.loopP yn8 (fun k:Nat=>k≤r.length∧∀i,i<k→zt4 (r.getD i 0)=0) (fun k=>[(2,.v (.int .i64 0)),(3,.v (.int .i64 (sumT r k))),(4,.v (.int .i64 k))]) (fun _=>[]) (fun k=>r.length-k) 0 ⟨by omega,fun i hi=>by omega⟩ (by refine Cut.of' (0) ?_ (by omega) ?_ ?_<;>simp (disch:=first|omega|simp (disch:=omega) only[aG,aM]) only[fZ,aM,ze8]) ?_
 rintro k ⟨hk,hb⟩
 have hs:=y8o hk h1 hb
 by_cases hlt:k<r.length
 ·simp (disch:=(try simp only[lZ]);omega) only[aZ,aM]
  refine y2 (fun h3=>?_) (fun h3=>?_)
  ·simp (disch:=(try simp only[lZ]);omega) only[aZ,aM,zA7]
   exact y1 ⟨by rw[yC2 h1 h2 hlt hb h3],rfl⟩
  ·simp (disch:=(try simp only[lZ]);omega) only[aZ,aM]
   refine⟨k+1,⟨by omega,fun i hi=>?_⟩,by omega,(by refine Cut.of' (0) ?_ (by omega) ?_ ?_<;>simp (disch:=first|omega|simp (disch:=omega) only[aG,aM]) only[fZ,aM,ze9 r k hlt])⟩
   rcases Nat.lt_succ_iff_lt_or_eq.1 hi with h|rfl
   ·exact hb i h
   ·exact yA1 h3
 ·have hkl:k=r.length:=by omega
  subst hkl
  rw[zd8]
  simp (disch:=(try simp only[lZ]);omega) only[aZ,aM]
  refine y2 (fun h3=>?_) (fun h3=>?_)
  ·simp (disch:=(try simp only[lZ]);omega) only[aZ,aM,zA7]
   exact y1 ⟨by rw[y4e h1 h2 hb (by omega)],rfl⟩
  ·simp (disch:=(try simp only[lZ]);omega) only[aZ,aM,zA7]
   exact y1 ⟨by rw[y8n h1 h2 hb (by omega)],rfl⟩
theorem z60{m:Mc}{mat:Int}(h:mat<1∨16<mat):w5 m mat=1:=by unfold w5;rw[if_pos h]
theorem yj0{m:Mc}{mat:Int}(h:¬(mat<1∨16<mat))(h2:(m.length:Int)≠mat):w5 m mat=18:=by unfold w5;rw[if_neg h,if_pos h2]
theorem zO2{m:Mc}{mat:Int}(h:¬(mat<1∨16<mat))(h2:(m.length:Int)=mat){k:Nat}(hk:k<m.length)(hb:∀i,i<k→rowE (y3 m) (m.getD i [])=0)(hn:rowE (y3 m) (m.getD k [])≠0):w5 m mat=rowE (y3 m) (m.getD k []):=by
 unfold w5;rw[if_neg h,if_neg (by omega)]
 exact za7 [] hk hb hn
theorem z9B{m:Mc}{mat:Int}(h:¬(mat<1∨16<mat))(h2:(m.length:Int)=mat)(hb:∀i,i<m.length→rowE (y3 m) (m.getD i [])=0):w5 m mat=0:=by
 unfold w5;rw[if_neg h,if_neg (by omega)]
 exact w7 [] hb
theorem yp9(m:Mc):(m.getD 0 []).length=y3 m:=rfl
theorem zT2{w:Bool}(m:Mc)(mat:Int):VR P false z36 [mcA w m,.v (.int .i64 mat)] [] (isR (.v (.int .i64 (w5 m mat)))):=by
 refine yd9 (by simp) (.inr rfl) fun _ _=>?_
 unfold mcA mcC
 simp (disch:=(try simp only[lZ]);omega) only[aZ,aM,zR3,z38]
 refine y2 (fun h1=>?_) (fun h1=>?_)
 ·simp (disch:=(try simp only[lZ]);omega) only[aZ,aM,zy5]
  exact y1 ⟨by rw[z60 h1],rfl⟩
 simp (disch:=(try simp only[lZ]);omega) only[aZ,aM]
 refine y2 (fun h2=>?_) (fun h2=>?_)
 ·simp (disch:=(try simp only[lZ]);omega) only[aZ,aM,zy5]
  exact y1 ⟨by rw[yj0 h1 h2],rfl⟩
 have h2:(m.length:Int)=mat:=by omega
 subst h2
 simp (disch:=(try simp only[lZ]);omega) only[aZ,aM]
 refine AWP.loopP z8Z (fun k:Nat=>k≤m.length∧∀i,i<k→rowE (y3 m) (m.getD i [])=0) (fun k=>[(2,.v (.int .i64 0)),(4,.v (.int .i64 k))]) (fun _=>[]) (fun k=>m.length-k) 0 ⟨by omega,fun i hi=>by omega⟩ (by refine Cut.of' (1) ?_ (by omega) ?_ ?_<;>simp (disch:=first|omega|simp (disch:=omega) only[aG,aM]) only[fZ,aM]) ?_
 rintro k ⟨hk,hb⟩
 by_cases hlt:k<m.length
 ·simp (disch:=(try simp only[lZ]);omega) only[aZ,aM,yp9]
  refine(y4f (w:=w) (m.getD k []) (y3 m)).same (by simp (disch:=first|omega|simp (disch:=omega) only[aG,aM]) only[fZ,aM]) rfl (z7 ?_)
  simp (disch:=(try simp only[lZ]);omega) only[aZ,aM]
  refine y2 (fun h3=>?_) (fun h3=>?_)
  ·simp (disch:=(try simp only[lZ]);omega) only[aZ,aM,zy5]
   exact y1 ⟨by rw[zO2 h1 rfl hlt hb h3],rfl⟩
  ·simp (disch:=(try simp only[lZ]);omega) only[aZ,aM]
   refine⟨k+1,⟨by omega,fun i hi=>?_⟩,by omega,(by refine Cut.of' (1) ?_ (by omega) ?_ ?_<;>simp (disch:=first|omega|simp (disch:=omega) only[aG,aM]) only[fZ,aM])⟩
   rcases Nat.lt_succ_iff_lt_or_eq.1 hi with h|rfl
   ·exact hb i h
   ·exact Classical.not_not.1 h3
 ·have hkl:k=m.length:=by omega
  subst hkl
  simp (disch:=(try simp only[lZ]);omega) only[aZ,aM,zy5]
  exact y1 ⟨by rw[z9B h1 rfl hb],rfl⟩
theorem zB8{w:Bool}(m:Mc)(mat:Int):VR P false z0v [mcA w m,.v (.int .i64 mat)] [] (isR (.v (.int .i64 (w5 m mat)))):=by
 have hou:=yp9 m
 refine z7o (by simp) (.inr rfl) fun _ _=>?_
 unfold mcA mcC
 simp (disch:=(try simp only[lZ]);omega) only[aZ,aM,zA4,z0x]
 refine y2 (fun h1=>?_) (fun h1=>?_)
 ·simp (disch:=(try simp only[lZ]);omega) only[aZ,aM,W6]
  exact y1 ⟨by rw[z60 h1],rfl⟩
 simp (disch:=(try simp only[lZ]);omega) only[aZ,aM]
 refine y2 (fun h2=>?_) (fun h2=>?_)
 ·simp (disch:=(try simp only[lZ]);omega) only[aZ,aM,W6]
  exact y1 ⟨by rw[yj0 h1 h2],rfl⟩
 have h2:(m.length:Int)=mat:=by omega
 subst h2
 simp (disch:=(try simp only[lZ]);omega) only[aZ,aM]
 refine AWP.loopP z5C (fun k:Nat=>k≤m.length∧∀i,i<k→rowE (y3 m) (m.getD i [])=0) (fun k=>[(4,.v (.int .i64 0)),(5,.v (.int .i64 k))]) (fun _=>[]) (fun k=>m.length-k) 0 ⟨by omega,fun i hi=>by omega⟩ (by refine Cut.of' (1) ?_ (by omega) ?_ ?_<;>simp (disch:=first|omega|simp (disch:=omega) only[aG,aM]) only[fZ,aM]) ?_
 rintro k ⟨hk,hb⟩
 by_cases hlt:k<m.length
 ·simp (disch:=(try simp only[lZ]);omega) only[aZ,aM,yp9]
  refine y2 (fun h3=>?_) (fun h3=>?_)
  ·have hr:rowE (y3 m) (m.getD k [])=8:=yY7 (by omega)
   simp (disch:=(try simp only[lZ]);omega) only[aZ,aM,W6]
   exact y1 ⟨by rw[zO2 h1 rfl hlt hb (by omega),hr],rfl⟩
  have h3:¬4<(m.getD k []).length:=by omega
  simp (disch:=(try simp only[lZ]);omega) only[aZ,aM]
  refine y2 (fun h4=>?_) (fun h4=>?_)
  ·have hr:rowE (y3 m) (m.getD k [])=3:=yY8 h3 (by omega)
   simp (disch:=(try simp only[lZ]);omega) only[aZ,aM,W6]
   exact y1 ⟨by rw[zO2 h1 rfl hlt hb (by omega),hr],rfl⟩
  have h4:(m.getD k []).length=y3 m:=by omega
  simp (disch:=(try simp only[lZ]);omega) only[aZ,aM]
  refine AWP.loopP z5D (fun j:Nat=>j≤(m.getD k []).length∧∀i,i<j→zt4 ((m.getD k []).getD i 0)=0) (fun j=>[(4,.v (.int .i64 0)),(10,.v (.int .i64 (sumT (m.getD k []) j))),(11,.v (.int .i64 j))]) (fun _=>[]) (fun j=>(m.getD k []).length-j) 0 ⟨by omega,fun i hi=>by omega⟩ (by refine Cut.of' (1) ?_ (by omega) ?_ ?_<;>simp (disch:=first|omega|simp (disch:=omega) only[aG,aM]) only[fZ,aM,ze8]) ?_
  rintro j ⟨hj,hc⟩
  have hs:=y8o hj h3 hc
  by_cases hjl:j<(m.getD k []).length
  ·simp (disch:=(try simp only[lZ]);omega) only[aZ,aM]
   refine y2 (fun h5=>?_) (fun h5=>?_)
   ·have hr:=yC2 h3 h4 hjl hc h5
    simp (disch:=(try simp only[lZ]);omega) only[aZ,aM,W6]
    exact y1 ⟨by rw[zO2 h1 rfl hlt hb (by omega),hr],rfl⟩
   ·simp (disch:=(try simp only[lZ]);omega) only[aZ,aM]
    refine⟨j+1,⟨by omega,fun i hi=>?_⟩,by omega,(by refine Cut.of' (1) ?_ (by omega) ?_ ?_<;>simp (disch:=first|omega|simp (disch:=omega) only[aG,aM]) only[fZ,aM,ze9 _ j hjl])⟩
    rcases Nat.lt_succ_iff_lt_or_eq.1 hi with h|rfl
    ·exact hc i h
    ·exact yA1 h5
  ·have hje:j=(m.getD k []).length:=by omega
   subst hje
   rw[zd8]
   rw[zd8]at hs
   simp (disch:=(try simp only[lZ]);omega) only[aZ,aM]
   refine y2 (fun h5=>?_) (fun h5=>?_)
   ·have hr:=y4e h3 h4 hc (by omega)
    simp (disch:=(try simp only[lZ]);omega) only[aZ,aM,W6]
    exact y1 ⟨by rw[zO2 h1 rfl hlt hb (by omega),hr],rfl⟩
   ·have hr:=y8n h3 h4 hc (by omega)
    simp (disch:=(try simp only[lZ]);omega) only[aZ,aM]
    refine⟨k+1,⟨by omega,fun i hi=>?_⟩,by omega,(by refine Cut.of' (1) ?_ (by omega) ?_ ?_<;>simp (disch:=first|omega|simp (disch:=omega) only[aG,aM]) only[fZ,aM])⟩
    rcases Nat.lt_succ_iff_lt_or_eq.1 hi with h|rfl
    ·exact hb i h
    ·exact hr
 ·have hkl:k=m.length:=by omega
  subst hkl
  simp (disch:=(try simp only[lZ]);omega) only[aZ,aM,W6]
  exact y1 ⟨by rw[z9B h1 rfl hb],rfl⟩
theorem zn6{m:Mc}{mat:Int}(h:MOk m mat)(ho:y3 m≠0){k:Nat}(hk:k<m.length){t:Int}(ht:0≤t∧t≤1073741824):zN9 t (m.getD k [])=0∧(m.getD k []).sum=1000∧(m.getD k []).length=y3 m∧y3 m≤4∧∀i,i<(m.getD k []).length→0≤(m.getD k []).getD i 0∧(m.getD k []).getD i 0≤1000:=by
 obtain⟨r1,r2,r3,r4⟩:=h.row _ (x3 [] hk)
 have hs:=r4 (by omega)
 have hb:∀i,i<(m.getD k []).length→0≤(m.getD k []).getD i 0∧(m.getD k []).getD i 0≤1000:=fun i hi=>r3 _ (zg0 hi)
 refine⟨?_,hs,r1,by omega,hb⟩
 have hw:zl3 (m.getD k [])=(1000,0):=by
  rw[z9x (by omega) (by
   rintro⟨i,hi,h2⟩
   have:=hb i hi
   unfold badW at h2;omega),hs,if_pos (by omega)]
 unfold zN9
 rw[hw,if_neg (by omega),if_neg (by simp),if_neg (by simp)]
theorem y9o{m:Mc}{mat:Int}(h:MOk m mat)(ho:y3 m≠0){k:Nat}(hk:k<m.length){t:Int}(ht:0≤t∧t≤1073741824):y9n t (m.getD k []):=by
 obtain⟨h1,h2,h3,h4,h5⟩:=zn6 h ho hk ht
 refine yJ1 (zB7 h1) fun i hi=>?_
 have:=h5 i hi
 have:t*(m.getD k []).getD i 0≤1073741824*1000:=Int.mul_le_mul ht.2 this.2 this.1 (by omega)
 omega
def divR(l:List Int)(main:Nat)(mass:Int):List Int :=
 if mass=0∨0<l.getD main 0 then l else(l.set (zc6 l) (l.getD (zc6 l) 0-1)).set main 1
theorem z7P(l:List Int)(main:Nat)(mass:Int):(divR l main mass).length=l.length:=by unfold divR;split<;>simp
def divM(m:Mc)(k:Nat)(mass:Int):List Int:=divR (zx2 mass (m.getD k [])) (zf0 m k).toNat mass
theorem yJ2{w:Bool}(l:List Int)(h0:0<l.length)(hl:l.length<1000000):VR P false zG7 [.fs w (ints l)] [] (isR (.v (.int .i64 (zc6 l)))):=by
 refine z2V (by simp) (.inr rfl) fun _ _=>?_
 simp (disch:=(try simp only[lZ]);omega) only[aZ,aM,zn0,zG9]
 refine AWP.loopP z1w (fun k:Nat=>k≤l.length) (fun k=>[(2,.v (.int .i64 (zj5 l k))),(3,.v (.int .i64 k))]) (fun _=>[]) (fun k=>l.length-k) 0 (by omega) ?_ ?_
 ·simp only[zj5]
  exact Cut.of' 0 rfl (by omega) (by simp (disch:=first|omega|simp (disch:=omega) only[aG,aM]) only[fZ,aM]) (by simp (disch:=first|omega|simp (disch:=omega) only[aG,aM]) only[fZ,aM])
 rintro k hk
 have hbl:zj5 l k<l.length:=by
  by_cases h:0<k
  ·have:=zy8 l k h;omega
  ·have:k=0:=by omega
   subst this;exact h0
 by_cases hlt:k<l.length
 ·have hbs:zj5 l (k+1)=if l.getD (zj5 l k) 0<l.getD k 0 then k else zj5 l k:=rfl
  simp (disch:=(try simp only[lZ]);omega) only[aZ,aM]
  refine y2 (fun h5=>?_) (fun h5=>?_)
  ·rw[if_pos h5]at hbs
   simp (disch:=(try simp only[lZ]);omega) only[aZ,aM]
   refine⟨k+1,by omega,by omega,?_⟩
   rw[hbs]
   exact Cut.of' 0 rfl (by omega) (by simp (disch:=first|omega|simp (disch:=omega) only[aG,aM]) only[fZ,aM]) (by simp (disch:=first|omega|simp (disch:=omega) only[aG,aM]) only[fZ,aM])
  ·rw[if_neg h5]at hbs
   simp (disch:=(try simp only[lZ]);omega) only[aZ,aM]
   refine⟨k+1,by omega,by omega,?_⟩
   rw[hbs]
   exact Cut.of' 0 rfl (by omega) (by simp (disch:=first|omega|simp (disch:=omega) only[aG,aM]) only[fZ,aM]) (by simp (disch:=first|omega|simp (disch:=omega) only[aG,aM]) only[fZ,aM])
 ·have hke:k=l.length:=by omega
  subst hke
  simp (disch:=(try simp only[lZ]);omega) only[aZ,aM,z4I]
  exact y1 ⟨rfl,rfl⟩
theorem z9C{t:Int}{ws l:List Int}(h:SpR t ws l)(ht:0<t)(hne:ws≠[]):0<l.getD (zc6 l) 0:=by
 apply Int.lt_of_not_ge;intro hc
 have hl:0<l.length:=by rw[h.len];exact List.length_pos_iff.2 hne
 have:=(z4Q l l.length).1
 change ∀i,i<l.length→l.getD i 0≤l.getD (zc6 l) 0 at this
 have hs:=yo7 0 l fun x hx=>by
  obtain⟨i,h1,rfl⟩:=zr4 hx
  have:=this i h1;omega
 rw[h.sum]at hs;omega
theorem yY9{t:Int}{ws l:List Int}(h:SpR t ws l)(ok:SplitOk t ws):∀i,i<l.length→0≤l.getD i 0∧l.getD i 0≤t+1:=fun i hi=>by
 have:=q_le ok (i:=i) (by rw[← h.len];exact hi)
 rcases h.two i (by rw[← h.len];exact hi)with h1|⟨h1,_⟩<;>omega
theorem y07{w:Bool}(m:Mc)(mat:Int)(h:MOk m mat)(ho:y3 m≠0)(k:Nat)(hk:k<m.length)(t:Int)(ht:0≤t∧t≤1073741824):VR P false zM9 [mcA w m,.v (.int .i64 k),.v (.int .i64 t)] [] (isR (.fs true (ints (divM m k t)))):=by
 refine z4E (by simp) (.inr rfl) fun _ _=>?_
 obtain⟨h1,h2,h3,h4,h5⟩:=zn6 h ho hk ht
 have hd:=y9o h ho hk ht
 have ok:=zB7 h1
 have hsp:=z4R ok.sp
 have hne:m.getD k []≠[]:=ok.sp.ne
 have hlen:=h.len
 obtain⟨g1,g2,g3⟩:=z4O h ho (k:=k) (by omega) (by omega)
 have hrow:((m.getD (k:Int).toNat []).length)<1000000000:=by rw[Int.toNat_natCast];omega
 unfold mcA mcC divM
 simp (disch:=(try simp only[lZ]);omega) only[aZ,aM,zq1,zN1]
 refine(yf5 (w:=w) t (m.getD k []) fun _=>hd).useS (LdL.refl (by simp (disch:=first|omega|simp (disch:=omega) only[aG,aM]) only[fZ,aM])) ?_ ?_
 ·rintro r G (⟨_,rfl,rfl⟩|⟨_,ver,rfl,rfl⟩)
  ·rfl
  ·simp (disch:=first|omega|simp (disch:=omega) only[aG,aM]) only[fZ,aM,List.all_cons,List.all_nil]
 rintro r G (⟨hbad,rfl,rfl⟩|⟨_,ver,rfl,rfl⟩)
 ·exfalso;apply hbad;unfold zO0;rw[if_neg (by omega)]
 refine z7 ?_
 have e1:A.shL 1 (ints (zx2 t (m.getD k [])))=ints (zx2 t (m.getD k [])):=zU0 _ (zl4 0 _)
 have hpl:=hsp.len
 have hpb:=yY9 hsp ok
 have hpp:=fun hp=>z9C hsp hp hne
 generalize zx2 t (m.getD k [])=l at *
 simp (disch:=(try simp only[lZ]);omega) only[aZ,aM,A.sh,A.shL,Blk.sh,List.map_cons,List.map_nil,e1]
 refine(z2p (w:=w) m k hrow).same (by unfold mcA mcC;simp (disch:=first|omega|simp (disch:=omega) only[aG,aM]) only[fZ,aM]) rfl (z7 ?_)
 have hmb:=hpb (zf0 m k).toNat (by omega)
 simp (disch:=(try simp only[lZ]);omega) only[aZ,aM]
 refine y2 (fun h6=>?_) (fun h6=>?_)
 ·have hdv:divR l (zf0 m k).toNat t=(l.set (zc6 l) (l.getD (zc6 l) 0-1)).set (zf0 m k).toNat 1:=by unfold divR;rw[if_neg (by omega)]
  have hbp:=hpp (by omega)
  have hbl:zc6 l<l.length:=zy8 l l.length (by omega)
  have hbb:=hpb _ hbl
  have hbm:zc6 l≠(zf0 m k).toNat:=by intro hc;rw[hc]at hbp;omega
  have hg:(l.set (zc6 l) (l.getD (zc6 l) 0-1)).getD (zf0 m k).toNat 0=0:=by rw[X5,if_neg (fun h=>hbm h.1)];omega
  have z:(0:Int)+1=1:=rfl
  simp (disch:=(try simp only[lZ]);omega) only[aZ,aM]
  refine(yJ2 (w:=false) l (by omega) (by omega)).use ⟨zD6 _ 1 ver _ l hpl.symm (by simp (disch:=(try simp only[lZ]);omega) only[aZ,aM]),trivial⟩ rfl (z7 ?_)
  simp (disch:=(try simp only[lZ]);omega) only[aZ,aM,Int.toNat_natCast,hg,z,← hdv,zN2]
  exact y8 (zK3 0 _ 1 ver _ (divR l (zf0 m k).toNat t) (by omega) (by rw[z7P];omega) (by simp (disch:=(try simp only[lZ]);omega) only[aZ,aM])) ⟨rfl,rfl⟩
 ·have hdv:divR l (zf0 m k).toNat t=l:=by unfold divR;rw[if_pos (by omega)]
  rw[hdv]
  simp (disch:=(try simp only[lZ]);omega) only[aZ,aM,zN2]
  exact y8 (zK3 0 _ 1 ver _ l (by omega) hpl.symm (by simp (disch:=(try simp only[lZ]);omega) only[aZ,aM])) ⟨rfl,rfl⟩
theorem yJ3{w:Bool}(m:Mc)(mat:Int)(h:MOk m mat)(ho:y3 m≠0)(k:Nat)(hk:k<m.length)(t:Int)(ht:0≤t∧t≤1073741824):VR P false z4i [mcA w m,.v (.int .i64 k),.v (.int .i64 t)] [] (isR (.fs true (ints (divM m k t)))):=by
 refine ye2 (by simp) (.inr rfl) fun _ _=>?_
 obtain⟨h1,h2,h3,h4,h5⟩:=zn6 h ho hk ht
 have ok:=zB7 h1
 have hsp:=z4R ok.sp
 have hne:m.getD k []≠[]:=ok.sp.ne
 have hlen:=h.len
 obtain⟨g1,g2,g3⟩:=z4O h ho (k:=k) (by omega) (by omega)
 have hrow:((m.getD (k:Int).toNat []).length)<1000000000:=by rw[Int.toNat_natCast];omega
 unfold mcA mcC divM
 simp (disch:=(try simp only[lZ]);omega) only[aZ,aM,zR6,z4k]
 refine(yf3 (w:=w) t (m.getD k [])).useS (LdL.refl (by simp (disch:=first|omega|simp (disch:=omega) only[aG,aM]) only[fZ,aM])) ?_ ?_
 ·rintro r G (⟨_,rfl,rfl⟩|⟨_,ver,rfl,rfl⟩)
  ·rfl
  ·simp (disch:=first|omega|simp (disch:=omega) only[aG,aM]) only[fZ,aM,List.all_cons,List.all_nil]
 rintro r G (⟨hbad,rfl,rfl⟩|⟨_,ver,rfl,rfl⟩)
 ·exfalso;apply hbad;unfold zO0;rw[if_neg (by omega)]
 refine z7 ?_
 have e1:A.shL 1 (ints (zx2 t (m.getD k [])))=ints (zx2 t (m.getD k [])):=zU0 _ (zl4 0 _)
 have hpl:=hsp.len
 have hpb:=yY9 hsp ok
 have hpp:=fun hp=>z9C hsp hp hne
 generalize zx2 t (m.getD k [])=l at *
 simp (disch:=(try simp only[lZ]);omega) only[aZ,aM,A.sh,A.shL,Blk.sh,List.map_cons,List.map_nil,e1]
 refine(yi9 (w:=w) m k hrow).same (by unfold mcA mcC;simp (disch:=first|omega|simp (disch:=omega) only[aG,aM]) only[fZ,aM]) rfl (z7 ?_)
 have hmb:=hpb (zf0 m k).toNat (by omega)
 simp (disch:=(try simp only[lZ]);omega) only[aZ,aM]
 refine y2 (fun h6=>?_) (fun h6=>?_)
 ·have hdv:divR l (zf0 m k).toNat t=l:=by unfold divR;rw[if_pos (by omega)]
  rw[hdv]
  simp (disch:=(try simp only[lZ]);omega) only[aZ,aM,z4l]
  exact y8 (zK3 0 _ 1 ver _ l (by omega) hpl.symm (by simp (disch:=(try simp only[lZ]);omega) only[aZ,aM])) ⟨rfl,rfl⟩
 ·have hdv:divR l (zf0 m k).toNat t=(l.set (zc6 l) (l.getD (zc6 l) 0-1)).set (zf0 m k).toNat 1:=by unfold divR;rw[if_neg h6]
  have hbI:zj5 l l.length=zc6 l:=rfl
  have hbl:zc6 l<l.length:=zy8 l l.length (by omega)
  have hbb:=hpb _ hbl
  simp (disch:=(try simp only[lZ]);omega) only[aZ,aM]
  refine AWP.loopP z89 (fun i:Nat=>i≤l.length) (fun i=>[(8,.v (.int .i64 (zj5 l i))),(9,.v (.int .i64 i))]) (fun _=>[]) (fun i=>l.length-i) 0 (by omega) ?_ ?_
  ·simp only[zj5]
   exact Cut.of' 2 rfl (by omega) (by simp (disch:=first|omega|simp (disch:=omega) only[aG,aM]) only[fZ,aM]) (by simp (disch:=first|omega|simp (disch:=omega) only[aG,aM]) only[fZ,aM])
  rintro i hi
  have hbi:zj5 l i<l.length:=by
   by_cases h:0<i
   ·have:=zy8 l i h;omega
   ·have:i=0:=by omega
    subst this;show 0<l.length;omega
  by_cases hil:i<l.length
  ·have hbs:zj5 l (i+1)=if l.getD (zj5 l i) 0<l.getD i 0 then i else zj5 l i:=rfl
   simp (disch:=(try simp only[lZ]);omega) only[aZ,aM]
   refine y2 (fun h7=>?_) (fun h7=>?_)
   ·rw[if_pos h7]at hbs
    simp (disch:=(try simp only[lZ]);omega) only[aZ,aM]
    refine⟨i+1,by omega,by omega,?_⟩
    rw[hbs]
    exact Cut.of' 2 rfl (by omega) (by simp (disch:=first|omega|simp (disch:=omega) only[aG,aM]) only[fZ,aM]) (by simp (disch:=first|omega|simp (disch:=omega) only[aG,aM]) only[fZ,aM])
   ·rw[if_neg h7]at hbs
    simp (disch:=(try simp only[lZ]);omega) only[aZ,aM]
    refine⟨i+1,by omega,by omega,?_⟩
    rw[hbs]
    exact Cut.of' 2 rfl (by omega) (by simp (disch:=first|omega|simp (disch:=omega) only[aG,aM]) only[fZ,aM]) (by simp (disch:=first|omega|simp (disch:=omega) only[aG,aM]) only[fZ,aM])
  ·have hie:i=l.length:=by omega
   subst hie
   rw[hbI]at hbi ⊢
   simp (disch:=(try simp only[lZ]);omega) only[aZ,aM,Int.toNat_natCast,← hdv,z4l]
   exact y8 (zK3 0 _ 1 ver _ (divR l (zf0 m k).toNat t) (by omega) (by rw[z7P];omega) (by simp (disch:=(try simp only[lZ]);omega) only[aZ,aM])) ⟨rfl,rfl⟩
end Go.Proofs.YtcppaddgclkekaaGreat
namespace Go.Proofs.YtcppaddgclkekaaGreat
open Go Go.Lft
set_option linter.unusedSimpArgs false
set_option linter.unusedVariables false
def mtx(k n:Nat)(f:Nat→Nat→Int):List (List Int):=(List.range k).map fun o=>(List.range n).map fun i=>f o i
theorem zT3(k n:Nat)(f:Nat→Nat→Int):(mtx k n f).length=k:=by simp [mtx]
theorem z9D(k n:Nat)(f:Nat→Nat→Int)(o:Nat)(h:o<k):(mtx k n f).getD o []=(List.range n).map fun i=>f o i:=by
 simp [mtx,List.getD_eq_getElem?_getD,h]
theorem yJ4(n:Nat)(g:Nat→Int)(i:Nat)(h:i<n):((List.range n).map g).getD i 0=g i:=by simp [List.getD_eq_getElem?_getD,h]
theorem y4g(n:Nat)(g:Nat→Int):((List.range n).map g).length=n:=by simp
theorem yq0{k n:Nat}{f g:Nat→Nat→Int}(h:∀o i,o<k→i<n→f o i=g o i):mtx k n f=mtx k n g:=by
 unfold mtx
 refine List.map_congr_left fun o ho=>List.map_congr_left fun i hi=>h o i (by simpa using ho) (by simpa using hi)
theorem y9p{k n:Nat}(f:Nat→Nat→Int)(o i:Nat)(v:Int)(ho:o<k)(hi:i<n):(mtx k n f).set o (((List.range n).map fun i=>f o i).set i v)=mtx k n fun a b=>if a=o∧b=i then v else f a b:=by
 refine List.ext_getElem (by simp [mtx]) fun a h1 h2=>?_
 simp only[mtx,List.getElem_set,List.getElem_map,List.getElem_range]
 by_cases h:o=a
 ·subst h
  rw[if_pos rfl]
  refine List.ext_getElem (by simp) fun b h3 h4=>?_
  simp only[List.getElem_set,List.getElem_map,List.getElem_range,true_and]
  by_cases hb:i=b
  ·subst hb;simp
  ·rw[if_neg hb,if_neg (fun h=>hb h.symm)]
 ·rw[if_neg h]
  refine List.map_congr_left fun b _=>?_
  rw[if_neg (fun hh=>h hh.1.symm)]
theorem yZ0(k n:Nat):mtx k n (fun _ _=>0)++[List.replicate n 0]=mtx (k+1) n fun _ _=>0:=by
 simp only[mtx,List.range_succ,List.map_append,List.map_cons,List.map_nil]
 congr 2
 rw[List.map_const',List.length_range]
theorem xr4(n:Nat)(f:Nat→Nat→Int):mtx 0 n f=[]:=rfl
def rowB(M:List (List Int)):List Blk:=M.map fun l=>⟨0,ints l⟩
def ptrA(k n:Nat):List A:=(List.range k).map fun o=>.sl (o+2) 0 1 0 n
theorem z9E(k n:Nat):(ptrA k n).length=k:=by simp [ptrA]
theorem y4h(k n o:Nat)(h:o<k):nthA (ptrA k n) o=some (.sl (o+2) 0 1 0 n):=by simp [Y8,ptrA,h]
theorem yJ5(k n:Nat):ptrA k n++[.sl (k+2) 0 1 0 n]=ptrA (k+1) n:=by simp [ptrA,List.range_succ]
theorem z51{n:Nat}:∀{l:List A},(∀a∈l,A.bd n a=true)→A.bdL n l=true
 | [],_=>rfl
 | a :: l,h=>by
  simp only[A.bdL,Bool.and_eq_true]
  exact⟨h a (by simp),z51 fun b hb=>h b (by simp [hb])⟩
theorem z2q(k n m:Nat)(h:k+2≤m):A.bdL m (ptrA k n)=true:=by
 refine z51 fun a ha=>?_
 obtain⟨o,ho,rfl⟩:=List.mem_map.1 ha
 have:o<k:=by simpa using ho
 simp only[A.bd,decide_eq_true_eq];omega
theorem y4i(n:Nat)(g:Nat→Int)(x:Nat)(y:Int)(h:x<n):splA (ints ((List.range n).map g)) x [.v (.int .i64 y)]=ints (((List.range n).map g).set x y):=y2X _ _ _ (by simpa using h)
def hm(b:List A)(v:Nat)(p:List A)(M:List (List Int)):List Blk:=⟨0,b⟩ :: ⟨v,p⟩ :: rowB M
theorem xA0(b:List A)(v:Nat)(p:List A):[(⟨0,b⟩:Blk),⟨v,p⟩]=hm b v p []:=rfl
theorem z61(b:List A)(v:Nat)(p:List A)(M:List (List Int)):(hm b v p M).length=M.length+2:=by simp [hm,rowB]
theorem hm_b(b:List A)(v:Nat)(p:List A)(M:List (List Int)):blkAt (hm b v p M) 0 0=some b:=by simp [hm,blkAt]
theorem hm_p(b:List A)(v:Nat)(p:List A)(M:List (List Int)):blkAt (hm b v p M) 1 v=some p:=by simp [hm,blkAt]
theorem y4j:∀(M:List (List Int)) (o:Nat),o<M.length→blkAt (rowB M) o 0=some (ints (M.getD o []))
 | [],o,h=>by simp at h
 | l :: M,0,_=>by simp [rowB,blkAt]
 | l :: M,o+1,h=>by
  have:=y4j M o (by simpa using h)
  simpa [rowB,blkAt]using this
theorem hm_r(b:List A)(v:Nat)(p:List A)(M:List (List Int))(o:Nat)(h:o<M.length):blkAt (hm b v p M) (o+2) 0=some (ints (M.getD o [])):=by
 exact y4j M o h
theorem y9q(b:List A)(v:Nat)(p:List A)(k n:Nat)(f:Nat→Nat→Int)(o:Nat)(h:o<k):blkAt (hm b v p (mtx k n f)) (o+2) 0=some (ints ((List.range n).map fun i=>f o i)):=by
 rw[hm_r _ _ _ _ _ (by rw[zT3];exact h),z9D _ _ _ _ h]
theorem xr5(b:List A)(v v':Nat)(p q:List A)(M:List (List Int)):(hm b v p M).set 1 ⟨v',q⟩=hm b v' q M:=rfl
theorem xr6(b:List A)(v:Nat)(p:List A)(M:List (List Int))(o:Nat)(l:List Int):(hm b v p M).set (o+2) ⟨0,ints l⟩=hm b v p (M.set o l):=by
 simp [hm,rowB,List.map_set]
theorem y8p(b:List A)(v:Nat)(p:List A)(M:List (List Int))(l:List Int):hm b v p M++[⟨0,ints l⟩]=hm b v p (M++[l]):=by simp [hm,rowB]
theorem z7E{b:List A}{v:Nat}{p:List A}{M:List (List Int)}{n:Nat}(h1:A.bdL n b=true)(h2:A.bdL n p=true):okB n (hm b v p M):=by
 intro B hB
 rcases List.mem_cons.1 hB with rfl|hB
 ·exact h1
 rcases List.mem_cons.1 hB with rfl|hB
 ·exact h2
 obtain⟨l,_,rfl⟩:=List.mem_map.1 hB
 exact zl4 n l
def padA(j k n:Nat):List A:=ptrA j n++List.replicate (k-j) (.v (.slice none 0 0))
theorem y4k(j k n:Nat)(h:j≤k):(padA j k n).length=k:=by simp [padA,z9E];omega
theorem y6e(k n:Nat):List.replicate k (A.v (.slice none 0 0))=padA 0 k n:=by simp [padA,ptrA]
theorem y9r(k n:Nat):padA k k n=ptrA k n:=by simp [padA]
theorem y9s(p r:List A)(a b:A):splA (p++a :: r) p.length [b]=p++[b]++r:=by
 induction p with
 | nil=>rfl
 | cons c p ih=>simp only[List.cons_append,List.length_cons,z3b];rw[ih]
theorem y4l(j k n:Nat)(h:j<k):splA (padA j k n) j [.sl (j+2) 0 1 0 n]=padA (j+1) k n:=by
 have:=y9s (ptrA j n) (List.replicate (k-(j+1)) (.v (.slice none 0 0))) (.v (.slice none 0 0)) (.sl (j+2) 0 1 0 n)
 rw[z9E,yJ5,← List.replicate_succ,show k-(j+1)+1=k-j by omega]at this
 exact this
theorem y8q(j k n m:Nat)(h:j+2≤m):A.bdL m (padA j k n)=true:=by
 refine z51 fun a ha=>?_
 rcases List.mem_append.1 ha with h1|h1
 ·obtain⟨o,ho,rfl⟩:=List.mem_map.1 h1
  have:o<j:=by simpa using ho
  simp only[A.bd,decide_eq_true_eq];omega
 ·rw[(List.mem_replicate.1 h1).2];rfl
theorem aQ:type_of% (ai9 @y4k<|ai9 @y4l<|ai9 @zT3<|ai9 @z9D<|ai9 @yJ4<|ai9 @y4g<|ai9 @z9E<|ai9 @y4h<|ai9 @z61<|ai9 @hm_b<|ai9 @hm_p<|ai9 @y4i<|ai9 @y9q<|ai9 @xr5<|ai9 @xr6<|@y8p):=⟨@y4k,@y4l,@zT3,@z9D,@yJ4,@y4g,@z9E,@y4h,@z61,@hm_b,@hm_p,@y4i,@y9q,@xr5,@xr6,@y8p⟩
theorem xr7{n0:Nat}{e e':List A}{b b':List A}{v:Nat}{p:List A}{M:List (List Int)}(hn:n0≤M.length+2)(hb:FzL (M.length+2) (hm b v p M) b b')(hp:A.bdL (M.length+2) p=true)(he:FzL (M.length+2) (hm b v p M) e e'):Cut n0 e (hm b v p M) e' (hm b' v p M):=by
 refine Cut.of hn (z61 _ _ _ _) (fun i B' h=>?_) he
 match i with
 | 0=>cases h;exact⟨⟨0,b⟩,rfl,rfl,hb⟩
 | 1=>cases h;exact⟨⟨v,p⟩,rfl,rfl,FzL.refl hp⟩
 | i+2 =>
  refine⟨B',h,rfl,FzL.refl ?_⟩
  obtain⟨l,_,rfl⟩:=List.mem_map.1 (List.mem_of_getElem? (l:=rowB M) h)
  exact zl4 _ l
theorem y8r{m:Nat}{b:List A}{v:Nat}{p:List A}{M:List (List Int)}{k n:Nat}(hm2:m≤2)(hk:M.length=k)(hn:∀l∈M,l.length=n):FzL m (hm b v p M) (ptrA k n) (rows true M):=by
 have z:∀j,j≤k→FzL m (hm b v p M) (ptrA j n) (rows true (M.take j)):=by
  intro j
  induction j with
  | zero=>intro _;exact trivial
  | succ j ih =>
   intro hj
   rw[← yJ5,List.take_succ_eq_append_getElem (by omega),← y26]
   refine FzL.cat (ih (by omega)) ⟨?_,trivial⟩
   have he:M.getD j []=M[j]'(by omega):=by simp [List.getD_eq_getElem?_getD,show j<M.length by omega]
   exact zK3 m _ (j+2) 0 n _ (by omega) (hn _ (List.getElem_mem _)).symm (by rw[hm_r _ _ _ _ _ (by omega),he])
 have:=z k (Nat.le_refl _)
 rwa [List.take_of_length_le (by omega)]at this
theorem xr8{b:List A}{v:Nat}{M:List (List Int)}{k n:Nat}(hk:M.length=k)(hn:∀l∈M,l.length=n):Fz 0 (hm b v (ptrA k n) M) (.sl 1 v 1 0 k) (.fs true (rows true M)):=by
 subst hk
 refine Fz.sl (Nat.zero_le _) (hm_p _ _ _ _) (y8r (by omega) rfl hn) ?_ (zH8 _ _) (by rw[zH8];omega)
 rw[List.drop_zero,Nat.mul_one,← zH8 true M,List.take_length];exact z3c _ _
theorem y9t{b:List A}{v:Nat}{M:List (List Int)}{k n:Nat}(hk:M.length=k)(hn:∀l∈M,l.length=n):Fz 0 (hm b v (ptrA k n) M) (.vs 1 v 1 k) (.fs true (rows true M)):=by
 subst hk
 refine Fz.vs (Nat.zero_le _) (hm_p _ _ _ _) (y8r (by omega) rfl hn) ?_ (zH8 _ _) (by rw[zH8];omega)
 rw[Nat.mul_one,← zH8 true M,List.take_length];exact z3c _ _
theorem y6f{k n:Nat}{f:Nat→Nat→Int}:∀l∈mtx k n f,l.length=n:=by
 intro l hl
 obtain⟨o,_,rfl⟩:=List.mem_map.1 hl
 simp
end Go.Proofs.YtcppaddgclkekaaGreat
