/- Lemmas and walks that the proof of SetpointBests uses. No statement is claimed here. -/
import Derived.Test.YtcppaddgclkekaaGreatSetpointBestsZau
namespace Go.Proofs.YtcppaddgclkekaaGreat
open Go Go.Lft
set_option linter.unusedSimpArgs false
set_option linter.unusedVariables false
def tyCase:Ty:=(.st [(.st [(.int .i64),(.sl (.st [(.sl (.sl (.int .i64)))])),(.sl (.st [(.int .i64),(.int .i64),(.int .i64),(.int .i64)])),(.int .i64)]),(.sl (.sl (.st [(.sl (.sl (.int .i64))),(.int .i64)]))),(.sl (.int .i64)),(.sl (.st [(.int .i64),(.int .i64),(.int .i64),(.int .i64)]))])
theorem tyCase_is:tyCase.Is Tryz.prog 32:=by
 unfold tyCase
 simp only[Ty.Is]
 refine⟨_,Tryz.underlying32,by kernel_rfl,?_⟩
 simp only[Ty.IsL,Ty.Is]
 refine⟨by first|rfl|trivial,by kernel_rfl,?_,?_⟩
 ·
  refine⟨_,Tryz.underlying25,by kernel_rfl,?_⟩
  simp only[Ty.IsL,Ty.Is]
  refine⟨by first|rfl|trivial,by kernel_rfl,?_,?_⟩
  ·
   exact Tryz.underlying3
  refine⟨by first|rfl|trivial,by kernel_rfl,?_,?_⟩
  ·
   refine⟨51,Tryz.underlying22,by kernel_rfl,by decide,?_⟩
   refine⟨_,Tryz.underlying51,by kernel_rfl,?_⟩
   simp only[Ty.IsL,Ty.Is]
   refine⟨by first|rfl|trivial,by kernel_rfl,?_,?_⟩
   ·
    refine⟨26,Tryz.underlying49,by kernel_rfl,by decide,?_⟩
    refine⟨3,Tryz.underlying26,by kernel_rfl,by decide,?_⟩
    exact Tryz.underlying3
   trivial
  refine⟨by first|rfl|trivial,by kernel_rfl,?_,?_⟩
  ·
   refine⟨56,Tryz.underlying23,by kernel_rfl,by decide,?_⟩
   refine⟨_,Tryz.underlying56,by kernel_rfl,?_⟩
   simp only[Ty.IsL,Ty.Is]
   refine⟨by first|rfl|trivial,by kernel_rfl,?_,?_⟩
   ·
    exact Tryz.underlying3
   refine⟨by first|rfl|trivial,by kernel_rfl,?_,?_⟩
   ·
    exact Tryz.underlying3
   refine⟨by first|rfl|trivial,by kernel_rfl,?_,?_⟩
   ·
    exact Tryz.underlying3
   refine⟨by first|rfl|trivial,by kernel_rfl,?_,?_⟩
   ·
    exact Tryz.underlying3
   trivial
  refine⟨by first|rfl|trivial,by kernel_rfl,?_,?_⟩
  ·
   exact Tryz.underlying3
  trivial
 refine⟨by first|rfl|trivial,by kernel_rfl,?_,?_⟩
 ·
  refine⟨52,Tryz.underlying29,by kernel_rfl,by decide,?_⟩
  refine⟨54,Tryz.underlying52,by kernel_rfl,by decide,?_⟩
  refine⟨_,Tryz.underlying54,by kernel_rfl,?_⟩
  simp only[Ty.IsL,Ty.Is]
  refine⟨by first|rfl|trivial,by kernel_rfl,?_,?_⟩
  ·
   refine⟨26,Tryz.underlying49,by kernel_rfl,by decide,?_⟩
   refine⟨3,Tryz.underlying26,by kernel_rfl,by decide,?_⟩
   exact Tryz.underlying3
  refine⟨by first|rfl|trivial,by kernel_rfl,?_,?_⟩
  ·
   exact Tryz.underlying3
  trivial
 refine⟨by first|rfl|trivial,by kernel_rfl,?_,?_⟩
 ·
  refine⟨3,Tryz.underlying27,by kernel_rfl,by decide,?_⟩
  exact Tryz.underlying3
 refine⟨by first|rfl|trivial,by kernel_rfl,?_,?_⟩
 ·
  refine⟨60,Tryz.underlying30,by kernel_rfl,by decide,?_⟩
  refine⟨_,Tryz.underlying60,by kernel_rfl,?_⟩
  simp only[Ty.IsL,Ty.Is]
  refine⟨by first|rfl|trivial,by kernel_rfl,?_,?_⟩
  ·
   exact Tryz.underlying3
  refine⟨by first|rfl|trivial,by kernel_rfl,?_,?_⟩
  ·
   exact Tryz.underlying3
  refine⟨by first|rfl|trivial,by kernel_rfl,?_,?_⟩
  ·
   exact Tryz.underlying3
  refine⟨by first|rfl|trivial,by kernel_rfl,?_,?_⟩
  ·
   exact Tryz.underlying3
  trivial
 trivial
theorem case_of2{cl:List A}(h:tyCase.Sh true cl):∃p L xs gl,tyCase.pk cl=y5C true true true true true p L xs gl∧xs.length≤maxLen:=by
 have h1:(Ty.st [yq3,yF4,y6m,ya5]).Sh true cl:=h
 rw[Ty.Sh]at h1
 simp only[Ty.ShL]at h1
 obtain⟨a,_,rfl,ha,b,_,rfl,hb,c,_,rfl,hc,d,_,rfl,hd,rfl⟩:=h1
 obtain⟨p,e1⟩:=y6n ha
 obtain⟨L,e2⟩:=xb1 hb
 obtain⟨xs,e3,hx,_⟩:=xt1 hc
 obtain⟨gl,e4⟩:=y6O hd
 have f2:=Ty.pk_cells yF4 hb
 have f3:=Ty.pk_cells y6m hc
 have f4:=Ty.pk_cells ya5 hd
 rw[e2]at f2
 rw[e3]at f3
 rw[e4]at f4
 have g1:a=plC true true p:=A.agg.inj e1
 have g2:[A.fs true (ogL true L)]=b:=Option.some.inj f2
 have g3:[A.fs true (ints xs)]=c:=Option.some.inj f3
 have g4:[A.fs true (bts gl)]=d:=Option.some.inj f4
 refine⟨p,L,xs,gl,?_,hx⟩
 show A.agg _=A.agg _
 rw[g1,← g2,← g3,← g4]
 rfl
end Go.Proofs.YtcppaddgclkekaaGreat
namespace Go.Proofs.YtcppaddgclkekaaGreat
open Go Go.Lft
set_option linter.unusedSimpArgs false
set_option linter.unusedVariables false
attribute [local congr] Q7 Q8 Q9 za1 Z9 Y0 za2 Y2 Y3 Y4 za3 za0
theorem y1o(p:Pl)(L:List (List Og))(xs:List Int)(gl:List Bt):(zd0 p L xs gl).1.1.length≤1000000:=by
 by_cases h:(zd0 p L xs gl).2=0
 ·obtain⟨pk,n,e,h2,hp,h3,_⟩:=y6L h
  have hl:=(zC1 h2).1
  have n2:=(y7 (xb2 (by rw[h3])).1).n2
  have:=hp.1
  rw[e]
  simp only
  omega
 ·have e : (zd0 p L xs gl).1.1 = [] := by
   unfold zd0 at *
   by_cases h1:y6 p=0
   case neg=>rw[if_pos h1]
   by_cases h2:za4 p L=0
   case neg=>rw[if_neg (fun k=>k h1),if_pos h2]
   by_cases h3:256<prd L
   ·rw[if_neg (fun k=>k h1),if_neg (fun k=>k h2),if_pos h3]
   by_cases h4:fedE p xs=0
   case neg=>rw[if_neg (fun k=>k h1),if_neg (fun k=>k h2),if_neg h3,if_pos h4]
   by_cases h5:zb3 p gl=0
   case neg=>rw[if_neg (fun k=>k h1),if_neg (fun k=>k h2),if_neg h3,if_neg (fun k=>k h4),if_pos h5]
   rw[if_neg (fun k=>k h1),if_neg (fun k=>k h2),if_neg h3,if_neg (fun k=>k h4),if_neg (fun k=>k h5)]at h ⊢
   cases hb:bstL p L xs gl (allP L)with
   | none=>rfl
   | some q=>rw[hb]at h;exact absurd rfl h
  rw[e];decide
set_option maxHeartbeats 2000000 in
theorem setpointBests_vr(p:Pl)(L:List (List Og))(xs:List Int)(gl:List Bt)(hl9:xs.length≤9223372036854775807):VR P false zs1 [y5C true true true true true p L xs gl] [] (isR (.v (.bool true))):=by
 refine zY3 (by simp) (.inr rfl) fun _ _=>?_
 have hli:=y1k (w:=true) (v:=true) (u:=true) (a:=true) (b:=true) p L xs gl
 have haw:=y1j
 have hbe:=ya0 (w:=true) (v:=true) (u1:=true) (u2:=true) p L xs gl
 have hbr:=y1n (u1:=true) (u2:=true) p L xs gl hl9
 have hin:=ya1 (w:=true) (v:=true) (zd0 p L xs gl).1.1 (zd0 p L xs gl).1.1 (y1o p L xs gl)
 rw[decide_eq_true rfl]at hin
 unfold y5C at *
 unfold y5y at hbe hbr
 generalize zd0 p L xs gl=B at *
 unfold plA plC at hbe hbr
 simp (disch:=(try simp only[lZ]);omega) only[aZ,aM,aG37,zg7,zs3]
 refine hli.useE (LdL.refl (by simp (disch:=first|omega|simp (disch:=omega) only[aG,aM,aG37]) only[fZ,aM,aG37])) y5D ?_
 rintro _ ⟨-,y,rfl,hy⟩
 refine z7 ?_
 cases y
 ·simp (disch:=(try simp only[lZ]);omega) only[aZ,aM,aG37]
  refine haw.same rfl rfl (z7 ?_)
  simp (disch:=(try simp only[lZ]);omega) only[aZ,aM,aG37,zs4]
  exact y1 ⟨rfl,rfl⟩
 simp (disch:=(try simp only[lZ]);omega) only[aZ,aM,aG37]
 refine hbe.same (by simp (disch:=first|omega|simp (disch:=omega) only[aG,aM,aG37]) only[fZ,aM,aG37]) (by simp (disch:=first|omega|simp (disch:=omega) only[aG,aM,aG37]) only[fZ,aM,aG37]) (z7 ?_)
 simp (disch:=(try simp only[lZ]);omega) only[aZ,aM,aG37]
 refine hbr.same (by simp (disch:=first|omega|simp (disch:=omega) only[aG,aM,aG37]) only[fZ,aM,aG37]) (by simp (disch:=first|omega|simp (disch:=omega) only[aG,aM,aG37]) only[fZ,aM,aG37]) (z7 ?_)
 simp (disch:=(try simp only[lZ]);omega) only[aZ,aM,aG37]
 refine hin.same (by simp (disch:=first|omega|simp (disch:=omega) only[aG,aM,aG37]) only[fZ,aM,aG37]) rfl (z7 ?_)
 simp (disch:=(try simp only[lZ]);omega) only[aZ,aM,aG37]
 refine haw.same rfl rfl (z7 ?_)
 simp (disch:=(try simp only[lZ]);omega) only[aZ,aM,aG37,zs4]
 exact y1 ⟨rfl,rfl⟩
end Go.Proofs.YtcppaddgclkekaaGreat
