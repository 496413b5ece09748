/- Lemmas and walks that the proof of TopPlantBales uses. No statement is claimed here. -/
import Derived.Test.YtdkoindoljngmaaTopPlantBalesZaq
namespace Go.Proofs.Ytdkoindoljngmaa
open Go Go.Lft
set_option linter.unusedSimpArgs false
set_option linter.unusedVariables false
attribute [local congr] ob_congr bw_congr ib_congr ck_congr iwA_congr itA_congr aw_congr awp_congr sqA_congr bkA_congr vr_congr gd_congr
theorem pressE_val {xs : List Int} {size : Int} (hm : mixE xs=0) (h1 : 1≤size∧size≤100) (hl : 1≤xs.length) : pressE xs size 0 1 5=0∨pressE xs size 0 1 5=8:=by
  unfold pressE
  rw [if_neg (fun h=>h hm),if_neg (by omega)]
  by_cases h2 : 64 < xs.sum / size
  · rw [if_pos h2]; exact .inr rfl
  · rw [if_neg h2,if_neg (by omega)]; exact .inl rfl
def stBal (s : Sy) (m : Nat) (xs : List Int) (size : Int) (k : Nat) : Sy:={s with bef:=updF s.bef m (leftP xs size k)}
theorem stBal_zero (s : Sy) (m : Nat) (size : Int) : stBal s m (s.bef m) size 0=s:=by
  unfold stBal leftP
  have : updF s.bef m (s.bef m)=s.bef:=by
    funext y
    by_cases e : y=m
    · subst e; rw [updF_same]
    · rw [updF_ne _ _ e]
  rw [this]
theorem dnM_sub {a b : List Int} (h : b.length=a.length) : dnM a b b.length=subM a b:=by
  refine eq_of_getB 0 (by rw [dnM_len,subM_len]) fun i hi=>?_
  rw [dnM_len] at hi
  rw [dnM_get _ _ _ _ hi,if_pos (by omega),subM_get _ _ _ hi]
theorem takS_bal {s : Sy} {m : Nat} {xs : List Int} {size : Int} {k : Nat} (h : (partsR size (leftP xs size k)).length=(leftP xs size k).length) : takS (stBal s m xs size k) m (partsR size (leftP xs size k))=stBal s m xs size (k+1):=by
  unfold takS stBal
  simp only [Int.toNat_natCast,updF_same]
  have : updF (updF s.bef m (leftP xs size k)) m (dnM (leftP xs size k) (partsR size (leftP xs size k)) (partsR size (leftP xs size k)).length)=updF s.bef m (leftP xs size (k+1)):=by
    funext y
    by_cases e : y=m
    · subst e; rw [updF_same,updF_same,dnM_sub h]; rfl
    · rw [updF_ne _ _ e,updF_ne _ _ e,updF_ne _ _ e]
  rw [this]
theorem awake38p : pressV [10] 3 0 1 5=(balesP [10] 3 0 1 5 3,[1],0):=by decide +kernel
theorem topAwake38_vr : VR P false n_top_awake38 [] [] (isR (.v (.bool true))):=by
  refine vr_top_awake38 (by simp) (.inr rfl) fun _ _=>?_
  have hpr:=balePress_vr (w:=false) [10] 3 0 1 5
  rw [awake38p] at hpr
  unfold pressT at hpr
  have bl:=balesP_len [10] 3 0 1 5 3
  have g1 : ([1] : List Int).getD 0 0=1:=rfl
  generalize balesP [10] 3 0 1 5 3=bs at *
  simp (disch:=((try simp only [lZ]); omega)) only [aZ,aM,aBl,s_top_awake38,v_top_awake38]
  refine hpr.use (ld_all (by simp [zZ,blkAt,flatA,A.cells,A.one,Lft.one,retA,A.bdL,A.bd,ints])) (by simp (disch:=first | omega | simp (disch:=omega) only [aG,aM,aBl]) only [fZ,aM,aBl]) (aret_of ?_)
  simp (disch:=((try simp only [lZ]); omega)) only [aZ,aM,aBl,g1,r_top_awake38]
  exact post_v ⟨rfl,rfl⟩
set_option maxHeartbeats 4000000 in
theorem topPlantBales_vr (p : Pl) (xs0 : List Int) (size : Int) : VR P false n_top_TopPlantBales [plA true true p,.fs true (ints xs0),.v (.int .i64 size)] [] (isR (.v (.bool true))):=by
  refine vr_top_TopPlantBales (by simp) (.inr rfl) fun _ _=>?_
  have hck:=ref35Check_vr (w:=true) (v:=true) p
  have hnw:=fun H=>new_vr (H:=H) (w:=true) (v:=true) p
  have hbd:=fun g=>plantBound_vr (w:=true) (v:=true) p g
  have hex:=topAwake38_vr
  unfold plA plC at *
  by_cases h1 : (p.ms.length : Int) > 12
  case pos =>
    simp (disch:=((try simp only [lZ]); omega)) only [aZ,aM,aBl,s_top_TopPlantBales,v_top_TopPlantBales,decide_eq_true h1]
    refine hex.same rfl rfl (aret_of ?_)
    simp (disch:=((try simp only [lZ]); omega)) only [aZ,aM,aBl,r_top_TopPlantBales]
    exact post_v ⟨rfl,rfl⟩
  by_cases h2 : (p.bs.length : Int) > 24
  case pos =>
    simp (disch:=((try simp only [lZ]); omega)) only [aZ,aM,aBl,s_top_TopPlantBales,v_top_TopPlantBales,decide_eq_false h1,decide_eq_true h2]
    refine hex.same rfl rfl (aret_of ?_)
    simp (disch:=((try simp only [lZ]); omega)) only [aZ,aM,aBl,r_top_TopPlantBales]
    exact post_v ⟨rfl,rfl⟩
  simp (disch:=((try simp only [lZ]); omega)) only [aZ,aM,aBl,s_top_TopPlantBales,v_top_TopPlantBales,decide_eq_false h1,decide_eq_false h2]
  refine hck.same (by simp (disch:=first | omega | simp (disch:=omega) only [aG,aM,aBl]) only [fZ,aM,aBl]) rfl (aret_of ?_)
  by_cases hc : chkP p=0
  case neg =>
    simp (disch:=((try simp only [lZ]); omega)) only [aZ,aM,aBl,decide_eq_true (show ¬ chkP p=0 from hc)]
    refine hex.same rfl rfl (aret_of ?_)
    simp (disch:=((try simp only [lZ]); omega)) only [aZ,aM,aBl,r_top_TopPlantBales]
    exact post_v ⟨rfl,rfl⟩
  by_cases h3 : size < 1
  case pos =>
    simp (disch:=((try simp only [lZ]); omega)) only [aZ,aM,aBl,hc,decide_eq_true h3]
    refine hex.same rfl rfl (aret_of ?_)
    simp (disch:=((try simp only [lZ]); omega)) only [aZ,aM,aBl,r_top_TopPlantBales]
    exact post_v ⟨rfl,rfl⟩
  by_cases h4 : size > 100
  case pos =>
    simp (disch:=((try simp only [lZ]); omega)) only [aZ,aM,aBl,hc,decide_eq_false h3,decide_eq_true h4]
    refine hex.same rfl rfl (aret_of ?_)
    simp (disch:=((try simp only [lZ]); omega)) only [aZ,aM,aBl,r_top_TopPlantBales]
    exact post_v ⟨rfl,rfl⟩
  have hp:=(chkP_ok hc).1
  have ok:=pcheck_ok hp
  obtain ⟨m1,m2,m3⟩:=ok.mt1
  have n2:=ok.n2
  obtain ⟨f,hf⟩ : ∃ f : Nat→Int,f=fun x=>if x < xs0.length then max 0 (min 30 (xs0.getD x 0)) else 0:=⟨_,rfl⟩
  have hf4 : ∀ x,0≤f x∧f x≤30:=fun x=>by rw [hf]; simp only; split<;>omega
  have hz : List.replicate p.mt (0 : Int)=tbK p.mt f 0:=(tbK_zero _ _).symm
  rw [m3] at hbd hck ⊢
  rw [m3] at hnw
  simp (disch:=((try simp only [lZ]); omega)) only [aZ,aM,aBl,hc,decide_eq_false h3,decide_eq_false h4,hz]
  refine AWP.loopP g_top_TopPlantBales_0 (fun k : Nat=>k≤p.mt) (fun k=>[(6,.v (.int .i64 k))]) (fun k=>[(1,⟨0,ints (tbK p.mt f k)⟩)]) (fun k=>p.mt - k) 0 (by omega) ?_ ?_
  · exact Cut.fg (by simp (disch:=first | omega | simp (disch:=omega) only [aG,aM,aBl]) only [fZ,aM,aBl,fgl_nil,fgl_cons,or_true,true_or])
  rintro k hk
  have kl:=tbK_len p.mt f k
  by_cases hkt : k < p.mt
  · have ks:=tbK_set p.mt f k hkt
    by_cases hkr : k < xs0.length
    · have fk : max 0 (min 30 (xs0.getD k 0))=f k:=by rw [hf]; simp only; rw [if_pos hkr]
      simp (disch:=((try simp only [lZ]); omega)) only [aZ,aM,aBl,decide_eq_true (show (k : Int) < xs0.length by omega),fk,ks]
      refine ⟨k+1,by omega,by omega,?_⟩
      try simp (disch:=((try simp only [lZ]); omega)) only [aZ,aM,aBl]
      exact Cut.fg (by simp (disch:=first | omega | simp (disch:=omega) only [aG,aM,aBl]) only [fZ,aM,aBl,fgl_nil,fgl_cons,or_true,true_or])
    · have fk : f k=0:=by rw [hf]; simp only; rw [if_neg hkr]
      have ks2:=tbK_same p.mt f k hkt fk
      simp (disch:=((try simp only [lZ]); omega)) only [aZ,aM,aBl,decide_eq_false (show ¬ (k : Int) < xs0.length by omega)]
      refine ⟨k+1,by omega,by omega,?_⟩
      rw [← ks2]
      try simp (disch:=((try simp only [lZ]); omega)) only [aZ,aM,aBl]
      exact Cut.fg (by simp (disch:=first | omega | simp (disch:=omega) only [aG,aM,aBl]) only [fZ,aM,aBl,fgl_nil,fgl_cons,or_true,true_or])
  have hke : k=p.mt:=by omega
  subst hke
  rw [tbK_all]
  have tl : (tb p.mt f).length=p.mt:=tb_len _ _
  have tgb : ∀ x,0≤(tb p.mt f).getD x 0∧(tb p.mt f).getD x 0≤30:=fun x=>by
    by_cases hx : x < p.mt
    · rw [tb_get _ _ _ hx]; exact hf4 x
    · rw [get_out tl (by omega)]; omega
  have htv:=sum35_vr (w:=false) (tb p.mt f) (by omega) (fun x=>by have:=tgb x; omega)
  obtain ⟨gs,hgs⟩ : ∃ gs,gs=sm (tb p.mt f).length fun x=>(tb p.mt f).getD x 0:=⟨_,rfl⟩
  rw [← hgs] at htv
  have hgb : 0≤gs∧gs≤480:=by
    have:=sm_bd (n:=(tb p.mt f).length) (f:=fun x=>(tb p.mt f).getD x 0) (c:=30) fun x _=>tgb x
    omega
  have hbn : bndR p gs=(gs*perP p,0):=by unfold bndR; rw [if_neg (fun h=>h hc),if_neg (by omega)]
  have hmul:=bnd_mul hc (g:=gs) (by omega)
  have hbd1:=hbd gs
  rw [hbn] at hbd1
  simp (disch:=((try simp only [lZ]); omega)) only [aZ,aM,aBl]
  refine htv.use ⟨ld_slI _ 1 0 _ _ tl.symm rfl,trivial⟩ rfl (aret_of ?_)
  simp (disch:=((try simp only [lZ]); omega)) only [aZ,aM,aBl]
  refine hbd1.same (by simp (disch:=first | omega | simp (disch:=omega) only [aG,aM,aBl]) only [fZ,aM,aBl]) rfl (aret_of ?_)
  simp (disch:=((try simp only [lZ]); omega)) only [aZ,aM,aBl]
  refine (hnw _ hc).mono ?_
  rintro r K0 ⟨a0,rfl,P0,G0,L0⟩
  have B0 : blkAt K0 0 0=some [.v (.int .i64 p.mt),.fs true (mcs true p.ms),.fs true (bts p.bs),.v (.int .i64 p.fd)]:=G0.at rfl (fun h=>h)
  have F0 : blkAt K0 1 0=some (ints (tb p.mt f)):=G0.at rfl (fun h=>h)
  have N0 : ¬ ftp p a0 0:=nftp_lo L0 (by simp)
  have N1 : ¬ ftp p a0 1:=nftp_lo L0 (by simp)
  clear L0 G0
  refine aret_of ?_
  by_cases hn3 : gs*perP p > 3000
  case pos =>
    simp (disch:=((try simp only [lZ]); omega)) only [aZ,aM,aBl,decide_eq_true hn3]
    refine hex.same rfl rfl (aret_of ?_)
    simp (disch:=((try simp only [lZ]); omega)) only [aZ,aM,aBl,r_top_TopPlantBales]
    exact post_v ⟨rfl,rfl⟩
  obtain ⟨g,hgn⟩ : ∃ g : Nat,gs=g:=⟨gs.toNat,by omega⟩
  have hgp : gs*perP p=((g*(perP p).toNat : Nat) : Int):=by rw [hgn,Int.natCast_mul,Int.toNat_of_nonneg hmul.2.2.1]
  have hNN : ∃ N,N=g*(perP p).toNat:=⟨_,rfl⟩
  obtain ⟨N,hN⟩:=hNN
  rw [← hN] at hgp
  have D0 : DInv p a0 (newS p) 0 K0:=⟨P0,Iv.new p,noH_new p,B0,N0,fun x=>by rw [new_tot]; exact (zeros_get _ _).symm,fun x=>by rw [show (newS p).fed.getD x 0=0 from zeros_get _ _]; exact Int.le_refl _⟩
  have hfit:=fit_small (c:=30) m2 (fed:=(newS p).fed) (f:=f) (fun x _=>hf4 x) D0.fd (by omega)
  have hfd:=feed_s (j:=1) (v:=0) (xs:=tb p.mt f) hp P0 D0.iv F0 N1
  rw [tl,hfit] at hfd
  simp (disch:=((try simp only [lZ]); omega)) only [aZ,aM,aBl,decide_eq_false hn3]
  refine hfd.mono ?_
  rintro r K2 ⟨rfl,P2,T2⟩
  have F2:=T2.keep F0 N1
  have D2:=D0.feed ok (c:=30) hfit (fun x=>(tgb x).2) P2 T2
  have ef : ∀ x,(feedR p (newS p) (tb p.mt f)).fed.getD x 0=(tb p.mt f).getD x 0:=fun x=>by
    unfold feedR
    rw [if_pos hfit]
    show (plusM (zeros p.mt) (tb p.mt f)).getD x 0=_
    rw [plus_get (zeros_ok _).1 tl,zeros_get]; omega
  have hsg : sumI p (feedR p (newS p) (tb p.mt f))≤g:=by
    rw [← hgn,hgs,tl]
    refine sm_mono fun x _=>?_
    have q1:=(ins_tot D2.iv.1 x).1
    have q2:=D2.eq x
    have q3:=ef x
    omega
  have hz0:=sumI_bnd hc g D2.iv.1 D2.nh hsg
  rw [← hN] at hz0
  have hr:=run_e hp P2 D2.iv N (by omega)
  refine aret_of ?_
  rw [hgp]
  simp (disch:=((try simp only [lZ]); omega)) only [aZ,aM,aBl]
  refine hr.mono ?_
  rintro r K3 ⟨rfl,s1,a1,P3,T3,I3,E3⟩
  have D3:=D2.run hp P3 T3 I3 E3
  have F3:=T3.keep F2.1 F2.2
  have hz3 : sumI p s1=0:=E3.sumI.trans hz0
  have ra : (a1 .root).1=(a0 .root).1:=by rw [T3.2.2]
  have ef3 : ∀ x,s1.fed.getD x 0=(tb p.mt f).getD x 0:=fun x=>by rw [E3.fed,(D2.iv.1.it hp N).2.2.2,ef]
  have hbins : ∀ x,x < p.mt→sm p.ms.length (binM p s1 x)=f x:=fun x hx=>by
    have q1:=bins_fed I3.1 D3.eq hz3 hx
    have q2:=ef3 x
    rw [tb_get _ _ _ hx] at q2
    have q3 : binT p s1 x=sm p.ms.length (binM p s1 x):=rfl
    omega
  have bmn : ∀ x m,m < p.ms.length→0≤binM p s1 x m∧binM p s1 x m≤1073741824:=fun x m hm=>by
    unfold binM
    split
    · exact (I3.1.ok.bef m hm).2 x
    · omega
  have hN1 : ¬ ftp p a1 1:=F3.2
  have hN0 : ¬ ftp p a1 0:=D3.n0
  have D3b:=D3.b0
  clear hr hfd htv hbd1 D0 D2 P0 P2 T2 T3 F0 F2 B0 hz0 hsg E3
  refine aret_of ?_
  simp (disch:=((try simp only [lZ]); omega)) only [aZ,aM,aBl,D3b]
  refine AWP.loopM g_top_TopPlantBales_1 (fun x : Nat×Sy×List Blk=>x.1≤p.ms.length∧PM x.2.2 p a1 x.2.1∧Iv p x.2.1∧(∀ y,x.1≤y→x.2.1.bef y=s1.bef y)∧blkAt x.2.2 0 0=some [.v (.int .i64 p.mt),.fs true (mcs true p.ms),.fs true (bts p.bs),.v (.int .i64 p.fd)]∧blkAt x.2.2 1 0=some (ints (tb p.mt fun y=>f y - sm x.1 (binM p s1 y)))) (fun x=>[(14,.v (.int .i64 x.1))]) (fun x=>x.2.2) (fun x=>p.ms.length - x.1) (0,s1,K3) ⟨by omega,D3.pm,I3,fun y _=>rfl,D3b,by
    simp only [sm]
    rw [F3.1]
    congr 2
    exact tb_ext fun y _=>by omega⟩ ?_ ?_
  · exact Cut.fg (by simp (disch:=first | omega | simp (disch:=omega) only [aG,aM,aBl]) only [fZ,aM,aBl,fgl_nil,fgl_cons,or_true,true_or])
  clear D3b F3
  rintro ⟨m,s,K⟩ ⟨hm,qP,qI,qE,qB,qF⟩
  simp only at hm qP qI qE qB qF
  by_cases hmt : m < p.ms.length
  case neg =>
    have hme : m=p.ms.length:=by omega
    subst hme
    have tl2 : (tb p.mt fun y=>f y - sm p.ms.length (binM p s1 y)).length=p.mt:=tb_len _ _
    simp (disch:=((try simp only [lZ]); omega)) only [aZ,aM,aBl]
    refine AWP.loopP g_top_TopPlantBales_5 (fun x : Nat=>x≤p.mt) (fun x=>[(38,.v (.int .i64 x))]) (fun _=>[]) (fun x=>p.mt - x) 0 (by omega) ?_ ?_
    · exact Cut.fg (by simp (disch:=first | omega | simp (disch:=omega) only [aG,aM,aBl]) only [fZ,aM,aBl,fgl_nil,fgl_cons,or_true,true_or])
    rintro x hx
    by_cases hxt : x < p.mt
    · have g1 : (tb p.mt fun y => f y - sm p.ms.length (binM p s1 y)).getD x 0 = 0 := by
        rw [tb_get _ _ _ hxt,hbins x hxt]; omega
      simp (disch:=((try simp only [lZ]); omega)) only [aZ,aM,aBl,qF,g1]
      refine ⟨x+1,by omega,by omega,?_⟩
      try simp (disch:=((try simp only [lZ]); omega)) only [aZ,aM,aBl]
      exact Cut.fg (by simp (disch:=first | omega | simp (disch:=omega) only [aG,aM,aBl]) only [fZ,aM,aBl,fgl_nil,fgl_cons,or_true,true_or])
    · simp (disch:=((try simp only [lZ]); omega)) only [aZ,aM,aBl]
      refine hex.same rfl rfl (aret_of ?_)
      simp (disch:=((try simp only [lZ]); omega)) only [aZ,aM,aBl,r_top_TopPlantBales]
      exact post_v ⟨rfl,rfl⟩
  by_cases he : fndE p m=0
  case neg =>
    have hb:=bin_err ok qP m he
    rw [ra] at hb
    have hzo : ¬ outsN (p.ms.getD m [])=0:=fun hc=>he ((fnd_bin hmt).2 hc)
    have e1 : (fun y=>f y - sm (m+1) (binM p s1 y))=fun y=>f y - sm m (binM p s1 y):=by
      funext y
      simp only [sm,binM]; rw [if_neg hzo]; omega
    generalize fndE p m=fe at *
    simp (disch:=((try simp only [lZ]); omega)) only [aZ,aM,aBl]
    refine hb.mono ?_
    rintro r Q2 ⟨rfl,hQ2⟩
    subst hQ2
    refine aret_of ?_
    simp (disch:=((try simp only [lZ]); omega)) only [aZ,aM,aBl,decide_eq_true he]
    refine ⟨(m+1,s,Q2),⟨by simp only; omega,qP,qI,fun y hy=>qE y (by simp only at hy; omega),qB,by simp only; rw [e1]; exact qF⟩,by simp only; omega,?_⟩
    try simp (disch:=((try simp only [lZ]); omega)) only [aZ,aM,aBl]
    exact Cut.fg (by simp (disch:=first | omega | simp (disch:=omega) only [aG,aM,aBl]) only [fZ,aM,aBl,fgl_nil,fgl_cons,or_true,true_or])
  have hb:=bin_ok ok qP qI.1.ok m he
  rw [ra,Int.toNat_natCast] at hb
  have hzo : outsN (p.ms.getD m [])=0:=(fnd_bin hmt).1 he
  rw [qE m (Nat.le_refl _)] at hb
  have hxok:=I3.1.ok.bef m hmt
  have hsx : s.bef m=s1.bef m:=qE m (Nat.le_refl _)
  generalize hX : s1.bef m=X at *
  have hXl:=hxok.1
  have hXm : mixE X=0:=mixok_E m2 hxok
  have hpr:=balePress_vr (w:=false) X size 0 1 5
  simp (disch:=((try simp only [lZ]); omega)) only [aZ,aM,aBl]
  refine hb.mono ?_
  rintro r K4 ⟨rfl,hK4⟩
  have P4 : PM K4 p a1 s:=by rw [hK4]; exact qP.grow _
  have G4 : Gr nof K K4:=by rw [hK4]; exact Gr.app _ _
  have x4 : blkAt K4 K.length 1=some (ints X):=by rw [hK4,blkAt_new0]; rfl
  have B4:=G4.at qB fun h=>h
  have F4:=G4.at qF fun h=>h
  clear hK4
  refine aret_of ?_
  rcases pressE_val hXm (show 1≤size∧size≤100 by omega) (by omega) with hpe | hpe
  case inr =>
    have hpv : pressV X size 0 1 5=([],[],8):=by unfold pressV; rw [hpe,if_pos (by omega)]
    rw [hpv] at hpr
    unfold pressT at hpr
    simp (disch:=((try simp only [lZ]); omega)) only [aZ,aM,aBl]
    refine hpr.use ⟨ld_slI K4 _ _ _ _ hXl.symm x4,Ld.refl rfl,Ld.refl rfl,Ld.refl rfl,Ld.refl rfl,trivial⟩ (by simp (disch:=first | omega | simp (disch:=omega) only [aG,aM,aBl]) only [fZ,aM,aBl]) (aret_of ?_)
    simp (disch:=((try simp only [lZ]); omega)) only [aZ,aM,aBl]
    refine hex.same rfl rfl (aret_of ?_)
    simp (disch:=((try simp only [lZ]); omega)) only [aZ,aM,aBl,r_top_TopPlantBales]
    exact post_v ⟨rfl,rfl⟩
  have pk:=pressE_ok hpe
  have hpv:=press_v hpe
  rw [hpv] at hpr
  unfold pressT at hpr
  have hlf:=pk.left (Nat.le_refl (pressN X size))
  have hrl:=hlf.len
  have hrs:=hlf.sum
  have hbl:=balesP_len X size 0 1 5 (pressN X size)
  have hrm:=mixE_get0 hlf.mix
  have htr:=sum35_vr (w:=true) (leftP X size (pressN X size)) (by omega) hrm
  rw [sm_list,hrs] at htr
  have hn5:=pk.n5
  have hn4:=pk.n4
  rw [Int.add_mul,Int.one_mul] at hn5
  obtain ⟨W,hW⟩ : ∃ W : Nat→Int,W=fun y=>f y - sm m (binM p s1 y):=⟨_,rfl⟩
  have wb : ∀ x,-1073741824*25≤W x∧W x≤30:=fun x=>by
    rw [hW]
    have q1:=hf4 x
    have q2:=sm_bd (n:=m) (f:=binM p s1 x) (c:=1073741824) fun j hj=>bmn x j (by omega)
    simp only
    omega
  rw [← hW] at F4
  have wl : (tb p.mt W).length=p.mt:=tb_len _ _
  have lF4:=blkAt_lt F4
  have hse:=blk_self F4
  have hnbb : ((pressN X size : Nat) : Int)≤17179869184:=by
    have q1:=sm_bd (n:=X.length) (f:=fun x=>X.getD x 0) (c:=1073741824) fun j _=>mixE_get0 hXm j
    rw [sm_list] at q1
    have q2 : ((pressN X size : Nat) : Int)*1≤(pressN X size : Nat)*size:=Int.mul_le_mul_of_nonneg_left (by omega) (by omega)
    omega
  generalize hnb : pressN X size=nb at *
  generalize hrest : leftP X size nb=rest at *
  simp (disch:=((try simp only [lZ]); omega)) only [aZ,aM,aBl]
  refine hpr.use ⟨ld_slI K4 _ _ _ _ hXl.symm x4,Ld.refl rfl,Ld.refl rfl,Ld.refl rfl,Ld.refl rfl,trivial⟩ (by simp (disch:=first | omega | simp (disch:=omega) only [aG,aM,aBl]) only [fZ,aM,aBl]) (aret_of ?_)
  simp (disch:=((try simp only [lZ]); omega)) only [aZ,aM,aBl,B4,decide_eq_false (show ¬ ((rest.length : Int)≠p.mt) by omega)]
  refine htr.same (by simp (disch:=first | omega | simp (disch:=omega) only [aG,aM,aBl]) only [fZ,aM,aBl]) rfl (aret_of ?_)
  simp (disch:=((try simp only [lZ]); omega)) only [aZ,aM,aBl,decide_eq_false (show ¬ (X.sum - nb*size≥size) by omega)]
  refine AWP.loopM g_top_TopPlantBales_2 (fun j : Nat=>j≤rest.length) (fun j=>[(23,.v (.int .i64 j))]) (fun j=>K4.set 1 ⟨0,ints (dnM (tb p.mt W) rest j)⟩) (fun j=>rest.length - j) 0 (by omega) ?_ ?_
  · rw [dnM_zero,hse]
    exact Cut.fg (by simp (disch:=first | omega | simp (disch:=omega) only [aG,aM,aBl]) only [fZ,aM,aBl,fgl_nil,fgl_cons,or_true,true_or])
  rintro j hj
  have dl:=dnM_len (tb p.mt W) rest j
  have aT : blkAt (K4.set 1 ⟨0,ints (dnM (tb p.mt W) rest j)⟩) 1 0=some (ints (dnM (tb p.mt W) rest j)):=blkAt_set_same _ _ _ _ lF4
  by_cases hjt : j < rest.length
  · have e0 : (dnM (tb p.mt W) rest j).getD j 0=W j:=by rw [dnM_get _ _ _ _ (by omega),if_neg (by omega),tb_get _ _ _ (by omega)]
    have e1:=dnM_set (tb p.mt W) rest j (by omega)
    rw [tb_get _ _ _ (by omega)] at e1
    have q1:=wb j
    have q2:=hrm j
    simp (disch:=((try simp only [lZ]); omega)) only [aZ,aM,aBl,aT,e0,e1]
    refine ⟨j+1,by omega,by omega,?_⟩
    try simp (disch:=((try simp only [lZ]); omega)) only [aZ,aM,aBl]
    exact Cut.fg (by simp (disch:=first | omega | simp (disch:=omega) only [aG,aM,aBl]) only [fZ,aM,aBl,fgl_nil,fgl_cons,or_true,true_or])
  have hje : j=rest.length:=by omega
  subst hje
  have e1 : dnM (tb p.mt W) rest rest.length=tb p.mt fun y=>W y - rest.getD y 0 - (X.getD y 0 - (leftP X size 0).getD y 0):=by
    refine eq_of_getB 0 (by rw [dl,wl,tb_len]) fun x hx=>?_
    rw [dl,wl] at hx
    rw [dnM_get _ _ _ _ (by omega),if_pos (by omega),tb_get _ _ _ hx,tb_get _ _ _ hx]
    unfold leftP
    omega
  have P5 : PM (K4.set 1 ⟨0,ints (dnM (tb p.mt W) rest rest.length)⟩) p a1 (stBal s m X size 0):=by
    rw [← hsx,stBal_zero]
    exact P4.gr (Gr.set (F:=one 1) _ _ _ rfl) fun c hc hf=>hN1 ⟨c,hc,hf⟩
  have I5 : Iv p (stBal s m X size 0):=by rw [← hsx,stBal_zero]; exact qI
  have B5 : blkAt (K4.set 1 ⟨0,ints (dnM (tb p.mt W) rest rest.length)⟩) 0 0=_:=(blkAt_set_ne _ _ _ _ _ (by omega)).trans B4
  rw [e1] at P5 B5 aT ⊢
  generalize K4.set 1 ⟨0,ints (tb p.mt fun y=>W y - rest.getD y 0 - (X.getD y 0 - (leftP X size 0).getD y 0))⟩=K5 at *
  clear P4 G4 x4 B4 F4 hse hpr htr
  simp (disch:=((try simp only [lZ]); omega)) only [aZ,aM,aBl]
  refine AWP.loopM g_top_TopPlantBales_3 (fun x : Nat×List Blk=>x.1≤nb∧PM x.2 p a1 (stBal s m X size x.1)∧Iv p (stBal s m X size x.1)∧blkAt x.2 0 0=some [.v (.int .i64 p.mt),.fs true (mcs true p.ms),.fs true (bts p.bs),.v (.int .i64 p.fd)]∧blkAt x.2 1 0=some (ints (tb p.mt fun y=>W y - rest.getD y 0 - (X.getD y 0 - (leftP X size x.1).getD y 0)))) (fun x=>[(27,.v (.int .i64 x.1))]) (fun x=>x.2) (fun x=>nb - x.1) (0,K5) ⟨by omega,P5,I5,B5,aT⟩ ?_ ?_
  · exact Cut.fg (by simp (disch:=first | omega | simp (disch:=omega) only [aG,aM,aBl]) only [fZ,aM,aBl,fgl_nil,fgl_cons,or_true,true_or])
  clear P5 I5 B5 aT
  rintro ⟨j,Q⟩ ⟨hj,jP,jI,jB,jF⟩
  simp only at hj jP jI jB jF
  by_cases hjt : j < nb
  case neg =>
    have hje : j=nb:=by omega
    subst hje
    have e2 : (fun y=>W y - rest.getD y 0 - (X.getD y 0 - (leftP X size j).getD y 0))=fun y=>f y - sm (m+1) (binM p s1 y):=by
      funext y
      rw [hrest,hW]
      simp only [sm,binM]
      rw [if_pos hzo,hX]; omega
    rw [e2] at jF
    simp (disch:=((try simp only [lZ]); omega)) only [aZ,aM,aBl]
    refine ⟨(m+1,stBal s m X size j,Q),⟨by simp only; omega,jP,jI,fun y hy=>by
      simp only at hy
      simp only [stBal]
      rw [updF_ne _ _ (by omega)]; exact qE y (by omega),jB,jF⟩,by simp only; omega,?_⟩
    try simp (disch:=((try simp only [lZ]); omega)) only [aZ,aM,aBl]
    exact Cut.fg (by simp (disch:=first | omega | simp (disch:=omega) only [aG,aM,aBl]) only [fZ,aM,aBl,fgl_nil,fgl_cons,or_true,true_or])
  have hpt:=pk.parts (k:=j) (by omega)
  have hlj:=pk.left (k:=j) (by omega)
  obtain ⟨mx,hmx⟩ : ∃ mx,mx=partsR size (leftP X size j):=⟨_,rfl⟩
  rw [← hmx] at hpt
  have mxl : mx.length=p.mt:=by rw [hpt.2.1.len,hlj.len]; exact hXl
  have mxb : ∀ x,0≤mx.getD x 0∧mx.getD x 0≤(leftP X size j).getD x 0:=fun x=>by
    by_cases hx : x < p.mt
    · exact hpt.2.2 x (by omega)
    · rw [get_out mxl (by omega),get_out (hlj.len.trans hXl) (by omega)]; omega
  have ljb:=fun x=>mixE_get0 hlj.mix x
  have mxm : mixE mx=0:=mixok_E m2 ⟨mxl,fun x=>by have:=mxb x; have:=ljb x; omega⟩
  have mxs' : mx.sum=size:=hpt.2.1.sum
  have hbi:=bl_idx true true (balesP X size 0 1 5 nb) .i64 j (by omega) (by omega)
  rw [Int.toNat_natCast,balesP_get _ _ _ _ _ _ _ hjt] at hbi
  unfold baleP at hbi
  rw [← hmx] at hbi
  have hgr:=grams_vr (w:=true) ⟨1+j,0,5,mx⟩
  rw [totM_ok mxm,mxs'] at hgr
  unfold blA blC pairT at hgr
  have P6:=jP.grow [⟨0,[.v (.int .i64 (1+j)),.v (.int .i64 0),.v (.int .i64 5),.fs true (ints mx)]⟩]
  have hte : takE p (stBal s m X size j) m mx=0:=by
    unfold takE
    rw [if_neg (fun h=>h he),if_neg (fun h=>h mxl),if_neg]
    rintro ⟨i,hi,hbad⟩
    have:=mxb i
    unfold badT stBal at hbad
    simp only [Int.toNat_natCast,updF_same] at hbad
    omega
  have htk:=take_pm (w:=true) hp P6 jI.1 m mx
  rw [ra,hte,if_pos rfl] at htk
  have hts : takS (stBal s m X size j) m mx=stBal s m X size (j+1):=by rw [hmx]; exact takS_bal (by rw [← hmx,mxl,hlj.len]; exact hXl.symm)
  have I7 : Iv p (stBal s m X size (j+1)):=by rw [← hts]; exact jI.take hte
  rw [hts] at htk
  have lQ:=blkAt_lt jB
  simp (disch:=((try simp only [lZ]); omega)) only [aZ,aM,aBl,hbi]
  refine hgr.same (by simp (disch:=first | omega | simp (disch:=omega) only [aG,aM,aBl]) only [fZ,aM,aBl]) rfl (aret_of ?_)
  simp (disch:=((try simp only [lZ]); omega)) only [aZ,aM,aBl,jB,decide_eq_false (show ¬ ((mx.length : Int)≠p.mt) by omega)]
  refine htk.mono ?_
  rintro r K7 ⟨rfl,P7,T7⟩
  have B7:=(T7.keep (i:=0) (v:=0) ((blkAt_app _ _ _ _ lQ).trans jB) hN0).1
  have F7:=T7.keep (i:=1) (v:=0) ((blkAt_app _ _ _ _ (blkAt_lt jF)).trans jF) hN1
  have Y7:=(T7.keep (i:=Q.length) (v:=0) (by rw [blkAt_new0]; rfl) (jP.nftp (Nat.le_refl _))).1
  have lF7:=blkAt_lt F7.1
  have hse:=blk_self F7.1
  obtain ⟨V,hV⟩ : ∃ V : Nat→Int,V=fun y=>W y - rest.getD y 0 - (X.getD y 0 - (leftP X size j).getD y 0):=⟨_,rfl⟩
  rw [← hV] at F7 hse
  have vl : (tb p.mt V).length=p.mt:=tb_len _ _
  refine aret_of ?_
  simp (disch:=((try simp only [lZ]); omega)) only [aZ,aM,aBl,Y7]
  refine AWP.loopM g_top_TopPlantBales_4 (fun i : Nat=>i≤mx.length) (fun i=>[(34,.v (.int .i64 i))]) (fun i=>K7.set 1 ⟨0,ints (dnM (tb p.mt V) mx i)⟩) (fun i=>mx.length - i) 0 (by omega) ?_ ?_
  · rw [dnM_zero,hse]
    exact Cut.fg (by simp (disch:=first | omega | simp (disch:=omega) only [aG,aM,aBl]) only [fZ,aM,aBl,fgl_nil,fgl_cons,or_true,true_or])
  rintro i hi
  have dl7:=dnM_len (tb p.mt V) mx i
  have aT : blkAt (K7.set 1 ⟨0,ints (dnM (tb p.mt V) mx i)⟩) 1 0=some (ints (dnM (tb p.mt V) mx i)):=blkAt_set_same _ _ _ _ lF7
  have aY : blkAt (K7.set 1 ⟨0,ints (dnM (tb p.mt V) mx i)⟩) Q.length 0=_:=(blkAt_set_ne _ _ _ _ _ (by have:=blkAt_lt jF; omega)).trans Y7
  by_cases hit : i < mx.length
  · have e0 : (dnM (tb p.mt V) mx i).getD i 0=V i:=by rw [dnM_get _ _ _ _ (by omega),if_neg (by omega),tb_get _ _ _ (by omega)]
    have e1:=dnM_set (tb p.mt V) mx i (by omega)
    rw [tb_get _ _ _ (by omega)] at e1
    have q1:=wb i
    have q2:=hrm i
    have q3:=mxb i
    have q4:=ljb i
    have q5:=hxok.2 i
    have q6 : V i=W i - rest.getD i 0 - (X.getD i 0 - (leftP X size j).getD i 0):=by rw [hV]
    simp (disch:=((try simp only [lZ]); omega)) only [aZ,aM,aBl,aT,aY,e0,e1]
    refine ⟨i+1,by omega,by omega,?_⟩
    try simp (disch:=((try simp only [lZ]); omega)) only [aZ,aM,aBl]
    exact Cut.fg (by simp (disch:=first | omega | simp (disch:=omega) only [aG,aM,aBl]) only [fZ,aM,aBl,fgl_nil,fgl_cons,or_true,true_or])
  have hie : i=mx.length:=by omega
  subst hie
  have e2 : dnM (tb p.mt V) mx mx.length=tb p.mt fun y=>W y - rest.getD y 0 - (X.getD y 0 - (leftP X size (j+1)).getD y 0):=by
    refine eq_of_getB 0 (by rw [dl7,vl,tb_len]) fun x hx=>?_
    rw [dl7,vl] at hx
    rw [dnM_get _ _ _ _ (by omega),if_pos (by omega),tb_get _ _ _ hx,tb_get _ _ _ hx,hV]
    have : (leftP X size (j+1)).getD x 0=(leftP X size j).getD x 0 - mx.getD x 0:=by
      show (subM _ _).getD x 0=_
      rw [subM_get _ _ _ (by rw [hlj.len]; omega),← hmx]
    rw [this]; simp only; omega
  have P8 : PM (K7.set 1 ⟨0,ints (dnM (tb p.mt V) mx mx.length)⟩) p a1 (stBal s m X size (j+1)):=P7.gr (Gr.set (F:=one 1) _ _ _ rfl) fun c hc hf=>hN1 ⟨c,hc,hf⟩
  have B8 : blkAt (K7.set 1 ⟨0,ints (dnM (tb p.mt V) mx mx.length)⟩) 0 0=_:=(blkAt_set_ne _ _ _ _ _ (by omega)).trans B7
  rw [e2] at P8 B8 aT aY ⊢
  simp (disch:=((try simp only [lZ]); omega)) only [aZ,aM,aBl,aY]
  have wj : IntKind.wrap .i64 ((j : Int)+1)=(j : Int)+1:=wrap_in (by omega) (by omega)
  refine ⟨(j+1,_),⟨by simp only; omega,P8,I7,B8,aT⟩,by simp only; omega,?_⟩
  try simp (disch:=((try simp only [lZ]); omega)) only [aZ,aM,aBl]
  exact Cut.fg (by simp (disch:=first | omega | simp (disch:=omega) only [aG,aM,aBl]) only [fZ,aM,aBl,fgl_nil,fgl_cons,or_true,true_or,wj])
end Go.Proofs.Ytdkoindoljngmaa
