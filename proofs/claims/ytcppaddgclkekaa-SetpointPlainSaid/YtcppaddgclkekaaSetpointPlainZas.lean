/- Lemmas and walks that the proof of SetpointPlain uses. No statement is claimed here. -/
import Derived.Test.YtcppaddgclkekaaSetpointPlainZar
namespace Go.Proofs.Ytcppaddgclkekaa
open Go Go.Lft
set_option linter.unusedSimpArgs false
set_option linter.unusedVariables false
attribute [local congr] ob_congr bw_congr ib_congr ck_congr iwA_congr itA_congr aw_congr awp_congr sqA_congr bkA_congr vr_congr gd_congr
def fedE (p : Pl) (xs : List Int) : Int:=if xs.length≠p.mt then 18 else if mixE xs≠0 then 1 else if 2000 < xs.sum then 1 else 0
theorem fedE_ok {p : Pl} {xs : List Int} (h : fedE p xs=0) : xs.length=p.mt∧mixE xs=0∧xs.sum≤2000:=by
  unfold fedE at h
  split at h
  · cases h
  split at h
  · cases h
  split at h
  · cases h
  rename_i h1 h2 h3
  exact ⟨Classical.not_not.1 h1,Classical.not_not.1 h2,by omega⟩
theorem spFed_vr {w v u : Bool} {p : Pl} (ok : POk p) (xs : List Int) : VR P false n_setpoint_fed [plA w v p,.fs u (ints xs)] [] (isR (.v (.int .i64 (fedE p xs)))):=by
  refine vr_setpoint_fed (by simp) (.inr rfl) fun _ _=>?_
  obtain ⟨m1,m2,m3⟩:=ok.mt1
  unfold plA plC
  rw [m3]
  by_cases h1 : (xs.length : Int)≠p.mt
  · have e : fedE p xs=18:=by unfold fedE; rw [if_pos (by omega)]
    rw [e]
    simp (disch:=((try simp only [lZ]); omega)) only [aZ,aM,s_setpoint_fed,v_setpoint_fed,decide_eq_true h1,r_setpoint_fed]
    exact post_v ⟨rfl,rfl⟩
  have h1' : xs.length=p.mt:=by omega
  simp (disch:=((try simp only [lZ]); omega)) only [aZ,aM,s_setpoint_fed,v_setpoint_fed,decide_eq_false h1]
  refine AWP.loopP g_setpoint_fed_0 (fun k : Nat=>k≤xs.length∧∀ i,i < k→0≤xs.getD i 0∧xs.getD i 0≤1073741824) (fun k=>[(2,.v (.int .i64 0)),(4,.v (.int .i64 (sumT xs k))),(5,.v (.int .i64 k))]) (fun _=>[]) (fun k=>xs.length - k) 0 ⟨by omega,fun i hi=>absurd hi (by omega)⟩ ?_ ?_
  · rw [sumT_zero]
    exact Cut.fg (by simp (disch:=first | omega | simp (disch:=omega) only [aG,aM]) only [fZ,aM,fgl_nil,fgl_cons,or_true,true_or])
  rintro k ⟨hk,hg⟩
  have hb:=sumT_bd xs 0 1073741824 k hk hg
  by_cases hkt : k < xs.length
  · by_cases hbad : xs.getD k 0 < 0∨xs.getD k 0 > 1073741824
    · have e : fedE p xs = 1 := by
        unfold fedE
        rw [if_neg (by omega),if_pos]
        intro hm
        have:=mixE_get hm k hkt
        omega
      rw [e]
      rcases hbad with h | h
      · simp (disch:=((try simp only [lZ]); omega)) only [aZ,aM,decide_eq_true h,r_setpoint_fed]
        exact post_v ⟨rfl,rfl⟩
      · simp (disch:=((try simp only [lZ]); omega)) only [aZ,aM,decide_eq_false (show ¬ xs.getD k 0 < 0 by omega),decide_eq_true h,r_setpoint_fed]
        exact post_v ⟨rfl,rfl⟩
    · have hs:=sumT_succ xs k hkt
      simp (disch:=((try simp only [lZ]); omega)) only [aZ,aM,decide_eq_false (show ¬ xs.getD k 0 < 0 by omega),decide_eq_false (show ¬ xs.getD k 0 > 1073741824 by omega)]
      refine ⟨k+1,⟨by omega,fun i hi=>?_⟩,by omega,?_⟩
      · by_cases e : i=k
        · subst e; omega
        · exact hg i (by omega)
      · rw [hs]
        exact Cut.fg (by simp (disch:=first | omega | simp (disch:=omega) only [aG,aM]) only [fZ,aM,fgl_nil,fgl_cons,or_true,true_or])
  have hke : k=xs.length:=by omega
  subst hke
  rw [sumT_all] at hb ⊢
  have hm : mixE xs=0:=mixE_ok.2 ⟨by omega,fun x hx=>by obtain ⟨i,hi,rfl⟩:=get_mem 0 hx; exact hg i hi⟩
  by_cases h2 : xs.sum > 2000
  · have e : fedE p xs=1:=by unfold fedE; rw [if_neg (by omega),if_neg (fun h=>h hm),if_pos h2]
    rw [e]
    simp (disch:=((try simp only [lZ]); omega)) only [aZ,aM,decide_eq_true h2,r_setpoint_fed]
    exact post_v ⟨rfl,rfl⟩
  · have e : fedE p xs=0:=by unfold fedE; rw [if_neg (by omega),if_neg (fun h=>h hm),if_neg h2]
    rw [e]
    simp (disch:=((try simp only [lZ]); omega)) only [aZ,aM,decide_eq_false h2,r_setpoint_fed]
    exact post_v ⟨rfl,rfl⟩
theorem spHeavy_vr {u : Bool} (xs : List Int) (hl : xs.length≤1000) : VR P false n_setpoint_heavy [.fs u (ints xs)] [] (isR (.v (.bool (decide (0≤idxE posM xs))))):=by
  refine vr_setpoint_heavy (by simp) (.inr rfl) fun _ _=>?_
  simp (disch:=((try simp only [lZ]); omega)) only [aZ,aM,s_setpoint_heavy,v_setpoint_heavy]
  refine AWP.loopP g_setpoint_heavy_0 (fun k : Nat=>k≤xs.length∧∀ i,i < k→¬ posM (xs.getD i 0)) (fun k=>[(1,.v (.bool false)),(2,.v (.int .i64 k))]) (fun _=>[]) (fun k=>xs.length - k) 0 ⟨by omega,fun i hi=>absurd hi (by omega)⟩ ?_ ?_
  · exact Cut.fg (by simp (disch:=first | omega | simp (disch:=omega) only [aG,aM]) only [fZ,aM,fgl_nil,fgl_cons,or_true,true_or])
  rintro k ⟨hk,hg⟩
  by_cases hkt : k < xs.length
  · by_cases hp : xs.getD k 0 > 0
    · have e:=idxE_hit 0 hkt hg hp
      rw [decide_eq_true (show 0≤idxE posM xs by omega)]
      simp (disch:=((try simp only [lZ]); omega)) only [aZ,aM,decide_eq_true hp,r_setpoint_heavy]
      exact post_v ⟨rfl,rfl⟩
    · simp (disch:=((try simp only [lZ]); omega)) only [aZ,aM,decide_eq_false hp]
      refine ⟨k+1,⟨by omega,fun i hi=>?_⟩,by omega,?_⟩
      · by_cases e : i=k
        · subst e; exact hp
        · exact hg i (by omega)
      · exact Cut.fg (by simp (disch:=first | omega | simp (disch:=omega) only [aG,aM]) only [fZ,aM,fgl_nil,fgl_cons,or_true,true_or])
  have hke : k=xs.length:=by omega
  subst hke
  have e:=idxE_none 0 hg
  rw [decide_eq_false (show ¬ 0≤idxE posM xs by omega)]
  simp (disch:=((try simp only [lZ]); omega)) only [aZ,aM,r_setpoint_heavy]
  exact post_v ⟨rfl,rfl⟩
def yN (p : Pl) (xs : List Int) : Nat:=xs.sum.toNat*(perP p).toNat
def yS (p : Pl) (xs : List Int) : Sy:=itS p (feedS p (newS p) xs) (yN p xs)
def yldM (p : Pl) (xs : List Int) (m : Nat) : List Int:=if binN p m then (yS p xs).bef m else zeros p.mt
def yldL (p : Pl) (xs : List Int) : List (List Int):=(List.range p.ms.length).map (yldM p xs)
def yldR (p : Pl) (xs : List Int) : List (List Int)×Int:=if chkP p≠0 then ([],chkP p) else if fedE p xs≠0 then ([],fedE p xs) else (yldL p xs,0)
def yldT (x : List (List Int)×Int) : A:=.tup [.fs true (rows true x.1),.v (.int .i64 x.2)]
theorem fed_fit {p : Pl} {xs : List Int} (hf : fedE p xs=0) : fitE p.mt (newS p).fed xs=0:=by
  obtain ⟨h1,h2,h3⟩:=fedE_ok hf
  unfold fitE
  rw [if_neg (by omega),if_neg (fun h=>h h2),if_neg]
  rintro ⟨i,hi,h4⟩
  have:=mixE_get h2 i hi
  rw [show (newS p).fed.getD i 0=0 from zeros_get _ _] at h4
  omega
theorem y_zero {p : Pl} (hc : chkP p=0) {xs : List Int} (hf : fedE p xs=0) : Iv p (feedS p (newS p) xs)∧noH (feedS p (newS p) xs)∧sumI p (yS p xs)=0:=by
  have hp:=(chkP_ok hc).1
  have ok:=pcheck_ok hp
  obtain ⟨h1,h2,h3⟩:=fedE_ok hf
  have hi:=(Iv.new p).feed ok (fed_fit hf)
  have hn : noH (feedS p (newS p) xs):=noH_new p
  have hg:=sum_mix h2
  refine ⟨hi,hn,sumI_bnd hc _ hi.1 hn ?_⟩
  rw [Int.toNat_of_nonneg hg.1,← sm_list,h1]
  refine sm_mono fun x _=>?_
  have q1:=(ins_tot hi.1 x).1
  have q2:=feed_tot ok (Gd.new p) h1 x
  rw [new_tot] at q2
  omega
theorem ins_none {p : Pl} {s : Sy} (hg : Gd p s) (h : sumI p s=0) : ¬ 0≤idxE posM (insL p s):=by
  rw [idxE_mem]
  rintro ⟨y,hy,hp⟩
  obtain ⟨i,hi,rfl⟩:=get_mem 0 hy
  rw [insL_len] at hi
  have:=sm_zero_all (fun x _=>(ins_tot hg x).2) h hi
  unfold insL at hp
  rw [tb_get _ _ _ hi,this] at hp
  unfold posM at hp; omega
theorem ins_all0 {p : Pl} {s : Sy} (hg : Gd p s) (h : ¬ 0≤idxE posM (insL p s)) : ∀ x,x < p.mt→insT p s x=0:=fun x hx=>by
  have q:=(ins_tot hg x).2
  apply Classical.byContradiction
  intro hne
  refine h (idxE_mem.2 ⟨_,mem_get 0 (k:=x) (l:=insL p s) (by rw [insL_len]; exact hx),?_⟩)
  unfold insL
  rw [tb_get _ _ _ hx]
  unfold posM; omega
theorem yld_nil (H : List Blk) (e : Int) : Fz 0 H (.tup [.v (.slice none 0 0),.v (.int .i64 e)]) (yldT ([],e)):=Fz.tup ⟨fz_nil _ _,Fz.refl rfl,trivial⟩
theorem ins_all0' {p : Pl} {s : Sy} (g1 : Gd p s) (hpos : ¬ 0≤idxE posM (insL p s)) : ∀ x,insT p s x=0:=fun x=>by
  have h0:=(ins_tot g1 x).2
  by_cases hx : x < p.mt
  · exact ins_all0 g1 hpos x hx
  · have e1 : sm p.ms.length (inM p s x) = 0 := by
      rw [sm_congr (g:=fun _=>0) fun m hm=>by unfold inM; split; rfl; exact get_out (g1.bl m hm).1 (by omega),sm_zero]
    have e2 : sm p.bs.length (inB p s x)=0:=by
      rw [sm_congr (g:=fun _=>0) fun i hi=>by
        unfold inB
        rw [get_out (g1.fl i hi).1 (by omega),sm_congr (g:=fun _=>0) fun q hq=>get_out (g1.rl i hi q hq).1 (by omega),sm_zero]; rfl,sm_zero]
    unfold insT; omega
def refs (mt : Nat) (J : Nat→Nat×Nat) (k : Nat) : List A:=(List.range k).map fun i=>A.sl (J i).1 (J i).2 1 0 mt
theorem refs_len (mt : Nat) (J : Nat→Nat×Nat) (k : Nat) : (refs mt J k).length=k:=by simp [refs]
theorem refs_succ (mt : Nat) (J : Nat→Nat×Nat) (k : Nat) (x : Nat×Nat) : refs mt (fun i=>if i=k then x else J i) (k+1)=refs mt J k++[A.sl x.1 x.2 1 0 mt]:=by
  unfold refs
  rw [List.range_succ,List.map_append]
  congr 1
  · exact List.map_congr_left fun i hi=>by have:=List.mem_range.1 hi; simp only [if_neg (show ¬ i=k by omega)]
  · simp
theorem bins_step {p : Pl} {a : Ad} {s : Sy} {Q QL : List Blk} {F m : Nat} {J : Nat → Nat × Nat} {l0 : List A} {Y : Nat → List Int} (x : Nat × Nat) (g : Gr nof Q QL) (qP : PM Q p a s) (qB : blkAt Q 0 0 = some l0) (qF : blkAt Q F m = some (refs p.mt J m))
    (qJ : ∀ i,i < m→blkAt Q (J i).1 (J i).2=some (ints (Y i))∧(J i).1≠F) (nF : ¬ ftp p a F) (hF0 : 0 < F) (hx : blkAt QL x.1 x.2=some (ints (Y m))) (hxF : x.1≠F) :
    PM (QL.set F ⟨m+1,refs p.mt J m++[A.sl x.1 x.2 1 0 p.mt]⟩) p a s∧blkAt (QL.set F ⟨m+1,refs p.mt J m++[A.sl x.1 x.2 1 0 p.mt]⟩) 0 0=some l0 ∧
    blkAt (QL.set F ⟨m+1,refs p.mt J m++[A.sl x.1 x.2 1 0 p.mt]⟩) F (m+1)=some (refs p.mt (fun i=>if i=m then x else J i) (m+1)) ∧
    ∀ i,i < m+1→blkAt (QL.set F ⟨m+1,refs p.mt J m++[A.sl x.1 x.2 1 0 p.mt]⟩) ((fun i=>if i=m then x else J i) i).1 ((fun i=>if i=m then x else J i) i).2=some (ints (Y i))∧((fun i=>if i=m then x else J i) i).1≠F:=by
  have hFL:=blkAt_lt (g.at qF fun h=>h)
  refine ⟨(qP.gr g fun _ _ h=>h).gr (Gr.set (F:=one F) _ _ _ rfl) fun c hc hf=>nF ⟨c,hc,hf⟩,?_,?_,fun i hi=>?_⟩
  · rw [blkAt_set_ne _ _ _ _ _ (by omega)]; exact g.at qB fun h=>h
  · rw [refs_succ]; exact blkAt_set_same _ _ _ _ hFL
  · by_cases e : i=m
    · subst e
      simp only [if_true]
      exact ⟨by rw [blkAt_set_ne _ _ _ _ _ hxF]; exact hx,hxF⟩
    · simp only [if_neg e]
      obtain ⟨q1,q2⟩:=qJ i (by omega)
      exact ⟨by rw [blkAt_set_ne _ _ _ _ _ q2]; exact g.at q1 fun h=>h,q2⟩
set_option maxHeartbeats 4000000 in
theorem spYield_vr {w v u : Bool} (p : Pl) (xs : List Int) : VR P false n_setpoint_Yield [plA w v p,.fs u (ints xs)] [] (isR (yldT (yldR p xs))):=by
  refine vr_setpoint_Yield (by simp) (.inr rfl) fun _ _=>?_
  have hnw:=fun H=>new_vr (H:=H) (w:=w) (v:=v) p
  have hne:=fun H=>new_err (H:=H) (w:=w) (v:=v) p
  unfold plA plC at *
  by_cases hc : chkP p=0
  case neg =>
    have e : yldR p xs=([],chkP p):=by unfold yldR; rw [if_pos hc]
    rw [e]
    simp (disch:=((try simp only [lZ]); omega)) only [aZ,aM,s_setpoint_Yield,v_setpoint_Yield]
    refine (hne _ hc).mono ?_
    rintro r K ⟨rfl,G⟩
    refine aret_of ?_
    simp (disch:=((try simp only [lZ]); omega)) only [aZ,aM,decide_eq_true (show ¬ chkP p=0 from hc),r_setpoint_Yield]
    exact post0 (yld_nil _ _) ⟨rfl,rfl⟩
  have hp:=(chkP_ok hc).1
  have ok:=pcheck_ok hp
  obtain ⟨m1,m2,m3⟩:=ok.mt1
  have n2:=ok.n2
  have hfd:=spFed_vr (w:=w) (v:=v) (u:=u) ok xs
  unfold plA plC at hfd
  rw [m3] at hfd ⊢
  simp only [m3] at hnw
  simp (disch:=((try simp only [lZ]); omega)) only [aZ,aM,s_setpoint_Yield,v_setpoint_Yield]
  refine (hnw _ hc).mono ?_
  rintro r K0 ⟨a0,rfl,P0,G0,L0⟩
  have b0 : blkAt K0 0 0=some [.v (.int .i64 p.mt),.fs w (mcs w p.ms),.fs v (bts p.bs),.v (.int .i64 p.fd)]:=G0.at rfl (fun h=>h)
  have n0 : ¬ ftp p a0 0:=nftp_lo L0 (by simp)
  clear G0 L0
  refine aret_of ?_
  simp (disch:=((try simp only [lZ]); omega)) only [aZ,aM,b0]
  refine hfd.same (by simp (disch:=first | omega | simp (disch:=omega) only [aG,aM]) only [fZ,aM]) rfl (aret_of ?_)
  by_cases hf : fedE p xs=0
  case neg =>
    have e : yldR p xs=([],fedE p xs):=by unfold yldR; rw [if_neg (fun h=>h hc),if_pos hf]
    rw [e]
    simp (disch:=((try simp only [lZ]); omega)) only [aZ,aM,decide_eq_true (show ¬ fedE p xs=0 from hf),r_setpoint_Yield]
    exact post0 (yld_nil _ _) ⟨rfl,rfl⟩
  have e : yldR p xs=(yldL p xs,0):=by unfold yldR; rw [if_neg (fun h=>h hc),if_neg (fun h=>h hf)]
  rw [e]
  obtain ⟨hI,hn,hz⟩:=y_zero hc hf
  have hfe:=feed_fs (w:=u) hp P0 (Gd.new p) (fed_fit hf)
  simp (disch:=((try simp only [lZ]); omega)) only [aZ,aM,hf]
  refine hfe.mono ?_
  rintro r K1 ⟨rfl,P1,T1⟩
  have k1:=T1.keep b0 n0
  refine aret_of ?_
  simp (disch:=((try simp only [lZ]); omega)) only [aZ,aM]
  obtain ⟨s0,hs0⟩ : ∃ s0,s0=feedS p (newS p) xs:=⟨_,rfl⟩
  rw [← hs0] at hI hn P1
  have hys : yS p xs=itS p s0 (yN p xs):=by rw [hs0]; rfl
  refine AWP.loopM g_setpoint_Yield_0 (fun x : Nat×Ad×List Blk=>x.1≤yN p xs∧PM x.2.2 p x.2.1 (itS p s0 x.1)∧(x.2.1 .root)=(a0 .root)∧blkAt x.2.2 0 0=some [.v (.int .i64 p.mt),.fs w (mcs w p.ms),.fs v (bts p.bs),.v (.int .i64 p.fd)]∧¬ ftp p x.2.1 0) (fun _=>[]) (fun x=>x.2.2) (fun x=>yN p xs - x.1) (0,a0,K1) ⟨by omega,P1,rfl,k1.1,k1.2⟩ ?_ ?_
  · exact Cut.fg (by simp (disch:=first | omega | simp (disch:=omega) only [aG,aM]) only [fZ,aM,fgl_nil,fgl_cons,or_true,true_or])
  clear P1 T1 k1 b0 n0 P0
  rintro ⟨k,a,K⟩ ⟨hk,kP,ka,kB,kN⟩
  simp only at hk kP ka kB kN
  have hGd:=(hI.it hp k).1
  have hi1:=inside_m hp kP hGd
  rw [ka] at hi1
  have hhv:=spHeavy_vr (u:=false) (insL p (itS p s0 k)) (by rw [insL_len]; omega)
  simp (disch:=((try simp only [lZ]); omega)) only [aZ,aM]
  refine hi1.mono ?_
  rintro r K2 ⟨rfl,G2,O2⟩
  have P2:=kP.gr G2 fun _ _ h=>h
  have B2:=G2.at kB fun h=>h
  refine aret_of ?_
  simp (disch:=((try simp only [lZ]); omega)) only [aZ,aM]
  refine hhv.use ⟨ld_slI K2 _ _ _ _ (insL_len _ _).symm O2,trivial⟩ rfl (aret_of ?_)
  by_cases hh : 0≤idxE posM (insL p (itS p s0 k))
  · rw [decide_eq_true hh]
    have hkN : k≠yN p xs:=fun e=>by
      subst e
      rw [← hys] at hh hGd
      exact ins_none hGd hz hh
    have hst:=step_m hp P2 hGd
    rw [ka] at hst
    simp (disch:=((try simp only [lZ]); omega)) only [aZ,aM]
    refine hst.mono ?_
    rintro r K3 ⟨rfl,a3,P3,T3⟩
    have k3:=T3.keep B2 kN
    refine aret_of ?_
    simp (disch:=((try simp only [lZ]); omega)) only [aZ,aM]
    refine ⟨(k+1,a3,K3),⟨by simp only; omega,P3,T3.2.2.trans ka,k3.1,k3.2⟩,by simp only; omega,?_⟩
    try simp (disch:=((try simp only [lZ]); omega)) only [aZ,aM]
    exact Cut.fg (by simp (disch:=first | omega | simp (disch:=omega) only [aG,aM]) only [fZ,aM,fgl_nil,fgl_cons,or_true,true_or])
  have hzz:=ins_all0' hGd hh
  have hE : Eqv p (itS p s0 k) (yS p xs):=by rw [hys]; exact run_eqv hp hI.1 hk (.inr hzz)
  rw [decide_eq_false hh]
  generalize itS p s0 k=s at *
  clear hi1 hhv G2 O2 kP kB hh
  have hy : ∀ m,m < p.ms.length→yldM p xs m=s.bef m:=fun m hm=>by
    unfold yldM
    by_cases hb : binN p m
    · rw [if_pos hb,hE.bef m hm]
    · rw [if_neg hb]; exact (emp_bef hGd hzz hm hb).symm
  have hyl : ∀ m,m < p.ms.length→(yldM p xs m).length=p.mt:=fun m hm=>by rw [hy m hm]; exact (hGd.bl m hm).1
  simp (disch:=((try simp only [lZ]); omega)) only [aZ,aM,B2]
  refine AWP.cut (Cut.virt 8 1 rfl) ?_
  obtain ⟨F,hF⟩ : ∃ F,F=K2.length:=⟨_,rfl⟩
  have hF0 : 0 < F:=by rw [hF]; exact blkAt_lt B2
  have nF : ¬ ftp p a F:=by rw [hF]; exact P2.nftp (Nat.le_refl _)
  rw [← hF]
  refine AWP.loopM g_setpoint_Yield_1 (fun x : Nat×(Nat→Nat×Nat)×List Blk=>x.1≤p.ms.length∧PM x.2.2 p a s∧blkAt x.2.2 0 0=some [.v (.int .i64 p.mt),.fs w (mcs w p.ms),.fs v (bts p.bs),.v (.int .i64 p.fd)]∧blkAt x.2.2 F x.1=some (refs p.mt x.2.1 x.1)∧∀ i,i < x.1→blkAt x.2.2 (x.2.1 i).1 (x.2.1 i).2=some (ints (yldM p xs i))∧(x.2.1 i).1≠F) (fun x=>[(8,.vs F x.1 1 x.1),(9,.v (.int .i64 x.1))]) (fun x=>x.2.2) (fun x=>p.ms.length - x.1) (0,(fun _=>(0,0)),K2++[(⟨0,[]⟩ : Blk)]) ⟨by omega,P2.grow _,by rw [blkAt_app _ _ _ _ (blkAt_lt B2)]; exact B2,by rw [hF,blkAt_new0]; rfl,fun i hi=>absurd hi (by simp)⟩ ?_ ?_
  · exact Cut.fg (by simp (disch:=first | omega | simp (disch:=omega) only [aG,aM]) only [fZ,aM,fgl_nil,fgl_cons,or_true,true_or])
  clear P2 B2 hF
  rintro ⟨m,J,Q⟩ ⟨hm,qP,qB,qF,qJ⟩
  simp only at hm qP qB qF qJ
  have rl:=refs_len p.mt J m
  by_cases hmt : m < p.ms.length
  case neg =>
    have hme : m=p.ms.length:=by omega
    subst hme
    simp (disch:=((try simp only [lZ]); omega)) only [aZ,aM,r_setpoint_Yield]
    refine post0 (r:=yldT (yldL p xs,0)) (Fz.tup (r:=[.fs true (rows true (yldL p xs)),.v (.int .i64 0)]) ⟨?_,Fz.refl rfl,trivial⟩) ⟨rfl,rfl⟩
    have e1 : rows true (yldL p xs)=(List.range p.ms.length).map fun i=>fzI (yldM p xs i):=rows_mr _ _
    have e2 : (yldL p xs).length=p.ms.length:=by simp [yldL]
    refine Fz.vs (Nat.zero_le _) qF (r:=rows true (yldL p xs)) ?_ ?_ (by rw [r_len,e2]) (by rw [r_len,e2]; omega)
    · rw [e1]
      refine fzL_mr fun i hi=>?_
      exact fz_slI 0 Q _ _ _ (yldM p xs i) (Nat.zero_le _) (hyl i hi).symm (qJ i hi).1
    · rw [List.take_of_length_le (by rw [r_len,e2]; omega)]; exact r_flat _ _
  have lF:=blkAt_lt qF
  by_cases he : fndE p m=0
  · have hb:=bin_ok ok qP hGd.ok m he
    rw [ka,Int.toNat_natCast,← hy m hmt] at hb
    simp (disch:=((try simp only [lZ]); omega)) only [aZ,aM]
    refine hb.mono ?_
    rintro r Q2 ⟨rfl,hQ2⟩
    refine aret_of ?_
    have g : Gr nof Q (Q2++[⟨0,[.sl Q.length 1 1 0 p.mt]⟩]):=by rw [hQ2]; exact (Gr.app _ _).trans (Gr.app _ _) fun _ _ h=>h
    have lF2 : F < Q2.length:=by rw [hQ2,List.length_append]; simp; omega
    have aF : blkAt (Q2++[⟨0,[.sl Q.length 1 1 0 p.mt]⟩]) F m=some (refs p.mt J m):=g.at qF fun h=>h
    have hst:=bins_step (Y:=yldM p xs) (Q.length,1) g qP qB qF qJ nF hF0 (by rw [hQ2,blkAt_app _ _ _ _ (by simp),blkAt_new0]; rfl) (by simp only; omega)
    rw [List.set_append_left _ _ lF2] at hst
    simp (disch:=((try simp only [lZ]); omega)) only [aZ,aM,aF]
    rw [List.take_of_length_le (by rw [rl]; omega)]
    refine ⟨(m+1,_,_),⟨by simp only; omega,hst⟩,by simp only; omega,?_⟩
    try simp (disch:=((try simp only [lZ]); omega)) only [aZ,aM]
    exact Cut.fg (by simp (disch:=first | omega | simp (disch:=omega) only [aG,aM]) only [fZ,aM,fgl_nil,fgl_cons,or_true,true_or])
  · have hb:=bin_err ok qP m he
    rw [ka] at hb
    simp (disch:=((try simp only [lZ]); omega)) only [aZ,aM]
    refine hb.mono ?_
    rintro r Q2 ⟨rfl,hQ2⟩
    subst hQ2
    refine aret_of ?_
    have hyz : yldM p xs m=List.replicate p.mt 0:=by
      unfold yldM
      rw [if_neg (fun hb=>he (by unfold fndE; rw [if_neg (by omega),Int.toNat_natCast,if_neg (fun h=>h hb)]))]
    have g : Gr nof Q2 (Q2++[⟨0,ints (List.replicate p.mt 0)⟩,⟨0,[.sl Q2.length 0 1 0 p.mt]⟩]):=Gr.app _ _
    have aF : blkAt (Q2++[⟨0,ints (List.replicate p.mt 0)⟩,⟨0,[.sl Q2.length 0 1 0 p.mt]⟩]) F m=some (refs p.mt J m):=g.at qF fun h=>h
    have hst:=bins_step (Y:=yldM p xs) (Q2.length,0) g qP qB qF qJ nF hF0 (by rw [blkAt_new0,hyz]; rfl) (by simp only; omega)
    rw [List.set_append_left _ _ lF] at hst
    simp (disch:=((try simp only [lZ]); omega)) only [aZ,aM,decide_eq_true he,qB,aF]
    rw [List.take_of_length_le (by rw [rl]; omega)]
    refine ⟨(m+1,_,_),⟨by simp only; omega,hst⟩,by simp only; omega,?_⟩
    try simp (disch:=((try simp only [lZ]); omega)) only [aZ,aM]
    exact Cut.fg (by simp (disch:=first | omega | simp (disch:=omega) only [aG,aM]) only [fZ,aM,fgl_nil,fgl_cons,or_true,true_or])
def glE (p : Pl) (g : Bt) : Int :=
  if g.fr < 0∨(p.ms.length : Int)≤g.fr then 7 else if outsN (p.ms.getD g.fr.toNat []) > 0 then 21 else if g.ot < 0∨(p.mt : Int)≤g.ot then 18 else if g.to < -1000000∨g.to > 1000000∨g.ln < 0∨g.ln > 1000 then 1 else 0
def badG (p : Pl) (g : Bt) : Prop:=glE p g≠0
instance (p : Pl) : DecidablePred (badG p):=fun g=>by unfold badG; infer_instance
noncomputable instance twiGd (l : List Bt) (k : Nat) : Decidable (∃ i,i < k∧(l.getD i b0).fr=(l.getD k b0).fr):=Classical.propDecidable _
def twiG (l : List Bt) (k : Nat) : Prop:=∃ i,i < k∧(l.getD i b0).fr=(l.getD k b0).fr
noncomputable instance (l : List Bt) (k : Nat) : Decidable (twiG l k):=Classical.propDecidable _
def dupG (l : List Bt) : Prop:=∃ k,k < l.length∧twiG l k
noncomputable instance (l : List Bt) : Decidable (dupG l):=Classical.propDecidable _
noncomputable def wantE (p : Pl) (l : List Bt) : Int:=if 24 < l.length then 8 else if 0≤idxE (badG p) l then glE p (l.getD (idxE (badG p) l).toNat b0) else if dupG l then 6 else 0
def seenB (l : List Bt) (k : Nat) : List Bool:=(List.range 24).map fun m : Nat=>decide (∃ i,i < k∧(l.getD i b0).fr=(m : Int))
theorem seenB_len (l : List Bt) (k : Nat) : (seenB l k).length=24:=by simp [seenB]
theorem seenB_get (l : List Bt) (k m : Nat) (h : m < 24) : (seenB l k).getD m false=decide (∃ i,i < k∧(l.getD i b0).fr=(m : Int)):=by simp [seenB,List.getD_eq_getElem?_getD,h]
theorem seenB_zero (l : List Bt) : seenB l 0=List.replicate 24 false:=by
  refine eq_of_getB false (by simp [seenB_len]) fun i hi=>?_
  rw [seenB_len] at hi
  rw [seenB_get _ _ _ hi,decide_eq_false (by rintro ⟨j,hj,_⟩; omega)]
  rw [List.getD_eq_getElem?_getD,List.getElem?_replicate,if_pos hi]; rfl
theorem seenB_set (l : List Bt) (k : Nat) (h : 0≤(l.getD k b0).fr∧(l.getD k b0).fr < 24) : (seenB l k).set (l.getD k b0).fr.toNat true=seenB l (k+1):=by
  refine eq_of_getB false (by simp [seenB_len]) fun i hi=>?_
  rw [List.length_set,seenB_len] at hi
  rw [seenB_get _ _ _ hi,List.getD_eq_getElem?_getD]
  by_cases e : (l.getD k b0).fr.toNat=i
  · subst e
    rw [List.getElem?_set_self (by rw [seenB_len]; exact hi),decide_eq_true ⟨k,by omega,by omega⟩]; rfl
  · rw [List.getElem?_set_ne e,← List.getD_eq_getElem?_getD,seenB_get _ _ _ hi]
    by_cases h2 : ∃ j,j < k∧(l.getD j b0).fr=(i : Int)
    · obtain ⟨j,h3,h4⟩:=h2
      rw [decide_eq_true ⟨j,h3,h4⟩,decide_eq_true ⟨j,by omega,h4⟩]
    · rw [decide_eq_false h2,decide_eq_false]
      rintro ⟨j,h3,h4⟩
      by_cases ej : j=k
      · subst ej; omega
      · exact h2 ⟨j,by omega,h4⟩
theorem wantE_bad {p : Pl} {l : List Bt} (hl : ¬ 24 < l.length) {k : Nat} (hk : k < l.length) (hg : ∀ i,i < k→¬ badG p (l.getD i b0)) (hb : glE p (l.getD k b0)≠0) : wantE p l=glE p (l.getD k b0):=by
  have:=idxE_hit b0 hk hg hb
  unfold wantE
  rw [if_neg hl,if_pos (by omega),this,Int.toNat_natCast]
theorem wantE_good {p : Pl} {l : List Bt} (hl : ¬ 24 < l.length) (hg : ∀ i,i < l.length→¬ badG p (l.getD i b0)) : wantE p l=if dupG l then 6 else 0:=by
  have:=idxE_none b0 hg
  unfold wantE
  rw [if_neg hl,if_neg (by omega)]
theorem glE_rng {p : Pl} {g : Bt} (h : ¬ badG p g) : 0≤g.fr∧g.fr < p.ms.length∧outsN (p.ms.getD g.fr.toNat [])=0∧0≤g.ot∧g.ot < p.mt∧-1000000≤g.to∧g.to≤1000000∧0≤g.ln∧g.ln≤1000:=by
  unfold badG glE at h
  split at h
  · exact absurd (by decide) h
  split at h
  · exact absurd (by decide) h
  split at h
  · exact absurd (by decide) h
  split at h
  · exact absurd (by decide) h
  omega
theorem spWanted_vr {w v u : Bool} {p : Pl} (ok : POk p) (l : List Bt) : VR P false n_setpoint_wanted [plA w v p,.fs u (bts l)] [] (isR (.v (.int .i64 (wantE p l)))):=by
  refine vr_setpoint_wanted (by simp) (.inr rfl) fun _ _=>?_
  obtain ⟨m1,m2,m3⟩:=ok.mt1
  have n2:=ok.n2
  unfold plA plC
  rw [m3]
  by_cases h1 : (l.length : Int) > 24
  · have e : wantE p l=8:=by unfold wantE; rw [if_pos (by omega)]
    rw [e]
    simp (disch:=((try simp only [lZ]); omega)) only [aZ,aM,s_setpoint_wanted,v_setpoint_wanted,decide_eq_true h1,r_setpoint_wanted]
    exact post_v ⟨rfl,rfl⟩
  have h1' : ¬ 24 < l.length:=by omega
  simp (disch:=((try simp only [lZ]); omega)) only [aZ,aM,s_setpoint_wanted,v_setpoint_wanted,decide_eq_false h1]
  refine AWP.loopP g_setpoint_wanted_0 (fun k : Nat=>k≤l.length∧∀ i,i < k→¬ badG p (l.getD i b0)) (fun k=>[(2,.v (.int .i64 0)),(3,.v (.int .i64 k))]) (fun _=>[]) (fun k=>l.length - k) 0 ⟨by omega,fun i hi=>absurd hi (by omega)⟩ ?_ ?_
  · exact Cut.fg (by simp (disch:=first | omega | simp (disch:=omega) only [aG,aM]) only [fZ,aM,fgl_nil,fgl_cons,or_true,true_or])
  rintro k ⟨hk,hg⟩
  by_cases hkt : k < l.length
  · have ew:=wantE_bad h1' hkt hg
    have hgs : ¬ badG p (l.getD k b0)→∀ i,i < k+1→¬ badG p (l.getD i b0):=fun h i hi=>by
      by_cases e : i=k
      · subst e; exact h
      · exact hg i (by omega)
    generalize hgk : l.getD k b0=g at *
    by_cases c1 : g.fr < 0∨g.fr≥p.ms.length
    · have e : glE p g=7:=by unfold glE; rw [if_pos (by omega)]
      rw [ew (by omega),e]
      rcases c1 with h | h
      · simp (disch:=((try simp only [lZ]); omega)) only [aZ,aM,hgk,decide_eq_true h,r_setpoint_wanted]
        exact post_v ⟨rfl,rfl⟩
      · simp (disch:=((try simp only [lZ]); omega)) only [aZ,aM,hgk,decide_eq_false (show ¬ g.fr < 0 by omega),decide_eq_true h,r_setpoint_wanted]
        exact post_v ⟨rfl,rfl⟩
    have ho:=(machineOuts_vr (w:=w) (p.ms.getD g.fr.toNat []))
    unfold mcA mcC at ho
    simp (disch:=((try simp only [lZ]); omega)) only [aZ,aM,hgk,decide_eq_false (show ¬ g.fr < 0 by omega),decide_eq_false (show ¬ g.fr≥p.ms.length by omega)]
    refine ho.same (by simp (disch:=first | omega | simp (disch:=omega) only [aG,aM]) only [fZ,aM]) rfl (aret_of ?_)
    by_cases c2 : ((outsN (p.ms.getD g.fr.toNat []) : Nat) : Int) > 0
    · have e : glE p g=21:=by unfold glE; rw [if_neg (by omega),if_pos (by omega)]
      rw [ew (by omega),e]
      simp (disch:=((try simp only [lZ]); omega)) only [aZ,aM,decide_eq_true c2,r_setpoint_wanted]
      exact post_v ⟨rfl,rfl⟩
    by_cases c3 : g.ot < 0∨g.ot≥p.mt
    · have e : glE p g=18:=by unfold glE; rw [if_neg (by omega),if_neg (by omega),if_pos (by omega)]
      rw [ew (by omega),e]
      rcases c3 with h | h
      · simp (disch:=((try simp only [lZ]); omega)) only [aZ,aM,decide_eq_false c2,decide_eq_true h,r_setpoint_wanted]
        exact post_v ⟨rfl,rfl⟩
      · simp (disch:=((try simp only [lZ]); omega)) only [aZ,aM,decide_eq_false c2,decide_eq_false (show ¬ g.ot < 0 by omega),decide_eq_true h,r_setpoint_wanted]
        exact post_v ⟨rfl,rfl⟩
    by_cases c4 : g.to < -1000000∨g.to > 1000000∨g.ln < 0∨g.ln > 1000
    · have e : glE p g=1:=by unfold glE; rw [if_neg (by omega),if_neg (by omega),if_neg (by omega),if_pos c4]
      rw [ew (by omega),e]
      by_cases d1 : g.to < -1000000
      · simp (disch:=((try simp only [lZ]); omega)) only [aZ,aM,decide_eq_false c2,decide_eq_false (show ¬ g.ot < 0 by omega),decide_eq_false (show ¬ g.ot≥p.mt by omega),decide_eq_true d1,r_setpoint_wanted]
        exact post_v ⟨rfl,rfl⟩
      by_cases d2 : g.to > 1000000
      · simp (disch:=((try simp only [lZ]); omega)) only [aZ,aM,decide_eq_false c2,decide_eq_false (show ¬ g.ot < 0 by omega),decide_eq_false (show ¬ g.ot≥p.mt by omega),decide_eq_false d1,decide_eq_true d2,r_setpoint_wanted]
        exact post_v ⟨rfl,rfl⟩
      by_cases d3 : g.ln < 0
      · simp (disch:=((try simp only [lZ]); omega)) only [aZ,aM,decide_eq_false c2,decide_eq_false (show ¬ g.ot < 0 by omega),decide_eq_false (show ¬ g.ot≥p.mt by omega),decide_eq_false d1,decide_eq_false d2,decide_eq_true d3,r_setpoint_wanted]
        exact post_v ⟨rfl,rfl⟩
      have d4 : g.ln > 1000:=by omega
      simp (disch:=((try simp only [lZ]); omega)) only [aZ,aM,decide_eq_false c2,decide_eq_false (show ¬ g.ot < 0 by omega),decide_eq_false (show ¬ g.ot≥p.mt by omega),decide_eq_false d1,decide_eq_false d2,decide_eq_false d3,decide_eq_true d4,r_setpoint_wanted]
      exact post_v ⟨rfl,rfl⟩
    have hgood : ¬ badG p g:=by
      unfold badG glE
      rw [if_neg (by omega),if_neg (by omega),if_neg (by omega),if_neg c4]; decide
    simp (disch:=((try simp only [lZ]); omega)) only [aZ,aM,decide_eq_false c2,decide_eq_false (show ¬ g.ot < 0 by omega),decide_eq_false (show ¬ g.ot≥p.mt by omega),decide_eq_false (show ¬ g.to < -1000000 by omega),decide_eq_false (show ¬ g.to > 1000000 by omega),decide_eq_false (show ¬ g.ln < 0 by omega),decide_eq_false (show ¬ g.ln > 1000 by omega)]
    refine ⟨k+1,⟨by omega,hgs hgood⟩,by omega,?_⟩
    exact Cut.of' 1 rfl (by omega) (by simp (disch:=first | omega | simp (disch:=omega) only [aG,aM]) only [fZ,aM]) (by simp (disch:=first | omega | simp (disch:=omega) only [aG,aM]) only [fZ,aM])
  have hke : k=l.length:=by omega
  subst hke
  rw [wantE_good h1' hg]
  have hz:=seenB_zero l
  simp (disch:=((try simp only [lZ]); omega)) only [aZ,aM]
  refine AWP.loopP g_setpoint_wanted_1 (fun k : Nat=>k≤l.length∧∀ j,j < k→¬ twiG l j) (fun k=>[(2,.v (.int .i64 0)),(13,.v (.int .i64 k))]) (fun k=>[(1,⟨0,bools (seenB l k)⟩)]) (fun k=>l.length - k) 0 ⟨by omega,fun i hi=>absurd hi (by omega)⟩ ?_ ?_
  · rw [hz]
    exact Cut.of' 2 rfl (by omega) (by simp (disch:=first | omega | simp (disch:=omega) only [aG,aM]) only [fZ,aM]) (by simp (disch:=first | omega | simp (disch:=omega) only [aG,aM]) only [fZ,aM])
  clear hz
  rintro k ⟨hk,ht⟩
  have sl:=seenB_len l k
  by_cases hkt : k < l.length
  · obtain ⟨q1,q2,_⟩:=glE_rng (hg k hkt)
    have hsg:=seenB_get l k (l.getD k b0).fr.toNat (by omega)
    have hss:=seenB_set l k ⟨q1,by omega⟩
    have htw : twiG l k↔∃ i,i < k∧(l.getD i b0).fr=(((l.getD k b0).fr.toNat : Nat) : Int):=by rw [Int.toNat_of_nonneg q1]; exact Iff.rfl
    rw [← show (decide (twiG l k)=_) from decide_eq_decide.2 htw] at hsg
    generalize hgk : l.getD k b0=g at *
    by_cases hd : twiG l k
    · rw [decide_eq_true hd] at hsg
      rw [if_pos (show dupG l from ⟨k,hkt,hd⟩)]
      simp (disch:=((try simp only [lZ]); omega)) only [aZ,aM,hgk,hsg,r_setpoint_wanted]
      exact post_v ⟨rfl,rfl⟩
    · rw [decide_eq_false hd] at hsg
      simp (disch:=((try simp only [lZ]); omega)) only [aZ,aM,hgk,hsg,hss]
      refine ⟨k+1,⟨by omega,fun j hj=>?_⟩,by omega,?_⟩
      · by_cases e : j=k
        · subst e; exact hd
        · exact ht j (by omega)
      · exact Cut.of' 2 rfl (by omega) (by simp (disch:=first | omega | simp (disch:=omega) only [aG,aM]) only [fZ,aM]) (by simp (disch:=first | omega | simp (disch:=omega) only [aG,aM]) only [fZ,aM])
  have hke : k=l.length:=by omega
  subst hke
  rw [if_neg (show ¬ dupG l from fun ⟨k,h1,h2⟩=>ht k h1 h2)]
  simp (disch:=((try simp only [lZ]); omega)) only [aZ,aM,r_setpoint_wanted]
  exact post_v ⟨rfl,rfl⟩
def wrt (Y : List (List Int)) (g : Bt) : Int:=if (purM (Y.getD g.fr.toNat []) g.ot).2=0∧g.ln≤(purM (Y.getD g.fr.toNat []) g.ot).1 then (Y.getD g.fr.toNat []).sum*g.to else 0
theorem wrt_def (Y : List (List Int)) (g : Bt) : wrt Y g=if (purM (Y.getD g.fr.toNat []) g.ot).2=0∧g.ln≤(purM (Y.getD g.fr.toNat []) g.ot).1 then (Y.getD g.fr.toNat []).sum*g.to else 0:=rfl
def wrtL (Y : List (List Int)) (l : List Bt) : List Int:=l.map (wrt Y)
def wrtS (Y : List (List Int)) (l : List Bt) : Int:=(wrtL Y l).sum
def GoalOk (Y : List (List Int)) (g : Bt) : Prop:=0≤g.fr∧g.fr < Y.length∧-1000000≤g.to∧g.to≤1000000∧mixE (Y.getD g.fr.toNat [])=0
theorem wrt_bd {Y : List (List Int)} {g : Bt} (h : GoalOk Y g) : -17179869184000000≤wrt Y g∧wrt Y g≤17179869184000000∧-17179869184000000≤(Y.getD g.fr.toNat []).sum*g.to∧(Y.getD g.fr.toNat []).sum*g.to≤17179869184000000:=by
  obtain ⟨h1,h2,h3,h4,h5⟩:=h
  have h6:=sum_mix h5
  have q1 : (Y.getD g.fr.toNat []).sum*g.to≤(Y.getD g.fr.toNat []).sum*1000000:=Int.mul_le_mul_of_nonneg_left h4 h6.1
  have q2 : (Y.getD g.fr.toNat []).sum*(-1000000)≤(Y.getD g.fr.toNat []).sum*g.to:=Int.mul_le_mul_of_nonneg_left h3 h6.1
  refine ⟨?_,?_,by omega,by omega⟩
  · unfold wrt; split<;>omega
  · unfold wrt; split<;>omega
theorem wrtL_len (Y : List (List Int)) (l : List Bt) : (wrtL Y l).length=l.length:=by simp [wrtL]
theorem wrtL_get (Y : List (List Int)) (l : List Bt) (k : Nat) (h : k < l.length) : (wrtL Y l).getD k 0=wrt Y (l.getD k b0):=by simp [wrtL,List.getD_eq_getElem?_getD,h]
theorem spWorth_vr {u u' : Bool} (Y : List (List Int)) (l : List Bt) (hl : l.length≤24) (hY : Y.length≤24) (hg : ∀ g∈l,GoalOk Y g) : VR P false n_setpoint_worth [.fs u (rows true Y),.fs u' (bts l)] [] (isR (.v (.int .i64 (wrtS Y l)))):=by
  refine vr_setpoint_worth (by simp) (.inr rfl) fun _ _=>?_
  have hL:=wrtL_len Y l
  have hbd : ∀ k,k≤l.length→-17179869184000000*(k : Int)≤sumT (wrtL Y l) k∧sumT (wrtL Y l) k≤17179869184000000*k:=fun k hk=>sumT_bd (wrtL Y l) (-17179869184000000) 17179869184000000 k (by omega) fun i hi=>by
    rw [wrtL_get _ _ _ (by omega)]
    have:=wrt_bd (hg _ (mem_get b0 (k:=i) (l:=l) (by omega)))
    omega
  have hsu:=fun k hk=>sumT_succ (wrtL Y l) k hk
  have hall : sumT (wrtL Y l) l.length=wrtS Y l:=by rw [← hL]; exact sumT_all _
  simp (disch:=((try simp only [lZ]); omega)) only [aZ,aM,s_setpoint_worth,v_setpoint_worth]
  refine AWP.loopP g_setpoint_worth_0 (fun k : Nat=>k≤l.length) (fun k=>[(3,.v (.int .i64 (sumT (wrtL Y l) k))),(4,.v (.int .i64 k))]) (fun _=>[]) (fun k=>l.length - k) 0 (by omega) ?_ ?_
  · rw [sumT_zero]
    exact Cut.fg (by simp (disch:=first | omega | simp (disch:=omega) only [aG,aM]) only [fZ,aM,fgl_nil,fgl_cons,or_true,true_or])
  rintro k hk
  by_cases hkt : k < l.length
  case neg =>
    have hke : k=l.length:=by omega
    subst hke
    rw [← hall]
    simp (disch:=((try simp only [lZ]); omega)) only [aZ,aM,r_setpoint_worth]
    exact post_v ⟨rfl,rfl⟩
  have hgk:=hg _ (mem_get b0 (k:=k) (l:=l) hkt)
  have hs:=hsu k (by omega)
  rw [wrtL_get _ _ _ hkt] at hs
  have b1:=hbd k hk
  have b2:=wrt_bd hgk
  have hw:=wrt_def Y (l.getD k b0)
  have hpu:=fun i=>materialPurity_vr (w:=true) (Y.getD (l.getD k b0).fr.toNat []) i
  have hto:=materialTotal_vr (w:=true) (Y.getD (l.getD k b0).fr.toNat [])
  rw [totM_ok hgk.2.2.2.2] at hto
  unfold pairT at hpu hto
  obtain ⟨q1,q2,q3,q4,q5⟩:=hgk
  generalize hgg : l.getD k b0=g at *
  generalize hmm : Y.getD g.fr.toNat []=m at *
  simp (disch:=((try simp only [lZ]); omega)) only [aZ,aM,hgg,hmm]
  refine (hpu g.ot).same (by simp (disch:=first | omega | simp (disch:=omega) only [aG,aM]) only [fZ,aM]) rfl (aret_of ?_)
  by_cases h1 : (purM m g.ot).2=0
  · by_cases h2 : (purM m g.ot).1≥g.ln
    · rw [if_pos ⟨h1,h2⟩] at hw
      simp (disch:=((try simp only [lZ]); omega)) only [aZ,aM,h1,decide_eq_true h2]
      refine hto.same (by simp (disch:=first | omega | simp (disch:=omega) only [aG,aM]) only [fZ,aM]) rfl (aret_of ?_)
      simp (disch:=((try simp only [lZ]); omega)) only [aZ,aM]
      rw [← hw,← hs]
      refine ⟨k+1,by omega,by omega,?_⟩
      exact Cut.of' 0 rfl (by omega) (by simp (disch:=first | omega | simp (disch:=omega) only [aG,aM]) only [fZ,aM]) (by simp (disch:=first | omega | simp (disch:=omega) only [aG,aM]) only [fZ,aM])
    · rw [if_neg (fun h=>h2 h.2)] at hw
      rw [hw,Int.add_zero] at hs
      simp (disch:=((try simp only [lZ]); omega)) only [aZ,aM,h1,decide_eq_false h2]
      refine ⟨k+1,by omega,by omega,?_⟩
      rw [hs]
      exact Cut.of' 0 rfl (by omega) (by simp (disch:=first | omega | simp (disch:=omega) only [aG,aM]) only [fZ,aM]) (by simp (disch:=first | omega | simp (disch:=omega) only [aG,aM]) only [fZ,aM])
  · rw [if_neg (fun h=>h1 h.1)] at hw
    rw [hw,Int.add_zero] at hs
    simp (disch:=((try simp only [lZ]); omega)) only [aZ,aM,decide_eq_false h1]
    refine ⟨k+1,by omega,by omega,?_⟩
    rw [hs]
    exact Cut.of' 0 rfl (by omega) (by simp (disch:=first | omega | simp (disch:=omega) only [aG,aM]) only [fZ,aM]) (by simp (disch:=first | omega | simp (disch:=omega) only [aG,aM]) only [fZ,aM])
noncomputable def valR (p : Pl) (xs : List Int) (l : List Bt) : Int×Int:=if (yldR p xs).2≠0 then (0,(yldR p xs).2) else if wantE p l≠0 then (0,wantE p l) else (wrtS (yldL p xs) l,0)
theorem yldL_len (p : Pl) (xs : List Int) : (yldL p xs).length=p.ms.length:=by simp [yldL]
theorem yldL_get (p : Pl) (xs : List Int) (m : Nat) (h : m < p.ms.length) : (yldL p xs).getD m []=yldM p xs m:=by simp [yldL,List.getD_eq_getElem?_getD,h]
theorem yldR_ok {p : Pl} {xs : List Int} (h : (yldR p xs).2=0) : chkP p=0∧fedE p xs=0∧yldR p xs=(yldL p xs,0):=by
  unfold yldR at h ⊢
  by_cases h1 : chkP p=0
  · rw [if_neg (fun h=>h h1)] at h ⊢
    by_cases h2 : fedE p xs=0
    · rw [if_neg (fun h=>h h2)]; exact ⟨h1,h2,rfl⟩
    · rw [if_pos h2] at h; exact absurd h h2
  · rw [if_pos h1] at h; exact absurd h h1
theorem yldM_ok {p : Pl} {xs : List Int} (hc : chkP p=0) (hf : fedE p xs=0) {m : Nat} (hm : m < p.ms.length) : MixOk p.mt (yldM p xs m):=by
  have hg:=((y_zero hc hf).1.it (chkP_ok hc).1 (yN p xs)).1
  unfold yldM
  split
  · exact hg.ok.bef m hm
  · exact zeros_ok _
theorem goals_ok {p : Pl} {xs : List Int} (hc : chkP p=0) (hf : fedE p xs=0) {l : List Bt} (hw : wantE p l=0) : l.length≤24∧∀ g∈l,GoalOk (yldL p xs) g:=by
  have ok:=pcheck_ok (chkP_ok hc).1
  have hl : ¬ 24 < l.length:=fun h=>by unfold wantE at hw; rw [if_pos h] at hw; cases hw
  refine ⟨by omega,fun g hg=>?_⟩
  have hb : ¬ badG p g:=by
    unfold wantE at hw
    rw [if_neg hl] at hw
    split at hw
    · rename_i h
      exact absurd hw (idxE_at b0 h)
    · rename_i h
      exact idxE_neg (by omega) g hg
  obtain ⟨q1,q2,q3,q4,q5,q6,q7,q8,q9⟩:=glE_rng hb
  refine ⟨q1,by rw [yldL_len]; exact q2,q6,q7,?_⟩
  rw [yldL_get _ _ _ (by omega)]
  exact mixok_E ok.mt1.2.1 (yldM_ok hc hf (by omega))
theorem spValue_vr {w v u u' : Bool} (p : Pl) (xs : List Int) (l : List Bt) : VR P false n_setpoint_Value [plA w v p,.fs u (ints xs),.fs u' (bts l)] [] (isR (pairT (valR p xs l))):=by
  refine vr_setpoint_Value (by simp) (.inr rfl) fun _ _=>?_
  have hy:=spYield_vr (w:=w) (v:=v) (u:=u) p xs
  unfold yldT at hy
  unfold plA plC pairT at *
  by_cases h1 : (yldR p xs).2=0
  case neg =>
    have e : valR p xs l=(0,(yldR p xs).2):=by unfold valR; rw [if_pos h1]
    rw [e]
    simp (disch:=((try simp only [lZ]); omega)) only [aZ,aM,s_setpoint_Value,v_setpoint_Value]
    refine hy.same (by simp (disch:=first | omega | simp (disch:=omega) only [aG,aM]) only [fZ,aM]) (by simp (disch:=first | omega | simp (disch:=omega) only [aG,aM]) only [fZ,aM]) (aret_of ?_)
    simp (disch:=((try simp only [lZ]); omega)) only [aZ,aM,decide_eq_true (show ¬ (yldR p xs).2=0 from h1),r_setpoint_Value]
    exact post0 (Fz.refl rfl) ⟨rfl,rfl⟩
  obtain ⟨hc,hf,hyr⟩:=yldR_ok h1
  have ok:=pcheck_ok (chkP_ok hc).1
  have hw:=spWanted_vr (w:=w) (v:=v) (u:=u') ok l
  unfold plA plC at hw
  rw [hyr] at hy h1
  simp (disch:=((try simp only [lZ]); omega)) only [aZ,aM,s_setpoint_Value,v_setpoint_Value]
  refine hy.same (by simp (disch:=first | omega | simp (disch:=omega) only [aG,aM]) only [fZ,aM]) (by simp (disch:=first | omega | simp (disch:=omega) only [aG,aM]) only [fZ,aM]) (aret_of ?_)
  simp (disch:=((try simp only [lZ]); omega)) only [aZ,aM]
  refine hw.same (by simp (disch:=first | omega | simp (disch:=omega) only [aG,aM]) only [fZ,aM]) rfl (aret_of ?_)
  by_cases h2 : wantE p l=0
  case neg =>
    have e : valR p xs l=(0,wantE p l):=by unfold valR; rw [hyr,if_neg (fun h=>h rfl),if_pos h2]
    rw [e]
    simp (disch:=((try simp only [lZ]); omega)) only [aZ,aM,decide_eq_true (show ¬ wantE p l=0 from h2),r_setpoint_Value]
    exact post0 (Fz.refl rfl) ⟨rfl,rfl⟩
  have e : valR p xs l=(wrtS (yldL p xs) l,0):=by unfold valR; rw [hyr,if_neg (fun h=>h rfl),if_neg (fun h=>h h2)]
  rw [e]
  obtain ⟨g1,g2⟩:=goals_ok hc hf h2
  have hwo:=spWorth_vr (u:=true) (u':=u') (yldL p xs) l g1 (by rw [yldL_len]; exact ok.n2) g2
  simp (disch:=((try simp only [lZ]); omega)) only [aZ,aM,h2]
  refine hwo.same (by simp (disch:=first | omega | simp (disch:=omega) only [aG,aM]) only [fZ,aM]) rfl (aret_of ?_)
  simp (disch:=((try simp only [lZ]); omega)) only [aZ,aM,r_setpoint_Value]
  exact post0 (Fz.refl rfl) ⟨rfl,rfl⟩
end Go.Proofs.Ytcppaddgclkekaa
namespace Go.Proofs.Ytcppaddgclkekaa
open Go Go.Lft
set_option linter.unusedSimpArgs false
set_option linter.unusedVariables false
structure Og where
  r : Mc
  c : Int
def og0 : Og:=⟨[],0⟩
def ogC (w : Bool) (o : Og) : List A:=[.fs w (rows w o.r),.v (.int .i64 o.c)]
def ogA (w : Bool) (o : Og) : A:=.agg (ogC w o)
def ogs (w : Bool) (l : List Og) : List A:=l.map (ogA w)
def ogL (w : Bool) (L : List (List Og)) : List A:=L.map fun l=>.fs w (ogs w l)
theorem og_len (w : Bool) (l : List Og) : (ogs w l).length=l.length:=by simp [ogs]
theorem og_idx (w v : Bool) (l : List Og) (kk : IntKind) (j : Int) (h1 : 0≤j) (h2 : j < l.length) : idxA 2 (.fs w (ogs v l)) (.v (.int kk j))=some (.fp w [.fs v (rows v (l.getD j.toNat og0).r),.v (.int .i64 (l.getD j.toNat og0).c)]) :=
  map_idx 2 w l og0 kk j (ogC v) (fun _=>rfl) (fun _=>rfl) h1 h2
theorem og_bd (n : Nat) (w : Bool) (l : List Og) : A.bdL n (ogs w l)=true:=map_bd n l fun o=>by simp [ogA,ogC,A.bd,A.bdL,r_bd]
theorem og_cl (l : List Og) : A.clL (ogs true l)=true:=map_cl l fun o=>by simp [ogA,ogC,A.cl,A.clL,r_cl]
theorem ogL_len (w : Bool) (L : List (List Og)) : (ogL w L).length=L.length:=by simp [ogL]
theorem ogL_idx (w v : Bool) (L : List (List Og)) (kk : IntKind) (j : Int) (h1 : 0≤j) (h2 : j < L.length) : idxA 1 (.fs w (ogL v L)) (.v (.int kk j))=some (.fp w [.fs v (ogs v (L.getD j.toNat []))]) :=
  map_idx 1 w L [] kk j (fun l=>[.fs v (ogs v l)]) (fun _=>rfl) (fun _=>rfl) h1 h2
theorem ogL_bd (n : Nat) (w : Bool) (L : List (List Og)) : A.bdL n (ogL w L)=true:=map_bd n L fun l=>by simp [A.bd,og_bd]
theorem ogL_cl (L : List (List Og)) : A.clL (ogL true L)=true:=map_cl L fun l=>by simp [A.cl,og_cl]
theorem aG37 : type_of% (And.intro @og_len <| And.intro @og_idx <| And.intro @og_bd <| And.intro @og_cl <| And.intro @ogL_len <| And.intro @ogL_idx <| And.intro @ogL_bd <| @ogL_cl):=And.intro @og_len <| And.intro @og_idx <| And.intro @og_bd <| And.intro @og_cl <| And.intro @ogL_len <| And.intro @ogL_idx <| And.intro @ogL_bd <| @ogL_cl
attribute [local congr] ob_congr bw_congr ib_congr ck_congr iwA_congr itA_congr aw_congr awp_congr sqA_congr bkA_congr vr_congr gd_congr
def ogE (p : Pl) (m : Nat) (o : Og) : Int:=if mcheck o.r p.mt≠0 then mcheck o.r p.mt else if outsN o.r≠outsN (p.ms.getD m []) then 3 else if o.c < 0∨1000000000000 < o.c then 1 else 0
def ogsE (p : Pl) (m : Nat) (l : List Og) : Int:=if 4 < l.length then 8 else firstE (ogE p m) l
def possE (p : Pl) (L : List (List Og)) : Int:=if L.length≠p.ms.length then 3 else firstE (fun m=>ogsE p m (L.getD m [])) (List.range p.ms.length)
theorem range_getD {n i : Nat} (h : i < n) : (List.range n).getD i 0=i:=by simp [List.getD_eq_getElem?_getD,h]
theorem possE_bad {p : Pl} {L : List (List Og)} (hl : L.length=p.ms.length) {k : Nat} (hk : k < p.ms.length) (hg : ∀ i,i < k→ogsE p i (L.getD i [])=0) (hb : ogsE p k (L.getD k [])≠0) : possE p L=ogsE p k (L.getD k []):=by
  have:=firstE_hit (f:=fun m=>ogsE p m (L.getD m [])) 0 (l:=List.range p.ms.length) (k:=k) (by simpa using hk) (fun i hi=>by rw [range_getD (by omega)]; exact hg i hi) (by rw [range_getD hk]; exact hb)
  rw [range_getD hk] at this
  unfold possE
  rw [if_neg (by omega),this]
theorem possE_good {p : Pl} {L : List (List Og)} (hl : L.length=p.ms.length) (hg : ∀ i,i < p.ms.length→ogsE p i (L.getD i [])=0) : possE p L=0:=by
  unfold possE
  rw [if_neg (by omega)]
  exact firstE_none 0 fun i hi=>by
    have hi' : i < p.ms.length:=by simpa using hi
    rw [range_getD hi']; exact hg i hi'
theorem spPossible_vr {w v u : Bool} {p : Pl} (ok : POk p) (L : List (List Og)) : VR P false n_setpoint_possible [plA w v p,.fs u (ogL u L)] [] (isR (.v (.int .i64 (possE p L)))):=by
  refine vr_setpoint_possible (by simp) (.inr rfl) fun _ _=>?_
  obtain ⟨m1,m2,m3⟩:=ok.mt1
  have n2:=ok.n2
  unfold plA plC
  rw [m3]
  by_cases h1 : (L.length : Int)≠p.ms.length
  · have e : possE p L=3:=by unfold possE; rw [if_pos (by omega)]
    rw [e]
    simp (disch:=((try simp only [lZ]); omega)) only [aZ,aM,aG37,s_setpoint_possible,v_setpoint_possible,decide_eq_true h1,r_setpoint_possible]
    exact post_v ⟨rfl,rfl⟩
  have hl : L.length=p.ms.length:=by omega
  simp (disch:=((try simp only [lZ]); omega)) only [aZ,aM,aG37,s_setpoint_possible,v_setpoint_possible,decide_eq_false h1]
  refine AWP.loopP g_setpoint_possible_0 (fun k : Nat=>k≤L.length∧∀ i,i < k→ogsE p i (L.getD i [])=0) (fun k=>[(2,.v (.int .i64 0)),(4,.v (.int .i64 k))]) (fun _=>[]) (fun k=>L.length - k) 0 ⟨by omega,fun i hi=>absurd hi (by omega)⟩ ?_ ?_
  · exact Cut.fg (by simp (disch:=first | omega | simp (disch:=omega) only [aG,aM,aG37]) only [fZ,aM,aG37,fgl_nil,fgl_cons,or_true,true_or])
  rintro k ⟨hk,hg⟩
  by_cases hkt : k < L.length
  case neg =>
    have hke : k=p.ms.length:=by omega
    rw [possE_good hl (fun i hi=>hg i (by omega))]
    simp (disch:=((try simp only [lZ]); omega)) only [aZ,aM,aG37,decide_eq_false (show ¬ (k : Int) < L.length by omega),r_setpoint_possible]
    exact post_v ⟨rfl,rfl⟩
  have ew:=possE_bad hl (k:=k) (by omega) hg
  have hgs : ogsE p k (L.getD k [])=0→∀ i,i < k+1→ogsE p i (L.getD i [])=0:=fun h i hi=>by
    by_cases e : i=k
    · subst e; exact h
    · exact hg i (by omega)
  generalize hlk : L.getD k []=l at *
  by_cases h4 : (l.length : Int) > 4
  · have e : ogsE p k l=8:=by unfold ogsE; rw [if_pos (by omega)]
    rw [ew (by omega),e]
    simp (disch:=((try simp only [lZ]); omega)) only [aZ,aM,aG37,hlk,decide_eq_true h4,r_setpoint_possible]
    exact post_v ⟨rfl,rfl⟩
  have eo : ogsE p k l=firstE (ogE p k) l:=by unfold ogsE; rw [if_neg (by omega)]
  simp (disch:=((try simp only [lZ]); omega)) only [aZ,aM,aG37,hlk,decide_eq_false h4]
  refine AWP.loopP g_setpoint_possible_1 (fun j : Nat=>j≤l.length∧∀ i,i < j→ogE p k (l.getD i og0)=0) (fun j=>[(2,.v (.int .i64 0)),(10,.v (.int .i64 j))]) (fun _=>[]) (fun j=>l.length - j) 0 ⟨by omega,fun i hi=>absurd hi (by omega)⟩ ?_ ?_
  · exact Cut.fg (by simp (disch:=first | omega | simp (disch:=omega) only [aG,aM,aG37]) only [fZ,aM,aG37,fgl_nil,fgl_cons,or_true,true_or])
  rintro j ⟨hj,hgj⟩
  by_cases hjt : j < l.length
  case neg =>
    have hje : j=l.length:=by omega
    subst hje
    have e0 : ogsE p k l=0:=by rw [eo]; exact firstE_none og0 hgj
    simp (disch:=((try simp only [lZ]); omega)) only [aZ,aM,aG37]
    refine ⟨k+1,⟨by omega,hgs e0⟩,by omega,?_⟩
    exact Cut.fg (by simp (disch:=first | omega | simp (disch:=omega) only [aG,aM,aG37]) only [fZ,aM,aG37,fgl_nil,fgl_cons,or_true,true_or])
  have ej : ogE p k (l.getD j og0)≠0→possE p L=ogE p k (l.getD j og0):=fun h=>by
    have:=firstE_hit og0 hjt hgj h
    rw [ew (by rw [eo,this]; exact h),eo,this]
  have hgn : ogE p k (l.getD j og0)=0→∀ i,i < j+1→ogE p k (l.getD i og0)=0:=fun h i hi=>by
    by_cases e : i=j
    · subst e; exact h
    · exact hgj i (by omega)
  generalize hoj : l.getD j og0=o at *
  have hmc:=machineCheck_vr (w:=u) o.r (p.mt : Int)
  have ho1:=machineOuts_vr (w:=u) o.r
  have ho2:=machineOuts_vr (w:=w) (p.ms.getD k [])
  unfold mcA mcC at *
  simp (disch:=((try simp only [lZ]); omega)) only [aZ,aM,aG37,hoj]
  refine hmc.same (by simp (disch:=first | omega | simp (disch:=omega) only [aG,aM,aG37]) only [fZ,aM,aG37]) rfl (aret_of ?_)
  by_cases c1 : mcheck o.r p.mt=0
  case neg =>
    have e : ogE p k o=mcheck o.r p.mt:=by unfold ogE; rw [if_pos c1]
    rw [ej (by omega),e]
    simp (disch:=((try simp only [lZ]); omega)) only [aZ,aM,aG37,decide_eq_true (show ¬ mcheck o.r p.mt=0 from c1),r_setpoint_possible]
    exact post_v ⟨rfl,rfl⟩
  simp (disch:=((try simp only [lZ]); omega)) only [aZ,aM,aG37,c1]
  refine ho1.same (by simp (disch:=first | omega | simp (disch:=omega) only [aG,aM,aG37]) only [fZ,aM,aG37]) rfl (aret_of ?_)
  simp (disch:=((try simp only [lZ]); omega)) only [aZ,aM,aG37]
  refine ho2.same (by simp (disch:=first | omega | simp (disch:=omega) only [aG,aM,aG37]) only [fZ,aM,aG37]) rfl (aret_of ?_)
  by_cases c2 : ((outsN o.r : Nat) : Int)≠(outsN (p.ms.getD k []) : Nat)
  · have e : ogE p k o=3:=by unfold ogE; rw [if_neg (by omega),if_pos (by omega)]
    rw [ej (by omega),e]
    simp (disch:=((try simp only [lZ]); omega)) only [aZ,aM,aG37,decide_eq_true c2,r_setpoint_possible]
    exact post_v ⟨rfl,rfl⟩
  by_cases c3 : o.c < 0∨o.c > 1000000000000
  · have e : ogE p k o=1:=by unfold ogE; rw [if_neg (by omega),if_neg (by omega),if_pos (by omega)]
    rw [ej (by omega),e]
    rcases c3 with h | h
    · simp (disch:=((try simp only [lZ]); omega)) only [aZ,aM,aG37,decide_eq_false c2,decide_eq_true h,r_setpoint_possible]
      exact post_v ⟨rfl,rfl⟩
    · simp (disch:=((try simp only [lZ]); omega)) only [aZ,aM,aG37,decide_eq_false c2,decide_eq_false (show ¬ o.c < 0 by omega),decide_eq_true h,r_setpoint_possible]
      exact post_v ⟨rfl,rfl⟩
  have e : ogE p k o=0:=by unfold ogE; rw [if_neg (by omega),if_neg (by omega),if_neg (by omega)]
  simp (disch:=((try simp only [lZ]); omega)) only [aZ,aM,aG37,decide_eq_false c2,decide_eq_false (show ¬ o.c < 0 by omega),decide_eq_false (show ¬ o.c > 1000000000000 by omega)]
  refine ⟨j+1,⟨by omega,hgn e⟩,by omega,?_⟩
  exact Cut.of' 1 rfl (by omega) (by simp (disch:=first | omega | simp (disch:=omega) only [aG,aM,aG37]) only [fZ,aM,aG37]) (by simp (disch:=first | omega | simp (disch:=omega) only [aG,aM,aG37]) only [fZ,aM,aG37])
end Go.Proofs.Ytcppaddgclkekaa
namespace Go.Proofs.Ytcppaddgclkekaa
open Go Go.Lft
set_option linter.unusedSimpArgs false
set_option linter.unusedVariables false
attribute [local congr] ob_congr bw_congr ib_congr ck_congr iwA_congr itA_congr aw_congr awp_congr sqA_congr bkA_congr vr_congr gd_congr
def prd : List (List Og)→Nat
  | []=>1
  | l :: L=>max 1 l.length*prd L
theorem prd_pos : ∀ (L : List (List Og)),1≤prd L
  | []=>Nat.le_refl _
  | l :: L=>by
    have:=prd_pos L
    unfold prd
    exact Nat.mul_le_mul (Nat.le_max_left 1 l.length) this
theorem prd_app : ∀ (L M : List (List Og)),prd (L++M)=prd L*prd M
  | [],M=>by simp [prd]
  | l :: L,M=>by
    show max 1 l.length*prd (L++M)=(max 1 l.length*prd L)*prd M
    rw [prd_app L M,Nat.mul_assoc]
theorem prd_succ (L : List (List Og)) (k : Nat) (h : k < L.length) : prd (L.take (k+1))=prd (L.take k)*max 1 (L.getD k []).length:=by
  rw [take_succ_get' L k [] h,prd_app]
  show _*(max 1 (L.getD k []).length*1)=_
  rw [Nat.mul_one]
theorem prd_take (L : List (List Og)) (k : Nat) : prd (L.take k)≤prd L:=by
  have h:=prd_app (L.take k) (L.drop k)
  rw [List.take_append_drop] at h
  have h2:=prd_pos (L.drop k)
  rw [h]
  exact Nat.le_mul_of_pos_right _ h2
theorem spMany_vr {u : Bool} (L : List (List Og)) (hl : L.length≤1000) (hb : ∀ l∈L,l.length≤100) : VR P false n_setpoint_many [.fs u (ogL u L)] [] (isR (.v (.bool (decide (256 < prd L))))):=by
  refine vr_setpoint_many (by simp) (.inr rfl) fun _ _=>?_
  simp (disch:=((try simp only [lZ]); omega)) only [aZ,aM,aG37,s_setpoint_many,v_setpoint_many]
  refine AWP.loopP g_setpoint_many_0 (fun k : Nat=>k≤L.length∧prd (L.take k)≤256) (fun k=>[(1,.v (.bool false)),(2,.v (.int .i64 (prd (L.take k)))),(3,.v (.int .i64 k))]) (fun _=>[]) (fun k=>L.length - k) 0 ⟨by omega,by simp [prd]⟩ ?_ ?_
  · exact Cut.fg (by simp (disch:=first | omega | simp (disch:=omega) only [aG,aM,aG37]) only [fZ,aM,aG37,List.take_zero,show ((prd [] : Nat) : Int)=1 from rfl,fgl_nil,fgl_cons,or_true,true_or])
  rintro k ⟨hk,hp⟩
  by_cases hkt : k < L.length
  · have hs:=prd_succ L k hkt
    have hlk:=hb _ (mem_get [] hkt)
    have h1:=Nat.mul_le_mul hp (show max 1 (L.getD k []).length≤100 by omega)
    have h2 : ((prd (L.take k) : Nat) : Int)*max 1 ((L.getD k []).length : Int)=((prd (L.take (k+1)) : Nat) : Int):=by rw [hs,Int.natCast_mul]; congr 1; omega
    have h3 : ((prd (L.take k) : Nat) : Int)*max 1 ((L.getD k []).length : Int)≤25600:=by rw [h2,hs]; omega
    have h4 : 0≤((prd (L.take k) : Nat) : Int)*max 1 ((L.getD k []).length : Int):=by rw [h2]; omega
    by_cases hm : ((prd (L.take (k+1)) : Nat) : Int) > 256
    · have:=prd_take L (k+1)
      rw [decide_eq_true (show 256 < prd L by omega)]
      simp (disch:=((try simp only [lZ]); omega)) only [aZ,aM,aG37,h2,decide_eq_true hm,r_setpoint_many]
      exact post_v ⟨rfl,rfl⟩
    · simp (disch:=((try simp only [lZ]); omega)) only [aZ,aM,aG37,h2,decide_eq_false hm]
      refine ⟨k+1,⟨by omega,by omega⟩,by omega,?_⟩
      exact Cut.fg (by simp (disch:=first | omega | simp (disch:=omega) only [aG,aM,aG37]) only [fZ,aM,aG37,fgl_nil,fgl_cons,or_true,true_or])
  have hke : k=L.length:=by omega
  subst hke
  rw [List.take_length] at hp
  rw [decide_eq_false (show ¬ 256 < prd L by omega)]
  simp (disch:=((try simp only [lZ]); omega)) only [aZ,aM,aG37,r_setpoint_many]
  exact post_v ⟨rfl,rfl⟩
def spc (L : List (List Og)) (pk : List Int) (m : Nat) : Int:=if (L.getD m []).length=0 then 0 else ((L.getD m []).getD (pk.getD m 0).toNat og0).c
def spcL (L : List (List Og)) (pk : List Int) : List Int:=(List.range L.length).map (spc L pk)
def spcS (L : List (List Og)) (pk : List Int) : Int:=(spcL L pk).sum
theorem spcL_len (L : List (List Og)) (pk : List Int) : (spcL L pk).length=L.length:=by simp [spcL]
theorem spcL_get (L : List (List Og)) (pk : List Int) (m : Nat) (h : m < L.length) : (spcL L pk).getD m 0=spc L pk m:=by simp [spcL,List.getD_eq_getElem?_getD,h]
def PkOk (L : List (List Og)) (pk : List Int) : Prop:=pk.length=L.length∧∀ m,m < L.length→0≤pk.getD m 0∧(pk.getD m 0 < (L.getD m []).length∨((L.getD m []).length=0∧pk.getD m 0=0))
def CostOk (L : List (List Og)) : Prop:=∀ l∈L,∀ o∈l,0≤o.c∧o.c≤1000000000000
theorem spc_bd {L : List (List Og)} {pk : List Int} (hc : CostOk L) (hp : PkOk L pk) {m : Nat} (hm : m < L.length) : 0≤spc L pk m∧spc L pk m≤1000000000000:=by
  have h1:=hp.2 m hm
  unfold spc
  split
  · omega
  · exact hc _ (mem_get [] hm) _ (mem_get og0 (by omega))
theorem spSpent_vr {u u' : Bool} (L : List (List Og)) (pk : List Int) (hl : L.length≤1000) (hc : CostOk L) (hp : PkOk L pk) : VR P false n_setpoint_spent [.fs u (ogL u L),.fs u' (ints pk)] [] (isR (.v (.int .i64 (spcS L pk)))):=by
  refine vr_setpoint_spent (by simp) (.inr rfl) fun _ _=>?_
  have hL:=spcL_len L pk
  have hbd : ∀ k,k≤L.length→0*(k : Int)≤sumT (spcL L pk) k∧sumT (spcL L pk) k≤1000000000000*k:=fun k hk=>sumT_bd (spcL L pk) 0 1000000000000 k (by omega) fun i hi=>by
    rw [spcL_get _ _ _ (by omega)]
    exact spc_bd hc hp (by omega)
  have hsu:=fun k hk=>sumT_succ (spcL L pk) k hk
  have hall : sumT (spcL L pk) L.length=spcS L pk:=by rw [← hL]; exact sumT_all _
  obtain ⟨p1,p2⟩:=hp
  simp (disch:=((try simp only [lZ]); omega)) only [aZ,aM,aG37,s_setpoint_spent,v_setpoint_spent]
  refine AWP.loopP g_setpoint_spent_0 (fun k : Nat=>k≤L.length) (fun k=>[(3,.v (.int .i64 (sumT (spcL L pk) k))),(4,.v (.int .i64 k))]) (fun _=>[]) (fun k=>L.length - k) 0 (by omega) ?_ ?_
  · rw [sumT_zero]
    exact Cut.fg (by simp (disch:=first | omega | simp (disch:=omega) only [aG,aM,aG37]) only [fZ,aM,aG37,fgl_nil,fgl_cons,or_true,true_or])
  rintro k hk
  by_cases hkt : k < L.length
  · have hs:=hsu k (by omega)
    rw [spcL_get _ _ _ hkt] at hs
    have b1:=hbd k hk
    have b2:=spc_bd hc ⟨p1,p2⟩ hkt
    have q2:=p2 k hkt
    unfold spc at hs b2
    generalize hlk : L.getD k []=l at *
    generalize hpk : pk.getD k 0=x at *
    by_cases h0 : l.length=0
    · rw [if_pos h0,Int.add_zero] at hs
      simp (disch:=((try simp only [lZ]); omega)) only [aZ,aM,aG37,hlk,hpk,decide_eq_false (show ¬ (l.length : Int) > 0 by omega)]
      refine ⟨k+1,by omega,by omega,?_⟩
      rw [hs]
      exact Cut.fg (by simp (disch:=first | omega | simp (disch:=omega) only [aG,aM,aG37]) only [fZ,aM,aG37,fgl_nil,fgl_cons,or_true,true_or])
    · rw [if_neg h0] at hs b2
      simp (disch:=((try simp only [lZ]); omega)) only [aZ,aM,aG37,hlk,hpk,decide_eq_true (show (l.length : Int) > 0 by omega)]
      rw [← hs]
      refine ⟨k+1,by omega,by omega,?_⟩
      exact Cut.fg (by simp (disch:=first | omega | simp (disch:=omega) only [aG,aM,aG37]) only [fZ,aM,aG37,fgl_nil,fgl_cons,or_true,true_or])
  have hke : k=L.length:=by omega
  subst hke
  rw [← hall]
  simp (disch:=((try simp only [lZ]); omega)) only [aZ,aM,aG37,r_setpoint_spent]
  exact post_v ⟨rfl,rfl⟩
theorem spRates_vr {u : Bool} (r : Mc) (hl : r.length≤1000) (hr : ∀ x∈r,x.length≤1000) : VR P false n_setpoint_rates [.fs u (rows u r)] [] (isR (.fs true (rows true r))):=by
  refine vr_setpoint_rates (by simp) (.inr rfl) fun _ _=>?_
  simp (disch:=((try simp only [lZ]); omega)) only [aZ,aM,aG37,s_setpoint_rates,v_setpoint_rates]
  refine AWP.cut (Cut.virt 2 1 rfl) ?_
  refine AWP.loopP g_setpoint_rates_0 (fun k : Nat=>k≤r.length) (fun k=>[(2,.vs 0 k 1 k),(3,.v (.int .i64 k))]) (fun k=>[(0,⟨k,rows true (r.take k)⟩)]) (fun k=>r.length - k) 0 (by omega) ?_ ?_
  · rw [List.take_zero]
    exact Cut.fg (by simp (disch:=first | omega | simp (disch:=omega) only [aG,aM,aG37]) only [fZ,aM,aG37,fgl_nil,fgl_cons,or_true,true_or])
  rintro k hk
  have hrl : (rows true (r.take k)).length=k:=by rw [r_len,List.length_take]; omega
  by_cases hkt : k < r.length
  · have hro:=hr _ (mem_get [] hkt)
    have hk2:=take_succ_get' r k [] hkt
    generalize hrk : r.getD k []=x at *
    simp (disch:=((try simp only [lZ]); omega)) only [aZ,aM,aG37,hrk,hrl]
    refine ⟨k+1,by omega,by omega,?_⟩
    rw [List.take_take,Nat.min_self,hk2,show rows true (r.take k++[x])=rows true (r.take k)++[.fs true (ints x)] by simp [rows]]
    exact Cut.of' 1 rfl (by omega) ⟨rfl,FzL.cat (FzL.refl (r_bd _ _ _)) ⟨fz_slI 1 _ 1 1 _ x (by omega) rfl (by simp (disch:=((try simp only [lZ]); omega)) only [aZ,aM,aG37]),trivial⟩,trivial⟩ (by simp (disch:=first | omega | simp (disch:=omega) only [aG,aM,aG37]) only [fZ,aM,aG37])
  have hke : k=r.length:=by omega
  subst hke
  rw [List.take_length] at hrl ⊢
  simp (disch:=((try simp only [lZ]); omega)) only [aZ,aM,aG37,r_setpoint_rates]
  exact post0 (fz_vsR 0 _ 0 _ _ r (by omega) rfl (by simp (disch:=((try simp only [lZ]); omega)) only [aZ,aM,aG37])) ⟨rfl,rfl⟩
def pickM (p : Pl) (L : List (List Og)) (pk : List Int) (m : Nat) : Mc:=if (L.getD m []).length=0 then p.ms.getD m [] else ((L.getD m []).getD (pk.getD m 0).toNat og0).r
def pickL (p : Pl) (L : List (List Og)) (pk : List Int) : List Mc:=(List.range p.ms.length).map (pickM p L pk)
def pickP (p : Pl) (L : List (List Og)) (pk : List Int) : Pl:=⟨p.mat,pickL p L pk,p.bs,p.fd⟩
theorem pickL_len (p : Pl) (L : List (List Og)) (pk : List Int) : (pickL p L pk).length=p.ms.length:=by simp [pickL]
theorem pickL_get (p : Pl) (L : List (List Og)) (pk : List Int) (m : Nat) (h : m < p.ms.length) : (pickL p L pk).getD m []=pickM p L pk m:=by simp [pickL,List.getD_eq_getElem?_getD,h]
theorem poss_ok {p : Pl} {L : List (List Og)} (h : possE p L=0) : L.length=p.ms.length∧∀ m,m < p.ms.length→(L.getD m []).length≤4∧∀ o∈L.getD m [],mcheck o.r p.mt=0∧outsN o.r=outsN (p.ms.getD m [])∧0≤o.c∧o.c≤1000000000000:=by
  unfold possE at h
  split at h
  · cases h
  rename_i hl
  refine ⟨Classical.not_not.1 hl,fun m hm=>?_⟩
  have h1:=firstE_all h m (List.mem_range.2 hm)
  unfold ogsE at h1
  split at h1
  · cases h1
  refine ⟨by omega,fun o ho=>?_⟩
  have h2:=firstE_all h1 o ho
  unfold ogE at h2
  split at h2
  · rename_i h3; exact absurd h2 h3
  split at h2
  · cases h2
  split at h2
  · cases h2
  omega
theorem poss_cost {p : Pl} {L : List (List Og)} (h : possE p L=0) : CostOk L:=fun l hl o ho=>by
  obtain ⟨h1,h2⟩:=poss_ok h
  obtain ⟨m,hm,rfl⟩:=get_mem [] hl
  exact ((h2 m (by omega)).2 o ho).2.2
theorem pick_ok {p : Pl} (ok : POk p) {L : List (List Og)} (h : possE p L=0) {pk : List Int} (hp : PkOk L pk) {m : Nat} (hm : m < p.ms.length) : (pickM p L pk m).length≤16∧∀ x∈pickM p L pk m,x.length≤4:=by
  obtain ⟨h1,h2⟩:=poss_ok h
  have hq:=hp.2 m (by omega)
  obtain ⟨m1,m2,m3⟩:=ok.mt1
  unfold pickM
  split
  · have hmo:=ok.mc _ (mem_get [] hm)
    exact ⟨by have:=hmo.len; have:=hmo.m2; omega,fun x hx=>(hmo.row x hx).2.1⟩
  · have:=(h2 m hm).2 _ (mem_get og0 (k:=(pk.getD m 0).toNat) (l:=L.getD m []) (by omega))
    have hmo:=mcheck_ok this.1
    exact ⟨by have:=hmo.len; omega,fun x hx=>(hmo.row x hx).2.1⟩
theorem spPicked_vr {w v u u' : Bool} {p : Pl} (ok : POk p) {L : List (List Og)} (h : possE p L=0) {pk : List Int} (hp : PkOk L pk) : VR P false n_setpoint_picked [plA w v p,.fs u (ogL u L),.fs u' (ints pk)] [] (isR (plA true true (pickP p L pk))):=by
  refine vr_setpoint_picked (by simp) (.inr rfl) fun _ _=>?_
  obtain ⟨h1,h2⟩:=poss_ok h
  have n2:=ok.n2
  have b2:=ok.b2
  have hpo:=fun m hm=>pick_ok ok h hp (m:=m) hm
  obtain ⟨p1,p2⟩:=hp
  have hn : ∀ H,newsA H 4 (.fs v (bts p.bs))=some (p.bs.length,p.bs.flatMap btC):=fun H=>by simp only [newsA,bts_flat,Option.bind_some,btC_one,if_true,bt_len]
  have hpl:=pickL_len p L pk
  have hpg:=pickL_get p L pk
  have epp : plA true true (pickP p L pk)=.agg [.v (.int .i64 p.mat),.fs true (mcs true (pickL p L pk)),.fs true (bts p.bs),.v (.int .i64 p.fd)]:=rfl
  rw [epp]
  unfold plA plC
  simp (disch:=((try simp only [lZ]); omega)) only [aZ,aM,aG37,s_setpoint_picked,v_setpoint_picked,hn]
  refine AWP.cut (Cut.virtB 2 0 1 1 rfl rfl) ?_
  refine AWP.loopP g_setpoint_picked_0 (fun k : Nat=>k≤p.ms.length) (fun k=>[(6,.v (.int .i64 k))]) (fun k=>[(2,⟨0,[.v (.int .i64 p.mat),.vs 4 k 1 k,.sl 3 1 4 0 p.bs.length,.v (.int .i64 p.fd)]⟩),(4,⟨k,((pickL p L pk).take k).map mxF⟩)]) (fun k=>p.ms.length - k) 0 (by omega) ?_ ?_
  · rw [List.take_zero]
    exact Cut.fg (by simp (disch:=first | omega | simp (disch:=omega) only [aG,aM,aG37]) only [fZ,aM,aG37,fgl_nil,fgl_cons,or_true,true_or])
  rintro k hk
  have hkl : ((pickL p L pk).take k).length=k:=by rw [List.length_take]; omega
  have hkm : (((pickL p L pk).take k).map mxF).length=k:=by rw [List.length_map]; exact hkl
  by_cases hkt : k < p.ms.length
  · obtain ⟨q1,q2⟩:=hpo k hkt
    have hk2:=take_succ_get' (pickL p L pk) k [] (by omega)
    rw [hpg k hkt] at hk2
    have q3:=p2 k (by omega)
    have hpm : pickM p L pk k=if (L.getD k []).length=0 then p.ms.getD k [] else ((L.getD k []).getD (pk.getD k 0).toNat og0).r:=rfl
    generalize hlk : L.getD k []=l at *
    generalize hpk : pk.getD k 0=y at *
    generalize pickM p L pk k=M at *
    have e2 : ((pickL p L pk).take (k+1)).map mxF=((pickL p L pk).take k).map mxF++[mxF M]:=by rw [hk2]; simp
    have e3 : List.take k (((pickL p L pk).take k).map mxF)++[A.fs true (rows true M)]=((pickL p L pk).take (k+1)).map mxF:=by rw [e2,List.take_of_length_le (by omega)]; rfl
    by_cases h0 : l.length=0
    · rw [if_pos h0] at hpm
      rw [hpm] at q1 q2
      have hra:=spRates_vr (u:=w) (p.ms.getD k []) (by omega) (fun x hx=>by have:=q2 x hx; omega)
      simp (disch:=((try simp only [lZ]); omega)) only [aZ,aM,aG37,hlk,decide_eq_false (show ¬ (l.length : Int) > 0 by omega)]
      refine hra.same (by simp (disch:=first | omega | simp (disch:=omega) only [aG,aM,aG37]) only [fZ,aM,aG37]) (by simp (disch:=first | omega | simp (disch:=omega) only [aG,aM,aG37]) only [fZ,aM,aG37]) (aret_of ?_)
      simp (disch:=((try simp only [lZ]); omega)) only [aZ,aM,aG37,hkm]
      refine ⟨k+1,by omega,by omega,?_⟩
      rw [← hpm,e3]
      exact Cut.of' 5 rfl (by omega) ⟨rfl,by simp (disch:=first | omega | simp (disch:=omega) only [aG,aM,aG37]) only [fZ,aM,aG37],rfl,by simp (disch:=first | omega | simp (disch:=omega) only [aG,aM,aG37]) only [fZ,aM,aG37],rfl,by simp (disch:=first | omega | simp (disch:=omega) only [aG,aM,aG37]) only [fZ,aM,aG37],rfl,FzL.refl (btC_bd _ _),rfl,FzL.refl (mxF_bd _ _),trivial⟩ (by simp (disch:=first | omega | simp (disch:=omega) only [aG,aM,aG37]) only [fZ,aM,aG37])
    · rw [if_neg h0] at hpm
      have hra:=spRates_vr (u:=u) M (by omega) (fun x hx=>by have:=q2 x hx; omega)
      simp (disch:=((try simp only [lZ]); omega)) only [aZ,aM,aG37,hlk,hpk,decide_eq_true (show (l.length : Int) > 0 by omega)]
      rw [← hpm]
      try simp (disch:=((try simp only [lZ]); omega)) only [aZ,aM,aG37]
      refine hra.same (by simp (disch:=first | omega | simp (disch:=omega) only [aG,aM,aG37]) only [fZ,aM,aG37]) (by simp (disch:=first | omega | simp (disch:=omega) only [aG,aM,aG37]) only [fZ,aM,aG37]) (aret_of ?_)
      simp (disch:=((try simp only [lZ]); omega)) only [aZ,aM,aG37,hkm]
      refine ⟨k+1,by omega,by omega,?_⟩
      rw [e3]
      exact Cut.of' 5 rfl (by omega) ⟨rfl,by simp (disch:=first | omega | simp (disch:=omega) only [aG,aM,aG37]) only [fZ,aM,aG37],rfl,by simp (disch:=first | omega | simp (disch:=omega) only [aG,aM,aG37]) only [fZ,aM,aG37],rfl,by simp (disch:=first | omega | simp (disch:=omega) only [aG,aM,aG37]) only [fZ,aM,aG37],rfl,FzL.refl (btC_bd _ _),rfl,FzL.refl (mxF_bd _ _),trivial⟩ (by simp (disch:=first | omega | simp (disch:=omega) only [aG,aM,aG37]) only [fZ,aM,aG37])
  have hke : k=p.ms.length:=by omega
  subst hke
  have hta : (pickL p L pk).take p.ms.length=pickL p L pk:=List.take_of_length_le (by omega)
  rw [hta]
  have hm1 : ((pickL p L pk).map mxF).length=p.ms.length:=by rw [List.length_map]; exact hpl
  simp (disch:=((try simp only [lZ]); omega)) only [aZ,aM,aG37,r_setpoint_picked]
  exact post0 (r:=.agg [.v (.int .i64 p.mat),.fs true (mcs true (pickL p L pk)),.fs true (bts p.bs),.v (.int .i64 p.fd)]) (Fz.agg (l:=[.v (.int .i64 p.mat),.vs 4 p.ms.length 1 p.ms.length,.sl 3 1 4 0 p.bs.length,.v (.int .i64 p.fd)]) (r:=[.v (.int .i64 p.mat),.fs true (mcs true (pickL p L pk)),.fs true (bts p.bs),.v (.int .i64 p.fd)]) ⟨Fz.refl rfl,Fz.vs (l:=(pickL p L pk).map mxF) (r:=(pickL p L pk).map mxF) (els:=mcs true (pickL p L pk)) (by omega) (by simp (disch:=((try simp only [lZ]); omega)) only [aZ,aM,aG37]) (FzL.refl (mxF_bd _ _)) (by rw [mcs_flat,List.take_of_length_le (by omega)]) (by rw [mc_len,hpl]) (by omega),
    Fz.sl (r:=p.bs.flatMap btC) (els:=bts p.bs) (by omega) (by simp (disch:=((try simp only [lZ]); omega)) only [aZ,aM,aG37]) (FzL.refl (btC_bd _ _)) (by rw [bts_flat,List.drop_zero,List.take_of_length_le (by rw [btC_len]; omega)]) (bt_len _) (by rw [btC_len]; omega),Fz.refl rfl,trivial⟩) ⟨rfl,rfl⟩
def pl0 : Pl:=⟨0,[],[],0⟩
def pkB (L : List (List Og)) (pk : List Int) (m : Nat) : Prop:=pk.getD m 0 < 0∨max 1 ((L.getD m []).length : Int)≤pk.getD m 0
instance (L : List (List Og)) (pk : List Int) : DecidablePred (pkB L pk):=fun m=>by unfold pkB; infer_instance
def applR (p : Pl) (L : List (List Og)) (pk : List Int) : Pl×Int :=
  if pcheck p≠0 then (pl0,pcheck p) else if possE p L≠0 then (pl0,possE p L) else if pk.length≠p.ms.length then (pl0,3) else if 0≤idxE (pkB L pk) (List.range pk.length) then (pl0,1) else (pickP p L pk,0)
def applT (x : Pl×Int) : A:=.tup [plA true true x.1,.v (.int .i64 x.2)]
theorem pkB_ok {L : List (List Og)} {pk : List Int} (hl : pk.length=L.length) (h : ∀ m,m < L.length→¬ pkB L pk m) : PkOk L pk:=⟨hl,fun m hm=>by
  have:=h m hm
  unfold pkB at this
  omega⟩
theorem applT_err (H : List Blk) (e : Int) : Fz 0 H (.tup [.agg [.v (.int .i64 0),.v (.slice none 0 0),.v (.slice none 0 0),.v (.int .i64 0)],.v (.int .i64 e)]) (applT (pl0,e)) :=
  Fz.tup ⟨Fz.agg (l:=[.v (.int .i64 0),.v (.slice none 0 0),.v (.slice none 0 0),.v (.int .i64 0)]) (r:=[.v (.int .i64 0),.fs true [],.fs true [],.v (.int .i64 0)]) ⟨Fz.refl rfl,fz_nil _ _,fz_nil _ _,Fz.refl rfl,trivial⟩,Fz.refl rfl,trivial⟩
theorem spApply_vr {w v u u' : Bool} (p : Pl) (L : List (List Og)) (pk : List Int) (hpk : pk.length≤1000000) : VR P false n_setpoint_Apply [plA w v p,.fs u (ogL u L),.fs u' (ints pk)] [] (isR (applT (applR p L pk))):=by
  refine vr_setpoint_Apply (by simp) (.inr rfl) fun _ _=>?_
  have hck:=layoutCheck_vr (w:=w) (v:=v) p
  unfold plA plC at *
  by_cases h1 : pcheck p=0
  case neg =>
    have e : applR p L pk=(pl0,pcheck p):=by unfold applR; rw [if_pos h1]
    rw [e]
    simp (disch:=((try simp only [lZ]); omega)) only [aZ,aM,aG37,s_setpoint_Apply,v_setpoint_Apply]
    refine hck.same (by simp (disch:=first | omega | simp (disch:=omega) only [aG,aM,aG37]) only [fZ,aM,aG37]) rfl (aret_of ?_)
    simp (disch:=((try simp only [lZ]); omega)) only [aZ,aM,aG37,decide_eq_true (show ¬ pcheck p=0 from h1),r_setpoint_Apply]
    exact post0 (applT_err _ _) ⟨rfl,rfl⟩
  have ok:=pcheck_ok h1
  have n2:=ok.n2
  have hpo:=spPossible_vr (w:=w) (v:=v) (u:=u) ok L
  unfold plA plC at hpo
  simp (disch:=((try simp only [lZ]); omega)) only [aZ,aM,aG37,s_setpoint_Apply,v_setpoint_Apply]
  refine hck.same (by simp (disch:=first | omega | simp (disch:=omega) only [aG,aM,aG37]) only [fZ,aM,aG37]) rfl (aret_of ?_)
  simp (disch:=((try simp only [lZ]); omega)) only [aZ,aM,aG37,h1]
  refine hpo.same (by simp (disch:=first | omega | simp (disch:=omega) only [aG,aM,aG37]) only [fZ,aM,aG37]) rfl (aret_of ?_)
  by_cases h2 : possE p L=0
  case neg =>
    have e : applR p L pk=(pl0,possE p L):=by unfold applR; rw [if_neg (fun h=>h h1),if_pos h2]
    rw [e]
    simp (disch:=((try simp only [lZ]); omega)) only [aZ,aM,aG37,decide_eq_true (show ¬ possE p L=0 from h2),r_setpoint_Apply]
    exact post0 (applT_err _ _) ⟨rfl,rfl⟩
  by_cases h3 : (pk.length : Int)≠p.ms.length
  · have e : applR p L pk=(pl0,3):=by unfold applR; rw [if_neg (fun h=>h h1),if_neg (fun h=>h h2),if_pos (by omega)]
    rw [e]
    simp (disch:=((try simp only [lZ]); omega)) only [aZ,aM,aG37,h2,decide_eq_true h3,r_setpoint_Apply]
    exact post0 (applT_err _ _) ⟨rfl,rfl⟩
  have hl : L.length=p.ms.length:=(poss_ok h2).1
  simp (disch:=((try simp only [lZ]); omega)) only [aZ,aM,aG37,h2,decide_eq_false h3]
  refine AWP.loopP g_setpoint_Apply_0 (fun k : Nat=>k≤pk.length∧∀ m,m < k→¬ pkB L pk m) (fun k=>[(4,.v (.int .i64 0)),(8,.v (.int .i64 k))]) (fun _=>[]) (fun k=>pk.length - k) 0 ⟨by omega,fun i hi=>absurd hi (by omega)⟩ ?_ ?_
  · exact Cut.fg (by simp (disch:=first | omega | simp (disch:=omega) only [aG,aM,aG37]) only [fZ,aM,aG37,fgl_nil,fgl_cons,or_true,true_or])
  rintro k ⟨hk,hg⟩
  by_cases hkt : k < pk.length
  · have hgd : pkB L pk k↔(pk.getD k 0 < 0∨max 1 ((L.getD k []).length : Int)≤pk.getD k 0):=Iff.rfl
    have hit : pkB L pk k→applR p L pk=(pl0,1):=fun h=>by
      have:=idxE_hit (p:=pkB L pk) 0 (l:=List.range pk.length) (k:=k) (by simpa using hkt) (fun i hi=>by rw [range_getD (by omega)]; exact hg i hi) (by rw [range_getD hkt]; exact h)
      unfold applR
      rw [if_neg (fun h=>h h1),if_neg (fun h=>h h2),if_neg (by omega),if_pos (by omega)]
    have hgn : ¬ pkB L pk k→∀ m,m < k+1→¬ pkB L pk m:=fun h m hm=>by
      by_cases e : m=k
      · subst e; exact h
      · exact hg m (by omega)
    generalize hlk : L.getD k []=l at *
    generalize hyk : pk.getD k 0=y at *
    by_cases c1 : y < 0
    · rw [hit (hgd.2 (.inl c1))]
      simp (disch:=((try simp only [lZ]); omega)) only [aZ,aM,aG37,hlk,hyk,decide_eq_true c1,r_setpoint_Apply]
      exact post0 (applT_err _ _) ⟨rfl,rfl⟩
    by_cases c2 : y≥max 1 (l.length : Int)
    · rw [hit (hgd.2 (.inr c2))]
      simp (disch:=((try simp only [lZ]); omega)) only [aZ,aM,aG37,hlk,hyk,decide_eq_false c1,decide_eq_true c2,r_setpoint_Apply]
      exact post0 (applT_err _ _) ⟨rfl,rfl⟩
    · simp (disch:=((try simp only [lZ]); omega)) only [aZ,aM,aG37,hlk,hyk,decide_eq_false c1,decide_eq_false c2]
      refine ⟨k+1,⟨by omega,hgn (fun h=>by rcases hgd.1 h with h | h<;>omega)⟩,by omega,?_⟩
      exact Cut.fg (by simp (disch:=first | omega | simp (disch:=omega) only [aG,aM,aG37]) only [fZ,aM,aG37,fgl_nil,fgl_cons,or_true,true_or])
  have hke : k=pk.length:=by omega
  subst hke
  have hpo2 : PkOk L pk:=pkB_ok (by omega) fun m hm=>hg m (by omega)
  have hpi:=spPicked_vr (w:=w) (v:=v) (u:=u) (u':=u') ok h2 hpo2
  have e : applR p L pk=(pickP p L pk,0):=by
    unfold applR
    rw [if_neg (fun h=>h h1),if_neg (fun h=>h h2),if_neg (by omega),if_neg]
    have:=idxE_none (p:=pkB L pk) 0 (l:=List.range pk.length) fun i hi=>by
      have hi' : i < pk.length:=by simpa using hi
      rw [range_getD hi']; exact hg i hi'
    omega
  rw [e]
  unfold applT
  unfold plA plC at hpi ⊢
  simp (disch:=((try simp only [lZ]); omega)) only [aZ,aM,aG37]
  refine hpi.same (by simp (disch:=first | omega | simp (disch:=omega) only [aG,aM,aG37]) only [fZ,aM,aG37]) (by simp (disch:=first | omega | simp (disch:=omega) only [aG,aM,aG37]) only [fZ,aM,aG37]) (aret_of ?_)
  simp (disch:=((try simp only [lZ]); omega)) only [aZ,aM,aG37,r_setpoint_Apply]
  exact post0 (Fz.refl (by simp (disch:=first | omega | simp (disch:=omega) only [aG,aM,aG37]) only [fZ,aM,aG37])) ⟨rfl,rfl⟩
def blkP (T : List (List Int)) (y : Int) : Nat→List (List Int)
  | 0=>[]
  | n+1=>T.map (y :: ·)++blkP T (y+1) n
def allP : List (List Og)→List (List Int)
  | []=>[[]]
  | l :: L=>blkP (allP L) 0 (max 1 l.length)
def sfx : List (List Og)→List Int→List (List Int)
  | l :: L,x :: pk=>(sfx L pk).map (x :: ·)++blkP (allP L) (x+1) (max 1 l.length - 1 - x.toNat)
  | _,_=>[[]]
def nxk : List (List Og)→List Int→Option (List Int)
  | l :: L,x :: pk=>match nxk L pk with
    | some q=>some (x :: q)
    | none=>if x+1 < l.length then some ((x+1) :: List.replicate pk.length 0) else none
  | _,_=>none
theorem nxk_cons (l : List Og) (L : List (List Og)) (x : Int) (pk : List Int) : nxk (l :: L) (x :: pk) = match nxk L pk with
    | some q=>some (x :: q)
    | none=>if x+1 < l.length then some ((x+1) :: List.replicate pk.length 0) else none:=rfl
theorem sfx_zero : ∀ (L : List (List Og)),sfx L (List.replicate L.length 0)=allP L
  | []=>rfl
  | l :: L=>by
    show (sfx L (List.replicate L.length 0)).map ((0 : Int) :: ·)++blkP (allP L) (0+1) (max 1 l.length - 1 - (0 : Int).toNat)=blkP (allP L) 0 (max 1 l.length)
    rw [sfx_zero L,show max 1 l.length=(max 1 l.length - 1 - (0 : Int).toNat)+1 by simp; omega]
    rfl
theorem sfx_nxk : ∀ (L : List (List Og)) (pk : List Int),pk.length=L.length→(∀ i,0≤pk.getD i 0)→sfx L pk=pk :: (match nxk L pk with | some q=>sfx L q | none=>[])
  | [],[],_,_=>rfl
  | [],_ :: _,h,_=>by simp at h
  | _ :: _,[],h,_=>by simp at h
  | l :: L,x :: pk,h,h0=>by
    have hl : pk.length=L.length:=by simpa using h
    have hx : 0≤x:=by have:=h0 0; simpa using this
    have ih:=sfx_nxk L pk hl (fun i=>by have:=h0 (i+1); simpa using this)
    show (sfx L pk).map (x :: ·)++blkP (allP L) (x+1) (max 1 l.length - 1 - x.toNat)=_
    rw [ih,nxk_cons]
    cases hn : nxk L pk with
    | some q=>rfl
    | none =>
      simp only [List.map_cons,List.map_nil,List.cons_append,List.nil_append]
      congr 1
      by_cases hc : x+1 < l.length
      · rw [if_pos hc]
        show _=(sfx L (List.replicate pk.length 0)).map ((x+1) :: ·)++blkP (allP L) (x+1+1) (max 1 l.length - 1 - (x+1).toNat)
        rw [hl,sfx_zero,show max 1 l.length - 1 - x.toNat=(max 1 l.length - 1 - (x+1).toNat)+1 by omega]
        rfl
      · rw [if_neg hc,show max 1 l.length - 1 - x.toNat=0 by omega]
        rfl
def zr (pk : List Int) (k : Nat) : List Int:=pk.take k++List.replicate (pk.length - k) 0
theorem zr_len (pk : List Int) (k : Nat) : (zr pk k).length=pk.length:=by simp [zr]; omega
theorem zr_all (pk : List Int) : zr pk pk.length=pk:=by simp [zr]
theorem zr_get (pk : List Int) (k i : Nat) (h : i < k) : (zr pk k).getD i 0=pk.getD i 0:=by
  unfold zr
  by_cases hi : i < pk.length
  · rw [List.getD_eq_getElem?_getD,List.getElem?_append_left (by simp; omega),List.getElem?_take,if_pos h,← List.getD_eq_getElem?_getD]
  · rw [List.getD_eq_getElem?_getD,List.getD_eq_getElem?_getD,List.getElem?_eq_none (l:=pk) (by omega),List.getElem?_append_right (by simp; omega),List.getElem?_eq_none (by simp; omega)]
theorem zr_set (pk : List Int) (k : Nat) (h : k < pk.length) : (zr pk (k+1)).set k 0=zr pk k:=by
  unfold zr
  rw [take_succ_get' pk k 0 h,List.append_assoc,List.set_append_right _ _ (by simp; omega),show k - (pk.take k).length=0 by simp; omega,show pk.length - k=(pk.length - (k+1))+1 by omega,List.replicate_succ]
  rfl
theorem zr_cons (x : Int) (pk : List Int) (k : Nat) : zr (x :: pk) (k+1)=x :: zr pk k:=by simp [zr]
theorem nxk_none : ∀ (L : List (List Og)) (pk : List Int),pk.length=L.length→(∀ i,i < L.length→((L.getD i []).length : Int)≤pk.getD i 0+1)→nxk L pk=none
  | [],[],_,_=>rfl
  | [],_ :: _,h,_=>by simp at h
  | _ :: _,[],h,_=>by simp at h
  | l :: L,x :: pk,h,h0=>by
    have hl : pk.length=L.length:=by simpa using h
    have ih:=nxk_none L pk hl fun i hi=>by have:=h0 (i+1) (by simpa using hi); simpa using this
    have h1:=h0 0 (by simp)
    simp only [List.getD_cons_zero] at h1
    unfold nxk
    rw [ih]
    simp only
    rw [if_neg (by omega)]
theorem nxk_some : ∀ (L : List (List Og)) (pk : List Int) (m : Nat),pk.length=L.length→m < L.length→(∀ i,m < i→i < L.length→((L.getD i []).length : Int)≤pk.getD i 0+1)→pk.getD m 0+1 < ((L.getD m []).length : Int)→nxk L pk=some ((zr pk (m+1)).set m (pk.getD m 0+1))
  | [],_,_,_,h,_,_=>by simp at h
  | _ :: _,[],_,h,_,_,_=>by simp at h
  | l :: L,x :: pk,0,h,_,h0,h1=>by
    have hl : pk.length=L.length:=by simpa using h
    have ih:=nxk_none L pk hl fun i hi=>by have:=h0 (i+1) (by omega) (by simpa using hi); simpa using this
    simp only [List.getD_cons_zero] at h1 ⊢
    unfold nxk
    rw [ih]
    simp only
    rw [if_pos h1,zr_cons]
    simp [zr]
  | l :: L,x :: pk,m+1,h,hm,h0,h1=>by
    have hl : pk.length=L.length:=by simpa using h
    have ih:=nxk_some L pk m hl (by simpa using hm) (fun i hi h2=>by have:=h0 (i+1) (by omega) (by simpa using h2); simpa using this) (by simpa using h1)
    unfold nxk
    rw [ih,zr_cons]
    simp
theorem spChoices_vr {u : Bool} (L : List (List Og)) : VR P false n_setpoint_choices [.fs u (ogL u L)] [] (isR (.fn n_setpoint_choices_1 [.fp true [.fs u (ogL u L)]])):=by
  refine vr_setpoint_choices (by simp) (.inr rfl) fun _ _=>?_
  simp (disch:=((try simp only [lZ]); omega)) only [aZ,aM,aG37,s_setpoint_choices,v_setpoint_choices,r_setpoint_choices]
  exact post0 (r:=.fn n_setpoint_choices_1 [.fp true [.fs u (ogL u L)]]) (Fz.fn (l:=[.lp 0 0 0]) (r:=[.fp true [.fs u (ogL u L)]]) ⟨Fz.lp (l:=[.fs u (ogL u L)]) (r:=[.fs u (ogL u L)]) (by omega) (by simp (disch:=((try simp only [lZ]); omega)) only [aZ,aM,aG37]) (FzL.refl (by simp (disch:=first | omega | simp (disch:=omega) only [aG,aM,aG37]) only [fZ,aM,aG37])) (by simp),trivial⟩) ⟨rfl,rfl⟩
theorem Cut.appK {n0 : Nat} {e e' : List A} {H : List Blk} (P T : List Blk) (hn : n0≤(H++P).length) (hb : okB (H++P).length (H++P)) (he : FzL (H++P).length (H++(P++T)) e e') : Cut n0 e (H++(P++T)) e' (H++P):=by
  rw [← List.append_assoc] at he ⊢
  exact Cut.app hn hb he
theorem iter_choices {u : Bool} {L : List (List Og)} (hL : L.length ≤ 1000) (h4 : ∀ l ∈ L, l.length ≤ 1000) {c1 : Cfg} {l n : Nat} {Km : List (List Int) → List Blk} (hn : ∀ pre, (Km pre).length = n) (hb : ∀ pre m, n ≤ m → okB m (Km pre)) (hH : c1.H = Km []) (hs : St c1)
    (hY : ∀ pre pk,allP L=pre++sfx L pk→PkOk L pk→YR P n c1 l [.fs true (ints pk)] (Km pre++[⟨0,ints pk⟩]) (fun r H'=>r=.v (.bool true)∧H'=Km (pre++[pk])++[⟨0,ints pk⟩])) :
    IterR P n_setpoint_choices_1 c1 l [.fp true [.fs u (ogL u L)]] (fun H3=>H3=Km (allP L)):=by
  refine IterR.of (F:=f_setpoint_choices_1) (V:=v_setpoint_choices_1) (nt:=45) (fun hl _ _ hs=>fn_of (nk:=false) P_mixed Try.func57 (by kernel_rfl) (by rw [Try.ntmps57]; exact hl) hs) hs hH (by simp) ?_
  rw [hn []]
  show AWJ P n c1 s_setpoint_choices_1 _ _ _
  have hk0:=hn []
  refine AWJ.chain 2 (aw_sound ?_)
  conv=>arg 3; simp only [s_setpoint_choices_1,S.pre]
  simp (disch:=((try simp only [lZ]); omega)) only [aZ,aM,aG37,v_setpoint_choices_1]
  rw [hk0]
  conv=>arg 4; simp only [s_setpoint_choices_1,S.post]
  have hz:=sfx_zero L
  have hpz : PkOk L (List.replicate L.length 0):=⟨by simp,fun m hm=>by
    have e : (List.replicate L.length (0 : Int)).getD m 0=0:=by simp [List.getD_eq_getElem?_getD,hm]
    rw [e]
    by_cases h : (L.getD m []).length=0
    · exact ⟨by omega,.inr ⟨h,rfl⟩⟩
    · exact ⟨by omega,.inl (by omega)⟩⟩
  refine AWJ.blk (AWJ.loop (fun x : List (List Int)×List Int=>allP L=x.1++sfx L x.2∧PkOk L x.2) (fun _=>[.v (yv l),.fp true [.fs u (ogL u L)],.sl n 0 1 0 L.length,.any,.any,.any,.any,.any]) (fun x=>Km x.1++[⟨0,ints x.2⟩]) (fun x=>(sfx L x.2).length) ([],List.replicate L.length 0) ⟨by rw [List.nil_append,hz],hpz⟩ (Cut.fg (by simp (disch:=first | omega | simp (disch:=omega) only [aG,aM,aG37]) only [fZ,aM,aG37,fgl_nil,fgl_cons,or_true,true_or])) ?_)
  clear hz hpz hk0 hH
  rintro ⟨pre,pk⟩ ⟨hpre,hpk⟩
  simp only at hpre hpk
  have hround:=hY pre pk hpre hpk
  have hnx:=sfx_nxk L pk hpk.1 (fun i=>by
    by_cases hi : i < L.length
    · exact (hpk.2 i hi).1
    · rw [List.getD_eq_getElem?_getD,List.getElem?_eq_none (by have:=hpk.1; omega)]; simp)
  have hk:=hn pre
  have hpl:=hpk.1
  refine AWJ.blk (AWJ.chain 2 (aw_sound ?_))
  conv=>arg 3; simp only [S.pre]
  have aP : ∀ (T : List Blk),blkAt (Km pre++(⟨0,ints pk⟩ :: T)) n 0=some (ints pk):=fun T=>by rw [← hk]; exact blkAt_new0 _ _ _
  simp (disch:=((try simp only [lZ]); omega)) only [aZ,aM,aG37,aP]
  conv=>arg 4; simp only [S.post]
  have okK : okB (Km pre++[(⟨0,ints pk⟩ : Blk)]).length (Km pre++[(⟨0,ints pk⟩ : Blk)]):=by
    rw [List.length_append,hk]
    exact (hb pre _ (by omega)).app fun B hB=>by rw [List.mem_singleton.1 hB]; exact ii_bd _ _
  refine AWJ.cut (e':=[.v (yv l),.fp true [.fs u (ogL u L)],.sl n 0 1 0 L.length,.any,.any,.any,.fs true (ints pk),.any]) (H':=Km pre++[⟨0,ints pk⟩]) (Cut.appK [⟨0,ints pk⟩] [⟨1,ints pk⟩] (by rw [List.length_append]; omega) okK ?_) ?_
  · have hlen : (Km pre++[(⟨0,ints pk⟩ : Blk)]).length=n+1:=by rw [List.length_append,hk]; rfl
    rw [hlen]
    refine ⟨Fz.refl rfl,Fz.refl (by simp (disch:=first | omega | simp (disch:=omega) only [aG,aM,aG37]) only [fZ,aM,aG37]),Fz.refl (by simp [A.bd]),Fz.any,Fz.any,Fz.any,?_,Fz.any,trivial⟩
    exact fz_slI _ _ _ _ _ pk (by omega) hpl.symm (by rw [blkAt_new]; rfl)
  refine AWJ.yield rfl rfl (hround.mono ?_)
  rintro r H' ⟨rfl,rfl⟩
  have hk2:=hn (pre++[pk])
  have okK2:=hb (pre++[pk])
  generalize hKK : Km (pre++[pk])=K at *
  have okP : ∀ j,okB (K++[(⟨0,ints (zr pk j)⟩ : Blk)]).length (K++[(⟨0,ints (zr pk j)⟩ : Blk)]):=fun j=>by
    rw [List.length_append,hk2]
    exact (okK2 _ (by omega)).app fun B hB=>by rw [List.mem_singleton.1 hB]; exact ii_bd _ _
  refine AWJ.of (aret_of ?_)
  simp (disch:=((try simp only [lZ]); omega)) only [aZ,aM,aG37]
  refine AWP.loopM g_setpoint_choices_1_1 (fun j : Nat=>j≤L.length∧∀ i,j≤i→i < L.length→((L.getD i []).length : Int)≤pk.getD i 0+1) (fun j=>[(3,.v (.int .i64 ((j : Int) - 1)))]) (fun j=>K++[⟨0,ints (zr pk j)⟩]) (fun j=>j) L.length ⟨by omega,fun i h1 h2=>absurd h1 (by omega)⟩ ?_ ?_
  · rw [← hpl,zr_all]
    exact Cut.fg (by simp (disch:=first | omega | simp (disch:=omega) only [aG,aM,aG37]) only [fZ,aM,aG37,fgl_nil,fgl_cons,or_true,true_or])
  rintro j ⟨hj,hg⟩
  have zl:=zr_len pk j
  have zA : ∀ (T : List Blk),blkAt (K++(⟨0,ints (zr pk j)⟩ :: T)) n 0=some (ints (zr pk j)):=fun T=>by rw [← hk2]; exact blkAt_new0 _ _ _
  have sK : ∀ (B C : Blk),(K++[B]).set n C=K++[C]:=fun B C=>by rw [← hk2,List.set_append_right _ _ (Nat.le_refl _),Nat.sub_self]; rfl
  cases j with
  | zero =>
    have hno:=nxk_none L pk hpl (fun i hi=>hg i (by omega) hi)
    rw [hno] at hnx
    have hall : allP L=pre++[pk]:=by rw [hpre,hnx]
    simp (disch:=((try simp only [lZ]); omega)) only [aZ,aM,aG37,zA,r_setpoint_choices_1]
    rw [hall,hKK]
    exact post1 (r:=.any) (by rw [hk2]; exact Nat.le_refl _) (okK2 _ (by omega)) Fz.any rfl
  | succ m =>
    have hm : m < L.length:=by omega
    have e1 : (((m+1 : Nat) : Int) - 1)=(m : Int):=by omega
    have q2:=hpk.2 m hm
    have hlm:=h4 _ (mem_get [] hm)
    have zg:=zr_get pk (m+1) m (by omega)
    have zs:=zr_set pk m (by omega)
    by_cases hge : pk.getD m 0+1≥((L.getD m []).length : Int)
    · simp (disch:=((try simp only [lZ]); omega)) only [aZ,aM,aG37,e1,zA,zg,zs,decide_eq_true hge]
      rw [sK]
      refine ⟨m,⟨by omega,fun i h1 h2=>?_⟩,by omega,?_⟩
      · by_cases e : i=m
        · subst e; exact hge
        · exact hg i (by omega) h2
      · exact Cut.fg (by simp (disch:=first | omega | simp (disch:=omega) only [aG,aM,aG37]) only [fZ,aM,aG37,fgl_nil,fgl_cons,or_true,true_or])
    · have hsome:=nxk_some L pk m hpl hm (fun i h1 h2=>hg i (by omega) h2) (by omega)
      simp (disch:=((try simp only [lZ]); omega)) only [aZ,aM,aG37,e1,zA,zg,decide_eq_false hge]
      rw [sK,← hKK]
      rw [hsome] at hnx
      simp only at hnx
      generalize hq : (zr pk (m+1)).set m (pk.getD m 0+1)=q at *
      have hql : q.length=L.length:=by rw [← hq,List.length_set,zr_len]; exact hpl
      refine ⟨(pre++[pk],q),⟨by rw [hpre,hnx]; simp,hql,fun i hi=>?_⟩,by rw [hnx]; simp,?_⟩
      · have hqi : q.getD i 0 = if i = m then pk.getD m 0 + 1 else if i < m then pk.getD i 0 else 0 := by
          rw [← hq,List.getD_eq_getElem?_getD]
          by_cases e : i=m
          · subst e
            rw [List.getElem?_set_self (by rw [zr_len]; omega),if_pos rfl]; rfl
          · rw [List.getElem?_set_ne (fun h=>e h.symm),← List.getD_eq_getElem?_getD,if_neg e]
            by_cases h2 : i < m
            · rw [if_pos h2,zr_get _ _ _ (by omega)]
            · rw [if_neg h2]
              unfold zr
              rw [List.getD_eq_getElem?_getD,List.getElem?_append_right (by simp; omega),List.getElem?_replicate]
              split<;>rfl
        have q3:=hpk.2 i hi
        rw [hqi]
        by_cases e : i=m
        · subst e; rw [if_pos rfl]; omega
        · rw [if_neg e]
          by_cases h2 : i < m
          · rw [if_pos h2]; exact q3
          · rw [if_neg h2]
            by_cases h0 : (L.getD i []).length=0
            · exact ⟨by omega,.inr ⟨h0,rfl⟩⟩
            · exact ⟨by omega,.inl (by omega)⟩
      · exact Cut.fg (by simp (disch:=first | omega | simp (disch:=omega) only [aG,aM,aG37]) only [fZ,aM,aG37,fgl_nil,fgl_cons,or_true,true_or])
def val37 (p : Pl) (L : List (List Og)) (xs : List Int) (gl : List Bt) (pk : List Int) : Option Int :=
  if (yldR (pickP p L pk) xs).2=0 then some (wrtS (yldL (pickP p L pk) xs) gl - spcS L pk) else none
def stepB (p : Pl) (L : List (List Og)) (xs : List Int) (gl : List Bt) (b : Option (List Int×Int)) (pk : List Int) : Option (List Int×Int) :=
  match val37 p L xs gl pk with
  | none=>b
  | some v=>match b with
    | none=>some (pk,v)
    | some q=>if v > q.2 then some (pk,v) else b
def bstL (p : Pl) (L : List (List Og)) (xs : List Int) (gl : List Bt) (l : List (List Int)) : Option (List Int×Int):=l.foldl (stepB p L xs gl) none
def bstO : Option (List Int×Int)→(List Int×Int)×Int
  | none=>(([],0),40)
  | some q=>(q,0)
noncomputable def bestR (p : Pl) (L : List (List Og)) (xs : List Int) (gl : List Bt) : (List Int×Int)×Int :=
  if pcheck p≠0 then (([],0),pcheck p) else if possE p L≠0 then (([],0),possE p L) else if 256 < prd L then (([],0),8) else if fedE p xs≠0 then (([],0),fedE p xs) else if wantE p gl≠0 then (([],0),wantE p gl) else
  bstO (bstL p L xs gl (allP L))
def bestT (x : (List Int×Int)×Int) : A:=.tup [.agg [.fs true (ints x.1.1),.v (.int .i64 x.1.2)],.v (.int .i64 x.2)]
def bstC : Option (List Int×Int)→List A
  | none=>[.v (.slice none 0 0),.v (.int .i64 0)]
  | some q=>[.fs true (ints q.1),.v (.int .i64 q.2)]
theorem bstL_snoc (p : Pl) (L : List (List Og)) (xs : List Int) (gl : List Bt) (l : List (List Int)) (pk : List Int) : bstL p L xs gl (l++[pk])=stepB p L xs gl (bstL p L xs gl l) pk:=by
  unfold bstL; rw [List.foldl_append]; rfl
theorem wrtS_bd {Y : List (List Int)} {l : List Bt} (hl : l.length≤24) (hg : ∀ g∈l,GoalOk Y g) : -412316860416000000≤wrtS Y l∧wrtS Y l≤412316860416000000:=by
  have h:=sumT_bd (wrtL Y l) (-17179869184000000) 17179869184000000 (wrtL Y l).length (Nat.le_refl _) fun i hi=>by
    rw [wrtL_len] at hi
    rw [wrtL_get _ _ _ hi]
    have:=wrt_bd (hg _ (mem_get b0 hi))
    omega
  rw [sumT_all,wrtL_len] at h
  unfold wrtS
  omega
theorem spcS_bd {L : List (List Og)} {pk : List Int} (hl : L.length≤24) (hc : CostOk L) (hp : PkOk L pk) : 0≤spcS L pk∧spcS L pk≤24000000000000:=by
  have h:=sumT_bd (spcL L pk) 0 1000000000000 (spcL L pk).length (Nat.le_refl _) fun i hi=>by
    rw [spcL_len] at hi
    rw [spcL_get _ _ _ hi]
    exact spc_bd hc hp hi
  rw [sumT_all,spcL_len] at h
  unfold spcS
  omega
theorem goals_pick {p : Pl} {L : List (List Og)} {pk xs : List Int} (hc : chkP (pickP p L pk)=0) (hf : fedE (pickP p L pk) xs=0) {l : List Bt} (hw : wantE p l=0) : l.length≤24∧∀ g∈l,GoalOk (yldL (pickP p L pk) xs) g:=by
  have ok:=pcheck_ok (chkP_ok hc).1
  have hml : (pickP p L pk).ms.length=p.ms.length:=pickL_len p L pk
  have hl : ¬ 24 < l.length:=fun h=>by unfold wantE at hw; rw [if_pos h] at hw; cases hw
  refine ⟨by omega,fun g hg=>?_⟩
  have hb : ¬ badG p g:=by
    unfold wantE at hw
    rw [if_neg hl] at hw
    split at hw
    · rename_i h
      exact absurd hw (idxE_at b0 h)
    · rename_i h
      exact idxE_neg (by omega) g hg
  obtain ⟨q1,q2,q3,q4,q5,q6,q7,q8,q9⟩:=glE_rng hb
  refine ⟨q1,by rw [yldL_len]; omega,q6,q7,?_⟩
  rw [yldL_get _ _ _ (by omega)]
  exact mixok_E ok.mt1.2.1 (yldM_ok hc hf (by omega))
def bKm (w v u u1 u2 : Bool) (p : Pl) (L : List (List Og)) (xs : List Int) (gl : List Bt) (b : Option (List Int×Int)) : List Blk :=
  [⟨0,plC w v p⟩,⟨0,[.fs u (ogL u L)]⟩,⟨0,[.fs u1 (ints xs)]⟩,⟨0,[.fs u2 (bts gl)]⟩,⟨0,[.v (.slice none 0 0),.v (.int .i64 0)]⟩,⟨0,bstC b⟩,⟨0,[.v (.bool b.isSome)]⟩]
theorem bstC_bd (n : Nat) (b : Option (List Int×Int)) : A.bdL n (bstC b)=true:=by cases b<;>simp [bstC,A.bdL,A.bd,ii_bd]
theorem bKm_ok {w v u u1 u2 : Bool} {p : Pl} {L : List (List Og)} {xs : List Int} {gl : List Bt} {b : Option (List Int×Int)} (m : Nat) : okB m (bKm w v u u1 u2 p L xs gl b):=fun B hB=>by
  simp only [bKm,List.mem_cons,List.not_mem_nil,or_false] at hB
  rcases hB with rfl | rfl | rfl | rfl | rfl | rfl | rfl
  · exact plC_bd _ _ _ _
  · simp [A.bdL,A.bd,ogL_bd]
  · simp [A.bdL,A.bd,ii_bd]
  · simp [A.bdL,A.bd,bt_bd]
  · rfl
  · exact bstC_bd _ _
  · rfl
theorem rq_ret {P : Program} {n0 : Nat} {sa b c : S} {g : X} {k : Nat} {r : List X} {R : A→List Blk→Prop} {e : List A} {H : List Blk} : rngQA P n0 sa b c g k r R .ret e H=postA n0 ⟨.nxt,r⟩ R .ret e H:=rfl
theorem fun_res (s : S) (r : List X) : Fun.res ⟨s,r⟩=r:=rfl
theorem best_err (H : List Blk) (e : Int) : Fz 0 H (.tup [.agg [.v (.slice none 0 0),.v (.int .i64 0)],.v (.int .i64 e)]) (bestT (([],0),e)) :=
  Fz.tup ⟨Fz.agg (l:=[.v (.slice none 0 0),.v (.int .i64 0)]) (r:=[.fs true [],.v (.int .i64 0)]) ⟨fz_nil _ _,Fz.refl rfl,trivial⟩,Fz.refl rfl,trivial⟩
set_option maxHeartbeats 4000000 in
theorem spBest_vr {w v u1 u2 : Bool} (p : Pl) (L : List (List Og)) (xs : List Int) (gl : List Bt) : VR P false n_setpoint_Best [plA w v p,.fs true (ogL true L),.fs u1 (ints xs),.fs u2 (bts gl)] [] (isR (bestT (bestR p L xs gl))):=by
  refine vr_setpoint_Best (by simp) (.inr rfl) ?_
  have hck:=layoutCheck_vr (w:=w) (v:=v) p
  unfold plA at *
  refine aw_sound ?_
  by_cases h1 : pcheck p=0
  case neg =>
    have e : bestR p L xs gl=(([],0),pcheck p):=by unfold bestR; rw [if_pos h1]
    rw [e]
    unfold plC at *
    simp (disch:=((try simp only [lZ]); omega)) only [aZ,aM,aG37,s_setpoint_Best,v_setpoint_Best]
    refine hck.same (by simp (disch:=first | omega | simp (disch:=omega) only [aG,aM,aG37]) only [fZ,aM,aG37]) rfl (aret_of ?_)
    simp (disch:=((try simp only [lZ]); omega)) only [aZ,aM,aG37,decide_eq_true (show ¬ pcheck p=0 from h1)]
    rw [rq_ret]
    simp (disch:=((try simp only [lZ]); omega)) only [aZ,aM,aG37,fun_res]
    exact post0 (best_err _ _) ⟨rfl,rfl⟩
  have ok:=pcheck_ok h1
  obtain ⟨m1,m2,m3⟩:=ok.mt1
  have n2:=ok.n2
  have hpo:=spPossible_vr (w:=w) (v:=v) (u:=true) ok L
  have hfd:=spFed_vr (w:=w) (v:=v) (u:=u1) ok xs
  have hwa:=spWanted_vr (w:=w) (v:=v) (u:=u2) ok gl
  have hch:=spChoices_vr (u:=true) L
  unfold plA plC at *
  by_cases h2 : possE p L=0
  case neg =>
    have e : bestR p L xs gl=(([],0),possE p L):=by unfold bestR; rw [if_neg (fun h=>h h1),if_pos h2]
    rw [e]
    simp (disch:=((try simp only [lZ]); omega)) only [aZ,aM,aG37,s_setpoint_Best,v_setpoint_Best]
    refine hck.same (by simp (disch:=first | omega | simp (disch:=omega) only [aG,aM,aG37]) only [fZ,aM,aG37]) rfl (aret_of ?_)
    simp (disch:=((try simp only [lZ]); omega)) only [aZ,aM,aG37,h1]
    refine hpo.same (by simp (disch:=first | omega | simp (disch:=omega) only [aG,aM,aG37]) only [fZ,aM,aG37]) rfl (aret_of ?_)
    simp (disch:=((try simp only [lZ]); omega)) only [aZ,aM,aG37,decide_eq_true (show ¬ possE p L=0 from h2)]
    rw [rq_ret]
    simp (disch:=((try simp only [lZ]); omega)) only [aZ,aM,aG37,fun_res]
    exact post0 (best_err _ _) ⟨rfl,rfl⟩
  obtain ⟨hl,hlm⟩:=poss_ok h2
  have hb4 : ∀ l∈L,l.length≤4:=fun l hl2=>by
    obtain ⟨m,hm,rfl⟩:=get_mem [] hl2
    exact (hlm m (by omega)).1
  have hmy:=spMany_vr (u:=true) L (by omega) (fun l hl2=>by have:=hb4 l hl2; omega)
  by_cases h3 : 256 < prd L
  · have e : bestR p L xs gl=(([],0),8):=by unfold bestR; rw [if_neg (fun h=>h h1),if_neg (fun h=>h h2),if_pos h3]
    rw [e]
    rw [decide_eq_true h3] at hmy
    simp (disch:=((try simp only [lZ]); omega)) only [aZ,aM,aG37,s_setpoint_Best,v_setpoint_Best]
    refine hck.same (by simp (disch:=first | omega | simp (disch:=omega) only [aG,aM,aG37]) only [fZ,aM,aG37]) rfl (aret_of ?_)
    simp (disch:=((try simp only [lZ]); omega)) only [aZ,aM,aG37,h1]
    refine hpo.same (by simp (disch:=first | omega | simp (disch:=omega) only [aG,aM,aG37]) only [fZ,aM,aG37]) rfl (aret_of ?_)
    simp (disch:=((try simp only [lZ]); omega)) only [aZ,aM,aG37,h2]
    refine hmy.same (by simp (disch:=first | omega | simp (disch:=omega) only [aG,aM,aG37]) only [fZ,aM,aG37]) rfl (aret_of ?_)
    simp (disch:=((try simp only [lZ]); omega)) only [aZ,aM,aG37]
    rw [rq_ret]
    simp (disch:=((try simp only [lZ]); omega)) only [aZ,aM,aG37,fun_res]
    exact post0 (best_err _ _) ⟨rfl,rfl⟩
  rw [decide_eq_false h3] at hmy
  by_cases h4 : fedE p xs=0
  case neg =>
    have e : bestR p L xs gl=(([],0),fedE p xs):=by unfold bestR; rw [if_neg (fun h=>h h1),if_neg (fun h=>h h2),if_neg h3,if_pos h4]
    rw [e]
    simp (disch:=((try simp only [lZ]); omega)) only [aZ,aM,aG37,s_setpoint_Best,v_setpoint_Best]
    refine hck.same (by simp (disch:=first | omega | simp (disch:=omega) only [aG,aM,aG37]) only [fZ,aM,aG37]) rfl (aret_of ?_)
    simp (disch:=((try simp only [lZ]); omega)) only [aZ,aM,aG37,h1]
    refine hpo.same (by simp (disch:=first | omega | simp (disch:=omega) only [aG,aM,aG37]) only [fZ,aM,aG37]) rfl (aret_of ?_)
    simp (disch:=((try simp only [lZ]); omega)) only [aZ,aM,aG37,h2]
    refine hmy.same (by simp (disch:=first | omega | simp (disch:=omega) only [aG,aM,aG37]) only [fZ,aM,aG37]) rfl (aret_of ?_)
    simp (disch:=((try simp only [lZ]); omega)) only [aZ,aM,aG37]
    refine hfd.same (by simp (disch:=first | omega | simp (disch:=omega) only [aG,aM,aG37]) only [fZ,aM,aG37]) rfl (aret_of ?_)
    simp (disch:=((try simp only [lZ]); omega)) only [aZ,aM,aG37,decide_eq_true (show ¬ fedE p xs=0 from h4)]
    rw [rq_ret]
    simp (disch:=((try simp only [lZ]); omega)) only [aZ,aM,aG37,fun_res]
    exact post0 (best_err _ _) ⟨rfl,rfl⟩
  by_cases h5 : wantE p gl=0
  case neg =>
    have e : bestR p L xs gl=(([],0),wantE p gl):=by unfold bestR; rw [if_neg (fun h=>h h1),if_neg (fun h=>h h2),if_neg h3,if_neg (fun h=>h h4),if_pos h5]
    rw [e]
    simp (disch:=((try simp only [lZ]); omega)) only [aZ,aM,aG37,s_setpoint_Best,v_setpoint_Best]
    refine hck.same (by simp (disch:=first | omega | simp (disch:=omega) only [aG,aM,aG37]) only [fZ,aM,aG37]) rfl (aret_of ?_)
    simp (disch:=((try simp only [lZ]); omega)) only [aZ,aM,aG37,h1]
    refine hpo.same (by simp (disch:=first | omega | simp (disch:=omega) only [aG,aM,aG37]) only [fZ,aM,aG37]) rfl (aret_of ?_)
    simp (disch:=((try simp only [lZ]); omega)) only [aZ,aM,aG37,h2]
    refine hmy.same (by simp (disch:=first | omega | simp (disch:=omega) only [aG,aM,aG37]) only [fZ,aM,aG37]) rfl (aret_of ?_)
    simp (disch:=((try simp only [lZ]); omega)) only [aZ,aM,aG37]
    refine hfd.same (by simp (disch:=first | omega | simp (disch:=omega) only [aG,aM,aG37]) only [fZ,aM,aG37]) rfl (aret_of ?_)
    simp (disch:=((try simp only [lZ]); omega)) only [aZ,aM,aG37,h4]
    refine hwa.same (by simp (disch:=first | omega | simp (disch:=omega) only [aG,aM,aG37]) only [fZ,aM,aG37]) rfl (aret_of ?_)
    simp (disch:=((try simp only [lZ]); omega)) only [aZ,aM,aG37,decide_eq_true (show ¬ wantE p gl=0 from h5)]
    rw [rq_ret]
    simp (disch:=((try simp only [lZ]); omega)) only [aZ,aM,aG37,fun_res]
    exact post0 (best_err _ _) ⟨rfl,rfl⟩
  have e : bestR p L xs gl=bstO (bstL p L xs gl (allP L)):=by unfold bestR; rw [if_neg (fun h=>h h1),if_neg (fun h=>h h2),if_neg h3,if_neg (fun h=>h h4),if_neg (fun h=>h h5)]
  rw [e]
  have hcost:=poss_cost h2
  simp (disch:=((try simp only [lZ]); omega)) only [aZ,aM,aG37,s_setpoint_Best,v_setpoint_Best]
  refine hck.same (by simp (disch:=first | omega | simp (disch:=omega) only [aG,aM,aG37]) only [fZ,aM,aG37]) rfl (aret_of ?_)
  simp (disch:=((try simp only [lZ]); omega)) only [aZ,aM,aG37,h1]
  refine hpo.same (by simp (disch:=first | omega | simp (disch:=omega) only [aG,aM,aG37]) only [fZ,aM,aG37]) rfl (aret_of ?_)
  simp (disch:=((try simp only [lZ]); omega)) only [aZ,aM,aG37,h2]
  refine hmy.same (by simp (disch:=first | omega | simp (disch:=omega) only [aG,aM,aG37]) only [fZ,aM,aG37]) rfl (aret_of ?_)
  simp (disch:=((try simp only [lZ]); omega)) only [aZ,aM,aG37]
  refine hfd.same (by simp (disch:=first | omega | simp (disch:=omega) only [aG,aM,aG37]) only [fZ,aM,aG37]) rfl (aret_of ?_)
  simp (disch:=((try simp only [lZ]); omega)) only [aZ,aM,aG37,h4]
  refine hwa.same (by simp (disch:=first | omega | simp (disch:=omega) only [aG,aM,aG37]) only [fZ,aM,aG37]) rfl (aret_of ?_)
  simp (disch:=((try simp only [lZ]); omega)) only [aZ,aM,aG37,h5]
  refine hch.same (by simp (disch:=first | omega | simp (disch:=omega) only [aG,aM,aG37]) only [fZ,aM,aG37]) (by simp [A.cl,A.clL,A.bd,A.bdL,ogL_cl,ogL_bd]) (aret_of ?_)
  simp (disch:=((try simp only [lZ]); omega)) only [aZ,aM,aG37]
  refine ⟨n_setpoint_choices_1,[.fp true [.fs true (ogL true L)]],rfl,by kernel_rfl,fun c1 l hH hs hround=>?_⟩
  have hKm : ∀ b,(bKm w v true u1 u2 p L xs gl b).length=7:=fun b=>rfl
  have hit:=iter_choices (u:=true) (L:=L) (by omega) (fun l hl2=>by have:=hb4 l hl2; omega) (c1:=c1) (l:=l) (n:=7) (Km:=fun pre=>bKm w v true u1 u2 p L xs gl (bstL p L xs gl pre)) (fun _=>rfl) (fun _ m _=>bKm_ok m) hH hs ?_
  case refine_1 =>
    intro pre pk hpre hpk
    refine hround _ _ _ ?_
    refine aw_sound ?_
    simp (disch:=((try simp only [lZ]); omega)) only [aZ,aM,aG37,sa_setpoint_Best]
    refine ⟨trivial,aw_sound ?_⟩
    have hst:=bstL_snoc p L xs gl pre pk
    have hpi:=spPicked_vr (w:=w) (v:=v) (u:=true) (u':=true) ok h2 hpk
    have hyi:=spYield_vr (w:=true) (v:=true) (u:=u1) (pickP p L pk) xs
    have hva : val37 p L xs gl pk=if (yldR (pickP p L pk) xs).2=0 then some (wrtS (yldL (pickP p L pk) xs) gl - spcS L pk) else none:=rfl
    have hsb : stepB p L xs gl (bstL p L xs gl pre) pk=match val37 p L xs gl pk with
      | none=>bstL p L xs gl pre
      | some v=>match bstL p L xs gl pre with
        | none=>some (pk,v)
        | some q=>if v > q.2 then some (pk,v) else bstL p L xs gl pre:=rfl
    have hgp:=fun hc hf=>goals_pick (p:=p) (L:=L) (pk:=pk) (xs:=xs) hc hf h5
    have hsp:=spcS_bd (L:=L) (pk:=pk) (by omega) hcost hpk
    have hsv:=spSpent_vr (u:=true) (u':=true) L pk (by omega) hcost hpk
    have hyl:=yldL_len (pickP p L pk) xs
    have hpl : (pickP p L pk).ms.length=p.ms.length:=pickL_len p L pk
    rw [hst,hsb,hva]
    clear hst hsb hround
    unfold yldT at hyi
    generalize bstL p L xs gl pre=b at *
    generalize pickP p L pk=Q at *
    unfold plA plC at *
    have hlen8 : (bKm w v true u1 u2 p L xs gl b).length+1=8:=rfl
    rw [hlen8]
    by_cases hy : (yldR Q xs).2=0
    case neg =>
      rw [if_neg hy]
      simp only [bKm,plC,List.cons_append,List.nil_append]
      simp (disch:=((try simp only [lZ]); omega)) only [aZ,aM,aG37,sb_setpoint_Best]
      refine hpi.same (by simp (disch:=first | omega | simp (disch:=omega) only [aG,aM,aG37]) only [fZ,aM,aG37]) (by simp (disch:=first | omega | simp (disch:=omega) only [aG,aM,aG37]) only [fZ,aM,aG37]) (aret_of ?_)
      simp (disch:=((try simp only [lZ]); omega)) only [aZ,aM,aG37]
      refine hyi.same (by simp (disch:=first | omega | simp (disch:=omega) only [aG,aM,aG37]) only [fZ,aM,aG37]) (by simp (disch:=first | omega | simp (disch:=omega) only [aG,aM,aG37]) only [fZ,aM,aG37]) (aret_of ?_)
      simp (disch:=((try simp only [lZ]); omega)) only [aZ,aM,aG37,decide_eq_true (show ¬ (yldR Q xs).2=0 from hy)]
      exact ⟨trivial,trivial,trivial⟩
    rw [if_pos hy]
    obtain ⟨hc,hf,hyr⟩:=yldR_ok hy
    obtain ⟨g1,g2⟩:=hgp hc hf
    have hwo:=spWorth_vr (u:=true) (u':=u2) (yldL Q xs) gl g1 (by omega) g2
    have hwb:=wrtS_bd g1 g2
    rw [hyr] at hyi
    generalize wrtS (yldL Q xs) gl=W at *
    generalize spcS L pk=C at *
    cases b with
    | none =>
      simp only [bKm,plC,bstC,List.cons_append,List.nil_append,Option.isSome]
      simp (disch:=((try simp only [lZ]); omega)) only [aZ,aM,aG37,sb_setpoint_Best]
      refine hpi.same (by simp (disch:=first | omega | simp (disch:=omega) only [aG,aM,aG37]) only [fZ,aM,aG37]) (by simp (disch:=first | omega | simp (disch:=omega) only [aG,aM,aG37]) only [fZ,aM,aG37]) (aret_of ?_)
      simp (disch:=((try simp only [lZ]); omega)) only [aZ,aM,aG37]
      refine hyi.same (by simp (disch:=first | omega | simp (disch:=omega) only [aG,aM,aG37]) only [fZ,aM,aG37]) (by simp (disch:=first | omega | simp (disch:=omega) only [aG,aM,aG37]) only [fZ,aM,aG37]) (aret_of ?_)
      simp (disch:=((try simp only [lZ]); omega)) only [aZ,aM,aG37]
      refine hwo.same (by simp (disch:=first | omega | simp (disch:=omega) only [aG,aM,aG37]) only [fZ,aM,aG37]) rfl (aret_of ?_)
      simp (disch:=((try simp only [lZ]); omega)) only [aZ,aM,aG37]
      refine hsv.same (by simp (disch:=first | omega | simp (disch:=omega) only [aG,aM,aG37]) only [fZ,aM,aG37]) rfl (aret_of ?_)
      simp (disch:=((try simp only [lZ]); omega)) only [aZ,aM,aG37]
      exact ⟨trivial,trivial,trivial⟩
    | some q =>
      simp only [bKm,plC,bstC,List.cons_append,List.nil_append,Option.isSome]
      simp (disch:=((try simp only [lZ]); omega)) only [aZ,aM,aG37,sb_setpoint_Best]
      refine hpi.same (by simp (disch:=first | omega | simp (disch:=omega) only [aG,aM,aG37]) only [fZ,aM,aG37]) (by simp (disch:=first | omega | simp (disch:=omega) only [aG,aM,aG37]) only [fZ,aM,aG37]) (aret_of ?_)
      simp (disch:=((try simp only [lZ]); omega)) only [aZ,aM,aG37]
      refine hyi.same (by simp (disch:=first | omega | simp (disch:=omega) only [aG,aM,aG37]) only [fZ,aM,aG37]) (by simp (disch:=first | omega | simp (disch:=omega) only [aG,aM,aG37]) only [fZ,aM,aG37]) (aret_of ?_)
      simp (disch:=((try simp only [lZ]); omega)) only [aZ,aM,aG37]
      refine hwo.same (by simp (disch:=first | omega | simp (disch:=omega) only [aG,aM,aG37]) only [fZ,aM,aG37]) rfl (aret_of ?_)
      simp (disch:=((try simp only [lZ]); omega)) only [aZ,aM,aG37]
      refine hsv.same (by simp (disch:=first | omega | simp (disch:=omega) only [aG,aM,aG37]) only [fZ,aM,aG37]) rfl (aret_of ?_)
      by_cases hgt : W - C > q.2
      · rw [if_pos hgt]
        simp (disch:=((try simp only [lZ]); omega)) only [aZ,aM,aG37,decide_eq_true hgt]
        exact ⟨trivial,trivial,trivial⟩
      · rw [if_neg hgt]
        simp (disch:=((try simp only [lZ]); omega)) only [aZ,aM,aG37,decide_eq_false hgt]
        exact ⟨trivial,trivial,trivial⟩
  refine fun vs ha=>(hit vs ha).mono ?_
  rintro vv hh ⟨d,e1,e2,e3,e4⟩
  refine ⟨d,e1,?_,e3,e4⟩
  rw [e2]
  refine aw_sound ?_
  cases hbo : bstL p L xs gl (allP L) with
  | none =>
    simp only [bKm,plC,bstC,Option.isSome]
    simp (disch:=((try simp only [lZ]); omega)) only [aZ,aM,aG37,sc_setpoint_Best,fun_res]
    exact post0 (best_err _ _) ⟨rfl,rfl⟩
  | some q =>
    simp only [bKm,plC,bstC,Option.isSome]
    simp (disch:=((try simp only [lZ]); omega)) only [aZ,aM,aG37,sc_setpoint_Best,fun_res]
    exact post0 (r:=.tup [.agg [.fs true (ints q.1),.v (.int .i64 q.2)],.v (.int .i64 0)]) (Fz.refl (by simp [A.bd,A.bdL,ii_bd,retA])) ⟨rfl,rfl⟩
theorem binsFed {p : Pl} {s : Sy} (hg : Gd p s) (he : ∀ x,tot p s x=s.fed.getD x 0) (hz : sumI p s=0) {x : Nat} (hx : x < p.mt) : binT p s x=s.fed.getD x 0:=by
  have h1:=sm_zero_all (fun x _=>(ins_tot hg x).2) hz hx
  have h2:=tot_ins p s x
  have:=he x
  omega
theorem yld_two {p : Pl} (hc : chkP p=0) {x : Int} (hf : fedE p [x]=0) (hm : p.mt=1) (hl : p.ms.length=2) (b0 : ¬ binN p 0) (b1 : binN p 1) : yldL p [x]=[[0],[x]]:=by
  have hp:=(chkP_ok hc).1
  have ok:=pcheck_ok hp
  obtain ⟨hI,hn,hz⟩:=y_zero hc hf
  obtain ⟨q1,q2,q3⟩:=fedE_ok hf
  obtain ⟨g1,g2,g3,g4⟩:=hI.1.it hp (yN p [x])
  have hfe : ∀ y,(yS p [x]).fed.getD y 0=([x] : List Int).getD y 0:=fun y=>by
    show (itS p _ _).fed.getD y 0=_
    rw [g4]
    show (plusM (zeros p.mt) [x]).getD y 0=_
    rw [plus_get (zeros_ok _).1 q1,zeros_get]; omega
  have he : ∀ y,tot p (yS p [x]) y=(yS p [x]).fed.getD y 0:=fun y=>by
    rw [hfe]
    show tot p (itS p _ _) y=_
    rw [g2,feed_tot ok (Gd.new p) q1,new_tot]; omega
  have hb:=binsFed (s:=yS p [x]) g1 he hz (x:=0) (by omega)
  rw [hfe] at hb
  have hbt : binT p (yS p [x]) 0=sm p.ms.length fun m=>if binN p m then ((yS p [x]).bef m).getD 0 0 else 0:=by unfold binT; rfl
  rw [hbt,hl] at hb
  simp only [sm,if_neg b0,if_pos b1] at hb
  have hok:=g1.ok.bef 1 (by omega)
  have h1 : (yS p [x]).bef 1=[x]:=by
    refine eq_of_getB 0 (by have h9 : ((yS p [x]).bef 1).length=p.mt:=hok.1; rw [h9,hm]; rfl) fun i hi=>?_
    have hi0 : i=0:=by have : ((yS p [x]).bef 1).length=p.mt:=hok.1; omega
    subst hi0
    simpa using hb
  unfold yldL
  rw [hl]
  show [yldM p [x] 0,yldM p [x] 1]=_
  unfold yldM
  rw [if_neg b0,if_pos b1,h1,hm]
  rfl
def exG : List Bt:=[⟨1,0,5000,900⟩]
def exL : List (List Og):=[[⟨[[1000,0]],7⟩,⟨[[500,500]],0⟩],[]]
def exB : List (List Og):=[[⟨[[0,1000]],0⟩],[]]
theorem ex_fed : fedE loopP [10]=0:=by decide +kernel
theorem ex_yld : yldR loopP [10]=([[0],[10]],0):=by
  unfold yldR
  rw [if_neg (fun h=>h loop_chk),if_neg (fun h=>h ex_fed),yld_two loop_chk ex_fed rfl rfl (by decide +kernel) (by decide +kernel)]
theorem ex_want : wantE loopP exG=0:=by
  rw [wantE_good (by decide) (fun i hi=>by
    have : i=0:=by simp [exG] at hi; omega
    subst this
    decide +kernel),if_neg]
  rintro ⟨k,hk,i,hi,_⟩
  simp [exG] at hk; omega
theorem ex_wrt : wrtS [[0],[10]] exG=50000:=by decide +kernel
theorem ex_val : valR loopP [10] exG=(50000,0):=by
  have e : yldL loopP [10]=[[0],[10]]:=yld_two loop_chk ex_fed rfl rfl (by decide +kernel) (by decide +kernel)
  unfold valR
  rw [ex_yld,if_neg (fun h=>h rfl),if_neg (fun h=>h ex_want),e,ex_wrt]
theorem ex_v {L : List (List Og)} {pk : List Int} (hc : chkP (pickP loopP L pk)=0) (b0 : ¬ binN (pickP loopP L pk) 0) (b1 : binN (pickP loopP L pk) 1) : val37 loopP L [10] exG pk=some (50000 - spcS L pk):=by
  have hf : fedE (pickP loopP L pk) [10]=0:=by
    have h1 : (pickP loopP L pk).mt=1:=rfl
    unfold fedE
    rw [h1]
    decide +kernel
  have e:=yld_two hc hf rfl (pickL_len _ _ _) b0 b1
  have ey : yldR (pickP loopP L pk) [10]=(yldL (pickP loopP L pk) [10],0):=by unfold yldR; rw [if_neg (fun h=>h hc),if_neg (fun h=>h hf)]
  unfold val37
  rw [ey,if_pos rfl,e,ex_wrt]
theorem ex_best : bestR loopP exL [10] exG=(([1,0],50000),0):=by
  have v1 : val37 loopP exL [10] exG [0,0]=some 49993:=by
    rw [ex_v (by decide +kernel) (by decide +kernel) (by decide +kernel)]; decide +kernel
  have v2 : val37 loopP exL [10] exG [1,0]=some 50000:=by
    rw [ex_v (by decide +kernel) (by decide +kernel) (by decide +kernel)]; decide +kernel
  unfold bestR
  rw [if_neg (fun h=>h (show pcheck loopP=0 by decide +kernel)),if_neg (fun h=>h (show possE loopP exL=0 by decide +kernel)),if_neg (by decide +kernel),if_neg (fun h=>h ex_fed),if_neg (fun h=>h ex_want),
    show allP exL=[[0,0],[1,0]] by decide +kernel]
  unfold bstL
  simp only [List.foldl_cons,List.foldl_nil,stepB,v1,v2]
  rfl
theorem ex_back : bestR loopP exB [10] exG=(([],0),40):=by
  have v1 : val37 loopP exB [10] exG [0,0]=none:=by
    have hc : chkP (pickP loopP exB [0,0])≠0:=by decide +kernel
    have ey : yldR (pickP loopP exB [0,0]) [10]=([],chkP (pickP loopP exB [0,0])):=by unfold yldR; rw [if_pos hc]
    unfold val37
    rw [ey,if_neg (by exact hc)]
  unfold bestR
  rw [if_neg (fun h=>h (show pcheck loopP=0 by decide +kernel)),if_neg (fun h=>h (show possE loopP exB=0 by decide +kernel)),if_neg (by decide +kernel),if_neg (fun h=>h ex_fed),if_neg (fun h=>h ex_want),
    show allP exB=[[0,0]] by decide +kernel]
  unfold bstL
  simp only [List.foldl_cons,List.foldl_nil,stepB,v1]
  rfl
theorem ex_apply : applR loopP exL [1,0]=(⟨1,[[[500,500]],[[]]],loopP.bs,0⟩,0):=by
  unfold applR
  rw [if_neg (fun h=>h (show pcheck loopP=0 by decide +kernel)),if_neg (fun h=>h (show possE loopP exL=0 by decide +kernel)),if_neg (by decide),if_neg (by decide +kernel)]
  rfl
theorem sample_vr : VR P false n_law37_sample [] [] (isR (plA true true loopP)):=by
  refine vr_law37_sample (by simp) (.inr rfl) fun _ _=>?_
  simp (disch:=((try simp only [lZ]); omega)) only [aZ,aM,aG37,s_law37_sample,v_law37_sample,r_law37_sample]
  refine post0 (fz_all ?_) ⟨rfl,rfl⟩
  simp [zZ,blkAt,flatA,A.cells,A.one,Lft.one,retA,A.bdL,A.bd,loopP,plA,plC,mcs,mcA,mcC,bts,btA,btC,rows,ints]
theorem ints37_vr {w v : Bool} (a b : List Int) (hl : a.length≤1000000) : VR P false n_ref37_Ints [.fs w (ints a),.fs v (ints b)] [] (isR (.v (.bool (decide (a=b))))):=by
  refine vr_ref37_Ints (by simp) (.inr rfl) fun _ _=>?_
  simp (disch:=((try simp only [lZ]); omega)) only [aZ,aM,aG37,s_ref37_Ints,v_ref37_Ints]
  refine ib_intro (fun h1=>?_) (fun h1=>?_)
  · simp (disch:=((try simp only [lZ]); omega)) only [aZ,aM,aG37,r_ref37_Ints]
    exact post_v ⟨by rw [decide_eq_false (fun hc=>by rw [hc] at h1; omega)],rfl⟩
  have hll : a.length=b.length:=by omega
  simp (disch:=((try simp only [lZ]); omega)) only [aZ,aM,aG37]
  refine AWP.loopP g_ref37_Ints_0 (fun k : Nat=>k≤a.length∧∀ i,i < k→a.getD i 0=b.getD i 0) (fun k=>[(2,.v (.bool false)),(3,.v (.int .i64 k))]) (fun _=>[]) (fun k=>a.length - k) 0 ⟨by omega,fun i hi=>by omega⟩ ?_ ?_
  · exact Cut.fg (by simp (disch:=first | omega | simp (disch:=omega) only [aG,aM,aG37]) only [fZ,aM,aG37,fgl_nil,fgl_cons,or_true,true_or])
  rintro k ⟨hk,he⟩
  by_cases hlt : k < a.length
  · simp (disch:=((try simp only [lZ]); omega)) only [aZ,aM,aG37]
    refine ib_intro (fun h3=>?_) (fun h3=>?_)
    · simp (disch:=((try simp only [lZ]); omega)) only [aZ,aM,aG37,r_ref37_Ints]
      exact post_v ⟨by rw [decide_eq_false (fun hc=>by rw [hc] at h3; exact h3 rfl)],rfl⟩
    · simp (disch:=((try simp only [lZ]); omega)) only [aZ,aM,aG37]
      refine ⟨k+1,⟨by omega,fun i hi=>?_⟩,by omega,?_⟩
      · rcases Nat.lt_succ_iff_lt_or_eq.1 hi with h | rfl
        · exact he i h
        · exact Classical.not_not.1 h3
      · exact Cut.fg (by simp (disch:=first | omega | simp (disch:=omega) only [aG,aM,aG37]) only [fZ,aM,aG37,fgl_nil,fgl_cons,or_true,true_or])
  · have hae : a=b:=eq_of_getB 0 hll fun i hi=>he i (by omega)
    simp (disch:=((try simp only [lZ]); omega)) only [aZ,aM,aG37,r_ref37_Ints]
    exact post_v ⟨by rw [decide_eq_true hae],rfl⟩
def rwP (r : Mc) : Prop:=r.length≤30∧∀ x∈r,x.length≤10
theorem fzL_allS {H : List Blk} {l r : List A} (h : frzL (frzP H 9) l r) : FzL 0 H l r:=frzL_sound (frzP_sound 9) h
set_option maxHeartbeats 4000000 in
theorem awake37_vr : VR P false n_law37_awake [] [] (isR (.v (.bool true))):=by
  refine vr_law37_awake (by simp) (.inr rfl) fun _ _=>?_
  have hsm:=sample_vr
  have d1:=sameList_vr (w:=true) (v:=false) (w':=true) (v':=false) [[0],[10]] [[0],[10]] (by decide) (by decide)
  have d2:=ints37_vr (w:=true) (v:=false) [1,0] [1,0] (by decide)
  have d3:=ints37_vr (w:=true) (v:=false) [500,500] [500,500] (by decide)
  rw [decide_eq_true rfl] at d1 d2 d3
  have hyi:=spYield_vr (w:=true) (v:=true) (u:=false) loopP [10]
  rw [ex_yld] at hyi
  have hva:=spValue_vr (w:=true) (v:=true) (u:=false) (u':=true) loopP [10] exG
  rw [ex_val] at hva
  have hb1:=spBest_vr (w:=true) (v:=true) (u1:=false) (u2:=true) loopP exL [10] exG
  rw [ex_best] at hb1
  have hb2:=spBest_vr (w:=true) (v:=true) (u1:=false) (u2:=true) loopP exB [10] exG
  rw [ex_back] at hb2
  have hap:=spApply_vr (w:=true) (v:=true) (u:=true) (u':=false) loopP exL [1,0] (by decide)
  rw [ex_apply] at hap
  have epl2 : plA true true {mat:=1,ms:=[[[500,500]],[[]]],bs:=loopP.bs,fd:=0}=.agg [.v (.int .i64 1),.fs true (mcs true [[[500,500]],[[]]]),.fs true (bts loopP.bs),.v (.int .i64 0)]:=rfl
  have hpb : A.bd 0 (plA true true loopP)=true:=plA_bd _ _ _ _
  have hpb2 : (plA true true loopP).cl=true:=by decide +kernel
  unfold yldT pairT bestT applT at *
  rw [epl2] at hap
  simp (disch:=((try simp only [lZ]); omega)) only [aZ,aM,aG37,s_law37_awake,v_law37_awake]
  refine hsm.same (by simp (disch:=first | omega | simp (disch:=omega) only [aG,aM,aG37]) only [fZ,aM,aG37]) (by rw [hpb,hpb2]; rfl) ?_
  show AWP P 0 _ _ _ _
  refine AWP.chain 20 ?_
  conv=>arg 3; simp only [S.pre]
  have epl : plA true true loopP=.agg [.v (.int .i64 1),.fs true (mcs true loopP.ms),.fs true (bts loopP.bs),.v (.int .i64 0)]:=rfl
  rw [epl] at *
  simp (disch:=((try simp only [lZ]); omega)) only [aZ,aM,aG37,putA]
  conv=>arg 3; simp only [S.post]
  refine AWP.cut (e':=[.v (.bool false),.fs true (bts exG),.fs true (ogL true exL),.fs true (ogL true exB),.fp true [.v (.int .i64 1),.fs true (mcs true loopP.ms),.fs true (bts loopP.bs),.v (.int .i64 0)],.any,.any,.any,.any,.any,.any,.any,.any,.any,.any,.any,.any,.any,.any,.any,.any,.any,.any,.any,.any,.any,.any,.any,.any,.any,.any,.any,.any,.any,.any,.any,.any,.any,.any,.any,.any,.any,.any,.any,.any]) (H':=[]) (Cut.of' 0 rfl (Nat.le_refl _) (by simp [FzB]) (fzL_allS ?_)) ?_
  · simp [zZ,blkAt,flatA,A.cells,A.one,Lft.one,retA,A.bdL,A.bd,exG,exL,exB,ogL,ogs,ogA,ogC,loopP,mcs,mcA,mcC,bts,btA,btC,rows,ints]
  refine aw_sound ?_
  simp (disch:=((try simp only [lZ]); omega)) only [aZ,aM,aG37]
  refine hyi.use ⟨Ld.refl hpb,ld_slI _ 0 0 1 [10] rfl rfl,trivial⟩ (by rfl) (aret_of ?_)
  simp (disch:=((try simp only [lZ]); omega)) only [aZ,aM,aG37]
  refine hva.use ⟨Ld.refl hpb,ld_slI _ _ _ 1 [10] rfl rfl,Ld.refl (by rfl),trivial⟩ (by rfl) (aret_of ?_)
  simp (disch:=((try simp only [lZ]); omega)) only [aZ,aM,aG37]
  refine hb1.use ⟨Ld.refl hpb,Ld.refl (by rfl),ld_slI _ _ _ 1 [10] rfl rfl,Ld.refl (by rfl),trivial⟩ (by rfl) (aret_of ?_)
  simp (disch:=((try simp only [lZ]); omega)) only [aZ,aM,aG37]
  refine hb2.use ⟨Ld.refl hpb,Ld.refl (by rfl),ld_slI _ _ _ 1 [10] rfl rfl,Ld.refl (by rfl),trivial⟩ (by rfl) (aret_of ?_)
  simp (disch:=((try simp only [lZ]); omega)) only [aZ,aM,aG37]
  refine hap.use ⟨Ld.refl hpb,Ld.refl (by rfl),ld_slI _ _ _ 2 [1,0] rfl rfl,trivial⟩ (by rfl) (aret_of ?_)
  simp (disch:=((try simp only [lZ]); omega)) only [aZ,aM,aG37]
  refine d1.use (ld_all (by simp [zZ,blkAt,flatA,A.cells,A.one,Lft.one,retA,A.bdL,A.bd,rows,ints])) (by rfl) (aret_of ?_)
  simp (disch:=((try simp only [lZ]); omega)) only [aZ,aM,aG37]
  refine d2.use (ld_all (by simp [zZ,blkAt,flatA,A.cells,A.one,Lft.one,retA,A.bdL,A.bd,ints])) (by rfl) (aret_of ?_)
  simp (disch:=((try simp only [lZ]); omega)) only [aZ,aM,aG37,List.getD_cons_zero,List.getD_cons_succ,List.length_cons,List.length_nil,Int.natCast_add,Int.natCast_zero,Int.natCast_one]
  refine d3.use (ld_all (by simp [zZ,blkAt,flatA,A.cells,A.one,Lft.one,retA,A.bdL,A.bd,ints])) (by rfl) (aret_of ?_)
  simp (disch:=((try simp only [lZ]); omega)) only [aZ,aM,aG37,r_law37_awake,List.getD_cons_zero,List.getD_cons_succ,List.length_cons,List.length_nil,Int.natCast_add,Int.natCast_zero,Int.natCast_one]
  exact post_v ⟨rfl,rfl⟩
end Go.Proofs.Ytcppaddgclkekaa
