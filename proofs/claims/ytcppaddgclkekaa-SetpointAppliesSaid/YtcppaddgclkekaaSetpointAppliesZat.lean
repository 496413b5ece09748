/- Lemmas and walks that the proof of SetpointApplies uses. No statement is claimed here. -/
import Derived.Test.YtcppaddgclkekaaSetpointAppliesZas
namespace Go.Proofs.Ytcppaddgclkekaa
open Go Go.Lft
set_option linter.unusedSimpArgs false
set_option linter.unusedVariables false
attribute [local congr] ob_congr bw_congr ib_congr ck_congr iwA_congr itA_congr aw_congr awp_congr sqA_congr bkA_congr vr_congr gd_congr
def val37 (p : Pl) (L : List (List Og)) (xs : List Int) (gl : List Bt) (pk : List Int) : Option Int :=
  if (yldR (pickP p L pk) xs).2=0 then some (wrtS (yldL (pickP p L pk) xs) gl - spcS L pk) else none
def stepB (p : Pl) (L : List (List Og)) (xs : List Int) (gl : List Bt) (b : Option (List Int×Int)) (pk : List Int) : Option (List Int×Int) :=
  match val37 p L xs gl pk with
  | none=>b
  | some v=>match b with
    | none=>some (pk,v)
    | some q=>if v > q.2 then some (pk,v) else b
def bstL (p : Pl) (L : List (List Og)) (xs : List Int) (gl : List Bt) (l : List (List Int)) : Option (List Int×Int):=l.foldl (stepB p L xs gl) none
def bstO : Option (List Int×Int)→(List Int×Int)×Int
  | none=>(([],0),40)
  | some q=>(q,0)
noncomputable def bestR (p : Pl) (L : List (List Og)) (xs : List Int) (gl : List Bt) : (List Int×Int)×Int :=
  if pcheck p≠0 then (([],0),pcheck p) else if possE p L≠0 then (([],0),possE p L) else if 256 < prd L then (([],0),8) else if fedE p xs≠0 then (([],0),fedE p xs) else if wantE p gl≠0 then (([],0),wantE p gl) else
  bstO (bstL p L xs gl (allP L))
def bestT (x : (List Int×Int)×Int) : A:=.tup [.agg [.fs true (ints x.1.1),.v (.int .i64 x.1.2)],.v (.int .i64 x.2)]
def bstC : Option (List Int×Int)→List A
  | none=>[.v (.slice none 0 0),.v (.int .i64 0)]
  | some q=>[.fs true (ints q.1),.v (.int .i64 q.2)]
theorem bstL_snoc (p : Pl) (L : List (List Og)) (xs : List Int) (gl : List Bt) (l : List (List Int)) (pk : List Int) : bstL p L xs gl (l++[pk])=stepB p L xs gl (bstL p L xs gl l) pk:=by
  unfold bstL; rw [List.foldl_append]; rfl
theorem wrtS_bd {Y : List (List Int)} {l : List Bt} (hl : l.length≤24) (hg : ∀ g∈l,GoalOk Y g) : -412316860416000000≤wrtS Y l∧wrtS Y l≤412316860416000000:=by
  have h:=sumT_bd (wrtL Y l) (-17179869184000000) 17179869184000000 (wrtL Y l).length (Nat.le_refl _) fun i hi=>by
    rw [wrtL_len] at hi
    rw [wrtL_get _ _ _ hi]
    have:=wrt_bd (hg _ (mem_get b0 hi))
    omega
  rw [sumT_all,wrtL_len] at h
  unfold wrtS
  omega
theorem spcS_bd {L : List (List Og)} {pk : List Int} (hl : L.length≤24) (hc : CostOk L) (hp : PkOk L pk) : 0≤spcS L pk∧spcS L pk≤24000000000000:=by
  have h:=sumT_bd (spcL L pk) 0 1000000000000 (spcL L pk).length (Nat.le_refl _) fun i hi=>by
    rw [spcL_len] at hi
    rw [spcL_get _ _ _ hi]
    exact spc_bd hc hp hi
  rw [sumT_all,spcL_len] at h
  unfold spcS
  omega
theorem goals_pick {p : Pl} {L : List (List Og)} {pk xs : List Int} (hc : chkP (pickP p L pk)=0) (hf : fedE (pickP p L pk) xs=0) {l : List Bt} (hw : wantE p l=0) : l.length≤24∧∀ g∈l,GoalOk (yldL (pickP p L pk) xs) g:=by
  have ok:=pcheck_ok (chkP_ok hc).1
  have hml : (pickP p L pk).ms.length=p.ms.length:=pickL_len p L pk
  have hl : ¬ 24 < l.length:=fun h=>by unfold wantE at hw; rw [if_pos h] at hw; cases hw
  refine ⟨by omega,fun g hg=>?_⟩
  have hb : ¬ badG p g:=by
    unfold wantE at hw
    rw [if_neg hl] at hw
    split at hw
    · rename_i h
      exact absurd hw (idxE_at b0 h)
    · rename_i h
      exact idxE_neg (by omega) g hg
  obtain ⟨q1,q2,q3,q4,q5,q6,q7,q8,q9⟩:=glE_rng hb
  refine ⟨q1,by rw [yldL_len]; omega,q6,q7,?_⟩
  rw [yldL_get _ _ _ (by omega)]
  exact mixok_E ok.mt1.2.1 (yldM_ok hc hf (by omega))
def bKm (w v u u1 u2 : Bool) (p : Pl) (L : List (List Og)) (xs : List Int) (gl : List Bt) (b : Option (List Int×Int)) : List Blk :=
  [⟨0,plC w v p⟩,⟨0,[.fs u (ogL u L)]⟩,⟨0,[.fs u1 (ints xs)]⟩,⟨0,[.fs u2 (bts gl)]⟩,⟨0,[.v (.slice none 0 0),.v (.int .i64 0)]⟩,⟨0,bstC b⟩,⟨0,[.v (.bool b.isSome)]⟩]
theorem bstC_bd (n : Nat) (b : Option (List Int×Int)) : A.bdL n (bstC b)=true:=by cases b<;>simp [bstC,A.bdL,A.bd,ii_bd]
theorem bKm_ok {w v u u1 u2 : Bool} {p : Pl} {L : List (List Og)} {xs : List Int} {gl : List Bt} {b : Option (List Int×Int)} (m : Nat) : okB m (bKm w v u u1 u2 p L xs gl b):=fun B hB=>by
  simp only [bKm,List.mem_cons,List.not_mem_nil,or_false] at hB
  rcases hB with rfl | rfl | rfl | rfl | rfl | rfl | rfl
  · exact plC_bd _ _ _ _
  · simp [A.bdL,A.bd,ogL_bd]
  · simp [A.bdL,A.bd,ii_bd]
  · simp [A.bdL,A.bd,bt_bd]
  · rfl
  · exact bstC_bd _ _
  · rfl
theorem rq_ret {P : Program} {n0 : Nat} {sa b c : S} {g : X} {k : Nat} {r : List X} {R : A→List Blk→Prop} {e : List A} {H : List Blk} : rngQA P n0 sa b c g k r R .ret e H=postA n0 ⟨.nxt,r⟩ R .ret e H:=rfl
theorem fun_res (s : S) (r : List X) : Fun.res ⟨s,r⟩=r:=rfl
theorem best_err (H : List Blk) (e : Int) : Fz 0 H (.tup [.agg [.v (.slice none 0 0),.v (.int .i64 0)],.v (.int .i64 e)]) (bestT (([],0),e)) :=
  Fz.tup ⟨Fz.agg (l:=[.v (.slice none 0 0),.v (.int .i64 0)]) (r:=[.fs true [],.v (.int .i64 0)]) ⟨fz_nil _ _,Fz.refl rfl,trivial⟩,Fz.refl rfl,trivial⟩
set_option maxHeartbeats 4000000 in
theorem spBest_vr {w v u1 u2 : Bool} (p : Pl) (L : List (List Og)) (xs : List Int) (gl : List Bt) : VR P false n_setpoint_Best [plA w v p,.fs true (ogL true L),.fs u1 (ints xs),.fs u2 (bts gl)] [] (isR (bestT (bestR p L xs gl))):=by
  refine vr_setpoint_Best (by simp) (.inr rfl) ?_
  have hck:=layoutCheck_vr (w:=w) (v:=v) p
  unfold plA at *
  refine aw_sound ?_
  by_cases h1 : pcheck p=0
  case neg =>
    have e : bestR p L xs gl=(([],0),pcheck p):=by unfold bestR; rw [if_pos h1]
    rw [e]
    unfold plC at *
    simp (disch:=((try simp only [lZ]); omega)) only [aZ,aM,aG37,s_setpoint_Best,v_setpoint_Best]
    refine hck.same (by simp (disch:=first | omega | simp (disch:=omega) only [aG,aM,aG37]) only [fZ,aM,aG37]) rfl (aret_of ?_)
    simp (disch:=((try simp only [lZ]); omega)) only [aZ,aM,aG37,decide_eq_true (show ¬ pcheck p=0 from h1)]
    rw [rq_ret]
    simp (disch:=((try simp only [lZ]); omega)) only [aZ,aM,aG37,fun_res]
    exact post0 (best_err _ _) ⟨rfl,rfl⟩
  have ok:=pcheck_ok h1
  obtain ⟨m1,m2,m3⟩:=ok.mt1
  have n2:=ok.n2
  have hpo:=spPossible_vr (w:=w) (v:=v) (u:=true) ok L
  have hfd:=spFed_vr (w:=w) (v:=v) (u:=u1) ok xs
  have hwa:=spWanted_vr (w:=w) (v:=v) (u:=u2) ok gl
  have hch:=spChoices_vr (u:=true) L
  unfold plA plC at *
  by_cases h2 : possE p L=0
  case neg =>
    have e : bestR p L xs gl=(([],0),possE p L):=by unfold bestR; rw [if_neg (fun h=>h h1),if_pos h2]
    rw [e]
    simp (disch:=((try simp only [lZ]); omega)) only [aZ,aM,aG37,s_setpoint_Best,v_setpoint_Best]
    refine hck.same (by simp (disch:=first | omega | simp (disch:=omega) only [aG,aM,aG37]) only [fZ,aM,aG37]) rfl (aret_of ?_)
    simp (disch:=((try simp only [lZ]); omega)) only [aZ,aM,aG37,h1]
    refine hpo.same (by simp (disch:=first | omega | simp (disch:=omega) only [aG,aM,aG37]) only [fZ,aM,aG37]) rfl (aret_of ?_)
    simp (disch:=((try simp only [lZ]); omega)) only [aZ,aM,aG37,decide_eq_true (show ¬ possE p L=0 from h2)]
    rw [rq_ret]
    simp (disch:=((try simp only [lZ]); omega)) only [aZ,aM,aG37,fun_res]
    exact post0 (best_err _ _) ⟨rfl,rfl⟩
  obtain ⟨hl,hlm⟩:=poss_ok h2
  have hb4 : ∀ l∈L,l.length≤4:=fun l hl2=>by
    obtain ⟨m,hm,rfl⟩:=get_mem [] hl2
    exact (hlm m (by omega)).1
  have hmy:=spMany_vr (u:=true) L (by omega) (fun l hl2=>by have:=hb4 l hl2; omega)
  by_cases h3 : 256 < prd L
  · have e : bestR p L xs gl=(([],0),8):=by unfold bestR; rw [if_neg (fun h=>h h1),if_neg (fun h=>h h2),if_pos h3]
    rw [e]
    rw [decide_eq_true h3] at hmy
    simp (disch:=((try simp only [lZ]); omega)) only [aZ,aM,aG37,s_setpoint_Best,v_setpoint_Best]
    refine hck.same (by simp (disch:=first | omega | simp (disch:=omega) only [aG,aM,aG37]) only [fZ,aM,aG37]) rfl (aret_of ?_)
    simp (disch:=((try simp only [lZ]); omega)) only [aZ,aM,aG37,h1]
    refine hpo.same (by simp (disch:=first | omega | simp (disch:=omega) only [aG,aM,aG37]) only [fZ,aM,aG37]) rfl (aret_of ?_)
    simp (disch:=((try simp only [lZ]); omega)) only [aZ,aM,aG37,h2]
    refine hmy.same (by simp (disch:=first | omega | simp (disch:=omega) only [aG,aM,aG37]) only [fZ,aM,aG37]) rfl (aret_of ?_)
    simp (disch:=((try simp only [lZ]); omega)) only [aZ,aM,aG37]
    rw [rq_ret]
    simp (disch:=((try simp only [lZ]); omega)) only [aZ,aM,aG37,fun_res]
    exact post0 (best_err _ _) ⟨rfl,rfl⟩
  rw [decide_eq_false h3] at hmy
  by_cases h4 : fedE p xs=0
  case neg =>
    have e : bestR p L xs gl=(([],0),fedE p xs):=by unfold bestR; rw [if_neg (fun h=>h h1),if_neg (fun h=>h h2),if_neg h3,if_pos h4]
    rw [e]
    simp (disch:=((try simp only [lZ]); omega)) only [aZ,aM,aG37,s_setpoint_Best,v_setpoint_Best]
    refine hck.same (by simp (disch:=first | omega | simp (disch:=omega) only [aG,aM,aG37]) only [fZ,aM,aG37]) rfl (aret_of ?_)
    simp (disch:=((try simp only [lZ]); omega)) only [aZ,aM,aG37,h1]
    refine hpo.same (by simp (disch:=first | omega | simp (disch:=omega) only [aG,aM,aG37]) only [fZ,aM,aG37]) rfl (aret_of ?_)
    simp (disch:=((try simp only [lZ]); omega)) only [aZ,aM,aG37,h2]
    refine hmy.same (by simp (disch:=first | omega | simp (disch:=omega) only [aG,aM,aG37]) only [fZ,aM,aG37]) rfl (aret_of ?_)
    simp (disch:=((try simp only [lZ]); omega)) only [aZ,aM,aG37]
    refine hfd.same (by simp (disch:=first | omega | simp (disch:=omega) only [aG,aM,aG37]) only [fZ,aM,aG37]) rfl (aret_of ?_)
    simp (disch:=((try simp only [lZ]); omega)) only [aZ,aM,aG37,decide_eq_true (show ¬ fedE p xs=0 from h4)]
    rw [rq_ret]
    simp (disch:=((try simp only [lZ]); omega)) only [aZ,aM,aG37,fun_res]
    exact post0 (best_err _ _) ⟨rfl,rfl⟩
  by_cases h5 : wantE p gl=0
  case neg =>
    have e : bestR p L xs gl=(([],0),wantE p gl):=by unfold bestR; rw [if_neg (fun h=>h h1),if_neg (fun h=>h h2),if_neg h3,if_neg (fun h=>h h4),if_pos h5]
    rw [e]
    simp (disch:=((try simp only [lZ]); omega)) only [aZ,aM,aG37,s_setpoint_Best,v_setpoint_Best]
    refine hck.same (by simp (disch:=first | omega | simp (disch:=omega) only [aG,aM,aG37]) only [fZ,aM,aG37]) rfl (aret_of ?_)
    simp (disch:=((try simp only [lZ]); omega)) only [aZ,aM,aG37,h1]
    refine hpo.same (by simp (disch:=first | omega | simp (disch:=omega) only [aG,aM,aG37]) only [fZ,aM,aG37]) rfl (aret_of ?_)
    simp (disch:=((try simp only [lZ]); omega)) only [aZ,aM,aG37,h2]
    refine hmy.same (by simp (disch:=first | omega | simp (disch:=omega) only [aG,aM,aG37]) only [fZ,aM,aG37]) rfl (aret_of ?_)
    simp (disch:=((try simp only [lZ]); omega)) only [aZ,aM,aG37]
    refine hfd.same (by simp (disch:=first | omega | simp (disch:=omega) only [aG,aM,aG37]) only [fZ,aM,aG37]) rfl (aret_of ?_)
    simp (disch:=((try simp only [lZ]); omega)) only [aZ,aM,aG37,h4]
    refine hwa.same (by simp (disch:=first | omega | simp (disch:=omega) only [aG,aM,aG37]) only [fZ,aM,aG37]) rfl (aret_of ?_)
    simp (disch:=((try simp only [lZ]); omega)) only [aZ,aM,aG37,decide_eq_true (show ¬ wantE p gl=0 from h5)]
    rw [rq_ret]
    simp (disch:=((try simp only [lZ]); omega)) only [aZ,aM,aG37,fun_res]
    exact post0 (best_err _ _) ⟨rfl,rfl⟩
  have e : bestR p L xs gl=bstO (bstL p L xs gl (allP L)):=by unfold bestR; rw [if_neg (fun h=>h h1),if_neg (fun h=>h h2),if_neg h3,if_neg (fun h=>h h4),if_neg (fun h=>h h5)]
  rw [e]
  have hcost:=poss_cost h2
  simp (disch:=((try simp only [lZ]); omega)) only [aZ,aM,aG37,s_setpoint_Best,v_setpoint_Best]
  refine hck.same (by simp (disch:=first | omega | simp (disch:=omega) only [aG,aM,aG37]) only [fZ,aM,aG37]) rfl (aret_of ?_)
  simp (disch:=((try simp only [lZ]); omega)) only [aZ,aM,aG37,h1]
  refine hpo.same (by simp (disch:=first | omega | simp (disch:=omega) only [aG,aM,aG37]) only [fZ,aM,aG37]) rfl (aret_of ?_)
  simp (disch:=((try simp only [lZ]); omega)) only [aZ,aM,aG37,h2]
  refine hmy.same (by simp (disch:=first | omega | simp (disch:=omega) only [aG,aM,aG37]) only [fZ,aM,aG37]) rfl (aret_of ?_)
  simp (disch:=((try simp only [lZ]); omega)) only [aZ,aM,aG37]
  refine hfd.same (by simp (disch:=first | omega | simp (disch:=omega) only [aG,aM,aG37]) only [fZ,aM,aG37]) rfl (aret_of ?_)
  simp (disch:=((try simp only [lZ]); omega)) only [aZ,aM,aG37,h4]
  refine hwa.same (by simp (disch:=first | omega | simp (disch:=omega) only [aG,aM,aG37]) only [fZ,aM,aG37]) rfl (aret_of ?_)
  simp (disch:=((try simp only [lZ]); omega)) only [aZ,aM,aG37,h5]
  refine hch.same (by simp (disch:=first | omega | simp (disch:=omega) only [aG,aM,aG37]) only [fZ,aM,aG37]) (by simp [A.cl,A.clL,A.bd,A.bdL,ogL_cl,ogL_bd]) (aret_of ?_)
  simp (disch:=((try simp only [lZ]); omega)) only [aZ,aM,aG37]
  refine ⟨n_setpoint_choices_1,[.fp true [.fs true (ogL true L)]],rfl,by kernel_rfl,fun c1 l hH hs hround=>?_⟩
  have hKm : ∀ b,(bKm w v true u1 u2 p L xs gl b).length=7:=fun b=>rfl
  have hit:=iter_choices (u:=true) (L:=L) (by omega) (fun l hl2=>by have:=hb4 l hl2; omega) (c1:=c1) (l:=l) (n:=7) (Km:=fun pre=>bKm w v true u1 u2 p L xs gl (bstL p L xs gl pre)) (fun _=>rfl) (fun _ m _=>bKm_ok m) hH hs ?_
  case refine_1 =>
    intro pre pk hpre hpk
    refine hround _ _ _ ?_
    refine aw_sound ?_
    simp (disch:=((try simp only [lZ]); omega)) only [aZ,aM,aG37,sa_setpoint_Best]
    refine ⟨trivial,aw_sound ?_⟩
    have hst:=bstL_snoc p L xs gl pre pk
    have hpi:=spPicked_vr (w:=w) (v:=v) (u:=true) (u':=true) ok h2 hpk
    have hyi:=spYield_vr (w:=true) (v:=true) (u:=u1) (pickP p L pk) xs
    have hva : val37 p L xs gl pk=if (yldR (pickP p L pk) xs).2=0 then some (wrtS (yldL (pickP p L pk) xs) gl - spcS L pk) else none:=rfl
    have hsb : stepB p L xs gl (bstL p L xs gl pre) pk=match val37 p L xs gl pk with
      | none=>bstL p L xs gl pre
      | some v=>match bstL p L xs gl pre with
        | none=>some (pk,v)
        | some q=>if v > q.2 then some (pk,v) else bstL p L xs gl pre:=rfl
    have hgp:=fun hc hf=>goals_pick (p:=p) (L:=L) (pk:=pk) (xs:=xs) hc hf h5
    have hsp:=spcS_bd (L:=L) (pk:=pk) (by omega) hcost hpk
    have hsv:=spSpent_vr (u:=true) (u':=true) L pk (by omega) hcost hpk
    have hyl:=yldL_len (pickP p L pk) xs
    have hpl : (pickP p L pk).ms.length=p.ms.length:=pickL_len p L pk
    rw [hst,hsb,hva]
    clear hst hsb hround
    unfold yldT at hyi
    generalize bstL p L xs gl pre=b at *
    generalize pickP p L pk=Q at *
    unfold plA plC at *
    have hlen8 : (bKm w v true u1 u2 p L xs gl b).length+1=8:=rfl
    rw [hlen8]
    by_cases hy : (yldR Q xs).2=0
    case neg =>
      rw [if_neg hy]
      simp only [bKm,plC,List.cons_append,List.nil_append]
      simp (disch:=((try simp only [lZ]); omega)) only [aZ,aM,aG37,sb_setpoint_Best]
      refine hpi.same (by simp (disch:=first | omega | simp (disch:=omega) only [aG,aM,aG37]) only [fZ,aM,aG37]) (by simp (disch:=first | omega | simp (disch:=omega) only [aG,aM,aG37]) only [fZ,aM,aG37]) (aret_of ?_)
      simp (disch:=((try simp only [lZ]); omega)) only [aZ,aM,aG37]
      refine hyi.same (by simp (disch:=first | omega | simp (disch:=omega) only [aG,aM,aG37]) only [fZ,aM,aG37]) (by simp (disch:=first | omega | simp (disch:=omega) only [aG,aM,aG37]) only [fZ,aM,aG37]) (aret_of ?_)
      simp (disch:=((try simp only [lZ]); omega)) only [aZ,aM,aG37,decide_eq_true (show ¬ (yldR Q xs).2=0 from hy)]
      exact ⟨trivial,trivial,trivial⟩
    rw [if_pos hy]
    obtain ⟨hc,hf,hyr⟩:=yldR_ok hy
    obtain ⟨g1,g2⟩:=hgp hc hf
    have hwo:=spWorth_vr (u:=true) (u':=u2) (yldL Q xs) gl g1 (by omega) g2
    have hwb:=wrtS_bd g1 g2
    rw [hyr] at hyi
    generalize wrtS (yldL Q xs) gl=W at *
    generalize spcS L pk=C at *
    cases b with
    | none =>
      simp only [bKm,plC,bstC,List.cons_append,List.nil_append,Option.isSome]
      simp (disch:=((try simp only [lZ]); omega)) only [aZ,aM,aG37,sb_setpoint_Best]
      refine hpi.same (by simp (disch:=first | omega | simp (disch:=omega) only [aG,aM,aG37]) only [fZ,aM,aG37]) (by simp (disch:=first | omega | simp (disch:=omega) only [aG,aM,aG37]) only [fZ,aM,aG37]) (aret_of ?_)
      simp (disch:=((try simp only [lZ]); omega)) only [aZ,aM,aG37]
      refine hyi.same (by simp (disch:=first | omega | simp (disch:=omega) only [aG,aM,aG37]) only [fZ,aM,aG37]) (by simp (disch:=first | omega | simp (disch:=omega) only [aG,aM,aG37]) only [fZ,aM,aG37]) (aret_of ?_)
      simp (disch:=((try simp only [lZ]); omega)) only [aZ,aM,aG37]
      refine hwo.same (by simp (disch:=first | omega | simp (disch:=omega) only [aG,aM,aG37]) only [fZ,aM,aG37]) rfl (aret_of ?_)
      simp (disch:=((try simp only [lZ]); omega)) only [aZ,aM,aG37]
      refine hsv.same (by simp (disch:=first | omega | simp (disch:=omega) only [aG,aM,aG37]) only [fZ,aM,aG37]) rfl (aret_of ?_)
      simp (disch:=((try simp only [lZ]); omega)) only [aZ,aM,aG37]
      exact ⟨trivial,trivial,trivial⟩
    | some q =>
      simp only [bKm,plC,bstC,List.cons_append,List.nil_append,Option.isSome]
      simp (disch:=((try simp only [lZ]); omega)) only [aZ,aM,aG37,sb_setpoint_Best]
      refine hpi.same (by simp (disch:=first | omega | simp (disch:=omega) only [aG,aM,aG37]) only [fZ,aM,aG37]) (by simp (disch:=first | omega | simp (disch:=omega) only [aG,aM,aG37]) only [fZ,aM,aG37]) (aret_of ?_)
      simp (disch:=((try simp only [lZ]); omega)) only [aZ,aM,aG37]
      refine hyi.same (by simp (disch:=first | omega | simp (disch:=omega) only [aG,aM,aG37]) only [fZ,aM,aG37]) (by simp (disch:=first | omega | simp (disch:=omega) only [aG,aM,aG37]) only [fZ,aM,aG37]) (aret_of ?_)
      simp (disch:=((try simp only [lZ]); omega)) only [aZ,aM,aG37]
      refine hwo.same (by simp (disch:=first | omega | simp (disch:=omega) only [aG,aM,aG37]) only [fZ,aM,aG37]) rfl (aret_of ?_)
      simp (disch:=((try simp only [lZ]); omega)) only [aZ,aM,aG37]
      refine hsv.same (by simp (disch:=first | omega | simp (disch:=omega) only [aG,aM,aG37]) only [fZ,aM,aG37]) rfl (aret_of ?_)
      by_cases hgt : W - C > q.2
      · rw [if_pos hgt]
        simp (disch:=((try simp only [lZ]); omega)) only [aZ,aM,aG37,decide_eq_true hgt]
        exact ⟨trivial,trivial,trivial⟩
      · rw [if_neg hgt]
        simp (disch:=((try simp only [lZ]); omega)) only [aZ,aM,aG37,decide_eq_false hgt]
        exact ⟨trivial,trivial,trivial⟩
  refine fun vs ha=>(hit vs ha).mono ?_
  rintro vv hh ⟨d,e1,e2,e3,e4⟩
  refine ⟨d,e1,?_,e3,e4⟩
  rw [e2]
  refine aw_sound ?_
  cases hbo : bstL p L xs gl (allP L) with
  | none =>
    simp only [bKm,plC,bstC,Option.isSome]
    simp (disch:=((try simp only [lZ]); omega)) only [aZ,aM,aG37,sc_setpoint_Best,fun_res]
    exact post0 (best_err _ _) ⟨rfl,rfl⟩
  | some q =>
    simp only [bKm,plC,bstC,Option.isSome]
    simp (disch:=((try simp only [lZ]); omega)) only [aZ,aM,aG37,sc_setpoint_Best,fun_res]
    exact post0 (r:=.tup [.agg [.fs true (ints q.1),.v (.int .i64 q.2)],.v (.int .i64 0)]) (Fz.refl (by simp [A.bd,A.bdL,ii_bd,retA])) ⟨rfl,rfl⟩
theorem binsFed {p : Pl} {s : Sy} (hg : Gd p s) (he : ∀ x,tot p s x=s.fed.getD x 0) (hz : sumI p s=0) {x : Nat} (hx : x < p.mt) : binT p s x=s.fed.getD x 0:=by
  have h1:=sm_zero_all (fun x _=>(ins_tot hg x).2) hz hx
  have h2:=tot_ins p s x
  have:=he x
  omega
theorem yld_two {p : Pl} (hc : chkP p=0) {x : Int} (hf : fedE p [x]=0) (hm : p.mt=1) (hl : p.ms.length=2) (b0 : ¬ binN p 0) (b1 : binN p 1) : yldL p [x]=[[0],[x]]:=by
  have hp:=(chkP_ok hc).1
  have ok:=pcheck_ok hp
  obtain ⟨hI,hn,hz⟩:=y_zero hc hf
  obtain ⟨q1,q2,q3⟩:=fedE_ok hf
  obtain ⟨g1,g2,g3,g4⟩:=hI.1.it hp (yN p [x])
  have hfe : ∀ y,(yS p [x]).fed.getD y 0=([x] : List Int).getD y 0:=fun y=>by
    show (itS p _ _).fed.getD y 0=_
    rw [g4]
    show (plusM (zeros p.mt) [x]).getD y 0=_
    rw [plus_get (zeros_ok _).1 q1,zeros_get]; omega
  have he : ∀ y,tot p (yS p [x]) y=(yS p [x]).fed.getD y 0:=fun y=>by
    rw [hfe]
    show tot p (itS p _ _) y=_
    rw [g2,feed_tot ok (Gd.new p) q1,new_tot]; omega
  have hb:=binsFed (s:=yS p [x]) g1 he hz (x:=0) (by omega)
  rw [hfe] at hb
  have hbt : binT p (yS p [x]) 0=sm p.ms.length fun m=>if binN p m then ((yS p [x]).bef m).getD 0 0 else 0:=by unfold binT; rfl
  rw [hbt,hl] at hb
  simp only [sm,if_neg b0,if_pos b1] at hb
  have hok:=g1.ok.bef 1 (by omega)
  have h1 : (yS p [x]).bef 1=[x]:=by
    refine eq_of_getB 0 (by have h9 : ((yS p [x]).bef 1).length=p.mt:=hok.1; rw [h9,hm]; rfl) fun i hi=>?_
    have hi0 : i=0:=by have : ((yS p [x]).bef 1).length=p.mt:=hok.1; omega
    subst hi0
    simpa using hb
  unfold yldL
  rw [hl]
  show [yldM p [x] 0,yldM p [x] 1]=_
  unfold yldM
  rw [if_neg b0,if_pos b1,h1,hm]
  rfl
def exG : List Bt:=[⟨1,0,5000,900⟩]
def exL : List (List Og):=[[⟨[[1000,0]],7⟩,⟨[[500,500]],0⟩],[]]
def exB : List (List Og):=[[⟨[[0,1000]],0⟩],[]]
theorem ex_fed : fedE loopP [10]=0:=by decide +kernel
theorem ex_yld : yldR loopP [10]=([[0],[10]],0):=by
  unfold yldR
  rw [if_neg (fun h=>h loop_chk),if_neg (fun h=>h ex_fed),yld_two loop_chk ex_fed rfl rfl (by decide +kernel) (by decide +kernel)]
theorem ex_want : wantE loopP exG=0:=by
  rw [wantE_good (by decide) (fun i hi=>by
    have : i=0:=by simp [exG] at hi; omega
    subst this
    decide +kernel),if_neg]
  rintro ⟨k,hk,i,hi,_⟩
  simp [exG] at hk; omega
theorem ex_wrt : wrtS [[0],[10]] exG=50000:=by decide +kernel
theorem ex_val : valR loopP [10] exG=(50000,0):=by
  have e : yldL loopP [10]=[[0],[10]]:=yld_two loop_chk ex_fed rfl rfl (by decide +kernel) (by decide +kernel)
  unfold valR
  rw [ex_yld,if_neg (fun h=>h rfl),if_neg (fun h=>h ex_want),e,ex_wrt]
theorem ex_v {L : List (List Og)} {pk : List Int} (hc : chkP (pickP loopP L pk)=0) (b0 : ¬ binN (pickP loopP L pk) 0) (b1 : binN (pickP loopP L pk) 1) : val37 loopP L [10] exG pk=some (50000 - spcS L pk):=by
  have hf : fedE (pickP loopP L pk) [10]=0:=by
    have h1 : (pickP loopP L pk).mt=1:=rfl
    unfold fedE
    rw [h1]
    decide +kernel
  have e:=yld_two hc hf rfl (pickL_len _ _ _) b0 b1
  have ey : yldR (pickP loopP L pk) [10]=(yldL (pickP loopP L pk) [10],0):=by unfold yldR; rw [if_neg (fun h=>h hc),if_neg (fun h=>h hf)]
  unfold val37
  rw [ey,if_pos rfl,e,ex_wrt]
theorem ex_best : bestR loopP exL [10] exG=(([1,0],50000),0):=by
  have v1 : val37 loopP exL [10] exG [0,0]=some 49993:=by
    rw [ex_v (by decide +kernel) (by decide +kernel) (by decide +kernel)]; decide +kernel
  have v2 : val37 loopP exL [10] exG [1,0]=some 50000:=by
    rw [ex_v (by decide +kernel) (by decide +kernel) (by decide +kernel)]; decide +kernel
  unfold bestR
  rw [if_neg (fun h=>h (show pcheck loopP=0 by decide +kernel)),if_neg (fun h=>h (show possE loopP exL=0 by decide +kernel)),if_neg (by decide +kernel),if_neg (fun h=>h ex_fed),if_neg (fun h=>h ex_want),
    show allP exL=[[0,0],[1,0]] by decide +kernel]
  unfold bstL
  simp only [List.foldl_cons,List.foldl_nil,stepB,v1,v2]
  rfl
theorem ex_back : bestR loopP exB [10] exG=(([],0),40):=by
  have v1 : val37 loopP exB [10] exG [0,0]=none:=by
    have hc : chkP (pickP loopP exB [0,0])≠0:=by decide +kernel
    have ey : yldR (pickP loopP exB [0,0]) [10]=([],chkP (pickP loopP exB [0,0])):=by unfold yldR; rw [if_pos hc]
    unfold val37
    rw [ey,if_neg (by exact hc)]
  unfold bestR
  rw [if_neg (fun h=>h (show pcheck loopP=0 by decide +kernel)),if_neg (fun h=>h (show possE loopP exB=0 by decide +kernel)),if_neg (by decide +kernel),if_neg (fun h=>h ex_fed),if_neg (fun h=>h ex_want),
    show allP exB=[[0,0]] by decide +kernel]
  unfold bstL
  simp only [List.foldl_cons,List.foldl_nil,stepB,v1]
  rfl
theorem ex_apply : applR loopP exL [1,0]=(⟨1,[[[500,500]],[[]]],loopP.bs,0⟩,0):=by
  unfold applR
  rw [if_neg (fun h=>h (show pcheck loopP=0 by decide +kernel)),if_neg (fun h=>h (show possE loopP exL=0 by decide +kernel)),if_neg (by decide),if_neg (by decide +kernel)]
  rfl
theorem sample_vr : VR P false n_law37_sample [] [] (isR (plA true true loopP)):=by
  refine vr_law37_sample (by simp) (.inr rfl) fun _ _=>?_
  simp (disch:=((try simp only [lZ]); omega)) only [aZ,aM,aG37,s_law37_sample,v_law37_sample,r_law37_sample]
  refine post0 (fz_all ?_) ⟨rfl,rfl⟩
  simp [zZ,blkAt,flatA,A.cells,A.one,Lft.one,retA,A.bdL,A.bd,loopP,plA,plC,mcs,mcA,mcC,bts,btA,btC,rows,ints]
theorem ints37_vr {w v : Bool} (a b : List Int) (hl : a.length≤1000000) : VR P false n_ref37_Ints [.fs w (ints a),.fs v (ints b)] [] (isR (.v (.bool (decide (a=b))))):=by
  refine vr_ref37_Ints (by simp) (.inr rfl) fun _ _=>?_
  simp (disch:=((try simp only [lZ]); omega)) only [aZ,aM,aG37,s_ref37_Ints,v_ref37_Ints]
  refine ib_intro (fun h1=>?_) (fun h1=>?_)
  · simp (disch:=((try simp only [lZ]); omega)) only [aZ,aM,aG37,r_ref37_Ints]
    exact post_v ⟨by rw [decide_eq_false (fun hc=>by rw [hc] at h1; omega)],rfl⟩
  have hll : a.length=b.length:=by omega
  simp (disch:=((try simp only [lZ]); omega)) only [aZ,aM,aG37]
  refine AWP.loopP g_ref37_Ints_0 (fun k : Nat=>k≤a.length∧∀ i,i < k→a.getD i 0=b.getD i 0) (fun k=>[(2,.v (.bool false)),(3,.v (.int .i64 k))]) (fun _=>[]) (fun k=>a.length - k) 0 ⟨by omega,fun i hi=>by omega⟩ ?_ ?_
  · exact Cut.fg (by simp (disch:=first | omega | simp (disch:=omega) only [aG,aM,aG37]) only [fZ,aM,aG37,fgl_nil,fgl_cons,or_true,true_or])
  rintro k ⟨hk,he⟩
  by_cases hlt : k < a.length
  · simp (disch:=((try simp only [lZ]); omega)) only [aZ,aM,aG37]
    refine ib_intro (fun h3=>?_) (fun h3=>?_)
    · simp (disch:=((try simp only [lZ]); omega)) only [aZ,aM,aG37,r_ref37_Ints]
      exact post_v ⟨by rw [decide_eq_false (fun hc=>by rw [hc] at h3; exact h3 rfl)],rfl⟩
    · simp (disch:=((try simp only [lZ]); omega)) only [aZ,aM,aG37]
      refine ⟨k+1,⟨by omega,fun i hi=>?_⟩,by omega,?_⟩
      · rcases Nat.lt_succ_iff_lt_or_eq.1 hi with h | rfl
        · exact he i h
        · exact Classical.not_not.1 h3
      · exact Cut.fg (by simp (disch:=first | omega | simp (disch:=omega) only [aG,aM,aG37]) only [fZ,aM,aG37,fgl_nil,fgl_cons,or_true,true_or])
  · have hae : a=b:=eq_of_getB 0 hll fun i hi=>he i (by omega)
    simp (disch:=((try simp only [lZ]); omega)) only [aZ,aM,aG37,r_ref37_Ints]
    exact post_v ⟨by rw [decide_eq_true hae],rfl⟩
def rwP (r : Mc) : Prop:=r.length≤30∧∀ x∈r,x.length≤10
theorem fzL_allS {H : List Blk} {l r : List A} (h : frzL (frzP H 9) l r) : FzL 0 H l r:=frzL_sound (frzP_sound 9) h
set_option maxHeartbeats 4000000 in
theorem awake37_vr : VR P false n_law37_awake [] [] (isR (.v (.bool true))):=by
  refine vr_law37_awake (by simp) (.inr rfl) fun _ _=>?_
  have hsm:=sample_vr
  have d1:=sameList_vr (w:=true) (v:=false) (w':=true) (v':=false) [[0],[10]] [[0],[10]] (by decide) (by decide)
  have d2:=ints37_vr (w:=true) (v:=false) [1,0] [1,0] (by decide)
  have d3:=ints37_vr (w:=true) (v:=false) [500,500] [500,500] (by decide)
  rw [decide_eq_true rfl] at d1 d2 d3
  have hyi:=spYield_vr (w:=true) (v:=true) (u:=false) loopP [10]
  rw [ex_yld] at hyi
  have hva:=spValue_vr (w:=true) (v:=true) (u:=false) (u':=true) loopP [10] exG
  rw [ex_val] at hva
  have hb1:=spBest_vr (w:=true) (v:=true) (u1:=false) (u2:=true) loopP exL [10] exG
  rw [ex_best] at hb1
  have hb2:=spBest_vr (w:=true) (v:=true) (u1:=false) (u2:=true) loopP exB [10] exG
  rw [ex_back] at hb2
  have hap:=spApply_vr (w:=true) (v:=true) (u:=true) (u':=false) loopP exL [1,0] (by decide)
  rw [ex_apply] at hap
  have epl2 : plA true true {mat:=1,ms:=[[[500,500]],[[]]],bs:=loopP.bs,fd:=0}=.agg [.v (.int .i64 1),.fs true (mcs true [[[500,500]],[[]]]),.fs true (bts loopP.bs),.v (.int .i64 0)]:=rfl
  have hpb : A.bd 0 (plA true true loopP)=true:=plA_bd _ _ _ _
  have hpb2 : (plA true true loopP).cl=true:=by decide +kernel
  unfold yldT pairT bestT applT at *
  rw [epl2] at hap
  simp (disch:=((try simp only [lZ]); omega)) only [aZ,aM,aG37,s_law37_awake,v_law37_awake]
  refine hsm.same (by simp (disch:=first | omega | simp (disch:=omega) only [aG,aM,aG37]) only [fZ,aM,aG37]) (by rw [hpb,hpb2]; rfl) ?_
  show AWP P 0 _ _ _ _
  refine AWP.chain 20 ?_
  conv=>arg 3; simp only [S.pre]
  have epl : plA true true loopP=.agg [.v (.int .i64 1),.fs true (mcs true loopP.ms),.fs true (bts loopP.bs),.v (.int .i64 0)]:=rfl
  rw [epl] at *
  simp (disch:=((try simp only [lZ]); omega)) only [aZ,aM,aG37,putA]
  conv=>arg 3; simp only [S.post]
  refine AWP.cut (e':=[.v (.bool false),.fs true (bts exG),.fs true (ogL true exL),.fs true (ogL true exB),.fp true [.v (.int .i64 1),.fs true (mcs true loopP.ms),.fs true (bts loopP.bs),.v (.int .i64 0)],.any,.any,.any,.any,.any,.any,.any,.any,.any,.any,.any,.any,.any,.any,.any,.any,.any,.any,.any,.any,.any,.any,.any,.any,.any,.any,.any,.any,.any,.any,.any,.any,.any,.any,.any,.any,.any,.any,.any,.any]) (H':=[]) (Cut.of' 0 rfl (Nat.le_refl _) (by simp [FzB]) (fzL_allS ?_)) ?_
  · simp [zZ,blkAt,flatA,A.cells,A.one,Lft.one,retA,A.bdL,A.bd,exG,exL,exB,ogL,ogs,ogA,ogC,loopP,mcs,mcA,mcC,bts,btA,btC,rows,ints]
  refine aw_sound ?_
  simp (disch:=((try simp only [lZ]); omega)) only [aZ,aM,aG37]
  refine hyi.use ⟨Ld.refl hpb,ld_slI _ 0 0 1 [10] rfl rfl,trivial⟩ (by rfl) (aret_of ?_)
  simp (disch:=((try simp only [lZ]); omega)) only [aZ,aM,aG37]
  refine hva.use ⟨Ld.refl hpb,ld_slI _ _ _ 1 [10] rfl rfl,Ld.refl (by rfl),trivial⟩ (by rfl) (aret_of ?_)
  simp (disch:=((try simp only [lZ]); omega)) only [aZ,aM,aG37]
  refine hb1.use ⟨Ld.refl hpb,Ld.refl (by rfl),ld_slI _ _ _ 1 [10] rfl rfl,Ld.refl (by rfl),trivial⟩ (by rfl) (aret_of ?_)
  simp (disch:=((try simp only [lZ]); omega)) only [aZ,aM,aG37]
  refine hb2.use ⟨Ld.refl hpb,Ld.refl (by rfl),ld_slI _ _ _ 1 [10] rfl rfl,Ld.refl (by rfl),trivial⟩ (by rfl) (aret_of ?_)
  simp (disch:=((try simp only [lZ]); omega)) only [aZ,aM,aG37]
  refine hap.use ⟨Ld.refl hpb,Ld.refl (by rfl),ld_slI _ _ _ 2 [1,0] rfl rfl,trivial⟩ (by rfl) (aret_of ?_)
  simp (disch:=((try simp only [lZ]); omega)) only [aZ,aM,aG37]
  refine d1.use (ld_all (by simp [zZ,blkAt,flatA,A.cells,A.one,Lft.one,retA,A.bdL,A.bd,rows,ints])) (by rfl) (aret_of ?_)
  simp (disch:=((try simp only [lZ]); omega)) only [aZ,aM,aG37]
  refine d2.use (ld_all (by simp [zZ,blkAt,flatA,A.cells,A.one,Lft.one,retA,A.bdL,A.bd,ints])) (by rfl) (aret_of ?_)
  simp (disch:=((try simp only [lZ]); omega)) only [aZ,aM,aG37,List.getD_cons_zero,List.getD_cons_succ,List.length_cons,List.length_nil,Int.natCast_add,Int.natCast_zero,Int.natCast_one]
  refine d3.use (ld_all (by simp [zZ,blkAt,flatA,A.cells,A.one,Lft.one,retA,A.bdL,A.bd,ints])) (by rfl) (aret_of ?_)
  simp (disch:=((try simp only [lZ]); omega)) only [aZ,aM,aG37,r_law37_awake,List.getD_cons_zero,List.getD_cons_succ,List.length_cons,List.length_nil,Int.natCast_add,Int.natCast_zero,Int.natCast_one]
  exact post_v ⟨rfl,rfl⟩
def chN (L : List (List Og)) : Int:=if 256 < prd L then 257 else prd L
theorem refChoices_vr {u : Bool} (L : List (List Og)) (hl : L.length≤1000) (hb : ∀ l∈L,l.length≤100) : VR P false n_ref37_Choices [.fs u (ogL u L)] [] (isR (.v (.int .i64 (chN L)))):=by
  refine vr_ref37_Choices (by simp) (.inr rfl) fun _ _=>?_
  simp (disch:=((try simp only [lZ]); omega)) only [aZ,aM,aG37,s_ref37_Choices,v_ref37_Choices]
  refine AWP.loopP g_ref37_Choices_0 (fun k : Nat=>k≤L.length∧prd (L.take k)≤256) (fun k=>[(1,.v (.int .i64 0)),(2,.v (.int .i64 (prd (L.take k)))),(3,.v (.int .i64 k))]) (fun _=>[]) (fun k=>L.length - k) 0 ⟨by omega,by simp [prd]⟩ ?_ ?_
  · exact Cut.fg (by simp (disch:=first | omega | simp (disch:=omega) only [aG,aM,aG37]) only [fZ,aM,aG37,List.take_zero,show ((prd [] : Nat) : Int)=1 from rfl,fgl_nil,fgl_cons,or_true,true_or])
  rintro k ⟨hk,hp⟩
  by_cases hkt : k < L.length
  · have hs:=prd_succ L k hkt
    have hlk:=hb _ (mem_get [] hkt)
    have h1:=Nat.mul_le_mul hp (show max 1 (L.getD k []).length≤100 by omega)
    by_cases h1' : ((L.getD k []).length : Int) > 1
    · have h2 : ((prd (L.take k) : Nat) : Int)*((L.getD k []).length : Int)=((prd (L.take (k+1)) : Nat) : Int):=by rw [hs,Int.natCast_mul]; congr 1; omega
      have h3 : ((prd (L.take k) : Nat) : Int)*((L.getD k []).length : Int)≤25600:=by rw [h2,hs]; omega
      have h4 : 0≤((prd (L.take k) : Nat) : Int)*((L.getD k []).length : Int):=by rw [h2]; omega
      by_cases hm : ((prd (L.take (k+1)) : Nat) : Int) > 256
      · have:=prd_take L (k+1)
        rw [show chN L=257 from if_pos (show 256 < prd L by omega)]
        simp (disch:=((try simp only [lZ]); omega)) only [aZ,aM,aG37,decide_eq_true h1',h2,decide_eq_true hm,r_ref37_Choices]
        exact post_v ⟨rfl,rfl⟩
      · simp (disch:=((try simp only [lZ]); omega)) only [aZ,aM,aG37,decide_eq_true h1',h2,decide_eq_false hm]
        refine ⟨k+1,⟨by omega,by omega⟩,by omega,?_⟩
        exact Cut.fg (by simp (disch:=first | omega | simp (disch:=omega) only [aG,aM,aG37]) only [fZ,aM,aG37,fgl_nil,fgl_cons,or_true,true_or])
    · have e : prd (L.take (k+1))=prd (L.take k):=by rw [hs,show max 1 (L.getD k []).length=1 by omega,Nat.mul_one]
      simp (disch:=((try simp only [lZ]); omega)) only [aZ,aM,aG37,decide_eq_false h1',decide_eq_false (show ¬ ((prd (L.take k) : Nat) : Int) > 256 by omega)]
      refine ⟨k+1,⟨by omega,by omega⟩,by omega,?_⟩
      exact Cut.fg (by simp (disch:=first | omega | simp (disch:=omega) only [aG,aM,aG37]) only [fZ,aM,aG37,e,fgl_nil,fgl_cons,or_true,true_or])
  have hke : k=L.length:=by omega
  subst hke
  rw [List.take_length] at hp
  rw [show chN L=prd L from if_neg (by omega)]
  simp (disch:=((try simp only [lZ]); omega)) only [aZ,aM,aG37,List.take_length,r_ref37_Choices]
  exact post_v ⟨rfl,rfl⟩
theorem rows37b_vr {w : Bool} (r : Mc) : VR P false n_law37_rows [.fs w (rows w r)] [] (fun x G=>G=[]∧∃ b : Bool,x=.v (.bool b)∧(b=true→rwP r)):=by
  refine vr_law37_rows (by simp) (.inr rfl) fun _ _=>?_
  by_cases h1 : (r.length : Int) > 30
  · simp (disch:=((try simp only [lZ]); omega)) only [aZ,aM,aG37,s_law37_rows,v_law37_rows,decide_eq_true h1,r_law37_rows]
    exact post_v ⟨rfl,_,rfl,by simp⟩
  simp (disch:=((try simp only [lZ]); omega)) only [aZ,aM,aG37,s_law37_rows,v_law37_rows,decide_eq_false h1]
  refine AWP.loopP g_law37_rows_0 (fun k : Nat=>k≤r.length∧∀ i,i < k→(r.getD i []).length≤10) (fun k=>[(1,.v (.bool false)),(2,.v (.int .i64 k))]) (fun _=>[]) (fun k=>r.length - k) 0 ⟨by omega,by omega⟩ ?_ ?_
  · exact Cut.fg (by simp (disch:=first | omega | simp (disch:=omega) only [aG,aM,aG37]) only [fZ,aM,aG37,fgl_nil,fgl_cons,or_true,true_or])
  rintro k ⟨hk,hr⟩
  by_cases hlt : k < r.length
  · by_cases h2 : ((r.getD k []).length : Int) > 10
    · simp (disch:=((try simp only [lZ]); omega)) only [aZ,aM,aG37,decide_eq_true h2,r_law37_rows]
      exact post_v ⟨rfl,_,rfl,by simp⟩
    · simp (disch:=((try simp only [lZ]); omega)) only [aZ,aM,aG37,decide_eq_false h2]
      refine ⟨k+1,⟨by omega,fun i hi=>(Nat.lt_succ_iff_lt_or_eq.1 hi).elim (hr i) fun h=>by rw [h]; omega⟩,by omega,?_⟩
      exact Cut.fg (by simp (disch:=first | omega | simp (disch:=omega) only [aG,aM,aG37]) only [fZ,aM,aG37,fgl_nil,fgl_cons,or_true,true_or])
  · have hke : k=r.length:=by omega
    simp (disch:=((try simp only [lZ]); omega)) only [aZ,aM,aG37,decide_eq_false (show ¬ (k : Int) < r.length by omega),r_law37_rows]
    refine post_v ⟨rfl,_,rfl,fun _=>⟨by omega,fun x hx=>?_⟩⟩
    obtain ⟨i,hi,rfl⟩:=get_mem [] hx
    exact hr i (by omega)
theorem rows_c {m : Mc} (r : A) (G : List Blk) (h : G=[]∧∃ b : Bool,r=.v (.bool b)∧(b=true→rwP m)) : G=[]∧(r.cl && r.bd 0)=true:=by
  obtain ⟨rfl,b,rfl,_⟩:=h; exact ⟨rfl,rfl⟩
structure Light (p : Pl) (L : List (List Og)) (fd : List Int) (gs : List Bt) : Prop where
  hm : p.ms.length≤30
  hb : p.bs.length≤60
  hL : L.length≤40
  hf : fd.length≤40
  hg : gs.length≤60
  hr : ∀ i,i < p.ms.length→rwP (p.ms.getD i [])
  ho : ∀ i,i < L.length→(L.getD i []).length≤10∧∀ k,k < (L.getD i []).length→rwP ((L.getD i []).getD k og0).r
def caseA (w v u a b : Bool) (p : Pl) (L : List (List Og)) (fd : List Int) (gs : List Bt) : A:=.agg [.v (.int .i64 p.mat),.fs w (mcs w p.ms),.fs v (bts p.bs),.v (.int .i64 p.fd),.fs u (ogL u L),.fs a (ints fd),.fs b (bts gs)]
theorem rw_step {m : List Mc} {k : Nat} (h : ∀ i,i < k→rwP (m.getD i [])) (hk : rwP (m.getD k [])) : ∀ i,i < k+1→rwP (m.getD i []) :=
  fun i hi=>(Nat.lt_succ_iff_lt_or_eq.1 hi).elim (h i) fun e=>e▸hk
set_option maxHeartbeats 4000000 in
theorem light37_vr {w v u a b : Bool} (p : Pl) (L : List (List Og)) (fd : List Int) (gs : List Bt) : VR P false n_law37_light [caseA w v u a b p L fd gs] [] (fun x G=>G=[]∧∃ y : Bool,x=.v (.bool y)∧(y=true→Light p L fd gs)):=by
  refine vr_law37_light (by simp) (.inr rfl) fun _ _=>?_
  unfold caseA
  by_cases c0 : (p.ms.length : Int) > 30
  · simp (disch:=((try simp only [lZ]); omega)) only [aZ,aM,aG37,s_law37_light,v_law37_light,decide_eq_true c0,r_law37_light]
    exact post_v ⟨rfl,_,rfl,by simp⟩
  by_cases c1 : (p.bs.length : Int) > 60
  · simp (disch:=((try simp only [lZ]); omega)) only [aZ,aM,aG37,s_law37_light,v_law37_light,decide_eq_false c0,decide_eq_true c1,r_law37_light]
    exact post_v ⟨rfl,_,rfl,by simp⟩
  by_cases c2 : (L.length : Int) > 40
  · simp (disch:=((try simp only [lZ]); omega)) only [aZ,aM,aG37,s_law37_light,v_law37_light,decide_eq_false c0,decide_eq_false c1,decide_eq_true c2,r_law37_light]
    exact post_v ⟨rfl,_,rfl,by simp⟩
  by_cases c3 : (fd.length : Int) > 40
  · simp (disch:=((try simp only [lZ]); omega)) only [aZ,aM,aG37,s_law37_light,v_law37_light,decide_eq_false c0,decide_eq_false c1,decide_eq_false c2,decide_eq_true c3,r_law37_light]
    exact post_v ⟨rfl,_,rfl,by simp⟩
  by_cases c4 : (gs.length : Int) > 60
  · simp (disch:=((try simp only [lZ]); omega)) only [aZ,aM,aG37,s_law37_light,v_law37_light,decide_eq_false c0,decide_eq_false c1,decide_eq_false c2,decide_eq_false c3,decide_eq_true c4,r_law37_light]
    exact post_v ⟨rfl,_,rfl,by simp⟩
  simp (disch:=((try simp only [lZ]); omega)) only [aZ,aM,aG37,s_law37_light,v_law37_light,decide_eq_false c0,decide_eq_false c1,decide_eq_false c2,decide_eq_false c3,decide_eq_false c4]
  refine AWP.loopP g_law37_light_0 (fun k : Nat=>k≤p.ms.length∧∀ i,i < k→rwP (p.ms.getD i [])) (fun k=>[(1,.v (.bool false)),(3,.v (.int .i64 k))]) (fun _=>[]) (fun k=>p.ms.length - k) 0 ⟨by omega,by omega⟩ ?_ ?_
  · exact Cut.fg (by simp (disch:=first | omega | simp (disch:=omega) only [aG,aM,aG37]) only [fZ,aM,aG37,fgl_nil,fgl_cons,or_true,true_or])
  rintro k ⟨hk,hr⟩
  by_cases hlt : k < p.ms.length
  · simp (disch:=((try simp only [lZ]); omega)) only [aZ,aM,aG37]
    refine (rows37b_vr _).useE (LdL.refl (by simp (disch:=first | omega | simp (disch:=omega) only [aG,aM,aG37]) only [fZ,aM,aG37])) rows_c ?_
    rintro _ ⟨-,y,rfl,hy⟩
    refine aret_of ?_
    cases y
    · simp (disch:=((try simp only [lZ]); omega)) only [aZ,aM,aG37,r_law37_light]
      exact post_v ⟨rfl,_,rfl,by simp⟩
    · simp (disch:=((try simp only [lZ]); omega)) only [aZ,aM,aG37]
      refine ⟨k+1,⟨by omega,rw_step hr (hy rfl)⟩,by omega,?_⟩
      exact Cut.fg (by simp (disch:=first | omega | simp (disch:=omega) only [aG,aM,aG37]) only [fZ,aM,aG37,fgl_nil,fgl_cons,or_true,true_or])
  have hke : k=p.ms.length:=by omega
  subst hke
  simp (disch:=((try simp only [lZ]); omega)) only [aZ,aM,aG37]
  refine AWP.loopP g_law37_light_1 (fun k : Nat=>k≤L.length∧∀ i,i < k→(L.getD i []).length≤10∧∀ k,k < (L.getD i []).length→rwP ((L.getD i []).getD k og0).r) (fun k=>[(1,.v (.bool false)),(4,.v (.int .i64 k))]) (fun _=>[]) (fun k=>L.length - k) 0 ⟨by omega,by omega⟩ ?_ ?_
  · exact Cut.fg (by simp (disch:=first | omega | simp (disch:=omega) only [aG,aM,aG37]) only [fZ,aM,aG37,fgl_nil,fgl_cons,or_true,true_or])
  rintro k ⟨hk,ho⟩
  by_cases hlt : k < L.length
  · by_cases c6 : ((L.getD k []).length : Int) > 10
    · simp (disch:=((try simp only [lZ]); omega)) only [aZ,aM,aG37,decide_eq_true c6,r_law37_light]
      exact post_v ⟨rfl,_,rfl,by simp⟩
    simp (disch:=((try simp only [lZ]); omega)) only [aZ,aM,aG37,decide_eq_false c6]
    refine AWP.loopP g_law37_light_2 (fun j : Nat=>j≤(L.getD k []).length∧∀ i,i < j→rwP ((L.getD k []).getD i og0).r) (fun j=>[(1,.v (.bool false)),(5,.v (.int .i64 j))]) (fun _=>[]) (fun j=>(L.getD k []).length - j) 0 ⟨by omega,by omega⟩ ?_ ?_
    · exact Cut.fg (by simp (disch:=first | omega | simp (disch:=omega) only [aG,aM,aG37]) only [fZ,aM,aG37,fgl_nil,fgl_cons,or_true,true_or])
    rintro j ⟨hj,hw⟩
    by_cases hjt : j < (L.getD k []).length
    · simp (disch:=((try simp only [lZ]); omega)) only [aZ,aM,aG37]
      refine (rows37b_vr _).useE (LdL.refl (by simp (disch:=first | omega | simp (disch:=omega) only [aG,aM,aG37]) only [fZ,aM,aG37])) rows_c ?_
      rintro _ ⟨-,y,rfl,hy⟩
      refine aret_of ?_
      cases y
      · simp (disch:=((try simp only [lZ]); omega)) only [aZ,aM,aG37,r_law37_light]
        exact post_v ⟨rfl,_,rfl,by simp⟩
      · simp (disch:=((try simp only [lZ]); omega)) only [aZ,aM,aG37]
        refine ⟨j+1,⟨by omega,fun i hi=>(Nat.lt_succ_iff_lt_or_eq.1 hi).elim (hw i) fun e=>e▸hy rfl⟩,by omega,?_⟩
        exact Cut.fg (by simp (disch:=first | omega | simp (disch:=omega) only [aG,aM,aG37]) only [fZ,aM,aG37,fgl_nil,fgl_cons,or_true,true_or])
    have hje : j=(L.getD k []).length:=by omega
    simp (disch:=((try simp only [lZ]); omega)) only [aZ,aM,aG37,decide_eq_false (show ¬ (j : Int) < (L.getD k []).length by omega)]
    refine ⟨k+1,⟨by omega,fun i hi=>(Nat.lt_succ_iff_lt_or_eq.1 hi).elim (ho i) fun e=>by rw [e]; exact ⟨by omega,fun q hq=>hw q (by omega)⟩⟩,by omega,?_⟩
    exact Cut.fg (by simp (disch:=first | omega | simp (disch:=omega) only [aG,aM,aG37]) only [fZ,aM,aG37,fgl_nil,fgl_cons,or_true,true_or])
  have hke : k=L.length:=by omega
  subst hke
  have hL : Light p L fd gs:=⟨by omega,by omega,by omega,by omega,by omega,hr,ho⟩
  simp (disch:=((try simp only [lZ]); omega)) only [aZ,aM,aG37]
  refine AWP.loopP g_law37_light_3 (fun s : Nat×Nat=>s.1≤p.bs.length∧16≤s.2∧s.2≤16+16*s.1) (fun s=>[(6,.v (.int .i64 s.2)),(8,.v (.int .i64 s.1))]) (fun _=>[]) (fun s=>p.bs.length - s.1) (0,16) ⟨by simp only; omega,by simp only; omega,by simp only; omega⟩ ?_ ?_
  · exact Cut.fg (by simp (disch:=first | omega | simp (disch:=omega) only [aG,aM,aG37]) only [fZ,aM,aG37,fgl_nil,fgl_cons,or_true,true_or])
  rintro ⟨k,y⟩ ⟨hk,hy1,hy2⟩
  simp only at hk hy1 hy2
  by_cases hlt : k < p.bs.length
  · obtain ⟨z,hz,hz2⟩ : ∃ z : Nat,max 0 (min (p.bs.getD k b0).ln 16)=(z : Int)∧z≤16:=⟨(max 0 (min (p.bs.getD k b0).ln 16)).toNat,by omega,by omega⟩
    simp (disch:=((try simp only [lZ]); omega)) only [aZ,aM,aG37,hz]
    refine ⟨(k+1,y+z),⟨by simp only; omega,by simp only; omega,by simp only; omega⟩,by simp only; omega,?_⟩
    exact Cut.fg (by simp (disch:=first | omega | simp (disch:=omega) only [aG,aM,aG37]) only [fZ,aM,aG37,fgl_nil,fgl_cons,or_true,true_or])
  have hke : k=p.bs.length:=by omega
  subst hke
  simp (disch:=((try simp only [lZ]); omega)) only [aZ,aM,aG37]
  refine AWP.loopP g_law37_light_4 (fun s : Nat×Nat=>s.1≤fd.length∧s.2≤1073741824*s.1) (fun s=>[(1,.v (.bool false)),(7,.v (.int .i64 s.2)),(9,.v (.int .i64 s.1))]) (fun _=>[]) (fun s=>fd.length - s.1) (0,0) ⟨by simp only; omega,by simp only; omega⟩ ?_ ?_
  · exact Cut.fg (by simp (disch:=first | omega | simp (disch:=omega) only [aG,aM,aG37]) only [fZ,aM,aG37,fgl_nil,fgl_cons,or_true,true_or])
  rintro ⟨k,g⟩ ⟨hk,hg⟩
  simp only at hk hg
  by_cases hlt : k < fd.length
  · by_cases d1 : fd.getD k 0 < 0
    · simp (disch:=((try simp only [lZ]); omega)) only [aZ,aM,aG37,decide_eq_true d1,r_law37_light]
      exact post_v ⟨rfl,_,rfl,fun _=>hL⟩
    by_cases d2 : fd.getD k 0 > 1073741824
    · simp (disch:=((try simp only [lZ]); omega)) only [aZ,aM,aG37,decide_eq_false d1,decide_eq_true d2,r_law37_light]
      exact post_v ⟨rfl,_,rfl,fun _=>hL⟩
    obtain ⟨z,hz⟩ : ∃ z : Nat,fd.getD k 0=(z : Int):=⟨(fd.getD k 0).toNat,by omega⟩
    rw [hz] at d1 d2
    simp (disch:=((try simp only [lZ]); omega)) only [aZ,aM,aG37,hz,decide_eq_false d1,decide_eq_false d2]
    refine ⟨(k+1,g+z),⟨by simp only; omega,by simp only; omega⟩,by simp only; omega,?_⟩
    exact Cut.fg (by simp (disch:=first | omega | simp (disch:=omega) only [aG,aM,aG37]) only [fZ,aM,aG37,fgl_nil,fgl_cons,or_true,true_or])
  have hke : k=fd.length:=by omega
  subst hke
  simp (disch:=((try simp only [lZ]); omega)) only [aZ,aM,aG37]
  refine (refChoices_vr L (by omega) fun l hl=>?_).same (by simp (disch:=first | omega | simp (disch:=omega) only [aG,aM,aG37]) only [fZ,aM,aG37]) rfl (aret_of ?_)
  · obtain ⟨i,hi,rfl⟩:=get_mem [] hl
    exact Nat.le_trans (ho i hi).1 (by omega)
  obtain ⟨n,hn,hn2⟩ : ∃ n : Nat,max 1 (min (chN L) 256)=(n : Int)∧n≤256:=⟨(max 1 (min (chN L) 256)).toNat,by omega,by omega⟩
  obtain ⟨q,hq,hq2⟩ : ∃ q : Nat,(g : Int)*(y : Int)=(q : Int)∧q≤42949672960*976:=⟨g*y,by rw [Int.natCast_mul],Nat.mul_le_mul (by omega) (by omega)⟩
  obtain ⟨q',hq',hq2'⟩ : ∃ q' : Nat,(q : Int)*(n : Int)=(q' : Int)∧q'≤42949672960*976*256:=⟨q*n,by rw [Int.natCast_mul],Nat.mul_le_mul hq2 hn2⟩
  simp (disch:=((try simp only [lZ]); omega)) only [aZ,aM,aG37,hq,hn,hq',r_law37_light]
  exact post_v ⟨rfl,_,rfl,fun _=>hL⟩
def possR (p : Pl) (L : List (List Og)) : Int:=if pcheck p≠0 then pcheck p else possE p L
set_option maxHeartbeats 1000000 in
theorem refPossible_vr {w v u : Bool} (p : Pl) (L : List (List Og)) : VR P false n_ref37_possible [plA w v p,.fs u (ogL u L)] [] (isR (.v (.int .i64 (possR p L)))):=by
  refine vr_ref37_possible (by simp) (.inr rfl) fun _ _=>?_
  have hck:=ref34Check_vr (w:=w) (v:=v) p
  unfold plA plC at *
  by_cases h0 : pcheck p=0
  case neg =>
    rw [show possR p L=pcheck p from if_pos h0]
    simp (disch:=((try simp only [lZ]); omega)) only [aZ,aM,aG37,s_ref37_possible,v_ref37_possible]
    refine hck.same (by simp (disch:=first | omega | simp (disch:=omega) only [aG,aM,aG37]) only [fZ,aM,aG37]) rfl (aret_of ?_)
    simp (disch:=((try simp only [lZ]); omega)) only [aZ,aM,aG37,decide_eq_true (show ¬ pcheck p=0 from h0),r_ref37_possible]
    exact post_v ⟨rfl,rfl⟩
  have ok:=pcheck_ok h0
  rw [show possR p L=possE p L from if_neg (fun h=>h h0)]
  obtain ⟨m1,m2,m3⟩:=ok.mt1
  have n2:=ok.n2
  rw [m3] at hck ⊢
  by_cases h1 : (L.length : Int)≠p.ms.length
  · have e : possE p L=3:=by unfold possE; rw [if_pos (by omega)]
    rw [e]
    simp (disch:=((try simp only [lZ]); omega)) only [aZ,aM,aG37,s_ref37_possible,v_ref37_possible]
    refine hck.same (by simp (disch:=first | omega | simp (disch:=omega) only [aG,aM,aG37]) only [fZ,aM,aG37]) rfl (aret_of ?_)
    simp (disch:=((try simp only [lZ]); omega)) only [aZ,aM,aG37,h0,decide_eq_true h1,r_ref37_possible]
    exact post_v ⟨rfl,rfl⟩
  have hl : L.length=p.ms.length:=by omega
  simp (disch:=((try simp only [lZ]); omega)) only [aZ,aM,aG37,s_ref37_possible,v_ref37_possible]
  refine hck.same (by simp (disch:=first | omega | simp (disch:=omega) only [aG,aM,aG37]) only [fZ,aM,aG37]) rfl (aret_of ?_)
  simp (disch:=((try simp only [lZ]); omega)) only [aZ,aM,aG37,h0,decide_eq_false h1]
  refine AWP.loopP g_ref37_possible_0 (fun k : Nat=>k≤L.length∧∀ i,i < k→ogsE p i (L.getD i [])=0) (fun k=>[(2,.v (.int .i64 0)),(5,.v (.int .i64 k))]) (fun _=>[]) (fun k=>L.length - k) 0 ⟨by omega,fun i hi=>absurd hi (by omega)⟩ ?_ ?_
  · exact Cut.fg (by simp (disch:=first | omega | simp (disch:=omega) only [aG,aM,aG37]) only [fZ,aM,aG37,fgl_nil,fgl_cons,or_true,true_or])
  rintro k ⟨hk,hg⟩
  by_cases hkt : k < L.length
  case neg =>
    have hke : k=p.ms.length:=by omega
    rw [possE_good hl (fun i hi=>hg i (by omega))]
    simp (disch:=((try simp only [lZ]); omega)) only [aZ,aM,aG37,decide_eq_false (show ¬ (k : Int) < L.length by omega),r_ref37_possible]
    exact post_v ⟨rfl,rfl⟩
  have ew:=possE_bad hl (k:=k) (by omega) hg
  have hgs : ogsE p k (L.getD k [])=0→∀ i,i < k+1→ogsE p i (L.getD i [])=0:=fun h i hi=>by
    by_cases e : i=k
    · subst e; exact h
    · exact hg i (by omega)
  generalize hlk : L.getD k []=l at *
  by_cases h4 : (l.length : Int) > 4
  · have e : ogsE p k l=8:=by unfold ogsE; rw [if_pos (by omega)]
    rw [ew (by omega),e]
    simp (disch:=((try simp only [lZ]); omega)) only [aZ,aM,aG37,hlk,decide_eq_true h4,r_ref37_possible]
    exact post_v ⟨rfl,rfl⟩
  have eo : ogsE p k l=firstE (ogE p k) l:=by unfold ogsE; rw [if_neg (by omega)]
  simp (disch:=((try simp only [lZ]); omega)) only [aZ,aM,aG37,hlk,decide_eq_false h4]
  refine AWP.loopP g_ref37_possible_1 (fun j : Nat=>j≤l.length∧∀ i,i < j→ogE p k (l.getD i og0)=0) (fun j=>[(2,.v (.int .i64 0)),(6,.v (.int .i64 j))]) (fun _=>[]) (fun j=>l.length - j) 0 ⟨by omega,fun i hi=>absurd hi (by omega)⟩ ?_ ?_
  · exact Cut.fg (by simp (disch:=first | omega | simp (disch:=omega) only [aG,aM,aG37]) only [fZ,aM,aG37,fgl_nil,fgl_cons,or_true,true_or])
  rintro j ⟨hj,hgj⟩
  by_cases hjt : j < l.length
  case neg =>
    have hje : j=l.length:=by omega
    subst hje
    have e0 : ogsE p k l=0:=by rw [eo]; exact firstE_none og0 hgj
    simp (disch:=((try simp only [lZ]); omega)) only [aZ,aM,aG37,hlk]
    refine ⟨k+1,⟨by omega,hgs e0⟩,by omega,?_⟩
    exact Cut.fg (by simp (disch:=first | omega | simp (disch:=omega) only [aG,aM,aG37]) only [fZ,aM,aG37,fgl_nil,fgl_cons,or_true,true_or])
  have ej : ogE p k (l.getD j og0)≠0→possE p L=ogE p k (l.getD j og0):=fun h=>by
    have:=firstE_hit og0 hjt hgj h
    rw [ew (by rw [eo,this]; exact h),eo,this]
  have hgn : ogE p k (l.getD j og0)=0→∀ i,i < j+1→ogE p k (l.getD i og0)=0:=fun h i hi=>by
    by_cases e : i=j
    · subst e; exact h
    · exact hgj i (by omega)
  generalize hoj : l.getD j og0=o at *
  have hmc:=ref33Check_vr (w:=u) o.r (p.mt : Int)
  have ho1:=refOuts_vr (w:=u) o.r
  have ho2:=refOuts_vr (w:=w) (p.ms.getD k [])
  unfold mcA mcC at *
  simp (disch:=((try simp only [lZ]); omega)) only [aZ,aM,aG37,hlk,hoj]
  refine hmc.same (by simp (disch:=first | omega | simp (disch:=omega) only [aG,aM,aG37]) only [fZ,aM,aG37]) rfl (aret_of ?_)
  by_cases c1 : mcheck o.r p.mt=0
  case neg =>
    have e : ogE p k o=mcheck o.r p.mt:=by unfold ogE; rw [if_pos c1]
    rw [ej (by omega),e]
    simp (disch:=((try simp only [lZ]); omega)) only [aZ,aM,aG37,decide_eq_true (show ¬ mcheck o.r p.mt=0 from c1),r_ref37_possible]
    exact post_v ⟨rfl,rfl⟩
  simp (disch:=((try simp only [lZ]); omega)) only [aZ,aM,aG37,c1]
  refine ho1.same (by simp (disch:=first | omega | simp (disch:=omega) only [aG,aM,aG37]) only [fZ,aM,aG37]) rfl (aret_of ?_)
  simp (disch:=((try simp only [lZ]); omega)) only [aZ,aM,aG37]
  refine ho2.same (by simp (disch:=first | omega | simp (disch:=omega) only [aG,aM,aG37]) only [fZ,aM,aG37]) rfl (aret_of ?_)
  by_cases c2 : ((outsN o.r : Nat) : Int)≠(outsN (p.ms.getD k []) : Nat)
  · have e : ogE p k o=3:=by unfold ogE; rw [if_neg (by omega),if_pos (by omega)]
    rw [ej (by omega),e]
    simp (disch:=((try simp only [lZ]); omega)) only [aZ,aM,aG37,decide_eq_true c2,r_ref37_possible]
    exact post_v ⟨rfl,rfl⟩
  by_cases c3 : o.c < 0∨o.c > 1000000000000
  · have e : ogE p k o=1:=by unfold ogE; rw [if_neg (by omega),if_neg (by omega),if_pos (by omega)]
    rw [ej (by omega),e]
    rcases c3 with h | h
    · simp (disch:=((try simp only [lZ]); omega)) only [aZ,aM,aG37,hlk,hoj,decide_eq_false c2,decide_eq_true h,r_ref37_possible]
      exact post_v ⟨rfl,rfl⟩
    · simp (disch:=((try simp only [lZ]); omega)) only [aZ,aM,aG37,hlk,hoj,decide_eq_false c2,decide_eq_false (show ¬ o.c < 0 by omega),decide_eq_true h,r_ref37_possible]
      exact post_v ⟨rfl,rfl⟩
  have e : ogE p k o=0:=by unfold ogE; rw [if_neg (by omega),if_neg (by omega),if_neg (by omega)]
  simp (disch:=((try simp only [lZ]); omega)) only [aZ,aM,aG37,hlk,hoj,decide_eq_false c2,decide_eq_false (show ¬ o.c < 0 by omega),decide_eq_false (show ¬ o.c > 1000000000000 by omega)]
  refine ⟨j+1,⟨by omega,hgn e⟩,by omega,?_⟩
  exact Cut.of' 1 rfl (by omega) (by simp (disch:=first | omega | simp (disch:=omega) only [aG,aM,aG37]) only [fZ,aM,aG37]) (by simp (disch:=first | omega | simp (disch:=omega) only [aG,aM,aG37]) only [fZ,aM,aG37])
set_option maxHeartbeats 1000000 in
theorem refApply_vr {u' : Bool} (p : Pl) (L : List (List Og)) (pk : List Int) (hpk : pk.length≤1000000) : VR P false n_ref37_Apply [plA true true p,.fs true (ogL true L),.fs u' (ints pk)] [] (isR (applT (applR p L pk))):=by
  refine vr_ref37_Apply (by simp) (.inr rfl) fun _ _=>?_
  have hpo:=refPossible_vr (w:=true) (v:=true) (u:=true) p L
  unfold plA plC at *
  by_cases h0 : possR p L=0
  case neg =>
    have e : applR p L pk=(pl0,possR p L):=by
      unfold applR possR at *
      by_cases h1 : pcheck p=0
      · rw [if_neg (fun h=>h h1)] at h0 ⊢
        rw [if_pos h0,if_neg (fun h=>h h1)]
      · rw [if_pos h1,if_pos h1]
    rw [e]
    simp (disch:=((try simp only [lZ]); omega)) only [aZ,aM,aG37,s_ref37_Apply,v_ref37_Apply]
    refine hpo.same (by simp (disch:=first | omega | simp (disch:=omega) only [aG,aM,aG37]) only [fZ,aM,aG37]) rfl (aret_of ?_)
    simp (disch:=((try simp only [lZ]); omega)) only [aZ,aM,aG37,decide_eq_true (show ¬ possR p L=0 from h0),r_ref37_Apply]
    exact post0 (applT_err _ _) ⟨rfl,rfl⟩
  have h1 : pcheck p=0:=by
    unfold possR at h0
    by_cases h1 : pcheck p=0
    · exact h1
    · rw [if_pos h1] at h0; exact absurd h0 h1
  have h2 : possE p L=0:=by unfold possR at h0; rw [if_neg (fun h=>h h1)] at h0; exact h0
  have ok:=pcheck_ok h1
  have n2:=ok.n2
  by_cases h3 : (pk.length : Int)≠p.ms.length
  · have e : applR p L pk=(pl0,3):=by unfold applR; rw [if_neg (fun h=>h h1),if_neg (fun h=>h h2),if_pos (by omega)]
    rw [e]
    simp (disch:=((try simp only [lZ]); omega)) only [aZ,aM,aG37,s_ref37_Apply,v_ref37_Apply]
    refine hpo.same (by simp (disch:=first | omega | simp (disch:=omega) only [aG,aM,aG37]) only [fZ,aM,aG37]) rfl (aret_of ?_)
    simp (disch:=((try simp only [lZ]); omega)) only [aZ,aM,aG37,h0,decide_eq_true h3,r_ref37_Apply]
    exact post0 (applT_err _ _) ⟨rfl,rfl⟩
  have hl : L.length=p.ms.length:=(poss_ok h2).1
  have hplen:=pickL_len p L pk
  have hpg:=pickL_get p L pk
  simp (disch:=((try simp only [lZ]); omega)) only [aZ,aM,aG37,s_ref37_Apply,v_ref37_Apply]
  refine hpo.same (by simp (disch:=first | omega | simp (disch:=omega) only [aG,aM,aG37]) only [fZ,aM,aG37]) rfl (aret_of ?_)
  simp (disch:=((try simp only [lZ]); omega)) only [aZ,aM,aG37,h0,decide_eq_false h3]
  refine AWP.cut (Cut.virt 7 1 rfl) ?_
  simp (disch:=((try simp only [lZ]); omega)) only [aZ,aM,aG37]
  refine AWP.loopP g_ref37_Apply_0 (fun k : Nat=>k≤pk.length∧∀ m,m < k→¬ pkB L pk m) (fun k=>[(4,.v (.int .i64 0)),(7,.vs 2 k 1 k),(8,.v (.int .i64 k))]) (fun k=>[(2,⟨k,((pickL p L pk).take k).map mxF⟩)]) (fun k=>pk.length - k) 0 ⟨by omega,fun i hi=>absurd hi (by omega)⟩ ?_ ?_
  · rw [List.take_zero]
    exact Cut.fg (by simp (disch:=first | omega | simp (disch:=omega) only [aG,aM,aG37]) only [fZ,aM,aG37,fgl_nil,fgl_cons,or_true,true_or])
  rintro k ⟨hk,hg⟩
  by_cases hkt : k < pk.length
  · have hgd : pkB L pk k↔(pk.getD k 0 < 0∨max 1 ((L.getD k []).length : Int)≤pk.getD k 0):=Iff.rfl
    have hit : pkB L pk k→applR p L pk=(pl0,1):=fun h=>by
      have:=idxE_hit (p:=pkB L pk) 0 (l:=List.range pk.length) (k:=k) (by simpa using hkt) (fun i hi=>by rw [range_getD (by omega)]; exact hg i hi) (by rw [range_getD hkt]; exact h)
      unfold applR
      rw [if_neg (fun h=>h h1),if_neg (fun h=>h h2),if_neg (by omega),if_pos (by omega)]
    have hgn : ¬ pkB L pk k→∀ m,m < k+1→¬ pkB L pk m:=fun h m hm=>by
      by_cases e : m=k
      · subst e; exact h
      · exact hg m (by omega)
    have hkl : ((pickL p L pk).take k).length=k:=by rw [List.length_take]; omega
    have hkm : (((pickL p L pk).take k).map mxF).length=k:=by rw [List.length_map]; exact hkl
    have hk2:=take_succ_get' (pickL p L pk) k [] (by omega)
    rw [hpg k (by omega)] at hk2
    have hpm : pickM p L pk k=if (L.getD k []).length=0 then p.ms.getD k [] else ((L.getD k []).getD (pk.getD k 0).toNat og0).r:=rfl
    generalize hlk : L.getD k []=l at *
    generalize hyk : pk.getD k 0=y at *
    have e2 : ((pickL p L pk).take (k+1)).map mxF=((pickL p L pk).take k).map mxF++[mxF (pickM p L pk k)]:=by rw [hk2]; simp
    have e3 : List.take k (((pickL p L pk).take k).map mxF)++[A.fs true (rows true (pickM p L pk k))]=((pickL p L pk).take (k+1)).map mxF:=by rw [e2,List.take_of_length_le (by omega)]; rfl
    by_cases c1 : y < 0
    · rw [hit (hgd.2 (.inl c1))]
      simp (disch:=((try simp only [lZ]); omega)) only [aZ,aM,aG37,hlk,hyk,decide_eq_true c1,r_ref37_Apply]
      exact post0 (applT_err _ _) ⟨rfl,rfl⟩
    by_cases c0 : (l.length : Int)=0
    · rw [if_pos (by omega)] at hpm
      by_cases c2 : y≠0
      · rw [hit (hgd.2 (.inr (by omega)))]
        simp (disch:=((try simp only [lZ]); omega)) only [aZ,aM,aG37,hlk,hyk,decide_eq_false c1,decide_eq_true c0,decide_eq_true c2,r_ref37_Apply]
        exact post0 (applT_err _ _) ⟨rfl,rfl⟩
      simp (disch:=((try simp only [lZ]); omega)) only [aZ,aM,aG37,hlk,hyk,decide_eq_false c1,decide_eq_true c0,decide_eq_false c2,decide_eq_false (show ¬ (l.length : Int) > 0 by omega),hkm]
      refine ⟨k+1,⟨by omega,hgn (fun h=>by rcases hgd.1 h with h | h<;>omega)⟩,by omega,?_⟩
      rw [← hpm,e3]
      exact Cut.of' 3 rfl (by omega) ⟨rfl,by simp (disch:=first | omega | simp (disch:=omega) only [aG,aM,aG37]) only [fZ,aM,aG37],rfl,by simp (disch:=first | omega | simp (disch:=omega) only [aG,aM,aG37]) only [fZ,aM,aG37],rfl,FzL.refl (mxF_bd _ _),trivial⟩ (by simp (disch:=first | omega | simp (disch:=omega) only [aG,aM,aG37]) only [fZ,aM,aG37])
    rw [if_neg (by omega)] at hpm
    by_cases c2 : y≥(l.length : Int)
    · rw [hit (hgd.2 (.inr (by omega)))]
      simp (disch:=((try simp only [lZ]); omega)) only [aZ,aM,aG37,hlk,hyk,decide_eq_false c1,decide_eq_false c0,decide_eq_true c2,decide_eq_true (show (l.length : Int) > 0 by omega),r_ref37_Apply]
      exact post0 (applT_err _ _) ⟨rfl,rfl⟩
    simp (disch:=((try simp only [lZ]); omega)) only [aZ,aM,aG37,hlk,hyk,decide_eq_false c1,decide_eq_false c0,decide_eq_false c2,decide_eq_true (show (l.length : Int) > 0 by omega),hkm]
    refine ⟨k+1,⟨by omega,hgn (fun h=>by rcases hgd.1 h with h | h<;>omega)⟩,by omega,?_⟩
    rw [← hpm,e3]
    exact Cut.of' 3 rfl (by omega) ⟨rfl,by simp (disch:=first | omega | simp (disch:=omega) only [aG,aM,aG37]) only [fZ,aM,aG37],rfl,by simp (disch:=first | omega | simp (disch:=omega) only [aG,aM,aG37]) only [fZ,aM,aG37],rfl,FzL.refl (mxF_bd _ _),trivial⟩ (by simp (disch:=first | omega | simp (disch:=omega) only [aG,aM,aG37]) only [fZ,aM,aG37])
  have hke : k=pk.length:=by omega
  subst hke
  have e : applR p L pk=(pickP p L pk,0):=by
    unfold applR
    rw [if_neg (fun h=>h h1),if_neg (fun h=>h h2),if_neg (by omega),if_neg]
    have:=idxE_none (p:=pkB L pk) 0 (l:=List.range pk.length) fun i hi=>by
      have hi' : i < pk.length:=by simpa using hi
      rw [range_getD hi']; exact hg i hi'
    omega
  rw [e]
  have hta : (pickL p L pk).take pk.length=pickL p L pk:=List.take_of_length_le (by omega)
  rw [hta]
  have hpe : pk.length=p.ms.length:=by omega
  rw [hpe]
  simp (disch:=((try simp only [lZ]); omega)) only [aZ,aM,aG37,r_ref37_Apply]
  exact post0 (r:=applT (pickP p L pk,0)) (Fz.tup ⟨Fz.agg (l:=[.v (.int .i64 p.mat),.vs 2 p.ms.length 1 p.ms.length,.fs true (bts p.bs),.v (.int .i64 p.fd)]) (r:=[.v (.int .i64 p.mat),.fs true (mcs true (pickL p L pk)),.fs true (bts p.bs),.v (.int .i64 p.fd)]) ⟨Fz.refl rfl,Fz.vs (l:=(pickL p L pk).map mxF) (r:=(pickL p L pk).map mxF) (els:=mcs true (pickL p L pk)) (by omega) (by simp (disch:=((try simp only [lZ]); omega)) only [aZ,aM,aG37]) (FzL.refl (mxF_bd _ _)) (by rw [mcs_flat,List.take_of_length_le (by rw [List.length_map]; omega)]) (by rw [mc_len,hplen]) (by rw [List.length_map]; omega),
    Fz.refl (by simp (disch:=first | omega | simp (disch:=omega) only [aG,aM,aG37]) only [fZ,aM,aG37]),Fz.refl rfl,trivial⟩,Fz.refl rfl,trivial⟩) ⟨rfl,rfl⟩
set_option maxHeartbeats 1000000 in
theorem samePl_vr {w v w' v' : Bool} (p : Pl) (hm : p.ms.length≤1000000) (hb : p.bs.length≤1000000) (hr : ∀ m∈p.ms,m.length≤1000000∧∀ x∈m,x.length≤1000000) : VR P false n_ref37_SamePlant [plA w v p,plA w' v' p] [] (isR (.v (.bool true))):=by
  refine vr_ref37_SamePlant (by simp) (.inr rfl) fun _ _=>?_
  unfold plA plC
  simp (disch:=((try simp only [lZ]); omega)) only [aZ,aM,aG37,s_ref37_SamePlant,v_ref37_SamePlant]
  refine AWP.loopP g_ref37_SamePlant_0 (fun k : Nat=>k≤p.bs.length) (fun k=>[(2,.v (.bool false)),(5,.v (.int .i64 k))]) (fun _=>[]) (fun k=>p.bs.length - k) 0 (by omega) ?_ ?_
  · exact Cut.fg (by simp (disch:=first | omega | simp (disch:=omega) only [aG,aM,aG37]) only [fZ,aM,aG37,fgl_nil,fgl_cons,or_true,true_or])
  rintro k hk
  by_cases hkt : k < p.bs.length
  · simp (disch:=((try simp only [lZ]); omega)) only [aZ,aM,aG37]
    refine ⟨k+1,by omega,by omega,?_⟩
    exact Cut.fg (by simp (disch:=first | omega | simp (disch:=omega) only [aG,aM,aG37]) only [fZ,aM,aG37,fgl_nil,fgl_cons,or_true,true_or])
  have hke : k=p.bs.length:=by omega
  subst hke
  simp (disch:=((try simp only [lZ]); omega)) only [aZ,aM,aG37]
  refine AWP.loopP g_ref37_SamePlant_1 (fun k : Nat=>k≤p.ms.length) (fun k=>[(2,.v (.bool false)),(6,.v (.int .i64 k))]) (fun _=>[]) (fun k=>p.ms.length - k) 0 (by omega) ?_ ?_
  · exact Cut.fg (by simp (disch:=first | omega | simp (disch:=omega) only [aG,aM,aG37]) only [fZ,aM,aG37,fgl_nil,fgl_cons,or_true,true_or])
  rintro k hk
  by_cases hkt : k < p.ms.length
  · obtain ⟨q1,q2⟩:=hr _ (mem_get [] hkt)
    generalize hmk : p.ms.getD k []=m at *
    simp (disch:=((try simp only [lZ]); omega)) only [aZ,aM,aG37,hmk]
    refine AWP.loopP g_ref37_SamePlant_2 (fun j : Nat=>j≤m.length) (fun j=>[(2,.v (.bool false)),(7,.v (.int .i64 j))]) (fun _=>[]) (fun j=>m.length - j) 0 (by omega) ?_ ?_
    · exact Cut.fg (by simp (disch:=first | omega | simp (disch:=omega) only [aG,aM,aG37]) only [fZ,aM,aG37,fgl_nil,fgl_cons,or_true,true_or])
    rintro j hj
    by_cases hjt : j < m.length
    · have hi:=ints37_vr (w:=w) (v:=w') (m.getD j []) (m.getD j []) (q2 _ (mem_get [] hjt))
      rw [decide_eq_true rfl] at hi
      simp (disch:=((try simp only [lZ]); omega)) only [aZ,aM,aG37,hmk]
      refine hi.same (by simp (disch:=first | omega | simp (disch:=omega) only [aG,aM,aG37]) only [fZ,aM,aG37]) rfl (aret_of ?_)
      simp (disch:=((try simp only [lZ]); omega)) only [aZ,aM,aG37]
      refine ⟨j+1,by omega,by omega,?_⟩
      exact Cut.fg (by simp (disch:=first | omega | simp (disch:=omega) only [aG,aM,aG37]) only [fZ,aM,aG37,fgl_nil,fgl_cons,or_true,true_or])
    have hje : j=m.length:=by omega
    subst hje
    simp (disch:=((try simp only [lZ]); omega)) only [aZ,aM,aG37,hmk]
    refine ⟨k+1,by omega,by omega,?_⟩
    exact Cut.fg (by simp (disch:=first | omega | simp (disch:=omega) only [aG,aM,aG37]) only [fZ,aM,aG37,fgl_nil,fgl_cons,or_true,true_or])
  have hke : k=p.ms.length:=by omega
  subst hke
  simp (disch:=((try simp only [lZ]); omega)) only [aZ,aM,aG37,r_ref37_SamePlant]
  exact post_v ⟨rfl,rfl⟩
end Go.Proofs.Ytcppaddgclkekaa
namespace Go.Proofs.Ytcppaddgclkekaa
open Go Go.Lft
set_option linter.unusedSimpArgs false
set_option linter.unusedVariables false
def tyOpts : Ty:=(.sl (.sl (.st [(.sl (.sl (.int .i64))),(.int .i64)])))
theorem tyOpts_is : tyOpts.Is Try.prog 26:=by
  unfold tyOpts
  simp only [Ty.Is]
  refine ⟨58,Try.underlying26,by kernel_rfl,by decide,?_⟩
  refine ⟨60,Try.underlying58,by kernel_rfl,by decide,?_⟩
  refine ⟨_,Try.underlying60,by kernel_rfl,?_⟩
  simp only [Ty.IsL,Ty.Is]
  refine ⟨by first | rfl | trivial,by kernel_rfl,?_,?_⟩
  ·
    refine ⟨27,Try.underlying42,by kernel_rfl,by decide,?_⟩
    refine ⟨3,Try.underlying27,by kernel_rfl,by decide,?_⟩
    exact Try.underlying3
  refine ⟨by first | rfl | trivial,by kernel_rfl,?_,?_⟩
  ·
    exact Try.underlying3
  trivial
theorem og_of {ce : List A} (h : (Ty.st [.sl (.sl (.int .i64)),.int .i64]).Sh true ce) : ∃ o : Og,(Ty.st [.sl (.sl (.int .i64)),.int .i64]).pk ce=ogA true o∧True:=by
  simp only [Ty.Sh,Ty.ShL] at h
  obtain ⟨a,_,rfl,h,_,_,rfl,⟨c,rfl,hc⟩,rfl⟩:=h
  obtain ⟨m,h1,h2,h3⟩:=rows_of (w:=true) (ce:=a) (by simp only [Ty.Sh]; exact h)
  obtain ⟨L,rfl,_⟩:=h
  refine ⟨⟨m,c⟩,?_,trivial⟩
  rw [show (Ty.sl (.sl (.int .i64))).pk [A.fs true (L.map (Ty.sl (.int .i64)).pk)]=.fs true (L.map (Ty.sl (.int .i64)).pk) from rfl] at h1
  show A.agg _=A.agg _
  rw [h1]; rfl
theorem ogl_of {ce : List A} (h : (Ty.sl (.st [.sl (.sl (.int .i64)),.int .i64])).Sh true ce) : ∃ l : List Og,(Ty.sl (.st [.sl (.sl (.int .i64)),.int .i64])).pk ce=A.fs true (ogs true l)∧True:=by
  simp only [Ty.Sh] at h
  obtain ⟨L,rfl,hn,h⟩:=h
  obtain ⟨l,h1,h2,h3⟩:=list_of (w:=true) _ (ogA true) _ (fun ce hce=>og_of hce) L (fun ce hce=>by simp only [Ty.Sh]; exact h ce hce)
  exact ⟨l,by show A.fs true _=_; rw [h1]; rfl,trivial⟩
theorem opts_of {es : List A} (h : tyOpts.Sh true es) : ∃ L : List (List Og),tyOpts.pk es=.fs true (ogL true L):=by
  unfold tyOpts at h ⊢
  simp only [Ty.Sh] at h
  obtain ⟨L,rfl,hn,h⟩:=h
  obtain ⟨l,h1,h2,h3⟩:=list_of (w:=true) _ (fun l=>A.fs true (ogs true l)) _ (fun ce hce=>ogl_of hce) L (fun ce hce=>by simp only [Ty.Sh]; exact h ce hce)
  exact ⟨l,by show A.fs true _=_; rw [h1]; rfl⟩
end Go.Proofs.Ytcppaddgclkekaa
namespace Go.Proofs.Ytcppaddgclkekaa
open Go Go.Lft
set_option linter.unusedSimpArgs false
set_option linter.unusedVariables false
attribute [local congr] ob_congr bw_congr ib_congr ck_congr iwA_congr itA_congr aw_congr awp_congr sqA_congr bkA_congr vr_congr gd_congr
theorem light_c37 {p : Pl} {L : List (List Og)} {fd : List Int} {gs : List Bt} (r : A) (G : List Blk) (h : G=[]∧∃ y : Bool,r=.v (.bool y)∧(y=true→Light p L fd gs)) : G=[]∧(r.cl && r.bd 0)=true:=by
  obtain ⟨rfl,b,rfl,_⟩:=h; exact ⟨rfl,rfl⟩
theorem appl_small (p : Pl) (L : List (List Og)) (pk : List Int) : (applR p L pk).1.ms.length≤1000000∧(applR p L pk).1.bs.length≤1000000∧∀ m∈(applR p L pk).1.ms,m.length≤1000000∧∀ x∈m,x.length≤1000000:=by
  have hz : pl0.ms.length≤1000000∧pl0.bs.length≤1000000∧∀ m∈pl0.ms,m.length≤1000000∧∀ x∈m,x.length≤1000000:=⟨by decide,by decide,fun m hm=>absurd hm (by simp [pl0])⟩
  unfold applR
  split
  · exact hz
  rename_i h1
  split
  · exact hz
  rename_i h2
  split
  · exact hz
  rename_i h3
  split
  · exact hz
  rename_i h4
  have h1:=Classical.not_not.1 h1
  have h2:=Classical.not_not.1 h2
  have h3:=Classical.not_not.1 h3
  have ok:=pcheck_ok h1
  have n2:=ok.n2
  have b2:=ok.b2
  have hl:=(poss_ok h2).1
  have hp : PkOk L pk:=pkB_ok (by omega) fun m hm hb=>h4 (by
    by_cases h : 0≤idxE (pkB L pk) (List.range pk.length)
    · exact h
    · exact absurd hb (by
        have:=idxE_neg (p:=pkB L pk) (l:=List.range pk.length) (by omega) m (List.mem_range.2 (by omega))
        exact this))
  refine ⟨by show (pickL p L pk).length≤_; rw [pickL_len]; omega,by show p.bs.length≤_; omega,fun m hm=>?_⟩
  obtain ⟨i,hi,rfl⟩:=get_mem [] (show m∈pickL p L pk from hm)
  rw [pickL_len] at hi
  rw [pickL_get _ _ _ _ hi]
  obtain ⟨q1,q2⟩:=pick_ok ok h2 hp hi
  exact ⟨by omega,fun x hx=>by have:=q2 x hx; omega⟩
set_option maxHeartbeats 1000000 in
theorem setpointApplies_vr (p : Pl) (L : List (List Og)) (pk : List Int) : VR P false n_law37_SetpointApplies [plA true true p,.fs true (ogL true L),.fs true (ints pk)] [] (isR (.v (.bool true))):=by
  refine vr_law37_SetpointApplies (by simp) (.inr rfl) fun _ _=>?_
  have hli:=light37_vr (w:=true) (v:=true) (u:=true) (a:=false) (b:=false) p L [] []
  have haw:=awake37_vr
  unfold caseA at hli
  have hid : ∀ H : List Blk,LdL H [.agg [.v (.int .i64 p.mat),.fs true (mcs true p.ms),.fs true (bts p.bs),.v (.int .i64 p.fd),.fs true (ogL true L),.v (.slice none 0 0),.v (.slice none 0 0)]] [.agg [.v (.int .i64 p.mat),.fs true (mcs true p.ms),.fs true (bts p.bs),.v (.int .i64 p.fd),.fs true (ogL true L),.fs false (ints []),.fs false (bts [])]]:=fun H =>
    ⟨Ld.agg ⟨Ld.refl (by simp (disch:=first | omega | simp (disch:=omega) only [aG,aM,aG37]) only [fZ,aM,aG37]),Ld.refl (by simp (disch:=first | omega | simp (disch:=omega) only [aG,aM,aG37]) only [fZ,aM,aG37]),Ld.refl (by simp (disch:=first | omega | simp (disch:=omega) only [aG,aM,aG37]) only [fZ,aM,aG37]),Ld.refl (by simp (disch:=first | omega | simp (disch:=omega) only [aG,aM,aG37]) only [fZ,aM,aG37]),Ld.refl (by simp (disch:=first | omega | simp (disch:=omega) only [aG,aM,aG37]) only [fZ,aM,aG37]),ld_nilA _,ld_nilA _,trivial⟩,trivial⟩
  by_cases hpk : (pk.length : Int) > 100
  · unfold plA plC at *
    simp (disch:=((try simp only [lZ]); omega)) only [aZ,aM,aG37,s_law37_SetpointApplies,v_law37_SetpointApplies]
    refine hli.useE (hid _) light_c37 ?_
    rintro _ ⟨-,y,rfl,hy⟩
    refine aret_of ?_
    cases y
    · simp (disch:=((try simp only [lZ]); omega)) only [aZ,aM,aG37]
      refine haw.same rfl rfl (aret_of ?_)
      simp (disch:=((try simp only [lZ]); omega)) only [aZ,aM,aG37,r_law37_SetpointApplies]
      exact post_v ⟨rfl,rfl⟩
    · simp (disch:=((try simp only [lZ]); omega)) only [aZ,aM,aG37,decide_eq_true hpk]
      refine haw.same rfl rfl (aret_of ?_)
      simp (disch:=((try simp only [lZ]); omega)) only [aZ,aM,aG37,r_law37_SetpointApplies]
      exact post_v ⟨rfl,rfl⟩
  have h1:=spApply_vr (w:=true) (v:=true) (u:=true) (u':=true) p L pk (by omega)
  have h2:=refApply_vr (u':=true) p L pk (by omega)
  obtain ⟨s1,s2,s3⟩:=appl_small p L pk
  generalize hx : applR p L pk=x at *
  obtain ⟨q,e⟩:=x
  have h3:=samePl_vr (w:=true) (v:=true) (w':=true) (v':=true) q s1 s2 s3
  unfold applT at h1 h2
  unfold plA plC at *
  simp (disch:=((try simp only [lZ]); omega)) only [aZ,aM,aG37,s_law37_SetpointApplies,v_law37_SetpointApplies]
  refine hli.useE (hid _) light_c37 ?_
  rintro _ ⟨-,y,rfl,hy⟩
  refine aret_of ?_
  cases y
  · simp (disch:=((try simp only [lZ]); omega)) only [aZ,aM,aG37]
    refine haw.same rfl rfl (aret_of ?_)
    simp (disch:=((try simp only [lZ]); omega)) only [aZ,aM,aG37,r_law37_SetpointApplies]
    exact post_v ⟨rfl,rfl⟩
  simp (disch:=((try simp only [lZ]); omega)) only [aZ,aM,aG37,decide_eq_false hpk]
  refine h1.same (by simp (disch:=first | omega | simp (disch:=omega) only [aG,aM,aG37]) only [fZ,aM,aG37]) (by simp (disch:=first | omega | simp (disch:=omega) only [aG,aM,aG37]) only [fZ,aM,aG37]) (aret_of ?_)
  simp (disch:=((try simp only [lZ]); omega)) only [aZ,aM,aG37]
  refine h2.same (by simp (disch:=first | omega | simp (disch:=omega) only [aG,aM,aG37]) only [fZ,aM,aG37]) (by simp (disch:=first | omega | simp (disch:=omega) only [aG,aM,aG37]) only [fZ,aM,aG37]) (aret_of ?_)
  simp (disch:=((try simp only [lZ]); omega)) only [aZ,aM,aG37]
  refine h3.same (by simp (disch:=first | omega | simp (disch:=omega) only [aG,aM,aG37]) only [fZ,aM,aG37]) rfl (aret_of ?_)
  simp (disch:=((try simp only [lZ]); omega)) only [aZ,aM,aG37]
  refine haw.same rfl rfl (aret_of ?_)
  simp (disch:=((try simp only [lZ]); omega)) only [aZ,aM,aG37,r_law37_SetpointApplies]
  exact post_v ⟨rfl,rfl⟩
end Go.Proofs.Ytcppaddgclkekaa
