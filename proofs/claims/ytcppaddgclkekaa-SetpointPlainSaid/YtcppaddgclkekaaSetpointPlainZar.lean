/- Lemmas and walks that the proof of SetpointPlain uses. No statement is claimed here. -/
import Derived.Test.YtcppaddgclkekaaSetpointPlainZaq
namespace Go.Proofs.Ytcppaddgclkekaa
open Go Go.Lft
set_option linter.unusedSimpArgs false
set_option linter.unusedVariables false
attribute [local congr] ob_congr bw_congr ib_congr ck_congr iwA_congr itA_congr aw_congr awp_congr sqA_congr bkA_congr vr_congr gd_congr
def tb (n : Nat) (f : Nat→Int) : List Int:=(List.range n).map f
theorem tb_len (n : Nat) (f : Nat→Int) : (tb n f).length=n:=by simp [tb]
theorem tb_get (n : Nat) (f : Nat→Int) (x : Nat) (h : x < n) : (tb n f).getD x 0=f x:=by simp [tb,List.getD_eq_getElem?_getD,h]
theorem tb_ext {n : Nat} {f g : Nat→Int} (h : ∀ x,x < n→f x=g x) : tb n f=tb n g:=List.map_congr_left fun x hx=>h x (List.mem_range.1 hx)
theorem tb_zero (n : Nat) : zeros n=tb n fun _=>0:=by
  refine eq_of_getB 0 (by simp [zeros,tb]) fun x hx=>?_
  rw [zeros_get,tb_get _ _ _ (by simpa [zeros] using hx)]
theorem tb_plus (n : Nat) (f : Nat→Int) (l : List Int) : plusM (tb n f) l=tb n fun x=>f x+l.getD x 0:=by
  refine eq_of_getB 0 (by rw [plusM_len,tb_len,tb_len]) fun x hx=>?_
  rw [plusM_len,tb_len] at hx
  rw [plusM_get _ _ _ (by rw [tb_len]; exact hx),tb_get _ _ _ hx,tb_get _ _ _ hx]
theorem accR_get (mat : Nat) (ct : Nat→List Int) (x : Nat) (hl : ∀ q,(ct q).length=mat∨True) : ∀ k,x < mat→(accR mat ct k).getD x 0=sm k fun q=>(ct q).getD x 0
  | 0,hx=>by simp only [accR,sm]; exact zeros_get _ _
  | k+1,hx=>by
    simp only [accR,sm]
    rw [plusM_get _ _ _ (by rw [accR_len]; exact hx),accR_get mat ct x hl k hx]
theorem sm_part {n k : Nat} {f : Nat→Int} (h : ∀ i,i < n→0≤f i) (hk : k≤n) : sm k f≤sm n f:=by
  induction n with
  | zero => have : k = 0 := by omega
            subst this; exact Int.le_refl _
  | succ n ih =>
    by_cases e : k=n+1
    · rw [e]; exact Int.le_refl _
    · have:=ih (fun i hi=>h i (by omega)) (by omega)
      have:=h n (by omega)
      simp only [sm]; omega
def inM (p : Pl) (s : Sy) (x m : Nat) : Int:=if outsN (p.ms.getD m [])=0 then 0 else (s.bef m).getD x 0
def inB (p : Pl) (s : Sy) (x i : Nat) : Int:=(s.fst i).getD x 0+sm (p.rl i) fun q=>(s.rng i q).getD x 0
def insT (p : Pl) (s : Sy) (x : Nat) : Int:=sm p.ms.length (inM p s x)+sm p.bs.length (inB p s x)
def insL (p : Pl) (s : Sy) : List Int:=tb p.mt (insT p s)
theorem inM_nn {p : Pl} {s : Sy} (h : Gd p s) (x : Nat) : ∀ m,m < p.ms.length→0≤inM p s x m:=fun m hm=>by
  unfold inM; split
  · exact Int.le_refl _
  · exact (h.bl m hm).2 x
theorem inB_nn {p : Pl} {s : Sy} (h : Gd p s) (x : Nat) : ∀ i,i < p.bs.length→0≤inB p s x i:=fun i hi=>by
  unfold inB
  have:=(h.fl i hi).2 x
  have:=sm_nn (n:=p.rl i) (f:=fun q=>(s.rng i q).getD x 0) fun q hq=>(h.rl i hi q hq).2 x
  omega
theorem ins_le {p : Pl} {s : Sy} (h : Gd p s) (x : Nat) : sm p.ms.length (inM p s x)≤befT p s x∧sm p.bs.length (inB p s x)=fstT p s x+rngT p s x:=by
  constructor
  · unfold befT
    have : ∀ n,n≤p.ms.length→sm n (inM p s x)≤sm n fun m=>(s.bef m).getD x 0:=by
      intro n
      induction n with
      | zero=>intro _; exact Int.le_refl _
      | succ n ih =>
        intro hn
        have:=ih (by omega)
        have h1 : inM p s x n≤(s.bef n).getD x 0:=by
          unfold inM; split
          · exact (h.bl n (by omega)).2 x
          · exact Int.le_refl _
        simp only [sm]; omega
    exact this _ (Nat.le_refl _)
  · unfold fstT rngT
    rw [← sm_add]
    exact sm_congr fun i _=>rfl
theorem ins_tot {p : Pl} {s : Sy} (h : Gd p s) (x : Nat) : insT p s x≤tot p s x∧0≤insT p s x:=by
  have h1:=ins_le h x
  have h2:=sm_nn (inM_nn h x)
  have h3:=sm_nn (inB_nn h x)
  unfold insT tot; omega
theorem inside_pm {H : List Blk} {p : Pl} {ad : Ad} {s : Sy} (hp : pcheck p=0) (h : PM H p ad s) (hg : Gd p s) : VR P false n_plant_state_inside [.lp (ad .root).1 0 0] H (fun r H'=>r=.sl H.length 0 1 0 p.mt∧Gr nof H H'∧blkAt H' H.length 0=some (ints (insL p s))):=by
  refine vr_plant_state_inside (by simp) (.inl rfl) fun _ _=>?_
  have ok:=pcheck_ok hp
  obtain ⟨m1,m2,m3⟩:=ok.mt1
  have n1:=ok.n1
  have n2:=ok.n2
  have b2:=ok.b2
  have hr:=h.rt
  unfold rootC slA at hr
  have ltr:=h.lt (c:=.root) rfl
  have bnd:=fun x=>(ins_tot hg x).1
  have tt:=hg.tt
  simp (disch:=((try simp only [lZ]); omega)) only [aZ,aM,s_plant_state_inside,v_plant_state_inside]
  rw [m3] at hr
  refine (empty_ps m2 hr).mono ?_
  rintro r H' ⟨rfl,hH⟩
  rw [hH]
  refine aret_of ?_
  rw [tb_zero]
  simp (disch:=((try simp only [lZ]); omega)) only [aZ,aM,hr]
  refine AWP.loopM g_plant_state_inside_0 (fun k : Nat=>k≤p.ms.length) (fun k=>[(3,.v (.int .i64 k))]) (fun k=>H++[⟨0,ints (tb p.mt fun x=>sm k (inM p s x))⟩]) (fun k=>p.ms.length - k) 0 (by omega) ?_ ?_
  · exact Cut.fg (by simp (disch:=first | omega | simp (disch:=omega) only [aG,aM]) only [fZ,aM,fgl_nil,fgl_cons,or_true,true_or])
  rintro k hk
  by_cases hlt : k < p.ms.length
  · have hP:=h.grow [⟨0,ints (tb p.mt fun x=>sm k (inM p s x))⟩]
    have kb:=hP.get .bef rfl
    simp only [ctn] at kb
    have kl:=befC_len p ad
    have kn:=befC_nth p ad k hlt
    unfold slA at kn
    have hu : usd p (.bm k)=true:=by simpa [usd] using hlt
    have km:=hP.get _ hu
    simp only [ctn] at km
    have hbn:=bin_pm ok hP k (by omega) (by omega)
    rw [Int.toNat_natCast] at hbn
    have hml:=(hg.bl k hlt).1
    simp (disch:=((try simp only [lZ]); omega)) only [aZ,aM,kb,kl,kn]
    refine hbn.mono ?_
    rintro r H' ⟨rfl,hH⟩
    rw [hH]
    refine aret_of ?_
    by_cases hb : binN p k
    · have hz : outsN (p.ms.getD k [])=0:=hb
      rw [decide_eq_true hb]
      simp (disch:=((try simp only [lZ]); omega)) only [aZ,aM]
      refine ⟨k+1,by omega,by omega,?_⟩
      have e : (fun x=>sm (k+1) (inM p s x))=fun x=>sm k (inM p s x):=by funext x; simp only [sm,inM]; rw [if_pos hz]; omega
      rw [e]
      try simp (disch:=((try simp only [lZ]); omega)) only [aZ,aM]
      exact Cut.fg (by simp (disch:=first | omega | simp (disch:=omega) only [aG,aM]) only [fZ,aM,fgl_nil,fgl_cons,or_true,true_or])
    · have hz : ¬ outsN (p.ms.getD k [])=0:=hb
      rw [decide_eq_false hb]
      have ha : blkAt (H++[⟨0,ints (tb p.mt fun x=>sm k (inM p s x))⟩]) H.length 0=some (ints (tb p.mt fun x=>sm k (inM p s x))):=by rw [blkAt_new0]; rfl
      have hadd:=add_sl ha km (fun hc=>by have:=h.lt hu; omega) (by rw [hml,tb_len]) (fun x hx=>by
        rw [tb_len] at hx
        rw [tb_get _ _ _ hx]
        have g1:=(hg.ok.bef k hlt).2 x
        have g2:=sm_part (inM_nn hg x) hk
        have g3:=sm_nn (n:=k) (f:=inM p s x) fun i hi=>inM_nn hg x i (by omega)
        have g4:=sm_nn (inB_nn hg x)
        have hbx:=bnd x
        have:=tt x
        unfold insT at hbx; omega) (by rw [tb_len]; omega)
      rw [tb_len,hml,tb_plus] at hadd
      simp (disch:=((try simp only [lZ]); omega)) only [aZ,aM]
      refine hadd.mono ?_
      rintro r H' hH
      rw [hH]
      refine aret_of ?_
      simp (disch:=((try simp only [lZ]); omega)) only [aZ,aM]
      refine ⟨k+1,by omega,by omega,?_⟩
      have e : (fun x=>sm (k+1) (inM p s x))=fun x=>sm k (inM p s x)+(s.bef k).getD x 0:=by funext x; simp only [sm,inM]; rw [if_neg hz]
      rw [e]
      try simp (disch:=((try simp only [lZ]); omega)) only [aZ,aM]
      exact Cut.fg (by simp (disch:=first | omega | simp (disch:=omega) only [aG,aM]) only [fZ,aM,fgl_nil,fgl_cons,or_true,true_or])
  · have hke : k=p.ms.length:=by omega
    rw [hke]
    simp (disch:=((try simp only [lZ]); omega)) only [aZ,aM,hr]
    have hoff : ∀ c,usd p c=true→¬ one H.length (ad c).1:=fun c hc hf=>by have:=h.lt hc; have : (ad c).1=H.length:=hf; omega
    refine AWP.loopM g_plant_state_inside_1 (fun x : Nat×List Blk=>x.1≤p.bs.length∧PM x.2 p ad s∧Gr nof H x.2∧blkAt x.2 H.length 0=some (ints (tb p.mt fun y=>sm p.ms.length (inM p s y)+sm x.1 (inB p s y)))) (fun x=>[(9,.v (.int .i64 x.1))]) (fun x=>x.2) (fun x=>p.bs.length - x.1) (0,H++[(⟨0,ints (tb p.mt fun x=>sm p.ms.length (inM p s x))⟩ : Blk)]) ⟨by omega,h.grow _,Gr.app _ _,by rw [blkAt_new0]; simp only [sm,Int.add_zero]; rfl⟩ ?_ ?_
    · exact Cut.fg (by simp (disch:=first | omega | simp (disch:=omega) only [aG,aM]) only [fZ,aM,fgl_nil,fgl_cons,or_true,true_or])
    rintro ⟨i,K⟩ ⟨hi,kP,kG,kO⟩
    simp only at hi kP kG kO
    by_cases hlt2 : i < p.bs.length
    · have kb:=kP.get .bel rfl
      simp only [ctn] at kb
      have kl:=belsC_len p ad
      have k0:=belsC_nth0 p ad i hlt2
      have k1:=belsC_nth1 p ad i hlt2
      unfold slA at k0
      have lK:=blkAt_lt kO
      have lbK:=kP.lt (c:=.bel) rfl
      have uf : usd p (.fi i)=true:=by simpa [usd] using hlt2
      have td2 : ((belsC p ad).drop (i*2)).take 2=cvC p ad i:=by
        apply List.ext_getElem?
        intro j
        rw [List.getElem?_take,List.getElem?_drop]
        split
        · rename_i hj; exact flat2_get _ (cvC_len p ad) _ i j hlt2 hj
        · rw [List.getElem?_eq_none (by rw [cvC_len]; omega)]
      have fo:=hg.ok.fst i hlt2
      have P1:=kP.grow [⟨0,cvC p ad i⟩]
      have f1:=P1.get _ uf
      simp only [ctn] at f1
      have O1 : blkAt (K++[(⟨0,cvC p ad i⟩ : Blk)]) H.length 0=_:=(blkAt_app _ _ _ _ lK).trans kO
      have q0 : ∀ x,0≤sm p.ms.length (inM p s x):=fun x=>sm_nn (inM_nn hg x)
      have q1 : ∀ x,0≤sm i (inB p s x):=fun x=>sm_nn fun j hj=>inB_nn hg x j (by omega)
      have q2 : ∀ x,sm (i+1) (inB p s x)≤sm p.bs.length (inB p s x):=fun x=>sm_part (inB_nn hg x) (by omega)
      have q3 : ∀ x,sm p.ms.length (inM p s x)+sm i (inB p s x)+inB p s x i≤1073741824:=fun x=>by
        have e1:=q2 x
        have e2:=bnd x
        have e3:=tt x
        unfold insT at e2
        simp only [sm] at e1; omega
      have a1:=add_sl O1 f1 (fun hc=>by have:=h.lt uf; omega) (by rw [fo.1,tb_len]) (fun x hx=>by
        rw [tb_len] at hx
        rw [tb_get _ _ _ hx]
        have g1:=fo.2 x
        have g2:=q0 x
        have g3:=q1 x
        have g4:=q3 x
        have g5:=inB_nn hg x i hlt2
        omega) (by rw [tb_len]; omega)
      rw [tb_len,fo.1,tb_plus] at a1
      have lP1:=blkAt_lt f1
      have P2 : PM ((K++[(⟨0,cvC p ad i⟩ : Blk)]).set H.length ⟨0,ints (tb p.mt fun x=>(sm p.ms.length (inM p s x)+sm i (inB p s x))+(s.fst i).getD x 0)⟩) p ad s:=P1.gr (Gr.set (F:=one H.length) _ _ _ rfl) hoff
      have G2 : Gr nof H ((K++[(⟨0,cvC p ad i⟩ : Blk)]).set H.length ⟨0,ints (tb p.mt fun x=>(sm p.ms.length (inM p s x)+sm i (inB p s x))+(s.fst i).getD x 0)⟩):=(kG.trans (Gr.app (F:=nof) K _) fun _ _ h=>h).trans (Gr.set (F:=one H.length) _ _ _ rfl) fun z hz hf=>by have : z=H.length:=hf; omega
      have O2 : blkAt ((K++[(⟨0,cvC p ad i⟩ : Blk)]).set H.length ⟨0,ints (tb p.mt fun x=>(sm p.ms.length (inM p s x)+sm i (inB p s x))+(s.fst i).getD x 0)⟩) H.length 0=_:=blkAt_set_same _ _ _ _ (by simp; omega)
      have B2 : blkAt ((K++[(⟨0,cvC p ad i⟩ : Blk)]).set H.length ⟨0,ints (tb p.mt fun x=>(sm p.ms.length (inM p s x)+sm i (inB p s x))+(s.fst i).getD x 0)⟩) K.length 0=some (cvC p ad i):=by
        rw [blkAt_set_ne _ _ _ _ _ (by omega),blkAt_new0]; rfl
      unfold cvC slA at *
      by_cases hrl : 0 < p.rl i
      · rw [if_pos hrl] at *
        have hu : usd p (.re i)=true:=by simp [usd,hlt2,hrl]
        rw [h.zr.2 i] at *
        simp (disch:=((try simp only [lZ]); omega)) only [aZ,aM,kb,kl,td2]
        refine a1.mono ?_
        rintro r H' hH
        rw [← hH] at P2 G2 O2 B2
        clear hH
        refine aret_of ?_
        have h15:=ok.rl hlt2
        have hre:=P2.get _ hu
        rw [h.zr.2 i] at hre
        simp only [ctn] at hre
        have hct : ∀ q,q < p.rl i→blkAt H' (ad (.ri i q)).1 (ad (.ri i q)).2=some (ints (s.rng i q))∧MixOk p.mt (s.rng i q):=fun q hq=>⟨P2.get (.ri i q) (by simp [usd,hlt2,hq]),hg.ok.rng i hlt2 q hq⟩
        have hbt:=btotal_vr hre (by omega) ⟨m1,m2⟩ hct
        simp (disch:=((try simp only [lZ]); omega)) only [aZ,aM,B2]
        refine hbt.mono ?_
        rintro r H2 ⟨rfl,hH2⟩
        have hal:=accR_len p.mt (s.rng i) (p.rl i)
        have O3 : blkAt H2 H.length 0=some (ints (tb p.mt fun x=>(sm p.ms.length (inM p s x)+sm i (inB p s x))+(s.fst i).getD x 0)):=by rw [hH2,blkAt_app _ _ _ _ (blkAt_lt O2)]; exact O2
        have T3 : blkAt H2 H'.length 0=some (ints (accR p.mt (s.rng i) (p.rl i))):=by rw [hH2,blkAt_new0]; rfl
        have P3 : PM H2 p ad s:=by rw [hH2]; exact P2.grow _
        have G3 : Gr nof H H2:=by rw [hH2]; exact G2.trans (Gr.app (F:=nof) H' _) fun _ _ h=>h
        have lO2:=blkAt_lt O2
        clear hH2
        have hac : ∀ x,x < p.mt→(accR p.mt (s.rng i) (p.rl i)).getD x 0=sm (p.rl i) fun q=>(s.rng i q).getD x 0:=fun x hx=>accR_get p.mt (s.rng i) x (fun _=>.inr trivial) _ hx
        have a2:=add_sl O3 T3 (by omega) (by rw [hal,tb_len]) (fun x hx=>by
          rw [tb_len] at hx
          rw [tb_get _ _ _ hx,hac x hx]
          have g1:=fo.2 x
          have g2:=q0 x
          have g3:=q1 x
          have g4:=q3 x
          have g5:=sm_nn (n:=p.rl i) (f:=fun q=>(s.rng i q).getD x 0) fun q hq=>(hg.rl i hlt2 q hq).2 x
          have g6 : inB p s x i=(s.fst i).getD x 0+sm (p.rl i) fun q=>(s.rng i q).getD x 0:=rfl
          rw [g6] at g4
          omega) (by rw [tb_len]; omega)
        rw [tb_len,hal,tb_plus,tb_ext (g:=fun x=>sm p.ms.length (inM p s x)+sm (i+1) (inB p s x)) fun x hx=>by rw [hac x hx]; simp only [sm,inB]; omega] at a2
        refine aret_of ?_
        simp (disch:=((try simp only [lZ]); omega)) only [aZ,aM]
        refine a2.mono ?_
        rintro r H4 hH4
        have I4 : PM H4 p ad s∧Gr nof H H4∧blkAt H4 H.length 0=some (ints (tb p.mt fun x=>sm p.ms.length (inM p s x)+sm (i+1) (inB p s x))):=by
          rw [hH4]
          exact ⟨P3.gr (Gr.set (F:=one H.length) _ _ _ rfl) hoff,G3.trans (Gr.set (F:=one H.length) _ _ _ rfl) fun z hz hf=>by have : z=H.length:=hf; omega,blkAt_set_same _ _ _ _ (blkAt_lt O3)⟩
        clear hH4
        refine aret_of ?_
        simp (disch:=((try simp only [lZ]); omega)) only [aZ,aM]
        refine ⟨(i+1,H4),⟨by simp only; omega,I4⟩,by simp only; omega,?_⟩
        try simp (disch:=((try simp only [lZ]); omega)) only [aZ,aM]
        exact Cut.fg (by simp (disch:=first | omega | simp (disch:=omega) only [aG,aM]) only [fZ,aM,fgl_nil,fgl_cons,or_true,true_or])
      · rw [if_neg hrl] at *
        simp (disch:=((try simp only [lZ]); omega)) only [aZ,aM,kb,kl,td2]
        refine a1.mono ?_
        rintro r H' hH
        rw [← hH] at P2 G2 O2 B2
        clear hH
        refine aret_of ?_
        simp (disch:=((try simp only [lZ]); omega)) only [aZ,aM,B2]
        refine btotal_nil.mono ?_
        rintro r H2 ⟨rfl,hH2⟩
        rw [hH2]
        refine aret_of ?_
        simp (disch:=((try simp only [lZ]); omega)) only [aZ,aM]
        refine add_nil.mono ?_
        rintro r H3 hH3
        rw [hH3]
        have hr0 : p.rl i=0:=by omega
        rw [tb_ext (g:=fun x=>sm p.ms.length (inM p s x)+sm (i+1) (inB p s x)) fun x hx=>by simp only [sm,inB,hr0]; omega] at O2
        refine aret_of ?_
        simp (disch:=((try simp only [lZ]); omega)) only [aZ,aM]
        refine ⟨(i+1,H'),⟨by simp only; omega,P2,G2,O2⟩,by simp only; omega,?_⟩
        try simp (disch:=((try simp only [lZ]); omega)) only [aZ,aM]
        exact Cut.fg (by simp (disch:=first | omega | simp (disch:=omega) only [aG,aM]) only [fZ,aM,fgl_nil,fgl_cons,or_true,true_or])
    · have hie : i=p.bs.length:=by omega
      rw [hie] at kO
      simp (disch:=((try simp only [lZ]); omega)) only [aZ,aM,r_plant_state_inside]
      exact post2 (R:=fun r H'=>r=.sl H.length 0 1 0 p.mt∧Gr nof H H'∧blkAt H' H.length 0=some (ints (insL p s))) ⟨rfl,kG,kO⟩
def posM (x : Int) : Prop:=0 < x
instance : DecidablePred posM:=fun x=>inferInstanceAs (Decidable (0 < x))
theorem inside_m {H : List Blk} {p : Pl} {ad : Ad} {s : Sy} (hp : pcheck p=0) (h : PM H p ad s) (hg : Gd p s) : VR P false n_plant_Plant_Inside [.lp (ad .root).1 0 0] H (fun r H'=>r=.sl H.length 0 1 0 p.mt∧Gr nof H H'∧blkAt H' H.length 0=some (ints (insL p s))):=by
  refine vr_plant_Plant_Inside (by simp) (.inl rfl) fun _ _=>?_
  simp (disch:=((try simp only [lZ]); omega)) only [aZ,aM,s_plant_Plant_Inside,v_plant_Plant_Inside]
  refine (inside_pm hp h hg).mono ?_
  rintro r H' ⟨rfl,hG,hO⟩
  refine aret_of ?_
  simp (disch:=((try simp only [lZ]); omega)) only [aZ,aM,r_plant_Plant_Inside]
  exact post2 (R:=fun r H'=>r=.sl H.length 0 1 0 p.mt∧Gr nof H H'∧blkAt H' H.length 0=some (ints (insL p s))) ⟨rfl,hG,hO⟩
theorem step_m {H : List Blk} {p : Pl} {ad : Ad} {s : Sy} (hp : pcheck p=0) (h : PM H p ad s) (hg : Gd p s) : VR P false n_plant_Plant_Step [.lp (ad .root).1 0 0] H (fun r H'=>r=.v (.int .i64 0)∧∃ ad' : Ad,PM H' p ad' (stpS p s)∧Tr p H ad H' ad'):=by
  refine vr_plant_Plant_Step (by simp) (.inl rfl) fun _ _=>?_
  simp (disch:=((try simp only [lZ]); omega)) only [aZ,aM,s_plant_Plant_Step,v_plant_Plant_Step]
  refine (step_pm hp h hg).mono ?_
  rintro r H' ⟨rfl,hE⟩
  refine aret_of ?_
  simp (disch:=((try simp only [lZ]); omega)) only [aZ,aM,r_plant_Plant_Step]
  exact post2 (R:=fun r H'=>r=.v (.int .i64 0)∧∃ ad' : Ad,PM H' p ad' (stpS p s)∧Tr p H ad H' ad') ⟨rfl,hE⟩
def itS (p : Pl) (s : Sy) : Nat→Sy
  | 0=>s
  | k+1=>stpS p (itS p s k)
theorem Gd.it {p : Pl} (hp : pcheck p=0) {s : Sy} (h : Gd p s) : ∀ k,Gd p (itS p s k)∧(∀ x,tot p (itS p s k) x=tot p s x)∧(itS p s k).hal=s.hal∧(itS p s k).fed=s.fed
  | 0=>⟨h,fun _=>rfl,rfl,rfl⟩
  | k+1=>by
    obtain ⟨h1,h2,h3,h4⟩:=Gd.it hp h k
    obtain ⟨g1,g2,g3,g4⟩:=h1.stp hp
    exact ⟨g1,fun x=>(g2 x).trans (h2 x),g3.trans h3,g4.trans h4⟩
def ovr (fed xs : List Int) : Prop:=∃ i,i < xs.length∧1073741824 < fed.getD i 0+xs.getD i 0
instance (fed xs : List Int) : Decidable (ovr fed xs):=inferInstanceAs (Decidable (∃ i,i < xs.length∧1073741824 < fed.getD i 0+xs.getD i 0))
def fitE (mt : Nat) (fed xs : List Int) : Int:=if xs.length≠mt then 18 else if mixE xs≠0 then 1 else if ovr fed xs then 2 else 0
theorem fits_vr {w : Bool} {mt : Nat} {fed xs : List Int} (h16 : mt≤16) (hf : MixOk mt fed) : VR P false n_plant_state_fits [.fp false [.v (.int .i64 mt),.any,.any,.any,.any,.any,.any,.fs false (ints fed)],.fs w (ints xs)] [] (isR (.v (.int .i64 (fitE mt fed xs)))):=by
  refine vr_plant_state_fits (by simp) (.inr rfl) fun _ _=>?_
  unfold fitE
  simp (disch:=((try simp only [lZ]); omega)) only [aZ,aM,s_plant_state_fits,v_plant_state_fits]
  refine ib_intro (fun h1=>?_) (fun h1=>?_)
  · rw [if_pos (by omega)]
    simp (disch:=((try simp only [lZ]); omega)) only [aZ,aM,r_plant_state_fits]
    exact post_v ⟨rfl,rfl⟩
  have hl : xs.length=mt:=by omega
  rw [if_neg (by omega)]
  simp (disch:=((try simp only [lZ]); omega)) only [aZ,aM]
  refine (valid_vr (w:=w) xs mt).same (by simp (disch:=first | omega | simp (disch:=omega) only [aG,aM]) only [fZ,aM]) rfl (aret_of ?_)
  by_cases h2 : mixE xs=0
  · rw [if_neg (by omega),decide_eq_true (⟨by omega,h2⟩ : (xs.length : Int)=mt∧mixE xs=0)]
    have hb:=mixE_ok.1 h2
    simp (disch:=((try simp only [lZ]); omega)) only [aZ,aM]
    refine AWP.loopP g_plant_state_fits_0 (fun k : Nat=>k≤xs.length∧∀ i,i < k→¬ 1073741824 < fed.getD i 0+xs.getD i 0) (fun k=>[(2,.v (.int .i64 0)),(3,.v (.int .i64 k))]) (fun _=>[]) (fun k=>xs.length - k) 0 ⟨by omega,fun i hi=>by omega⟩ (by refine Cut.of' (0) ?_ (by omega) ?_ ?_<;>simp (disch:=first | omega | simp (disch:=omega) only [aG,aM]) only [fZ,aM]) ?_
    rintro k ⟨hk,hn⟩
    by_cases hlt : k < xs.length
    · have b1:=hb.2 _ (mem_get 0 hlt)
      have b2:=hf.2 k
      have fl:=hf.1
      simp (disch:=((try simp only [lZ]); omega)) only [aZ,aM]
      refine ib_intro (fun h3=>?_) (fun h3=>?_)
      · rw [if_pos ⟨k,hlt,h3⟩]
        simp (disch:=((try simp only [lZ]); omega)) only [aZ,aM,r_plant_state_fits]
        exact post_v ⟨rfl,rfl⟩
      · simp (disch:=((try simp only [lZ]); omega)) only [aZ,aM]
        refine ⟨k+1,⟨by omega,fun i hi=>?_⟩,by omega,(by refine Cut.of' (0) ?_ (by omega) ?_ ?_<;>simp (disch:=first | omega | simp (disch:=omega) only [aG,aM]) only [fZ,aM])⟩
        rcases Nat.lt_succ_iff_lt_or_eq.1 hi with h | rfl
        · exact hn i h
        · exact h3
    · rw [if_neg (by rintro ⟨i,hi,h3⟩; exact hn i (by omega) h3)]
      simp (disch:=((try simp only [lZ]); omega)) only [aZ,aM,r_plant_state_fits]
      exact post_v ⟨rfl,rfl⟩
  · rw [if_pos h2,decide_eq_false (by rintro ⟨_,h⟩; exact h2 h)]
    simp (disch:=((try simp only [lZ]); omega)) only [aZ,aM,r_plant_state_fits]
    exact post_v ⟨rfl,rfl⟩
theorem PM.ldr {H : List Blk} {p : Pl} {ad : Ad} {s : Sy} (ok : POk p) (h : PM H p ad s) (hs : SyOk p s) : Ld H (.lp (ad .root).1 0 0) (.fp false [.v (.int .i64 p.mt),.any,.any,.any,.any,.any,.any,.fs false (ints s.fed)]):=by
  have hr:=h.rt
  unfold rootC slA at hr
  obtain ⟨m1,m2,m3⟩:=ok.mt1
  rw [m3] at hr
  exact Ld.lp (o:=0) hr ⟨Ld.refl rfl,Ld.any,Ld.any,Ld.any,Ld.any,Ld.any,Ld.any,ld_slI H _ _ _ _ hs.fed.1.symm (h.get .fed rfl),trivial⟩ (by simp)
def feedS (p : Pl) (s : Sy) (xs : List Int) : Sy:={s with fed:=plusM s.fed xs,bef:=updF s.bef p.fd.toNat (plusM (s.bef p.fd.toNat) xs)}
def fedS (s : Sy) (xs : List Int) : Sy:={s with fed:=plusM s.fed xs}
theorem fitE_zero {mt : Nat} {fed xs : List Int} (h : fitE mt fed xs=0) : xs.length=mt∧MixOk mt xs:=by
  unfold fitE at h
  split at h
  · cases h
  rename_i h1
  split at h
  · cases h
  rename_i h2
  have hl : xs.length=mt:=by omega
  exact ⟨hl,hl,fun i=>by have:=mixE_get0 (Classical.not_not.1 h2) i; omega⟩
theorem feed_fs {w : Bool} {H : List Blk} {p : Pl} {ad : Ad} {s : Sy} (hp : pcheck p=0) (h : PM H p ad s) (hg : Gd p s) {xs : List Int} (he : fitE p.mt s.fed xs=0) : VR P false n_plant_Plant_Feed [.lp (ad .root).1 0 0,.fs w (ints xs)] H (fun r H'=>r=.v (.int .i64 0)∧PM H' p ad (feedS p s xs)∧Tr p H ad H' ad):=by
  refine vr_plant_Plant_Feed (by simp) (.inl rfl) fun _ _=>?_
  have ok:=pcheck_ok hp
  obtain ⟨m1,m2,m3⟩:=ok.mt1
  have hv:=(fits_vr (w:=w) (xs:=xs) m2 hg.fd)
  rw [he] at hv
  obtain ⟨hl,hxm⟩:=fitE_zero he
  have hfd:=ok.fd
  have ht : p.fd.toNat < p.ms.length:=by omega
  have hu : usd p (.bm p.fd.toNat)=true:=by simpa [usd] using ht
  have hr:=h.rt
  unfold rootC slA at hr
  have ltf:=h.lt (c:=.fed) rfl
  have ltr:=h.lt (c:=.root) rfl
  have nrf:=h.ne (c:=.root) (d:=.fed) rfl rfl (by simp)
  have qf:=h.get .fed rfl
  simp only [ctn] at qf
  have sm1 : Sm s.fed xs:=fun i _=>by have:=hg.fd.2 i; have:=hxm.2 i; omega
  have a1:=add_fs (w:=w) qf (hl.trans hg.fd.1.symm) sm1 (by rw [hg.fd.1]; omega)
  rw [hg.fd.1] at a1
  have P1 : PM (H.set (ad .fed).1 ⟨(ad .fed).2,ints (plusM s.fed xs)⟩) p ad (fedS s xs):=by
    have:=h.put (s':=fedS s xs) .fed rfl fun d hd _=>by
      cases d with
      | fed=>exact absurd rfl hd
      | _=>rfl
    simp only [ctn,fedS] at this
    exact this
  have T1 : Tr p H ad (H.set (ad .fed).1 ⟨(ad .fed).2,ints (plusM s.fed xs)⟩) ad:=Tr.one (c:=.fed) rfl (Gr.set (F:=one (ad .fed).1) _ _ _ rfl)
  have bl:=hg.ok.bef _ ht
  have kr:=P1.rt
  unfold rootC slA at kr
  have kb:=P1.get .bef rfl
  simp only [ctn] at kb
  have kl:=befC_len p ad
  have kn:=befC_nth p ad p.fd.toNat ht
  unfold slA at kn
  have qm:=P1.get _ hu
  simp only [ctn,fedS] at qm
  have sm2 : Sm (s.bef p.fd.toNat) xs:=fun i _=>by have:=bl.2 i; have:=hxm.2 i; omega
  have a2:=add_fs (w:=w) qm (hl.trans bl.1.symm) sm2 (by rw [bl.1]; omega)
  rw [bl.1] at a2
  simp (disch:=((try simp only [lZ]); omega)) only [aZ,aM,s_plant_Plant_Feed,v_plant_Plant_Feed]
  refine hv.use ⟨h.ldr ok hg.ok,Ld.refl (by simp (disch:=first | omega | simp (disch:=omega) only [aG,aM]) only [fZ,aM]),trivial⟩ rfl (aret_of ?_)
  rw [hl] at *
  simp (disch:=((try simp only [lZ]); omega)) only [aZ,aM,hr]
  refine a1.mono ?_
  rintro r H' hH
  rw [hH]
  refine aret_of ?_
  simp (disch:=((try simp only [lZ]); omega)) only [aZ,aM,kr,kb,kl,kn]
  refine a2.mono ?_
  rintro r H2 hH2
  have P2 : PM H2 p ad (feedS p s xs):=by
    have:=P1.put (s':=feedS p s xs) (.bm p.fd.toNat) hu fun d hd _=>by
      cases d with
      | bm m=>simp only [ctn,feedS,fedS]; rw [updF_ne _ _ (fun hc=>hd (by rw [hc]))]
      | _=>rfl
    simp only [ctn,feedS,updF_same] at this
    rw [hH2]; exact this
  have T2 : Tr p H ad H2 ad:=by rw [hH2]; exact T1.trans (Tr.one hu (Gr.set (F:=one (ad (.bm p.fd.toNat)).1) _ _ _ rfl))
  clear hH2
  refine aret_of ?_
  simp (disch:=((try simp only [lZ]); omega)) only [aZ,aM,r_plant_Plant_Feed]
  exact post2 (R:=fun r H'=>r=.v (.int .i64 0)∧PM H' p ad (feedS p s xs)∧Tr p H ad H' ad) ⟨rfl,P2,T2⟩
def hltS (s : Sy) (m : Int) (b : Bool) : Sy:={s with hal:=s.hal.set m.toNat b}
def dnM (a b : List Int) (k : Nat) : List Int:=(List.range a.length).map fun i=>if i < k then a.getD i 0 - b.getD i 0 else a.getD i 0
theorem dnM_len (a b : List Int) (k : Nat) : (dnM a b k).length=a.length:=by simp [dnM]
theorem dnM_get (a b : List Int) (k i : Nat) (h : i < a.length) : (dnM a b k).getD i 0=if i < k then a.getD i 0 - b.getD i 0 else a.getD i 0:=by simp [dnM,List.getD_eq_getElem?_getD,h]
def badT (a b : List Int) (i : Nat) : Prop:=b.getD i 0 < 0∨a.getD i 0 < b.getD i 0
instance (a b : List Int) (i : Nat) : Decidable (badT a b i):=inferInstanceAs (Decidable (_∨_))
def takE (p : Pl) (s : Sy) (m : Int) (xs : List Int) : Int:=if fndE p m≠0 then fndE p m else if xs.length≠p.mt then 18 else if ∃ i,i < xs.length∧badT (s.bef m.toNat) xs i then 1 else 0
def takS (s : Sy) (m : Int) (xs : List Int) : Sy:={s with bef:=updF s.bef m.toNat (dnM (s.bef m.toNat) xs xs.length)}
def chkP (p : Pl) : Int:=if (drainR p).2≠0 then (drainR p).2 else if (drainR p).1=true then 0 else 23
theorem chkP_ok {p : Pl} (h : chkP p=0) : pcheck p=0∧drB p=true:=by
  by_cases hp : pcheck p=0
  · have hd : drainR p=(drB p,0):=by unfold drainR; rw [if_neg (fun hc=>hc hp)]
    unfold chkP at h
    rw [hd] at h
    cases hb : drB p with
    | true=>exact ⟨hp,rfl⟩
    | false=>rw [hb] at h; simp at h
  · have hd : drainR p=(false,pcheck p):=by unfold drainR; rw [if_pos hp]
    unfold chkP at h
    rw [hd] at h
    rw [if_pos hp] at h; exact absurd h hp
theorem plantCheck_vr {w v : Bool} (p : Pl) : VR P false n_plant_check [plA w v p] [] (isR (.v (.int .i64 (chkP p)))):=by
  refine vr_plant_check (by simp) (.inr rfl) fun _ _=>?_
  have hv:=layoutDrains_vr (w:=w) (v:=v) p
  unfold chkP
  unfold plA plC at hv ⊢
  simp (disch:=((try simp only [lZ]); omega)) only [aZ,aM,s_plant_check,v_plant_check]
  refine hv.same (by simp (disch:=first | omega | simp (disch:=omega) only [aG,aM]) only [fZ,aM]) rfl (aret_of ?_)
  generalize drainR p=d at *
  obtain ⟨d1,d2⟩:=d
  simp (disch:=((try simp only [lZ]); omega)) only [aZ,aM]
  refine ib_intro (fun h1=>?_) (fun h1=>?_)
  · rw [if_pos h1]
    simp (disch:=((try simp only [lZ]); omega)) only [aZ,aM,r_plant_check]
    exact post0 (Fz.refl (by simp (disch:=first | omega | simp (disch:=omega) only [aG,aM]) only [fZ,aM])) ⟨rfl,rfl⟩
  rw [if_neg h1]
  cases d1
  · simp (disch:=((try simp only [lZ]); omega)) only [aZ,aM,r_plant_check]
    exact post0 (Fz.refl (by simp (disch:=first | omega | simp (disch:=omega) only [aG,aM]) only [fZ,aM])) ⟨rfl,rfl⟩
  · simp (disch:=((try simp only [lZ]); omega)) only [aZ,aM,r_plant_check]
    exact post0 (Fz.refl (by simp (disch:=first | omega | simp (disch:=omega) only [aG,aM]) only [fZ,aM])) ⟨rfl,rfl⟩
def mxN : Nat→(Nat→Int)→Int
  | 0,_=>0
  | n+1,f=>max (mxN n f) (f n)
def lngP (p : Pl) (k : Nat) : Int:=mxN k fun i=>(p.bs.getD i b0).ln
theorem lng_bd {p : Pl} (ok : POk p) : ∀ k,k≤p.bs.length→0≤lngP p k∧lngP p k≤16
  | 0,_=>by simp [lngP,mxN]
  | k+1,h=>by
    have ih:=lng_bd ok k (by omega)
    have:=ok.bt _ (mem_get b0 (show k < p.bs.length by omega))
    unfold lngP at ih ⊢
    simp only [mxN]
    omega
def hgI (p : Pl) (m : Nat) (h : Int) : Nat→Int
  | 0=>h
  | x+1=>max (hgI p m h x) (heightR p m x).1
def hgO (p : Pl) : Nat→Int
  | 0=>0
  | m+1=>hgI p m (hgO p m) p.mt
def perP (p : Pl) : Int:=lngP p p.bs.length+hgO p p.ms.length
theorem height_ok {p : Pl} (h : chkP p=0) {m x : Nat} (hm : m < p.ms.length) (hx : x < p.mt) : (heightR p m x).2=0∧0≤(heightR p m x).1∧(heightR p m x).1≤1000000:=by
  obtain ⟨hp,hd⟩:=chkP_ok h
  have ok:=pcheck_ok hp
  obtain ⟨m1,m2,m3⟩:=ok.mt1
  have hw : (wayV p x m).2=true:=by
    unfold drB at hd
    rw [List.all_eq_true] at hd
    have h1:=hd m (List.mem_range.2 hm)
    rw [List.all_eq_true] at h1
    exact h1 x (List.mem_range.2 hx)
  unfold heightR
  rw [if_neg (fun hc=>hc hp),if_neg (by omega),if_neg (by omega),Int.toNat_natCast,hw,if_neg (by decide)]
  refine ⟨rfl,?_⟩
  rcases wayR_cases ok (mt:=x) (by omega) (by omega) hm with ⟨k,k1,k2,k3,k4⟩ | ⟨k1,k2⟩
  · have hf:=farR_bd ok (mt:=x) (by omega) (by omega) hm k k2
    have hn:=ok.n2
    have : wayV p x m=(farR p x m k,true):=k4
    rw [this]
    simp only
    omega
  · have : wayV p x m=(0,false):=k2
    rw [this] at hw; cases hw
theorem hgI_bd {p : Pl} (h : chkP p=0) {m : Nat} (hm : m < p.ms.length) {h0 : Int} (hh : 0≤h0∧h0≤1000000) : ∀ x,x≤p.mt→0≤hgI p m h0 x∧hgI p m h0 x≤1000000
  | 0,_=>hh
  | x+1,hx=>by
    have ih:=hgI_bd h hm hh x (by omega)
    have:=(height_ok h hm (x:=x) (by omega)).2
    simp only [hgI]
    omega
theorem hgO_bd {p : Pl} (h : chkP p=0) : ∀ m,m≤p.ms.length→0≤hgO p m∧hgO p m≤1000000
  | 0,_=>by simp [hgO]
  | m+1,hm=>hgI_bd h (by omega) (hgO_bd h m (by omega)) _ (Nat.le_refl _)

theorem VR.fs0 {P : Program} {kp : Bool} {f : Nat} {w : Bool} {l : List A} {H : List Blk} {R : A→List Blk→Prop} (h : ∀ (a : Option Addr) (c : Nat),VR P kp f (.v (.slice a 0 c) :: l) H R) : VR P kp f (.fs w [] :: l) H R:=fun c vs hH hs hr=>by
  obtain ⟨x,xs,rfl,h1,h2⟩:=hr.uncons
  cases h1 with
  | fs0 w a cp=>exact h a cp c _ hH hs (RL.cons (.v _) h2)
  | fs w l b o cp k f e1 e2 e3=>exact h (some ⟨b,o,none⟩) cp c _ hH hs (RL.cons (.v _) h2)
theorem cloneR_vr {w : Bool} (xs : List Int) (h : xs.length≤1000) : VR P false n_slices_Cloneint_int [.fs w (ints xs)] [] (isR (.fs true (ints xs))):=by
  cases xs with
  | nil =>
    refine VR.fs0 fun a c=>?_
    refine vr_slices_Cloneint_int (by simp) (.inr rfl) fun _ _=>?_
    cases a with
    | none =>
      have he : eqsA false (.v (.slice none 0 c)) (.v (.slice none 0 0))=some (.v (.bool true)):=rfl
      simp (disch:=((try simp only [lZ]); omega)) only [aZ,aM,s_slices_Cloneint_int,v_slices_Cloneint_int,r_slices_Cloneint_int,he]
      exact post0 (fz_nil _ _) ⟨rfl,rfl⟩
    | some a =>
      have he : eqsA false (.v (.slice (some a) 0 c)) (.v (.slice none 0 0))=some (.v (.bool false)):=rfl
      have hn : ∀ H size,newsA H size (.v (.slice (some a) 0 c))=some (0,[]):=fun _ _=>rfl
      simp (disch:=((try simp only [lZ]); omega)) only [aZ,aM,s_slices_Cloneint_int,v_slices_Cloneint_int,r_slices_Cloneint_int,he,hn]
      exact post0 (fz_slI 0 _ 0 1 0 [] (by omega) rfl (by simp (disch:=((try simp only [lZ]); omega)) only [aZ,aM]; rfl)) ⟨rfl,rfl⟩
  | cons x xs =>
    refine vr_slices_Cloneint_int (by simp) (.inr rfl) fun _ _=>?_
    have he : eqsA false (.fs w (ints (x :: xs))) (.v (.slice none 0 0))=some (.v (.bool false)):=by simp only [eqsA]; rw [if_neg (by rw [ii_len]; simp)]
    generalize hl : x :: xs=l at *
    simp (disch:=((try simp only [lZ]); omega)) only [aZ,aM,s_slices_Cloneint_int,v_slices_Cloneint_int,r_slices_Cloneint_int,he]
    exact post0 (fz_slI 0 _ 0 1 _ l (by omega) rfl (by simp (disch:=((try simp only [lZ]); omega)) only [aZ,aM])) ⟨rfl,rfl⟩
theorem bts_flat (l : List Bt) : flatA 4 (bts l)=some (l.flatMap btC):=by
  induction l with
  | nil=>rfl
  | cons b l ih =>
    rw [show bts (b :: l)=btA b :: bts l from rfl,flat_cons 4 _ _ (btC b) rfl rfl,ih]; rfl
theorem btC_one (l : List Bt) : (l.flatMap btC).all A.one=true:=by
  rw [List.all_eq_true]
  intro a ha
  obtain ⟨b,_,hb⟩:=List.mem_flatMap.1 ha
  simp only [btC,List.mem_cons,List.not_mem_nil,or_false] at hb
  rcases hb with rfl | rfl | rfl | rfl<;>rfl
theorem btC_len (l : List Bt) : (l.flatMap btC).length=l.length*4:=by
  induction l with
  | nil=>rfl
  | cons b l ih=>rw [List.flatMap_cons,List.length_append,ih]; simp [btC]; omega
theorem btC_bd (n : Nat) (l : List Bt) : A.bdL n (l.flatMap btC)=true:=bdL_mem fun a ha=>by
  obtain ⟨b,_,hb⟩:=List.mem_flatMap.1 ha
  simp only [btC,List.mem_cons,List.not_mem_nil,or_false] at hb
  rcases hb with rfl | rfl | rfl | rfl<;>rfl
theorem cloneT_vr {w : Bool} (xs : List Bt) (h : xs.length≤100000) : VR P false n_slices_Cloneapi_Belt_api_Belt [.fs w (bts xs)] [] (isR (.fs true (bts xs))):=by
  cases xs with
  | nil =>
    refine VR.fs0 fun a c=>?_
    refine vr_slices_Cloneapi_Belt_api_Belt (by simp) (.inr rfl) fun _ _=>?_
    cases a with
    | none =>
      have he : eqsA false (.v (.slice none 0 c)) (.v (.slice none 0 0))=some (.v (.bool true)):=rfl
      simp (disch:=((try simp only [lZ]); omega)) only [aZ,aM,s_slices_Cloneapi_Belt_api_Belt,v_slices_Cloneapi_Belt_api_Belt,r_slices_Cloneapi_Belt_api_Belt,he]
      exact post0 (fz_nil _ _) ⟨rfl,rfl⟩
    | some a =>
      have he : eqsA false (.v (.slice (some a) 0 c)) (.v (.slice none 0 0))=some (.v (.bool false)):=rfl
      have hn : ∀ H size,newsA H size (.v (.slice (some a) 0 c))=some (0,[]):=fun _ _=>rfl
      simp (disch:=((try simp only [lZ]); omega)) only [aZ,aM,s_slices_Cloneapi_Belt_api_Belt,v_slices_Cloneapi_Belt_api_Belt,r_slices_Cloneapi_Belt_api_Belt,he,hn]
      exact post0 (Fz.sl (l:=[]) (r:=[]) (els:=[]) (by omega) (by simp (disch:=((try simp only [lZ]); omega)) only [aZ,aM]) trivial rfl rfl (by simp)) ⟨rfl,rfl⟩
  | cons x xs =>
    refine vr_slices_Cloneapi_Belt_api_Belt (by simp) (.inr rfl) fun _ _=>?_
    have he : eqsA false (.fs w (bts (x :: xs))) (.v (.slice none 0 0))=some (.v (.bool false)):=by simp only [eqsA]; rw [if_neg (by rw [bt_len]; simp)]
    generalize hl : x :: xs=l at *
    have hn : ∀ H,newsA H 4 (.fs w (bts l))=some (l.length,l.flatMap btC):=fun H=>by simp only [newsA,bts_flat,Option.bind_some,btC_one,if_true,bt_len]
    simp (disch:=((try simp only [lZ]); omega)) only [aZ,aM,s_slices_Cloneapi_Belt_api_Belt,v_slices_Cloneapi_Belt_api_Belt,r_slices_Cloneapi_Belt_api_Belt,he,hn]
    exact post0 (Fz.sl (r:=l.flatMap btC) (els:=bts l) (by omega) (by simp (disch:=((try simp only [lZ]); omega)) only [aZ,aM]) (FzL.refl (btC_bd _ _)) (by rw [bts_flat,List.drop_zero,List.take_of_length_le (by rw [btC_len]; omega)]) (bt_len _) (by rw [btC_len]; omega)) ⟨rfl,rfl⟩
def mxF (m : Mc) : A:=.fs true (rows true m)
def mxC (l : List Mc) (n : Nat) : List A:=l.map mxF++List.replicate (n - l.length) nilS
def mxE (l : List Mc) (x : A) (n : Nat) : List A:=l.map mxF++x :: List.replicate (n - (l.length+1)) nilS
theorem mxC_len (l : List Mc) (n : Nat) (h : l.length≤n) : (mxC l n).length=n:=by simp [mxC]; omega
theorem mxE_len (l : List Mc) (x : A) (n : Nat) (h : l.length < n) : (mxE l x n).length=n:=by simp [mxE]; omega
theorem mxC_E (l : List Mc) (n : Nat) (h : l.length < n) : mxC l n=mxE l nilS n:=by
  unfold mxC mxE
  rw [show n - l.length=(n - (l.length+1))+1 by omega,List.replicate_succ]
theorem mxE_nth (l : List Mc) (x : A) (n k : Nat) (h : k=l.length) : nthA (mxE l x n) k=some x:=by
  subst h
  rw [nthA_get]
  unfold mxE
  rw [List.getElem?_append_right (by simp)]; simp
theorem mxE_set (l : List Mc) (x y : A) (n k : Nat) (h : k=l.length) : (mxE l x n).set k y=mxE l y n:=by
  subst h
  unfold mxE
  rw [List.set_append_right _ _ (by simp)]; simp
theorem mxE_spl (l : List Mc) (x y : A) (n k : Nat) (h : k=l.length) : splA (mxE l x n) k [y]=mxE l y n:=by
  rw [spl_one,mxE_set _ _ _ _ _ h]
  unfold mxE; simp; omega
theorem mxE_C (l : List Mc) (m : Mc) (n : Nat) : mxE l (mxF m) n=mxC (l++[m]) n:=by simp [mxE,mxC]
theorem mxF_bd (n : Nat) (l : List Mc) : A.bdL n (l.map mxF)=true:=bdL_mem fun a ha=>by
  obtain ⟨m,_,rfl⟩:=List.mem_map.1 ha
  simp [mxF,A.bd,r_bd]
theorem nil_bd (n k : Nat) : A.bdL n (List.replicate k nilS)=true:=bdL_mem fun a ha=>by
  rw [(List.mem_replicate.1 ha).2]; rfl
theorem mxE_fz (m : Nat) (H : List Blk) (l : List Mc) (x y : A) (n : Nat) (h : Fz m H x y) : FzL m H (mxE l x n) (mxE l y n) :=
  FzL.cat (FzL.refl (mxF_bd _ _)) ⟨h,FzL.refl (nil_bd _ _)⟩
theorem mcs_flat (l : List Mc) : flatA 1 (mcs true l)=some (l.map mxF):=by
  induction l with
  | nil=>rfl
  | cons m l ih =>
    rw [show mcs true (m :: l)=mcA true m :: mcs true l from rfl,flat_cons 1 _ _ [mxF m] rfl rfl,ih]; rfl
theorem copied_vr {w v : Bool} (p : Pl) (hp : pcheck p=0) : VR P false n_plant_copied [plA w v p] [] (isR (plA true true p)):=by
  refine vr_plant_copied (by simp) (.inr rfl) fun _ _=>?_
  have ok:=pcheck_ok hp
  have n2:=ok.n2
  have b2:=ok.b2
  have e0 : repA p.ms.length [nilS]=mxC [] p.ms.length:=by rw [repA_one]; simp [mxC]
  unfold nilS at e0
  unfold plA plC
  simp (disch:=((try simp only [lZ]); omega)) only [aZ,aM,s_plant_copied,v_plant_copied,e0]
  refine AWP.loopP g_plant_copied_0 (fun k : Nat=>k≤p.ms.length) (fun k=>[(4,.v (.int .i64 k))]) (fun k=>[(2,⟨0,mxC (p.ms.take k) p.ms.length⟩)]) (fun k=>p.ms.length - k) 0 (by omega) ?_ ?_
  · rw [List.take_zero]
    exact Cut.fg (by simp (disch:=first | omega | simp (disch:=omega) only [aG,aM]) only [fZ,aM,fgl_nil,fgl_cons,or_true,true_or])
  rintro k hk
  have hkl : (p.ms.take k).length=k:=by simp; omega
  by_cases hlt : k < p.ms.length
  · have mcl:=mxC_len (p.ms.take k) p.ms.length (by omega)
    have mx0:=mxC_E (p.ms.take k) p.ms.length (by omega)
    have mel:=fun x=>mxE_len (p.ms.take k) x p.ms.length (by omega)
    have men:=fun x=>mxE_nth (p.ms.take k) x p.ms.length k hkl.symm
    have mes:=fun x y=>mxE_set (p.ms.take k) x y p.ms.length k hkl.symm
    have mep:=fun x y=>mxE_spl (p.ms.take k) x y p.ms.length k hkl.symm
    have hmo:=ok.mc _ (mem_get [] hlt)
    have hml:=hmo.len
    have hm2:=hmo.m2
    unfold nilS at *
    simp (disch:=((try simp only [lZ]); omega)) only [aZ,aM,mx0,mel]
    refine AWP.cut (Cut.virtB 2 0 k 1 rfl (by rw [← nthA_get]; exact men _)) ?_
    simp (disch:=((try simp only [lZ]); omega)) only [aZ,aM,mes]
    refine AWP.loopP g_plant_copied_1 (fun j : Nat=>j≤(p.ms.getD k []).length) (fun j=>[(10,.v (.int .i64 j))]) (fun j=>[(2,⟨0,mxE (p.ms.take k) (.vs 4 j 1 j) p.ms.length⟩),(4,⟨j,rows true ((p.ms.getD k []).take j)⟩)]) (fun j=>(p.ms.getD k []).length - j) 0 (by omega) ?_ ?_
    · rw [List.take_zero]
      exact Cut.fg (by simp (disch:=first | omega | simp (disch:=omega) only [aG,aM]) only [fZ,aM,fgl_nil,fgl_cons,or_true,true_or])
    rintro j hj
    by_cases hjt : j < (p.ms.getD k []).length
    · have hro:=hmo.row _ (mem_get [] hjt)
      simp (disch:=((try simp only [lZ]); omega)) only [aZ,aM,mel,men]
      refine (cloneR_vr (w:=w) ((p.ms.getD k []).getD j []) (by omega)).same (by simp (disch:=first | omega | simp (disch:=omega) only [aG,aM]) only [fZ,aM]) (by simp (disch:=first | omega | simp (disch:=omega) only [aG,aM]) only [fZ,aM]) (aret_of ?_)
      have ht : List.take j (List.take j (p.ms.getD k []))++[List.getD (p.ms.getD k []) j []]=List.take (j+1) (p.ms.getD k []):=by rw [List.take_take,Nat.min_self,take_succ_get' _ _ _ hjt]
      have hrl : (rows true ((p.ms.getD k []).take j)).length=j:=by rw [r_len,List.length_take]; omega
      simp (disch:=((try simp only [lZ]); omega)) only [aZ,aM,mel,men,mep,hrl,ht]
      refine ⟨j+1,by omega,by omega,?_⟩
      try simp (disch:=((try simp only [lZ]); omega)) only [aZ,aM]
      exact Cut.of' 5 rfl (by omega) (by simp (disch:=first | omega | simp (disch:=omega) only [aG,aM]) only [fZ,aM,fun H=>eq_true (mxE_fz 5 H (p.ms.take k) (.vs 4 (j+1) 1 (j+1)) _ p.ms.length (Fz.refl rfl))]) (by simp (disch:=first | omega | simp (disch:=omega) only [aG,aM]) only [fZ,aM])
    · have hje : j=(p.ms.getD k []).length:=by omega
      subst hje
      rw [List.take_length]
      have hmc : mxE (p.ms.take k) (mxF (p.ms.getD k [])) p.ms.length=mxC (p.ms.take (k+1)) p.ms.length:=by rw [mxE_C,← take_succ_get' _ _ _ hlt]
      simp (disch:=((try simp only [lZ]); omega)) only [aZ,aM]
      refine ⟨k+1,by omega,by omega,?_⟩
      rw [← hmc]
      refine Cut.of' 3 rfl (by omega) ⟨rfl,by simp (disch:=first | omega | simp (disch:=omega) only [aG,aM]) only [fZ,aM],rfl,by simp (disch:=first | omega | simp (disch:=omega) only [aG,aM]) only [fZ,aM],rfl,mxE_fz _ _ _ _ _ _ (fz_vsR 3 _ 4 _ _ _ (by omega) rfl (by simp (disch:=((try simp only [lZ]); omega)) only [aZ,aM])),trivial⟩ (by simp (disch:=first | omega | simp (disch:=omega) only [aG,aM]) only [fZ,aM])
  · have hke : k=p.ms.length:=by omega
    subst hke
    rw [List.take_length]
    simp (disch:=((try simp only [lZ]); omega)) only [aZ,aM]
    refine (cloneT_vr (w:=v) p.bs (by omega)).same (by simp (disch:=first | omega | simp (disch:=omega) only [aG,aM]) only [fZ,aM]) (by simp (disch:=first | omega | simp (disch:=omega) only [aG,aM]) only [fZ,aM]) (aret_of ?_)
    simp (disch:=((try simp only [lZ]); omega)) only [aZ,aM,r_plant_copied]
    have hmx : mxC p.ms p.ms.length=p.ms.map mxF:=by simp [mxC]
    rw [hmx]
    exact post0 (r:=plA true true p) (Fz.agg ⟨Fz.refl rfl,Fz.sl (l:=p.ms.map mxF) (r:=p.ms.map mxF) (els:=mcs true p.ms) (by omega) (by simp (disch:=((try simp only [lZ]); omega)) only [aZ,aM]) (FzL.refl (mxF_bd _ _)) (by rw [mcs_flat,List.drop_zero,List.take_of_length_le (by simp)]) (mc_len _ _) (by simp),Fz.refl (by simp (disch:=first | omega | simp (disch:=omega) only [aG,aM]) only [fZ,aM]),Fz.refl rfl,trivial⟩) ⟨rfl,rfl⟩
def newS (p : Pl) : Sy:={bef:=fun _=>zeros p.mt,fst:=fun _=>zeros p.mt,pos:=fun _=>0,rng:=fun _ _=>zeros p.mt,hal:=List.replicate p.ms.length false,fed:=zeros p.mt}
theorem sm_zero (n : Nat) : sm n (fun _=>(0 : Int))=0:=by
  induction n with
  | zero=>rfl
  | succ n ih=>simp only [sm,ih]; rfl
theorem new_tot (p : Pl) (x : Nat) : tot p (newS p) x=0:=by
  unfold tot befT fstT rngT newS
  simp only [zeros_get,sm_zero]; rfl
theorem Gd.new (p : Pl) : Gd p (newS p) :=
  ⟨fun m _=>⟨(zeros_ok _).1,fun x=>by simp only [newS]; rw [zeros_get]; omega⟩,fun i _=>⟨(zeros_ok _).1,fun x=>by simp only [newS]; rw [zeros_get]; omega⟩,fun i _ q _=>⟨(zeros_ok _).1,fun x=>by simp only [newS]; rw [zeros_get]; omega⟩,
    fun i _ h=>h,by simp [newS],zeros_ok _,fun x=>by rw [new_tot]; omega⟩
def usK (p : Pl) (k b : Nat) : Pc→Bool
  | .root=>true | .bef=>true | .bel=>true | .hal=>true | .fed=>true
  | .bm m=>decide (m < k)
  | .fi i=>decide (i < b)
  | .re i=>decide (i < b) && decide (0 < p.rl i)
  | .ri i q=>decide (i < b) && decide (q < p.rl i)
theorem usK_all (p : Pl) : usK p p.ms.length p.bs.length=usd p:=by funext c; cases c<;>rfl
def befK (p : Pl) (k : Nat) (ad : Ad) : List A:=(List.range k).map fun m=>slA (ad (.bm m)) p.mt
def belsK (p : Pl) (b : Nat) (ad : Ad) : List A:=(List.range b).flatMap (cvC p ad)
def rootK (p : Pl) (k b : Nat) (ad : Ad) : List A:=[.v (.int .i64 p.mt),.fs true (mcs true p.ms),.fs true (bts p.bs),.v (.int .i64 p.fd),.vs (ad .bef).1 (ad .bef).2 1 k,.vs (ad .bel).1 (ad .bel).2 2 b,slA (ad .hal) p.ms.length,slA (ad .fed) p.mt]
def ctK (p : Pl) (k b : Nat) (ad : Ad) : Pc→List A
  | .root=>rootK p k b ad
  | .bef=>befK p k ad
  | .bel=>belsK p b ad
  | .hal=>bools (List.replicate p.ms.length false)
  | .fed=>ints (zeros p.mt)
  | .bm _=>ints (zeros p.mt)
  | .fi _=>ints (zeros p.mt)
  | .re i=>belC (p.rl i) p.mt 0 fun q=>ad (.ri i q)
  | .ri _ _=>ints (zeros p.mt)
structure PN (n : Nat) (K : List Blk) (p : Pl) (k b : Nat) (ad : Ad) : Prop where
  get : ∀ c,usK p k b c=true→blkAt K (ad c).1 (ad c).2=some (ctK p k b ad c)
  inj : ∀ c d,usK p k b c=true→usK p k b d=true→(ad c).1=(ad d).1→c=d
  zr : (ad .root).2=0∧∀ i,(ad (.re i)).2=0
  hi : ∀ c,usK p k b c=true→n < (ad c).1
theorem PN.lt {n : Nat} {K : List Blk} {p : Pl} {k b : Nat} {ad : Ad} (h : PN n K p k b ad) {c : Pc} (hc : usK p k b c=true) : (ad c).1 < K.length:=blkAt_lt (h.get c hc)
theorem PN.ne {n : Nat} {K : List Blk} {p : Pl} {k b : Nat} {ad : Ad} (h : PN n K p k b ad) {c d : Pc} (hc : usK p k b c=true) (hd : usK p k b d=true) (hn : c≠d) : (ad c).1≠(ad d).1:=fun he=>hn (h.inj c d hc hd he)
theorem PN.rt {n : Nat} {K : List Blk} {p : Pl} {k b : Nat} {ad : Ad} (h : PN n K p k b ad) : blkAt K (ad .root).1 0=some (rootK p k b ad):=by have:=h.get .root rfl; rw [h.zr.1] at this; exact this
theorem PN.next {n : Nat} {K K' : List Blk} {p : Pl} {k b k' b' : Nat} {ad ad' : Ad} (h : PN n K p k b ad) (hr : ad' .root = ad .root) (hz : ∀ i, (ad' (.re i)).2 = 0)
    (hold : ∀ c,usK p k b c=true→(ad' c).1=(ad c).1) (hnew : ∀ c,usK p k' b' c=true→usK p k b c=false→K.length≤(ad' c).1)
    (hin : ∀ c d,usK p k' b' c=true→usK p k' b' d=true→usK p k b c=false→usK p k b d=false→(ad' c).1=(ad' d).1→c=d)
    (hget : ∀ c,usK p k' b' c=true→blkAt K' (ad' c).1 (ad' c).2=some (ctK p k' b' ad' c)) : PN n K' p k' b' ad':=by
  refine ⟨hget,fun c d hc hd he=>?_,⟨by rw [hr]; exact h.zr.1,hz⟩,fun c hc=>?_⟩
  · cases uc : usK p k b c with
    | false =>
      cases ud : usK p k b d with
      | false=>exact hin c d hc hd uc ud he
      | true =>
        have h1:=hnew c hc uc
        have h2:=h.lt ud
        have h3:=hold d ud
        omega
    | true =>
      cases ud : usK p k b d with
      | false =>
        have h1:=hnew d hd ud
        have h2:=h.lt uc
        have h3:=hold c uc
        omega
      | true=>exact h.inj c d uc ud (by rw [← hold c uc,← hold d ud,he])
  · cases uc : usK p k b c with
    | false =>
      have h1:=hnew c hc uc
      have h2:=h.lt (c:=.root) rfl
      have h3:=h.hi .root rfl
      omega
    | true=>rw [hold c uc]; exact h.hi c uc
theorem blk_ta {K T : List Blk} {i1 i2 j : Nat} {B1 B2 : Blk} {l L : Nat} (hL : L=K.length) : blkAt ((K.set i1 B1).set i2 B2++T) (L+j) l=blkAt T j l:=by
  subst hL
  have:=blkAt_new ((K.set i1 B1).set i2 B2) T j l
  simpa using this
theorem blk_to {K T : List Blk} {i1 i2 j l : Nat} {B1 B2 : Blk} {x : List A} (h : blkAt K j l=some x) (h1 : j≠i1) (h2 : j≠i2) : blkAt ((K.set i1 B1).set i2 B2++T) j l=some x:=by
  rw [blkAt_app _ _ _ _ (by simp; exact blkAt_lt h),blkAt_set_ne _ _ _ _ _ h2,blkAt_set_ne _ _ _ _ _ h1]; exact h
theorem blk_t1 {K T : List Blk} {i1 i2 v : Nat} {B2 : Blk} {x : List A} (h : i1 < K.length) (h2 : i1≠i2) : blkAt ((K.set i1 ⟨v,x⟩).set i2 B2++T) i1 v=some x:=by
  rw [blkAt_app _ _ _ _ (by simp; exact h),blkAt_set_ne _ _ _ _ _ h2]; exact blkAt_set_same _ _ _ _ h
theorem blk_t2 {K T : List Blk} {i1 i2 v : Nat} {B1 : Blk} {x : List A} (h : i2 < K.length) : blkAt ((K.set i1 B1).set i2 ⟨v,x⟩++T) i2 v=some x:=by
  rw [blkAt_app _ _ _ _ (by simp; exact h)]; exact blkAt_set_same _ _ _ _ (by simpa using h)
theorem gr_t {K T : List Blk} {n i1 i2 : Nat} {B1 B2 : Blk} (h1 : n < i1) (h2 : n < i2) : Gr (fun i=>n < i) K ((K.set i1 B1).set i2 B2++T) :=
  ⟨by simp,fun i ver hi hn=>by
    have hn' : ¬ n < i:=hn
    rw [blkAt_app _ _ _ _ (by simp; exact hi),blkAt_set_ne _ _ _ _ _ (by omega),blkAt_set_ne _ _ _ _ _ (by omega)]⟩
def adM (ad : Ad) (L k : Nat) : Ad
  | .bm m=>if m=k then (L,0) else ad (.bm m)
  | .bef=>((ad .bef).1,(ad .bef).2+1)
  | c=>ad c
def adT (ad : Ad) (L b : Nat) : Ad
  | .fi i=>if i=b then (L+1,0) else ad (.fi i)
  | .re i=>if i=b then (L+3,0) else ad (.re i)
  | .ri i q=>if i=b then (L+(4+q),0) else ad (.ri i q)
  | .bel=>((ad .bel).1,(ad .bel).2+1)
  | c=>ad c
theorem befK_app (p : Pl) (k : Nat) (ad : Ad) (L : Nat) : befK p k ad++[.sl L 0 1 0 p.mt]=befK p (k+1) (adM ad L k):=by
  unfold befK
  rw [List.range_succ,List.map_append]
  congr 1
  · refine List.map_congr_left fun m hm=>?_
    have : m < k:=List.mem_range.1 hm
    simp only [adM]; rw [if_neg (by omega)]
  · simp [adM,slA]
theorem befK_len (p : Pl) (k : Nat) (ad : Ad) : (befK p k ad).length=k:=by simp [befK]
theorem belsK_app (p : Pl) (b : Nat) (ad : Ad) (L : Nat) : belsK p b ad++[.sl (L+1) 0 1 0 p.mt,if 0 < p.rl b then .lp (L+3) 0 0 else .v (.pointer none)]=belsK p (b+1) (adT ad L b):=by
  unfold belsK
  rw [List.range_succ,List.flatMap_append]
  congr 1
  · rw [List.flatMap_def,List.flatMap_def]
    congr 1
    refine List.map_congr_left fun m hm=>?_
    have : m < b:=List.mem_range.1 hm
    simp only [adT,cvC,if_neg (show ¬ m=b by omega)]
  · simp [adT,slA,cvC]
theorem belsK_len (p : Pl) (b : Nat) (ad : Ad) : (belsK p b ad).length=b*2:=flat2_len _ (cvC_len p ad) _
theorem PN.addM {n : Nat} {K : List Blk} {p : Pl} {k : Nat} {ad : Ad} (h : PN n K p k 0 ad) (T : List Blk) (hT : blkAt T 0 0 = some (ints (zeros p.mt))) :
    PN n ((K.set (ad .bef).1 ⟨(ad .bef).2+1,befK p (k+1) (adM ad K.length k)⟩).set (ad .root).1 ⟨0,rootK p (k+1) 0 (adM ad K.length k)⟩++T) p (k+1) 0 (adM ad K.length k):=by
  have nb:=h.ne (c:=.bef) (d:=.root) rfl rfl (by simp)
  have lb:=h.lt (c:=.bef) rfl
  have lr:=h.lt (c:=.root) rfl
  have ub : ∀ m,usK p k 0 (.bm m)=true→m≠k:=fun m hm=>by simp [usK] at hm; omega
  refine h.next rfl (fun i=>h.zr.2 i) (fun c hc=>?_) (fun c hc hn=>?_) (fun c d hc hd hcn hdn he=>?_) (fun c hc=>?_)
  · cases c with
    | bm m=>simp only [adM]; rw [if_neg (ub m hc)]
    | _=>rfl
  · cases c with
    | bm m =>
      simp [usK] at hc hn
      simp only [adM]; rw [if_pos (by omega)]; exact Nat.le_refl _
    | _=>simp_all [usK]
  · cases c with
    | bm m =>
      cases d with
      | bm m'=>simp [usK] at hc hd hcn hdn; congr 1; omega
      | _=>simp_all [usK]
    | _=>simp_all [usK]
  · cases c with
    | bm m =>
      simp only [adM]
      by_cases e : m=k
      · rw [if_pos e]
        have:=blk_ta (K:=K) (T:=T) (i1:=(ad .bef).1) (i2:=(ad .root).1) (B1:=⟨(ad .bef).2+1,befK p (k+1) (adM ad K.length k)⟩) (B2:=⟨0,rootK p (k+1) 0 (adM ad K.length k)⟩) (j:=0) (l:=0) rfl
        rw [Nat.add_zero] at this
        exact this.trans hT
      · rw [if_neg e]
        have hu : usK p k 0 (.bm m)=true:=by simp [usK] at hc ⊢; omega
        exact blk_to (h.get _ hu) (h.ne hu rfl (by simp)) (h.ne hu rfl (by simp))
    | bef=>exact blk_t1 lb nb
    | root=>simp only [adM]; rw [h.zr.1]; exact blk_t2 lr
    | bel=>exact blk_to (h.get .bel rfl) (h.ne rfl rfl (by simp)) (h.ne rfl rfl (by simp))
    | hal=>exact blk_to (h.get .hal rfl) (h.ne rfl rfl (by simp)) (h.ne rfl rfl (by simp))
    | fed=>exact blk_to (h.get .fed rfl) (h.ne rfl rfl (by simp)) (h.ne rfl rfl (by simp))
    | _=>simp [usK] at hc
theorem PN.addT {n : Nat} {K : List Blk} {p : Pl} {k b : Nat} {ad : Ad} (h : PN n K p k b ad) (T : List Blk) (hT : blkAt T 1 0 = some (ints (zeros p.mt)))
    (hR : 0 < p.rl b→blkAt T 3 0=some (belC (p.rl b) p.mt 0 (fun q=>(K.length+(4+q),0)))∧∀ q,q < p.rl b→blkAt T (4+q) 0=some (ints (zeros p.mt))) :
    PN n ((K.set (ad .bel).1 ⟨(ad .bel).2+1,belsK p (b+1) (adT ad K.length b)⟩).set (ad .root).1 ⟨0,rootK p k (b+1) (adT ad K.length b)⟩++T) p k (b+1) (adT ad K.length b):=by
  have nb:=h.ne (c:=.bel) (d:=.root) rfl rfl (by simp)
  have lb:=h.lt (c:=.bel) rfl
  have lr:=h.lt (c:=.root) rfl
  refine h.next rfl (fun i=>?_) (fun c hc=>?_) (fun c hc hn=>?_) (fun c d hc hd hcn hdn he=>?_) (fun c hc=>?_)
  · simp only [adT]; split
    · rfl
    · exact h.zr.2 i
  · cases c with
    | fi i=>simp only [usK,decide_eq_true_eq] at hc; simp only [adT]; rw [if_neg (by omega)]
    | re i=>simp only [usK,Bool.and_eq_true,decide_eq_true_eq] at hc; simp only [adT]; rw [if_neg (by omega)]
    | ri i q=>simp only [usK,Bool.and_eq_true,decide_eq_true_eq] at hc; simp only [adT]; rw [if_neg (by omega)]
    | _=>rfl
  · cases c with
    | fi i =>
      simp [usK] at hc hn
      simp only [adT]; rw [if_pos (by omega)]; simp only; omega
    | re i =>
      simp [usK] at hc hn
      have : i=b:=by
        by_cases e : i < b
        · have:=hn e; omega
        · omega
      simp only [adT]; rw [if_pos this]; simp only; omega
    | ri i q =>
      simp [usK] at hc hn
      have : i=b:=by
        by_cases e : i < b
        · have:=hn e; omega
        · omega
      simp only [adT]; rw [if_pos this]; simp only; omega
    | _=>simp_all [usK]
  · have key : ∀ c, usK p k (b + 1) c = true → usK p k b c = false → c = .fi b ∨ c = .re b ∨ ∃ q, c = .ri b q := fun c hc hn => by
      cases c with
      | fi i=>simp [usK] at hc hn; left; congr 1; omega
      | re i =>
        simp [usK] at hc hn; right; left; congr 1
        by_cases e : i < b
        · have:=hn e; omega
        · omega
      | ri i q =>
        simp [usK] at hc hn; right; right; refine ⟨q,?_⟩; congr 1
        by_cases e : i < b
        · have:=hn e; omega
        · omega
      | _=>simp_all [usK]
    rcases key c hc hcn with rfl | rfl | ⟨q,rfl⟩<;>rcases key d hd hdn with rfl | rfl | ⟨q',rfl⟩<;>simp only [adT,if_true] at he<;>first | rfl | omega | (congr 1; omega)
  · cases c with
    | fi i =>
      simp only [adT]
      by_cases e : i=b
      · rw [if_pos e]; exact (blk_ta rfl).trans hT
      · rw [if_neg e]
        have hu : usK p k b (.fi i)=true:=by simp [usK] at hc ⊢; omega
        exact blk_to (h.get _ hu) (h.ne hu rfl (by simp)) (h.ne hu rfl (by simp))
    | re i =>
      simp only [adT]
      simp only [usK,Bool.and_eq_true,decide_eq_true_eq] at hc
      by_cases e : i=b
      · subst e
        rw [if_pos rfl]
        simp only [ctK,adT,if_true]
        exact (blk_ta rfl).trans (hR hc.2).1
      · rw [if_neg e]
        have hu : usK p k b (.re i)=true:=by simp [usK]; omega
        have:=blk_to (T:=T) (B1:=⟨(ad .bel).2+1,belsK p (b+1) (adT ad K.length b)⟩) (B2:=⟨0,rootK p k (b+1) (adT ad K.length b)⟩) (h.get _ hu) (h.ne hu (d:=.bel) rfl (by simp)) (h.ne hu (d:=.root) rfl (by simp))
        simp only [ctK,adT] at this ⊢
        simp only [if_neg e]
        exact this
    | ri i q =>
      simp only [adT]
      simp only [usK,Bool.and_eq_true,decide_eq_true_eq] at hc
      by_cases e : i=b
      · subst e
        rw [if_pos rfl]
        exact (blk_ta rfl).trans ((hR (by omega)).2 q hc.2)
      · rw [if_neg e]
        have hu : usK p k b (.ri i q)=true:=by simp [usK]; omega
        exact blk_to (h.get _ hu) (h.ne hu rfl (by simp)) (h.ne hu rfl (by simp))
    | bel=>exact blk_t1 lb nb
    | root=>simp only [adT]; rw [h.zr.1]; exact blk_t2 lr
    | bef=>exact blk_to (h.get .bef rfl) (h.ne rfl rfl (by simp)) (h.ne rfl rfl (by simp))
    | hal=>exact blk_to (h.get .hal rfl) (h.ne rfl rfl (by simp)) (h.ne rfl rfl (by simp))
    | fed=>exact blk_to (h.get .fed rfl) (h.ne rfl rfl (by simp)) (h.ne rfl rfl (by simp))
    | bm m =>
      have hu : usK p k b (.bm m)=true:=hc
      exact blk_to (h.get _ hu) (h.ne hu rfl (by simp)) (h.ne hu rfl (by simp))
def ad0 (n : Nat) : Ad
  | .root=>(n+2,0) | .hal=>(n+1,0) | .fed=>(n+3,0) | .bef=>(n+4,0) | .bel=>(n+5,0)
  | _=>(0,0)
theorem PN.init (H : List Blk) (p : Pl) (B : Blk) : PN H.length (H++[B,⟨0,bools (List.replicate p.ms.length false)⟩,⟨0,rootK p 0 0 (ad0 H.length)⟩,⟨0,ints (zeros p.mt)⟩,⟨0,[]⟩,⟨0,[]⟩]) p 0 0 (ad0 H.length):=by
  refine ⟨fun c hc=>?_,fun c d hc hd he=>?_,⟨rfl,fun i=>rfl⟩,fun c hc=>?_⟩
  · cases c<;>first | (simp [usK] at hc; done) | (simp only [ad0]; rw [blkAt_new]; rfl)
  · cases c<;>first | (simp [usK] at hc; done) | (cases d<;>first | rfl | (simp [usK] at hd; done) | (simp only [ad0] at he; omega))
  · cases c<;>first | (simp [usK] at hc; done) | (simp only [ad0]; omega)
theorem bel_sh (n len mat : Nat) : A.shL n (belC len mat 0 (newA 1))=belC len mat 0 (newA (n+1)):=by
  rw [shL_map]
  unfold belC belK ringC
  rw [List.map_append,List.map_map]
  congr 1
  refine List.map_congr_left fun q _=>?_
  simp only [Function.comp,newA]
  split
  · simp only [A.sh]; congr 1; omega
  · rfl
theorem bel_cl (len mat : Nat) (ad : Nat→Nat×Nat) : A.clL (belC len mat 0 ad)=true:=clL_iff.2 fun a ha=>by
  rcases List.mem_append.1 ha with h | h
  · obtain ⟨q,_,rfl⟩:=List.mem_map.1 h
    split<;>rfl
  · simp only [List.mem_cons,List.not_mem_nil,or_false] at h
    rcases h with rfl | rfl | rfl<;>rfl
def beltN (n len mat : Nat) : List Blk:=⟨0,belC len mat 0 (newA (n+1))⟩ :: List.replicate len ⟨0,ints (zeros mat)⟩
theorem bnew_ps {kp : Bool} {H : List Blk} {mat len : Nat} (h1 : 1≤len) (h16 : len≤16) (hm : 1≤mat∧mat≤16) : VR P kp n_belt_New [.v (.int .i64 len),.v (.int .i64 mat)] H (fun r H'=>r=.tup [.lp H.length 0 0,.v (.int .i64 0)]∧H'=H++beltN H.length len mat):=by
  refine (bnew_vr h1 h16 hm).useO (LdL.refl rfl) ?_ ⟨rfl,?_⟩
  · simp only [Bool.and_eq_true,List.all_eq_true]
    refine ⟨rfl,fun B hB=>?_⟩
    rcases List.mem_cons.1 hB with rfl | h
    · exact bel_cl _ _ _
    · rw [(List.mem_replicate.1 h).2]; exact ii_cl _
  · unfold beltG beltN
    rw [List.map_cons,List.map_replicate]
    simp only [Blk.sh,bel_sh,shL_bd _ (ii_bd 0 _)]
theorem beltN_at (n len mat q : Nat) (h : q < len) : blkAt (beltN n len mat) (1+q) 0=some (ints (zeros mat)):=by
  have : (beltN n len mat)[1+q]?=some ⟨0,ints (zeros mat)⟩:=by
    unfold beltN
    rw [Nat.add_comm 1 q,List.getElem?_cons_succ,List.getElem?_replicate,if_pos h]
  exact blkAt_iff.2 ⟨_,this,rfl,rfl⟩
theorem Rel.cells_vs {g : Bool→Heap} {σ : Nam} {i ver k n : Nat} {v : Value} (hn : 0 < n) (h : Rel g σ (.vs i ver k n) v) : Rel g σ (.sl i ver k 0 n) v:=by
  cases h with
  | vs0=>omega
  | vs i ver k n b s o' cp e1 e2 e3=>exact .sl i ver k 0 n b s o' cp e1 e2 fun hc=>by have:=e3 hc; omega
theorem Cut.cellS {n0 : Nat} {e : List A} {H : List Blk} (i ver j : Nat) {i' v' k n : Nat} {l : List A} (hb : blkAt H i ver=some l) (hj : l[j]?=some (.vs i' v' k n)) (hn : 0 < n) : Cut n0 e H e (H.set i (⟨ver,l.set j (.sl i' v' k 0 n)⟩ : Blk)):=by
  intro c ev hH h0 hs he
  subst hH
  obtain ⟨B,q1,q2,q3⟩:=blkAt_iff.1 hb
  subst q2; subst q3
  rcases hs.blk i B q1 with ⟨_,k0⟩ | ⟨b,s,vs,z,t,f1,f2,f3,f4,f5⟩
  · rw [k0] at hj; simp at hj
  · obtain ⟨x,hx,hxr⟩:=f5.get hj
    have h2:=f5.set j (Rel.cells_vs hn hxr)
    have h3 : vs.set j x=vs:=by
      apply List.ext_getElem?
      intro i
      rw [List.getElem?_set]
      split
      · rename_i hi; subst hi
        rw [if_pos (List.getElem?_eq_some_iff.1 hx).1,hx]
      · rfl
    rw [h3] at h2
    obtain ⟨e1,e2,e3⟩:=St.turn hs n0 q1 (v':=B.ver) (b':=b) (s':=s) (t:=t) (vs:=vs) (z:=z) (Or.inl (And.intro f1 (Nat.le_refl _))) f4 h2
    have h4 : Go.Lft.upd c.h b (.cells (vs++z).toArray t)=c.h:=upd_self f3
    refine ⟨_,rfl,?_,e2,e1,he.mono (fun _=>Ext.refl _) e3⟩
    simp only; exact h4
theorem both_of {A B C : Prop} (ha : C→A) (hb : C→B) (hc : C) : A∧B:=⟨ha hc,hb hc⟩
theorem new_vr {H : List Blk} {w v : Bool} (p : Pl) (hp : chkP p=0) : VR P false n_plant_New [plA w v p] H (fun r H'=>∃ ad : Ad,r=.tup [.lp (ad .root).1 0 0,.v (.int .i64 0)]∧PM H' p ad (newS p)∧Gr nof H H'∧∀ c,usd p c=true→H.length≤(ad c).1):=by
  refine vr_plant_New (by simp) (.inl rfl) fun _ _=>?_
  have hpc:=(chkP_ok hp).1
  have ok:=pcheck_ok hpc
  obtain ⟨m1,m2,m3⟩:=ok.mt1
  have n1:=ok.n1
  have n2:=ok.n2
  have b2:=ok.b2
  have hck:=plantCheck_vr (w:=w) (v:=v) p
  have hcp:=copied_vr (w:=w) (v:=v) p hpc
  rw [hp] at hck
  unfold plA plC at *
  rw [m3] at *
  simp (disch:=((try simp only [lZ]); omega)) only [aZ,aM,s_plant_New,v_plant_New]
  refine hck.same (by simp (disch:=first | omega | simp (disch:=omega) only [aG,aM]) only [fZ,aM]) rfl (aret_of ?_)
  simp (disch:=((try simp only [lZ]); omega)) only [aZ,aM]
  apply both_of
  · intro hc
    refine hcp.same (by simp (disch:=first | omega | simp (disch:=omega) only [aG,aM]) only [fZ,aM]) (by simp (disch:=first | omega | simp (disch:=omega) only [aG,aM]) only [fZ,aM]) (aret_of ?_)
    simp (disch:=((try simp only [lZ]); omega)) only [aZ,aM]
    exact hc
  · intro hc
    refine hcp.same (by simp (disch:=first | omega | simp (disch:=omega) only [aG,aM]) only [fZ,aM]) (by simp (disch:=first | omega | simp (disch:=omega) only [aG,aM]) only [fZ,aM]) (aret_of ?_)
    simp (disch:=((try simp only [lZ]); omega)) only [aZ,aM]
    exact hc
  refine (empty_ps m2 (by simp (disch:=((try simp only [lZ]); omega)) only [aZ,aM]; rfl)).mono ?_
  rintro r H' ⟨rfl,hH⟩
  rw [hH]
  refine aret_of ?_
  simp (disch:=((try simp only [lZ]); omega)) only [aZ,aM]
  refine AWP.cut (Cut.virtB (H.length+2) 0 4 1 (by simp (disch:=((try simp only [lZ]); omega)) only [aZ,aM]; rfl) rfl) ?_
  simp (disch:=((try simp only [lZ]); omega)) only [aZ,aM]
  refine AWP.cut (Cut.virtB (H.length+2) 0 5 2 (by simp (disch:=((try simp only [lZ]); omega)) only [aZ,aM]; rfl) rfl) ?_
  simp (disch:=((try simp only [lZ]); omega)) only [aZ,aM]
  refine AWP.cut (Cut.drop 19) ?_
  simp (disch:=((try simp only [lZ]); omega)) only [aZ,aM]
  generalize hr2 : H.length+(1+1)=r
  have gr0 : ∀ K K' : List Blk,Gr nof H K→Gr (fun i=>H.length < i) K K'→Gr nof H K':=fun K K' h1 h2=>h1.trans h2 fun i hi hf=>by have : H.length < i:=hf; omega
  have pa0 : ∀ (K K' : List Blk) (l : List A),blkAt K H.length 0=some l→Gr (fun i=>H.length < i) K K'→blkAt K' H.length 0=some l:=fun K K' l h1 h2=>h2.at h1 (by simp)
  refine AWP.loopM g_plant_New_0 (fun x : Nat×Ad×List Blk=>x.1≤p.ms.length∧PN H.length x.2.2 p x.1 0 x.2.1∧(x.2.1 .root).1=r∧Gr nof H x.2.2∧blkAt x.2.2 H.length 0=some [.v (.int .i64 p.mt),.fs w (mcs w p.ms),.fs v (bts p.bs),.v (.int .i64 p.fd)]) (fun x=>[(6,.v (.int .i64 x.1))]) (fun x=>x.2.2) (fun x=>p.ms.length - x.1) (0,ad0 H.length,_) ⟨by omega,PN.init H p ⟨0,[.v (.int .i64 p.mt),.fs w (mcs w p.ms),.fs v (bts p.bs),.v (.int .i64 p.fd)]⟩,hr2,Gr.app _ _,by rw [blkAt_new0]; rfl⟩ ?_ ?_
  · exact Cut.fg (by simp (disch:=first | omega | simp (disch:=omega) only [aG,aM]) only [fZ,aM,fgl_nil,fgl_cons,or_true,true_or])
  rintro ⟨k,ad,K⟩ ⟨hk,hP,hr,hG,hB⟩
  simp only at hk hP hr hG hB
  have kr:=hP.rt
  rw [hr] at kr
  have kb:=hP.get .bef rfl
  simp only [ctK] at kb
  have lr:=hP.lt (c:=.root) rfl
  rw [hr] at lr
  have lb:=hP.lt (c:=.bef) rfl
  have nb:=hP.ne (c:=.bef) (d:=.root) rfl rfl (by simp)
  rw [hr] at nb
  by_cases hlt : k < p.ms.length
  · unfold rootK slA at kr
    simp (disch:=((try simp only [lZ]); omega)) only [aZ,aM,kr]
    refine (empty_ps m2 kr).mono ?_
    rintro x H' ⟨rfl,hH⟩
    rw [hH]
    refine aret_of ?_
    have bl:=befK_len p k ad
    have ap:=befK_app p k ad K.length
    have tk : (befK p k ad).take k=befK p k ad:=List.take_of_length_le (by omega)
    have hN:=hP.addM [⟨0,ints (zeros p.mt)⟩,⟨0,[.sl K.length 0 1 0 p.mt]⟩] rfl
    have hg:=gr_t (K:=K) (T:=[⟨0,ints (zeros p.mt)⟩,⟨0,[.sl K.length 0 1 0 p.mt]⟩]) (B1:=⟨(ad .bef).2+1,befK p (k+1) (adM ad K.length k)⟩) (B2:=⟨0,rootK p (k+1) 0 (adM ad K.length k)⟩) (hP.hi .bef rfl) (hP.hi .root rfl)
    rw [hr] at hN hg
    simp (disch:=((try simp only [lZ]); omega)) only [aZ,aM,kr,kb,bl,ap,tk]
    refine ⟨(k+1,adM ad K.length k,_),⟨by simp only; omega,hN,hr,gr0 _ _ hG hg,pa0 _ _ _ hB hg⟩,by simp only; omega,?_⟩
    unfold rootK slA
    simp only [adM]
    try simp (disch:=((try simp only [lZ]); omega)) only [aZ,aM]
    exact Cut.fg (by simp (disch:=first | omega | simp (disch:=omega) only [aG,aM]) only [fZ,aM,fgl_nil,fgl_cons,or_true,true_or])
  have hke : k=p.ms.length:=by omega
  rw [hke] at hP
  clear kr kb lr lb nb
  simp (disch:=((try simp only [lZ]); omega)) only [aZ,aM,hB]
  refine AWP.loopM g_plant_New_1 (fun x : Nat×Ad×List Blk=>x.1≤p.bs.length∧PN H.length x.2.2 p p.ms.length x.1 x.2.1∧(x.2.1 .root).1=r∧Gr nof H x.2.2∧blkAt x.2.2 H.length 0=some [.v (.int .i64 p.mt),.fs w (mcs w p.ms),.fs v (bts p.bs),.v (.int .i64 p.fd)]) (fun x=>[(9,.v (.int .i64 x.1))]) (fun x=>x.2.2) (fun x=>p.bs.length - x.1) (0,ad,K) ⟨by omega,hP,hr,hG,hB⟩ ?_ ?_
  · exact Cut.fg (by simp (disch:=first | omega | simp (disch:=omega) only [aG,aM]) only [fZ,aM,fgl_nil,fgl_cons,or_true,true_or])
  clear hB hG hr hP hke hlt hk
  rintro ⟨b,ad,K⟩ ⟨hk,hP,hr,hG,hB⟩
  simp only at hk hP hr hG hB
  have kr:=hP.rt
  rw [hr] at kr
  have kb:=hP.get .bel rfl
  simp only [ctK] at kb
  have lr:=hP.lt (c:=.root) rfl
  rw [hr] at lr
  have lb:=hP.lt (c:=.bel) rfl
  have nb:=hP.ne (c:=.bel) (d:=.root) rfl rfl (by simp)
  rw [hr] at nb
  by_cases hlt : b < p.bs.length
  · unfold rootK slA at kr
    have lp:=blkAt_lt hB
    simp (disch:=((try simp only [lZ]); omega)) only [aZ,aM]
    refine (empty_ps m2 (r:=r) (by simp (disch:=((try simp only [lZ]); omega)) only [aZ,aM,kr]; rfl)).mono ?_
    rintro x H' ⟨rfl,hH⟩
    rw [hH]
    refine aret_of ?_
    simp (disch:=((try simp only [lZ]); omega)) only [aZ,aM]
    have hbl:=belsK_len p b ad
    have hap:=belsK_app p b ad K.length
    have tk : (belsK p b ad).take (b*2)=belsK p b ad:=List.take_of_length_le (by omega)
    have hbt:=ok.bt _ (mem_get b0 hlt)
    refine ib_intro (fun h1=>?_) (fun h1=>?_)
    · have hrl : ((p.bs.getD b b0).ln - 1)=(p.rl b : Nat):=by unfold Pl.rl; omega
      have hr0 : 0 < p.rl b:=by unfold Pl.rl; omega
      have hr16 : p.rl b≤16:=by have:=ok.rl hlt; omega
      have hbn:=fun (kp : Bool) (H : List Blk)=>bnew_ps (kp:=kp) (H:=H) (mat:=p.mt) (len:=p.rl b) (by omega) hr16 ⟨m1,m2⟩
      have q1:=beltN_at (K.length+3) (p.rl b) p.mt
      have q0 : blkAt (beltN (K.length+3) (p.rl b) p.mt) 0 0=some (belC (p.rl b) p.mt 0 (newA (K.length+3+1))):=rfl
      simp (disch:=((try simp only [lZ]); omega)) only [aZ,aM,hrl,hB]
      refine (hbn _ _).mono ?_
      rintro x H' ⟨rfl,hH⟩
      rw [hH]
      refine aret_of ?_
      simp only [List.length_append,List.length_cons,List.length_nil,Nat.zero_add,Nat.reduceAdd]
      generalize beltN (K.length+3) (p.rl b) p.mt=G at *
      rw [if_pos hr0] at hap
      simp (disch:=((try simp only [lZ]); omega)) only [aZ,aM,kr,kb,hbl,hap,tk]
      obtain ⟨T,hTe⟩ : ∃ T : List Blk,T=((⟨0,[.v (.int .i64 (p.bs.getD b b0).fr),.v (.int .i64 (p.bs.getD b b0).ot),.v (.int .i64 (p.bs.getD b b0).to),.v (.int .i64 (p.bs.getD b b0).ln)]⟩ : Blk) :: ⟨0,ints (zeros p.mt)⟩ :: ⟨0,[.sl (K.length+1) 0 1 0 p.mt,.lp (K.length+3) 0 0]⟩ :: (G++[⟨0,[.sl (K.length+1) 0 1 0 p.mt,.lp (K.length+3) 0 0]⟩])):=⟨_,rfl⟩
      have hT : ∀ q,q < p.rl b→blkAt T (4+q) 0=some (ints (zeros p.mt)):=fun q hq=>by
        rw [hTe,show 4+q=(1+q)+3 by omega]
        show blkAt (G++_) (1+q) 0=_
        rw [blkAt_app _ _ _ _ (blkAt_lt (q1 q hq))]; exact q1 q hq
      have hT0 : blkAt T 3 0=some (belC (p.rl b) p.mt 0 (fun q=>(K.length+(4+q),0))):=by
        rw [hTe]
        show blkAt (G++_) 0 0=_
        rw [blkAt_app _ _ _ _ (blkAt_lt q0),q0]
        congr 2
        funext q
        simp only [newA]; congr 1; omega
      have hN:=hP.addT T (by rw [hTe]; rfl) (fun _=>⟨hT0,hT⟩)
      have hg:=gr_t (K:=K) (T:=T) (B1:=⟨(ad .bel).2+1,belsK p (b+1) (adT ad K.length b)⟩) (B2:=⟨0,rootK p p.ms.length (b+1) (adT ad K.length b)⟩) (hP.hi .bel rfl) (hP.hi .root rfl)
      clear hT hT0
      subst hTe
      rw [hr] at hN hg
      refine ⟨(b+1,adT ad K.length b,_),⟨by simp only; omega,hN,hr,gr0 _ _ hG hg,pa0 _ _ _ hB hg⟩,by simp only; omega,?_⟩
      unfold rootK slA
      simp only [adT]
      try simp (disch:=((try simp only [lZ]); omega)) only [aZ,aM]
      exact Cut.fg (by simp (disch:=first | omega | simp (disch:=omega) only [aG,aM]) only [fZ,aM,fgl_nil,fgl_cons,or_true,true_or])
    · have hrl : p.rl b=0:=by unfold Pl.rl; omega
      rw [hrl,if_neg (by omega)] at hap
      have hN:=hP.addT [⟨0,[.v (.int .i64 (p.bs.getD b b0).fr),.v (.int .i64 (p.bs.getD b b0).ot),.v (.int .i64 (p.bs.getD b b0).to),.v (.int .i64 (p.bs.getD b b0).ln)]⟩,⟨0,ints (zeros p.mt)⟩,⟨0,[.sl (K.length+1) 0 1 0 p.mt,.v (.pointer none)]⟩,⟨0,[.sl (K.length+1) 0 1 0 p.mt,.v (.pointer none)]⟩] rfl (fun hc=>by omega)
      have hg:=gr_t (K:=K) (T:=[⟨0,[.v (.int .i64 (p.bs.getD b b0).fr),.v (.int .i64 (p.bs.getD b b0).ot),.v (.int .i64 (p.bs.getD b b0).to),.v (.int .i64 (p.bs.getD b b0).ln)]⟩,⟨0,ints (zeros p.mt)⟩,⟨0,[.sl (K.length+1) 0 1 0 p.mt,.v (.pointer none)]⟩,⟨0,[.sl (K.length+1) 0 1 0 p.mt,.v (.pointer none)]⟩]) (B1:=⟨(ad .bel).2+1,belsK p (b+1) (adT ad K.length b)⟩) (B2:=⟨0,rootK p p.ms.length (b+1) (adT ad K.length b)⟩) (hP.hi .bel rfl) (hP.hi .root rfl)
      rw [hr] at hN hg
      simp (disch:=((try simp only [lZ]); omega)) only [aZ,aM,kr,kb,hbl,hap,tk]
      refine ⟨(b+1,adT ad K.length b,_),⟨by simp only; omega,hN,hr,gr0 _ _ hG hg,pa0 _ _ _ hB hg⟩,by simp only; omega,?_⟩
      unfold rootK slA
      simp only [adT]
      try simp (disch:=((try simp only [lZ]); omega)) only [aZ,aM]
      exact Cut.fg (by simp (disch:=first | omega | simp (disch:=omega) only [aG,aM]) only [fZ,aM,fgl_nil,fgl_cons,or_true,true_or])
  have hke : b=p.bs.length:=by omega
  subst hke
  have hlo:=fun c hc=>hP.hi c hc
  have hzr:=hP.zr
  obtain ⟨hget,hinj,_,_⟩:=hP
  rw [usK_all] at hget hinj hlo
  simp (disch:=((try simp only [lZ]); omega)) only [aZ,aM,r_plant_New]
  have hm:=(pcheck_ok hpc).mt1.2.2
  have e1 : (rootK p p.ms.length p.bs.length ad).set 4 (.sl (ad .bef).1 (ad .bef).2 1 0 p.ms.length)=rootC p ad:=by
    unfold rootC
    rw [hm]; rfl
  have hset : ∀ c,usd p c=true→c≠.root→blkAt (K.set r ⟨0,rootC p ad⟩) (ad c).1 (ad c).2=some (ctK p p.ms.length p.bs.length ad c):=fun c hc hn=>by
    rw [blkAt_set_ne _ _ _ _ _ (fun he=>hn (hinj c .root hc rfl (he.trans hr.symm)))]; exact hget c hc
  have P1 : PM (K.set r ⟨0,rootC p ad⟩) p ad (newS p):=by
    refine ⟨fun c hc=>?_,hinj,hzr⟩
    cases c with
    | root=>rw [hr,hzr.1]; exact blkAt_set_same _ _ _ _ lr
    | _=>exact hset _ hc (by simp)
  have hc:=Cut.cellS (n0:=H.length) (e:=[.tup [.lp r 0 0,.v (.int .i64 0)]]) r 0 4 kr rfl n1
  rw [e1] at hc
  have h1:=hlo .root rfl
  rw [hr] at h1
  refine ⟨_,K.set r ⟨0,rootC p ad⟩,hc,ad,by rw [hr],P1,hG.trans (Gr.set (F:=one r) _ _ _ rfl) fun i hi hf=>?_,fun c hc=>Nat.le_of_lt (hlo c hc)⟩
  have : i=r:=hf
  omega
theorem new_err {H : List Blk} {w v : Bool} (p : Pl) (hp : chkP p≠0) : VR P false n_plant_New [plA w v p] H (fun r H'=>r=.tup [.v (.pointer none),.v (.int .i64 (chkP p))]∧Gr nof H H'):=by
  refine vr_plant_New (by simp) (.inl rfl) fun _ _=>?_
  have hck:=plantCheck_vr (w:=w) (v:=v) p
  generalize chkP p=e at *
  unfold plA plC at *
  simp (disch:=((try simp only [lZ]); omega)) only [aZ,aM,s_plant_New,v_plant_New]
  refine hck.same (by simp (disch:=first | omega | simp (disch:=omega) only [aG,aM]) only [fZ,aM]) rfl (aret_of ?_)
  simp (disch:=((try simp only [lZ]); omega)) only [aZ,aM,decide_eq_true hp,r_plant_New]
  exact post2 (R:=fun r H'=>_) ⟨rfl,Gr.app _ _⟩
end Go.Proofs.Ytcppaddgclkekaa
namespace Go.Proofs.Ytcppaddgclkekaa
open Go Go.Lft
set_option linter.unusedSimpArgs false
set_option linter.unusedVariables false
def slt (p : Pl) (s : Sy) (i : Nat) : Nat→List Int
  | 0=>s.fst i
  | k+1=>s.rng i ((s.pos i+k) % p.rl i)
theorem out_slt (p : Pl) (s : Sy) (i : Nat) : outM p s i=slt p s i (p.rl i):=by
  unfold outM Pl.nxt
  cases h : p.rl i with
  | zero=>rfl
  | succ r=>rw [if_pos (by omega)]; simp only [slt,h]; rfl
theorem mod_shift {a r k : Nat} (h1 : 0 < k) (h2 : k < r) : ((a+r - 1) % r+k) % r=(a+(k - 1)) % r:=by
  rw [Nat.mod_add_mod,show a+r - 1+k=a+(k - 1)+r by omega,Nat.add_mod_right]
theorem mod_off {a r k : Nat} (h1 : 0 < k) (h2 : k < r) : ((a+r - 1) % r+k) % r≠(a+r - 1) % r:=by
  have h3 : (a+r - 1) % r < r:=Nat.mod_lt _ (by omega)
  generalize (a+r - 1) % r=b at *
  intro hc
  by_cases h : b+k < r
  · rw [Nat.mod_eq_of_lt h] at hc; omega
  · rw [Nat.mod_eq_sub_mod (by omega),Nat.mod_eq_of_lt (by omega)] at hc; omega
theorem mvA_slt (p : Pl) (s : Sy) (i j k : Nat) (hk : k≤p.rl j) : slt p (mvA p s i) j k=if j=i then (if k=0 then zeros p.mt else slt p s i (k - 1)) else slt p s j k:=by
  by_cases e : j=i
  · subst e
    rw [if_pos rfl]
    cases k with
    | zero=>simp [slt,mvA,mov_fst,updF_same]
    | succ k =>
      rw [if_neg (by omega)]
      have hr : 0 < p.rl j:=by omega
      have e1 : (mvA p s j).pos j=p.nxt s j:=by simp only [mvA,movS]; rw [if_pos hr]; simp only [rolS,updF_same]; rfl
      have e2 : (mvA p s j).rng j=updF (s.rng j) (p.nxt s j) (s.fst j):=by simp only [mvA,movS]; rw [if_pos hr]; simp only [rolS,updF_same]; rfl
      simp only [slt,e1,e2]
      have hn : p.nxt s j < p.rl j:=Nat.mod_lt _ hr
      cases k with
      | zero=>simp only [Nat.add_zero,Nat.mod_eq_of_lt hn,updF_same]; rfl
      | succ k =>
        unfold Pl.nxt
        rw [updF_ne _ _ (mod_off (by omega) (by omega)),mod_shift (by omega) (by omega)]
        rfl
  · rw [if_neg e]
    have e0 : (mvA p s i).fst j=s.fst j:=by simp only [mvA,mov_fst]; rw [updF_ne _ _ e]
    have e1 : (mvA p s i).pos j=s.pos j:=by
      simp only [mvA,movS]; split
      · simp only [rolS,empS]; rw [updF_ne _ _ e]
      · rfl
    have e2 : (mvA p s i).rng j=s.rng j:=by
      simp only [mvA,movS]; split
      · simp only [rolS,empS]; rw [updF_ne _ _ e]
      · rfl
    cases k with
    | zero=>exact e0
    | succ k=>simp only [slt,e1,e2]
theorem mvK_slt (p : Pl) (s : Sy) (i k : Nat) (hk : k≤p.rl i) : ∀ j,slt p (mvK p s j) i k=if i < j then (if k=0 then zeros p.mt else slt p s i (k - 1)) else slt p s i k
  | 0=>by simp [mvK]
  | j+1=>by
    simp only [mvK]
    rw [mvA_slt _ _ _ _ _ hk]
    by_cases e : i=j
    · subst e
      rw [if_pos rfl]
      by_cases h0 : k=0
      · simp [h0]
      · have:=mvK_slt p s i (k - 1) (by omega) i
        simp only [h0,if_false,this]; simp
    · rw [if_neg e,mvK_slt p s i k hk j]
      by_cases h : i < j
      · simp [h,show i < j+1 by omega]
      · simp [h,show ¬ i < j+1 by omega]
theorem mvK_out (p : Pl) (s : Sy) (j : Nat) : outM p (mvK p s j) j=outM p s j:=by
  rw [out_slt,out_slt,mvK_slt _ _ _ _ (Nat.le_refl _),if_neg (by omega)]
def arrK (p : Pl) (s : Sy) (m k : Nat) : List Int:=tb p.mt fun x=>(s.bef m).getD x 0+sm k fun i=>if tpS p i=m then (outM p s i).getD x 0 else 0
def arrL (p : Pl) (s : Sy) (m : Nat) : List Int:=arrK p s m p.bs.length
theorem mvK_bef {p : Pl} (ok : POk p) {s : Sy} (h : Gd p s) {m : Nat} (hm : m < p.ms.length) : ∀ k,k≤p.bs.length→(mvK p s k).bef m=arrK p s m k
  | 0,_=>by
    have hl:=(h.bl m hm).1
    unfold arrK
    simp only [mvK,sm]
    refine eq_of_getB 0 (by rw [tb_len,hl]) fun x hx=>?_
    rw [tb_get _ _ _ (by omega)]; omega
  | k+1,hk=>by
    have ih:=mvK_bef ok h hm k (by omega)
    have ho:=((h.ok).out (i:=k) (by omega)).1
    simp only [mvK,mvA]
    rw [mvK_out]
    by_cases e : m=tpS p k
    · rw [← e,updF_same,ih]
      unfold arrK
      rw [tb_plus]
      refine tb_ext fun x hx=>?_
      simp only [sm]; rw [if_pos e.symm]; omega
    · rw [updF_ne _ _ e,ih]
      unfold arrK
      refine tb_ext fun x hx=>?_
      simp only [sm]; rw [if_neg (fun hc=>e hc.symm)]; omega
def runs (p : Pl) (s : Sy) (m : Nat) : Prop:=¬ (outsN (p.ms.getD m [])=0∨s.hal.getD m false=true)
instance (p : Pl) (s : Sy) (m : Nat) : Decidable (runs p s m):=inferInstanceAs (Decidable (¬ _))
theorem dsK_bef (p : Pl) (s : Sy) (m : Nat) : ∀ k,(dsK p s k).bef m=if m < k∧runs p s m then zeros p.mt else s.bef m
  | 0=>by rw [if_neg (by omega)]; rfl
  | k+1=>by
    have ih:=dsK_bef p s m k
    have hh:=(dsK_hal (p:=p) s k).1
    simp only [dsK,disA]
    rw [hh]
    split
    · rename_i hc
      rw [ih]
      by_cases e : m=k
      · subst e; rw [if_neg (by omega),if_neg (fun h=>h.2 hc)]
      · by_cases h : m < k∧runs p s m
        · rw [if_pos h,if_pos ⟨by omega,h.2⟩]
        · rw [if_neg h,if_neg (fun h2=>h ⟨by omega,h2.2⟩)]
    · rename_i hc
      simp only [disS]
      by_cases e : m=k
      · subst e; rw [updF_same,if_pos ⟨by omega,hc⟩]
      · rw [updF_ne _ _ e]
        show (dsK p s k).bef m=_
        rw [ih]
        by_cases h : m < k∧runs p s m
        · rw [if_pos h,if_pos ⟨by omega,h.2⟩]
        · rw [if_neg h,if_neg (fun h2=>h ⟨by omega,h2.2⟩)]
def prtL (p : Pl) (m : Nat) (l : List Int) (o : Nat) : List Int:=(msM (p.ms.getD m []) l).getD o []
def frS (p : Pl) (i : Nat) : Nat:=(p.bs.getD i b0).fr.toNat
def otS (p : Pl) (i : Nat) : Nat:=(p.bs.getD i b0).ot.toNat
theorem dsK_fsts {p : Pl} (ok : POk p) (s : Sy) {i : Nat} (hi : i < p.bs.length) : ∀ k,(dsK p s k).fst i=if frS p i < k∧runs p s (frS p i) then prtL p (frS p i) (s.bef (frS p i)) (otS p i) else s.fst i
  | 0=>by rw [if_neg (by omega)]; rfl
  | k+1=>by
    have ih:=dsK_fsts ok s hi k
    have hh:=(dsK_hal (p:=p) s k).1
    have hb:=ok.bt _ (mem_get b0 hi)
    have hf : (p.bs.getD i b0).fr=(frS p i : Int):=by unfold frS; omega
    simp only [dsK,disA]
    rw [hh]
    split
    · rename_i hc
      rw [ih]
      by_cases e : frS p i=k
      · rw [if_neg (by omega),if_neg (fun h=>h.2 (by rw [e]; exact hc))]
      · by_cases h : frS p i < k∧runs p s (frS p i)
        · rw [if_pos h,if_pos ⟨by omega,h.2⟩]
        · rw [if_neg h,if_neg (fun h2=>h ⟨by omega,h2.2⟩)]
    · rename_i hc
      simp only [disS,disK]
      by_cases e : frS p i=k
      · rw [if_pos ⟨by omega,by rw [← e]; exact hb.2.2.2.1⟩,if_pos ⟨by omega,by rw [e]; exact hc⟩]
        unfold prt prtL
        rw [e,dsK_bef,if_neg (by omega)]; rfl
      · rw [if_neg (fun h=>e (by omega)),ih]
        by_cases h : frS p i < k∧runs p s (frS p i)
        · rw [if_pos h,if_pos ⟨by omega,h.2⟩]
        · rw [if_neg h,if_neg (fun h2=>h ⟨by omega,h2.2⟩)]
theorem dsK_rng (p : Pl) (s : Sy) : ∀ k,(dsK p s k).rng=s.rng∧(dsK p s k).pos=s.pos
  | 0=>⟨rfl,rfl⟩
  | k+1=>by
    have ih:=dsK_rng p s k
    simp only [dsK,disA]
    split
    · exact ih
    · exact ih
theorem runs_mvK (p : Pl) (s : Sy) (k m : Nat) : runs p (mvK p s k) m=runs p s m:=by unfold runs; rw [(mvK_hal p s k).1]
theorem stp_bef {p : Pl} (ok : POk p) {s : Sy} (h : Gd p s) {m : Nat} (hm : m < p.ms.length) : (stpS p s).bef m=if runs p s m then zeros p.mt else arrL p s m:=by
  unfold stpS arrL
  rw [dsK_bef,mvK_bef ok h hm _ (Nat.le_refl _)]
  simp only [runs_mvK]
  by_cases hr : runs p s m
  · rw [if_pos ⟨hm,hr⟩,if_pos hr]
  · rw [if_neg (fun h=>hr h.2),if_neg hr]
theorem fr_lt {p : Pl} (ok : POk p) {i : Nat} (hi : i < p.bs.length) : frS p i < p.ms.length:=by
  have:=ok.bt _ (mem_get b0 hi)
  unfold frS; omega
theorem stp_slt0 {p : Pl} (ok : POk p) {s : Sy} (h : Gd p s) {i : Nat} (hi : i < p.bs.length) : slt p (stpS p s) i 0=if runs p s (frS p i) then prtL p (frS p i) (arrL p s (frS p i)) (otS p i) else zeros p.mt:=by
  have hf:=fr_lt ok hi
  show (stpS p s).fst i=_
  unfold stpS arrL
  rw [dsK_fsts ok _ hi,mvK_bef ok h hf _ (Nat.le_refl _),mvK_fst]
  simp only [runs_mvK]
  by_cases hr : runs p s (frS p i)
  · rw [if_pos ⟨hf,hr⟩,if_pos hr]
  · rw [if_neg (fun h=>hr h.2),if_neg hr,if_pos hi]
theorem stp_sltS {p : Pl} {s : Sy} {i k : Nat} (hi : i < p.bs.length) (hk : k < p.rl i) : slt p (stpS p s) i (k+1)=slt p s i k:=by
  have h1:=mvK_slt p s i (k+1) (by omega) p.bs.length
  rw [if_pos hi,if_neg (by omega),Nat.add_sub_cancel] at h1
  rw [← h1]
  obtain ⟨e1,e2⟩:=dsK_rng p (mvK p s p.bs.length) p.ms.length
  simp only [slt,stpS,e1,e2]
theorem sm_front (n : Nat) (f : Nat→Int) : sm (n+1) f=f 0+sm n fun k=>f (k+1):=by
  induction n with
  | zero=>simp [sm]
  | succ n ih=>rw [show sm (n+1+1) f=sm (n+1) f+f (n+1) from rfl,ih]; simp only [sm]; omega
theorem sm_rot1 (n : Nat) (g : Nat→Int) : sm n (fun k=>g ((1+k) % n))=sm n g:=by
  cases n with
  | zero=>rfl
  | succ m =>
    rw [sm_front m g]
    simp only [sm]
    rw [show (1+m) % (m+1)=0 by rw [Nat.add_comm,Nat.mod_self],Int.add_comm]
    congr 1
    exact sm_congr fun k hk=>by rw [Nat.mod_eq_of_lt (by omega),Nat.add_comm]
theorem sm_rot (n : Nat) (f : Nat→Int) : ∀ c,sm n (fun k=>f ((c+k) % n))=sm n f
  | 0=>sm_congr fun k hk=>by rw [Nat.zero_add,Nat.mod_eq_of_lt hk]
  | c+1=>by
    rw [← sm_rot n f c,← sm_rot1 n fun k=>f ((c+k) % n)]
    refine sm_congr fun k hk=>?_
    rw [Nat.add_mod_mod]; congr 2; omega
theorem inB_slt (p : Pl) (s : Sy) (x i : Nat) : inB p s x i=sm (p.rl i+1) fun k=>(slt p s i k).getD x 0:=by
  rw [sm_front]
  unfold inB
  congr 1
  exact (sm_rot (p.rl i) (fun q=>(s.rng i q).getD x 0) (s.pos i)).symm
structure Eqv (p : Pl) (s t : Sy) : Prop where
  bef : ∀ m,m < p.ms.length→s.bef m=t.bef m
  slt : ∀ i,i < p.bs.length→∀ k,k≤p.rl i→slt p s i k=slt p t i k
  hal : s.hal=t.hal
  fed : s.fed=t.fed
theorem Eqv.refl (p : Pl) (s : Sy) : Eqv p s s:=⟨fun _ _=>rfl,fun _ _ _ _=>rfl,rfl,rfl⟩
theorem Eqv.symm {p : Pl} {s t : Sy} (h : Eqv p s t) : Eqv p t s:=⟨fun m hm=>(h.bef m hm).symm,fun i hi k hk=>(h.slt i hi k hk).symm,h.hal.symm,h.fed.symm⟩
theorem Eqv.trans {p : Pl} {s t u : Sy} (h : Eqv p s t) (g : Eqv p t u) : Eqv p s u:=⟨fun m hm=>(h.bef m hm).trans (g.bef m hm),fun i hi k hk=>(h.slt i hi k hk).trans (g.slt i hi k hk),h.hal.trans g.hal,h.fed.trans g.fed⟩
theorem Eqv.arr {p : Pl} {s t : Sy} (h : Eqv p s t) {m : Nat} (hm : m < p.ms.length) : arrL p s m=arrL p t m:=by
  unfold arrL arrK
  refine tb_ext fun x _=>?_
  rw [h.bef m hm]
  congr 1
  refine sm_congr fun i hi=>?_
  rw [out_slt,out_slt,h.slt i hi _ (Nat.le_refl _)]
theorem Eqv.runs {p : Pl} {s t : Sy} (h : Eqv p s t) (m : Nat) : runs p s m=runs p t m:=by unfold Go.Proofs.Ytcppaddgclkekaa.runs; rw [h.hal]
theorem Eqv.stp {p : Pl} (hp : pcheck p=0) {s t : Sy} (hs : Gd p s) (ht : Gd p t) (h : Eqv p s t) : Eqv p (stpS p s) (stpS p t):=by
  have ok:=pcheck_ok hp
  refine ⟨fun m hm=>?_,fun i hi k hk=>?_,?_,?_⟩
  · rw [stp_bef ok hs hm,stp_bef ok ht hm,h.arr hm]; simp only [h.runs m]
  · cases k with
    | zero=>rw [stp_slt0 ok hs hi,stp_slt0 ok ht hi,h.arr (fr_lt ok hi)]; simp only [h.runs (frS p i)]
    | succ k=>rw [stp_sltS hi (by omega),stp_sltS hi (by omega)]; exact h.slt i hi k (by omega)
  · rw [(hs.stp hp).2.2.1,(ht.stp hp).2.2.1,h.hal]
  · rw [(hs.stp hp).2.2.2,(ht.stp hp).2.2.2,h.fed]
theorem Eqv.it {p : Pl} (hp : pcheck p=0) {s t : Sy} (hs : Gd p s) (ht : Gd p t) (h : Eqv p s t) : ∀ k,Eqv p (itS p s k) (itS p t k)
  | 0=>h
  | k+1=>Eqv.stp hp (hs.it hp k).1 (ht.it hp k).1 (Eqv.it hp hs ht h k)
theorem Eqv.ins {p : Pl} {s t : Sy} (h : Eqv p s t) (x : Nat) : insT p s x=insT p t x:=by
  unfold insT
  congr 1
  · exact sm_congr fun m hm=>by unfold inM; rw [h.bef m hm]
  · exact sm_congr fun i hi => by
      rw [inB_slt,inB_slt]
      exact sm_congr fun k hk=>by rw [h.slt i hi k (by omega)]
theorem Eqv.insL {p : Pl} {s t : Sy} (h : Eqv p s t) : insL p s=insL p t:=tb_ext fun x _=>h.ins x
theorem Eqv.tot {p : Pl} {s t : Sy} (h : Eqv p s t) (x : Nat) : tot p s x=tot p t x:=by
  unfold Go.Proofs.Ytcppaddgclkekaa.tot
  have h1 : befT p s x=befT p t x:=sm_congr fun m hm=>by rw [h.bef m hm]
  have h2 : ∀ u : Sy,fstT p u x+rngT p u x=sm p.bs.length (inB p u x):=fun u=>by
    unfold fstT rngT; rw [← sm_add]; exact sm_congr fun i _=>rfl
  have h3:=h2 s
  have h4:=h2 t
  have h5 : sm p.bs.length (inB p s x)=sm p.bs.length (inB p t x):=sm_congr fun i hi=>by
    rw [inB_slt,inB_slt]
    exact sm_congr fun k hk=>by rw [h.slt i hi k (by omega)]
  omega
theorem sm_zero_all {n : Nat} {f : Nat→Int} (h : ∀ i,i < n→0≤f i) (hz : sm n f=0) {i : Nat} (hi : i < n) : f i=0:=by
  have:=sm_le h hi
  have:=h i hi
  omega
theorem nil_zero {n : Nat} {l : List Int} (hl : l.length=n) (h : ∀ x,l.getD x 0=0) : l=zeros n :=
  eq_of_getB 0 (by rw [hl]; simp [zeros]) fun x _=>by rw [h x,zeros_get]
theorem emp_bef {p : Pl} {s : Sy} (h : Gd p s) (hz : ∀ x,insT p s x=0) {m : Nat} (hm : m < p.ms.length) (hb : ¬ binN p m) : s.bef m=zeros p.mt:=by
  refine nil_zero (h.bl m hm).1 fun x=>?_
  have h1:=sm_nn (inM_nn h x)
  have h2:=sm_nn (inB_nn h x)
  have h3:=hz x
  unfold insT at h3
  have h4:=sm_zero_all (inM_nn h x) (by omega) hm
  unfold inM at h4
  rwa [if_neg (show ¬ outsN (p.ms.getD m [])=0 from hb)] at h4
theorem slt_ok {p : Pl} {s : Sy} (h : Gd p s) {i k : Nat} (hi : i < p.bs.length) (hk : k≤p.rl i) : (slt p s i k).length=p.mt∧∀ x,0≤(slt p s i k).getD x 0:=by
  cases k with
  | zero=>exact h.fl i hi
  | succ k=>exact h.rl i hi _ (Nat.mod_lt _ (by omega))
theorem emp_slt {p : Pl} {s : Sy} (h : Gd p s) (hz : ∀ x,insT p s x=0) {i k : Nat} (hi : i < p.bs.length) (hk : k≤p.rl i) : slt p s i k=zeros p.mt:=by
  refine nil_zero (slt_ok h hi hk).1 fun x=>?_
  have h1:=sm_nn (inM_nn h x)
  have h2:=sm_nn (inB_nn h x)
  have h3:=hz x
  unfold insT at h3
  have h4:=sm_zero_all (inB_nn h x) (by omega) hi
  rw [inB_slt] at h4
  exact sm_zero_all (n:=p.rl i+1) (f:=fun k=>(slt p s i k).getD x 0) (fun q hq=>(slt_ok h hi (by omega)).2 x) h4 (by omega)
theorem emp_arr {p : Pl} {s : Sy} (h : Gd p s) (hz : ∀ x,insT p s x=0) {m : Nat} (hm : m < p.ms.length) : arrL p s m=s.bef m:=by
  refine eq_of_getB 0 (by unfold arrL arrK; rw [tb_len,(h.bl m hm).1]) fun x hx=>?_
  unfold arrL arrK at hx ⊢
  rw [tb_len] at hx
  rw [tb_get _ _ _ hx,sm_congr (g:=fun _=>0) fun i hi=>by rw [out_slt,emp_slt h hz hi (Nat.le_refl _),zeros_get]; split<;>rfl,sm_zero]; omega
theorem prt_zero {p : Pl} (hp : pcheck p=0) {m : Nat} (hm : m < p.ms.length) (hb : ¬ binN p m) {o : Nat} (ho : o < outsN (p.ms.getD m [])) : prtL p m (zeros p.mt) o=zeros p.mt:=by
  have hx : MixOk p.mt ((newS p).bef m):=zeros_ok _
  have h1:=prt_ok hp hm hb hx ho
  refine nil_zero h1.1 fun x=>?_
  have h2:=prt_sum hp hm hb hx x
  have h3 : ((newS p).bef m).getD x 0=0:=zeros_get _ _
  rw [h3] at h2
  exact sm_zero_all (f:=fun o=>(prt p (newS p) m o).getD x 0) (fun o ho=>((prt_ok hp hm hb hx ho).2 x).1) h2 ho
theorem emp_fix {p : Pl} (hp : pcheck p=0) {s : Sy} (h : Gd p s) (hz : ∀ x,insT p s x=0) : Eqv p (stpS p s) s:=by
  have ok:=pcheck_ok hp
  refine ⟨fun m hm=>?_,fun i hi k hk=>?_,(h.stp hp).2.2.1,(h.stp hp).2.2.2⟩
  · rw [stp_bef ok h hm]
    split
    · rename_i hr
      exact (emp_bef h hz hm fun hb=>hr (.inl hb)).symm
    · exact emp_arr h hz hm
  · rw [emp_slt h hz hi hk]
    cases k with
    | zero =>
      rw [stp_slt0 ok h hi]
      split
      · rename_i hr
        have hb : ¬ binN p (frS p i):=fun hb=>hr (.inl hb)
        have hf:=fr_lt ok hi
        have hbt:=ok.bt _ (mem_get b0 hi)
        rw [emp_arr h hz hf,emp_bef h hz hf hb]
        exact prt_zero hp hf hb (by unfold otS frS; omega)
      · rfl
    | succ k=>rw [stp_sltS hi (by omega)]; exact emp_slt h hz hi (by omega)
theorem emp_it {p : Pl} (hp : pcheck p=0) {s : Sy} (h : Gd p s) (hz : ∀ x,insT p s x=0) : ∀ k,Eqv p (itS p s k) s
  | 0=>Eqv.refl p s
  | k+1=>(Eqv.stp hp (h.it hp k).1 h (emp_it hp h hz k)).trans (emp_fix hp h hz)
theorem it_add (p : Pl) (s : Sy) (j : Nat) : ∀ k,itS p s (j+k)=itS p (itS p s j) k
  | 0=>rfl
  | k+1=>by rw [← Nat.add_assoc]; simp only [itS]; rw [it_add p s j k]
theorem run_eqv {p : Pl} (hp : pcheck p=0) {s : Sy} (h : Gd p s) {k n : Nat} (hk : k≤n) (hz : k=n∨∀ x,insT p (itS p s k) x=0) : Eqv p (itS p s k) (itS p s n):=by
  rcases hz with rfl | hz
  · exact Eqv.refl _ _
  · rw [show n=k+(n - k) by omega,it_add]
    exact (emp_it hp (h.it hp k).1 hz (n - k)).symm
def rcv (p : Pl) (s : Sy) (m : Nat) (x : Nat) : Int:=sm p.bs.length fun i=>if tpS p i=m then (outM p s i).getD x 0 else 0
theorem rcv_nn {p : Pl} {s : Sy} (h : Gd p s) (m x i : Nat) (hi : i < p.bs.length) : 0≤(if tpS p i=m then (outM p s i).getD x 0 else 0):=by
  split
  · exact ((h.ok.out hi).2 x).1
  · omega
theorem rcv_ge {p : Pl} {s : Sy} (h : Gd p s) (x : Nat) {i : Nat} (hi : i < p.bs.length) : (outM p s i).getD x 0≤rcv p s (tpS p i) x:=by
  have:=sm_le (f:=fun j=>if tpS p j=tpS p i then (outM p s j).getD x 0 else 0) (fun j hj=>rcv_nn h _ x j hj) hi
  rw [if_pos rfl] at this; exact this
theorem arr_get {p : Pl} {s : Sy} (h : Gd p s) {m : Nat} (hm : m < p.ms.length) (x : Nat) : (arrL p s m).getD x 0=(s.bef m).getD x 0+rcv p s m x:=by
  unfold arrL arrK
  by_cases hx : x < p.mt
  · rw [tb_get _ _ _ hx]; rfl
  · rw [get_out (n:=p.mt) (tb_len _ _) (by omega),get_out (h.bl m hm).1 (by omega)]
    unfold rcv
    rw [sm_congr (g:=fun _=>0) fun i hi=>by
      split
      · exact get_out (h.ok.out hi).1 (by omega)
      · rfl,sm_zero]; rfl
theorem arr_ok {p : Pl} (ok : POk p) {s : Sy} (h : Gd p s) {m : Nat} (hm : m < p.ms.length) : MixOk p.mt (arrL p s m):=by
  have:=(h.mvK ok p.bs.length (Nat.le_refl _)).1.ok.bef m hm
  rw [mvK_bef ok h hm _ (Nat.le_refl _)] at this; exact this
def binT (p : Pl) (s : Sy) (x : Nat) : Int:=sm p.ms.length fun m=>if outsN (p.ms.getD m [])=0 then (s.bef m).getD x 0 else 0
theorem tot_ins (p : Pl) (s : Sy) (x : Nat) : tot p s x=insT p s x+binT p s x:=by
  unfold tot insT binT befT
  have h1 : (sm p.ms.length fun m=>(s.bef m).getD x 0)=sm p.ms.length (inM p s x)+sm p.ms.length fun m=>if outsN (p.ms.getD m [])=0 then (s.bef m).getD x 0 else 0:=by
    rw [← sm_add]
    refine sm_congr fun m hm=>?_
    unfold inM; split<;>omega
  have h2 : fstT p s x+rngT p s x=sm p.bs.length (inB p s x):=by
    unfold fstT rngT; rw [← sm_add]; exact sm_congr fun i _=>rfl
  omega
theorem bin_stp {p : Pl} (ok : POk p) {s : Sy} (h : Gd p s) (x : Nat) : binT p (stpS p s) x=binT p s x+sm p.ms.length fun m=>if outsN (p.ms.getD m [])=0 then rcv p s m x else 0:=by
  unfold binT
  rw [← sm_add]
  refine sm_congr fun m hm=>?_
  split
  · rename_i hb
    rw [stp_bef ok h hm,if_neg (fun hr=>hr (.inl hb)),arr_get h hm]
  · rfl
theorem bin_nn {p : Pl} {s : Sy} (h : Gd p s) (x m : Nat) : 0≤(if outsN (p.ms.getD m [])=0 then rcv p s m x else 0):=by
  split
  · exact sm_nn fun i hi=>rcv_nn h m x i hi
  · omega
theorem ins_stp {p : Pl} (hp : pcheck p=0) {s : Sy} (h : Gd p s) (x : Nat) : insT p (stpS p s) x≤insT p s x∧∀ b,b < p.ms.length→binN p b→insT p (stpS p s) x≤insT p s x - rcv p s b x:=by
  have h1:=(h.stp hp).2.1 x
  rw [tot_ins,tot_ins,bin_stp (pcheck_ok hp) h] at h1
  have h2:=sm_nn (n:=p.ms.length) (f:=fun m=>if outsN (p.ms.getD m [])=0 then rcv p s m x else 0) fun m _=>bin_nn h x m
  refine ⟨by omega,fun b hb hbin=>?_⟩
  have h3:=sm_le (f:=fun m=>if outsN (p.ms.getD m [])=0 then rcv p s m x else 0) (fun m _=>bin_nn h x m) hb
  rw [if_pos (show outsN (p.ms.getD b [])=0 from hbin)] at h3
  omega
theorem ins_it {p : Pl} (hp : pcheck p=0) {s : Sy} (h : Gd p s) (x : Nat) : ∀ k j,insT p (itS p s (j+k)) x≤insT p (itS p s j) x
  | 0,j=>Int.le_refl _
  | k+1,j=>Int.le_trans (ins_stp hp (h.it hp (j+k)).1 x).1 (ins_it hp h x k j)
theorem posR_next (p : Pl) (mt : Int) (i : Nat) : ∀ j,posR p mt (nx p mt i) j=posR p mt i (j+1)
  | 0=>rfl
  | j+1=>by simp only [posR,posR_next p mt i j]
theorem farR_next (p : Pl) (mt : Int) (i : Nat) : ∀ j,farR p mt i (j+1)=lx p mt i+farR p mt (nx p mt i) j
  | 0=>by simp [farR,posR]
  | j+1=>by
    have:=farR_next p mt i j
    simp only [farR] at this ⊢
    rw [posR_next,Int.add_assoc,← Int.add_assoc,← Int.add_assoc]
    simp only [posR] at this ⊢
    omega
theorem way_next {p : Pl} (h : POk p) {mt : Int} (h0 : 0 ≤ mt) (h1 : mt < p.mat) {i : Nat} (hi : i < p.ms.length) (hb : ¬ binN p i) (hw : (wayV p mt i).2 = true) :
    (wayV p mt (nx p mt i)).2=true∧(wayV p mt i).1=(wayV p mt (nx p mt i)).1+lx p mt i∧0≤(wayV p mt (nx p mt i)).1:=by
  have hn:=(out_ok h h0 h1 hi hb).2.2.2.1
  have hn2:=h.n2
  rcases wayR_cases h h0 h1 hi with ⟨k,k1,k2,k3,k4⟩ | ⟨k1,k2⟩
  · match k,k1,k2,k3,k4 with
    | 0,_,_,k3,_=>exact (hb k3).elim
    | k+1,k1,k2,k3,k4 =>
      have c1 : ∀ j,j < k→¬ binN p (posR p mt (nx p mt i) j):=fun j hj=>by rw [posR_next]; exact k2 (j+1) (by omega)
      have c2 : binN p (posR p mt (nx p mt i) k):=by rw [posR_next]; exact k3
      have c3:=wayR_of (f:=p.ms.length) (by omega) c1 c2
      have c4:=farR_bd h h0 h1 hn k c1
      unfold wayV
      rw [k4,c3,farR_next]
      exact ⟨rfl,by simp only; omega,c4.1⟩
  · unfold wayV at hw
    rw [k2] at hw; cases hw
theorem way_far {p : Pl} (h : POk p) {mt : Int} (h0 : 0≤mt) (h1 : mt < p.mat) {i : Nat} (hi : i < p.ms.length) (hw : (wayV p mt i).2=true) : 0≤(wayV p mt i).1∧(wayV p mt i).1≤16*p.ms.length:=by
  rcases wayR_cases h h0 h1 hi with ⟨k,k1,k2,k3,k4⟩ | ⟨k1,k2⟩
  · have:=farR_bd h h0 h1 hi k k2
    unfold wayV
    rw [k4]
    simp only; omega
  · unfold wayV at hw
    rw [k2] at hw; cases hw
theorem belt_way {p : Pl} {s : Sy} {i : Nat} (hi : i < p.bs.length) (j k : Nat) : ∀ d,k+d≤p.rl i→slt p (itS p s (j+d)) i (k+d)=slt p (itS p s j) i k
  | 0,_=>rfl
  | d+1,hd=>by
    rw [← Nat.add_assoc,← Nat.add_assoc]
    simp only [itS]
    rw [stp_sltS hi (by omega)]; exact belt_way hi j k d (by omega)
theorem belt_end {p : Pl} {s : Sy} {i k : Nat} (hi : i < p.bs.length) (hk : k≤p.rl i) (j : Nat) : outM p (itS p s (j+(p.rl i - k))) i=slt p (itS p s j) i k:=by
  have:=belt_way (p:=p) (s:=s) hi j k (p.rl i - k) (by omega)
  rw [show k+(p.rl i - k)=p.rl i by omega] at this
  rw [out_slt,this]
theorem prt_main {p : Pl} (hp : pcheck p=0) {m x : Nat} (hm : m < p.ms.length) (hb : ¬ binN p m) {l : List Int} (hl : MixOk p.mt l) (hx : x < p.mt) (h1 : 1≤l.getD x 0) : 1≤(prtL p m l (mainN (p.ms.getD m []) x).toNat).getD x 0:=by
  obtain ⟨z1,z2,z3⟩:=msE_zero (msE_good hp hm hb hl)
  have ok:=pcheck_ok hp
  obtain ⟨m1,m2,m3⟩:=ok.mt1
  have hxl : x < l.length:=by rw [hl.1]; exact hx
  have hk : x < (p.ms.getD m []).length:=by have:=z1.len; omega
  have d:=divM_ok z1 z2 hk (z3 x hxl)
  obtain ⟨g1,g2,g3⟩:=mainN_ok (ok.mc _ (mem_get [] hm)) hb (k:=x) (by omega) (by omega)
  unfold prtL
  rw [msM_at _ _ (by omega) hxl]
  exact d.first (by omega)
def noH (s : Sy) : Prop:=∀ m : Nat,s.hal.getD m false=false
theorem noH_it {p : Pl} (hp : pcheck p=0) {s : Sy} (h : Gd p s) (hh : noH s) (k : Nat) : noH (itS p s k):=fun m=>by rw [(h.it hp k).2.2.1]; exact hh m
theorem way_out {p : Pl} (hc : chkP p = 0) {s : Sy} (h : Gd p s) (hh : noH s) {x : Nat} (hx : x < p.mt) : ∀ (n m j : Nat), m < p.ms.length → ¬ binN p m → (wayV p x m).1 = n → 1 ≤ (arrL p (itS p s j) m).getD x 0 →
    ∃ t b,t≤j+n∧b < p.ms.length∧binN p b∧1≤rcv p (itS p s t) b x:=by
  obtain ⟨hp,hd⟩:=chkP_ok hc
  have ok:=pcheck_ok hp
  obtain ⟨m1,m2,m3⟩:=ok.mt1
  have hdr:=(drB_iff ok).1 hd
  intro n
  induction n using Nat.strongRecOn with
  | ind n ih =>
    intro m j hm hb hn ha
    obtain ⟨o1,o2,o3,o4,o5,o6,o7⟩:=out_ok ok (mt:=x) (by omega) (by omega) hm hb
    obtain ⟨w1,w2,w3⟩:=way_next ok (mt:=x) (by omega) (by omega) hm hb (hdr m hm x (by omega))
    obtain ⟨f1,f2,f3⟩:=findB_ok o1
    have hgj:=(h.it hp j).1
    have hrl : (p.rl (outB p x m) : Int)+1=lx p x m:=by
      have : lx p x m=(p.bs.getD (outB p x m) b0).ln:=rfl
      unfold Pl.rl; omega
    have hfr : frS p (outB p x m)=m:=by unfold frS; rw [o3]; rfl
    have hot : otS p (outB p x m)=(mainN (p.ms.getD m []) x).toNat:=by
      unfold otS outB; rw [f3]
    have hto : tpS p (outB p x m)=nx p x m:=rfl
    have hs0 : 1≤(slt p (itS p s (j+1)) (outB p x m) 0).getD x 0:=by
      show 1≤(slt p (stpS p (itS p s j)) (outB p x m) 0).getD x 0
      rw [stp_slt0 ok hgj o2,hfr,if_pos,hot]
      · exact prt_main hp hm hb (arr_ok ok hgj hm) hx ha
      · rintro (h1 | h1)
        · exact hb h1
        · rw [noH_it hp h hh j m] at h1; cases h1
    have he:=belt_end (p:=p) (s:=s) o2 (Nat.zero_le _) (j+1)
    rw [← he] at hs0
    have hg2:=(h.it hp (j+1+(p.rl (outB p x m) - 0))).1
    have hr:=rcv_ge hg2 x o2
    rw [hto] at hr
    by_cases hbn : binN p (nx p x m)
    · exact ⟨j+1+(p.rl (outB p x m) - 0),nx p x m,by omega,o4,hbn,by omega⟩
    · have hq:=out_ok ok (mt:=x) (by omega) (by omega) o4 hbn
      have ha2:=arr_get hg2 o4 x
      have hbb:=(hg2.bl _ o4).2 x
      obtain ⟨t,b,t1,t2,t3,t4⟩:=ih (wayV p x (nx p x m)).1.toNat (by omega) (nx p x m) _ o4 hbn (by omega) (by omega : 1≤(arrL p (itS p s (j+1+(p.rl (outB p x m) - 0))) (nx p x m)).getD x 0)
      exact ⟨t,b,by omega,t2,t3,t4⟩
theorem mxN_ge {n : Nat} {f : Nat→Int} : ∀ {i : Nat},i < n→f i≤mxN n f:=by
  induction n with
  | zero=>intro i hi; omega
  | succ n ih =>
    intro i hi
    simp only [mxN]
    by_cases e : i=n
    · subst e; exact Int.le_max_right _ _
    · exact Int.le_trans (ih (by omega)) (Int.le_max_left _ _)
theorem hgI_ge (p : Pl) (m : Nat) (h0 : Int) : ∀ k,h0≤hgI p m h0 k∧∀ x,x < k→(heightR p m x).1≤hgI p m h0 k
  | 0=>⟨Int.le_refl _,fun x hx=>by omega⟩
  | k+1=>by
    have ih:=hgI_ge p m h0 k
    simp only [hgI]
    refine ⟨Int.le_trans ih.1 (Int.le_max_left _ _),fun x hx=>?_⟩
    by_cases e : x=k
    · subst e; exact Int.le_max_right _ _
    · exact Int.le_trans (ih.2 x (by omega)) (Int.le_max_left _ _)
theorem hgO_ge (p : Pl) {x : Nat} (hx : x < p.mt) : ∀ (n m : Nat),m < n→(heightR p m x).1≤hgO p n
  | 0,m,h=>by omega
  | n+1,m,h=>by
    simp only [hgO]
    by_cases e : m=n
    · subst e; exact (hgI_ge p m _ _).2 x hx
    · exact Int.le_trans (hgO_ge p hx n m (by omega)) (hgI_ge p n _ _).1
theorem height_way {p : Pl} (hp : pcheck p=0) {m x : Nat} (hm : m < p.ms.length) (hx : x < p.mt) (hw : (wayV p x m).2=true) : (heightR p m x).1=(wayV p x m).1:=by
  obtain ⟨m1,m2,m3⟩:=(pcheck_ok hp).mt1
  unfold heightR
  rw [if_neg (fun hc=>hc hp),if_neg (by omega),if_neg (by omega),Int.toNat_natCast,hw,if_neg (by decide)]
theorem hgI_le {p : Pl} (hc : chkP p=0) {m : Nat} (hm : m < p.ms.length) {h0 : Int} (hh : h0≤16*p.ms.length) : ∀ k,k≤p.mt→hgI p m h0 k≤16*p.ms.length
  | 0,_=>hh
  | k+1,hk=>by
    obtain ⟨hp,hd⟩:=chkP_ok hc
    have ok:=pcheck_ok hp
    obtain ⟨m1,m2,m3⟩:=ok.mt1
    have ih:=hgI_le hc hm hh k (by omega)
    have hw:=(drB_iff ok).1 hd m hm k (by omega)
    have h1:=height_way hp hm (x:=k) (by omega) hw
    have h2:=way_far ok (mt:=k) (by omega) (by omega) hm hw
    simp only [hgI]
    omega
theorem per_le {p : Pl} (hc : chkP p=0) : 0≤perP p∧perP p≤16*p.ms.length+16:=by
  have q1:=lng_bd (pcheck_ok (chkP_ok hc).1) p.bs.length (Nat.le_refl _)
  have q2 : ∀ n,n≤p.ms.length→0≤hgO p n∧hgO p n≤16*p.ms.length:=by
    intro n
    induction n with
    | zero=>intro _; simp [hgO]; omega
    | succ n ih =>
      intro hn
      exact ⟨(hgO_bd hc (n+1) hn).1,hgI_le hc (by omega) (ih (by omega)).2 _ (Nat.le_refl _)⟩
  have:=q2 p.ms.length (Nat.le_refl _)
  unfold perP; omega
theorem sm_pos {n : Nat} {f : Nat→Int} (h : ∀ i,i < n→0≤f i) (hp : 0 < sm n f) : ∃ i,i < n∧0 < f i:=by
  apply Classical.byContradiction
  intro hc
  have : sm n f=0:=by
    rw [sm_congr (g:=fun _=>0) fun i hi=>by
      have:=h i hi
      have : ¬ 0 < f i:=fun h1=>hc ⟨i,hi,h1⟩
      omega,sm_zero]
  omega
theorem per_out {p : Pl} (hc : chkP p=0) {s : Sy} (h : Gd p s) (hh : noH s) {x : Nat} (hx : 0 < insT p s x) : insT p (itS p s (perP p).toNat) x+1≤insT p s x:=by
  obtain ⟨hp,hd⟩:=chkP_ok hc
  have ok:=pcheck_ok hp
  obtain ⟨m1,m2,m3⟩:=ok.mt1
  have hdr:=(drB_iff ok).1 hd
  have hper:=per_le hc
  have hlng:=lng_bd ok p.bs.length (Nat.le_refl _)
  have hxm : x < p.mt:=by
    apply Classical.byContradiction
    intro hcx
    have e1 : sm p.ms.length (inM p s x)=0:=by
      rw [sm_congr (g:=fun _=>0) fun m hm=>by unfold inM; split; rfl; exact get_out (h.bl m hm).1 (by omega),sm_zero]
    have e2 : sm p.bs.length (inB p s x)=0:=by
      rw [sm_congr (g:=fun _=>0) fun i hi=>by
        rw [inB_slt,sm_congr (g:=fun _=>0) fun k hk=>get_out (slt_ok h hi (by omega)).1 (by omega),sm_zero],sm_zero]
    unfold insT at hx; omega
  have hhg : ∀ m,m < p.ms.length→0≤(wayV p x m).1∧(wayV p x m).1≤hgO p p.ms.length:=fun m hm=>by
    have hw:=hdr m hm x (by omega)
    have h1:=height_way hp hm hxm hw
    have h2:=hgO_ge p hxm p.ms.length m hm
    have h3:=way_far ok (mt:=x) (by omega) (by omega) hm hw
    omega
  have hln : ∀ i,i < p.bs.length→(p.rl i : Int)+1≤lngP p p.bs.length:=fun i hi=>by
    have h1:=mxN_ge (f:=fun i=>(p.bs.getD i b0).ln) hi
    have h2:=ok.bt _ (mem_get b0 hi)
    unfold lngP Pl.rl; omega
  have key : ∃ t b : Nat,(t : Int) < perP p∧b < p.ms.length∧binN p b∧1≤rcv p (itS p s t) b x:=by
    unfold insT at hx
    by_cases h1 : 0 < sm p.ms.length (inM p s x)
    · obtain ⟨m,hm,h2⟩:=sm_pos (inM_nn h x) h1
      unfold inM at h2
      by_cases hb : outsN (p.ms.getD m [])=0
      · rw [if_pos hb] at h2; omega
      · rw [if_neg hb] at h2
        have ha:=arr_get h hm x
        have hr : 0≤rcv p s m x:=sm_nn fun i hi=>rcv_nn h m x i hi
        obtain ⟨t,b,t1,t2,t3,t4⟩:=way_out hc h hh hxm (wayV p x m).1.toNat m 0 hm hb (by have:=hhg m hm; omega) (by show 1≤(arrL p s m).getD x 0; omega)
        have h3:=hhg m hm
        have h4:=out_ok ok (mt:=x) (by omega) (by omega) hm hb
        have h5:=hln _ h4.2.1
        exact ⟨t,b,by unfold perP; omega,t2,t3,t4⟩
    · have h2:=sm_nn (inM_nn h x)
      obtain ⟨i,hi,h3⟩:=sm_pos (inB_nn h x) (by omega)
      rw [inB_slt] at h3
      obtain ⟨k,hk,h4⟩:=sm_pos (fun k hk=>(slt_ok h hi (by omega)).2 x) h3
      have he:=belt_end (p:=p) (s:=s) hi (k:=k) (by omega) 0
      have hg2:=(h.it hp (0+(p.rl i - k))).1
      have hr:=rcv_ge hg2 x hi
      rw [he] at hr
      have hr1 : (slt p (itS p s 0) i k).getD x 0=(slt p s i k).getD x 0:=rfl
      have ht:=tp_lt ok hi
      have hl:=hln i hi
      by_cases hb : binN p (tpS p i)
      · exact ⟨0+(p.rl i - k),tpS p i,by have:=hhg _ ht; unfold perP; omega,ht,hb,by omega⟩
      · have ha:=arr_get hg2 ht x
        have hbb:=(hg2.bl _ ht).2 x
        have h5:=hhg _ ht
        obtain ⟨t,b,t1,t2,t3,t4⟩:=way_out hc h hh hxm (wayV p x (tpS p i)).1.toNat (tpS p i) (0+(p.rl i - k)) ht hb (by omega) (by omega)
        exact ⟨t,b,by unfold perP; omega,t2,t3,t4⟩
  obtain ⟨t,b,t1,t2,t3,t4⟩:=key
  have h1:=(ins_stp hp (h.it hp t).1 x).2 b t2 t3
  have h2:=ins_it hp h x t 0
  rw [Nat.zero_add] at h2
  have h3:=ins_it hp h x ((perP p).toNat - (t+1)) (t+1)
  rw [show t+1+((perP p).toNat - (t+1))=(perP p).toNat by omega] at h3
  have h4 : insT p (itS p s (t+1)) x=insT p (stpS p (itS p s t)) x:=rfl
  have h5 : insT p (itS p s 0) x=insT p s x:=rfl
  omega
def sumI (p : Pl) (s : Sy) : Int:=sm p.mt (insT p s)
theorem sumI_nn {p : Pl} {s : Sy} (h : Gd p s) : 0≤sumI p s:=sm_nn fun x _=>(ins_tot h x).2
theorem sm_mono {n : Nat} {f g : Nat→Int} (h : ∀ i,i < n→f i≤g i) : sm n f≤sm n g:=by
  induction n with
  | zero=>exact Int.le_refl _
  | succ n ih=>simp only [sm]; have:=ih fun i hi=>h i (by omega); have:=h n (by omega); omega
theorem sm_less {n : Nat} {f g : Nat→Int} (h : ∀ i,i < n→f i≤g i) {i : Nat} (hi : i < n) (hl : f i+1≤g i) : sm n f+1≤sm n g:=by
  induction n with
  | zero=>omega
  | succ n ih =>
    simp only [sm]
    by_cases e : i=n
    · subst e
      have:=sm_mono (n:=i) fun j hj=>h j (by omega)
      omega
    · have:=ih (fun j hj=>h j (by omega)) (by omega)
      have:=h n (by omega)
      omega
theorem sumI_it {p : Pl} (hp : pcheck p=0) {s : Sy} (h : Gd p s) (k : Nat) : sumI p (itS p s k)≤sumI p s:=sm_mono fun x _=>by
  have:=ins_it hp h x k 0
  rw [Nat.zero_add] at this; exact this
theorem sumI_per {p : Pl} (hc : chkP p=0) {s : Sy} (h : Gd p s) (hh : noH s) (hx : 0 < sumI p s) : sumI p (itS p s (perP p).toNat)+1≤sumI p s:=by
  obtain ⟨hp,_⟩:=chkP_ok hc
  obtain ⟨x,h1,h2⟩:=sm_pos (fun x _=>(ins_tot h x).2) hx
  refine sm_less (fun y _=>?_) h1 (per_out hc h hh h2)
  have:=ins_it hp h y (perP p).toNat 0
  rw [Nat.zero_add] at this; exact this
theorem sumI_bnd {p : Pl} (hc : chkP p=0) : ∀ (g : Nat) {s : Sy},Gd p s→noH s→sumI p s≤g→sumI p (itS p s (g*(perP p).toNat))=0
  | 0,s,h,hh,hg=>by
    have:=sumI_nn h
    rw [Nat.zero_mul]
    show sumI p s=0
    omega
  | g+1,s,h,hh,hg=>by
    obtain ⟨hp,_⟩:=chkP_ok hc
    rw [Nat.succ_mul,Nat.add_comm,it_add]
    have h1:=(h.it hp (perP p).toNat).1
    refine sumI_bnd hc g h1 (noH_it hp h hh _) ?_
    by_cases hx : 0 < sumI p s
    · have:=sumI_per hc h hh hx; omega
    · have:=sumI_it hp h (perP p).toNat; omega
end Go.Proofs.Ytcppaddgclkekaa
namespace Go.Proofs.Ytcppaddgclkekaa
open Go Go.Lft
set_option linter.unusedSimpArgs false
set_option linter.unusedVariables false
attribute [local congr] ob_congr bw_congr ib_congr ck_congr iwA_congr itA_congr aw_congr awp_congr sqA_congr bkA_congr vr_congr gd_congr
theorem fitE_ok {mt : Nat} {fed xs : List Int} (h : fitE mt fed xs=0) : MixOk mt xs∧∀ x,fed.getD x 0+xs.getD x 0≤1073741824∨mt≤x:=by
  have h1:=(fitE_zero h).2
  have hl:=(fitE_zero h).1
  refine ⟨h1,fun x=>?_⟩
  by_cases hx : x < mt
  · left
    unfold fitE at h
    split at h
    · cases h
    split at h
    · cases h
    split at h
    · cases h
    rename_i h3
    apply Classical.byContradiction
    intro hc
    exact h3 ⟨x,by omega,by omega⟩
  · right; omega
theorem feed_tot {p : Pl} (ok : POk p) {s : Sy} (h : Gd p s) {xs : List Int} (hx : xs.length=p.mt) (x : Nat) : tot p (feedS p s xs) x=tot p s x+xs.getD x 0:=by
  have hfd:=ok.fd
  have ht : p.fd.toNat < p.ms.length:=by omega
  have h1 : befT p (feedS p s xs) x=befT p s x+xs.getD x 0:=by
    unfold befT
    rw [sm_upd (fun m=>(s.bef m).getD x 0) (fun m=>((feedS p s xs).bef m).getD x 0) ht fun j hj _=>by simp only [feedS]; rw [updF_ne _ _ hj]]
    simp only [feedS,updF_same]
    rw [plus_get (h.bl _ ht).1 hx]; omega
  have h2 : fstT p (feedS p s xs) x=fstT p s x:=rfl
  have h3 : rngT p (feedS p s xs) x=rngT p s x:=rfl
  unfold tot; omega
def Iv (p : Pl) (s : Sy) : Prop:=Gd p s∧∀ x,tot p s x≤s.fed.getD x 0
theorem Iv.new (p : Pl) : Iv p (newS p):=⟨Gd.new p,fun x=>by rw [new_tot]; show (0 : Int)≤(zeros p.mt).getD x 0; rw [zeros_get]; exact Int.le_refl _⟩
theorem Iv.feed {p : Pl} (ok : POk p) {s : Sy} (h : Iv p s) {xs : List Int} (he : fitE p.mt s.fed xs=0) : Iv p (feedS p s xs):=by
  obtain ⟨g,hf⟩:=h
  obtain ⟨e1,e2⟩:=fitE_ok he
  have hfd:=ok.fd
  have ht : p.fd.toNat < p.ms.length:=by omega
  have hfed : ∀ x,(plusM s.fed xs).getD x 0=s.fed.getD x 0+xs.getD x 0:=fun x=>plus_get g.fd.1 e1.1 x
  have hbd : ∀ x,s.fed.getD x 0+xs.getD x 0≤1073741824:=fun x=>by
    rcases e2 x with h1 | h1
    · exact h1
    · rw [get_out g.fd.1 h1,get_out e1.1 h1]; omega
  refine ⟨⟨fun m hm=>?_,g.fl,g.rl,g.ps,g.hl,⟨by show (plusM s.fed xs).length=_; rw [plusM_len]; exact g.fd.1,fun x=>?_⟩,fun x=>?_⟩,fun x=>?_⟩
  · simp only [feedS]
    by_cases e : m=p.fd.toNat
    · rw [e,updF_same]
      have hb:=g.bl _ ht
      refine ⟨by rw [plusM_len]; exact hb.1,fun x=>?_⟩
      rw [plus_get hb.1 e1.1]
      have:=hb.2 x
      have:=(e1.2 x).1
      omega
    · rw [updF_ne _ _ e]; exact g.bl m hm
  · simp only [feedS]; rw [hfed]
    have:=hbd x
    have:=(g.fd.2 x).1
    have:=(e1.2 x).1
    omega
  · rw [feed_tot ok g e1.1]
    have:=hf x
    have:=hbd x
    omega
  · rw [feed_tot ok g e1.1]
    show _≤(plusM s.fed xs).getD x 0
    rw [hfed]
    have:=hf x
    omega
theorem take_tot {p : Pl} {s : Sy} (h : Gd p s) {m : Int} {xs : List Int} (he : takE p s m xs=0) (x : Nat) : tot p (takS s m xs) x=tot p s x - xs.getD x 0∧xs.length=p.mt∧0≤xs.getD x 0∧xs.getD x 0≤(s.bef m.toNat).getD x 0∧(m.toNat < p.ms.length∧0≤m)∧(dnM (s.bef m.toNat) xs xs.length).getD x 0=(s.bef m.toNat).getD x 0 - xs.getD x 0:=by
  unfold takE at he
  split at he
  · contradiction
  rename_i h1
  split at he
  · cases he
  rename_i h2
  split at he
  · cases he
  rename_i h3
  have hm : 0≤m∧m.toNat < p.ms.length:=by
    have h0:=Classical.not_not.1 h1
    unfold fndE at h0
    split at h0
    · cases h0
    · omega
  have hl : xs.length=p.mt:=by omega
  have hb:=h.bl _ hm.2
  have hd : (dnM (s.bef m.toNat) xs xs.length).getD x 0=(s.bef m.toNat).getD x 0 - xs.getD x 0:=by
    by_cases hx : x < p.mt
    · rw [dnM_get _ _ _ _ (by omega),if_pos (by omega)]
    · rw [get_out (n:=p.mt) (by rw [dnM_len]; exact hb.1) (by omega),get_out hb.1 (by omega),get_out hl (by omega)]; rfl
  have hxs : 0≤xs.getD x 0∧xs.getD x 0≤(s.bef m.toNat).getD x 0:=by
    by_cases hx : x < xs.length
    · have : ¬ badT (s.bef m.toNat) xs x:=fun hc=>h3 ⟨x,hx,hc⟩
      unfold badT at this; omega
    · rw [get_out rfl (by omega)]
      have:=hb.2 x
      omega
  refine ⟨?_,hl,hxs.1,hxs.2,⟨hm.2,hm.1⟩,hd⟩
  have h1 : befT p (takS s m xs) x=befT p s x - xs.getD x 0:=by
    unfold befT
    rw [sm_upd (fun m=>(s.bef m).getD x 0) (fun j=>((takS s m xs).bef j).getD x 0) hm.2 fun j hj _=>by simp only [takS]; rw [updF_ne _ _ hj]]
    simp only [takS,updF_same]
    rw [hd]; omega
  have h2 : fstT p (takS s m xs) x=fstT p s x:=rfl
  have h3 : rngT p (takS s m xs) x=rngT p s x:=rfl
  unfold tot; omega
theorem Iv.take {p : Pl} {s : Sy} (h : Iv p s) {m : Int} {xs : List Int} (he : takE p s m xs=0) : Iv p (takS s m xs):=by
  obtain ⟨g,hf⟩:=h
  have ht:=fun x=>take_tot g he x
  refine ⟨⟨fun j hj=>?_,g.fl,g.rl,g.ps,g.hl,g.fd,fun x=>?_⟩,fun x=>?_⟩
  · simp only [takS]
    by_cases e : j=m.toNat
    · rw [e,updF_same]
      have hb:=g.bl _ (ht 0).2.2.2.2.1.1
      refine ⟨by rw [dnM_len]; exact hb.1,fun x=>?_⟩
      have:=ht x
      rw [this.2.2.2.2.2]; omega
    · rw [updF_ne _ _ e]; exact g.bl j hj
  · have:=ht x
    have:=g.tt x
    omega
  · have:=ht x
    have:=hf x
    show _≤s.fed.getD x 0
    omega
theorem Iv.halt {p : Pl} {s : Sy} (h : Iv p s) (m : Int) (b : Bool) : Iv p (hltS s m b):=⟨⟨h.1.bl,h.1.fl,h.1.rl,h.1.ps,by simp only [hltS,List.length_set]; exact h.1.hl,h.1.fd,h.1.tt⟩,h.2⟩
theorem Iv.it {p : Pl} (hp : pcheck p=0) {s : Sy} (h : Iv p s) (k : Nat) : Iv p (itS p s k):=by
  obtain ⟨g1,g2,g3,g4⟩:=h.1.it hp k
  exact ⟨g1,fun x=>by rw [g2,g4]; exact h.2 x⟩
def loopP : Pl:=⟨1,[[[600,400]],[[]]],[⟨0,0,1,1⟩,⟨0,1,0,2⟩],0⟩
theorem loop_chk : chkP loopP=0:=by decide +kernel
theorem PM.nftp {H : List Blk} {p : Pl} {ad : Ad} {s : Sy} (h : PM H p ad s) {j : Nat} (hj : H.length≤j) : ¬ ftp p ad j:=by
  rintro ⟨c,hc,he⟩
  have:=h.lt hc
  omega
theorem nftp_lo {p : Pl} {ad : Ad} {n j : Nat} (h : ∀ c,usd p c=true→n≤(ad c).1) (hj : j < n) : ¬ ftp p ad j:=by
  rintro ⟨c,hc,he⟩
  have:=h c hc
  omega
def litP (p : Pl) : Prop:=p.ms.length≤12∧p.bs.length≤24
instance (p : Pl) : Decidable (litP p):=inferInstanceAs (Decidable (_∧_))
theorem insL_len (p : Pl) (s : Sy) : (insL p s).length=p.mt:=tb_len _ _
theorem Eqv.sumI {p : Pl} {s t : Sy} (h : Eqv p s t) : sumI p s=sumI p t:=sm_congr fun x _=>h.ins x
theorem noH_new (p : Pl) : noH (newS p):=fun m=>by
  simp only [newS,List.getD_eq_getElem?_getD,List.getElem?_replicate]
  split<;>rfl

def befL (p : Pl) (s : Sy) : List (List Int):=(List.range p.ms.length).map s.bef
def belM (p : Pl) (s : Sy) (i : Nat) : List (List Int):=(List.range (p.rl i+1)).map (slt p s i)
def belL (p : Pl) (s : Sy) : List (List (List Int)):=(List.range p.bs.length).map (belM p s)
def mxs (l : List (List (List Int))) : List A:=l.map mxF
def stC (p : Pl) (s : Sy) : List A:=[.v (.int .i64 p.mt),.fs true (mcs true p.ms),.fs true (bts p.bs),.v (.int .i64 p.fd),.fs true (rows true (befL p s)),.fs true (mxs (belL p s)),.fs true (bools s.hal),.fs true (ints s.fed)]
abbrev stA (p : Pl) (s : Sy) : A:=.agg (stC p s)
inductive Rc where
  | out | bef | hal | bel | sl (i : Nat)
  deriving DecidableEq
abbrev Rd:=Rc→Nat×Nat
structure Rs where
  bc : Nat→A
  hl : Nat→Bool
  sc : Nat→Nat→A
  fd : List Int
def usR (b : Nat) : Rc→Bool
  | .sl i=>decide (i < b)
  | _=>true
def outC (p : Pl) (k b : Nat) (ad : Rd) (fd : List Int) : List A:=[.v (.int .i64 p.mt),.fs true (mcs true p.ms),.fs true (bts p.bs),.v (.int .i64 p.fd),.vs (ad .bef).1 (ad .bef).2 1 k,.vs (ad .bel).1 (ad .bel).2 1 b,.vs (ad .hal).1 (ad .hal).2 1 k,.fs true (ints fd)]
def celB (p : Pl) (ad : Rd) (i : Nat) : A:=.sl (ad (.sl i)).1 (ad (.sl i)).2 1 0 (p.rl i+1)
def ctR (p : Pl) (k b : Nat) (ad : Rd) (r : Rs) : Rc→List A
  | .out=>outC p k b ad r.fd
  | .bef=>(List.range k).map r.bc
  | .hal=>bools ((List.range k).map r.hl)
  | .bel=>(List.range b).map (celB p ad)
  | .sl i=>(List.range (p.rl i+1)).map (r.sc i)
structure RM (K : List Blk) (p : Pl) (k b : Nat) (ad : Rd) (r : Rs) : Prop where
  get : ∀ c,usR b c=true→blkAt K (ad c).1 (ad c).2=some (ctR p k b ad r c)
  inj : ∀ c d,usR b c=true→usR b d=true→(ad c).1=(ad d).1→c=d
  zr : (ad .out).2=0
theorem RM.lt {K : List Blk} {p : Pl} {k b : Nat} {ad : Rd} {r : Rs} (h : RM K p k b ad r) {c : Rc} (hc : usR b c=true) : (ad c).1 < K.length:=blkAt_lt (h.get c hc)
theorem RM.ne {K : List Blk} {p : Pl} {k b : Nat} {ad : Rd} {r : Rs} (h : RM K p k b ad r) {c d : Rc} (hc : usR b c=true) (hd : usR b d=true) (hn : c≠d) : (ad c).1≠(ad d).1:=fun he=>hn (h.inj c d hc hd he)
theorem RM.ot {K : List Blk} {p : Pl} {k b : Nat} {ad : Rd} {r : Rs} (h : RM K p k b ad r) : blkAt K (ad .out).1 0=some (outC p k b ad r.fd):=by have:=h.get .out rfl; rw [h.zr] at this; exact this
theorem RM.grow {K : List Blk} {p : Pl} {k b : Nat} {ad : Rd} {r : Rs} (h : RM K p k b ad r) (G : List Blk) : RM (K++G) p k b ad r :=
  ⟨fun c hc=>by rw [blkAt_app _ _ _ _ (h.lt hc)]; exact h.get c hc,h.inj,h.zr⟩
theorem RM.gr {F : Nat→Prop} {K K' : List Blk} {p : Pl} {k b : Nat} {ad : Rd} {r : Rs} (h : RM K p k b ad r) (g : Gr F K K') (hF : ∀ c,usR b c=true→¬ F (ad c).1) : RM K' p k b ad r :=
  ⟨fun c hc=>g.at (h.get c hc) (hF c hc),h.inj,h.zr⟩
theorem RM.put {K : List Blk} {p : Pl} {k b : Nat} {ad : Rd} {r r' : Rs} (h : RM K p k b ad r) (c : Rc) (hc : usR b c=true) (hd : ∀ d,d≠c→usR b d=true→ctR p k b ad r' d=ctR p k b ad r d) : RM (K.set (ad c).1 ⟨(ad c).2,ctR p k b ad r' c⟩) p k b ad r' :=
  ⟨fun d hdu=>by
    by_cases e : d=c
    · subst e; exact blkAt_set_same _ _ _ _ (h.lt hdu)
    · rw [blkAt_set_ne _ _ _ _ _ (h.ne hdu hc e),hd d e hdu]; exact h.get d hdu,h.inj,h.zr⟩
theorem RM.anew {K : List Blk} {p : Pl} {k b : Nat} {ad : Rd} {r : Rs} (h : RM K p k b ad r) : RM (K++[⟨0,outC p k b ad r.fd⟩]) p k b (fun c=>if c=.out then (K.length,0) else ad c) r:=by
  have hg:=h.grow [⟨0,outC p k b ad r.fd⟩]
  refine ⟨fun c hc=>?_,fun c d hc hd he=>?_,rfl⟩
  · cases c with
    | out=>rw [if_pos rfl,blkAt_new0]; simp [blkAt,ctR,outC]
    | _=>exact hg.get _ hc
  · by_cases e : c=.out
    · by_cases f : d=.out
      · rw [e,f]
      · rw [if_pos e,if_neg f] at he
        have:=h.lt hd
        omega
    · by_cases f : d=.out
      · rw [if_neg e,if_pos f] at he
        have:=h.lt hc
        omega
      · rw [if_neg e,if_neg f] at he; exact h.inj c d hc hd he
def rs0 (p : Pl) : Rs:=⟨fun _=>.fs true (ints (zeros p.mt)),fun _=>false,fun _ _=>.fs true (ints (zeros p.mt)),zeros p.mt⟩
def adR0 (n : Nat) : Rd
  | .out=>(n+2,0) | .bef=>(n+3,0) | .bel=>(n+4,0) | .hal=>(n+5,0) | _=>(0,0)
structure NI (H : List Blk) (p : Pl) (o k b : Nat) (ad : Rd) (K : List Blk) : Prop where
  rm : RM K p k b ad (rs0 p)
  ro : (ad .out).1=o
  bx : blkAt K H.length 0=some [.v (.int .i64 p.mt),.fs true (mcs true p.ms),.fs true (bts p.bs),.v (.int .i64 p.fd)]
  rv : blkAt K (H.length+1) 0=some [.v (.int .i64 0),nilS,nilS,.v (.int .i64 0),nilS,nilS,nilS,nilS]
  g : Gr nof H K
  hi : ∀ c,usR b c=true→H.length+1 < (ad c).1
theorem NI.init (H : List Blk) (p : Pl) {o : Nat} (ho : H.length+(1+1)=o) : NI H p o 0 0 (adR0 H.length) (H++[⟨0,[.v (.int .i64 p.mt),.fs true (mcs true p.ms),.fs true (bts p.bs),.v (.int .i64 p.fd)]⟩,⟨0,[.v (.int .i64 0),nilS,nilS,.v (.int .i64 0),nilS,nilS,nilS,nilS]⟩,⟨0,outC p 0 0 (adR0 H.length) (zeros p.mt)⟩,⟨0,[]⟩,⟨0,[]⟩,⟨0,[]⟩]):=by
  refine ⟨⟨fun c hc=>?_,fun c d hc hd he=>?_,rfl⟩,ho,by rw [blkAt_new0]; rfl,by rw [blkAt_new]; rfl,Gr.app _ _,fun c hc=>?_⟩
  · cases c<;>first | (simp [usR] at hc; done) | (simp only [adR0]; rw [blkAt_new]; rfl)
  · cases c<;>first | (simp [usR] at hc; done) | (cases d<;>first | rfl | (simp [usR] at hd; done) | (simp only [adR0] at he; omega))
  · cases c<;>first | (simp [usR] at hc; done) | (simp only [adR0]; omega)
def adR1 (ad : Rd) : Rd
  | .bef=>((ad .bef).1,(ad .bef).2+1) | .hal=>((ad .hal).1,(ad .hal).2+1) | c=>ad c
theorem adR1_fst (ad : Rd) (c : Rc) : (adR1 ad c).1=(ad c).1:=by cases c<;>rfl
theorem gr_sets {F : Nat→Prop} {K T : List Blk} {i j l m : Nat} {A B C D : Blk} (h1 : F i) (h2 : F j) (h3 : F l) (h4 : F m) : Gr F K ((((K.set i A).set j B).set l C).set m D++T) :=
  ⟨by simp,fun x ver hx hn=>by
    rw [blkAt_app _ _ _ _ (by simp; exact hx),blkAt_set_ne _ _ _ _ _ (fun h=>hn (by rw [h]; exact h4)),blkAt_set_ne _ _ _ _ _ (fun h=>hn (by rw [h]; exact h3)),blkAt_set_ne _ _ _ _ _ (fun h=>hn (by rw [h]; exact h2)),blkAt_set_ne _ _ _ _ _ (fun h=>hn (by rw [h]; exact h1))]⟩
theorem NI.addM {H : List Blk} {p : Pl} {o k b : Nat} {ad : Rd} {K : List Blk} (h : NI H p o k b ad K) (X : Blk) (T : List Blk) :
    NI H p o (k+1) b (adR1 ad) ((((K.set (ad .bef).1 ⟨(ad .bef).2+1,(List.range (k+1)).map (rs0 p).bc⟩).set o X).set (ad .hal).1 ⟨(ad .hal).2+1,bools ((List.range (k+1)).map (rs0 p).hl)⟩).set o ⟨0,outC p (k+1) b (adR1 ad) (zeros p.mt)⟩++T):=by
  obtain ⟨hr,ho,hx,hv,hg,hi⟩:=h
  have lo:=hr.lt (c:=.out) rfl
  have lb:=hr.lt (c:=.bef) rfl
  have lh:=hr.lt (c:=.hal) rfl
  have nbo:=hr.ne (c:=.bef) (d:=.out) rfl rfl (by simp)
  have nho:=hr.ne (c:=.hal) (d:=.out) rfl rfl (by simp)
  have nbh:=hr.ne (c:=.bef) (d:=.hal) rfl rfl (by simp)
  have qo:=hi .out rfl
  have qb:=hi .bef rfl
  have qh:=hi .hal rfl
  rw [ho] at lo nbo nho qo
  have G1 : Gr (fun i=>i=(ad .bef).1∨i=o∨i=(ad .hal).1) K ((((K.set (ad .bef).1 ⟨(ad .bef).2+1,(List.range (k+1)).map (rs0 p).bc⟩).set o X).set (ad .hal).1 ⟨(ad .hal).2+1,bools ((List.range (k+1)).map (rs0 p).hl)⟩).set o ⟨0,outC p (k+1) b (adR1 ad) (zeros p.mt)⟩++T) :=
    gr_sets (.inl rfl) (.inr (.inl rfl)) (.inr (.inr rfl)) (.inr (.inl rfl))
  refine ⟨⟨fun c hc=>?_,fun c d hc hd he=>hr.inj c d hc hd (by rwa [adR1_fst,adR1_fst] at he),hr.zr⟩,ho,G1.at hx (by omega),G1.at hv (by omega),hg.trans G1 fun i hi hf=>?_,fun c hc=>by rw [adR1_fst]; exact hi c hc⟩
  · cases c with
    | out =>
      show blkAt _ (ad .out).1 (ad .out).2=_
      rw [ho,hr.zr,blkAt_app _ _ _ _ (by simp; exact lo)]; exact blkAt_set_same _ _ _ _ (by simp; exact lo)
    | bef =>
      show blkAt _ (ad .bef).1 ((ad .bef).2+1)=_
      rw [blkAt_app _ _ _ _ (by simp; exact lb),blkAt_set_ne _ _ _ _ _ nbo,blkAt_set_ne _ _ _ _ _ nbh,blkAt_set_ne _ _ _ _ _ nbo]; exact blkAt_set_same _ _ _ _ lb
    | hal =>
      show blkAt _ (ad .hal).1 ((ad .hal).2+1)=_
      rw [blkAt_app _ _ _ _ (by simp; exact lh),blkAt_set_ne _ _ _ _ _ nho]; exact blkAt_set_same _ _ _ _ (by simp; exact lh)
    | bel =>
      refine G1.at (hr.get .bel rfl) fun hf=>?_
      have hf' : (ad .bel).1=(ad .bef).1∨(ad .bel).1=o∨(ad .bel).1=(ad .hal).1:=hf
      have n1:=hr.ne (c:=.bel) (d:=.out) rfl rfl (by simp)
      have n2:=hr.ne (c:=.bel) (d:=.bef) rfl rfl (by simp)
      have n3:=hr.ne (c:=.bel) (d:=.hal) rfl rfl (by simp)
      rw [ho] at n1; omega
    | sl i =>
      refine G1.at (hr.get (.sl i) hc) fun hf=>?_
      have hf' : (ad (.sl i)).1=(ad .bef).1∨(ad (.sl i)).1=o∨(ad (.sl i)).1=(ad .hal).1:=hf
      have n1:=hr.ne (c:=.sl i) (d:=.out) hc rfl (by simp)
      have n2:=hr.ne (c:=.sl i) (d:=.bef) hc rfl (by simp)
      have n3:=hr.ne (c:=.sl i) (d:=.hal) hc rfl (by simp)
      rw [ho] at n1; omega
  · have : i=(ad .bef).1∨i=o∨i=(ad .hal).1:=hf
    omega
theorem NI.gr {H : List Blk} {p : Pl} {o k b : Nat} {ad : Rd} {K K' : List Blk} (h : NI H p o k b ad K) (g : Gr nof K K') : NI H p o k b ad K' :=
  ⟨h.rm.gr g fun _ _ h=>h,h.ro,g.at h.bx fun h=>h,g.at h.rv fun h=>h,h.g.trans g fun _ _ h=>h,h.hi⟩
abbrev fzI (x : List Int) : A:=.fs true (ints x)
theorem fzL_mr {m : Nat} {H : List Blk} {f g : Nat→A} : ∀ {n : Nat},(∀ i,i < n→Fz m H (f i) (g i))→FzL m H ((List.range n).map f) ((List.range n).map g)
  | 0,_=>trivial
  | n+1,h=>by
    rw [List.range_succ,List.map_append,List.map_append]
    exact FzL.cat (fzL_mr fun i hi=>h i (by omega)) ⟨h n (by omega),trivial⟩
theorem rows_mr (n : Nat) (f : Nat→List Int) : rows true ((List.range n).map f)=(List.range n).map fun i=>fzI (f i):=by simp [rows,Function.comp_def]

theorem idxE_mem {α : Type} {p : α→Prop} [DecidablePred p] {l : List α} : 0≤idxE p l↔∃ x∈l,p x:=by
  constructor
  · intro h
    have h1:=idxE_ge p l
    cases l with
    | nil=>simp [idxE] at h
    | cons d r=>exact ⟨_,mem_get d (by omega),idxE_at (p:=p) d h⟩
  · rintro ⟨x,h1,h2⟩
    apply Classical.byContradiction; intro hc
    exact idxE_neg (p:=p) (l:=l) (by omega) x h1 h2
def delG (l : Arcs) (r : List Int) : Prop:=r.length=1∧¬ (r.getD 0 0,r.getD 0 0)∈l
instance (l : Arcs) : DecidablePred (delG l):=fun r=>by unfold delG; infer_instance
end Go.Proofs.Ytcppaddgclkekaa
