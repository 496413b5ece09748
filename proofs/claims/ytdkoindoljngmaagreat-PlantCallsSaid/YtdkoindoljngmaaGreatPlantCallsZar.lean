/- Lemmas and walks that the proof of PlantCalls uses. No statement is claimed here. -/
import Derived.Test.YtdkoindoljngmaaGreatPlantCallsZaq
namespace Go.Proofs.YtdkoindoljngmaaGreat
open Go Go.Lft
set_option linter.unusedSimpArgs false
set_option linter.unusedVariables false
attribute [local congr] ob_congr bw_congr ib_congr ck_congr iwA_congr itA_congr aw_congr awp_congr sqA_congr bkA_congr vr_congr gd_congr
abbrev z8 : List A:=[.v (.int .i64 0),nilS,nilS,.v (.int .i64 0),nilS,nilS,nilS,nilS]
def adO (ad : Rd) (L : Nat) : Rd
  | .out=>(L,0)
  | c=>ad c
theorem RM.anewO {K : List Blk} {p : Pl} {k b : Nat} {ad : Rd} {r : Rs} (h : RM K p k b ad r) (fd : List Int) : RM (K++[⟨0,outC p k b ad fd⟩]) p k b (adO ad K.length) {r with fd:=fd}:=by
  have hg:=h.grow [⟨0,outC p k b ad fd⟩]
  refine ⟨fun c hc=>?_,fun c d hc hd he=>?_,rfl⟩
  · cases c with
    | out=>show blkAt _ K.length 0=_; rw [blkAt_new0]; rfl
    | _=>exact hg.get _ hc
  · cases c<;>cases d<;>first | rfl | exact h.inj _ _ hc hd he | (simp only [adO] at he; have h2:=h.lt hd; omega) | (simp only [adO] at he; have h2:=h.lt hc; omega)
theorem blk_tb {K T : List Blk} {i j l : Nat} {B : Blk} : blkAt (K.set i B++T) (K.length+j) l=blkAt T j l:=by
  have:=blkAt_new (K.set i B) T j l
  simpa using this
theorem CI.start {p : Pl} {ad : Rd} {r : Rs} {K : List Blk} {bx : List A} (R : RM K p p.ms.length p.bs.length ad r) (G : Gr nof [(⟨0, bx⟩ : Blk), ⟨0, z8⟩] K) (L : ∀ c, usR p.bs.length c = true → [(⟨0, bx⟩ : Blk), ⟨0, z8⟩].length ≤ (ad c).1) (fd : List Int) :
    CI [] p K.length (adO ad K.length) {r with fd:=fd} (K++[⟨0,outC p p.ms.length p.bs.length ad fd⟩]) bx:=by
  have B0 : blkAt K 0 0=some bx:=G.at rfl fun h=>h
  have V0 : blkAt K 1 0=some z8:=G.at rfl fun h=>h
  refine ⟨R.anewO fd,rfl,(blkAt_app _ _ _ _ (blkAt_lt B0)).trans B0,(blkAt_app _ _ _ _ (blkAt_lt V0)).trans V0,⟨Nat.zero_le _,fun i ver hi=>absurd hi (Nat.not_lt_zero _)⟩,fun c hc=>?_⟩
  have h1:=blkAt_lt V0
  cases c with
  | out=>exact h1
  | _=>exact L _ hc
theorem Own1.anew {K : List Blk} {n b : Nat} {ad : Rd} {x : A} {l : List Int} (h : Own1 K n b ad x l) (B : Blk) : Own1 (K++[B]) n b (adO ad K.length) x l:=by
  obtain ⟨q,h1,h2,h3,h4⟩:=h
  have:=blkAt_lt h2
  refine ⟨q,h1,(blkAt_app _ _ _ _ this).trans h2,h3,?_⟩
  rintro ⟨c,hc,he⟩
  cases c with
  | out=>have h5 : K.length=q.1:=he; omega
  | _=>exact h4 ⟨_,hc,he⟩
theorem CI.last {p : Pl} {o : Nat} {ad : Rd} {r : Rs} {K : List Blk} {bx : List A} (h : CI [] p o ad r K bx) (B : Blk) : RM (K.set 1 B) p p.ms.length p.bs.length ad r :=
  h.rm.gr (Gr.set (F:=one 1) _ _ _ rfl) fun c hc hf=>by have h1 : (ad c).1=1:=hf; have:=h.hi c hc; simp at this; omega
theorem refFeed_vr {w : Bool} (p : Pl) (s : Sy) (xs : List Int) (hp : pcheck p=0) (hs : Gd p s) (hl9 : xs.length≤9223372036854775807) : VR P false n_ref35_Feed [stA p s,.fs w (ints xs)] [] (isR (.tup [stA p (feedR p s xs),.v (.int .i64 (fitE p.mt s.fed xs))])):=by
  refine vr_ref35_Feed (by simp) (.inr rfl) fun _ _=>?_
  have ok:=pcheck_ok hp
  obtain ⟨m1,m2,m3⟩:=ok.mt1
  have n1:=ok.n1
  have n2:=ok.n2
  have hfd:=hs.fd.1
  have hcp:=fun H=>copied35_vr (H:=H) p s hp hs.ok p.ms.length
  have hbd:=stC_bd 0 p s
  have he : ∀ e,e≠0→fitE p.mt s.fed xs=e→feedR p s xs=s:=fun e h1 h2=>by unfold feedR; rw [if_neg (by omega)]
  have hst : stC p s=_:=rfl
  unfold stA stC at hcp ⊢
  unfold stC at hbd
  simp (disch:=((try simp only [lZ]); omega)) only [aZ,aM,aT,s_ref35_Feed,v_ref35_Feed]
  refine ib_intro (fun h1=>?_) (fun h1=>?_)
  · have e1 : fitE p.mt s.fed xs=18:=by unfold fitE; rw [if_pos (by omega)]
    rw [he 18 (by omega) e1,e1]
    simp (disch:=((try simp only [lZ]); omega)) only [aZ,aM,aT,r_ref35_Feed]
    exact post0 (Fz.refl (by simp (disch:=first | omega | simp (disch:=omega) only [aG,aM,aT]) only [fZ,aM,aT])) ⟨rfl,rfl⟩
  have hl : xs.length=p.mt:=by omega
  simp (disch:=((try simp only [lZ]); omega)) only [aZ,aM,aT]
  refine AWP.loopP g_ref35_Feed_0 (fun k : Nat=>k≤xs.length∧∀ i,i < k→0≤xs.getD i 0∧xs.getD i 0≤1073741824) (fun k=>[(5,.v (.int .i64 k))]) (fun _=>[]) (fun k=>xs.length - k) 0 ⟨by omega,fun i hi=>by omega⟩ ?_ ?_
  · exact Cut.fg (by simp (disch:=first | omega | simp (disch:=omega) only [aG,aM,aT]) only [fZ,aM,aT,fgl_nil,fgl_cons,or_true,true_or])
  rintro k ⟨hk,hb⟩
  by_cases hlt : k < xs.length
  · simp (disch:=((try simp only [lZ]); omega)) only [aZ,aM,aT]
    refine ib_intro (fun h3=>?_) (fun h3=>?_)
    · have e1 : fitE p.mt s.fed xs = 1 := by
        unfold fitE; rw [if_neg (by omega),if_pos]
        intro hc
        have:=(mixE_ok.1 hc).2 _ (mem_get 0 hlt)
        omega
      rw [he 1 (by omega) e1,e1]
      simp (disch:=((try simp only [lZ]); omega)) only [aZ,aM,aT,r_ref35_Feed]
      exact post0 (Fz.refl (by simp (disch:=first | omega | simp (disch:=omega) only [aG,aM,aT]) only [fZ,aM,aT])) ⟨rfl,rfl⟩
    · simp (disch:=((try simp only [lZ]); omega)) only [aZ,aM,aT]
      refine ⟨k+1,⟨by omega,fun i hi=>?_⟩,by omega,?_⟩
      · rcases Nat.lt_succ_iff_lt_or_eq.1 hi with h | rfl
        · exact hb i h
        · omega
      · exact Cut.fg (by simp (disch:=first | omega | simp (disch:=omega) only [aG,aM,aT]) only [fZ,aM,aT,fgl_nil,fgl_cons,or_true,true_or])
  have hke : k=xs.length:=by omega
  subst hke
  have hmx : mixE xs=0:=mixE_ok.2 ⟨by omega,fun x hx=>by obtain ⟨i,hi,rfl⟩:=get_mem 0 hx; exact hb i hi⟩
  have hxm : MixOk p.mt xs:=⟨hl,fun i=>by have:=mixE_get0 hmx i; omega⟩
  have hpv:=plus35_vr (w:=true) (v:=w) s.fed xs (by rw [hl,hfd]) (fun i _=>by have:=hs.fd.2 i; have:=hxm.2 i; omega) (by omega)
  have pl:=plusM_len s.fed xs
  have pg:=fun i=>plus_get hs.fd.1 hl i
  simp (disch:=((try simp only [lZ]); omega)) only [aZ,aM,aT]
  refine hpv.same (by simp (disch:=first | omega | simp (disch:=omega) only [aG,aM,aT]) only [fZ,aM,aT]) (by simp (disch:=first | omega | simp (disch:=omega) only [aG,aM,aT]) only [fZ,aM,aT]) (aret_of ?_)
  simp (disch:=((try simp only [lZ]); omega)) only [aZ,aM,aT]
  refine AWP.loopP g_ref35_Feed_1 (fun k : Nat=>k≤xs.length∧∀ i,i < k→¬ 1073741824 < s.fed.getD i 0+xs.getD i 0) (fun k=>[(7,.v (.int .i64 k))]) (fun _=>[]) (fun k=>xs.length - k) 0 ⟨by omega,fun i hi=>by omega⟩ ?_ ?_
  · exact Cut.fg (by simp (disch:=first | omega | simp (disch:=omega) only [aG,aM,aT]) only [fZ,aM,aT,fgl_nil,fgl_cons,or_true,true_or])
  rintro k ⟨hk,hn⟩
  by_cases hlt : k < xs.length
  · have pk:=pg k
    simp (disch:=((try simp only [lZ]); omega)) only [aZ,aM,aT,pk]
    refine ib_intro (fun h3=>?_) (fun h3=>?_)
    · have e1 : fitE p.mt s.fed xs=2:=by unfold fitE; rw [if_neg (by omega),if_neg (fun h=>h hmx),if_pos ⟨k,hlt,h3⟩]
      rw [he 2 (by omega) e1,e1]
      simp (disch:=((try simp only [lZ]); omega)) only [aZ,aM,aT,r_ref35_Feed]
      exact post0 (Fz.refl (by simp (disch:=first | omega | simp (disch:=omega) only [aG,aM,aT]) only [fZ,aM,aT])) ⟨rfl,rfl⟩
    · simp (disch:=((try simp only [lZ]); omega)) only [aZ,aM,aT]
      refine ⟨k+1,⟨by omega,fun i hi=>?_⟩,by omega,?_⟩
      · rcases Nat.lt_succ_iff_lt_or_eq.1 hi with h | rfl
        · exact hn i h
        · exact h3
      · exact Cut.fg (by simp (disch:=first | omega | simp (disch:=omega) only [aG,aM,aT]) only [fZ,aM,aT,fgl_nil,fgl_cons,or_true,true_or])
  have hke : k=xs.length:=by omega
  subst hke
  have e1 : fitE p.mt s.fed xs=0:=by unfold fitE; rw [if_neg (by omega),if_neg (fun h=>h hmx),if_neg (by rintro ⟨i,hi,h3⟩; exact hn i (by omega) h3)]
  have e2 : feedR p s xs=feedS p s xs:=by unfold feedR; rw [if_pos e1]
  rw [e1,e2]
  simp (disch:=((try simp only [lZ]); omega)) only [aZ,aM,aT]
  refine (hcp _).mono ?_
  rintro x K ⟨ad0,r,rfl,R0,G0,L0,S0,_⟩
  refine aret_of ?_
  unfold outC
  have C:=CI.start R0 G0 L0 (plusM s.fed xs)
  have kb:=R0.get .bef rfl
  simp only [ctR] at kb
  have kx : blkAt K 0 0=some _:=G0.at rfl fun h=>h
  have kv : blkAt K 1 0=some _:=G0.at rfl fun h=>h
  have lb:=blkAt_lt kb
  have lx:=blkAt_lt kx
  have lv:=blkAt_lt kv
  have lbo:=L0 .bef rfl
  have hfdp:=ok.fd
  have hft : p.fd.toNat < p.ms.length:=by omega
  have f1:=mr_nth p.ms.length r.bc p.fd.toNat hft
  rw [S0.b _ hft (by omega)] at f1
  have f2:=mr_len p.ms.length r.bc
  have f3:=mr_spl p.ms.length r.bc p.fd.toNat
  have hbf:=hs.ok.bef _ hft
  have hpv2:=plus35_vr (w:=true) (v:=w) (s.bef p.fd.toNat) xs (by rw [hl,hbf.1]) (fun i _=>by have:=hbf.2 i; have:=hxm.2 i; omega) (by rw [hbf.1]; omega)
  simp at lbo
  simp (disch:=((try simp only [lZ]); omega)) only [aZ,aM,aT,kb,kx,f1,f2]
  refine hpv2.same (by simp (disch:=first | omega | simp (disch:=omega) only [aG,aM,aT]) only [fZ,aM,aT]) (by simp (disch:=first | omega | simp (disch:=omega) only [aG,aM,aT]) only [fZ,aM,aT]) (aret_of ?_)
  have tn:=fun (B : Blk) (T : List Blk)=>blk_tb (K:=K) (T:=T) (i:=(ad0 .bef).1) (j:=0) (l:=0) (B:=B)
  simp only [Nat.add_zero] at tn
  simp (disch:=((try simp only [lZ]); omega)) only [aZ,aM,aT,kb,kx,kv,f1,f2,f3,tn,r_ref35_Feed]
  have e3 : ∀ X B1 B2 : Blk,((K++[X]).set (ad0 .bef).1 B1).set 1 B2=(K.set (ad0 .bef).1 B1).set 1 B2++[X]:=fun X B1 B2=>by rw [List.set_append_left _ _ lb,List.set_append_left _ _ (by rw [List.length_set]; exact lv)]
  have P1:=fun B2 : Blk=>(C.put .bef rfl (C.rm.putB p.fd.toNat (fzI (plusM (s.bef p.fd.toNat) xs))) (Gr.set (F:=one (ad0 .bef).1) _ _ _ rfl)).last B2
  have P2:=fun B2 : Blk=>(e3 ⟨0,outC p p.ms.length p.bs.length ad0 (plusM s.fed xs)⟩ ⟨(ad0 .bef).2,(List.range p.ms.length).map (updF r.bc p.fd.toNat (fzI (plusM (s.bef p.fd.toNat) xs)))⟩ B2)▸P1 B2
  have hw : Shw p p.ms.length {r with fd:=plusM s.fed xs,bc:=updF r.bc p.fd.toNat (fzI (plusM (s.bef p.fd.toNat) xs))} (feedS p s xs):=⟨fun m hm hj=>by
    simp only [feedS]
    by_cases e : m=p.fd.toNat
    · rw [e,updF_same,updF_same]
    · rw [updF_ne _ _ e,updF_ne _ _ e]; exact S0.b m hm hj,S0.h,S0.c,rfl⟩
  exact post0 (r:=.tup [stA p (feedS p s xs),.v (.int .i64 0)]) (Fz.tup (l:=[_,_]) ⟨hw.fz (ad:=adO ad0 K.length) (P2 _) hs.hl,Fz.refl rfl,trivial⟩) ⟨rfl,rfl⟩
theorem refHalt_vr (p : Pl) (s : Sy) (m : Int) (b : Bool) (hp : pcheck p=0) (hs : Gd p s) : VR P false n_ref35_Halt [stA p s,.v (.int .i64 m),.v (.bool b)] [] (isR (.tup [stA p (haltR p s m b),.v (.int .i64 (hltE p m))])):=by
  refine vr_ref35_Halt (by simp) (.inr rfl) fun _ _=>?_
  have ok:=pcheck_ok hp
  obtain ⟨m1,m2,m3⟩:=ok.mt1
  have n2:=ok.n2
  have hcp:=fun H=>copied35_vr (H:=H) p s hp hs.ok p.ms.length
  have hbn:=ref35Bin_vr (w:=true) (v:=true) p m.toNat
  have hbd:=stC_bd 0 p s
  unfold haltR hltE
  unfold stA stC at hcp ⊢
  unfold stC at hbd
  unfold plA plC at hbn
  rw [m3] at hbn
  by_cases h1 : m < 0∨(p.ms.length : Int)≤m
  · rw [if_pos h1,if_neg (by omega)]
    have h1' : m < 0∨m≥p.ms.length:=h1
    simp (disch:=((try simp only [lZ]); omega)) only [aZ,aM,aT,s_ref35_Halt,v_ref35_Halt,decide_eq_true h1',r_ref35_Halt]
    exact post0 (Fz.refl (by simp (disch:=first | omega | simp (disch:=omega) only [aG,aM,aT]) only [fZ,aM,aT])) ⟨rfl,rfl⟩
  have h1' : ¬ (m < 0∨m≥p.ms.length):=h1
  have hm : m.toNat < p.ms.length:=by omega
  have hbn:=hbn hm
  rw [Int.toNat_of_nonneg (by omega)] at hbn
  rw [if_neg h1]
  simp (disch:=((try simp only [lZ]); omega)) only [aZ,aM,aT,s_ref35_Halt,v_ref35_Halt,decide_eq_false h1']
  refine hbn.same (by simp (disch:=first | omega | simp (disch:=omega) only [aG,aM,aT]) only [fZ,aM,aT]) rfl (aret_of ?_)
  by_cases h2 : binN p m.toNat
  · rw [if_pos h2,if_neg (by omega),decide_eq_true h2]
    simp (disch:=((try simp only [lZ]); omega)) only [aZ,aM,aT,r_ref35_Halt]
    exact post0 (Fz.refl (by simp (disch:=first | omega | simp (disch:=omega) only [aG,aM,aT]) only [fZ,aM,aT])) ⟨rfl,rfl⟩
  rw [if_neg h2,if_pos rfl,decide_eq_false h2]
  simp (disch:=((try simp only [lZ]); omega)) only [aZ,aM,aT]
  refine (hcp _).mono ?_
  rintro x K ⟨ad0,r,rfl,R0,G0,L0,S0,_⟩
  refine aret_of ?_
  unfold outC
  have C:=CI.start R0 G0 L0 r.fd
  have kb:=R0.get .hal rfl
  simp only [ctR] at kb
  have kx : blkAt K 0 0=some _:=G0.at rfl fun h=>h
  have kv : blkAt K 1 0=some _:=G0.at rfl fun h=>h
  have lb:=blkAt_lt kb
  have lx:=blkAt_lt kx
  have lv:=blkAt_lt kv
  have lbo:=L0 .hal rfl
  have f2:=mr_len p.ms.length r.hl
  have f3:=fun x=>mr_set p.ms.length r.hl m.toNat x
  simp at lbo
  have tn:=fun (B : Blk) (T : List Blk)=>blk_tb (K:=K) (T:=T) (i:=(ad0 .hal).1) (j:=0) (l:=0) (B:=B)
  simp only [Nat.add_zero] at tn
  simp (disch:=((try simp only [lZ]); omega)) only [aZ,aM,aT,kb,kx,kv,f2,f3,tn,r_ref35_Halt]
  have e3 : ∀ X B1 B2 : Blk,((K++[X]).set (ad0 .hal).1 B1).set 1 B2=(K.set (ad0 .hal).1 B1).set 1 B2++[X]:=fun X B1 B2=>by rw [List.set_append_left _ _ lb,List.set_append_left _ _ (by rw [List.length_set]; exact lv)]
  have P1:=fun B2 : Blk=>(C.put .hal rfl (C.rm.putH m.toNat b) (Gr.set (F:=one (ad0 .hal).1) _ _ _ rfl)).last B2
  have P2:=fun B2 : Blk=>(e3 ⟨0,outC p p.ms.length p.bs.length ad0 r.fd⟩ ⟨(ad0 .hal).2,bools ((List.range p.ms.length).map (updF r.hl m.toNat b))⟩ B2)▸P1 B2
  have hw : Shw p p.ms.length {r with fd:=r.fd,hl:=updF r.hl m.toNat b} (hltS s m b):=⟨S0.b,fun y hy=>by
    have hl:=hs.hl
    simp only [hltS]
    rw [List.getD_eq_getElem?_getD,List.getElem?_set]
    by_cases e : m.toNat=y
    · rw [if_pos e,if_pos (by omega),← e,updF_same]; rfl
    · rw [if_neg e,updF_ne _ _ (Ne.symm e),S0.h y hy,List.getD_eq_getElem?_getD],S0.c,S0.f⟩
  exact post0 (r:=.tup [stA p (hltS s m b),.v (.int .i64 0)]) (Fz.tup (l:=[_,_]) ⟨hw.fz (ad:=adO ad0 K.length) (P2 _) (by simp [hltS,hs.hl]),Fz.refl rfl,trivial⟩) ⟨rfl,rfl⟩
theorem refTake_vr {w : Bool} (p : Pl) (s : Sy) (m : Int) (xs : List Int) (hp : pcheck p=0) (hs : Gd p s) (hl9 : xs.length≤9223372036854775807) : VR P false n_ref35_Take [stA p s,.v (.int .i64 m),.fs w (ints xs)] [] (isR (.tup [stA p (takR p s m xs),.v (.int .i64 (takE p s m xs))])):=by
  refine vr_ref35_Take (by simp) (.inr rfl) fun _ _=>?_
  have ok:=pcheck_ok hp
  obtain ⟨m1,m2,m3⟩:=ok.mt1
  have n2:=ok.n2
  have hcp:=fun H=>copied35_vr (H:=H) p s hp hs.ok m.toNat
  have hbe:=binErr_vr (w:=true) (v:=true) p m
  have hbd:=stC_bd 0 p s
  unfold takR
  unfold stA stC at hcp ⊢
  unfold stC at hbd
  unfold plA plC at hbe
  rw [m3] at hbe
  by_cases h0 : fndE p m=0
  case neg =>
    have e1 : takE p s m xs=fndE p m:=by unfold takE; rw [if_pos h0]
    rw [e1,if_neg h0]
    generalize fndE p m=fe at *
    simp (disch:=((try simp only [lZ]); omega)) only [aZ,aM,aT,s_ref35_Take,v_ref35_Take]
    refine hbe.same (by simp (disch:=first | omega | simp (disch:=omega) only [aG,aM,aT]) only [fZ,aM,aT]) rfl (aret_of ?_)
    simp (disch:=((try simp only [lZ]); omega)) only [aZ,aM,aT,decide_eq_true h0,r_ref35_Take]
    exact post0 (Fz.refl (by simp (disch:=first | omega | simp (disch:=omega) only [aG,aM,aT]) only [fZ,aM,aT])) ⟨rfl,rfl⟩
  have hm : 0≤m∧m.toNat < p.ms.length:=by unfold fndE at h0; split at h0<;>omega
  have hE : takE p s m xs=if xs.length≠p.mt then 18 else if ∃ i,i < xs.length∧badT (s.bef m.toNat) xs i then 1 else 0:=by unfold takE; rw [if_neg (fun hc=>hc h0)]
  rw [h0] at hbe
  have bl:=befL_len p s
  simp (disch:=((try simp only [lZ]); omega)) only [aZ,aM,aT,s_ref35_Take,v_ref35_Take]
  refine hbe.same (by simp (disch:=first | omega | simp (disch:=omega) only [aG,aM,aT]) only [fZ,aM,aT]) rfl (aret_of ?_)
  by_cases hl : xs.length=p.mt
  case neg =>
    rw [if_pos hl] at hE
    rw [hE,if_neg (by omega)]
    simp (disch:=((try simp only [lZ]); omega)) only [aZ,aM,aT,decide_eq_true (show ((xs.length : Int)≠p.mt) by omega),r_ref35_Take]
    exact post0 (Fz.refl (by simp (disch:=first | omega | simp (disch:=omega) only [aG,aM,aT]) only [fZ,aM,aT])) ⟨rfl,rfl⟩
  rw [if_neg (fun hc=>hc hl)] at hE
  have e1:=befL_get p s m.toNat hm.2
  have hbf:=hs.ok.bef _ hm.2
  have hbl:=hbf.1
  simp (disch:=((try simp only [lZ]); omega)) only [aZ,aM,aT,decide_eq_false (show ¬ ((xs.length : Int)≠p.mt) by omega)]
  refine AWP.loopP g_ref35_Take_0 (fun k : Nat=>k≤xs.length∧∀ i,i < k→¬ badT (s.bef m.toNat) xs i) (fun k=>[(7,.v (.int .i64 k))]) (fun _=>[]) (fun k=>xs.length - k) 0 ⟨by omega,fun i hi=>by omega⟩ ?_ ?_
  · exact Cut.fg (by simp (disch:=first | omega | simp (disch:=omega) only [aG,aM,aT]) only [fZ,aM,aT,fgl_nil,fgl_cons,or_true,true_or])
  rintro k ⟨hk,hn⟩
  by_cases hlt : k < xs.length
  · simp (disch:=((try simp only [lZ]); omega)) only [aZ,aM,aT,e1]
    refine ib_intro (fun h3=>?_) (fun h3=>?_)
    · rw [if_pos ⟨k,hlt,h3⟩] at hE
      rw [hE,if_neg (by omega)]
      simp (disch:=((try simp only [lZ]); omega)) only [aZ,aM,aT,r_ref35_Take]
      exact post0 (Fz.refl (by simp (disch:=first | omega | simp (disch:=omega) only [aG,aM,aT]) only [fZ,aM,aT])) ⟨rfl,rfl⟩
    · simp (disch:=((try simp only [lZ]); omega)) only [aZ,aM,aT]
      refine ⟨k+1,⟨by omega,fun i hi=>?_⟩,by omega,?_⟩
      · rcases Nat.lt_succ_iff_lt_or_eq.1 hi with h | rfl
        · exact hn i h
        · exact h3
      · exact Cut.fg (by simp (disch:=first | omega | simp (disch:=omega) only [aG,aM,aT]) only [fZ,aM,aT,fgl_nil,fgl_cons,or_true,true_or])
  have hke : k=xs.length:=by omega
  subst hke
  rw [if_neg (by rintro ⟨i,hi,h3⟩; exact hn i hi h3)] at hE
  rw [hE,if_pos rfl]
  simp (disch:=((try simp only [lZ]); omega)) only [aZ,aM,aT]
  refine (hcp _).mono ?_
  rintro x K ⟨ad0,r,rfl,R0,G0,L0,S0,W0⟩
  have W0:=W0 hm.2
  have W1:=W0.anew ⟨0,outC p p.ms.length p.bs.length ad0 r.fd⟩
  obtain ⟨q,q1,q2,q3,q4⟩:=W0
  obtain ⟨q',q1',q2',q3',q4'⟩:=W1
  have hqq : q'=q:=by
    rw [q1] at q1'
    unfold slA at q1'
    injection q1' with a1 a2
    exact Prod.ext a1.symm a2.symm
  subst hqq
  refine aret_of ?_
  unfold outC
  have C:=CI.start R0 G0 L0 r.fd
  have kb:=R0.get .bef rfl
  simp only [ctR] at kb
  have kx : blkAt K 0 0=some _:=G0.at rfl fun h=>h
  have kv : blkAt K 1 0=some _:=G0.at rfl fun h=>h
  have lb:=blkAt_lt kb
  have lx:=blkAt_lt kx
  have lv:=blkAt_lt kv
  have lq:=blkAt_lt q2
  have lbo:=L0 .bef rfl
  simp at lbo q3
  have nqb : q'.1≠(ad0 .bef).1:=fun hc=>q4 ⟨.bef,rfl,hc.symm⟩
  have f1:=mr_nth p.ms.length r.bc m.toNat hm.2
  rw [q1] at f1
  unfold slA at f1
  have f2:=mr_len p.ms.length r.bc
  rw [hbl] at f1
  simp (disch:=((try simp only [lZ]); omega)) only [aZ,aM,aT]
  obtain ⟨Q,hQ⟩ : ∃ Q,Q=K++[⟨0,outC p p.ms.length p.bs.length ad0 r.fd⟩]:=⟨_,rfl⟩
  rw [← hQ] at C q2'
  refine AWP.cut (e':=_) (H':=Q) (by rw [hQ]; exact Cut.refl _ _ _) ?_
  have hQl : K.length < Q.length:=by rw [hQ]; simp
  have hb' : blkAt Q (ad0 .bef).1 (ad0 .bef).2=some ((List.range p.ms.length).map r.bc):=C.rm.get .bef rfl
  have ho' : blkAt Q K.length 0=some (outC p p.ms.length p.bs.length ad0 r.fd):=C.rm.ot
  have hv':=C.rv
  have lq':=blkAt_lt q2'
  have hse:=blk_self q2'
  unfold outC at ho'
  refine AWP.loopM g_ref35_Take_1 (fun k : Nat=>k≤xs.length) (fun k=>[(8,.v (.int .i64 k))]) (fun k=>Q.set q'.1 ⟨q'.2,ints (dnM (s.bef m.toNat) xs k)⟩) (fun k=>xs.length - k) 0 (by omega) ?_ ?_
  · rw [dnM_zero,hse]
    exact Cut.fg (by simp (disch:=first | omega | simp (disch:=omega) only [aG,aM,aT]) only [fZ,aM,aT,fgl_nil,fgl_cons,or_true,true_or])
  rintro k hk
  have dl:=dnM_len (s.bef m.toNat) xs k
  have gr : Gr (one q'.1) Q (Q.set q'.1 ⟨q'.2,ints (dnM (s.bef m.toNat) xs k)⟩):=Gr.set (F:=one q'.1) _ _ _ rfl
  have gb:=gr.at hb' (fun hc=>nqb hc.symm)
  have go:=gr.at ho' (fun hc=>by have : K.length=q'.1:=hc; omega)
  have gv : blkAt (Q.set q'.1 ⟨q'.2,ints (dnM (s.bef m.toNat) xs k)⟩) 1 0=some z8:=gr.at hv' (fun hc=>by have : 1=q'.1:=hc; omega)
  have gq : blkAt (Q.set q'.1 ⟨q'.2,ints (dnM (s.bef m.toNat) xs k)⟩) q'.1 q'.2=_:=blkAt_set_same _ _ _ _ lq'
  by_cases hlt : k < xs.length
  · have e0 : (dnM (s.bef m.toNat) xs k).getD k 0=(s.bef m.toNat).getD k 0:=by rw [dnM_get _ _ _ _ (by omega),if_neg (by omega)]
    have e2:=dnM_set (s.bef m.toNat) xs k (by omega)
    have q5:=hn k hlt
    have q6:=hbf.2 k
    unfold badT at q5
    simp (disch:=((try simp only [lZ]); omega)) only [aZ,aM,aT,gb,go,gq,f1,f2,e0,e2]
    refine ⟨k+1,by omega,by omega,?_⟩
    try simp (disch:=((try simp only [lZ]); omega)) only [aZ,aM,aT]
    exact Cut.fg (by simp (disch:=first | omega | simp (disch:=omega) only [aG,aM,aT]) only [fZ,aM,aT,fgl_nil,fgl_cons,or_true,true_or])
  have hke : k=xs.length:=by omega
  subst hke
  have lv' : 1 < Q.length:=by omega
  simp (disch:=((try simp only [lZ]); omega)) only [aZ,aM,aT,gb,go,gq,gv,r_ref35_Take]
  have P1 : RM (Q.set q'.1 ⟨q'.2,ints (dnM (s.bef m.toNat) xs xs.length)⟩) p p.ms.length p.bs.length (adO ad0 K.length) r:=C.rm.gr (Gr.set (F:=one q'.1) _ _ _ rfl) fun c hc hf=>q4' ⟨c,hc,hf⟩
  have P2:=fun B : Blk=>P1.gr (Gr.set (F:=one 1) _ _ B rfl) fun c hc hf=>by have h1 : (adO ad0 K.length c).1=1:=hf; have:=C.hi c hc; simp at this; omega
  have hfz : ∀ B : Blk,Fz 0 ((Q.set q'.1 ⟨q'.2,ints (dnM (s.bef m.toNat) xs xs.length)⟩).set 1 B) (.agg (outC p p.ms.length p.bs.length (adO ad0 K.length) r.fd)) (stA p (takS s m xs)):=fun B =>
    fz_state (P2 B) (fun y hy=>by
      simp only [takS]
      by_cases e : y=m.toNat
      · subst e
        rw [updF_same,q1]
        exact fz_slI 0 _ _ _ _ _ (by omega) dl.symm (by rw [blkAt_set_ne _ _ _ _ _ (by omega)]; exact gq)
      · rw [updF_ne _ _ e,S0.b y hy e]; exact Fz.refl (by simp [A.bd,ii_bd])) S0.h S0.c S0.f hs.hl
  exact post0 (r:=.tup [stA p (takS s m xs),.v (.int .i64 0)]) (Fz.tup (l:=[_,_]) ⟨hfz _,Fz.refl rfl,trivial⟩) ⟨rfl,rfl⟩
theorem refInside_vr (p : Pl) (s : Sy) (hp : pcheck p=0) (hg : Gd p s) : VR P false n_ref35_Inside [stA p s] [] (isR (.fs true (ints (insL p s)))):=by
  refine vr_ref35_Inside (by simp) (.inr rfl) fun _ _=>?_
  have ok:=pcheck_ok hp
  obtain ⟨m1,m2,m3⟩:=ok.mt1
  have n1:=ok.n1
  have n2:=ok.n2
  have b2:=ok.b2
  have bnd:=fun x=>(ins_tot hg x).1
  have tt:=hg.tt
  have hz:=zero35_vr m2
  have hbn:=fun m hm=>ref35Bin_vr (w:=true) (v:=true) p m hm
  unfold plA plC at hbn
  rw [m3] at hbn
  have bl:=befL_len p s
  have bll:=belL_len p s
  unfold stA stC
  simp (disch:=((try simp only [lZ]); omega)) only [aZ,aM,aT,s_ref35_Inside,v_ref35_Inside]
  refine hz.same rfl (by simp (disch:=first | omega | simp (disch:=omega) only [aG,aM,aT]) only [fZ,aM,aT]) (aret_of ?_)
  rw [tb_zero]
  simp (disch:=((try simp only [lZ]); omega)) only [aZ,aM,aT]
  refine AWP.loopP g_ref35_Inside_0 (fun k : Nat=>k≤p.ms.length) (fun k=>[(3,.fs true (ints (tb p.mt fun x=>sm k (inM p s x)))),(4,.v (.int .i64 k))]) (fun _=>[]) (fun k=>p.ms.length - k) 0 (by omega) ?_ ?_
  · simp only [sm]
    exact Cut.fg (by simp (disch:=first | omega | simp (disch:=omega) only [aG,aM,aT]) only [fZ,aM,aT,fgl_nil,fgl_cons,or_true,true_or])
  rintro k hk
  by_cases hlt : k < p.ms.length
  · have e1:=befL_get p s k hlt
    have hbk:=hg.ok.bef k hlt
    have hml:=hbk.1
    simp (disch:=((try simp only [lZ]); omega)) only [aZ,aM,aT]
    refine (hbn k hlt).same (by simp (disch:=first | omega | simp (disch:=omega) only [aG,aM,aT]) only [fZ,aM,aT]) rfl (aret_of ?_)
    by_cases hb : binN p k
    · have hzz : outsN (p.ms.getD k [])=0:=hb
      rw [decide_eq_true hb]
      simp (disch:=((try simp only [lZ]); omega)) only [aZ,aM,aT]
      refine ⟨k+1,by omega,by omega,?_⟩
      have e : (fun x=>sm (k+1) (inM p s x))=fun x=>sm k (inM p s x):=by funext x; simp only [sm,inM]; rw [if_pos hzz]; omega
      rw [e]
      try simp (disch:=((try simp only [lZ]); omega)) only [aZ,aM,aT]
      exact Cut.fg (by simp (disch:=first | omega | simp (disch:=omega) only [aG,aM,aT]) only [fZ,aM,aT,fgl_nil,fgl_cons,or_true,true_or])
    · have hzz : ¬ outsN (p.ms.getD k [])=0:=hb
      rw [decide_eq_false hb]
      have hpv:=plus35_vr (w:=true) (v:=true) (tb p.mt fun x=>sm k (inM p s x)) (s.bef k) (by rw [tb_len,hml]) (fun x hx=>by
        rw [tb_len] at hx
        rw [tb_get _ _ _ hx]
        have g1:=hbk.2 x
        have g2:=sm_part (inM_nn hg x) hk
        have g3:=sm_nn (n:=k) (f:=inM p s x) fun i hi=>inM_nn hg x i (by omega)
        have g4:=sm_nn (inB_nn hg x)
        have hbx:=bnd x
        have:=tt x
        unfold insT at hbx; omega) (by rw [tb_len]; omega)
      rw [tb_plus] at hpv
      simp (disch:=((try simp only [lZ]); omega)) only [aZ,aM,aT,e1]
      refine hpv.same (by simp (disch:=first | omega | simp (disch:=omega) only [aG,aM,aT]) only [fZ,aM,aT]) (by simp (disch:=first | omega | simp (disch:=omega) only [aG,aM,aT]) only [fZ,aM,aT]) (aret_of ?_)
      simp (disch:=((try simp only [lZ]); omega)) only [aZ,aM,aT]
      refine ⟨k+1,by omega,by omega,?_⟩
      have e : (fun x=>sm (k+1) (inM p s x))=fun x=>sm k (inM p s x)+(s.bef k).getD x 0:=by funext x; simp only [sm,inM]; rw [if_neg hzz]
      rw [e]
      try simp (disch:=((try simp only [lZ]); omega)) only [aZ,aM,aT]
      exact Cut.fg (by simp (disch:=first | omega | simp (disch:=omega) only [aG,aM,aT]) only [fZ,aM,aT,fgl_nil,fgl_cons,or_true,true_or])
  have hke : k=p.ms.length:=by omega
  subst hke
  simp (disch:=((try simp only [lZ]); omega)) only [aZ,aM,aT]
  refine AWP.loopP g_ref35_Inside_1 (fun i : Nat=>i≤p.bs.length) (fun i=>[(3,.fs true (ints (tb p.mt fun x=>sm p.ms.length (inM p s x)+sm i (inB p s x)))),(5,.v (.int .i64 i))]) (fun _=>[]) (fun i=>p.bs.length - i) 0 (by omega) ?_ ?_
  · simp only [sm,Int.add_zero]
    exact Cut.fg (by simp (disch:=first | omega | simp (disch:=omega) only [aG,aM,aT]) only [fZ,aM,aT,fgl_nil,fgl_cons,or_true,true_or])
  rintro i hi
  by_cases hit : i < p.bs.length
  · have e1:=belL_get p s i hit
    have e2:=belM_len p s i
    have hrl:=ok.rl hit
    simp (disch:=((try simp only [lZ]); omega)) only [aZ,aM,aT,e1,e2]
    refine AWP.loopP g_ref35_Inside_2 (fun k : Nat=>k≤p.rl i+1) (fun k=>[(3,.fs true (ints (tb p.mt fun x=>sm p.ms.length (inM p s x)+sm i (inB p s x)+sm k (fun q=>(slt p s i q).getD x 0)))),(6,.v (.int .i64 k))]) (fun _=>[]) (fun k=>p.rl i+1 - k) 0 (by omega) ?_ ?_
    · simp only [sm,Int.add_zero]
      exact Cut.fg (by simp (disch:=first | omega | simp (disch:=omega) only [aG,aM,aT]) only [fZ,aM,aT,fgl_nil,fgl_cons,or_true,true_or])
    rintro k hk
    by_cases hkt : k < p.rl i+1
    · have e3:=belM_get p s i k hkt
      have hsk:=slt_mok hg.ok hit (show k≤p.rl i by omega)
      have hpv:=plus35_vr (w:=true) (v:=true) (tb p.mt fun x=>sm p.ms.length (inM p s x)+sm i (inB p s x)+sm k (fun q=>(slt p s i q).getD x 0)) (slt p s i k) (by rw [tb_len,hsk.1]) (fun x hx=>by
        rw [tb_len] at hx
        rw [tb_get _ _ _ hx]
        have g1:=hsk.2 x
        have g2:=sm_part (n:=p.rl i+1) (k:=k) (f:=fun q=>(slt p s i q).getD x 0) (fun q hq=>(slt_ok hg hit (by omega)).2 x) (by omega)
        have g3:=sm_nn (n:=k) (f:=fun q=>(slt p s i q).getD x 0) fun q hq=>(slt_ok hg hit (by omega)).2 x
        rw [← inB_slt] at g2
        have g4:=sm_part (n:=p.bs.length) (k:=i+1) (f:=inB p s x) (inB_nn hg x) (by omega)
        have g5 : sm (i+1) (inB p s x)=sm i (inB p s x)+inB p s x i:=rfl
        have g6:=sm_nn (n:=i) (f:=inB p s x) fun y hy=>inB_nn hg x y (by omega)
        have g7:=sm_nn (inM_nn hg x)
        have hbx:=bnd x
        have:=tt x
        unfold insT at hbx; omega) (by rw [tb_len]; omega)
      rw [tb_plus] at hpv
      simp (disch:=((try simp only [lZ]); omega)) only [aZ,aM,aT,e1,e3]
      refine hpv.same (by simp (disch:=first | omega | simp (disch:=omega) only [aG,aM,aT]) only [fZ,aM,aT]) (by simp (disch:=first | omega | simp (disch:=omega) only [aG,aM,aT]) only [fZ,aM,aT]) (aret_of ?_)
      simp (disch:=((try simp only [lZ]); omega)) only [aZ,aM,aT]
      refine ⟨k+1,by omega,by omega,?_⟩
      have e : (fun x=>sm p.ms.length (inM p s x)+sm i (inB p s x)+sm (k+1) (fun q=>(slt p s i q).getD x 0))=fun x=>sm p.ms.length (inM p s x)+sm i (inB p s x)+sm k (fun q=>(slt p s i q).getD x 0)+(slt p s i k).getD x 0:=by funext x; simp only [sm]; omega
      rw [e]
      try simp (disch:=((try simp only [lZ]); omega)) only [aZ,aM,aT]
      exact Cut.fg (by simp (disch:=first | omega | simp (disch:=omega) only [aG,aM,aT]) only [fZ,aM,aT,fgl_nil,fgl_cons,or_true,true_or])
    · have hke : k=p.rl i+1:=by omega
      subst hke
      simp (disch:=((try simp only [lZ]); omega)) only [aZ,aM,aT,e1,e2]
      refine ⟨i+1,by omega,by omega,?_⟩
      have e : (fun x=>sm p.ms.length (inM p s x)+sm (i+1) (inB p s x))=fun x=>sm p.ms.length (inM p s x)+sm i (inB p s x)+sm (p.rl i+1) (fun q=>(slt p s i q).getD x 0):=by funext x; simp only [sm]; rw [inB_slt]; simp only [sm]; omega
      rw [e]
      try simp (disch:=((try simp only [lZ]); omega)) only [aZ,aM,aT]
      exact Cut.fg (by simp (disch:=first | omega | simp (disch:=omega) only [aG,aM,aT]) only [fZ,aM,aT,fgl_nil,fgl_cons,or_true,true_or])
  have hie : i=p.bs.length:=by omega
  subst hie
  simp (disch:=((try simp only [lZ]); omega)) only [aZ,aM,aT,r_ref35_Inside]
  exact post0 (Fz.refl (by simp (disch:=first | omega | simp (disch:=omega) only [aG,aM,aT]) only [fZ,aM,aT])) ⟨rfl,rfl⟩
theorem arrK_zero {p : Pl} {s : Sy} (h : Gd p s) {m : Nat} (hm : m < p.ms.length) : arrK p s m 0=s.bef m:=by
  have hl:=(h.bl m hm).1
  unfold arrK
  simp only [sm]
  refine eq_of_getB 0 (by rw [tb_len,hl]) fun x hx=>?_
  rw [tb_len] at hx
  rw [tb_get _ _ _ hx]; omega
theorem arrK_ok {p : Pl} (ok : POk p) {s : Sy} (h : Gd p s) {m : Nat} (hm : m < p.ms.length) {k : Nat} (hk : k≤p.bs.length) : MixOk p.mt (arrK p s m k):=by
  have:=(h.mvK ok k hk).1.ok.bef m hm
  rw [mvK_bef ok h hm _ hk] at this; exact this
theorem arrK_next (p : Pl) (s : Sy) (m i : Nat) : arrK p s m (i+1)=if tpS p i=m then plusM (arrK p s m i) (slt p s i (p.rl i)) else arrK p s m i:=by
  unfold arrK
  by_cases e : tpS p i=m
  · rw [if_pos e,tb_plus]
    refine tb_ext fun x _=>?_
    simp only [sm]; rw [if_pos e,out_slt]; omega
  · rw [if_neg e]
    refine tb_ext fun x _=>?_
    simp only [sm]; rw [if_neg e]; omega
theorem updG {α : Type} (G : Nat→Nat→α) (i k : Nat) (x : α) (y q : Nat) : updF G i (updF (G i) k x) y q=if y=i then (if q=k then x else G i q) else G y q:=by
  unfold updF; split<;>rfl
structure SJ (p : Pl) (s : Sy) (o : Nat) (ad : Rd) (bx : List A) (F : Nat→List Int) (G : Nat→Nat→List Int) (r : Rs) (Q : List Blk) : Prop where
  c : CI [] p o ad r Q bx
  b : ∀ m,m < p.ms.length→r.bc m=fzI (F m)
  h : ∀ m,m < p.ms.length→r.hl m=s.hal.getD m false
  d : ∀ y,y < p.bs.length→∀ q,q≤p.rl y→r.sc y q=fzI (G y q)
  f : r.fd=s.fed
section
variable {p : Pl} {s : Sy} {o : Nat} {ad : Rd} {bx : List A} {F F' : Nat→List Int} {G G' : Nat→Nat→List Int} {r : Rs} {Q : List Blk}
theorem SJ.as (h : SJ p s o ad bx F G r Q) (hF : ∀ m,m < p.ms.length→F m=F' m) (hG : ∀ y,y < p.bs.length→∀ q,q≤p.rl y→G y q=G' y q) : SJ p s o ad bx F' G' r Q :=
  ⟨h.c,fun m hm=>by rw [h.b m hm,hF m hm],h.h,fun y hy q hq=>by rw [h.d y hy q hq,hG y hy q hq],h.f⟩
theorem SJ.putB (h : SJ p s o ad bx F G r Q) (i : Nat) (x : List Int) : SJ p s o ad bx (updF F i x) G {r with bc:=updF r.bc i (fzI x)} (Q.set (ad .bef).1 ⟨(ad .bef).2,(List.range p.ms.length).map (updF r.bc i (fzI x))⟩) :=
  ⟨h.c.put .bef rfl (h.c.rm.putB i (fzI x)) (Gr.set (F:=one (ad .bef).1) _ _ _ rfl),fun m hm=>by
    by_cases e : m=i
    · subst e; simp only [updF_same]
    · simp only [updF_ne _ _ e]; exact h.b m hm,h.h,h.d,h.f⟩
theorem SJ.putS (h : SJ p s o ad bx F G r Q) {i : Nat} (hi : i < p.bs.length) (k : Nat) (x : List Int) : SJ p s o ad bx F (updF G i (updF (G i) k x)) {r with sc:=updF r.sc i (updF (r.sc i) k (fzI x))} (Q.set (ad (.sl i)).1 ⟨(ad (.sl i)).2,(List.range (p.rl i+1)).map (updF (r.sc i) k (fzI x))⟩) :=
  ⟨h.c.put (.sl i) (by simpa [usR] using hi) (h.c.rm.putS hi k (fzI x)) (Gr.set (F:=one (ad (.sl i)).1) _ _ _ rfl),h.b,h.h,fun y hy q hq=>by
    by_cases e : y=i
    · subst e
      simp only [updF_same]
      by_cases e2 : q=k
      · subst e2; simp only [updF_same]
      · simp only [updF_ne _ _ e2]; exact h.d y hy q hq
    · simp only [updF_ne _ _ e]; exact h.d y hy q hq,h.f⟩
end
def mvG (p : Pl) (s : Sy) (i k : Nat) : Nat→Nat→List Int:=fun y q=>if y < i then (if q=0 then zeros p.mt else slt p s y (q - 1)) else if y=i∧1≤q∧q < k then slt p s y (q - 1) else slt p s y q
def dsG (p : Pl) (s : Sy) (i : Nat) : Nat→Nat→List Int:=fun y q=>if q=0 then (if y < i∧s.hal.getD (frS p y) false=false then prtL p (frS p y) (arrL p s (frS p y)) (otS p y) else zeros p.mt) else slt p s y (q - 1)
theorem refStep_vr (p : Pl) (s : Sy) (hp : pcheck p=0) (hg : Gd p s) : VR P false n_ref35_Step [stA p s] [] (isR (stA p (stpS p s))):=by
  refine vr_ref35_Step (by simp) (.inr rfl) fun _ _=>?_
  have ok:=pcheck_ok hp
  obtain ⟨m1,m2,m3⟩:=ok.mt1
  have n1:=ok.n1
  have n2:=ok.n2
  have b2:=ok.b2
  have hz:=zero35_vr m2
  have hcp:=fun H=>copied35_vr (H:=H) p s hp hg.ok p.ms.length
  have hbn:=fun m hm=>ref35Bin_vr (w:=true) (v:=true) p m hm
  have hsp:=fun m xs=>refSplitO_vr (w:=true) (v:=true) (p.ms.getD m []) xs
  unfold plA plC at hbn
  rw [m3] at hbn
  have bl:=befL_len p s
  have bll:=belL_len p s
  unfold stA stC at hcp ⊢
  simp (disch:=((try simp only [lZ]); omega)) only [aZ,aM,aT,s_ref35_Step,v_ref35_Step]
  refine (hcp _).mono ?_
  rintro x K ⟨ad0,r,rfl,R0,G0,L0,S0,_⟩
  refine aret_of ?_
  unfold outC
  have C:=CI.start R0 G0 L0 r.fd
  simp (disch:=((try simp only [lZ]); omega)) only [aZ,aM,aT]
  obtain ⟨Q,hQ⟩ : ∃ Q,Q=K++[⟨0,outC p p.ms.length p.bs.length ad0 r.fd⟩]:=⟨_,rfl⟩
  rw [← hQ] at C
  refine AWP.cut (e':=_) (H':=Q) (by rw [hQ]; exact Cut.refl _ _ _) ?_
  generalize hO : K.length=o at C
  have hrA : ∃ ad,ad=adO ad0 o:=⟨_,rfl⟩
  obtain ⟨ad,had⟩:=hrA
  rw [← had] at C
  clear hQ R0 G0 L0 hO had
  have SS : SJ p s o ad _ (fun m=>arrK p s m 0) (mvG p s 0 1) r Q:=⟨C,fun m hm=>by rw [arrK_zero hg hm]; exact S0.b m hm (by omega),S0.h,fun y hyb q hq=>by unfold mvG; rw [if_neg (by omega),if_neg (by omega)]; exact S0.c y hyb q hq,S0.f⟩
  refine AWP.loopM g_ref35_Step_0 (fun x : Nat×Rs×List Blk=>x.1≤p.bs.length∧SJ p s o ad _ (fun m=>arrK p s m x.1) (mvG p s x.1 1) x.2.1 x.2.2) (fun x=>[(3,.v (.int .i64 x.1))]) (fun x=>x.2.2) (fun x=>p.bs.length - x.1) (0,r,Q) ⟨by omega,SS⟩ ?_ ?_
  · exact Cut.fg (by simp (disch:=first | omega | simp (disch:=omega) only [aG,aM,aT]) only [fZ,aM,aT,fgl_nil,fgl_cons,or_true,true_or])
  clear SS C S0
  rintro ⟨i,r,Q⟩ ⟨hi,S⟩
  simp only at hi S
  have C:=S.c
  have qo:=C.rm.ot
  rw [C.ro] at qo
  have qx : blkAt Q 0 0=some _:=C.bx
  by_cases hit : i < p.bs.length
  · have us : usR p.bs.length (.sl i)=true:=by simpa [usR] using hit
    have e1:=belL_get p s i hit
    have e2:=belM_len p s i
    have e3:=belM_get p s i (p.rl i) (by omega)
    have e4 : (((p.rl i+1 : Nat) : Int) - 1).toNat=p.rl i:=by omega
    have hrl:=ok.rl hit
    have htp:=tp_lt ok hit
    have hto : (p.bs.getD i b0).to=(tpS p i : Int):=by have:=ok.bt _ (mem_get b0 hit); unfold tpS; omega
    have qb:=C.rm.get .bef rfl
    have ql:=C.rm.get .bel rfl
    simp only [ctR] at qb ql
    have f1:=mr_nth p.ms.length r.bc (tpS p i) htp
    rw [S.b _ htp] at f1
    have f2:=mr_len p.ms.length r.bc
    have f3:=mr_spl p.ms.length r.bc (tpS p i)
    have g1 : nthA ((List.range p.bs.length).map (celB p ad)) i=some (.sl (ad (.sl i)).1 (ad (.sl i)).2 1 0 (p.rl i+1)):=mr_nth p.bs.length (celB p ad) i hit
    have g2:=mr_len p.bs.length (celB p ad)
    have hak:=arrK_ok ok hg htp (k:=i) (by omega)
    have hsk:=slt_mok hg.ok hit (Nat.le_refl (p.rl i))
    have hpv:=plus35_vr (w:=true) (v:=true) (arrK p s (tpS p i) i) (slt p s i (p.rl i)) (by rw [hak.1,hsk.1]) (fun x _=>by have:=hak.2 x; have:=hsk.2 x; omega) (by rw [hak.1]; omega)
    have lb:=blkAt_lt qb
    have lo:=blkAt_lt qo
    have hib:=C.hi .bef rfl
    have his:=C.hi _ us
    have hil:=C.hi .bel rfl
    have nbo:=C.rm.ne (c:=.bef) (d:=.out) rfl rfl (by simp)
    have nbl:=C.rm.ne (c:=.bef) (d:=.bel) rfl rfl (by simp)
    have nso:=C.rm.ne (c:=.sl i) (d:=.out) us rfl (by simp)
    have nsl:=C.rm.ne (c:=.sl i) (d:=.bel) us rfl (by simp)
    rw [C.ro] at nbo nso
    simp at hib his hil
    unfold outC at qo
    simp (disch:=((try simp only [lZ]); omega)) only [aZ,aM,aT,qx,qo,qb,ql,e1,e2,e3,e4,f1,f2,hto]
    refine hpv.same (by simp (disch:=first | omega | simp (disch:=omega) only [aG,aM,aT]) only [fZ,aM,aT]) (by simp (disch:=first | omega | simp (disch:=omega) only [aG,aM,aT]) only [fZ,aM,aT]) (aret_of ?_)
    simp (disch:=((try simp only [lZ]); omega)) only [aZ,aM,aT,qx,qo,qb,ql,e1,e2,e3,e4,f1,f2,f3,hto]
    have S1:=(S.putB (tpS p i) (plusM (arrK p s (tpS p i) i) (slt p s i (p.rl i)))).as (F':=fun m=>arrK p s m (i+1)) (G':=mvG p s i 1) (fun m hm=>by
      show updF (fun m=>arrK p s m i) (tpS p i) _ m=arrK p s m (i+1)
      rw [arrK_next]
      by_cases e : tpS p i=m
      · rw [if_pos e,← e,updF_same]
      · rw [if_neg e,updF_ne _ _ (Ne.symm e)]) fun y hy q hq=>rfl
    refine AWP.loopM g_ref35_Step_1 (fun x : Nat×Rs×List Blk=>1≤x.1∧x.1≤p.rl i+1∧SJ p s o ad _ (fun m=>arrK p s m (i+1)) (mvG p s i x.1) x.2.1 x.2.2) (fun x=>[(7,.v (.int .i64 x.1))]) (fun x=>x.2.2) (fun x=>p.rl i+1 - x.1) (1,_,_) ⟨Nat.le_refl _,by omega,S1⟩ ?_ ?_
    · try simp (disch:=((try simp only [lZ]); omega)) only [aZ,aM,aT]
      exact Cut.fg (by simp (disch:=first | omega | simp (disch:=omega) only [aG,aM,aT]) only [fZ,aM,aT,fgl_nil,fgl_cons,or_true,true_or])
    clear S S1 C qo qx qb ql f1 f2 f3 hpv lb lo
    rintro ⟨k,r,Q⟩ ⟨hk1,hk,S⟩
    simp only at hk1 hk S
    have C:=S.c
    have qo:=C.rm.ot
    rw [C.ro] at qo
    have qx : blkAt Q 0 0=some _:=C.bx
    have ql:=C.rm.get .bel rfl
    have qs:=C.rm.get (.sl i) us
    simp only [ctR] at ql qs
    have lo:=blkAt_lt qo
    have ls:=blkAt_lt qs
    have f2:=mr_len (p.rl i+1) (r.sc i)
    have f3:=mr_spl (p.rl i+1) (r.sc i)
    unfold outC at qo
    by_cases hkt : k < p.rl i+1
    · have e5:=belM_get p s i (k - 1) (by omega)
      have e6 : ((k : Int) - 1).toNat=k - 1:=by omega
      simp (disch:=((try simp only [lZ]); omega)) only [aZ,aM,aT,qx,qo,ql,qs,e2,e5,e6,g1,g2,f2,f3]
      have S2:=(S.putS hit k (slt p s i (k - 1))).as (F':=fun m=>arrK p s m (i+1)) (G':=mvG p s i (k+1)) (fun m hm=>rfl) fun y hy q hq=>by
        rw [updG]; unfold mvG
        by_cases e : y=i
        · subst e; (repeat' split)<;>first | rfl | (exfalso; omega) | (subst_vars; rfl)
        · (repeat' split)<;>first | rfl | (exfalso; omega)
      refine ⟨(k+1,_,_),⟨by simp only; omega,by simp only; omega,S2⟩,by simp only; omega,?_⟩
      try simp (disch:=((try simp only [lZ]); omega)) only [aZ,aM,aT]
      exact Cut.fg (by simp (disch:=first | omega | simp (disch:=omega) only [aG,aM,aT]) only [fZ,aM,aT,fgl_nil,fgl_cons,or_true,true_or])
    have hke : k=p.rl i+1:=by omega
    subst hke
    simp (disch:=((try simp only [lZ]); omega)) only [aZ,aM,aT,qx,qo,ql,qs,e2,g1,g2]
    refine hz.same rfl (by simp (disch:=first | omega | simp (disch:=omega) only [aG,aM,aT]) only [fZ,aM,aT]) (aret_of ?_)
    have f0 : ∀ x,splA ((List.range (p.rl i+1)).map (r.sc i)) 0 [x]=(List.range (p.rl i+1)).map (updF (r.sc i) 0 x):=fun x=>f3 0 x (by omega)
    simp (disch:=((try simp only [lZ]); omega)) only [aZ,aM,aT,qx,qo,ql,qs,e2,g1,g2,f2,f0]
    have S2:=(S.putS hit 0 (zeros p.mt)).as (F':=fun m=>arrK p s m (i+1)) (G':=mvG p s (i+1) 1) (fun m hm=>rfl) fun y hy q hq=>by
      rw [updG]; unfold mvG
      by_cases e : y=i
      · subst e; (repeat' split)<;>first | rfl | (exfalso; omega) | (subst_vars; rfl)
      · (repeat' split)<;>first | rfl | (exfalso; omega)
    refine ⟨(i+1,_,_),⟨by simp only; omega,S2⟩,by simp only; omega,?_⟩
    try simp (disch:=((try simp only [lZ]); omega)) only [aZ,aM,aT]
    exact Cut.fg (by simp (disch:=first | omega | simp (disch:=omega) only [aG,aM,aT]) only [fZ,aM,aT,fgl_nil,fgl_cons,or_true,true_or])
  have hie : i=p.bs.length:=by omega
  subst hie
  have S:=S.as (F':=arrL p s) (G':=dsG p s 0) (fun m hm=>rfl) fun y hy q hq=>by
    unfold mvG dsG
    rw [if_pos hy]
    by_cases e : q=0
    · rw [if_pos e,if_pos e,if_neg (by omega)]
    · rw [if_neg e,if_neg e]
  clear C
  unfold outC at qo
  simp (disch:=((try simp only [lZ]); omega)) only [aZ,aM,aT,qx,qo,bll]
  refine AWP.loopM g_ref35_Step_2 (fun x : Nat×Rs×List Blk=>x.1≤p.bs.length∧SJ p s o ad _ (arrL p s) (dsG p s x.1) x.2.1 x.2.2) (fun x=>[(8,.v (.int .i64 x.1))]) (fun x=>x.2.2) (fun x=>p.bs.length - x.1) (0,r,Q) ⟨by omega,S⟩ ?_ ?_
  · exact Cut.fg (by simp (disch:=first | omega | simp (disch:=omega) only [aG,aM,aT]) only [fZ,aM,aT,fgl_nil,fgl_cons,or_true,true_or])
  clear S qo qx hi hit
  rintro ⟨i,r,Q⟩ ⟨hi,S⟩
  simp only at hi S
  have C:=S.c
  have qo:=C.rm.ot
  rw [C.ro] at qo
  have qx : blkAt Q 0 0=some _:=C.bx
  have hsl:=hg.hl
  by_cases hit : i < p.bs.length
  · have us : usR p.bs.length (.sl i)=true:=by simpa [usR] using hit
    have hbt:=ok.bt _ (mem_get b0 hit)
    have hfl:=fr_lt ok hit
    have hfr : (p.bs.getD i b0).fr=(frS p i : Int):=by unfold frS; omega
    have hot : (p.bs.getD i b0).ot=(otS p i : Int):=by unfold otS; omega
    have hoo : otS p i < outsN (p.ms.getD (frS p i) []):=by unfold otS frS; omega
    have hnb : ¬ binN p (frS p i):=fun hb=>by have : outsN (p.ms.getD (frS p i) [])=0:=hb; omega
    have hak:=arr_ok ok hg hfl
    have hms:=msE_good hp hfl hnb hak
    have hsp2:=hsp (frS p i) (arrL p s (frS p i))
    unfold splitA at hsp2
    rw [if_neg (by omega),hms] at hsp2
    have hml : (msM (p.ms.getD (frS p i) []) (arrL p s (frS p i))).length=outsN (p.ms.getD (frS p i) []):=mtx_len _ _ _
    have hpl : (msM (p.ms.getD (frS p i) []) (arrL p s (frS p i))).getD (otS p i) []=prtL p (frS p i) (arrL p s (frS p i)) (otS p i):=rfl
    have qb:=C.rm.get .bef rfl
    have ql:=C.rm.get .bel rfl
    have qs:=C.rm.get (.sl i) us
    simp only [ctR] at qb ql qs
    have f1:=mr_nth p.ms.length r.bc (frS p i) hfl
    rw [S.b _ hfl] at f1
    have f2:=mr_len p.ms.length r.bc
    have g1 : nthA ((List.range p.bs.length).map (celB p ad)) i=some (.sl (ad (.sl i)).1 (ad (.sl i)).2 1 0 (p.rl i+1)):=mr_nth p.bs.length (celB p ad) i hit
    have g2:=mr_len p.bs.length (celB p ad)
    have h2:=mr_len (p.rl i+1) (r.sc i)
    have h3 : ∀ x,splA ((List.range (p.rl i+1)).map (r.sc i)) 0 [x]=(List.range (p.rl i+1)).map (updF (r.sc i) 0 x):=fun x=>mr_spl (p.rl i+1) (r.sc i) 0 x (by omega)
    have ls:=blkAt_lt qs
    unfold outC at qo
    cases hh : s.hal.getD (frS p i) false with
    | false =>
      simp (disch:=((try simp only [lZ]); omega)) only [aZ,aM,aT,qx,qo,hfr,hh,qb,f1,f2]
      refine hsp2.same (by unfold mcA mcC; simp (disch:=first | omega | simp (disch:=omega) only [aG,aM,aT]) only [fZ,aM,aT]) (by simp (disch:=first | omega | simp (disch:=omega) only [aG,aM,aT]) only [fZ,aM,aT]) (aret_of ?_)
      simp (disch:=((try simp only [lZ]); omega)) only [aZ,aM,aT,qx,qo,hfr,hot,qb,ql,qs,f1,f2,g1,g2,h2,h3,hml,hpl]
      have S2:=(S.putS hit 0 (prtL p (frS p i) (arrL p s (frS p i)) (otS p i))).as (F':=arrL p s) (G':=dsG p s (i+1)) (fun m hm=>rfl) fun y hy q hq=>by
        rw [updG]; unfold dsG
        by_cases e : y=i
        · subst e
          rw [if_pos rfl]
          by_cases e2 : q=0
          · rw [if_pos e2,if_pos e2,if_pos ⟨by omega,hh⟩]
          · rw [if_neg e2,if_neg e2,if_neg e2]
        · rw [if_neg e]
          by_cases e2 : q=0
          · rw [if_pos e2,if_pos e2]
            by_cases e3 : y < i∧s.hal.getD (frS p y) false=false
            · rw [if_pos e3,if_pos ⟨by omega,e3.2⟩]
            · rw [if_neg e3,if_neg (fun h=>e3 ⟨by omega,h.2⟩)]
          · rw [if_neg e2,if_neg e2]
      refine ⟨(i+1,_,_),⟨by simp only; omega,S2⟩,by simp only; omega,?_⟩
      try simp (disch:=((try simp only [lZ]); omega)) only [aZ,aM,aT]
      exact Cut.fg (by simp (disch:=first | omega | simp (disch:=omega) only [aG,aM,aT]) only [fZ,aM,aT,fgl_nil,fgl_cons,or_true,true_or])
    | true =>
      simp (disch:=((try simp only [lZ]); omega)) only [aZ,aM,aT,qx,qo,hfr,hh]
      have S2:=S.as (F':=arrL p s) (G':=dsG p s (i+1)) (fun m hm=>rfl) fun y hy q hq=>by
        unfold dsG
        by_cases e2 : q=0
        · rw [if_pos e2,if_pos e2]
          by_cases e3 : y < i∧s.hal.getD (frS p y) false=false
          · rw [if_pos e3,if_pos ⟨by omega,e3.2⟩]
          · rw [if_neg e3, if_neg (fun h => e3 ⟨by
              have : y≠i:=fun e=>by rw [e,hh] at h; cases h.2
              omega,h.2⟩)]
        · rw [if_neg e2,if_neg e2]
      refine ⟨(i+1,_,_),⟨by simp only; omega,S2⟩,by simp only; omega,?_⟩
      try simp (disch:=((try simp only [lZ]); omega)) only [aZ,aM,aT]
      exact Cut.fg (by simp (disch:=first | omega | simp (disch:=omega) only [aG,aM,aT]) only [fZ,aM,aT,fgl_nil,fgl_cons,or_true,true_or])
  have hie : i=p.bs.length:=by omega
  subst hie
  have S2:=S.as (F':=fun m=>if m < 0∧runs p s m then zeros p.mt else arrL p s m) (G':=dsG p s p.bs.length) (fun m hm=>by rw [if_neg (by omega)]) fun y hy q hq=>rfl
  unfold outC at qo
  simp (disch:=((try simp only [lZ]); omega)) only [aZ,aM,aT,qx,qo]
  refine AWP.loopM g_ref35_Step_3 (fun x : Nat×Rs×List Blk=>x.1≤p.ms.length∧SJ p s o ad _ (fun m=>if m < x.1∧runs p s m then zeros p.mt else arrL p s m) (dsG p s p.bs.length) x.2.1 x.2.2) (fun x=>[(12,.v (.int .i64 x.1))]) (fun x=>x.2.2) (fun x=>p.ms.length - x.1) (0,r,Q) ⟨by omega,S2⟩ ?_ ?_
  · exact Cut.fg (by simp (disch:=first | omega | simp (disch:=omega) only [aG,aM,aT]) only [fZ,aM,aT,fgl_nil,fgl_cons,or_true,true_or])
  clear S S2 qo qx hi hit C
  rintro ⟨k,r,Q⟩ ⟨hk,S⟩
  simp only at hk S
  have C:=S.c
  have qo:=C.rm.ot
  rw [C.ro] at qo
  have qx : blkAt Q 0 0=some _:=C.bx
  have qv : blkAt Q 1 0=some z8:=C.rv
  have lv:=blkAt_lt qv
  unfold outC at qo
  by_cases hkt : k < p.ms.length
  · have qb:=C.rm.get .bef rfl
    simp only [ctR] at qb
    have lb:=blkAt_lt qb
    have f2:=mr_len p.ms.length r.bc
    have f3:=mr_spl p.ms.length r.bc k
    by_cases hr : runs p s k
    · have hb : ¬ binN p k:=fun hb=>hr (.inl hb)
      have hh : s.hal.getD k false=false:=by
        cases h : s.hal.getD k false with
        | false=>rfl
        | true=>exact absurd (.inr h) hr
      simp (disch:=((try simp only [lZ]); omega)) only [aZ,aM,aT,qx,qo]
      refine (hbn k hkt).same (by simp (disch:=first | omega | simp (disch:=omega) only [aG,aM,aT]) only [fZ,aM,aT]) rfl (aret_of ?_)
      rw [decide_eq_false hb]
      simp (disch:=((try simp only [lZ]); omega)) only [aZ,aM,aT,qx,qo,hh]
      refine hz.same rfl (by simp (disch:=first | omega | simp (disch:=omega) only [aG,aM,aT]) only [fZ,aM,aT]) (aret_of ?_)
      simp (disch:=((try simp only [lZ]); omega)) only [aZ,aM,aT,qx,qo,qb,f2,f3]
      have S3:=(S.putB k (zeros p.mt)).as (F':=fun m=>if m < k+1∧runs p s m then zeros p.mt else arrL p s m) (G':=dsG p s p.bs.length) (fun m hm=>by
        by_cases e : m=k
        · subst e; rw [updF_same,if_pos ⟨by omega,hr⟩]
        · rw [updF_ne _ _ e]
          by_cases e2 : m < k∧runs p s m
          · rw [if_pos e2,if_pos ⟨by omega,e2.2⟩]
          · rw [if_neg e2,if_neg (fun h=>e2 ⟨by omega,h.2⟩)]) fun y hy q hq=>rfl
      refine ⟨(k+1,_,_),⟨by simp only; omega,S3⟩,by simp only; omega,?_⟩
      try simp (disch:=((try simp only [lZ]); omega)) only [aZ,aM,aT]
      exact Cut.fg (by simp (disch:=first | omega | simp (disch:=omega) only [aG,aM,aT]) only [fZ,aM,aT,fgl_nil,fgl_cons,or_true,true_or])
    · have S3 := S.as (F' := fun m => if m < k + 1 ∧ runs p s m then zeros p.mt else arrL p s m) (G' := dsG p s p.bs.length) (fun m hm => by
        by_cases e2 : m < k∧runs p s m
        · rw [if_pos e2,if_pos ⟨by omega,e2.2⟩]
        · rw [if_neg e2, if_neg (fun h => e2 ⟨by
            have : m≠k:=fun e=>hr (e▸h.2)
            omega,h.2⟩)]) fun y hy q hq=>rfl
      simp (disch:=((try simp only [lZ]); omega)) only [aZ,aM,aT,qx,qo]
      refine (hbn k hkt).same (by simp (disch:=first | omega | simp (disch:=omega) only [aG,aM,aT]) only [fZ,aM,aT]) rfl (aret_of ?_)
      by_cases hb : binN p k
      · rw [decide_eq_true hb]
        simp (disch:=((try simp only [lZ]); omega)) only [aZ,aM,aT]
        refine ⟨(k+1,r,Q),⟨by simp only; omega,S3⟩,by simp only; omega,?_⟩
        try simp (disch:=((try simp only [lZ]); omega)) only [aZ,aM,aT]
        exact Cut.fg (by simp (disch:=first | omega | simp (disch:=omega) only [aG,aM,aT]) only [fZ,aM,aT,fgl_nil,fgl_cons,or_true,true_or])
      · have hh : s.hal.getD k false = true := by
          cases h : s.hal.getD k false with
          | true=>rfl
          | false=>exact absurd (fun hc=>by rcases hc with h1 | h1; exact hb h1; rw [h] at h1; cases h1) hr
        rw [decide_eq_false hb]
        simp (disch:=((try simp only [lZ]); omega)) only [aZ,aM,aT,qx,qo,hh]
        refine ⟨(k+1,r,Q),⟨by simp only; omega,S3⟩,by simp only; omega,?_⟩
        try simp (disch:=((try simp only [lZ]); omega)) only [aZ,aM,aT]
        exact Cut.fg (by simp (disch:=first | omega | simp (disch:=omega) only [aG,aM,aT]) only [fZ,aM,aT,fgl_nil,fgl_cons,or_true,true_or])
  have hke : k=p.ms.length:=by omega
  subst hke
  have hio:=C.hi .out rfl
  rw [C.ro] at hio
  simp at hio
  simp (disch:=((try simp only [lZ]); omega)) only [aZ,aM,aT,qx,qo,qv,r_ref35_Step]
  have hst:=hg.stp hp
  have hw : Shw p p.ms.length r (stpS p s):=⟨fun m hm _=>by
    rw [S.b m hm,stp_bef ok hg hm]
    by_cases hr : runs p s m
    · rw [if_pos ⟨hm,hr⟩,if_pos hr]
    · rw [if_neg (fun h=>hr h.2),if_neg hr],fun m hm=>by rw [S.h m hm,hst.2.2.1],fun y hy q hq=>by
    rw [S.d y hy q hq]
    unfold dsG
    cases q with
    | zero =>
      rw [if_pos rfl,stp_slt0 ok hg hy]
      have hbt:=ok.bt _ (mem_get b0 hy)
      have hoo : outsN (p.ms.getD (frS p y) [])≠0:=by unfold frS; omega
      by_cases hr : runs p s (frS p y)
      · rw [if_pos hr, if_pos ⟨hy, by
          cases h : s.hal.getD (frS p y) false with
          | false=>rfl
          | true=>exact absurd (.inr h) hr⟩]
      · rw [if_neg hr,if_neg (fun h=>hr (fun hc=>by rcases hc with h1 | h1; exact hoo h1; rw [h.2] at h1; cases h1))]
    | succ q=>rw [if_neg (by omega),stp_sltS hy (by omega)]; rfl,by rw [S.f,hst.2.2.2]⟩
  exact post0 (r:=stA p (stpS p s)) (hw.fz (ad:=ad) (C.last _) hst.1.hl) ⟨rfl,rfl⟩
end Go.Proofs.YtdkoindoljngmaaGreat
namespace Go.Proofs.YtdkoindoljngmaaGreat
open Go Go.Lft
set_option linter.unusedSimpArgs false
set_option linter.unusedVariables false
def tyOps : Ty:=(.sl (.st [(.int .i64),(.int .i64),(.int .i64),(.sl (.int .i64))]))
theorem tyOps_is : tyOps.Is Tryz.prog 26:=by
  unfold tyOps
  simp only [Ty.Is]
  refine ⟨43,Tryz.underlying26,by kernel_rfl,by decide,?_⟩
  refine ⟨_,Tryz.underlying43,by kernel_rfl,?_⟩
  simp only [Ty.IsL,Ty.Is]
  refine ⟨by first | rfl | trivial,by kernel_rfl,?_,?_⟩
  ·
    exact Tryz.underlying3
  refine ⟨by first | rfl | trivial,by kernel_rfl,?_,?_⟩
  ·
    exact Tryz.underlying3
  refine ⟨by first | rfl | trivial,by kernel_rfl,?_,?_⟩
  ·
    exact Tryz.underlying3
  refine ⟨by first | rfl | trivial,by kernel_rfl,?_,?_⟩
  ·
    refine ⟨3,Tryz.underlying38,by kernel_rfl,by decide,?_⟩
    exact Tryz.underlying3
  trivial
theorem op_of {ce : List A} (h : (Ty.st [.int .i64,.int .i64,.int .i64,.sl (.int .i64)]).Sh true ce) : ∃ o : Op,(Ty.st [.int .i64,.int .i64,.int .i64,.sl (.int .i64)]).pk ce=opA o∧(fit o.k∧fit o.m∧fit o.n∧o.mx.length≤maxLen):=by
  simp only [Ty.Sh,Ty.ShL] at h
  obtain ⟨_,_,rfl,⟨k,rfl,hk⟩,_,_,rfl,⟨m,rfl,hm⟩,_,_,rfl,⟨n,rfl,hn⟩,a,b,rfl,h,rfl⟩:=h
  obtain ⟨l,h1,h2,h3⟩:=ints_of (w:=true) (ce:=a) (by simp only [Ty.Sh]; exact h)
  obtain ⟨L,rfl,_⟩:=h
  refine ⟨⟨k,m,n,l⟩,?_,wf_i64 hk,wf_i64 hm,wf_i64 hn,h2⟩
  rw [show (Ty.sl (.int .i64)).pk [A.fs true (L.map (Ty.int .i64).pk)]=.fs true (L.map (Ty.int .i64).pk) from rfl] at h1
  show A.agg _=A.agg _
  rw [List.append_nil,h1]; rfl
theorem ops_of {es : List A} (h : tyOps.Sh true es) : ∃ l : List Op,tyOps.pk es=.fs true (ops l)∧l.length≤maxLen∧∀ o∈l,fit o.k∧fit o.m∧fit o.n∧o.mx.length≤maxLen:=by
  unfold tyOps at h ⊢
  simp only [Ty.Sh] at h
  obtain ⟨L,rfl,hn,h⟩:=h
  obtain ⟨l,h1,h2,h3⟩:=list_of (w:=true) _ opA _ (fun ce hce=>op_of hce) L (fun ce hce=>by simp only [Ty.Sh]; exact h ce hce)
  exact ⟨l,by show A.fs true _=_; rw [h1]; rfl,by omega,h3⟩
end Go.Proofs.YtdkoindoljngmaaGreat
namespace Go.Proofs.YtdkoindoljngmaaGreat
open Go Go.Lft
set_option linter.unusedSimpArgs false
set_option linter.unusedVariables false
attribute [local congr] ob_congr bw_congr ib_congr ck_congr iwA_congr itA_congr aw_congr awp_congr sqA_congr bkA_congr vr_congr gd_congr
theorem len_app1 (H : List Blk) (B : Blk) : (H++[B]).length=H.length+1:=by simp
theorem Tr.own {p : Pl} {H K : List Blk} {ad ad' : Ad} (T : Tr p H ad K ad') {j : Nat} (hj : H.length≤j) (B : Blk) : Tr p H ad (K.set j B) ad' :=
  ⟨T.1.trans (Gr.set (F:=Go.Proofs.YtdkoindoljngmaaGreat.one j) _ _ _ rfl) fun i hi hf=>by have : i=j:=hf; omega,T.2.1,T.2.2⟩
theorem PM.own {p : Pl} {K : List Blk} {ad : Ad} {s : Sy} (h : PM K p ad s) {j : Nat} (hj : ¬ ftp p ad j) (B : Blk) : PM (K.set j B) p ad s :=
  h.gr (Gr.set (F:=one j) _ _ _ rfl) fun c hc hf=>hj ⟨c,hc,hf⟩
theorem lawSame_vr {H : List Blk} {p : Pl} {ad : Ad} {s : Sy} (hp : pcheck p=0) (h : PM H p ad s) (hg : Iv p s) : VR P false n_law35_same [.lp (ad .root).1 0 0,stA p s] H (fun r H'=>r=.v (.bool true)∧Gr nof H H'):=by
  refine vr_law35_same (by simp) (.inl rfl) fun _ _=>?_
  have ok:=pcheck_ok hp
  obtain ⟨m1,m2,m3⟩:=ok.mt1
  have n2:=ok.n2
  have hri:=refInside_vr p s hp hg.1
  have il:=insL_len p s
  have fl:=hg.1.fd.1
  have hbd:=stC_bd 0 p s
  have bl:=befL_len p s
  have hs1:=same35_vr (w:=false) (v:=true) (insL p s) (insL p s) (by rw [il]; omega)
  have hs2:=same35_vr (w:=false) (v:=true) s.fed s.fed (by rw [fl]; omega)
  rw [decide_eq_true rfl] at hs1 hs2
  unfold stA stC at hri ⊢
  unfold stC at hbd
  have hin:=inside_m hp (h.grow [⟨0,[.v (.int .i64 p.mt),.fs true (mcs true p.ms),.fs true (bts p.bs),.v (.int .i64 p.fd),.fs true (rows true (befL p s)),.fs true (mxs (belL p s)),.fs true (bools s.hal),.fs true (ints s.fed)]⟩]) hg.1
  simp (disch:=((try simp only [lZ]); omega)) only [aZ,aM,aT,aO,s_law35_same,v_law35_same]
  refine ⟨⟨?_,?_⟩,?_,?_⟩<;>(
    refine hin.mono ?_
    rintro r K1 ⟨rfl,G1,O1⟩
    have P1 : PM K1 p ad s:=(h.grow _).gr G1 fun _ _ h=>h
    have X1:=G1.at (i:=H.length) (ver:=0) (by rw [blkAt_new0]; rfl) fun h=>h
    rw [len_app1] at O1
    refine aret_of ?_
    simp (disch:=((try simp only [lZ]); omega)) only [aZ,aM,aT,aO,X1]
    refine hri.same (by simp (disch:=first | omega | simp (disch:=omega) only [aG,aM,aT,aO]) only [fZ,aM,aT,aO]) (by simp (disch:=first | omega | simp (disch:=omega) only [aG,aM,aT,aO]) only [fZ,aM,aT,aO]) (aret_of ?_)
    simp (disch:=((try simp only [lZ]); omega)) only [aZ,aM,aT,aO]
    refine hs1.use ⟨ld_slI K1 _ _ _ _ il.symm O1,Ld.refl (by simp (disch:=first | omega | simp (disch:=omega) only [aG,aM,aT,aO]) only [fZ,aM,aT,aO]),trivial⟩ rfl (aret_of ?_)
    simp (disch:=((try simp only [lZ]); omega)) only [aZ,aM,aT,aO,X1]
    refine (fed_pm ok P1 hg.1.ok).mono ?_
    rintro r K2 ⟨rfl,hK2⟩
    have P2 : PM K2 p ad s:=by rw [hK2]; exact P1.grow _
    have G2 : Gr nof K1 K2:=by rw [hK2]; exact Gr.app _ _
    have O2 : blkAt K2 K1.length 1=some (ints s.fed):=by rw [hK2,blkAt_new0]; rfl
    have X2:=G2.at X1 fun h=>h
    have GG : Gr nof H K2:=((Gr.app (F:=nof) H _).trans G1 fun _ _ h=>h).trans G2 fun _ _ h=>h
    clear hK2 G1 O1 X1 P1
    refine aret_of ?_
    simp (disch:=((try simp only [lZ]); omega)) only [aZ,aM,aT,aO,X2]
    refine hs2.use ⟨ld_slI K2 _ _ _ _ fl.symm O2,Ld.refl (by simp (disch:=first | omega | simp (disch:=omega) only [aG,aM,aT,aO]) only [fZ,aM,aT,aO]),trivial⟩ rfl (aret_of ?_)
    simp (disch:=((try simp only [lZ]); omega)) only [aZ,aM,aT,aO,X2]
    refine AWP.loopM g_law35_same_0 (fun x : Nat×List Blk=>x.1≤p.ms.length∧PM x.2 p ad s∧blkAt x.2 H.length 0=some _∧Gr nof H x.2) (fun x=>[(4,.v (.int .i64 x.1))]) (fun x=>x.2) (fun x=>p.ms.length - x.1) (0,K2) ⟨by omega,P2,X2,GG⟩ ?_ ?_
    · exact Cut.fg (by simp (disch:=first | omega | simp (disch:=omega) only [aG,aM,aT,aO]) only [fZ,aM,aT,aO,fgl_nil,fgl_cons,or_true,true_or])
    clear P2 G2 O2 X2 GG
    rintro ⟨m,K⟩ ⟨hm,kP,kX,kG⟩
    simp only at hm kP kX kG
    by_cases hmt : m < p.ms.length
    · have e1:=befL_get p s m hmt
      by_cases he : fndE p m=0
      · have hb:=bin_ok ok kP hg.1.ok m he
        rw [Int.toNat_natCast] at hb
        have hbl:=(hg.1.bl m hmt).1
        have hs3:=same35_vr (w:=false) (v:=true) (s.bef m) (s.bef m) (by rw [hbl]; omega)
        rw [decide_eq_true rfl] at hs3
        simp (disch:=((try simp only [lZ]); omega)) only [aZ,aM,aT,aO]
        refine hb.mono ?_
        rintro r K' ⟨rfl,hK'⟩
        have P' : PM K' p ad s:=by rw [hK']; exact kP.grow _
        have G' : Gr nof K K':=by rw [hK']; exact Gr.app _ _
        have O' : blkAt K' K.length 1=some (ints (s.bef m)):=by rw [hK',blkAt_new0]; rfl
        have X':=G'.at kX fun h=>h
        clear hK'
        refine aret_of ?_
        simp (disch:=((try simp only [lZ]); omega)) only [aZ,aM,aT,aO,X',e1]
        refine hs3.use ⟨ld_slI K' _ _ _ _ hbl.symm O',Ld.refl (by simp (disch:=first | omega | simp (disch:=omega) only [aG,aM,aT,aO]) only [fZ,aM,aT,aO]),trivial⟩ rfl (aret_of ?_)
        simp (disch:=((try simp only [lZ]); omega)) only [aZ,aM,aT,aO]
        refine ⟨(m+1,K'),⟨by simp only; omega,P',X',kG.trans G' fun _ _ h=>h⟩,by simp only; omega,?_⟩
        try simp (disch:=((try simp only [lZ]); omega)) only [aZ,aM,aT,aO]
        exact Cut.fg (by simp (disch:=first | omega | simp (disch:=omega) only [aG,aM,aT,aO]) only [fZ,aM,aT,aO,fgl_nil,fgl_cons,or_true,true_or])
      · have hb:=bin_err ok kP m he
        generalize fndE p m=fe at *
        simp (disch:=((try simp only [lZ]); omega)) only [aZ,aM,aT,aO]
        refine hb.mono ?_
        rintro r K' ⟨rfl,hK'⟩
        subst hK'
        refine aret_of ?_
        simp (disch:=((try simp only [lZ]); omega)) only [aZ,aM,aT,aO,kX,decide_eq_false he]
        refine ⟨(m+1,K'),⟨by simp only; omega,kP,kX,kG⟩,by simp only; omega,?_⟩
        try simp (disch:=((try simp only [lZ]); omega)) only [aZ,aM,aT,aO]
        exact Cut.fg (by simp (disch:=first | omega | simp (disch:=omega) only [aG,aM,aT,aO]) only [fZ,aM,aT,aO,fgl_nil,fgl_cons,or_true,true_or])
    · simp (disch:=((try simp only [lZ]); omega)) only [aZ,aM,aT,aO,r_law35_same]
      exact post2 (R:=fun r H'=>r=.v (.bool true)∧Gr nof H H') ⟨rfl,kG⟩)
theorem take_a {w : Bool} {H : List Blk} {p : Pl} {ad : Ad} {s : Sy} (hp : pcheck p=0) (h : PM H p ad s) (hg : Iv p s) (m : Int) (xs : List Int) : VR P false n_plant_Plant_Take [.lp (ad .root).1 0 0,.v (.int .i64 m),.fs w (ints xs)] H (fun r H'=>r=.v (.int .i64 (takE p s m xs))∧PM H' p ad (takR p s m xs)∧Tr p H ad H' ad):=by
  unfold takR; exact take_pm hp h hg.1 m xs
def doR (p : Pl) (H : List Blk) (ad : Ad) : A→List Blk→Prop:=fun r H'=>∃ (s' : Sy) (ad' : Ad),r=.tup [stA p s',.v (.bool true)]∧PM H' p ad' s'∧Iv p s'∧Tr p H ad H' ad'
theorem doR.fin {p : Pl} {H K : List Blk} {ad ad' : Ad} {s' : Sy} (P : PM K p ad' s') (I : Iv p s') (T : Tr p H ad K ad') {j : Nat} (hj : H.length≤j) (hn : ¬ ftp p ad' j) (B : Blk) : doR p H ad (.tup [stA p s',.v (.bool true)]) (K.set j B):=⟨s',ad',rfl,P.own hn B,I,T.own hj B⟩
theorem lawDo_vr {H : List Blk} {p : Pl} {ad : Ad} {s : Sy} (hp : pcheck p=0) (h : PM H p ad s) (hg : Iv p s) (o : Op) (hl : o.mx.length≤9223372036854775807) : VR P false n_law35_do [.lp (ad .root).1 0 0,stA p s,opA o] H (doR p H ad):=by
  refine vr_law35_do (by simp) (.inl rfl) fun _ _=>?_
  have ok:=pcheck_ok hp
  obtain ⟨m1,m2,m3⟩:=ok.mt1
  have n2:=ok.n2
  have hbd:=stC_bd 0 p s
  have bl:=befL_len p s
  have hfeed:=refFeed_vr (w:=true) p s o.mx hp hg.1 hl
  have htake:=refTake_vr (w:=true) p s o.m o.mx hp hg.1 hl
  have hhalt:=fun b=>refHalt_vr p s o.m b hp hg.1
  have hstep:=fun k=>refStep_vr p (itS p s k) hp (hg.1.it hp k).1
  have hbe:=binErr_vr (w:=true) (v:=true) p o.m
  unfold plA plC at hbe
  rw [m3] at hbe
  unfold opA opC
  have hst : ∀ t,stA p t=.agg [.v (.int .i64 p.mt),.fs true (mcs true p.ms),.fs true (bts p.bs),.v (.int .i64 p.fd),.fs true (rows true (befL p t)),.fs true (mxs (belL p t)),.fs true (bools t.hal),.fs true (ints t.fed)]:=fun t=>rfl
  simp only [hst] at hfeed htake hhalt hstep ⊢
  unfold stC at hbd
  have n3 : ∀ j,H.length≤j→¬ ftp p ad j:=fun j hj=>h.nftp hj
  simp (disch:=((try simp only [lZ]); omega)) only [aZ,aM,aT,aO,s_law35_do,v_law35_do]
  by_cases h0 : o.k=0
  · simp (disch:=((try simp only [lZ]); omega)) only [aZ,aM,aT,aO,decide_eq_true h0]
    refine hfeed.same (by simp (disch:=first | omega | simp (disch:=omega) only [aG,aM,aT,aO]) only [fZ,aM,aT,aO]) (by simp (disch:=first | omega | simp (disch:=omega) only [aG,aM,aT,aO]) only [fZ,aM,aT,aO]) (aret_of ?_)
    simp (disch:=((try simp only [lZ]); omega)) only [aZ,aM,aT,aO]
    have P1:=h.grow [⟨0,[.v (.int .i64 p.mt),.fs true (mcs true p.ms),.fs true (bts p.bs),.v (.int .i64 p.fd),.fs true (rows true (befL p s)),.fs true (mxs (belL p s)),.fs true (bools s.hal),.fs true (ints s.fed)]⟩,⟨0,[.v (.int .i64 o.k),.v (.int .i64 o.m),.v (.int .i64 o.n),.fs true (ints o.mx)]⟩,⟨0,z8⟩,⟨0,[.v (.int .i64 p.mt),.fs true (mcs true p.ms),.fs true (bts p.bs),.v (.int .i64 p.fd),.fs true (rows true (befL p (feedR p s o.mx))),.fs true (mxs (belL p (feedR p s o.mx))),.fs true (bools (feedR p s o.mx).hal),.fs true (ints (feedR p s o.mx).fed)]⟩]
    have c:=feed_f (w:=true) (xs:=o.mx) hp P1 hg
    refine ⟨?_,?_⟩<;>(
      refine c.mono ?_
      rintro r K ⟨rfl,P2,T2⟩
      have X3:=T2.keep (i:=H.length+(1+1)) (v:=0) (by rw [blkAt_new]; rfl) (n3 _ (by omega))
      have X4:=T2.keep (i:=H.length+(1+1+1)) (v:=0) (by rw [blkAt_new]; rfl) (n3 _ (by omega))
      have T3:=(Tr.gr (p:=p) (ad:=ad) (Gr.app (F:=nof) H _)).trans T2
      have l3:=blkAt_lt X3.1
      have hd : decide (fitE p.mt s.fed o.mx=fitE p.mt s.fed o.mx)=true:=by simp
      refine aret_of ?_
      simp (disch:=((try simp only [lZ]); omega)) only [aZ,aM,aT,aO,X3.1,X4.1,hd,r_law35_do]
      exact post2 (R:=doR p H ad) (doR.fin P2 (hg.feedR ok o.mx) T3 (by omega) X3.2 _))
  by_cases h1 : o.k=1
  · have hs0:=hstep 0
    simp only [itS] at hs0
    have P1:=h.grow [⟨0,[.v (.int .i64 p.mt),.fs true (mcs true p.ms),.fs true (bts p.bs),.v (.int .i64 p.fd),.fs true (rows true (befL p s)),.fs true (mxs (belL p s)),.fs true (bools s.hal),.fs true (ints s.fed)]⟩,⟨0,[.v (.int .i64 o.k),.v (.int .i64 o.m),.v (.int .i64 o.n),.fs true (ints o.mx)]⟩,⟨0,z8⟩]
    have c:=step_m hp P1 hg.1
    simp (disch:=((try simp only [lZ]); omega)) only [aZ,aM,aT,aO,decide_eq_false h0,decide_eq_true h1]
    refine hs0.same (by simp (disch:=first | omega | simp (disch:=omega) only [aG,aM,aT,aO]) only [fZ,aM,aT,aO]) (by simp (disch:=first | omega | simp (disch:=omega) only [aG,aM,aT,aO]) only [fZ,aM,aT,aO]) (aret_of ?_)
    simp (disch:=((try simp only [lZ]); omega)) only [aZ,aM,aT,aO]
    refine c.mono ?_
    rintro r K ⟨rfl,ad2,P2,T2⟩
    have X3:=T2.keep (i:=H.length+(1+1)) (v:=0) (by rw [blkAt_new]; rfl) (n3 _ (by omega))
    have T3:=(Tr.gr (p:=p) (ad:=ad) (Gr.app (F:=nof) H _)).trans T2
    have l3:=blkAt_lt X3.1
    refine aret_of ?_
    simp (disch:=((try simp only [lZ]); omega)) only [aZ,aM,aT,aO,X3.1,r_law35_do]
    exact post2 (R:=doR p H ad) (doR.fin P2 (hg.it hp 1) T3 (by omega) X3.2 _)
  by_cases h3 : o.k=3
  · simp (disch:=((try simp only [lZ]); omega)) only [aZ,aM,aT,aO,decide_eq_false h0,decide_eq_false h1,decide_eq_false (show ¬ o.k=2 by omega),decide_eq_true h3]
    refine (hhalt _).same (by simp (disch:=first | omega | simp (disch:=omega) only [aG,aM,aT,aO]) only [fZ,aM,aT,aO]) (by simp (disch:=first | omega | simp (disch:=omega) only [aG,aM,aT,aO]) only [fZ,aM,aT,aO]) (aret_of ?_)
    simp (disch:=((try simp only [lZ]); omega)) only [aZ,aM,aT,aO]
    have P1:=h.grow [⟨0,[.v (.int .i64 p.mt),.fs true (mcs true p.ms),.fs true (bts p.bs),.v (.int .i64 p.fd),.fs true (rows true (befL p s)),.fs true (mxs (belL p s)),.fs true (bools s.hal),.fs true (ints s.fed)]⟩,⟨0,[.v (.int .i64 o.k),.v (.int .i64 o.m),.v (.int .i64 o.n),.fs true (ints o.mx)]⟩,⟨0,z8⟩,⟨0,[.v (.int .i64 p.mt),.fs true (mcs true p.ms),.fs true (bts p.bs),.v (.int .i64 p.fd),.fs true (rows true (befL p (haltR p s o.m (decide (o.n.tmod 2≠0))))),.fs true (mxs (belL p (haltR p s o.m (decide (o.n.tmod 2≠0))))),.fs true (bools (haltR p s o.m (decide (o.n.tmod 2≠0))).hal),.fs true (ints (haltR p s o.m (decide (o.n.tmod 2≠0))).fed)]⟩]
    have c:=halt_a ok P1 hg o.m (decide (o.n.tmod 2≠0))
    refine ⟨?_,?_⟩<;>(
      refine c.mono ?_
      rintro r K ⟨rfl,P2,T2⟩
      have X3:=T2.keep (i:=H.length+(1+1)) (v:=0) (by rw [blkAt_new]; rfl) (n3 _ (by omega))
      have X4:=T2.keep (i:=H.length+(1+1+1)) (v:=0) (by rw [blkAt_new]; rfl) (n3 _ (by omega))
      have T3:=(Tr.gr (p:=p) (ad:=ad) (Gr.app (F:=nof) H _)).trans T2
      have l3:=blkAt_lt X3.1
      have hd : decide (hltE p o.m=hltE p o.m)=true:=by simp
      refine aret_of ?_
      simp (disch:=((try simp only [lZ]); omega)) only [aZ,aM,aT,aO,X3.1,X4.1,hd,r_law35_do]
      exact post2 (R:=doR p H ad) (doR.fin P2 (hg.haltR o.m (decide (o.n.tmod 2≠0))) T3 (by omega) X3.2 _))
  by_cases h4 : o.k=4
  · simp (disch:=((try simp only [lZ]); omega)) only [aZ,aM,aT,aO,decide_eq_false h0,decide_eq_false h1,decide_eq_false (show ¬ o.k=2 by omega),decide_eq_false h3,decide_eq_true h4]
    refine htake.same (by simp (disch:=first | omega | simp (disch:=omega) only [aG,aM,aT,aO]) only [fZ,aM,aT,aO]) (by simp (disch:=first | omega | simp (disch:=omega) only [aG,aM,aT,aO]) only [fZ,aM,aT,aO]) (aret_of ?_)
    simp (disch:=((try simp only [lZ]); omega)) only [aZ,aM,aT,aO]
    have P1:=h.grow [⟨0,[.v (.int .i64 p.mt),.fs true (mcs true p.ms),.fs true (bts p.bs),.v (.int .i64 p.fd),.fs true (rows true (befL p s)),.fs true (mxs (belL p s)),.fs true (bools s.hal),.fs true (ints s.fed)]⟩,⟨0,[.v (.int .i64 o.k),.v (.int .i64 o.m),.v (.int .i64 o.n),.fs true (ints o.mx)]⟩,⟨0,z8⟩,⟨0,[.v (.int .i64 p.mt),.fs true (mcs true p.ms),.fs true (bts p.bs),.v (.int .i64 p.fd),.fs true (rows true (befL p (takR p s o.m o.mx))),.fs true (mxs (belL p (takR p s o.m o.mx))),.fs true (bools (takR p s o.m o.mx).hal),.fs true (ints (takR p s o.m o.mx).fed)]⟩]
    have c:=take_a (w:=true) hp P1 hg o.m o.mx
    refine ⟨?_,?_⟩<;>(
      refine c.mono ?_
      rintro r K ⟨rfl,P2,T2⟩
      have X3:=T2.keep (i:=H.length+(1+1)) (v:=0) (by rw [blkAt_new]; rfl) (n3 _ (by omega))
      have X4:=T2.keep (i:=H.length+(1+1+1)) (v:=0) (by rw [blkAt_new]; rfl) (n3 _ (by omega))
      have T3:=(Tr.gr (p:=p) (ad:=ad) (Gr.app (F:=nof) H _)).trans T2
      have l3:=blkAt_lt X3.1
      have hd : decide (takE p s o.m o.mx=takE p s o.m o.mx)=true:=by simp
      refine aret_of ?_
      simp (disch:=((try simp only [lZ]); omega)) only [aZ,aM,aT,aO,X3.1,X4.1,hd,r_law35_do]
      exact post2 (R:=doR p H ad) (doR.fin P2 (hg.takR o.m o.mx) T3 (by omega) X3.2 _))
  by_cases h2 : o.k=2
  · by_cases hr : o.n < 0∨40 < o.n
    · have hr' : o.n < 0∨o.n > 40:=hr
      by_cases hq : 0≤o.n∧o.n≤100000
      · simp (disch:=((try simp only [lZ]); omega)) only [aZ,aM,aT,aO,decide_eq_false h0,decide_eq_false h1,decide_eq_true h2,decide_eq_true hr',decide_eq_true (show o.n≥0 from hq.1),decide_eq_true hq.2,decide_eq_true hq]
        have f : ∀ B1 B2 B3 : Blk,doR p H ad (.tup [stA p s,.v (.bool true)]) (H++[B1,B2,B3]):=fun B1 B2 B3=>⟨s,ad,rfl,h.grow _,hg,Tr.gr (Gr.app _ _)⟩
        simp (disch:=((try simp only [lZ]); omega)) only [aZ,aM,aT,aO,r_law35_do]
        exact ⟨post2 (R:=doR p H ad) (f _ _ _),post2 (R:=doR p H ad) (f _ _ _)⟩
      · have hq' : ¬ (o.n≥0∧o.n≤100000):=hq
        simp (disch:=((try simp only [lZ]); omega)) only [aZ,aM,aT,aO,decide_eq_false h0,decide_eq_false h1,decide_eq_true h2,decide_eq_true hr',decide_eq_false hq']
        have f : ∀ B1 B2 B3 : Blk,doR p H ad (.tup [stA p s,.v (.bool true)]) (H++[B1,B2,B3]):=fun B1 B2 B3=>⟨s,ad,rfl,h.grow _,hg,Tr.gr (Gr.app _ _)⟩
        refine ⟨?_,?_⟩<;>(
          refine (run_err o.n (by omega)).mono ?_
          rintro r K ⟨rfl,hK⟩
          rw [hK]
          refine aret_of ?_
          simp (disch:=((try simp only [lZ]); omega)) only [aZ,aM,aT,aO,r_law35_do]
          exact post2 (R:=doR p H ad) (f _ _ _))
    obtain ⟨n,hn⟩ : ∃ n : Nat,o.n=n:=⟨o.n.toNat,by omega⟩
    have hr' : ¬ (o.n < 0∨o.n > 40):=hr
    simp (disch:=((try simp only [lZ]); omega)) only [aZ,aM,aT,aO,decide_eq_false h0,decide_eq_false h1,decide_eq_true h2,decide_eq_false hr']
    refine AWP.loopM g_law35_do_0 (fun k : Nat=>k≤n) (fun k=>[(13,.v (.int .i64 k))]) (fun k=>H++[⟨0,[.v (.int .i64 p.mt),.fs true (mcs true p.ms),.fs true (bts p.bs),.v (.int .i64 p.fd),.fs true (rows true (befL p (itS p s k))),.fs true (mxs (belL p (itS p s k))),.fs true (bools (itS p s k).hal),.fs true (ints (itS p s k).fed)]⟩,⟨0,[.v (.int .i64 o.k),.v (.int .i64 o.m),.v (.int .i64 o.n),.fs true (ints o.mx)]⟩,⟨0,z8⟩]) (fun k=>n - k) 0 (by omega) ?_ ?_
    · exact Cut.fg (by simp (disch:=first | omega | simp (disch:=omega) only [aG,aM,aT,aO]) only [fZ,aM,aT,aO,fgl_nil,fgl_cons,or_true,true_or])
    rintro k hk
    by_cases hkt : k < n
    · simp (disch:=((try simp only [lZ]); omega)) only [aZ,aM,aT,aO,hn]
      refine (hstep k).same (by simp (disch:=first | omega | simp (disch:=omega) only [aG,aM,aT,aO]) only [fZ,aM,aT,aO]) (by simp (disch:=first | omega | simp (disch:=omega) only [aG,aM,aT,aO]) only [fZ,aM,aT,aO]) (aret_of ?_)
      simp (disch:=((try simp only [lZ]); omega)) only [aZ,aM,aT,aO]
      refine ⟨k+1,by omega,by omega,?_⟩
      try simp (disch:=((try simp only [lZ]); omega)) only [aZ,aM,aT,aO]
      exact Cut.fg (by simp (disch:=first | omega | simp (disch:=omega) only [aG,aM,aT,aO]) only [fZ,aM,aT,aO,fgl_nil,fgl_cons,or_true,true_or])
    have hke : k=n:=by omega
    subst hke
    simp (disch:=((try simp only [lZ]); omega)) only [aZ,aM,aT,aO,hn]
    have P1:=h.grow [⟨0,[.v (.int .i64 p.mt),.fs true (mcs true p.ms),.fs true (bts p.bs),.v (.int .i64 p.fd),.fs true (rows true (befL p (itS p s k))),.fs true (mxs (belL p (itS p s k))),.fs true (bools (itS p s k).hal),.fs true (ints (itS p s k).fed)]⟩,⟨0,[.v (.int .i64 o.k),.v (.int .i64 o.m),.v (.int .i64 o.n),.fs true (ints o.mx)]⟩,⟨0,z8⟩]
    have c:=run_e hp P1 hg k (by omega)
    rw [hn] at c
    refine ⟨?_,?_⟩<;>(
      refine c.mono ?_
      rintro r K ⟨rfl,s2,ad2,P2,T2,I2,E2⟩
      have X1:=T2.keep (i:=H.length) (v:=0) (by rw [blkAt_new0]; rfl) (n3 _ (by omega))
      have X3:=T2.keep (i:=H.length+(1+1)) (v:=0) (by rw [blkAt_new]; rfl) (n3 _ (by omega))
      have T3:=(Tr.gr (p:=p) (ad:=ad) (Gr.app (F:=nof) H _)).trans T2
      have l3:=blkAt_lt X3.1
      have f:=fun B=>doR.fin P2 I2 T3 (j:=H.length+(1+1)) (by omega) X3.2 B
      rw [stA_eqv E2] at f
      refine aret_of ?_
      simp (disch:=((try simp only [lZ]); omega)) only [aZ,aM,aT,aO,X1.1,X3.1,r_law35_do]
      exact post2 (R:=doR p H ad) (f _))
  simp (disch:=((try simp only [lZ]); omega)) only [aZ,aM,aT,aO,decide_eq_false h0,decide_eq_false h1,decide_eq_false h2,decide_eq_false h3,decide_eq_false h4]
  have P1:=h.grow [⟨0,[.v (.int .i64 p.mt),.fs true (mcs true p.ms),.fs true (bts p.bs),.v (.int .i64 p.fd),.fs true (rows true (befL p s)),.fs true (mxs (belL p s)),.fs true (bools s.hal),.fs true (ints s.fed)]⟩,⟨0,[.v (.int .i64 o.k),.v (.int .i64 o.m),.v (.int .i64 o.n),.fs true (ints o.mx)]⟩,⟨0,z8⟩]
  by_cases he : fndE p o.m=0
  · have hm : 0≤o.m∧o.m.toNat < p.ms.length:=by unfold fndE at he; split at he<;>omega
    have c:=bin_ok ok P1 hg.1.ok o.m he
    have e1:=befL_get p s o.m.toNat hm.2
    have hbl:=(hg.1.bl _ hm.2).1
    have hs3:=same35_vr (w:=false) (v:=true) (s.bef o.m.toNat) (s.bef o.m.toNat) (by rw [hbl]; omega)
    rw [decide_eq_true rfl] at hs3
    rw [he] at hbe
    refine c.mono ?_
    rintro r K ⟨rfl,hK⟩
    rw [hK]
    refine aret_of ?_
    simp (disch:=((try simp only [lZ]); omega)) only [aZ,aM,aT,aO]
    refine hbe.same (by simp (disch:=first | omega | simp (disch:=omega) only [aG,aM,aT,aO]) only [fZ,aM,aT,aO]) rfl (aret_of ?_)
    unfold z8
    simp (disch:=((try simp only [lZ]); omega)) only [aZ,aM,aT,aO,e1]
    have f : ∀ B1 B2 B3 B4 : Blk,doR p H ad (.tup [stA p s,.v (.bool true)]) (H++[B1,B2,B3,B4]):=fun B1 B2 B3 B4=>⟨s,ad,rfl,h.grow _,hg,Tr.gr (Gr.app _ _)⟩
    refine ⟨?_,?_⟩<;>(
      refine hs3.use ⟨ld_slI _ _ _ _ _ hbl.symm (by rw [blkAt_new]; rfl),Ld.refl (by simp (disch:=first | omega | simp (disch:=omega) only [aG,aM,aT,aO]) only [fZ,aM,aT,aO]),trivial⟩ rfl (aret_of ?_)
      simp (disch:=((try simp only [lZ]); omega)) only [aZ,aM,aT,aO,r_law35_do]
      exact post2 (R:=doR p H ad) (f _ _ _ _))
  · have c:=bin_err ok P1 o.m he
    generalize fndE p o.m=fe at *
    refine c.mono ?_
    rintro r K ⟨rfl,hK⟩
    rw [hK]
    refine aret_of ?_
    unfold z8
    simp (disch:=((try simp only [lZ]); omega)) only [aZ,aM,aT,aO]
    refine hbe.same (by simp (disch:=first | omega | simp (disch:=omega) only [aG,aM,aT,aO]) only [fZ,aM,aT,aO]) rfl (aret_of ?_)
    have f : ∀ B1 B2 B3 : Blk,doR p H ad (.tup [stA p s,.v (.bool true)]) (H++[B1,B2,B3]):=fun B1 B2 B3=>⟨s,ad,rfl,h.grow _,hg,Tr.gr (Gr.app _ _)⟩
    have hd : decide (fe=fe)=true:=by simp
    simp (disch:=((try simp only [lZ]); omega)) only [aZ,aM,aT,aO,decide_eq_false he,hd,r_law35_do]
    exact ⟨post2 (R:=doR p H ad) (f _ _ _),post2 (R:=doR p H ad) (f _ _ _)⟩
theorem plantCalls_vr (p : Pl) (l : List Op) (hmx : ∀ o∈l,o.mx.length≤maxLen) : VR P false n_law35_PlantCalls [plA true true p,.fs true (ops l)] [] (isR (.v (.bool true))):=by
  refine vr_law35_PlantCalls (by simp) (.inr rfl) fun _ _=>?_
  have hlt:=lightL_vr (w:=true) (v:=true) p l
  have hck:=ref35Check_vr (w:=true) (v:=true) p
  have hnw:=fun H=>new_vr (H:=H) (w:=true) (v:=true) p
  have hex:=example35_vr
  unfold plA plC at *
  simp (disch:=((try simp only [lZ]); omega)) only [aZ,aM,aT,aO,s_law35_PlantCalls,v_law35_PlantCalls]
  refine hlt.same (by simp (disch:=first | omega | simp (disch:=omega) only [aG,aM,aT,aO]) only [fZ,aM,aT,aO]) rfl (aret_of ?_)
  by_cases hl : litP p∧l.length≤30
  case neg =>
    simp (disch:=((try simp only [lZ]); omega)) only [aZ,aM,aT,aO,decide_eq_false hl]
    refine hex.same rfl rfl (aret_of ?_)
    simp (disch:=((try simp only [lZ]); omega)) only [aZ,aM,aT,aO,r_law35_PlantCalls]
    exact post_v ⟨rfl,rfl⟩
  simp (disch:=((try simp only [lZ]); omega)) only [aZ,aM,aT,aO,decide_eq_true hl]
  refine hck.same (by simp (disch:=first | omega | simp (disch:=omega) only [aG,aM,aT,aO]) only [fZ,aM,aT,aO]) rfl (aret_of ?_)
  by_cases hc : chkP p=0
  case neg =>
    simp (disch:=((try simp only [lZ]); omega)) only [aZ,aM,aT,aO,decide_eq_true (show ¬ chkP p=0 from hc)]
    refine hex.same rfl rfl (aret_of ?_)
    simp (disch:=((try simp only [lZ]); omega)) only [aZ,aM,aT,aO,r_law35_PlantCalls]
    exact post_v ⟨rfl,rfl⟩
  have hpc:=(chkP_ok hc).1
  have ok:=pcheck_ok hpc
  obtain ⟨m1,m2,m3⟩:=ok.mt1
  have hl30:=hl.2
  have hrn:=new35_fz (w:=true) (v:=true) p hpc
  have hst : ∀ t,stA p t=.agg [.v (.int .i64 p.mt),.fs true (mcs true p.ms),.fs true (bts p.bs),.v (.int .i64 p.fd),.fs true (rows true (befL p t)),.fs true (mxs (belL p t)),.fs true (bools t.hal),.fs true (ints t.fed)]:=fun t=>rfl
  simp (disch:=((try simp only [lZ]); omega)) only [aZ,aM,aT,aO,hc]
  refine (hnw _ hc).mono ?_
  rintro r K0 ⟨a0,rfl,P0,G0,L0⟩
  have B0 : blkAt K0 0 0=some [.v (.int .i64 p.mat),.fs true (mcs true p.ms),.fs true (bts p.bs),.v (.int .i64 p.fd)]:=G0.at rfl (fun h=>h)
  clear L0 G0
  refine aret_of ?_
  rw [m3] at B0 hck hlt ⊢
  have lB:=blkAt_lt B0
  simp only [hst] at hrn
  simp (disch:=((try simp only [lZ]); omega)) only [aZ,aM,aT,aO,B0]
  refine hrn.same (by simp (disch:=first | omega | simp (disch:=omega) only [aG,aM,aT,aO]) only [fZ,aM,aT,aO]) (by have h1:=stA_cl p (newS p); have h2:=stA_bd 0 p (newS p); simp only [hst] at h1 h2; rw [h1,h2]; rfl) (aret_of ?_)
  simp (disch:=((try simp only [lZ]); omega)) only [aZ,aM,aT,aO]
  have I0:=Iv.new p
  refine AWP.loopM g_law35_PlantCalls_0 (fun x : Nat×Ad×Sy×List Blk=>x.1≤l.length∧PM x.2.2.2 p x.2.1 x.2.2.1∧Iv p x.2.2.1∧(x.2.1 .root).1=(a0 .root).1∧blkAt x.2.2.2 K0.length 0=some (stC p x.2.2.1)∧¬ ftp p x.2.1 K0.length) (fun x=>[(6,.v (.int .i64 x.1))]) (fun x=>x.2.2.2) (fun x=>l.length - x.1) (0,a0,newS p,K0++[⟨0,stC p (newS p)⟩]) ⟨by omega,P0.grow _,I0,rfl,by rw [blkAt_new0]; rfl,P0.nftp (Nat.le_refl _)⟩ ?_ ?_
  · exact Cut.fg (by simp (disch:=first | omega | simp (disch:=omega) only [aG,aM,aT,aO]) only [fZ,aM,aT,aO,fgl_nil,fgl_cons,or_true,true_or])
  rintro ⟨k,a,s,K⟩ ⟨hk,C,I,ra,kS,nS⟩
  simp only at hk C I ra kS nS
  by_cases hlt2 : k < l.length
  · have hoi:=op_idx true l .i64 k (by omega) (by omega)
    rw [Int.toNat_natCast] at hoi
    have hmo:=hmx _ (mem_get op0 hlt2)
    generalize l.getD k op0=o at hoi hmo
    have hml : maxLen≤9223372036854775807:=by decide
    have C1:=C.grow [⟨0,[.v (.int .i64 o.k),.v (.int .i64 o.m),.v (.int .i64 o.n),.fs true (ints o.mx)]⟩]
    have hd:=lawDo_vr hpc C1 I o (by omega)
    rw [ra] at hd
    unfold opA opC at hd
    simp only [hst] at hd
    have lS:=blkAt_lt kS
    have kS':=kS
    unfold stC at kS'
    simp (disch:=((try simp only [lZ]); omega)) only [aZ,aM,aT,aO,hoi,kS']
    refine hd.mono ?_
    rintro r K' ⟨s',a',rfl,P',I',T'⟩
    have kS2:=T'.keep (i:=K0.length) (v:=0) (l:=stC p s) (by rw [blkAt_app _ _ _ _ lS]; exact kS) nS
    have ra' : (a' .root).1=(a0 .root).1:=by rw [T'.2.2]; exact ra
    have lS2:=blkAt_lt kS2.1
    refine aret_of ?_
    simp only [hst]
    have P2:=P'.grow [⟨0,stC p s'⟩]
    have hsm:=lawSame_vr hpc P2 I'
    rw [ra'] at hsm
    simp only [hst] at hsm
    unfold stC at hsm
    simp (disch:=((try simp only [lZ]); omega)) only [aZ,aM,aT,aO]
    refine hsm.mono ?_
    rintro r K2 ⟨rfl,G2⟩
    have X2:=G2.at (i:=K'.length) (ver:=0) (by rw [blkAt_new0]; rfl) fun h=>h
    have S2:=G2.at (i:=K0.length) (ver:=0) ((blkAt_app _ _ _ _ lS2).trans kS2.1) fun h=>h
    have P3 : PM K2 p a' s':=(P'.grow _).gr G2 fun _ _ h=>h
    have lS3:=blkAt_lt S2
    unfold stC at S2
    refine aret_of ?_
    simp (disch:=((try simp only [lZ]); omega)) only [aZ,aM,aT,aO,X2,S2]
    refine ⟨(k+1,a',s',K2.set K0.length ⟨0,stC p s'⟩),⟨by simp only; omega,P3.own kS2.2 _,I',ra',blkAt_set_same _ _ _ _ lS3,kS2.2⟩,by simp only; omega,?_⟩
    unfold stC
    try simp (disch:=((try simp only [lZ]); omega)) only [aZ,aM,aT,aO]
    exact Cut.fg (by simp (disch:=first | omega | simp (disch:=omega) only [aG,aM,aT,aO]) only [fZ,aM,aT,aO,fgl_nil,fgl_cons,or_true,true_or])
  · simp (disch:=((try simp only [lZ]); omega)) only [aZ,aM,aT,aO]
    refine hex.same rfl rfl (aret_of ?_)
    simp (disch:=((try simp only [lZ]); omega)) only [aZ,aM,aT,aO,r_law35_PlantCalls]
    exact post_v ⟨rfl,rfl⟩
end Go.Proofs.YtdkoindoljngmaaGreat
