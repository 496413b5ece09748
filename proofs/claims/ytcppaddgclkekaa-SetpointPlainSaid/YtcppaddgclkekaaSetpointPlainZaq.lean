/- Lemmas and walks that the proof of SetpointPlain uses. No statement is claimed here. -/
import Derived.Test.YtcppaddgclkekaaSetpointPlainZap
namespace Go.Proofs.Ytcppaddgclkekaa
open Go Go.Lft
set_option linter.unusedSimpArgs false
set_option linter.unusedVariables false
attribute [local congr] ob_congr bw_congr ib_congr ck_congr iwA_congr itA_congr aw_congr awp_congr sqA_congr bkA_congr vr_congr gd_congr
inductive Pc where
  | root | bef | bel | hal | fed
  | bm (m : Nat) | fi (i : Nat) | re (i : Nat) | ri (i q : Nat)
  deriving DecidableEq
abbrev Ad:=Pc→Nat×Nat
structure Sy where
  bef : Nat→List Int
  fst : Nat→List Int
  pos : Nat→Nat
  rng : Nat→Nat→List Int
  hal : List Bool
  fed : List Int
def Pl.mt (p : Pl) : Nat:=p.mat.toNat
def Pl.rl (p : Pl) (i : Nat) : Nat:=(p.bs.getD i b0).ln.toNat - 1
def usd (p : Pl) : Pc→Bool
  | .root=>true | .bef=>true | .bel=>true | .hal=>true | .fed=>true
  | .bm m=>decide (m < p.ms.length)
  | .fi i=>decide (i < p.bs.length)
  | .re i=>decide (i < p.bs.length) && decide (0 < p.rl i)
  | .ri i q=>decide (i < p.bs.length) && decide (q < p.rl i)
def slA (a : Nat×Nat) (n : Nat) : A:=.sl a.1 a.2 1 0 n
def befC (p : Pl) (ad : Ad) : List A:=(List.range p.ms.length).map fun m=>slA (ad (.bm m)) p.mt
def cvC (p : Pl) (ad : Ad) (i : Nat) : List A:=[slA (ad (.fi i)) p.mt,if 0 < p.rl i then .lp (ad (.re i)).1 (ad (.re i)).2 0 else .v (.pointer none)]
def belsC (p : Pl) (ad : Ad) : List A:=(List.range p.bs.length).flatMap (cvC p ad)
def rootC (p : Pl) (ad : Ad) : List A:=[.v (.int .i64 p.mat),.fs true (mcs true p.ms),.fs true (bts p.bs),.v (.int .i64 p.fd),slA (ad .bef) p.ms.length,.vs (ad .bel).1 (ad .bel).2 2 p.bs.length,slA (ad .hal) p.ms.length,slA (ad .fed) p.mt]
def ctn (p : Pl) (ad : Ad) (s : Sy) : Pc→List A
  | .root=>rootC p ad
  | .bef=>befC p ad
  | .bel=>belsC p ad
  | .hal=>bools s.hal
  | .fed=>ints s.fed
  | .bm m=>ints (s.bef m)
  | .fi i=>ints (s.fst i)
  | .re i=>belC (p.rl i) p.mt (s.pos i) fun q=>ad (.ri i q)
  | .ri i q=>ints (s.rng i q)
structure PM (H : List Blk) (p : Pl) (ad : Ad) (s : Sy) : Prop where
  get : ∀ c,usd p c=true→blkAt H (ad c).1 (ad c).2=some (ctn p ad s c)
  inj : ∀ c d,usd p c=true→usd p d=true→(ad c).1=(ad d).1→c=d
  zr : (ad .root).2=0∧∀ i,(ad (.re i)).2=0
theorem PM.lt {H : List Blk} {p : Pl} {ad : Ad} {s : Sy} (h : PM H p ad s) {c : Pc} (hc : usd p c=true) : (ad c).1 < H.length:=blkAt_lt (h.get c hc)
theorem PM.ne {H : List Blk} {p : Pl} {ad : Ad} {s : Sy} (h : PM H p ad s) {c d : Pc} (hc : usd p c=true) (hd : usd p d=true) (hn : c≠d) : (ad c).1≠(ad d).1:=fun he=>hn (h.inj c d hc hd he)
theorem PM.grow {H : List Blk} {p : Pl} {ad : Ad} {s : Sy} (h : PM H p ad s) (G : List Blk) : PM (H++G) p ad s :=
  ⟨fun c hc=>by rw [blkAt_app _ _ _ _ (h.lt hc)]; exact h.get c hc,h.inj,h.zr⟩
theorem PM.gr {F : Nat→Prop} {H H' : List Blk} {p : Pl} {ad : Ad} {s : Sy} (h : PM H p ad s) (g : Gr F H H') (hF : ∀ c,usd p c=true→¬ F (ad c).1) : PM H' p ad s :=
  ⟨fun c hc=>g.at (h.get c hc) (hF c hc),h.inj,h.zr⟩
theorem PM.put {H : List Blk} {p : Pl} {ad : Ad} {s s' : Sy} (h : PM H p ad s) (c : Pc) (hc : usd p c=true) (hd : ∀ d,d≠c→usd p d=true→ctn p ad s' d=ctn p ad s d) : PM (H.set (ad c).1 ⟨(ad c).2,ctn p ad s' c⟩) p ad s' :=
  ⟨fun d hdu=>by
    by_cases e : d=c
    · subst e; exact blkAt_set_same _ _ _ _ (h.lt hdu)
    · rw [blkAt_set_ne _ _ _ _ _ (h.ne hdu hc e),hd d e hdu]; exact h.get d hdu,h.inj,h.zr⟩
def upd (ad : Ad) (c : Pc) (a : Nat×Nat) : Ad:=fun d=>if d=c then a else ad d
theorem upd_same (ad : Ad) (c : Pc) (a : Nat×Nat) : upd ad c a c=a:=by simp [upd]
theorem upd_ne (ad : Ad) {c d : Pc} (a : Nat×Nat) (h : d≠c) : upd ad c a d=ad d:=by simp [upd,h]
theorem PM.anew {H H' : List Blk} {p : Pl} {ad : Ad} {s s' : Sy} (h : PM H p ad s) (c d : Pc) (a : Nat × Nat) (hc : usd p c = true) (hd : usd p d = true) (hcd : c ≠ d) (hz : c ≠ .root ∧ ∀ i, c ≠ .re i) (hg : Gr (one (ad d).1) H H') (ha : H.length ≤ a.1)
    (h1 : blkAt H' a.1 a.2=some (ctn p (upd ad c a) s' c)) (h2 : blkAt H' (ad d).1 (ad d).2=some (ctn p (upd ad c a) s' d)) (h3 : ∀ e,e≠c→e≠d→usd p e=true→ctn p (upd ad c a) s' e=ctn p ad s e) : PM H' p (upd ad c a) s':=by
  refine ⟨fun e he=>?_,fun e f he hf hef=>?_,by rw [upd_ne _ _ hz.1.symm]; exact h.zr.1,fun i=>by rw [upd_ne _ _ (hz.2 i).symm]; exact h.zr.2 i⟩
  · by_cases e1 : e=c
    · subst e1; rw [upd_same]; exact h1
    · rw [upd_ne _ _ e1]
      by_cases e2 : e=d
      · subst e2; exact h2
      · rw [h3 e e1 e2 he]; exact hg.at (h.get e he) (h.ne he hd e2)
  · by_cases e1 : e=c
    · by_cases f1 : f=c
      · rw [e1,f1]
      · rw [e1,upd_same,upd_ne _ _ f1] at hef
        have:=h.lt hf
        omega
    · by_cases f1 : f=c
      · rw [f1,upd_same,upd_ne _ _ e1] at hef
        have:=h.lt he
        omega
      · rw [upd_ne _ _ e1,upd_ne _ _ f1] at hef; exact h.inj e f he hf hef
def ftp (p : Pl) (ad : Ad) : Nat→Prop:=fun i=>∃ c,usd p c=true∧(ad c).1=i
def Tr (p : Pl) (H : List Blk) (ad : Ad) (H' : List Blk) (ad' : Ad) : Prop:=Gr (ftp p ad) H H'∧(∀ i,ftp p ad' i→H.length≤i∨ftp p ad i)∧ad' .root=ad .root
theorem Tr.refl {p : Pl} (H : List Blk) (ad : Ad) : Tr p H ad H ad:=⟨Gr.refl H,fun i h=>.inr h,rfl⟩
theorem Tr.trans {p : Pl} {H H1 H2 : List Blk} {ad ad1 ad2 : Ad} (h : Tr p H ad H1 ad1) (k : Tr p H1 ad1 H2 ad2) : Tr p H ad H2 ad2 :=
  ⟨h.1.trans k.1 fun i hi hf=>(h.2.1 i hf).resolve_left (by omega),fun i hi=>by
    rcases k.2.1 i hi with h1 | h1
    · exact .inl (Nat.le_trans h.1.1 h1)
    · exact h.2.1 i h1,k.2.2.trans h.2.2⟩
theorem Tr.gr {p : Pl} {H H' : List Blk} {ad : Ad} (h : Gr nof H H') : Tr p H ad H' ad:=⟨h.mono fun _ _ hf=>hf.elim,fun i hi=>.inr hi,rfl⟩
theorem Tr.one {p : Pl} {H H' : List Blk} {ad : Ad} {c : Pc} (hc : usd p c=true) (h : Gr (one (ad c).1) H H') : Tr p H ad H' ad:=⟨h.mono fun i _ hf=>⟨c,hc,hf.symm⟩,fun i hi=>.inr hi,rfl⟩
theorem Tr.anew {p : Pl} {H H' : List Blk} {ad : Ad} {c d : Pc} {a : Nat×Nat} (hd : usd p d=true) (h : Gr (Go.Proofs.Ytcppaddgclkekaa.one (ad d).1) H H') (ha : H.length≤a.1) (hr : c≠.root) : Tr p H ad H' (upd ad c a) :=
  ⟨h.mono fun i _ hf=>⟨d,hd,hf.symm⟩,fun i ⟨e,he,hi⟩=>by
    by_cases e1 : e=c
    · subst e1; rw [upd_same] at hi; exact .inl (by omega)
    · rw [upd_ne _ _ e1] at hi; exact .inr ⟨e,he,hi⟩,upd_ne _ _ (Ne.symm hr)⟩
theorem befC_len (p : Pl) (ad : Ad) : (befC p ad).length=p.ms.length:=by simp [befC]
theorem befC_nth (p : Pl) (ad : Ad) (m : Nat) (h : m < p.ms.length) : nthA (befC p ad) m=some (slA (ad (.bm m)) p.mt):=by rw [nthA_get]; simp [befC,h]
theorem befC_spl (p : Pl) (ad : Ad) (m : Nat) (a : Nat×Nat) (h : m < p.ms.length) : splA (befC p ad) m [slA a p.mt]=befC p (upd ad (.bm m) a):=by
  rw [spl_one (by rw [befC_len]; exact h)]
  apply List.ext_getElem?
  intro i
  rw [List.getElem?_set,befC_len]
  unfold befC
  by_cases h1 : m=i
  · subst h1; rw [if_pos rfl,if_pos h]; simp [h,upd]
  · rw [if_neg h1]
    simp only [List.getElem?_map]
    by_cases hi : i < p.ms.length
    · simp [hi,upd,Ne.symm h1]
    · simp [Nat.not_lt.1 hi]
theorem cvC_len (p : Pl) (ad : Ad) (i : Nat) : (cvC p ad i).length=2:=rfl
theorem flat2_len {α : Type} (f : Nat→List α) (hf : ∀ i,(f i).length=2) (n : Nat) : ((List.range n).flatMap f).length=n*2:=by
  induction n with
  | zero=>rfl
  | succ n ih=>rw [List.range_succ,List.flatMap_append,List.length_append,ih]; simp [hf]; omega
theorem flat2_get {α : Type} (f : Nat→List α) (hf : ∀ i,(f i).length=2) (n i j : Nat) (hi : i < n) (hj : j < 2) : ((List.range n).flatMap f)[i*2+j]?=(f i)[j]?:=by
  induction n with
  | zero=>omega
  | succ n ih =>
    rw [List.range_succ,List.flatMap_append]
    have hl:=flat2_len f hf n
    by_cases h : i < n
    · rw [List.getElem?_append_left (by omega),ih h]
    · have hin : i=n:=by omega
      subst hin
      rw [List.getElem?_append_right (by omega),hl,show i*2+j - i*2=j by omega]; simp
theorem belsC_len (p : Pl) (ad : Ad) : (belsC p ad).length=p.bs.length*2:=flat2_len _ (cvC_len p ad) _
theorem belsC_nth0 (p : Pl) (ad : Ad) (i : Nat) (h : i < p.bs.length) : nthA (belsC p ad) (i*2)=some (slA (ad (.fi i)) p.mt):=by
  rw [nthA_get]; exact flat2_get _ (cvC_len p ad) _ i 0 h (by omega)
theorem belsC_nth1 (p : Pl) (ad : Ad) (i : Nat) (h : i < p.bs.length) : nthA (belsC p ad) (i*2+1)=some (if 0 < p.rl i then .lp (ad (.re i)).1 (ad (.re i)).2 0 else .v (.pointer none)):=by
  rw [nthA_get]; exact flat2_get _ (cvC_len p ad) _ i 1 h (by omega)
theorem belsC_spl (p : Pl) (ad : Ad) (i : Nat) (a : Nat×Nat) (h : i < p.bs.length) : splA (belsC p ad) (i*2) [slA a p.mt]=belsC p (upd ad (.fi i) a):=by
  rw [spl_one (by rw [belsC_len]; omega)]
  apply List.ext_getElem?
  intro x
  rw [List.getElem?_set,belsC_len]
  by_cases hx : x < p.bs.length*2
  · obtain ⟨y,j,hj,rfl⟩ : ∃ y j,j < 2∧x=y*2+j:=⟨x / 2,x % 2,by omega,by omega⟩
    have g1:=flat2_get _ (cvC_len p ad) p.bs.length y j (by omega) hj
    have g2:=flat2_get _ (cvC_len p (upd ad (.fi i) a)) p.bs.length y j (by omega) hj
    unfold belsC
    rw [g2]
    by_cases e : i*2=y*2+j
    · have hy : y=i:=by omega
      have hj0 : j=0:=by omega
      subst hy; subst hj0
      rw [if_pos e,if_pos (by omega)]; simp [cvC,upd]
    · rw [if_neg e,g1]
      by_cases hy : y=i
      · subst hy
        have hj1 : j=1:=by omega
        subst hj1; simp [cvC,upd]
      · have : (Pc.fi y : Pc)≠.fi i:=by simpa using hy
        simp [cvC,upd,hy]
  · rw [if_neg (by omega),List.getElem?_eq_none (by rw [belsC_len]; omega),List.getElem?_eq_none (by rw [belsC_len]; omega)]
theorem PM.rt {H : List Blk} {p : Pl} {ad : Ad} {s : Sy} (h : PM H p ad s) : blkAt H (ad .root).1 0=some (rootC p ad):=by have:=h.get .root rfl; rw [h.zr.1] at this; exact this
structure SyOk (p : Pl) (s : Sy) : Prop where
  bef : ∀ m,m < p.ms.length→MixOk p.mt (s.bef m)
  fst : ∀ i,i < p.bs.length→MixOk p.mt (s.fst i)
  rng : ∀ i,i < p.bs.length→∀ q,q < p.rl i→MixOk p.mt (s.rng i q)
  pos : ∀ i,i < p.bs.length→0 < p.rl i→s.pos i < p.rl i
  hal : s.hal.length=p.ms.length
  fed : MixOk p.mt s.fed
theorem POk.mt1 {p : Pl} (h : POk p) : 1≤p.mt∧p.mt≤16∧p.mat=p.mt:=by
  have:=h.m1
  have:=h.m2
  unfold Pl.mt; omega
theorem POk.rl {p : Pl} (h : POk p) {i : Nat} (hi : i < p.bs.length) : p.rl i≤15:=by
  have:=h.bt _ (mem_get b0 hi)
  unfold Pl.rl; omega
theorem bin_pm {H : List Blk} {p : Pl} {ad : Ad} {s : Sy} (ok : POk p) (h : PM H p ad s) (m : Int) (h0 : 0≤m) (h1 : m < p.ms.length) : VR P false n_plant_state_bin [.lp (ad .root).1 0 0,.v (.int .i64 m)] H (fun r H'=>r=.v (.bool (decide (binN p m.toNat)))∧H'=H):=by
  refine vr_plant_state_bin (by simp) (.inl rfl) fun _ _=>?_
  have hr:=h.rt
  unfold rootC slA at hr
  unfold binN
  simp (disch:=((try simp only [lZ]); omega)) only [aZ,aM,s_plant_state_bin,v_plant_state_bin,hr]
  refine (machineOuts_vr (w:=true) (p.ms.getD m.toNat [])).same (by unfold mcA mcC; simp (disch:=first | omega | simp (disch:=omega) only [aG,aM]) only [fZ,aM]) rfl (aret_of ?_)
  simp (disch:=((try simp only [lZ]); omega)) only [aZ,aM,r_plant_state_bin]
  exact post2 (R:=fun r H'=>_) ⟨by first | rfl | (simp; rfl),rfl⟩
def fndE (p : Pl) (m : Int) : Int:=if m < 0∨(p.ms.length : Int)≤m then 7 else if ¬ binN p m.toNat then 21 else 0
theorem find_pm {H : List Blk} {p : Pl} {ad : Ad} {s : Sy} (ok : POk p) (h : PM H p ad s) (m : Int) : VR P false n_plant_Plant_find [.lp (ad .root).1 0 0,.v (.int .i64 m)] H (fun r H'=>r=.v (.int .i64 (fndE p m))∧H'=H):=by
  refine vr_plant_Plant_find (by simp) (.inl rfl) fun _ _=>?_
  have hr:=h.rt
  unfold rootC slA at hr
  unfold fndE
  by_cases h1 : m < 0∨(p.ms.length : Int)≤m
  · rw [if_pos h1]
    have h1' : m < 0∨m≥p.ms.length:=h1
    simp (disch:=((try simp only [lZ]); omega)) only [aZ,aM,s_plant_Plant_find,v_plant_Plant_find,hr,decide_eq_true h1,r_plant_Plant_find]
    exact post2 (R:=fun r H'=>_) ⟨rfl,rfl⟩
  · rw [if_neg h1]
    simp (disch:=((try simp only [lZ]); omega)) only [aZ,aM,s_plant_Plant_find,v_plant_Plant_find,hr,decide_eq_false h1]
    refine (bin_pm ok h m (by omega) (by omega)).mono ?_
    rintro r H' ⟨rfl,hH⟩
    rw [hH]
    refine aret_of ?_
    by_cases h2 : binN p m.toNat
    · rw [if_neg (by simpa using h2),decide_eq_true h2]
      simp (disch:=((try simp only [lZ]); omega)) only [aZ,aM,r_plant_Plant_find]
      exact post2 (R:=fun r H'=>_) ⟨rfl,rfl⟩
    · rw [if_pos h2,decide_eq_false h2]
      simp (disch:=((try simp only [lZ]); omega)) only [aZ,aM,r_plant_Plant_find]
      exact post2 (R:=fun r H'=>_) ⟨rfl,rfl⟩
theorem bin_err {H : List Blk} {p : Pl} {ad : Ad} {s : Sy} (ok : POk p) (h : PM H p ad s) (m : Int) (he : fndE p m≠0) : VR P false n_plant_Plant_Bin [.lp (ad .root).1 0 0,.v (.int .i64 m)] H (fun r H'=>r=.tup [nilS,.v (.int .i64 (fndE p m))]∧H'=H):=by
  refine vr_plant_Plant_Bin (by simp) (.inl rfl) fun _ _=>?_
  have hv:=find_pm ok h m
  generalize fndE p m=e at *
  simp (disch:=((try simp only [lZ]); omega)) only [aZ,aM,s_plant_Plant_Bin,v_plant_Plant_Bin]
  refine hv.mono ?_
  rintro r H' ⟨rfl,hH⟩
  rw [hH]
  refine aret_of ?_
  simp (disch:=((try simp only [lZ]); omega)) only [aZ,aM,decide_eq_true he,r_plant_Plant_Bin]
  exact post2 (R:=fun r H'=>_) ⟨rfl,rfl⟩
theorem bin_ok {H : List Blk} {p : Pl} {ad : Ad} {s : Sy} (ok : POk p) (h : PM H p ad s) (hs : SyOk p s) (m : Int) (he : fndE p m=0) : VR P false n_plant_Plant_Bin [.lp (ad .root).1 0 0,.v (.int .i64 m)] H (fun r H'=>r=.tup [.sl H.length 1 1 0 p.mt,.v (.int .i64 0)]∧H'=H++[⟨1,ints (s.bef m.toNat)⟩]):=by
  refine vr_plant_Plant_Bin (by simp) (.inl rfl) fun _ _=>?_
  have hv:=find_pm ok h m
  rw [he] at hv
  have hm : 0≤m∧m < p.ms.length:=by unfold fndE at he; split at he<;>omega
  have hr:=h.rt
  unfold rootC slA at hr
  obtain ⟨m1,m2,m3⟩:=ok.mt1
  have hb:=h.get .bef rfl
  have hn:=befC_nth p ad m.toNat (by omega)
  unfold slA at hn
  have hf:=h.get (.bm m.toNat) (by simp [usd]; omega)
  have hl:=(hs.bef m.toNat (by omega)).1
  have bl:=befC_len p ad
  simp only [ctn] at hb hf
  simp (disch:=((try simp only [lZ]); omega)) only [aZ,aM,s_plant_Plant_Bin,v_plant_Plant_Bin]
  refine hv.mono ?_
  rintro r H' ⟨rfl,hH⟩
  rw [hH]
  refine aret_of ?_
  simp (disch:=((try simp only [lZ]); omega)) only [aZ,aM,hr,hb,hn,bl]
  rw [← hl]
  refine (clone_sl (by omega) (by omega) hf).mono ?_
  rintro r H' ⟨rfl,hH⟩
  rw [hH]
  refine aret_of ?_
  simp (disch:=((try simp only [lZ]); omega)) only [aZ,aM,r_plant_Plant_Bin]
  exact post2 (R:=fun r H'=>_) ⟨rfl,rfl⟩
def Pl.nxt (p : Pl) (s : Sy) (i : Nat) : Nat:=(s.pos i+p.rl i - 1) % p.rl i
def outM (p : Pl) (s : Sy) (i : Nat) : List Int:=if 0 < p.rl i then s.rng i (p.nxt s i) else s.fst i
def updF {α : Type} (f : Nat→α) (i : Nat) (x : α) : Nat→α:=fun j=>if j=i then x else f j
theorem updF_same {α : Type} (f : Nat→α) (i : Nat) (x : α) : updF f i x i=x:=by simp [updF]
theorem updF_ne {α : Type} (f : Nat→α) {i j : Nat} (x : α) (h : j≠i) : updF f i x j=f j:=by simp [updF,h]
def empS (p : Pl) (s : Sy) (i : Nat) : Sy:={s with fst:=updF s.fst i (zeros p.mt)}
def rolS (p : Pl) (s : Sy) (i : Nat) (x : List Int) : Sy:={s with pos:=updF s.pos i (p.nxt s i),rng:=updF s.rng i (updF (s.rng i) (p.nxt s i) x)}
def movS (p : Pl) (s : Sy) (i : Nat) : Sy:=if 0 < p.rl i then rolS p (empS p s i) i (s.fst i) else empS p s i
theorem PM.emp {H : List Blk} {p : Pl} {ad : Ad} {s : Sy} (h : PM H p ad s) {i : Nat} (hi : i < p.bs.length) :
    PM ((H++[(⟨0,ints (zeros p.mt)⟩ : Blk)]).set (ad .bel).1 ⟨(ad .bel).2,belsC p (upd ad (.fi i) (H.length,0))⟩) p (upd ad (.fi i) (H.length,0)) (empS p s i) ∧
    Tr p H ad ((H++[(⟨0,ints (zeros p.mt)⟩ : Blk)]).set (ad .bel).1 ⟨(ad .bel).2,belsC p (upd ad (.fi i) (H.length,0))⟩) (upd ad (.fi i) (H.length,0)):=by
  have hb : (ad .bel).1 < H.length:=h.lt (c:=.bel) rfl
  have hg : Gr (one (ad .bel).1) H ((H++[(⟨0,ints (zeros p.mt)⟩ : Blk)]).set (ad .bel).1 ⟨(ad .bel).2,belsC p (upd ad (.fi i) (H.length,0))⟩) :=
    (Gr.app (F:=one (ad .bel).1) H _).trans (Gr.set (F:=one (ad .bel).1) _ _ _ rfl) fun i _ hf=>hf
  refine ⟨h.anew (.fi i) .bel (H.length,0) (by simpa [usd] using hi) rfl (by simp) ⟨by simp,by simp⟩ hg (Nat.le_refl _) ?_ ?_ ?_,Tr.anew rfl hg (Nat.le_refl _) (by simp)⟩
  · rw [blkAt_set_ne _ _ _ _ _ (by simp; omega),blkAt_new0]
    simp [ctn,empS,updF_same,blkAt]
  · rw [blkAt_set_same _ _ _ _ (by simp; omega)]; rfl
  · intro e h1 h2 he
    cases e with
    | fi j =>
      have : j≠i:=fun hc=>h1 (by rw [hc])
      simp [ctn,empS,updF_ne _ _ this]
    | bel=>exact absurd rfl h2
    | root=>simp [ctn,rootC,upd]
    | bef=>simp [ctn,befC,upd]
    | re j=>simp [ctn,upd,empS]
    | _=>rfl
theorem PM.rol {H : List Blk} {p : Pl} {ad : Ad} {s : Sy} (h : PM H p ad s) {i : Nat} (hi : i < p.bs.length) (hr : 0 < p.rl i) (x : List Int) (H' : List Blk)
    (hH' : H'=(H++[(⟨1,ints x⟩ : Blk)]).set (ad (.re i)).1 ⟨0,belC (p.rl i) p.mt (p.nxt s i) (updA (fun q=>ad (.ri i q)) (p.nxt s i) (H.length,1))⟩) :
    PM H' p (upd ad (.ri i (p.nxt s i)) (H.length,1)) (rolS p s i x)∧Tr p H ad H' (upd ad (.ri i (p.nxt s i)) (H.length,1))∧Gr (one (ad (.re i)).1) H H':=by
  subst hH'
  have hu : usd p (.re i)=true:=by simp [usd,hi,hr]
  have hb : (ad (.re i)).1 < H.length:=h.lt hu
  have hq : p.nxt s i < p.rl i:=Nat.mod_lt _ hr
  have hz:=h.zr.2 i
  generalize hqq : p.nxt s i=q at *
  have hg : Gr (one (ad (.re i)).1) H ((H++[(⟨1,ints x⟩ : Blk)]).set (ad (.re i)).1 ⟨0,belC (p.rl i) p.mt q (updA (fun q=>ad (.ri i q)) q (H.length,1))⟩) :=
    (Gr.app (F:=one (ad (.re i)).1) H _).trans (Gr.set (F:=one (ad (.re i)).1) _ _ _ rfl) fun i _ hf=>hf
  refine ⟨h.anew (.ri i q) (.re i) (H.length,1) (by simp [usd,hi,hq]) hu (by simp) ⟨by simp,by simp⟩ hg (Nat.le_refl _) ?_ ?_ ?_,Tr.anew hu hg (Nat.le_refl _) (by simp),hg⟩
  · rw [blkAt_set_ne _ _ _ _ _ (by simp; omega),blkAt_new0]
    simp [ctn,rolS,hqq,updF_same,blkAt]
  · rw [hz,blkAt_set_same _ _ _ _ (by simp; omega)]
    simp only [ctn,rolS,hqq,updF_same]
    congr 2
    funext j
    unfold updA upd
    by_cases hj : j=q
    · simp [hj]
    · simp [hj]
  · intro e h1 h2 he
    cases e with
    | ri j r =>
      simp only [ctn,rolS,hqq]
      by_cases hj : j=i
      · subst hj
        have : r≠q:=fun hc=>h1 (by rw [hc])
        rw [updF_same,updF_ne _ _ this]
      · rw [updF_ne _ _ hj]
    | re j =>
      have : j≠i:=fun hc=>h2 (by rw [hc])
      simp [ctn,rolS,updF_ne _ _ this,upd,this]
    | root=>simp [ctn,rootC,upd]
    | bef=>simp [ctn,befC,upd]
    | bel =>
      simp only [ctn,belsC]
      congr 1<;>first | rfl | (funext j; first | rfl | simp [cvC,upd])
    | _=>rfl
theorem SyOk.out {p : Pl} {s : Sy} (hs : SyOk p s) {i : Nat} (hi : i < p.bs.length) : MixOk p.mt (outM p s i):=by
  unfold outM
  split
  · rename_i h; exact hs.rng i hi _ (Nat.mod_lt _ h)
  · exact hs.fst i hi
theorem zeros_ok (n : Nat) : MixOk n (zeros n):=⟨by simp [zeros],fun i=>by
  have : (zeros n).getD i 0=0:=by simp [zeros,List.getD_eq_getElem?_getD,List.getElem?_replicate]; split<;>rfl
  rw [this]; omega⟩
theorem SyOk.emp {p : Pl} {s : Sy} (hs : SyOk p s) (i : Nat) : SyOk p (empS p s i) :=
  ⟨hs.bef,fun j hj=>by
    simp only [empS,updF]; split
    · exact zeros_ok _
    · exact hs.fst j hj,hs.rng,hs.pos,hs.hal,hs.fed⟩
theorem SyOk.rol {p : Pl} {s : Sy} (hs : SyOk p s) {i : Nat} (hr : 0 < p.rl i) {x : List Int} (hx : MixOk p.mt x) : SyOk p (rolS p s i x) :=
  ⟨hs.bef,hs.fst,fun j hj q hq=>by
    by_cases h : j=i
    · subst h
      simp only [rolS,updF_same]
      by_cases h2 : q=p.nxt s j
      · rw [h2,updF_same]; exact hx
      · rw [updF_ne _ _ h2]; exact hs.rng j hj q hq
    · simp only [rolS,updF_ne _ _ h]; exact hs.rng j hj q hq,fun j hj h=>by
    simp only [rolS,updF]; split
    · rename_i h; subst h; exact Nat.mod_lt _ hr
    · exact hs.pos j hj h,hs.hal,hs.fed⟩
theorem SyOk.mov {p : Pl} {s : Sy} (hs : SyOk p s) {i : Nat} (hi : i < p.bs.length) : SyOk p (movS p s i):=by
  unfold movS
  split
  · rename_i h; exact (hs.emp i).rol h (hs.fst i hi)
  · exact hs.emp i
theorem mixok_E {mat : Nat} (h16 : mat≤16) {l : List Int} (h : MixOk mat l) : mixE l=0 :=
  mixE_ok.2 ⟨by rw [h.1]; exact h16,fun x hx=>by obtain ⟨k,hk,rfl⟩:=get_mem 0 hx; exact h.2 k⟩
theorem PM.old {H : List Blk} {p : Pl} {ad : Ad} {s : Sy} (h : PM H p ad s) {c : Pc} (hc : usd p c=true) {a : Nat×Nat} (ha : H.length≤a.1) : ¬ ftp p (upd ad c a) (ad c).1:=by
  rintro ⟨d,hd,he⟩
  by_cases hcd : d=c
  · subst hcd
    rw [upd_same] at he
    have:=h.lt hd
    omega
  · rw [upd_ne _ _ hcd] at he
    exact hcd (h.inj d c hd hc he)
theorem move_pm {H : List Blk} {p : Pl} {ad : Ad} {s : Sy} (ok : POk p) (h : PM H p ad s) (hs : SyOk p s) {i : Nat} (hi : i < p.bs.length) :
    VR P false n_plant_state_move [.lp (ad .root).1 0 0,.v (.int .i64 i)] H (fun r H'=>∃ (ad' : Ad) (o : Nat×Nat),r=.tup [slA o p.mt,.v (.int .i64 0)]∧PM H' p ad' (movS p s i)∧Tr p H ad H' ad'∧blkAt H' o.1 o.2=some (ints (outM p s i))∧¬ ftp p ad' o.1):=by
  refine vr_plant_state_move (by simp) (.inl rfl) fun _ _=>?_
  have hr:=h.rt
  unfold rootC slA at hr
  obtain ⟨m1,m2,m3⟩:=ok.mt1
  have hb:=h.get .bel rfl
  simp only [ctn] at hb
  have n0:=belsC_nth0 p ad i hi
  have n1:=belsC_nth1 p (upd ad (.fi i) (H.length,0)) i hi
  have bl:=belsC_len p ad
  have bl1:=belsC_len p (upd ad (.fi i) (H.length,0))
  have sp:=belsC_spl p ad i (H.length,0) hi
  unfold slA at n0 sp
  simp (disch:=((try simp only [lZ]); omega)) only [aZ,aM,s_plant_state_move,v_plant_state_move,hr,hb,n0,bl]
  rw [m3] at hr
  refine (empty_ps m2 hr).mono ?_
  rintro r H' ⟨rfl,hH⟩
  rw [hH]
  refine aret_of ?_
  obtain ⟨P1,T1⟩:=h.emp hi
  have ltr:=h.lt (c:=.root) rfl
  have ltb:=h.lt (c:=.bel) rfl
  have nrb:=h.ne (c:=.root) (d:=.bel) rfl rfl (by simp)
  have hf:=h.get (.fi i) (by simpa [usd] using hi)
  simp only [ctn] at hf
  have hold:=h.old (c:=.fi i) (a:=(H.length,0)) (by simpa [usd] using hi) (Nat.le_refl _)
  have hff:=T1.1
  have e1 : ∀ B : Blk,(H++[(⟨0,ints (zeros p.mt)⟩ : Blk)]).set (ad .bel).1 B=H.set (ad .bel).1 B++[⟨0,ints (zeros p.mt)⟩]:=fun B=>List.set_append_left _ _ ltb
  have hgr : Gr (one (ad .bel).1) H ((H++[(⟨0,ints (zeros p.mt)⟩ : Blk)]).set (ad .bel).1 ⟨(ad .bel).2,belsC p (upd ad (.fi i) (H.length,0))⟩) :=
    (Gr.app (F:=one (ad .bel).1) H _).trans (Gr.set (F:=one (ad .bel).1) _ _ _ rfl) fun i _ hf=>hf
  have hf1:=hgr.at hf (h.ne (c:=.fi i) (d:=.bel) (by simpa [usd] using hi) rfl (by simp))
  rw [e1] at P1 T1 hf1
  unfold movS outM
  by_cases hrl : 0 < p.rl i
  · rw [if_pos hrl,if_pos hrl]
    rw [if_pos hrl,P1.zr.2 i] at n1
    have hu : usd p (.re i)=true:=by simp [usd,hi,hrl]
    have hre:=P1.get (.re i) hu
    rw [P1.zr.2 i] at hre
    simp only [ctn] at hre
    simp (disch:=((try simp only [lZ]); omega)) only [aZ,aM,hr,hb,n0,n1,bl,bl1,sp]
    have h15:=ok.rl hi
    refine (bstep_vr hre (by omega) (by omega) (hs.pos i hi hrl) ⟨m1,m2⟩ hf1 (hs.fst i hi).1 (mixok_E m2 (hs.fst i hi))).mono ?_
    rintro r H' ⟨rfl,hH⟩
    obtain ⟨P2,T2,G2⟩:=P1.rol hi hrl (s.fst i) H' hH
    have hq : p.nxt (empS p s i) i < p.rl i:=Nat.mod_lt _ hrl
    have hur : usd p (.ri i (p.nxt (empS p s i) i))=true:=by simp [usd,hi,hq]
    have hout:=P1.get _ hur
    simp only [ctn] at hout
    have hold2:=P1.old hur (a:=((H.set (ad .bel).1 ⟨(ad .bel).2,belsC p (upd ad (.fi i) (H.length,0))⟩++[(⟨0,ints (zeros p.mt)⟩ : Blk)]).length,1)) (Nat.le_refl _)
    have hout2:=G2.at hout (P1.ne hur hu (by simp))
    clear hH
    refine aret_of ?_
    simp (disch:=((try simp only [lZ]); omega)) only [aZ,aM,r_plant_state_move]
    exact post2 (R:=fun r H'=>∃ (ad' : Ad) (o : Nat×Nat),r=.tup [slA o p.mt,.v (.int .i64 0)]∧PM H' p ad' (rolS p (empS p s i) i (s.fst i))∧Tr p H ad H' ad'∧blkAt H' o.1 o.2=some (ints (s.rng i (p.nxt s i)))∧¬ ftp p ad' o.1) ⟨_,_,rfl,P2,T1.trans T2,hout2,hold2⟩
  · rw [if_neg hrl,if_neg hrl]
    rw [if_neg hrl] at n1
    simp (disch:=((try simp only [lZ]); omega)) only [aZ,aM,hr,hb,n0,n1,bl,bl1,sp,r_plant_state_move]
    exact post2 (R:=fun r H'=>∃ (ad' : Ad) (o : Nat×Nat),r=.tup [slA o p.mt,.v (.int .i64 0)]∧PM H' p ad' (empS p s i)∧Tr p H ad H' ad'∧blkAt H' o.1 o.2=some (ints (s.fst i))∧¬ ftp p ad' o.1) ⟨_,ad (.fi i),rfl,P1,T1,hf1,hold⟩

theorem eq_of_get3 {α : Type} {a b : List α} (d : α) (hl : a.length=b.length) (h : ∀ i,i < a.length→a.getD i d=b.getD i d) : a=b:=by
  apply List.ext_getElem hl
  intro i h1 h2
  have:=h i h1
  simpa [List.getD_eq_getElem?_getD,h1,h2] using this
theorem same30_vr {w v : Bool} (a b : List Int) (ha : a.length < 1000000000) : VR P false n_ref30_Same [.fs w (ints a),.fs v (ints b)] [] (isR (.v (.bool (decide (a=b))))):=by
  refine vr_ref30_Same (by simp) (.inr rfl) fun _ _=>?_
  simp (disch:=((try simp only [lZ]); omega)) only [aZ,aM,s_ref30_Same,v_ref30_Same]
  refine ib_intro (fun h1=>?_) (fun h1=>?_)
  · simp (disch:=((try simp only [lZ]); omega)) only [aZ,aM,r_ref30_Same]
    exact post_v ⟨vfalse (fun h=>h1 (by rw [h])),rfl⟩
  have hl : a.length=b.length:=by omega
  simp (disch:=((try simp only [lZ]); omega)) only [aZ,aM]
  refine AWP.loopP g_ref30_Same_0 (fun k : Nat=>k≤a.length∧∀ i,i < k→a.getD i 0=b.getD i 0) (fun k=>[(2,.v (.bool false)),(3,.v (.int .i64 k))]) (fun _=>[]) (fun k=>a.length - k) 0 ⟨by omega,fun i hi=>by omega⟩ (by refine Cut.of' (0) ?_ (by omega) ?_ ?_<;>simp (disch:=first | omega | simp (disch:=omega) only [aG,aM]) only [fZ,aM]) ?_
  rintro k ⟨hk,hg⟩
  by_cases hlt : k < a.length
  · simp (disch:=((try simp only [lZ]); omega)) only [aZ,aM]
    refine ib_split (fun h3=>?_) (fun h3=>?_)
    · simp (disch:=((try simp only [lZ]); omega)) only [aZ,aM,r_ref30_Same]
      refine post_v ⟨vfalse (fun h=>?_),rfl⟩
      subst h; simp at h3
    · simp (disch:=((try simp only [lZ]); omega)) only [aZ,aM]
      refine ⟨k+1,⟨by omega,fun i hi=>?_⟩,by omega,(by refine Cut.of' (0) ?_ (by omega) ?_ ?_<;>simp (disch:=first | omega | simp (disch:=omega) only [aG,aM]) only [fZ,aM])⟩
      rcases Nat.lt_succ_iff_lt_or_eq.1 hi with h | rfl
      · exact hg i h
      · simpa using h3
  · simp (disch:=((try simp only [lZ]); omega)) only [aZ,aM,r_ref30_Same]
    exact post_v ⟨vtrue (eq_of_get3 0 hl (fun i hi=>hg i (by omega))),rfl⟩
theorem sameList_vr {w v w' v' : Bool} (a b : List (List Int)) (ha : a.length < 1000000000) (hs : ∀ r∈a,r.length < 1000000000) : VR P false n_ref30_SameList [.fs w (rows w' a),.fs v (rows v' b)] [] (isR (.v (.bool (decide (a=b))))):=by
  refine vr_ref30_SameList (by simp) (.inr rfl) fun _ _=>?_
  simp (disch:=((try simp only [lZ]); omega)) only [aZ,aM,s_ref30_SameList,v_ref30_SameList]
  refine ib_intro (fun h1=>?_) (fun h1=>?_)
  · simp (disch:=((try simp only [lZ]); omega)) only [aZ,aM,r_ref30_SameList]
    exact post_v ⟨vfalse (fun h=>h1 (by rw [h])),rfl⟩
  have hl : a.length=b.length:=by omega
  simp (disch:=((try simp only [lZ]); omega)) only [aZ,aM]
  refine AWP.loopP g_ref30_SameList_0 (fun k : Nat=>k≤a.length∧∀ i,i < k→a.getD i []=b.getD i []) (fun k=>[(2,.v (.bool false)),(3,.v (.int .i64 k))]) (fun _=>[]) (fun k=>a.length - k) 0 ⟨by omega,fun i hi=>by omega⟩ (by refine Cut.of' (0) ?_ (by omega) ?_ ?_<;>simp (disch:=first | omega | simp (disch:=omega) only [aG,aM]) only [fZ,aM]) ?_
  rintro k ⟨hk,hg⟩
  by_cases hlt : k < a.length
  · simp (disch:=((try simp only [lZ]); omega)) only [aZ,aM]
    refine (same30_vr (a.getD k []) (b.getD k []) (hs _ (by simp [List.getD_eq_getElem?_getD,hlt]))).same (by simp (disch:=first | omega | simp (disch:=omega) only [aG,aM]) only [fZ,aM]) rfl (aret_of ?_)
    simp (disch:=((try simp only [lZ]); omega)) only [aZ,aM]
    refine ib_intro (fun h3=>?_) (fun h3=>?_)
    · simp (disch:=((try simp only [lZ]); omega)) only [aZ,aM,r_ref30_SameList]
      exact post_v ⟨vfalse (fun h=>h3 (by rw [h])),rfl⟩
    · simp (disch:=((try simp only [lZ]); omega)) only [aZ,aM]
      refine ⟨k+1,⟨by omega,fun i hi=>?_⟩,by omega,(by refine Cut.of' (0) ?_ (by omega) ?_ ?_<;>simp (disch:=first | omega | simp (disch:=omega) only [aG,aM]) only [fZ,aM])⟩
      rcases Nat.lt_succ_iff_lt_or_eq.1 hi with h | rfl
      · exact hg i h
      · exact Classical.not_not.1 h3
  · simp (disch:=((try simp only [lZ]); omega)) only [aZ,aM,r_ref30_SameList]
    exact post_v ⟨vtrue (eq_of_get3 [] hl (fun i hi=>hg i (by omega))),rfl⟩
end Go.Proofs.Ytcppaddgclkekaa
namespace Go.Proofs.Ytcppaddgclkekaa
open Go Go.Lft
set_option linter.unusedSimpArgs false
set_option linter.unusedVariables false
def tyPlant : Ty:=(.st [(.int .i64),(.sl (.st [(.sl (.sl (.int .i64)))])),(.sl (.st [(.int .i64),(.int .i64),(.int .i64),(.int .i64)])),(.int .i64)])
theorem tyPlant_is : tyPlant.Is Try.prog 25:=by
  unfold tyPlant
  simp only [Ty.Is]
  refine ⟨_,Try.underlying25,by kernel_rfl,?_⟩
  simp only [Ty.IsL,Ty.Is]
  refine ⟨by first | rfl | trivial,by kernel_rfl,?_,?_⟩
  ·
    exact Try.underlying3
  refine ⟨by first | rfl | trivial,by kernel_rfl,?_,?_⟩
  ·
    refine ⟨44,Try.underlying22,by kernel_rfl,by decide,?_⟩
    refine ⟨_,Try.underlying44,by kernel_rfl,?_⟩
    simp only [Ty.IsL,Ty.Is]
    refine ⟨by first | rfl | trivial,by kernel_rfl,?_,?_⟩
    ·
      refine ⟨27,Try.underlying42,by kernel_rfl,by decide,?_⟩
      refine ⟨3,Try.underlying27,by kernel_rfl,by decide,?_⟩
      exact Try.underlying3
    trivial
  refine ⟨by first | rfl | trivial,by kernel_rfl,?_,?_⟩
  ·
    refine ⟨62,Try.underlying23,by kernel_rfl,by decide,?_⟩
    refine ⟨_,Try.underlying62,by kernel_rfl,?_⟩
    simp only [Ty.IsL,Ty.Is]
    refine ⟨by first | rfl | trivial,by kernel_rfl,?_,?_⟩
    ·
      exact Try.underlying3
    refine ⟨by first | rfl | trivial,by kernel_rfl,?_,?_⟩
    ·
      exact Try.underlying3
    refine ⟨by first | rfl | trivial,by kernel_rfl,?_,?_⟩
    ·
      exact Try.underlying3
    refine ⟨by first | rfl | trivial,by kernel_rfl,?_,?_⟩
    ·
      exact Try.underlying3
    trivial
  refine ⟨by first | rfl | trivial,by kernel_rfl,?_,?_⟩
  ·
    exact Try.underlying3
  trivial
def tyMix : Ty:=(.sl (.int .i64))
theorem tyMix_is : tyMix.Is Try.prog 29:=by
  unfold tyMix
  simp only [Ty.Is]
  refine ⟨3,Try.underlying29,by kernel_rfl,by decide,?_⟩
  exact Try.underlying3
theorem list_of {α : Type} {w : Bool} (t : Ty) (f : α→A) (Q : α→Prop) (h1 : ∀ ce,t.Sh w ce→∃ x,t.pk ce=f x∧Q x) : ∀ (L : List (List A)),(∀ ce∈L,t.Sh w ce)→∃ l : List α,L.map t.pk=l.map f∧L.length=l.length∧∀ x∈l,Q x
  | [],_=>⟨[],rfl,rfl,by simp⟩
  | ce :: L,h=>by
    obtain ⟨l,hl,hn,hq⟩:=list_of t f Q h1 L fun x hx=>h x (by simp [hx])
    obtain ⟨x,hx,hqx⟩:=h1 ce (h ce (by simp))
    exact ⟨x :: l,by rw [List.map_cons,hl,hx]; rfl,by simp [hn],fun y hy=>by
      rcases List.mem_cons.1 hy with rfl | hy
      · exact hqx
      · exact hq y hy⟩
theorem i64_of {w : Bool} {ce : List A} (h : (Ty.int .i64).Sh w ce) : ∃ n : Int,(Ty.int .i64).pk ce=.v (.int .i64 n)∧(Lit.int .i64 n).wf=true:=by
  simp only [Ty.Sh] at h
  obtain ⟨n,rfl,h⟩:=h; exact ⟨n,rfl,h⟩
theorem wf_i64 {n : Int} (h : (Lit.int .i64 n).wf=true) : -9223372036854775808≤n∧n≤9223372036854775807:=by
  simp only [Lit.wf,Bool.and_eq_true,decide_eq_true_eq] at h
  have h1 : IntKind.i64.max=9223372036854775807:=rfl
  have h2 : IntKind.i64.min=-9223372036854775808:=rfl
  omega
def fit (n : Int) : Prop:=-9223372036854775808≤n∧n≤9223372036854775807
theorem ints_of {w : Bool} {ce : List A} (h : (Ty.sl (.int .i64)).Sh w ce) : ∃ l : List Int,(Ty.sl (.int .i64)).pk ce=.fs w (ints l)∧l.length≤maxLen∧∀ x∈l,fit x:=by
  simp only [Ty.Sh] at h
  obtain ⟨L,rfl,hn,h⟩:=h
  obtain ⟨l,h1,h2,h3⟩:=list_of (w:=w) (.int .i64) (fun n=>A.v (.int .i64 n)) fit (fun ce hce=>by
    obtain ⟨n,e1,e2⟩:=i64_of hce; exact ⟨n,e1,wf_i64 e2⟩) L (fun ce hce=>by simp only [Ty.Sh]; exact h ce hce)
  exact ⟨l,by show A.fs w _=_; rw [h1]; rfl,by omega,h3⟩
theorem rows_of {w : Bool} {ce : List A} (h : (Ty.sl (.sl (.int .i64))).Sh w ce) : ∃ l : List (List Int),(Ty.sl (.sl (.int .i64))).pk ce=.fs w (rows w l)∧l.length≤maxLen∧∀ r∈l,r.length≤maxLen∧∀ x∈r,fit x:=by
  simp only [Ty.Sh] at h
  obtain ⟨L,rfl,hn,h⟩:=h
  obtain ⟨l,h1,h2,h3⟩:=list_of (w:=w) (.sl (.int .i64)) (fun r=>A.fs w (ints r)) (fun r=>r.length≤maxLen∧∀ x∈r,fit x) (fun ce hce=>ints_of hce) L (fun ce hce=>by simp only [Ty.Sh]; exact h ce hce)
  exact ⟨l,by show A.fs w _=_; rw [h1]; rfl,by omega,h3⟩
theorem mc_of {w : Bool} {ce : List A} (h : (Ty.st [.sl (.sl (.int .i64))]).Sh w ce) : ∃ m : Mc,(Ty.st [.sl (.sl (.int .i64))]).pk ce=mcA w m∧m.length≤maxLen∧∀ r∈m,r.length≤maxLen∧∀ x∈r,fit x:=by
  simp only [Ty.Sh,Ty.ShL] at h
  obtain ⟨a,b,rfl,h,rfl⟩:=h
  obtain ⟨m,h1,h2,h3⟩:=rows_of (w:=w) (ce:=a) (by simp only [Ty.Sh]; exact h)
  obtain ⟨L,rfl,_⟩:=h
  exact ⟨m,by rw [show (Ty.sl (.sl (.int .i64))).pk [A.fs w (L.map (Ty.sl (.int .i64)).pk)]=.fs w (L.map (Ty.sl (.int .i64)).pk) from rfl] at h1; show A.agg _=_; rw [List.append_nil,h1]; rfl,h2,h3⟩
theorem bt_of {w : Bool} {ce : List A} (h : (Ty.st [.int .i64,.int .i64,.int .i64,.int .i64]).Sh w ce) : ∃ b : Bt,(Ty.st [.int .i64,.int .i64,.int .i64,.int .i64]).pk ce=btA b∧True:=by
  simp only [Ty.Sh,Ty.ShL] at h
  obtain ⟨_,_,rfl,⟨x,rfl,_⟩,_,_,rfl,⟨y,rfl,_⟩,_,_,rfl,⟨z,rfl,_⟩,_,_,rfl,⟨u,rfl,_⟩,rfl⟩:=h
  exact ⟨⟨x,y,z,u⟩,rfl,trivial⟩
theorem mix_of {cl : List A} (h : tyMix.Sh true cl) : ∃ l,tyMix.pk cl=.fs true (ints l)∧l.length≤maxLen∧∀ x∈l,fit x:=ints_of (w:=true) h
theorem plant_of {cl : List A} (h : tyPlant.Sh true cl) : ∃ p,tyPlant.pk cl=plA true true p:=by
  unfold tyPlant at h ⊢
  simp only [Ty.Sh,Ty.ShL] at h
  obtain ⟨_,_,rfl,⟨x,rfl,_⟩,_,_,rfl,⟨L,rfl,_,hL⟩,_,_,rfl,⟨M,rfl,_,hM⟩,_,_,rfl,⟨y,rfl,_⟩,rfl⟩:=h
  obtain ⟨ms,h1,_⟩:=list_of (w:=true) (.st [.sl (.sl (.int .i64))]) (mcA true) (fun _=>True) (fun ce hce=>by
    obtain ⟨m,e,_⟩:=mc_of hce; exact ⟨m,e,trivial⟩) L (fun ce hce=>by simp only [Ty.Sh,Ty.ShL]; exact hL ce hce)
  obtain ⟨bs,h2,_⟩:=list_of (w:=true) (.st [.int .i64,.int .i64,.int .i64,.int .i64]) btA (fun _=>True) (fun ce hce=>bt_of hce) M (fun ce hce=>by simp only [Ty.Sh,Ty.ShL]; exact hM ce hce)
  exact ⟨⟨x,ms,bs,y⟩,by rw [h1,h2]; rfl⟩
end Go.Proofs.Ytcppaddgclkekaa
namespace Go.Proofs.Ytcppaddgclkekaa
open Go Go.Lft
set_option linter.unusedSimpArgs false
set_option linter.unusedVariables false
attribute [local congr] ob_congr bw_congr ib_congr ck_congr iwA_congr itA_congr aw_congr awp_congr sqA_congr bkA_congr vr_congr gd_congr

end Go.Proofs.Ytcppaddgclkekaa
namespace Go.Proofs.Ytcppaddgclkekaa
open Go Go.Lft
set_option linter.unusedSimpArgs false
set_option linter.unusedVariables false
structure DvR (t : Int) (r : List Int) (f : Nat) (D : List Int) : Prop where
  len : D.length=r.length
  sum : D.sum=t
  nn : ∀ i,i < r.length→0≤D.getD i 0
  zero : ∀ i,i < r.length→r.getD i 0=0→D.getD i 0=0
  first : 0 < t→1≤D.getD f 0
  near : ∀ i,i < r.length→let most:=if 1000≤t*r.getD f 0 then 1000 else 2000; -most < D.getD i 0*1000 - t*r.getD i 0∧D.getD i 0*1000 - t*r.getD i 0 < most
  thou : t % 1000=0→∀ i,i < r.length→D.getD i 0=t / 1000*r.getD i 0
theorem divR_ok {t : Int} {r p : List Int} {f : Nat} (ht : 0≤t) (hr : ∀ i,i < r.length→0≤r.getD i 0∧r.getD i 0≤1000) (hs : r.sum=1000) (hne : r≠[]) (hf : f < r.length) (hf0 : 0 < r.getD f 0) (h : SpR t r p) : DvR t r f (divR p f t):=by
  have hl:=h.len
  have htwo:=h.two
  rw [hs] at htwo
  have hn : ∀ i,i < r.length→0≤t*r.getD i 0:=fun i hi=>Int.mul_nonneg ht (hr i hi).1
  have hp0 : ∀ i,i < r.length→0≤p.getD i 0:=fun i hi=>by
    have:=hn i hi
    rcases htwo i hi with h1 | ⟨h1,_⟩<;>omega
  have hz : ∀ i,i < r.length→r.getD i 0=0→p.getD i 0=0:=fun i hi h0=>by
    rcases htwo i hi with h1 | ⟨h1,h2⟩
    · rw [h1,h0]; simp
    · rw [h0] at h2; simp at h2
  have hnear : ∀ i,i < r.length→-1000 < p.getD i 0*1000 - t*r.getD i 0∧p.getD i 0*1000 - t*r.getD i 0 < 1000:=fun i hi=>by
    rcases htwo i hi with h1 | ⟨h1,h2⟩<;>omega
  by_cases hc : t=0∨0 < p.getD f 0
  · have hd : divR p f t=p:=by unfold divR; rw [if_pos hc]
    rw [hd]
    refine ⟨hl,h.sum,hp0,hz,fun h0=>by omega,fun i hi=>?_,fun hm i hi=>?_⟩
    · have:=hnear i hi
      simp only
      split<;>omega
    · have e : t * r.getD i 0 = 1000 * (t / 1000 * r.getD i 0) := by
        rw [← Int.mul_assoc]; congr 1; omega
      rcases htwo i hi with h1 | ⟨h1,h2⟩
      · rw [h1,e]; omega
      · rw [e] at h2; omega
  · have ht1 : 0 < t:=by omega
    have hpf : p.getD f 0=0:=by have:=hp0 f hf; omega
    have hb:=parts_pos h ht1 hne
    have hbl : bestI p < p.length:=bestN_lt p p.length (by rw [hl]; omega)
    have hbf : bestI p≠f:=by intro hh; rw [hh] at hb; omega
    have hd : divR p f t=(p.set (bestI p) (p.getD (bestI p) 0 - 1)).set f 1:=by unfold divR; rw [if_neg hc]
    have hg : ∀ i,i < r.length→(divR p f t).getD i 0=if i=f then 1 else if i=bestI p then p.getD (bestI p) 0 - 1 else p.getD i 0:=fun i hi=>by
      rw [hd,getD_seti,getD_seti]
      by_cases h1 : i=f
      · rw [if_pos h1,if_pos ⟨h1.symm,by simp only [List.length_set]; omega⟩]
      · rw [if_neg h1,if_neg (fun h=>h1 h.1.symm)]
        by_cases h2 : i=bestI p
        · rw [if_pos h2,if_pos ⟨h2.symm,by omega⟩]
        · rw [if_neg h2,if_neg (fun h=>h2 h.1.symm)]
    have hq : t*r.getD f 0 < 1000:=by
      have:=hn f hf
      rcases htwo f hf with h1 | ⟨h1,_⟩<;>omega
    have hbz : r.getD (bestI p) 0≠0:=fun h0=>by have:=hz (bestI p) (by omega) h0; omega
    refine ⟨by rw [divR_len,hl],?_,fun i hi=>?_,fun i hi h0=>?_,fun _=>?_,fun i hi=>?_,fun hm i hi=>?_⟩
    · rw [hd,sum_seti _ _ _ (by simp only [List.length_set]; omega),sum_seti _ _ _ hbl,getD_seti,if_neg (fun h=>hbf h.1),hpf,h.sum]; omega
    · rw [hg i hi]
      have:=hp0 i hi
      split
      · omega
      · split<;>omega
    · rw [hg i hi]
      have:=hz i hi h0
      split
      · rename_i h1; subst h1; omega
      · split
        · rename_i h1; subst h1; exact (hbz h0).elim
        · exact this
    · rw [hg f hf,if_pos rfl]; omega
    · have h1:=hnear i hi
      have h2:=hn i hi
      simp only
      rw [if_neg (by omega),hg i hi]
      split
      · rename_i h3; subst h3; omega
      · split
        · rename_i h3; subst h3; omega
        · omega
    · exfalso
      have : 1000≤t:=by omega
      have : 1000*1≤t*r.getD f 0:=Int.mul_le_mul this (by omega) (by omega) (by omega)
      omega
theorem divM_ok {m : Mc} {mat : Int} (h : MOk m mat) (ho : outsN m≠0) {k : Nat} (hk : k < m.length) {t : Int} (ht : 0≤t∧t≤1073741824) : DvR t (m.getD k []) (mainN m k).toNat (divM m k t):=by
  obtain ⟨h1,h2,h3,h4,h5⟩:=row_split h ho hk ht
  have hlen:=h.len
  obtain ⟨g1,g2,g3⟩:=mainN_ok h ho (k:=k) (by omega) (by omega)
  have ok:=splitE_ok h1
  rw [Int.toNat_natCast] at g3
  exact divR_ok ht.1 h5 h2 ok.sp.ne (by omega) g3 (partsR_ok ok.sp)
theorem divM_le {m : Mc} {mat : Int} (h : MOk m mat) (ho : outsN m≠0) {k : Nat} (hk : k < m.length) {t : Int} (ht : 0≤t∧t≤1073741824) : ∀ i,i < outsN m→0≤(divM m k t).getD i 0∧(divM m k t).getD i 0≤t:=fun i hi=>by
  have d:=divM_ok h ho hk ht
  have hl:=(row_split h ho hk ht).2.2.1
  have h0:=d.nn i (by omega)
  refine ⟨h0,?_⟩
  have:=sum_le_p ((List.replicate (divM m k t).length 0).set i ((divM m k t).getD i 0)) (divM m k t) (by simp) fun l hl2=>by
    simp only [List.length_set,List.length_replicate] at hl2
    rw [getD_seti]
    split
    · rename_i hc; rw [hc.1]; exact Int.le_refl _
    · have:=d.nn l (by rw [← d.len]; exact hl2)
      simpa [List.getD_eq_getElem?_getD,hl2] using this
  have z1 : (List.replicate (divM m k t).length (0 : Int)).sum=0:=by simp
  have z2 : (List.replicate (divM m k t).length (0 : Int)).getD i 0=0:=by
    rw [List.getD_eq_getElem?_getD,List.getElem?_replicate]; split<;>rfl
  rw [sum_seti _ _ _ (by simp only [List.length_replicate]; rw [d.len]; omega),d.sum,z1,z2] at this
  omega
end Go.Proofs.Ytcppaddgclkekaa
namespace Go.Proofs.Ytcppaddgclkekaa
open Go Go.Lft
set_option linter.unusedSimpArgs false
set_option linter.unusedVariables false
attribute [local congr] ob_congr bw_congr ib_congr ck_congr iwA_congr itA_congr aw_congr awp_congr sqA_congr bkA_congr vr_congr gd_congr
theorem msE_zero {m : Mc} {xs : List Int} (h : msE m xs=0) : MOk m xs.length∧outsN m≠0∧∀ i,i < xs.length→0≤xs.getD i 0∧xs.getD i 0≤1073741824:=by
  unfold msE at h
  split at h
  · contradiction
  rename_i h1
  split at h
  · cases h
  rename_i h2
  split at h
  · cases h
  rename_i h3
  exact ⟨mcheck_ok (Classical.not_not.1 h1),h3,fun i hi=>badE_zero (firstE_all (Classical.not_not.1 h2) _ (mem_getD hi))⟩
theorem msM_at (m : Mc) (xs : List Int) {o i : Nat} (ho : o < outsN m) (hi : i < xs.length) : ((msM m xs).getD o []).getD i 0=(divM m i (xs.getD i 0)).getD o 0:=by
  unfold msM
  rw [mtx_get _ _ _ _ ho,mtx_row _ _ _ hi]
theorem msM_rl (m : Mc) (xs : List Int) {o : Nat} (ho : o < outsN m) : ((msM m xs).getD o []).length=xs.length:=by
  unfold msM
  rw [mtx_get _ _ _ _ ho,mtx_rl]
theorem splitA_ok {m : Mc} {xs : List Int} (h : msE m xs=0) : splitA m xs=.tup [.fs true (rows true (msM m xs)),.v (.int .i64 0)]:=by unfold splitA; rw [if_neg (by omega),h]
def FirstI (r : List Int) (j : Nat) (s : Int) : Prop:=(s=-1∧∀ i,j≤i→i < r.length→¬ 0 < r.getD i 0)∨(∃ f : Nat,s=f∧j≤f∧f < r.length∧0 < r.getD f 0∧∀ i,j≤i→i < f→¬ 0 < r.getD i 0)
theorem FirstI.hit {r : List Int} {j : Nat} {s : Int} (hj : j < r.length) (h : 0 < r.getD j 0) : FirstI r j j:=.inr ⟨j,rfl,Nat.le_refl _,hj,h,by omega⟩
theorem FirstI.done {r : List Int} {s : Int} (h : FirstI r 0 s) : s=idxE (fun r : Int=>0 < r) r:=by
  rcases h with ⟨h1,h2⟩ | ⟨f,h1,h2,h3,h4,h5⟩
  · rw [h1]
    have h3:=idxE_ge (fun r : Int=>0 < r) r
    apply Classical.byContradiction; intro hc
    have h4:=idxE_at (p:=fun r : Int=>0 < r) (l:=r) 0 (by omega)
    exact h2 _ (by omega) (by omega) h4
  · rw [h1]
    exact (idxE_hit (p:=fun r : Int=>0 < r) 0 h3 (fun i hi=>h5 i (by omega) hi) h4).symm
theorem has_vr {w v : Bool} (p : Pl) (m : Int) : VR P false n_layout_has [plA w v p,.v (.int .i64 m)] [] (isR (.v (.bool (decide (0≤m∧m < p.ms.length))))):=by
  refine vr_layout_has (by simp) (.inr rfl) fun _ _=>?_
  unfold plA plC
  simp (disch:=((try simp only [lZ]); omega)) only [aZ,aM,s_layout_has,v_layout_has,r_layout_has]
  exact post_v ⟨rfl,rfl⟩
theorem bin_vr {w v : Bool} (p : Pl) (m : Int) (h0 : 0≤m) (h1 : m < p.ms.length) : VR P false n_layout_bin [plA w v p,.v (.int .i64 m)] [] (isR (.v (.bool (decide (binN p m.toNat))))):=by
  refine vr_layout_bin (by simp) (.inr rfl) fun _ _=>?_
  unfold plA plC
  simp (disch:=((try simp only [lZ]); omega)) only [aZ,aM,s_layout_bin,v_layout_bin]
  refine (machineOuts_vr (w:=w) (p.ms.getD m.toNat [])).same (by simp (disch:=first | omega | simp (disch:=omega) only [aG,aM]) only [fZ,aM]) rfl (aret_of ?_)
  simp (disch:=((try simp only [lZ]); omega)) only [aZ,aM,r_layout_bin]
  exact post_v ⟨vdec (by unfold binN; omega),rfl⟩
theorem find1_vr (b : Bt) (m o : Int) : VR P false n_layout_find_1 [btA b,.fp false [.v (.int .i64 m)],.fp false [.v (.int .i64 o)]] [] (isR (.v (.bool (decide (isB m o b))))):=by
  refine vr_layout_find_1 (by simp) (.inr rfl) fun _ _=>?_
  unfold btA btC
  simp (disch:=((try simp only [lZ]); omega)) only [aZ,aM,s_layout_find_1,v_layout_find_1,r_layout_find_1]
  exact post_v ⟨vdec (by unfold isB; exact Iff.rfl),rfl⟩
theorem findB_hit {bs : List Bt} {m o : Int} {k : Nat} (hk : k < bs.length) (hb : ∀ i,i < k→¬ isB m o (bs.getD i b0)) (hp : isB m o (bs.getD k b0)) : findB bs m o=k:=idxE_hit (p:=isB m o) b0 hk hb hp
theorem findB_none {bs : List Bt} {m o : Int} (hb : ∀ i,i < bs.length→¬ isB m o (bs.getD i b0)) : findB bs m o=-1:=idxE_none (p:=isB m o) b0 hb
theorem indexFuncB_vr {v : Bool} (bs : List Bt) (hl : bs.length < 1000000000) (m o : Int) : VR P false n_slices_IndexFuncapi_Belt_api_Belt [.fs v (bts bs),.fn n_layout_find_1 [.fp false [.v (.int .i64 m)],.fp false [.v (.int .i64 o)]]] [] (isR (.v (.int .i64 (findB bs m o)))):=by
  refine vr_slices_IndexFuncapi_Belt_api_Belt (by simp) (.inr rfl) fun _ _=>?_
  simp (disch:=((try simp only [lZ]); omega)) only [aZ,aM,s_slices_IndexFuncapi_Belt_api_Belt,v_slices_IndexFuncapi_Belt_api_Belt]
  refine AWP.loopP g_slices_IndexFuncapi_Belt_api_Belt_0 (fun k : Nat=>k≤bs.length∧∀ i,i < k→¬ isB m o (bs.getD i b0)) (fun k=>[(2,.v (.int .i64 0)),(3,.v (.int .i64 k))]) (fun _=>[]) (fun k=>bs.length - k) 0 ⟨by omega,fun i hi=>by omega⟩ (by refine Cut.of' (0) ?_ (by omega) ?_ ?_<;>simp (disch:=first | omega | simp (disch:=omega) only [aG,aM]) only [fZ,aM]) ?_
  rintro k ⟨hk,hb⟩
  by_cases hlt : k < bs.length
  · simp (disch:=((try simp only [lZ]); omega)) only [aZ,aM]
    refine ⟨by kernel_rfl,?_⟩
    refine (find1_vr (bs.getD k b0) m o).same (by unfold btA btC; simp (disch:=first | omega | simp (disch:=omega) only [aG,aM]) only [fZ,aM]) rfl (aret_of ?_)
    simp (disch:=((try simp only [lZ]); omega)) only [aZ,aM]
    refine ib_intro (fun h3=>?_) (fun h3=>?_)
    · simp (disch:=((try simp only [lZ]); omega)) only [aZ,aM,r_slices_IndexFuncapi_Belt_api_Belt]
      exact post_v ⟨by rw [findB_hit hlt hb h3],rfl⟩
    · simp (disch:=((try simp only [lZ]); omega)) only [aZ,aM]
      refine ⟨k+1,⟨by omega,fun i hi=>?_⟩,by omega,(by refine Cut.of' (0) ?_ (by omega) ?_ ?_<;>simp (disch:=first | omega | simp (disch:=omega) only [aG,aM]) only [fZ,aM])⟩
      rcases Nat.lt_succ_iff_lt_or_eq.1 hi with h | rfl
      · exact hb i h
      · exact h3
  · simp (disch:=((try simp only [lZ]); omega)) only [aZ,aM,r_slices_IndexFuncapi_Belt_api_Belt]
    exact post_v ⟨by rw [findB_none fun i hi=>hb i (by omega)],rfl⟩
theorem find_vr {w v : Bool} (p : Pl) (hl : p.bs.length < 1000000000) (m o : Int) : VR P false n_layout_find [plA w v p,.v (.int .i64 m),.v (.int .i64 o)] [] (isR (.v (.int .i64 (findB p.bs m o)))):=by
  refine vr_layout_find (by simp) (.inr rfl) fun _ _=>?_
  unfold plA plC
  simp (disch:=((try simp only [lZ]); omega)) only [aZ,aM,s_layout_find,v_layout_find]
  refine (indexFuncB_vr (v:=v) p.bs hl m o).use ⟨Ld.refl (by simp (disch:=first | omega | simp (disch:=omega) only [aG,aM]) only [fZ,aM]),Ld.fn ⟨Ld.lp (o:=0) rfl (LdL.refl rfl) (by simp),Ld.lp (o:=0) rfl (LdL.refl rfl) (by simp),trivial⟩,trivial⟩ rfl (aret_of ?_)
  simp (disch:=((try simp only [lZ]); omega)) only [aZ,aM,r_layout_find]
  exact post_v ⟨rfl,rfl⟩
theorem beltE_none {ms : List Mc} {b : Bt} (h : b.fr < 0∨(ms.length : Int)≤b.fr∨b.ot < 0∨(outsN (ms.getD b.fr.toNat []) : Int)≤b.ot∨b.to < 0∨(ms.length : Int)≤b.to) : beltE ms b=7:=by unfold beltE; rw [if_pos h]
theorem beltE_range {ms : List Mc} {b : Bt} (h : ¬ (b.fr < 0∨(ms.length : Int)≤b.fr∨b.ot < 0∨(outsN (ms.getD b.fr.toNat []) : Int)≤b.ot∨b.to < 0∨(ms.length : Int)≤b.to)) (h2 : b.ln < 1∨16 < b.ln) : beltE ms b=1:=by unfold beltE; rw [if_neg h,if_pos h2]
theorem beltE_fine {ms : List Mc} {b : Bt} (h : ¬ (b.fr < 0∨(ms.length : Int)≤b.fr∨b.ot < 0∨(outsN (ms.getD b.fr.toNat []) : Int)≤b.ot∨b.to < 0∨(ms.length : Int)≤b.to)) (h2 : ¬ (b.ln < 1∨16 < b.ln)) : beltE ms b=0:=by unfold beltE; rw [if_neg h,if_neg h2]
theorem belt_vr {w v : Bool} (p : Pl) (b : Bt) : VR P false n_layout_belt [plA w v p,btA b] [] (isR (.v (.int .i64 (beltE p.ms b)))):=by
  refine vr_layout_belt (by simp) (.inr rfl) fun _ _=>?_
  unfold btA btC plA plC
  simp (disch:=((try simp only [lZ]); omega)) only [aZ,aM,s_layout_belt,v_layout_belt]
  refine (has_vr (w:=w) (v:=v) p b.fr).same (by simp (disch:=first | omega | simp (disch:=omega) only [aG,aM]) only [fZ,aM]) rfl (aret_of ?_)
  by_cases h1 : 0≤b.fr∧b.fr < p.ms.length
  · simp (disch:=((try simp only [lZ]); omega)) only [aZ,aM,decide_eq_true h1]
    by_cases h2 : b.ot < 0
    · simp (disch:=((try simp only [lZ]); omega)) only [aZ,aM,r_layout_belt]
      exact post_v ⟨by rw [beltE_none (by omega)],rfl⟩
    · simp (disch:=((try simp only [lZ]); omega)) only [aZ,aM]
      refine (machineOuts_vr (w:=w) (p.ms.getD b.fr.toNat [])).same (by simp (disch:=first | omega | simp (disch:=omega) only [aG,aM]) only [fZ,aM]) rfl (aret_of ?_)
      simp (disch:=((try simp only [lZ]); omega)) only [aZ,aM]
      by_cases h3 : (outsN (p.ms.getD b.fr.toNat []) : Int)≤b.ot
      · simp (disch:=((try simp only [lZ]); omega)) only [aZ,aM,r_layout_belt]
        exact post_v ⟨by rw [beltE_none (by omega)],rfl⟩
      · simp (disch:=((try simp only [lZ]); omega)) only [aZ,aM]
        refine (has_vr (w:=w) (v:=v) p b.to).same (by simp (disch:=first | omega | simp (disch:=omega) only [aG,aM]) only [fZ,aM]) rfl (aret_of ?_)
        by_cases h4 : 0≤b.to∧b.to < p.ms.length
        · have hn : ¬ (b.fr < 0∨(p.ms.length : Int)≤b.fr∨b.ot < 0∨(outsN (p.ms.getD b.fr.toNat []) : Int)≤b.ot∨b.to < 0∨(p.ms.length : Int)≤b.to):=by omega
          simp (disch:=((try simp only [lZ]); omega)) only [aZ,aM,decide_eq_true h4]
          refine ib_intro (fun h5=>?_) (fun h5=>?_)
          · simp (disch:=((try simp only [lZ]); omega)) only [aZ,aM,r_layout_belt]
            exact post_v ⟨by rw [beltE_range hn h5],rfl⟩
          · simp (disch:=((try simp only [lZ]); omega)) only [aZ,aM,r_layout_belt]
            exact post_v ⟨by rw [beltE_fine hn h5],rfl⟩
        · simp (disch:=((try simp only [lZ]); omega)) only [aZ,aM,decide_eq_false h4,r_layout_belt]
          exact post_v ⟨by rw [beltE_none (by omega)],rfl⟩
  · simp (disch:=((try simp only [lZ]); omega)) only [aZ,aM,decide_eq_false h1,r_layout_belt]
    exact post_v ⟨by rw [beltE_none (by omega)],rfl⟩
def pbelts (ms : List Mc) (bs : List Bt) : Int:=if beltsE ms bs≠0 then beltsE ms bs else if openO ms bs then 3 else 0
theorem beltsE_hit {ms : List Mc} {bs : List Bt} {k : Nat} (hk : k < bs.length) (hb : ∀ i,i < k→beltE ms (bs.getD i b0)=0) (hn : beltE ms (bs.getD k b0)≠0) : beltsE ms bs=beltE ms (bs.getD k b0):=by
  have:=firstE_hit (f:=beltE ms) b0 hk hb hn
  unfold beltsE; rw [this,if_pos hn]
theorem beltsE_twice {ms : List Mc} {bs : List Bt} (hb : ∀ i,i < bs.length→beltE ms (bs.getD i b0)=0) (ht : twice bs) : beltsE ms bs=6:=by
  have:=firstE_none (f:=beltE ms) b0 hb
  unfold beltsE; rw [this,if_neg (by omega),if_pos ht]
theorem beltsE_fine {ms : List Mc} {bs : List Bt} (hb : ∀ i,i < bs.length→beltE ms (bs.getD i b0)=0) (ht : ¬ twice bs) : beltsE ms bs=0:=by
  have:=firstE_none (f:=beltE ms) b0 hb
  unfold beltsE; rw [this,if_neg (by omega),if_neg ht]
theorem pbelts_err {ms : List Mc} {bs : List Bt} (h : beltsE ms bs≠0) : pbelts ms bs=beltsE ms bs:=by unfold pbelts; rw [if_pos h]
theorem pbelts_open {ms : List Mc} {bs : List Bt} (h : beltsE ms bs=0) (h2 : openO ms bs) : pbelts ms bs=3:=by unfold pbelts; rw [if_neg (by omega),if_pos h2]
theorem pbelts_fine {ms : List Mc} {bs : List Bt} (h : beltsE ms bs=0) (h2 : ¬ openO ms bs) : pbelts ms bs=0:=by unfold pbelts; rw [if_neg (by omega),if_neg h2]
theorem outs4 {m : Mc} {mat : Int} (h : mcheck m mat=0) : outsN m≤4:=by
  have hmk:=mcheck_ok h
  rcases outsN_le (m:=m) with h | h
  · omega
  · exact (hmk.row _ (mem_get [] h)).2.1
theorem belts_vr {w v : Bool} (p : Pl) (hl : p.bs.length≤48) (hm : p.ms.length≤24) (h4 : ∀ i,i < p.ms.length→outsN (p.ms.getD i [])≤4) : VR P false n_layout_belts [plA w v p] [] (isR (.v (.int .i64 (pbelts p.ms p.bs)))):=by
  refine vr_layout_belts (by simp) (.inr rfl) fun _ _=>?_
  unfold plA plC
  simp (disch:=((try simp only [lZ]); omega)) only [aZ,aM,s_layout_belts,v_layout_belts]
  refine AWP.loopP g_layout_belts_0 (fun k : Nat=>k≤p.bs.length∧∀ i,i < k→beltE p.ms (p.bs.getD i b0)=0) (fun k=>[(1,.v (.int .i64 0)),(3,.v (.int .i64 k))]) (fun _=>[]) (fun k=>p.bs.length - k) 0 ⟨by omega,fun i hi=>by omega⟩ (by refine Cut.of' (1) ?_ (by omega) ?_ ?_<;>simp (disch:=first | omega | simp (disch:=omega) only [aG,aM]) only [fZ,aM]) ?_
  rintro k ⟨hk,hb⟩
  by_cases hlt : k < p.bs.length
  · simp (disch:=((try simp only [lZ]); omega)) only [aZ,aM]
    refine (belt_vr (w:=w) (v:=v) p (p.bs.getD k b0)).same (by unfold plA plC btA btC; simp (disch:=first | omega | simp (disch:=omega) only [aG,aM]) only [fZ,aM]) rfl (aret_of ?_)
    simp (disch:=((try simp only [lZ]); omega)) only [aZ,aM]
    refine ib_intro (fun h3=>?_) (fun h3=>?_)
    · simp (disch:=((try simp only [lZ]); omega)) only [aZ,aM,r_layout_belts]
      have h4:=beltsE_hit hlt hb h3
      exact post_v ⟨by rw [pbelts_err (by omega),h4],rfl⟩
    · simp (disch:=((try simp only [lZ]); omega)) only [aZ,aM]
      refine ⟨k+1,⟨by omega,fun i hi=>?_⟩,by omega,(by refine Cut.of' (1) ?_ (by omega) ?_ ?_<;>simp (disch:=first | omega | simp (disch:=omega) only [aG,aM]) only [fZ,aM])⟩
      rcases Nat.lt_succ_iff_lt_or_eq.1 hi with h | rfl
      · exact hb i h
      · exact Classical.not_not.1 h3
  have hb : ∀ i,i < p.bs.length→beltE p.ms (p.bs.getD i b0)=0:=fun i hi=>hb i (by omega)
  simp (disch:=((try simp only [lZ]); omega)) only [aZ,aM]
  refine AWP.loopP g_layout_belts_1 (fun k : Nat=>k≤p.bs.length∧∀ i,i < k→findB p.bs (p.bs.getD i b0).fr (p.bs.getD i b0).ot=i) (fun k=>[(1,.v (.int .i64 0)),(9,.v (.int .i64 k))]) (fun _=>[]) (fun k=>p.bs.length - k) 0 ⟨by omega,fun i hi=>by omega⟩ (by refine Cut.of' (1) ?_ (by omega) ?_ ?_<;>simp (disch:=first | omega | simp (disch:=omega) only [aG,aM]) only [fZ,aM]) ?_
  rintro k ⟨hk,hu⟩
  by_cases hlt : k < p.bs.length
  · simp (disch:=((try simp only [lZ]); omega)) only [aZ,aM]
    refine (find_vr (w:=w) (v:=v) p (by omega) (p.bs.getD k b0).fr (p.bs.getD k b0).ot).same (by unfold plA plC; simp (disch:=first | omega | simp (disch:=omega) only [aG,aM]) only [fZ,aM]) rfl (aret_of ?_)
    simp (disch:=((try simp only [lZ]); omega)) only [aZ,aM]
    refine ib_intro (fun h3=>?_) (fun h3=>?_)
    · simp (disch:=((try simp only [lZ]); omega)) only [aZ,aM,r_layout_belts]
      have h4:=beltsE_twice hb ⟨k,hlt,h3⟩
      exact post_v ⟨by rw [pbelts_err (by omega),h4],rfl⟩
    · simp (disch:=((try simp only [lZ]); omega)) only [aZ,aM]
      refine ⟨k+1,⟨by omega,fun i hi=>?_⟩,by omega,(by refine Cut.of' (1) ?_ (by omega) ?_ ?_<;>simp (disch:=first | omega | simp (disch:=omega) only [aG,aM]) only [fZ,aM])⟩
      rcases Nat.lt_succ_iff_lt_or_eq.1 hi with h | rfl
      · exact hu i h
      · exact Classical.not_not.1 h3
  have hf:=beltsE_fine hb fun ⟨i,h1,h2⟩=>h2 (hu i (by omega))
  simp (disch:=((try simp only [lZ]); omega)) only [aZ,aM]
  refine AWP.loopP g_layout_belts_2 (fun k : Nat=>k≤p.ms.length∧∀ i,i < k→∀ o,o < outsN (p.ms.getD i [])→0≤findB p.bs i o) (fun k=>[(1,.v (.int .i64 0)),(15,.v (.int .i64 k))]) (fun _=>[]) (fun k=>p.ms.length - k) 0 ⟨by omega,fun i hi=>by omega⟩ (by refine Cut.of' (1) ?_ (by omega) ?_ ?_<;>simp (disch:=first | omega | simp (disch:=omega) only [aG,aM]) only [fZ,aM]) ?_
  rintro k ⟨hk,hu2⟩
  by_cases hlt : k < p.ms.length
  · have hk4:=h4 k hlt
    simp (disch:=((try simp only [lZ]); omega)) only [aZ,aM]
    refine (machineOuts_vr (w:=w) (p.ms.getD k [])).same (by unfold mcA mcC; simp (disch:=first | omega | simp (disch:=omega) only [aG,aM]) only [fZ,aM]) rfl (aret_of ?_)
    simp (disch:=((try simp only [lZ]); omega)) only [aZ,aM]
    refine AWP.loopP g_layout_belts_3 (fun o : Nat=>o≤outsN (p.ms.getD k [])∧∀ i,i < o→0≤findB p.bs k i) (fun o=>[(1,.v (.int .i64 0)),(21,.v (.int .i64 o))]) (fun _=>[]) (fun o=>outsN (p.ms.getD k []) - o) 0 ⟨by omega,fun i hi=>by omega⟩ (by refine Cut.of' (2) ?_ (by omega) ?_ ?_<;>simp (disch:=first | omega | simp (disch:=omega) only [aG,aM]) only [fZ,aM]) ?_
    rintro o ⟨ho,hv⟩
    by_cases hol : o < outsN (p.ms.getD k [])
    · simp (disch:=((try simp only [lZ]); omega)) only [aZ,aM]
      refine (find_vr (w:=w) (v:=v) p (by omega) k o).same (by unfold plA plC; simp (disch:=first | omega | simp (disch:=omega) only [aG,aM]) only [fZ,aM]) rfl (aret_of ?_)
      simp (disch:=((try simp only [lZ]); omega)) only [aZ,aM]
      refine ib_intro (fun h3=>?_) (fun h3=>?_)
      · simp (disch:=((try simp only [lZ]); omega)) only [aZ,aM,r_layout_belts]
        exact post_v ⟨by rw [pbelts_open hf ⟨k,hlt,o,hol,h3⟩],rfl⟩
      · simp (disch:=((try simp only [lZ]); omega)) only [aZ,aM]
        refine ⟨o+1,⟨by omega,fun i hi=>?_⟩,by omega,(by refine Cut.of' (2) ?_ (by omega) ?_ ?_<;>simp (disch:=first | omega | simp (disch:=omega) only [aG,aM]) only [fZ,aM])⟩
        rcases Nat.lt_succ_iff_lt_or_eq.1 hi with h | rfl
        · exact hv i h
        · omega
    · simp (disch:=((try simp only [lZ]); omega)) only [aZ,aM]
      refine ⟨k+1,⟨by omega,fun i hi=>?_⟩,by omega,(by refine Cut.of' (1) ?_ (by omega) ?_ ?_<;>simp (disch:=first | omega | simp (disch:=omega) only [aG,aM]) only [fZ,aM])⟩
      rcases Nat.lt_succ_iff_lt_or_eq.1 hi with h | rfl
      · exact hu2 i h
      · intro o' ho'; exact hv o' (by omega)
  · simp (disch:=((try simp only [lZ]); omega)) only [aZ,aM,r_layout_belts]
    refine post_v ⟨?_,rfl⟩
    rw [pbelts_fine hf]
    rintro ⟨i,h1,o,h2,h3⟩
    have:=hu2 i (by omega) o h2
    omega
theorem pc_range {p : Pl} (h : p.mat < 1∨16 < p.mat) : pcheck p=1:=by unfold pcheck; rw [if_pos h]
theorem pc_empty {p : Pl} (h : ¬ (p.mat < 1∨16 < p.mat)) (h2 : p.ms.length=0) : pcheck p=10:=by unfold pcheck; rw [if_neg h,if_pos h2]
theorem pc_full {p : Pl} (h : ¬ (p.mat < 1∨16 < p.mat)) (h2 : ¬ p.ms.length=0) (h3 : 24 < p.ms.length∨48 < p.bs.length) : pcheck p=8:=by unfold pcheck; rw [if_neg h,if_neg h2,if_pos h3]
theorem pc_mc {p : Pl} (h : ¬ (p.mat < 1∨16 < p.mat)) (h2 : ¬ p.ms.length=0) (h3 : ¬ (24 < p.ms.length∨48 < p.bs.length)) {k : Nat} (hk : k < p.ms.length) (hb : ∀ i,i < k→mcheck (p.ms.getD i []) p.mat=0) (hn : mcheck (p.ms.getD k []) p.mat≠0) : pcheck p=mcheck (p.ms.getD k []) p.mat:=by
  have:=firstE_hit (f:=fun m=>mcheck m p.mat) [] hk hb hn
  unfold pcheck; rw [if_neg h,if_neg h2,if_neg h3,this,if_pos hn]
theorem pc_belts {p : Pl} (h : ¬ (p.mat < 1∨16 < p.mat)) (h2 : ¬ p.ms.length=0) (h3 : ¬ (24 < p.ms.length∨48 < p.bs.length)) (hb : ∀ i,i < p.ms.length→mcheck (p.ms.getD i []) p.mat=0) (hn : beltsE p.ms p.bs≠0) : pcheck p=beltsE p.ms p.bs:=by
  have:=firstE_none (f:=fun m=>mcheck m p.mat) [] hb
  unfold pcheck; rw [if_neg h,if_neg h2,if_neg h3,this,if_neg (by omega),if_pos hn]
theorem pc_open {p : Pl} (h : ¬ (p.mat < 1∨16 < p.mat)) (h2 : ¬ p.ms.length=0) (h3 : ¬ (24 < p.ms.length∨48 < p.bs.length)) (hb : ∀ i,i < p.ms.length→mcheck (p.ms.getD i []) p.mat=0) (hn : beltsE p.ms p.bs=0) (ho : openO p.ms p.bs) : pcheck p=3:=by
  have:=firstE_none (f:=fun m=>mcheck m p.mat) [] hb
  unfold pcheck; rw [if_neg h,if_neg h2,if_neg h3,this,if_neg (by omega),if_neg (by omega),if_pos ho]
theorem pc_feed {p : Pl} (h : ¬ (p.mat < 1 ∨ 16 < p.mat)) (h2 : ¬ p.ms.length = 0) (h3 : ¬ (24 < p.ms.length ∨ 48 < p.bs.length)) (hb : ∀ i, i < p.ms.length → mcheck (p.ms.getD i []) p.mat = 0) (hn : beltsE p.ms p.bs = 0) (ho : ¬ openO p.ms p.bs) :
    pcheck p=if p.fd < 0∨(p.ms.length : Int)≤p.fd then 7 else if outsN (p.ms.getD p.fd.toNat [])=0 then 13 else 0:=by
  have:=firstE_none (f:=fun m=>mcheck m p.mat) [] hb
  unfold pcheck; rw [if_neg h,if_neg h2,if_neg h3,this,if_neg (by omega),if_neg (by omega),if_neg ho]
theorem layoutCheck_vr {w v : Bool} (p : Pl) : VR P false n_layout_Check [plA w v p] [] (isR (.v (.int .i64 (pcheck p)))):=by
  refine vr_layout_Check (by simp) (.inr rfl) fun _ _=>?_
  unfold plA plC
  simp (disch:=((try simp only [lZ]); omega)) only [aZ,aM,s_layout_Check,v_layout_Check]
  refine ib_intro (fun h1=>?_) (fun h1=>?_)
  · simp (disch:=((try simp only [lZ]); omega)) only [aZ,aM,r_layout_Check]
    exact post_v ⟨by rw [pc_range h1],rfl⟩
  simp (disch:=((try simp only [lZ]); omega)) only [aZ,aM]
  refine ib_intro (fun h2=>?_) (fun h2=>?_)
  · simp (disch:=((try simp only [lZ]); omega)) only [aZ,aM,r_layout_Check]
    exact post_v ⟨by rw [pc_empty h1 (by omega)],rfl⟩
  have h2 : ¬ p.ms.length=0:=by omega
  simp (disch:=((try simp only [lZ]); omega)) only [aZ,aM]
  refine ib_intro (fun h3=>?_) (fun h3=>?_)
  · simp (disch:=((try simp only [lZ]); omega)) only [aZ,aM,r_layout_Check]
    exact post_v ⟨by rw [pc_full h1 h2 (by omega)],rfl⟩
  have h3 : ¬ (24 < p.ms.length∨48 < p.bs.length):=by omega
  simp (disch:=((try simp only [lZ]); omega)) only [aZ,aM]
  refine AWP.loopP g_layout_Check_0 (fun k : Nat=>k≤p.ms.length∧∀ i,i < k→mcheck (p.ms.getD i []) p.mat=0) (fun k=>[(1,.v (.int .i64 0)),(6,.v (.int .i64 k))]) (fun _=>[]) (fun k=>p.ms.length - k) 0 ⟨by omega,fun i hi=>by omega⟩ (by refine Cut.of' (1) ?_ (by omega) ?_ ?_<;>simp (disch:=first | omega | simp (disch:=omega) only [aG,aM]) only [fZ,aM]) ?_
  rintro k ⟨hk,hb⟩
  by_cases hlt : k < p.ms.length
  · simp (disch:=((try simp only [lZ]); omega)) only [aZ,aM]
    refine (machineCheck_vr (w:=w) (p.ms.getD k []) p.mat).same (by unfold mcA mcC; simp (disch:=first | omega | simp (disch:=omega) only [aG,aM]) only [fZ,aM]) rfl (aret_of ?_)
    simp (disch:=((try simp only [lZ]); omega)) only [aZ,aM]
    refine ib_intro (fun h4=>?_) (fun h4=>?_)
    · simp (disch:=((try simp only [lZ]); omega)) only [aZ,aM,r_layout_Check]
      exact post_v ⟨by rw [pc_mc h1 h2 h3 hlt hb h4],rfl⟩
    · simp (disch:=((try simp only [lZ]); omega)) only [aZ,aM]
      refine ⟨k+1,⟨by omega,fun i hi=>?_⟩,by omega,(by refine Cut.of' (1) ?_ (by omega) ?_ ?_<;>simp (disch:=first | omega | simp (disch:=omega) only [aG,aM]) only [fZ,aM])⟩
      rcases Nat.lt_succ_iff_lt_or_eq.1 hi with h | rfl
      · exact hb i h
      · exact Classical.not_not.1 h4
  have hb : ∀ i,i < p.ms.length→mcheck (p.ms.getD i []) p.mat=0:=fun i hi=>hb i (by omega)
  simp (disch:=((try simp only [lZ]); omega)) only [aZ,aM]
  refine (belts_vr (w:=w) (v:=v) p (by omega) (by omega) fun i hi=>outs4 (hb i hi)).same (by unfold plA plC; simp (disch:=first | omega | simp (disch:=omega) only [aG,aM]) only [fZ,aM]) rfl (aret_of ?_)
  by_cases h4 : beltsE p.ms p.bs=0
  · by_cases h5 : openO p.ms p.bs
    · simp (disch:=((try simp only [lZ]); omega)) only [aZ,aM,pbelts_open h4 h5,r_layout_Check]
      exact post_v ⟨by rw [pc_open h1 h2 h3 hb h4 h5],rfl⟩
    · have hf:=pc_feed h1 h2 h3 hb h4 h5
      simp (disch:=((try simp only [lZ]); omega)) only [aZ,aM,pbelts_fine h4 h5]
      refine (has_vr (w:=w) (v:=v) p p.fd).same (by unfold plA plC; simp (disch:=first | omega | simp (disch:=omega) only [aG,aM]) only [fZ,aM]) rfl (aret_of ?_)
      by_cases h6 : 0≤p.fd∧p.fd < p.ms.length
      · rw [if_neg (by omega)] at hf
        simp (disch:=((try simp only [lZ]); omega)) only [aZ,aM,decide_eq_true h6]
        refine (bin_vr (w:=w) (v:=v) p p.fd h6.1 h6.2).same (by unfold plA plC; simp (disch:=first | omega | simp (disch:=omega) only [aG,aM]) only [fZ,aM]) rfl (aret_of ?_)
        simp (disch:=((try simp only [lZ]); omega)) only [aZ,aM]
        refine ib_intro (fun h7=>?_) (fun h7=>?_)
        · have h7 : outsN (p.ms.getD p.fd.toNat [])=0:=h7
          rw [if_pos h7] at hf
          simp (disch:=((try simp only [lZ]); omega)) only [aZ,aM,r_layout_Check]
          exact post_v ⟨by rw [hf],rfl⟩
        · have h7 : ¬ outsN (p.ms.getD p.fd.toNat [])=0:=h7
          rw [if_neg h7] at hf
          simp (disch:=((try simp only [lZ]); omega)) only [aZ,aM,r_layout_Check]
          exact post_v ⟨by rw [hf],rfl⟩
      · rw [if_pos (by omega)] at hf
        simp (disch:=((try simp only [lZ]); omega)) only [aZ,aM,decide_eq_false h6,r_layout_Check]
        exact post_v ⟨by rw [hf],rfl⟩
  · simp (disch:=((try simp only [lZ]); omega)) only [aZ,aM,pbelts_err h4,r_layout_Check]
    exact post_v ⟨by rw [pc_belts h1 h2 h3 hb h4],rfl⟩
end Go.Proofs.Ytcppaddgclkekaa
namespace Go.Proofs.Ytcppaddgclkekaa
open Go Go.Lft
set_option linter.unusedSimpArgs false
attribute [local congr] ob_congr bw_congr ib_congr ck_congr iwA_congr itA_congr aw_congr awp_congr sqA_congr bkA_congr vr_congr gd_congr
abbrev Arcs:=List (Int×Int)
def arcBad (n : Int) (a : Int×Int) : Prop:=((a.1 < 0∨n≤a.1)∨a.2 < 0)∨n≤a.2
instance (n : Int) (a : Int×Int) : Decidable (arcBad n a):=inferInstanceAs (Decidable (((a.1 < 0∨n≤a.1)∨a.2 < 0)∨n≤a.2))
end Go.Proofs.Ytcppaddgclkekaa
namespace Go.Proofs.Ytcppaddgclkekaa
open Go Go.Lft
set_option linter.unusedSimpArgs false
set_option linter.unusedVariables false
attribute [local congr] ob_congr bw_congr ib_congr ck_congr iwA_congr itA_congr aw_congr awp_congr sqA_congr bkA_congr vr_congr gd_congr

def vis (S : List Bool) (w : Int) : Prop:=S.getD w.toNat false=true
instance (S : List Bool) (w : Int) : Decidable (vis S w):=inferInstanceAs (Decidable (S.getD w.toNat false=true))
inductive Path (es : Arcs) : Int→Int→Prop
  | refl (u : Int) : Path es u u
  | step {u v w : Int} (h : (u,v)∈es) (p : Path es v w) : Path es u w
theorem Path.trans {es : Arcs} {u v w : Int} (p : Path es u v) (q : Path es v w) : Path es u w:=by
  induction p with
  | refl u=>exact q
  | step h _ ih=>exact .step h (ih q)
def iterN {α : Type} (f : α→α) : Nat→α→α
  | 0,x=>x
  | k+1,x=>f (iterN f k x)
def relax1 (S : List Bool) (a : Int×Int) : List Bool:=S.set a.2.toNat (S.getD a.2.toNat false || S.getD a.1.toNat false)
def relaxAll (es : Arcs) (S : List Bool) : List Bool:=es.foldl relax1 S
def start0 (n from0 : Int) : List Bool:=(List.replicate n.toNat false).set from0.toNat true
def reachL (n : Int) (es : Arcs) (from0 : Int) : List Bool:=iterN (relaxAll es) n.toNat (start0 n from0)
def backL (l : Arcs) : Arcs:=l.map Prod.swap

theorem FzL.app {m : Nat} {H : List Blk} : ∀ {l r l' r' : List A},FzL m H l l'→FzL m H r r'→FzL m H (l++r) (l'++r')
  | [],r,[],r',_,h=>h
  | a :: l,r,b :: l',r',h,k=>⟨h.1,FzL.app h.2 k⟩
  | [],_,_ :: _,_,h,_=>h.elim
  | _ :: _,_,[],_,h,_=>h.elim
def tab (N : Nat) (D : Nat→Bool) : List Bool:=(List.range N).map D
theorem tab_len (N : Nat) (D : Nat→Bool) : (tab N D).length=N:=by simp [tab]
theorem tab_get (N : Nat) (D : Nat→Bool) (k : Nat) (h : k < N) : (tab N D).getD k false=D k:=by simp [tab,List.getD_eq_getElem?_getD,h]
theorem tab_ext {N : Nat} {D E : Nat→Bool} (h : ∀ k,k < N→D k=E k) : tab N D=tab N E:=by
  unfold tab; exact List.map_congr_left fun k hk=>h k (List.mem_range.1 hk)
theorem tab_set (N : Nat) (D : Nat→Bool) (k : Nat) (h : k < N) : (tab N D).set k true=tab N (fun j=>D j || j == k):=by
  apply List.ext_getElem (by simp [tab])
  intro i h1 h2
  simp only [tab,List.length_set,List.length_map,List.length_range] at h1
  rw [List.getElem_set]
  by_cases hk : k=i
  · subst hk; simp [tab]
  · have : (i == k)=false:=by simpa using Ne.symm hk
    simp [tab,hk,this]
theorem tab_rep (N : Nat) : List.replicate N false=tab N fun _=>false:=by
  apply List.ext_getElem (by simp [tab])
  intro i h1 h2
  simp [tab]
def both (n : Int) (l : Arcs) (v k : Nat) : Bool:=(reachL n l v).getD k false && (reachL n (backL l) v).getD k false
def nextR (p : Pl) (m o : Int) : Int×Int:=if pcheck p≠0 then (0,pcheck p) else if findB p.bs m o < 0 then (0,7) else (findB p.bs m o,0)
theorem layoutNext_vr {w v : Bool} (p : Pl) (m o : Int) : VR P false n_layout_Next [plA w v p,.v (.int .i64 m),.v (.int .i64 o)] [] (isR (.tup [.v (.int .i64 (nextR p m o).1),.v (.int .i64 (nextR p m o).2)])):=by
  refine vr_layout_Next (by simp) (.inr rfl) fun _ _=>?_
  unfold plA plC nextR
  simp (disch:=((try simp only [lZ]); omega)) only [aZ,aM,s_layout_Next,v_layout_Next]
  refine (layoutCheck_vr (w:=w) (v:=v) p).same (by unfold plA plC; simp (disch:=first | omega | simp (disch:=omega) only [aG,aM]) only [fZ,aM]) rfl (aret_of ?_)
  simp (disch:=((try simp only [lZ]); omega)) only [aZ,aM]
  refine ib_intro (fun h1=>?_) (fun h1=>?_)
  · rw [if_pos h1]
    simp (disch:=((try simp only [lZ]); omega)) only [aZ,aM,r_layout_Next]
    exact post0 (Fz.refl (by simp (disch:=first | omega | simp (disch:=omega) only [aG,aM]) only [fZ,aM])) ⟨rfl,rfl⟩
  rw [if_neg h1]
  have ok:=pcheck_ok (Classical.not_not.1 h1)
  have hb2:=ok.b2
  simp (disch:=((try simp only [lZ]); omega)) only [aZ,aM]
  refine (find_vr (w:=w) (v:=v) p (by omega) m o).same (by unfold plA plC; simp (disch:=first | omega | simp (disch:=omega) only [aG,aM]) only [fZ,aM]) rfl (aret_of ?_)
  simp (disch:=((try simp only [lZ]); omega)) only [aZ,aM]
  refine ib_intro (fun h2=>?_) (fun h2=>?_)
  · rw [if_pos h2]
    simp (disch:=((try simp only [lZ]); omega)) only [aZ,aM,r_layout_Next]
    exact post0 (Fz.refl (by simp (disch:=first | omega | simp (disch:=omega) only [aG,aM]) only [fZ,aM])) ⟨rfl,rfl⟩
  · rw [if_neg h2]
    simp (disch:=((try simp only [lZ]); omega)) only [aZ,aM,r_layout_Next]
    exact post0 (Fz.refl (by simp (disch:=first | omega | simp (disch:=omega) only [aG,aM]) only [fZ,aM])) ⟨rfl,rfl⟩
def wayV (p : Pl) (mt : Int) (m : Nat) : Int×Bool:=wayR p mt p.ms.length m 0
def wayT (x : Int×Bool) : A:=.tup [.v (.int .i64 x.1),.v (.bool x.2)]
theorem rows4 {p : Pl} (h : POk p) {i : Nat} (hi : i < p.ms.length) (mt : Int) : ((p.ms.getD i []).getD mt.toNat []).length < 1000000000:=by
  have hm:=h.mc _ (mem_get [] hi)
  by_cases hk : mt.toNat < (p.ms.getD i []).length
  · have:=(hm.row _ (mem_get [] hk)).2.1; omega
  · rw [List.getD_eq_getElem?_getD,List.getElem?_eq_none (by omega)]; simp
theorem binN_vr {w v : Bool} (p : Pl) (m : Nat) (h1 : m < p.ms.length) : VR P false n_layout_bin [plA w v p,.v (.int .i64 m)] [] (isR (.v (.bool (decide (binN p m))))):=by
  have:=bin_vr (w:=w) (v:=v) p m (by omega) (by omega)
  rw [Int.toNat_natCast] at this; exact this
def visN (p : Pl) (mt : Int) (m j : Nat) (i : Nat) : Bool:=(List.range j).any fun l=>posR p mt m l == i
theorem visN_succ (p : Pl) (mt : Int) (m j i : Nat) : visN p mt m (j+1) i=(visN p mt m j i || i == posR p mt m j):=by
  unfold visN
  rw [List.range_succ,List.any_append]
  simp only [List.any_cons,List.any_nil,Bool.or_false]
  congr 1
  by_cases h : posR p mt m j=i
  · subst h; simp
  · rw [beq_eq_false_iff_ne.2 h,beq_eq_false_iff_ne.2 (Ne.symm h)]
theorem visN_iff {p : Pl} {mt : Int} {m j i : Nat} : visN p mt m j i=true↔∃ l,l < j∧posR p mt m l=i:=by
  unfold visN; simp
theorem layoutWay_vr {w v : Bool} (p : Pl) (h : POk p) (m : Nat) (hm : m < p.ms.length) (mt : Int) (h0 : 0≤mt) (h1 : mt < p.mat) : VR P false n_layout_way [plA w v p,.v (.int .i64 m),.v (.int .i64 mt)] [] (isR (wayT (wayV p mt m))):=by
  refine vr_layout_way (by simp) (.inr rfl) fun _ _=>?_
  have hn2:=h.n2
  have hb2:=h.b2
  unfold plA plC
  simp (disch:=((try simp only [lZ]); omega)) only [aZ,aM,s_layout_way,v_layout_way]
  refine AWP.loopP g_layout_way_0 (fun k : Nat=>k≤p.ms.length∧(∀ i,i < k→¬ binN p (posR p mt m i))∧∀ i l,i < l→l < k→posR p mt m i≠posR p mt m l) (fun k=>[(5,.v (.int .i64 (posR p mt m k))),(6,.v (.int .i64 (farR p mt m k)))]) (fun k=>[(1,⟨0,bools (tab 24 (visN p mt m k))⟩)]) (fun k=>p.ms.length - k) 0 ⟨by omega,fun i hi=>by omega,fun i l hi hl=>by omega⟩ ?_ ?_
  · have e0 : tab 24 (visN p mt m 0)=List.replicate 24 false:=by rw [tab_rep]; exact tab_ext fun k _=>rfl
    simp only [posR,farR,e0]
    try simp (disch:=((try simp only [lZ]); omega)) only [aZ,aM]
    exact Cut.of' 2 rfl (by omega) (by simp (disch:=first | omega | simp (disch:=omega) only [aG,aM]) only [fZ,aM]) (by simp (disch:=first | omega | simp (disch:=omega) only [aG,aM]) only [fZ,aM])
  rintro k ⟨hk,hb,hd⟩
  have hp:=posR_lt h h0 h1 hm k hb
  have hf:=farR_bd h h0 h1 hm k hb
  have htl:=tab_len 24 (visN p mt m k)
  simp (disch:=((try simp only [lZ]); omega)) only [aZ,aM]
  refine (binN_vr (w:=w) (v:=v) p _ hp).same (by unfold plA plC; simp (disch:=first | omega | simp (disch:=omega) only [aG,aM]) only [fZ,aM]) rfl (aret_of ?_)
  by_cases hbin : binN p (posR p mt m k)
  · have hw : wayV p mt m=(farR p mt m k,true):=wayR_of (by omega) hb hbin
    simp (disch:=((try simp only [lZ]); omega)) only [aZ,aM,decide_eq_true hbin]
    refine (binN_vr (w:=w) (v:=v) p _ hp).same (by unfold plA plC; simp (disch:=first | omega | simp (disch:=omega) only [aG,aM]) only [fZ,aM]) rfl (aret_of ?_)
    rw [hw]
    simp (disch:=((try simp only [lZ]); omega)) only [aZ,aM,decide_eq_true hbin,r_layout_way]
    exact post0 (Fz.refl (by simp (disch:=first | omega | simp (disch:=omega) only [aG,aM]) only [fZ,aM])) ⟨rfl,rfl⟩
  have hg:=tab_get 24 (visN p mt m k) (posR p mt m k) (by omega)
  cases hv : visN p mt m k (posR p mt m k) with
  | true =>
    obtain ⟨l,l1,l2⟩:=visN_iff.1 hv
    have hnone:=again_none l1 l2 hb
    have hw : wayV p mt m=(0,false):=wayR_none hnone _
    simp (disch:=((try simp only [lZ]); omega)) only [aZ,aM,decide_eq_false hbin,hg,hv]
    refine (binN_vr (w:=w) (v:=v) p _ hp).same (by unfold plA plC; simp (disch:=first | omega | simp (disch:=omega) only [aG,aM]) only [fZ,aM]) rfl (aret_of ?_)
    rw [hw]
    simp (disch:=((try simp only [lZ]); omega)) only [aZ,aM,decide_eq_false hbin,r_layout_way]
    exact post0 (Fz.refl (by simp (disch:=first | omega | simp (disch:=omega) only [aG,aM]) only [fZ,aM])) ⟨rfl,rfl⟩
  | false =>
    have hd' : ∀ i l,i < l→l < k+1→posR p mt m i≠posR p mt m l:=fun i l hi hl he=>by
      rcases Nat.lt_succ_iff_lt_or_eq.1 hl with h | rfl
      · exact hd i l hi h he
      · rw [visN_iff.2 ⟨i,hi,he⟩] at hv; cases hv
    have hb' : ∀ i,i < k+1→¬ binN p (posR p mt m i):=fun i hi=>by
      rcases Nat.lt_succ_iff_lt_or_eq.1 hi with h | rfl
      · exact hb i h
      · exact hbin
    have hk' : k+1≤p.ms.length:=by
      apply Nat.le_of_not_lt; intro hc
      obtain ⟨i,l,a1,a2,a3⟩:=pigeon p.ms.length (posR p mt m) fun i hi=>posR_lt h h0 h1 hm i fun l hl=>hb l (by omega)
      exact hd' i l a1 (by omega) a3
    have e2 : (tab 24 (visN p mt m k)).set (posR p mt m k) true=tab 24 (visN p mt m (k+1)):=by
      rw [tab_set _ _ _ (by omega)]
      exact tab_ext fun j _=>(visN_succ p mt m k j).symm
    obtain ⟨o1,o2,o3,o4,o5,o6,o7⟩:=out_ok h h0 h1 hp hbin
    have o1' : (findB p.bs (posR p mt m k) (mainN (p.ms.getD (posR p mt m k) []) mt)).toNat=outB p mt (posR p mt m k):=rfl
    have o8:=findB_ge p.bs (posR p mt m k) (mainN (p.ms.getD (posR p mt m k) []) mt)
    have hr4:=rows4 h hp mt
    have o9 : (p.bs.getD (outB p mt (posR p mt m k)) b0).ln=lx p mt (posR p mt m k):=rfl
    simp (disch:=((try simp only [lZ]); omega)) only [aZ,aM,decide_eq_false hbin,hg,hv,e2]
    refine ⟨?_,?_,?_⟩
    all_goals
      refine (machineMain_vr (w:=w) (p.ms.getD (posR p mt m k) []) mt hr4).same (by unfold mcA mcC; simp (disch:=first | omega | simp (disch:=omega) only [aG,aM]) only [fZ,aM]) rfl (aret_of ?_)
      simp (disch:=((try simp only [lZ]); omega)) only [aZ,aM]
      refine (find_vr (w:=w) (v:=v) p (by omega) (posR p mt m k) (mainN (p.ms.getD (posR p mt m k) []) mt)).same (by unfold plA plC; simp (disch:=first | omega | simp (disch:=omega) only [aG,aM]) only [fZ,aM]) rfl (aret_of ?_)
      simp (disch:=((try simp only [lZ]); omega)) only [aZ,aM,o1',o5,o9]
      refine ⟨k+1,⟨hk',hb',hd'⟩,by omega,?_⟩
      simp only [posR,farR]
      try simp (disch:=((try simp only [lZ]); omega)) only [aZ,aM]
      exact Cut.of' 2 rfl (by omega) (by simp (disch:=first | omega | simp (disch:=omega) only [aG,aM]) only [fZ,aM]) (by simp (disch:=first | omega | simp (disch:=omega) only [aG,aM]) only [fZ,aM])
def drB (p : Pl) : Bool:=(List.range p.ms.length).all fun m=>(List.range p.mat.toNat).all fun mt=>(wayV p mt m).2
theorem drB_iff {p : Pl} (h : POk p) : drB p=true↔∀ m,m < p.ms.length→∀ mt : Nat,(mt : Int) < p.mat→(wayV p mt m).2=true:=by
  unfold drB
  have:=h.m1
  simp only [List.all_eq_true,List.mem_range]
  exact ⟨fun g m hm mt hmt=>g m hm mt (by omega),fun g m hm mt hmt=>g m hm mt (by omega)⟩
def drainR (p : Pl) : Bool×Int:=if pcheck p≠0 then (false,pcheck p) else (drB p,0)
theorem layoutDrains_vr {w v : Bool} (p : Pl) : VR P false n_layout_Drains [plA w v p] [] (isR (.tup [.v (.bool (drainR p).1),.v (.int .i64 (drainR p).2)])):=by
  refine vr_layout_Drains (by simp) (.inr rfl) fun _ _=>?_
  unfold plA plC drainR
  simp (disch:=((try simp only [lZ]); omega)) only [aZ,aM,s_layout_Drains,v_layout_Drains]
  refine (layoutCheck_vr (w:=w) (v:=v) p).same (by unfold plA plC; simp (disch:=first | omega | simp (disch:=omega) only [aG,aM]) only [fZ,aM]) rfl (aret_of ?_)
  simp (disch:=((try simp only [lZ]); omega)) only [aZ,aM]
  refine ib_intro (fun h1=>?_) (fun h1=>?_)
  · rw [if_pos h1]
    simp (disch:=((try simp only [lZ]); omega)) only [aZ,aM,r_layout_Drains]
    exact post0 (Fz.refl (by simp (disch:=first | omega | simp (disch:=omega) only [aG,aM]) only [fZ,aM])) ⟨rfl,rfl⟩
  rw [if_neg h1]
  have h:=pcheck_ok (Classical.not_not.1 h1)
  have hn2:=h.n2
  have hm1:=h.m1
  have hm2:=h.m2
  simp (disch:=((try simp only [lZ]); omega)) only [aZ,aM]
  refine AWP.loopP g_layout_Drains_0 (fun k : Nat=>k≤p.ms.length∧∀ m,m < k→∀ mt : Nat,(mt : Int) < p.mat→(wayV p mt m).2=true) (fun k=>[(1,.v (.bool false)),(2,.v (.int .i64 0)),(5,.v (.int .i64 k))]) (fun _=>[]) (fun k=>p.ms.length - k) 0 ⟨by omega,fun i hi=>by omega⟩ (by refine Cut.of' (1) ?_ (by omega) ?_ ?_<;>simp (disch:=first | omega | simp (disch:=omega) only [aG,aM]) only [fZ,aM]) ?_
  rintro k ⟨hk,hb⟩
  by_cases hlt : k < p.ms.length
  · simp (disch:=((try simp only [lZ]); omega)) only [aZ,aM]
    refine AWP.loopP g_layout_Drains_1 (fun j : Nat=>(j : Int)≤p.mat∧∀ mt : Nat,mt < j→(wayV p mt k).2=true) (fun j=>[(1,.v (.bool false)),(2,.v (.int .i64 0)),(9,.v (.int .i64 j))]) (fun _=>[]) (fun j=>p.mat.toNat - j) 0 ⟨by omega,fun i hi=>by omega⟩ (by refine Cut.of' (1) ?_ (by omega) ?_ ?_<;>simp (disch:=first | omega | simp (disch:=omega) only [aG,aM]) only [fZ,aM]) ?_
    rintro j ⟨hj,hc⟩
    by_cases hjl : (j : Int) < p.mat
    · simp (disch:=((try simp only [lZ]); omega)) only [aZ,aM]
      refine (layoutWay_vr (w:=w) (v:=v) p h k hlt j (by omega) hjl).same (by unfold plA plC; simp (disch:=first | omega | simp (disch:=omega) only [aG,aM]) only [fZ,aM]) rfl (aret_of ?_)
      unfold wayT
      simp (disch:=((try simp only [lZ]); omega)) only [aZ,aM]
      refine ib_split (fun h2=>?_) (fun h2=>?_)
      · have hd : drB p = false := by
          apply Bool.eq_false_iff.2
          intro hc
          have:=(drB_iff h).1 hc k hlt j hjl
          simp_all
        rw [hd]
        simp (disch:=((try simp only [lZ]); omega)) only [aZ,aM,r_layout_Drains]
        exact post0 (Fz.refl (by simp (disch:=first | omega | simp (disch:=omega) only [aG,aM]) only [fZ,aM])) ⟨rfl,rfl⟩
      · simp (disch:=((try simp only [lZ]); omega)) only [aZ,aM]
        refine ⟨j+1,⟨by omega,fun i hi=>?_⟩,by omega,(by refine Cut.of' (1) ?_ (by omega) ?_ ?_<;>simp (disch:=first | omega | simp (disch:=omega) only [aG,aM]) only [fZ,aM])⟩
        rcases Nat.lt_succ_iff_lt_or_eq.1 hi with h | rfl
        · exact hc i h
        · simpa using h2
    · simp (disch:=((try simp only [lZ]); omega)) only [aZ,aM]
      refine ⟨k+1,⟨by omega,fun i hi=>?_⟩,by omega,(by refine Cut.of' (1) ?_ (by omega) ?_ ?_<;>simp (disch:=first | omega | simp (disch:=omega) only [aG,aM]) only [fZ,aM])⟩
      rcases Nat.lt_succ_iff_lt_or_eq.1 hi with h | rfl
      · exact hb i h
      · exact fun mt hmt=>hc mt (by omega)
  · have hd : drB p=true:=(drB_iff h).2 fun m hm=>hb m (by omega)
    rw [hd]
    simp (disch:=((try simp only [lZ]); omega)) only [aZ,aM,r_layout_Drains]
    exact post0 (Fz.refl (by simp (disch:=first | omega | simp (disch:=omega) only [aG,aM]) only [fZ,aM])) ⟨rfl,rfl⟩
def heightR (p : Pl) (m mt : Int) : Int×Int :=
  if pcheck p≠0 then (0,pcheck p) else if m < 0∨(p.ms.length : Int)≤m then (0,7) else if mt < 0∨p.mat≤mt then (0,18)
  else if (wayV p mt m.toNat).2=false then (0,23) else ((wayV p mt m.toNat).1,0)
theorem pcheck_mc {p : Pl} (h : pcheck p=0) : ∀ m∈p.ms,mcheck m p.mat=0:=by
  unfold pcheck at h
  split at h
  · cases h
  split at h
  · cases h
  split at h
  · cases h
  split at h
  · contradiction
  rename_i h4
  exact firstE_all (Classical.not_not.1 h4)
theorem msE_good {p : Pl} (h : pcheck p=0) {m : Nat} (hm : m < p.ms.length) (hb : ¬ binN p m) {xs : List Int} (hx : MixOk p.mt xs) : msE (p.ms.getD m []) xs=0:=by
  obtain ⟨m1,m2,m3⟩:=(pcheck_ok h).mt1
  have h1:=pcheck_mc h _ (mem_get [] hm)
  unfold msE
  rw [hx.1,← m3,if_neg (fun hc=>hc h1)]
  have h2 : firstE badE xs=0:=firstE_none 0 fun k hk=>by
    have:=hx.2 k
    exact badE_ok (by omega)
  rw [if_neg (fun hc=>hc h2),if_neg (show ¬ outsN (p.ms.getD m [])=0 from hb)]
def prt (p : Pl) (s : Sy) (m o : Nat) : List Int:=(msM (p.ms.getD m []) (s.bef m)).getD o []
theorem prt_ok {p : Pl} (h : pcheck p=0) {s : Sy} {m : Nat} (hm : m < p.ms.length) (hb : ¬ binN p m) (hx : MixOk p.mt (s.bef m)) {o : Nat} (ho : o < outsN (p.ms.getD m [])) : MixOk p.mt (prt p s m o):=by
  obtain ⟨z1,z2,z3⟩:=msE_zero (msE_good h hm hb hx)
  have hl:=msM_rl (p.ms.getD m []) (s.bef m) ho
  refine ⟨hl.trans hx.1,fun i=>?_⟩
  unfold prt
  by_cases hi : i < (s.bef m).length
  · rw [msM_at _ _ ho hi]
    have hk : i < (p.ms.getD m []).length:=by have:=z1.len; omega
    have:=divM_le z1 z2 hk (z3 i hi) o ho
    have:=z3 i hi
    omega
  · rw [List.getD_eq_getElem?_getD,List.getElem?_eq_none (by omega)]; simp
def disK (p : Pl) (s : Sy) (m k : Nat) : Sy:={s with fst:=fun i=>if (p.bs.getD i b0).fr=m∧(p.bs.getD i b0).ot < k then prt p s m (p.bs.getD i b0).ot.toNat else s.fst i}
def disS (p : Pl) (s : Sy) (m : Nat) : Sy:={disK p s m (outsN (p.ms.getD m [])) with bef:=updF s.bef m (zeros p.mt)}
theorem plus_zero (n : Nat) (l : List Int) (h : l.length=n) : plusM (zeros n) l=l:=by
  refine eq_of_getB 0 (by rw [plusM_len]; simp [zeros,h]) fun i hi=>?_
  rw [plusM_len] at hi
  rw [plusM_get _ _ _ hi]
  have : (zeros n).getD i 0=0:=by simp [zeros,List.getD_eq_getElem?_getD,List.getElem?_replicate]; split<;>rfl
  omega
theorem PM.anewB {H : List Blk} {p : Pl} {ad : Ad} {s : Sy} (h : PM H p ad s) {m : Nat} (hm : m < p.ms.length) (v : Nat) (l : List Int) (H' : List Blk)
    (hH' : H'=(H++[(⟨v,ints l⟩ : Blk)]).set (ad .bef).1 ⟨(ad .bef).2,befC p (upd ad (.bm m) (H.length,v))⟩) :
    PM H' p (upd ad (.bm m) (H.length,v)) {s with bef:=updF s.bef m l}∧Tr p H ad H' (upd ad (.bm m) (H.length,v))∧Gr (one (ad .bef).1) H H':=by
  subst hH'
  have hb : (ad .bef).1 < H.length:=h.lt (c:=.bef) rfl
  have hg : Gr (one (ad .bef).1) H ((H++[(⟨v,ints l⟩ : Blk)]).set (ad .bef).1 ⟨(ad .bef).2,befC p (upd ad (.bm m) (H.length,v))⟩) :=
    (Gr.app (F:=one (ad .bef).1) H _).trans (Gr.set (F:=one (ad .bef).1) _ _ _ rfl) fun i _ hf=>hf
  refine ⟨h.anew (.bm m) .bef (H.length,v) (by simpa [usd] using hm) rfl (by simp) ⟨by simp,by simp⟩ hg (Nat.le_refl _) ?_ ?_ ?_,Tr.anew rfl hg (Nat.le_refl _) (by simp),hg⟩
  · rw [blkAt_set_ne _ _ _ _ _ (by simp; omega),blkAt_new0]
    simp [ctn,updF_same,blkAt]
  · rw [blkAt_set_same _ _ _ _ (by simp; omega)]; rfl
  · intro e h1 h2 he
    cases e with
    | bm j =>
      have : j≠m:=fun hc=>h1 (by rw [hc])
      simp [ctn,updF_ne _ _ this]
    | bef=>exact absurd rfl h2
    | root=>simp [ctn,rootC,upd]
    | bel =>
      simp only [ctn,belsC]
      congr 1<;>first | rfl | (funext j; first | rfl | simp [cvC,upd])
    | re j=>simp [ctn,upd]
    | _=>rfl
theorem disK_next {p : Pl} (ok : POk p) (s : Sy) {m o b : Nat} (f1 : b < p.bs.length) (f2 : (p.bs.getD b b0).fr = m) (f3 : (p.bs.getD b b0).ot = o) (hb : findB p.bs m o = b) :
    (disK p s m (o+1)).fst b=prt p s m o∧∀ j,j≠b→j < p.bs.length→(disK p s m (o+1)).fst j=(disK p s m o).fst j:=by
  refine ⟨?_,fun j hj hl=>?_⟩
  · simp only [disK]; rw [if_pos ⟨f2,by omega⟩,f3]; rfl
  · simp only [disK]
    by_cases h1 : (p.bs.getD j b0).fr=m
    · have h2 : (p.bs.getD j b0).ot ≠ o := fun hc => by
        have:=ok.un j hl
        rw [h1,hc,hb] at this; omega
      by_cases h3 : (p.bs.getD j b0).ot < o
      · rw [if_pos ⟨h1,by omega⟩,if_pos ⟨h1,h3⟩]
      · rw [if_neg (by omega),if_neg (by omega)]
    · rw [if_neg (fun hc=>h1 hc.1),if_neg (fun hc=>h1 hc.1)]
theorem zeros_sm {n : Nat} {l : List Int} (h : MixOk n l) : Sm (zeros n) l:=fun i _=>by
  have:=(zeros_ok n).2 i
  have:=h.2 i
  omega
theorem dist_pm {H : List Blk} {p : Pl} {ad : Ad} {s : Sy} (hp : pcheck p = 0) (h : PM H p ad s) (hs : SyOk p s) {m : Nat} (hm : m < p.ms.length) (hb : ¬ binN p m) (hz : ∀ i, i < p.bs.length → (p.bs.getD i b0).fr = m → s.fst i = zeros p.mt) :
    VR P false n_plant_state_distribute [.lp (ad .root).1 0 0,.v (.int .i64 m)] H (fun r H'=>r=.v (.int .i64 0)∧∃ ad' : Ad,PM H' p ad' (disS p s m)∧Tr p H ad H' ad'):=by
  refine vr_plant_state_distribute (by simp) (.inl rfl) fun _ _=>?_
  have ok:=pcheck_ok hp
  have hr:=h.rt
  unfold rootC slA at hr
  obtain ⟨m1,m2,m3⟩:=ok.mt1
  have hbe:=h.get .bef rfl
  simp only [ctn] at hbe
  have n0:=befC_nth p ad m hm
  have bl:=befC_len p ad
  unfold slA at n0
  have hu : usd p (.bm m)=true:=by simpa [usd] using hm
  have hbm:=h.get _ hu
  simp only [ctn] at hbm
  have hx:=hs.bef m hm
  have hE:=msE_good hp hm hb hx
  have hn2:=ok.n2
  have hb2:=ok.b2
  simp (disch:=((try simp only [lZ]); omega)) only [aZ,aM,s_plant_state_distribute,v_plant_state_distribute,hr,hbe,n0,bl]
  refine (machineSplit_vr (w:=true) (v:=false) (p.ms.getD m []) (s.bef m)).use ⟨by unfold mcA mcC; exact Ld.refl (by simp (disch:=first | omega | simp (disch:=omega) only [aG,aM]) only [fZ,aM]),ld_slI H _ _ _ _ hx.1.symm hbm,trivial⟩ (by rw [splitA_ok hE]; simp (disch:=first | omega | simp (disch:=omega) only [aG,aM]) only [fZ,aM]) (aret_of ?_)
  rw [splitA_ok hE]
  have ml : (msM (p.ms.getD m []) (s.bef m)).length=outsN (p.ms.getD m []):=by unfold msM; exact mtx_len _ _ _
  have ho4 : outsN (p.ms.getD m [])≤4:=by
    have hmo:=ok.mc _ (mem_get [] hm)
    rcases outsN_le (m:=p.ms.getD m []) with h0 | h0
    · omega
    · have:=hmo.row _ (mem_get [] h0); omega
  simp (disch:=((try simp only [lZ]); omega)) only [aZ,aM,ml]
  refine AWP.loopM g_plant_state_distribute_0 (fun x : Nat×List Blk=>x.1≤outsN (p.ms.getD m [])∧PM x.2 p ad (disK p s m x.1)∧Tr p H ad x.2 ad) (fun x=>[(2,.v (.int .i64 0)),(5,.v (.int .i64 x.1))]) (fun x=>x.2) (fun x=>outsN (p.ms.getD m []) - x.1) (0,H) ?_ ?_ ?_
  · refine ⟨by omega,?_,Tr.refl _ _⟩
    have : disK p s m 0=s:=by
      unfold disK
      have : (fun i=>if (p.bs.getD i b0).fr=m∧(p.bs.getD i b0).ot < (0 : Nat) then prt p s m (p.bs.getD i b0).ot.toNat else s.fst i)=s.fst:=by
        funext i
        by_cases hi : i < p.bs.length
        · have:=ok.bt _ (mem_get b0 hi)
          rw [if_neg (by omega)]
        · rw [if_neg]
          rintro ⟨h1,h2⟩
          rw [List.getD_eq_getElem?_getD,List.getElem?_eq_none (by omega)] at h2
          simp [b0] at h2
      rw [this]
    rw [this]; exact h
  · exact Cut.fg (by simp (disch:=first | omega | simp (disch:=omega) only [aG,aM]) only [fZ,aM,fgl_nil,fgl_cons,or_true,true_or])
  rintro ⟨o,K⟩ ⟨ho,hK,hT⟩
  simp only at ho hK hT
  have kr:=hK.rt
  unfold rootC slA at kr
  by_cases hlt : o < outsN (p.ms.getD m [])
  · have hfo:=ok.op m hm o hlt
    obtain ⟨f1,f2,f3⟩:=findB_ok hfo
    have hnx : nextR p m o=(findB p.bs m o,0):=by unfold nextR; rw [if_neg (fun hc=>hc hp),if_neg (by omega)]
    have hv:=layoutNext_vr (w:=true) (v:=true) p m o
    rw [hnx] at hv
    unfold plA plC at hv
    have hpl:=msM_rl (p.ms.getD m []) (s.bef m) hlt
    simp (disch:=((try simp only [lZ]); omega)) only [aZ,aM,kr,ml]
    refine hv.same (by simp (disch:=first | omega | simp (disch:=omega) only [aG,aM]) only [fZ,aM]) rfl (aret_of ?_)
    have kbl:=hK.get .bel rfl
    simp only [ctn] at kbl
    have kn0:=belsC_nth0 p ad (findB p.bs m o).toNat f1
    have kl:=belsC_len p ad
    unfold slA at kn0
    generalize hbo : (findB p.bs m o).toNat=b at *
    have hbo' : findB p.bs m o=b:=by omega
    try rw [hbo'] at hnx
    rw [hbo']
    simp (disch:=((try simp only [lZ]); omega)) only [aZ,aM,kr,kbl,kn0,kl]
    have hub : usd p (.fi b)=true:=by simpa [usd] using f1
    have kfb:=hK.get _ hub
    have e1 : (disK p s m o).fst b=zeros p.mt:=by
      simp only [disK]; rw [if_neg (by omega)]; exact hz b f1 f2
    simp only [ctn,e1] at kfb
    have hpo:=prt_ok hp hm hb hx hlt
    have hadd:=add_fs (w:=true) (b:=prt p s m o) kfb (hpo.1.trans (zeros_ok _).1.symm) (zeros_sm hpo) (by rw [(zeros_ok _).1]; omega)
    rw [(zeros_ok _).1,plus_zero _ _ hpo.1] at hadd
    refine hadd.mono ?_
    rintro r H' hH
    obtain ⟨d1,d2⟩:=disK_next ok s f1 f2 f3 hbo'
    have P2 : PM H' p ad (disK p s m (o+1)):=by
      have:=hK.put (s':=disK p s m (o+1)) (.fi b) hub fun d hd hdu=>by
        cases d with
        | fi j=>simp only [ctn]; rw [d2 j (fun hc=>hd (by rw [hc])) (by simpa [usd] using hdu)]
        | _=>rfl
      simp only [ctn,d1] at this
      rw [hH]; exact this
    have T2 : Tr p K ad H' ad:=by rw [hH]; exact Tr.one hub (Gr.set (F:=one (ad (.fi b)).1) _ _ _ rfl)
    clear hH
    refine aret_of ?_
    simp (disch:=((try simp only [lZ]); omega)) only [aZ,aM]
    refine ⟨(o+1,H'),⟨by simp only; omega,P2,hT.trans T2⟩,by simp only; omega,?_⟩
    try simp (disch:=((try simp only [lZ]); omega)) only [aZ,aM]
    exact Cut.fg (by simp (disch:=first | omega | simp (disch:=omega) only [aG,aM]) only [fZ,aM,fgl_nil,fgl_cons,or_true,true_or])
  · have hoe : o=outsN (p.ms.getD m []):=by omega
    have kbf:=hK.get .bef rfl
    simp only [ctn] at kbf
    have kl:=befC_len p ad
    have ltb:=hK.lt (c:=.bef) rfl
    have ltr:=hK.lt (c:=.root) rfl
    rw [m3] at kr
    simp (disch:=((try simp only [lZ]); omega)) only [aZ,aM,kr]
    refine (empty_ps m2 kr).mono ?_
    rintro r H' ⟨rfl,hH⟩
    rw [hH]
    refine aret_of ?_
    have sp:=befC_spl p ad m (K.length,0) hm
    unfold slA at sp
    obtain ⟨P2,T2,_⟩:=hK.anewB hm 0 (zeros p.mt) _ rfl
    rw [List.set_append_left _ _ ltb] at P2 T2
    simp (disch:=((try simp only [lZ]); omega)) only [aZ,aM,kr,kbf,kl,sp,r_plant_state_distribute]
    rw [hoe] at P2
    exact post2 (R:=fun r H'=>r=.v (.int .i64 0)∧∃ ad' : Ad,PM H' p ad' (disS p s m)∧Tr p H ad H' ad') ⟨rfl,_,P2,hT.trans T2⟩
end Go.Proofs.Ytcppaddgclkekaa
namespace Go.Proofs.Ytcppaddgclkekaa
open Go Go.Lft
set_option linter.unusedSimpArgs false
set_option linter.unusedVariables false
def sm : Nat→(Nat→Int)→Int
  | 0,_=>0
  | n+1,f=>sm n f+f n
theorem sm_congr {n : Nat} {f g : Nat→Int} (h : ∀ i,i < n→f i=g i) : sm n f=sm n g:=by
  induction n with
  | zero=>rfl
  | succ n ih=>simp only [sm]; rw [ih fun i hi=>h i (by omega),h n (by omega)]
theorem sm_nn {n : Nat} {f : Nat→Int} (h : ∀ i,i < n→0≤f i) : 0≤sm n f:=by
  induction n with
  | zero=>simp [sm]
  | succ n ih=>simp only [sm]; have:=ih fun i hi=>h i (by omega); have:=h n (by omega); omega
theorem sm_le {n : Nat} {f : Nat→Int} (h : ∀ i,i < n→0≤f i) {i : Nat} (hi : i < n) : f i≤sm n f:=by
  induction n with
  | zero=>omega
  | succ n ih =>
    simp only [sm]
    have h1:=sm_nn (n:=n) fun i hi=>h i (by omega)
    by_cases e : i=n
    · subst e; omega
    · have:=ih (fun i hi=>h i (by omega)) (by omega)
      have:=h n (by omega)
      omega
theorem sm_upd {n : Nat} (f : Nat→Int) (g : Nat→Int) {i : Nat} (hi : i < n) (h : ∀ j,j≠i→j < n→g j=f j) : sm n g=sm n f - f i+g i:=by
  induction n with
  | zero=>omega
  | succ n ih =>
    simp only [sm]
    by_cases e : i=n
    · subst e
      rw [sm_congr (f:=g) (g:=f) fun j hj=>h j (by omega) (by omega)]; omega
    · rw [ih (by omega) fun j hj hl=>h j hj (by omega),h n (Ne.symm e) (by omega)]; omega
theorem sm_add {n : Nat} (f g : Nat→Int) : sm n (fun i=>f i+g i)=sm n f+sm n g:=by
  induction n with
  | zero=>rfl
  | succ n ih=>simp only [sm]; rw [ih]; omega
def befT (p : Pl) (s : Sy) (x : Nat) : Int:=sm p.ms.length fun m=>(s.bef m).getD x 0
def fstT (p : Pl) (s : Sy) (x : Nat) : Int:=sm p.bs.length fun i=>(s.fst i).getD x 0
def rngT (p : Pl) (s : Sy) (x : Nat) : Int:=sm p.bs.length fun i=>sm (p.rl i) fun q=>(s.rng i q).getD x 0
def tot (p : Pl) (s : Sy) (x : Nat) : Int:=befT p s x+fstT p s x+rngT p s x
structure Gd (p : Pl) (s : Sy) : Prop where
  bl : ∀ m,m < p.ms.length→(s.bef m).length=p.mt∧∀ x,0≤(s.bef m).getD x 0
  fl : ∀ i,i < p.bs.length→(s.fst i).length=p.mt∧∀ x,0≤(s.fst i).getD x 0
  rl : ∀ i,i < p.bs.length→∀ q,q < p.rl i→(s.rng i q).length=p.mt∧∀ x,0≤(s.rng i q).getD x 0
  ps : ∀ i,i < p.bs.length→0 < p.rl i→s.pos i < p.rl i
  hl : s.hal.length=p.ms.length
  fd : MixOk p.mt s.fed
  tt : ∀ x,tot p s x≤1073741824
theorem Gd.parts {p : Pl} {s : Sy} (h : Gd p s) (x : Nat) : 0≤befT p s x∧0≤fstT p s x∧0≤rngT p s x :=
  ⟨sm_nn fun m hm=>(h.bl m hm).2 x,sm_nn fun i hi=>(h.fl i hi).2 x,sm_nn fun i hi=>sm_nn fun q hq=>(h.rl i hi q hq).2 x⟩
theorem Gd.ok {p : Pl} {s : Sy} (h : Gd p s) : SyOk p s:=by
  refine ⟨fun m hm=>⟨(h.bl m hm).1,fun x=>⟨(h.bl m hm).2 x,?_⟩⟩,fun i hi=>⟨(h.fl i hi).1,fun x=>⟨(h.fl i hi).2 x,?_⟩⟩,fun i hi q hq=>⟨(h.rl i hi q hq).1,fun x=>⟨(h.rl i hi q hq).2 x,?_⟩⟩,h.ps,h.hl,h.fd⟩
  · have h1:=sm_le (f:=fun m=>(s.bef m).getD x 0) (fun m hm=>(h.bl m hm).2 x) hm
    have h2:=h.tt x
    have h3:=h.parts x
    unfold tot at h2; unfold befT at h2 h3; omega
  · have h1:=sm_le (f:=fun m=>(s.fst m).getD x 0) (fun m hm=>(h.fl m hm).2 x) hi
    have h2:=h.tt x
    have h3:=h.parts x
    unfold tot at h2; unfold fstT at h2 h3; omega
  · have h0:=sm_le (f:=fun q=>(s.rng i q).getD x 0) (fun q hq=>(h.rl i hi q hq).2 x) hq
    have h1:=sm_le (f:=fun i=>sm (p.rl i) fun q=>(s.rng i q).getD x 0) (fun j hj=>sm_nn fun q hq=>(h.rl j hj q hq).2 x) hi
    have h2:=h.tt x
    have h3:=h.parts x
    unfold tot at h2; unfold rngT at h2 h3; omega
def tpS (p : Pl) (i : Nat) : Nat:=(p.bs.getD i b0).to.toNat
def mvA (p : Pl) (s : Sy) (i : Nat) : Sy:={movS p s i with bef:=updF s.bef (tpS p i) (plusM (s.bef (tpS p i)) (outM p s i))}
theorem mov_bef (p : Pl) (s : Sy) (i : Nat) : (movS p s i).bef=s.bef:=by unfold movS; split<;>rfl
theorem mov_hal (p : Pl) (s : Sy) (i : Nat) : (movS p s i).hal=s.hal:=by unfold movS; split<;>rfl
theorem mov_fed (p : Pl) (s : Sy) (i : Nat) : (movS p s i).fed=s.fed:=by unfold movS; split<;>rfl
theorem mov_fst (p : Pl) (s : Sy) (i : Nat) : (movS p s i).fst=updF s.fst i (zeros p.mt):=by unfold movS; split<;>rfl
theorem zeros_get (n x : Nat) : (zeros n).getD x 0=0:=by simp [zeros,List.getD_eq_getElem?_getD,List.getElem?_replicate]; split<;>rfl
theorem tp_lt {p : Pl} (ok : POk p) {i : Nat} (hi : i < p.bs.length) : tpS p i < p.ms.length:=by
  have:=ok.bt _ (mem_get b0 hi)
  unfold tpS; omega
theorem get_out {n : Nat} {l : List Int} (hl : l.length=n) {x : Nat} (h : n≤x) : l.getD x 0=0:=by rw [List.getD_eq_getElem?_getD,List.getElem?_eq_none (by omega)]; rfl
theorem plus_get {n : Nat} {a b : List Int} (ha : a.length=n) (hb : b.length=n) (x : Nat) : (plusM a b).getD x 0=a.getD x 0+b.getD x 0:=by
  by_cases h : x < n
  · exact plusM_get _ _ _ (by omega)
  · rw [get_out (n:=n) (by rw [plusM_len,ha]) (by omega),get_out ha (by omega),get_out hb (by omega)]; rfl
theorem mvA_tot {p : Pl} (ok : POk p) {s : Sy} (h : Gd p s) {i : Nat} (hi : i < p.bs.length) (x : Nat) : tot p (mvA p s i) x=tot p s x:=by
  have ho:=(h.ok.out hi).1
  have ht:=tp_lt ok hi
  have hb : befT p (mvA p s i) x=befT p s x+(outM p s i).getD x 0:=by
    unfold befT
    rw [sm_upd (fun m=>(s.bef m).getD x 0) (fun m=>((mvA p s i).bef m).getD x 0) ht fun j hj _=>by simp only [mvA]; rw [updF_ne _ _ hj]]
    simp only [mvA,updF_same]
    rw [plus_get (h.bl _ ht).1 ho]; omega
  have hf : fstT p (mvA p s i) x=fstT p s x - (s.fst i).getD x 0:=by
    unfold fstT
    rw [sm_upd (fun j=>(s.fst j).getD x 0) (fun j=>((mvA p s i).fst j).getD x 0) hi fun j hj _=>by simp only [mvA,mov_fst]; rw [updF_ne _ _ hj]]
    simp only [mvA,mov_fst,updF_same,zeros_get]; omega
  have hr : rngT p (mvA p s i) x=rngT p s x+(s.fst i).getD x 0 - (outM p s i).getD x 0:=by
    unfold rngT
    rw [sm_upd (fun j=>sm (p.rl j) fun q=>(s.rng j q).getD x 0) (fun j=>sm (p.rl j) fun q=>((mvA p s i).rng j q).getD x 0) hi fun j hj _=>by
      simp only [mvA,movS]; split
      · simp only [rolS,empS]; rw [updF_ne _ _ hj]
      · rfl]
    by_cases hrl : 0 < p.rl i
    · have e1 : (mvA p s i).rng=(rolS p (empS p s i) i (s.fst i)).rng:=by simp only [mvA,movS]; rw [if_pos hrl]
      have e2 : outM p s i=s.rng i (p.nxt s i):=by unfold outM; rw [if_pos hrl]
      rw [e1,e2]
      rw [sm_upd (fun q=>(s.rng i q).getD x 0) (fun q=>((rolS p (empS p s i) i (s.fst i)).rng i q).getD x 0) (i:=p.nxt s i) (Nat.mod_lt _ hrl) fun q hq _=>by
        simp only [rolS,updF_same]
        show ((updF (s.rng i) (p.nxt s i) (s.fst i)) q).getD x 0=_
        rw [updF_ne _ _ hq]]
      have e3 : (rolS p (empS p s i) i (s.fst i)).rng i (p.nxt s i)=s.fst i:=by
        simp only [rolS,updF_same]
        exact updF_same (s.rng i) (p.nxt s i) _
      rw [e3]; omega
    · have e1 : (mvA p s i).rng=s.rng:=by simp only [mvA,movS]; rw [if_neg hrl]; rfl
      have e2 : outM p s i=s.fst i:=by unfold outM; rw [if_neg hrl]
      rw [e1,e2]; omega
  unfold tot
  omega
theorem Gd.mvA {p : Pl} (ok : POk p) {s : Sy} (h : Gd p s) {i : Nat} (hi : i < p.bs.length) : Gd p (mvA p s i):=by
  have hk:=h.ok
  have hm:=hk.mov hi
  have ho:=hk.out hi
  refine ⟨fun m hm2=>?_,fun j hj=>?_,fun j hj q hq=>?_,hm.pos,hm.hal,hm.fed,fun x=>by rw [mvA_tot ok h hi]; exact h.tt x⟩
  · simp only [Go.Proofs.Ytcppaddgclkekaa.mvA]
    by_cases e : m=tpS p i
    · rw [e,updF_same]
      have hb:=h.bl _ (tp_lt ok hi)
      refine ⟨by rw [plusM_len]; exact hb.1,fun x=>?_⟩
      rw [plus_get hb.1 ho.1]
      have:=hb.2 x
      have:=(ho.2 x).1
      omega
    · rw [updF_ne _ _ e]; exact h.bl m hm2
  · exact ⟨(hm.fst j hj).1,fun x=>((hm.fst j hj).2 x).1⟩
  · exact ⟨(hm.rng j hj q hq).1,fun x=>((hm.rng j hj q hq).2 x).1⟩
def mvK (p : Pl) (s : Sy) : Nat→Sy
  | 0=>s
  | k+1=>mvA p (mvK p s k) k
theorem Gd.mvK {p : Pl} (ok : POk p) {s : Sy} (h : Gd p s) : ∀ k,k≤p.bs.length→Gd p (mvK p s k)∧∀ x,tot p (mvK p s k) x=tot p s x
  | 0,_=>⟨h,fun _=>rfl⟩
  | k+1,hk=>by
    obtain ⟨h1,h2⟩:=Gd.mvK ok h k (by omega)
    exact ⟨h1.mvA ok (by omega),fun x=>by
      simp only [Go.Proofs.Ytcppaddgclkekaa.mvK]
      rw [mvA_tot ok h1 (by omega),h2]⟩
theorem mvK_hal (p : Pl) (s : Sy) : ∀ k,(mvK p s k).hal=s.hal∧(mvK p s k).fed=s.fed
  | 0=>⟨rfl,rfl⟩
  | k+1=>by
    obtain ⟨h1,h2⟩:=mvK_hal p s k
    exact ⟨by simp only [mvK,mvA,mov_hal]; exact h1,by simp only [mvK,mvA,mov_fed]; exact h2⟩
theorem mvK_fst (p : Pl) (s : Sy) : ∀ k i,(mvK p s k).fst i=if i < k then zeros p.mt else s.fst i
  | 0,i=>by simp [mvK]
  | k+1,i=>by
    simp only [mvK,mvA,mov_fst]
    by_cases e : i=k
    · rw [e,updF_same,if_pos (by omega)]
    · rw [updF_ne _ _ e,mvK_fst p s k i]
      by_cases h : i < k
      · rw [if_pos h,if_pos (by omega)]
      · rw [if_neg h,if_neg (by omega)]
theorem sm_list (l : List Int) : sm l.length (fun i=>l.getD i 0)=l.sum:=by
  have : ∀ n,n≤l.length→sm n (fun i=>l.getD i 0)=(l.take n).sum:=by
    intro n
    induction n with
    | zero=>intro _; simp [sm]
    | succ n ih =>
      intro hn
      simp only [sm]
      rw [ih (by omega),take_succ_get' l n 0 (by omega),List.sum_append]; simp
  rw [this _ (Nat.le_refl _),List.take_length]
theorem disK_tot {p : Pl} (hp : pcheck p = 0) {s : Sy} {m : Nat} (hm : m < p.ms.length) (hz : ∀ i, i < p.bs.length → (p.bs.getD i b0).fr = m → s.fst i = zeros p.mt) (x : Nat) :
    ∀ o,o≤outsN (p.ms.getD m [])→fstT p (disK p s m o) x=fstT p s x+sm o fun o=>(prt p s m o).getD x 0
  | 0,_=>by
    have ok:=pcheck_ok hp
    simp only [sm]
    unfold fstT
    rw [sm_congr (g:=fun i=>(s.fst i).getD x 0) fun i hi=>?_]
    · omega
    · have:=ok.bt _ (mem_get b0 hi)
      simp only [disK]; rw [if_neg (by omega)]
  | o+1,ho=>by
    have ok:=pcheck_ok hp
    have ih:=disK_tot hp hm hz x o (by omega)
    have hfo:=ok.op m hm o (by omega)
    obtain ⟨f1,f2,f3⟩:=findB_ok hfo
    generalize hbo : (findB p.bs m o).toNat=b at *
    obtain ⟨d1,d2⟩:=disK_next ok s f1 f2 f3 (by omega)
    simp only [sm]
    unfold fstT at ih ⊢
    rw [sm_upd (fun i=>((disK p s m o).fst i).getD x 0) (fun i=>((disK p s m (o+1)).fst i).getD x 0) f1 fun j hj hl=>by rw [d2 j hj hl],ih]
    rw [d1]
    have : (disK p s m o).fst b=zeros p.mt:=by simp only [disK]; rw [if_neg (by omega)]; exact hz b f1 f2
    rw [this,zeros_get]; omega
theorem prt_sum {p : Pl} (hp : pcheck p=0) {s : Sy} {m : Nat} (hm : m < p.ms.length) (hb : ¬ binN p m) (hx : MixOk p.mt (s.bef m)) (x : Nat) : (sm (outsN (p.ms.getD m [])) fun o=>(prt p s m o).getD x 0)=(s.bef m).getD x 0:=by
  obtain ⟨z1,z2,z3⟩:=msE_zero (msE_good hp hm hb hx)
  by_cases hxl : x < (s.bef m).length
  · have hk : x < (p.ms.getD m []).length:=by have:=z1.len; omega
    have d:=divM_ok z1 z2 hk (z3 x hxl)
    have hl:=(row_split z1 z2 hk (z3 x hxl)).2.2.1
    have h1:=sm_list (divM (p.ms.getD m []) x ((s.bef m).getD x 0))
    rw [d.len,hl,d.sum] at h1
    rw [← h1]
    exact sm_congr fun o ho=>msM_at _ _ ho hxl
  · have e : ∀ o,o < outsN (p.ms.getD m [])→(prt p s m o).getD x 0=0:=fun o ho=>get_out (msM_rl (p.ms.getD m []) (s.bef m) ho) (by omega)
    rw [sm_congr (g:=fun _=>0) e,get_out rfl (by omega)]
    generalize outsN (p.ms.getD m [])=n
    induction n with
    | zero=>rfl
    | succ n ih=>simp only [sm,ih]; rfl
theorem disS_tot {p : Pl} (hp : pcheck p=0) {s : Sy} {m : Nat} (hm : m < p.ms.length) (hb : ¬ binN p m) (hx : MixOk p.mt (s.bef m)) (hz : ∀ i,i < p.bs.length→(p.bs.getD i b0).fr=m→s.fst i=zeros p.mt) (x : Nat) : tot p (disS p s m) x=tot p s x:=by
  have h1:=disK_tot hp hm hz x _ (Nat.le_refl _)
  rw [prt_sum hp hm hb hx] at h1
  have h2 : fstT p (disS p s m) x=fstT p s x+(s.bef m).getD x 0:=h1
  have h3 : befT p (disS p s m) x=befT p s x - (s.bef m).getD x 0:=by
    unfold befT
    rw [sm_upd (fun j=>(s.bef j).getD x 0) (fun j=>((disS p s m).bef j).getD x 0) hm fun j hj _=>by simp only [disS]; rw [updF_ne _ _ hj]]
    simp only [disS,updF_same,zeros_get]; omega
  have h4 : rngT p (disS p s m) x=rngT p s x:=rfl
  unfold tot; omega
theorem Gd.disS {p : Pl} (hp : pcheck p=0) {s : Sy} (h : Gd p s) {m : Nat} (hm : m < p.ms.length) (hb : ¬ binN p m) (hz : ∀ i,i < p.bs.length→(p.bs.getD i b0).fr=m→s.fst i=zeros p.mt) : Gd p (disS p s m):=by
  have hx:=h.ok.bef m hm
  have ok:=pcheck_ok hp
  refine ⟨fun j hj=>?_,fun i hi=>?_,h.rl,h.ps,h.hl,h.fd,fun x=>by rw [disS_tot hp hm hb hx hz]; exact h.tt x⟩
  · simp only [Go.Proofs.Ytcppaddgclkekaa.disS]
    by_cases e : j=m
    · rw [e,updF_same]; exact ⟨(zeros_ok _).1,fun x=>by rw [zeros_get]; omega⟩
    · rw [updF_ne _ _ e]; exact h.bl j hj
  · simp only [Go.Proofs.Ytcppaddgclkekaa.disS,disK]
    split
    · rename_i hc
      have hbt:=ok.bt _ (mem_get b0 hi)
      have hpo:=prt_ok hp hm hb hx (o:=(p.bs.getD i b0).ot.toNat) (by omega)
      exact ⟨hpo.1,fun x=>(hpo.2 x).1⟩
    · exact h.fl i hi
def disA (p : Pl) (s : Sy) (m : Nat) : Sy:=if outsN (p.ms.getD m [])=0∨s.hal.getD m false=true then s else disS p s m
def dsK (p : Pl) (s : Sy) : Nat→Sy
  | 0=>s
  | k+1=>disA p (dsK p s k) k
theorem dsK_fst {p : Pl} (s : Sy) : ∀ (k i : Nat),(k : Int)≤(p.bs.getD i b0).fr→(dsK p s k).fst i=s.fst i
  | 0,i,_=>rfl
  | k+1,i,h=>by
    have ih:=dsK_fst (p:=p) s k i (by omega)
    simp only [dsK,disA]
    split
    · exact ih
    · simp only [disS,disK]; rw [if_neg (by omega)]; exact ih
theorem dsK_hal {p : Pl} (s : Sy) : ∀ k,(dsK p s k).hal=s.hal∧(dsK p s k).fed=s.fed
  | 0=>⟨rfl,rfl⟩
  | k+1=>by
    obtain ⟨h1,h2⟩:=dsK_hal (p:=p) s k
    simp only [dsK,disA]
    split
    · exact ⟨h1,h2⟩
    · exact ⟨h1,h2⟩
theorem Gd.dsK {p : Pl} (hp : pcheck p=0) {s : Sy} (h : Gd p s) (hz : ∀ i,i < p.bs.length→s.fst i=zeros p.mt) : ∀ k,k≤p.ms.length→Gd p (dsK p s k)∧∀ x,tot p (dsK p s k) x=tot p s x
  | 0,_=>⟨h,fun _=>rfl⟩
  | k+1,hk=>by
    obtain ⟨h1,h2⟩:=Gd.dsK hp h hz k (by omega)
    have hz2 : ∀ i,i < p.bs.length→(p.bs.getD i b0).fr=k→(Go.Proofs.Ytcppaddgclkekaa.dsK p s k).fst i=zeros p.mt:=fun i hi hf=>by rw [dsK_fst s k i (by omega)]; exact hz i hi
    simp only [Go.Proofs.Ytcppaddgclkekaa.dsK,disA]
    split
    · exact ⟨h1,h2⟩
    · rename_i hc
      have hb : ¬ binN p k:=fun hb=>hc (.inl hb)
      exact ⟨h1.disS hp (by omega) hb hz2,fun x=>by rw [disS_tot hp (by omega) hb (h1.ok.bef k (by omega)) hz2,h2]⟩
def stpS (p : Pl) (s : Sy) : Sy:=dsK p (mvK p s p.bs.length) p.ms.length
theorem Gd.stp {p : Pl} (hp : pcheck p=0) {s : Sy} (h : Gd p s) : Gd p (stpS p s)∧(∀ x,tot p (stpS p s) x=tot p s x)∧(stpS p s).hal=s.hal∧(stpS p s).fed=s.fed:=by
  obtain ⟨h1,h2⟩:=h.mvK (pcheck_ok hp) p.bs.length (Nat.le_refl _)
  obtain ⟨h3,h4⟩:=h1.dsK hp (fun i hi=>by rw [mvK_fst,if_pos hi]) p.ms.length (Nat.le_refl _)
  exact ⟨h3,fun x=>(h4 x).trans (h2 x),(dsK_hal _ _).1.trans (mvK_hal p s _).1,(dsK_hal _ _).2.trans (mvK_hal p s _).2⟩
end Go.Proofs.Ytcppaddgclkekaa
namespace Go.Proofs.Ytcppaddgclkekaa
open Go Go.Lft
set_option linter.unusedSimpArgs false
set_option linter.unusedVariables false
attribute [local congr] ob_congr bw_congr ib_congr ck_congr iwA_congr itA_congr aw_congr awp_congr sqA_congr bkA_congr vr_congr gd_congr
theorem cloneB_vr {H : List Blk} {p : Pl} {ad : Ad} {i v : Nat} (h0 : 0 < p.ms.length) (h1 : p.ms.length≤100) (hb : blkAt H i v=some (befC p ad)) : VR P false n_slices_Cloneapi_Mix_api_Mix [.sl i v 1 0 p.ms.length] H (fun r H'=>r=.sl H.length 1 1 0 p.ms.length∧H'=H++[⟨1,befC p ad⟩]):=by
  refine vr_slices_Cloneapi_Mix_api_Mix (by simp) (.inl rfl) fun _ _=>?_
  have lt:=blkAt_lt hb
  have bl:=befC_len p ad
  have bo : (befC p ad).all A.one=true:=by simp [befC,slA,A.one]
  have tk : (befC p ad).take p.ms.length=befC p ad:=List.take_of_length_le (by omega)
  simp (disch:=((try simp only [lZ]); omega)) only [aZ,aM,s_slices_Cloneapi_Mix_api_Mix,v_slices_Cloneapi_Mix_api_Mix,hb,bl,tk,bo,r_slices_Cloneapi_Mix_api_Mix]
  exact post2 (R:=fun r H'=>_) ⟨rfl,rfl⟩
theorem Tr.keep {p : Pl} {K K' : List Blk} {ad ad' : Ad} (T : Tr p K ad K' ad') {i v : Nat} {l : List A} (hb : blkAt K i v=some l) (hn : ¬ ftp p ad i) : blkAt K' i v=some l∧¬ ftp p ad' i :=
  ⟨T.1.at hb hn,fun hc=>by
    rcases T.2.1 i hc with h | h
    · have:=blkAt_lt hb; omega
    · exact hn h⟩
def Mid (H : List Blk) (p : Pl) (ad : Ad) (K : List Blk) (ad' : Ad) (st : Sy) : Prop :=
  PM K p ad' st∧Tr p H ad K ad'∧(blkAt K H.length 0=some [.lp (ad .root).1 0 0]∧¬ ftp p ad' H.length)∧blkAt K (H.length+1) 0=some [.v (.int .i64 0)]∧¬ ftp p ad' (H.length+1)
theorem Mid.next {H K K' : List Blk} {p : Pl} {ad ad' ad2 : Ad} {st st' : Sy} (h : Mid H p ad K ad' st) (hP : PM K' p ad2 st') (hT : Tr p K ad' K' ad2) : Mid H p ad K' ad2 st' :=
  ⟨hP,h.2.1.trans hT,hT.keep h.2.2.1.1 h.2.2.1.2,hT.keep h.2.2.2.1 h.2.2.2.2⟩
theorem upd_id (f : Nat→List Int) (m : Nat) : updF f m (f m)=f:=by
  funext j
  unfold updF
  split
  · rename_i h; rw [h]
  · rfl
theorem step_pm {H : List Blk} {p : Pl} {ad : Ad} {s : Sy} (hp : pcheck p=0) (h : PM H p ad s) (hg : Gd p s) : VR P false n_plant_state_step [.lp (ad .root).1 0 0] H (fun r H'=>r=.v (.int .i64 0)∧∃ ad' : Ad,PM H' p ad' (stpS p s)∧Tr p H ad H' ad'):=by
  refine vr_plant_state_step (by simp) (.inl rfl) fun _ _=>?_
  have ok:=pcheck_ok hp
  obtain ⟨m1,m2,m3⟩:=ok.mt1
  have n1:=ok.n1
  have n2:=ok.n2
  have b2:=ok.b2
  have hr:=h.rt
  unfold rootC slA at hr
  have ltr:=h.lt (c:=.root) rfl
  have ltb:=h.lt (c:=.bef) rfl
  have hbe:=h.get .bef rfl
  simp only [ctn] at hbe
  have hc:=cloneB_vr (H:=H++[⟨0,[.lp (ad .root).1 0 0]⟩,⟨0,[.v (.int .i64 0)]⟩]) (p:=p) (ad:=ad) (i:=(ad .bef).1) (v:=(ad .bef).2) n1 (by omega) (by rw [blkAt_app _ _ _ _ ltb]; exact hbe)
  simp (disch:=((try simp only [lZ]); omega)) only [aZ,aM,s_plant_state_step,v_plant_state_step,hr]
  refine hc.mono ?_
  rintro r H' ⟨rfl,hH⟩
  rw [hH]
  refine aret_of ?_
  have ltr2 : (ad .root).1 < (H++[(⟨0,[.lp (ad .root).1 0 0]⟩ : Blk),⟨0,[.v (.int .i64 0)]⟩]).length:=by simp; omega
  simp (disch:=((try simp only [lZ]); omega)) only [aZ,aM,hr]
  have M0 : Mid H p ad (H++[⟨0,[.lp (ad .root).1 0 0]⟩,⟨0,[.v (.int .i64 0)]⟩,⟨1,befC p ad⟩,⟨0,[.sl (H.length+(1+1)) 1 1 0 p.ms.length]⟩]) ad s:=by
    refine ⟨h.grow _,Tr.gr (Gr.app _ _),⟨by rw [blkAt_new0]; rfl,?_⟩,by rw [blkAt_new]; rfl,?_⟩
    · rintro ⟨c,hc1,hc2⟩; have:=h.lt hc1; omega
    · rintro ⟨c,hc1,hc2⟩; have:=h.lt hc1; omega
  refine AWP.loopM g_plant_state_step_0 (fun x : Nat×Ad×List Blk=>x.1≤p.ms.length∧Mid H p ad x.2.2 x.2.1 s) (fun x=>[(4,.v (.int .i64 x.1))]) (fun x=>x.2.2) (fun x=>p.ms.length - x.1) (0,ad,_) ⟨by omega,M0⟩ ?_ ?_
  · exact Cut.fg (by simp (disch:=first | omega | simp (disch:=omega) only [aG,aM]) only [fZ,aM,fgl_nil,fgl_cons,or_true,true_or])
  clear M0
  rintro ⟨k,a1,K⟩ ⟨hk,hM⟩
  simp only at hk hM
  have hM0:=hM
  obtain ⟨kP,kT,⟨kS,kS2⟩,kE,kE2⟩:=hM
  have kr:=kP.rt
  rw [kT.2.2] at kr
  unfold rootC slA at kr
  have kb:=kP.get .bef rfl
  simp only [ctn] at kb
  have kl:=befC_len p a1
  by_cases hlt : k < p.ms.length
  · have kn:=befC_nth p a1 k hlt
    unfold slA at kn
    have hu : usd p (.bm k)=true:=by simpa [usd] using hlt
    have km:=kP.get _ hu
    simp only [ctn] at km
    have hml:=(hg.bl k hlt).1
    have hcl:=clone_sl (kp:=true) (by omega) (by omega) km
    rw [hml] at hcl
    simp (disch:=((try simp only [lZ]); omega)) only [aZ,aM,kS,kr,kb,kl,kn]
    refine hcl.mono ?_
    rintro r H' ⟨rfl,hH⟩
    have sp:=befC_spl p a1 k (K.length,1) hlt
    unfold slA at sp
    have ltkb:=kP.lt (c:=.bef) rfl
    obtain ⟨P2,T2,_⟩:=kP.anewB hlt 1 (s.bef k) _ rfl
    rw [upd_id,List.set_append_left _ _ ltkb] at P2
    rw [List.set_append_left _ _ ltkb] at T2
    rw [hH]
    refine aret_of ?_
    simp (disch:=((try simp only [lZ]); omega)) only [aZ,aM,kb,kl,sp]
    refine ⟨(k+1,_,_),⟨by simp only; omega,hM0.next P2 T2⟩,by simp only; omega,?_⟩
    try simp (disch:=((try simp only [lZ]); omega)) only [aZ,aM]
    exact Cut.fg (by simp (disch:=first | omega | simp (disch:=omega) only [aG,aM]) only [fZ,aM,fgl_nil,fgl_cons,or_true,true_or])
  · have hke : k=p.ms.length:=by omega
    clear hr hbe hc
    simp (disch:=((try simp only [lZ]); omega)) only [aZ,aM,kS,kr]
    refine AWP.loopM g_plant_state_step_1 (fun x : Nat×Ad×List Blk=>x.1≤p.bs.length∧Mid H p ad x.2.2 x.2.1 (mvK p s x.1)) (fun x=>[(8,.v (.int .i64 x.1))]) (fun x=>x.2.2) (fun x=>p.bs.length - x.1) (0,a1,K) ⟨by omega,hM0⟩ ?_ ?_
    · exact Cut.fg (by simp (disch:=first | omega | simp (disch:=omega) only [aG,aM]) only [fZ,aM,fgl_nil,fgl_cons,or_true,true_or])
    clear hM0 kP kT kS kS2 kE kE2 kr kb kl
    rintro ⟨j,a2,L⟩ ⟨hj,hM⟩
    simp only at hj hM
    have hM0:=hM
    obtain ⟨kP,kT,⟨kS,kS2⟩,kE,kE2⟩:=hM
    obtain ⟨gj,gt⟩:=hg.mvK ok j hj
    have kr:=kP.rt
    rw [kT.2.2] at kr
    unfold rootC slA at kr
    have lS:=blkAt_lt kS
    have lE:=blkAt_lt kE
    have lr:=kP.lt (c:=.root) rfl
    rw [kT.2.2] at lr
    by_cases hjt : j < p.bs.length
    · have hmv:=move_pm ok (kP.grow [⟨0,[.v (.int .i64 (p.bs.getD j b0).fr),.v (.int .i64 (p.bs.getD j b0).ot),.v (.int .i64 (p.bs.getD j b0).to),.v (.int .i64 (p.bs.getD j b0).ln)]⟩]) gj.ok hjt
      rw [kT.2.2] at hmv
      simp (disch:=((try simp only [lZ]); omega)) only [aZ,aM,kS]
      refine hmv.mono ?_
      rintro r H' ⟨a3,o,rfl,P3,T3,hO,hO2⟩
      have hM1 : Mid H p ad (L++[⟨0,[.v (.int .i64 (p.bs.getD j b0).fr),.v (.int .i64 (p.bs.getD j b0).ot),.v (.int .i64 (p.bs.getD j b0).to),.v (.int .i64 (p.bs.getD j b0).ln)]⟩]) a2 (mvK p s j):=hM0.next (kP.grow _) (Tr.gr (Gr.app _ _))
      have hM2:=hM1.next P3 T3
      have hB:=(T3.keep (i:=L.length) (v:=0) (l:=[.v (.int .i64 (p.bs.getD j b0).fr),.v (.int .i64 (p.bs.getD j b0).ot),.v (.int .i64 (p.bs.getD j b0).to),.v (.int .i64 (p.bs.getD j b0).ln)]) (by rw [blkAt_new0]; rfl) (by rintro ⟨c,hc1,hc2⟩; have:=kP.lt hc1; omega)).1
      clear hM1
      have hM3:=hM2
      obtain ⟨_,qT,⟨qS,_⟩,_,_⟩:=hM2
      have qr:=P3.rt
      rw [qT.2.2] at qr
      unfold rootC slA at qr
      have qb:=P3.get .bef rfl
      simp only [ctn] at qb
      have ql:=befC_len p a3
      have ht:=tp_lt ok hjt
      have hbt:=ok.bt _ (mem_get b0 hjt)
      have qn:=befC_nth p a3 (tpS p j) ht
      unfold slA at qn
      have htp : (p.bs.getD j b0).to.toNat=tpS p j:=rfl
      have hu : usd p (.bm (tpS p j))=true:=by simpa [usd] using ht
      have qm:=P3.get _ hu
      simp only [ctn,mov_bef] at qm
      have ma:=gj.ok.bef _ ht
      have mo:=gj.ok.out hjt
      have hadd:=add_sl qm hO (fun hc=>hO2 ⟨_,hu,hc.symm⟩) (mo.1.trans ma.1.symm) (fun x _=>by have:=ma.2 x; have:=mo.2 x; omega) (by rw [ma.1]; omega)
      rw [ma.1,mo.1] at hadd
      unfold slA
      refine aret_of ?_
      simp (disch:=((try simp only [lZ]); omega)) only [aZ,aM,hB,qS,qr,qb,ql,qn,htp]
      refine hadd.mono ?_
      rintro r H2 hH2
      have P4 : PM H2 p a3 (mvK p s (j+1)):=by
        have:=P3.put (s':=mvA p (mvK p s j) j) (.bm (tpS p j)) hu fun d hd hdu=>by
          cases d with
          | bm m=>simp only [ctn,mvA,mov_bef]; rw [updF_ne _ _ (fun hc=>hd (by rw [hc]))]
          | _=>rfl
        simp only [ctn,mvA,updF_same] at this
        rw [hH2]; exact this
      have T4 : Tr p H' a3 H2 a3:=by rw [hH2]; exact Tr.one hu (Gr.set (F:=one (a3 (.bm (tpS p j))).1) _ _ _ rfl)
      clear hH2
      refine aret_of ?_
      simp (disch:=((try simp only [lZ]); omega)) only [aZ,aM]
      refine ⟨(j+1,a3,H2),⟨by simp only; omega,hM3.next P4 T4⟩,by simp only; omega,?_⟩
      try simp (disch:=((try simp only [lZ]); omega)) only [aZ,aM]
      exact Cut.fg (by simp (disch:=first | omega | simp (disch:=omega) only [aG,aM]) only [fZ,aM,fgl_nil,fgl_cons,or_true,true_or])
    · have hje : j=p.bs.length:=by omega
      simp (disch:=((try simp only [lZ]); omega)) only [aZ,aM,kS,kr]
      obtain ⟨hz1,hz2⟩:=hg.mvK ok p.bs.length (Nat.le_refl _)
      have hz : ∀ i,i < p.bs.length→(mvK p s p.bs.length).fst i=zeros p.mt:=fun i hi=>by rw [mvK_fst,if_pos hi]
      have hhal:=(mvK_hal p s p.bs.length).1
      rw [hje] at hM0
      generalize hs1 : mvK p s p.bs.length=s1 at *
      refine AWP.loopM g_plant_state_step_2 (fun x : Nat×Ad×List Blk=>x.1≤p.ms.length∧Mid H p ad x.2.2 x.2.1 (dsK p s1 x.1)) (fun x=>[(16,.v (.int .i64 x.1))]) (fun x=>x.2.2) (fun x=>p.ms.length - x.1) (0,a2,L) ⟨by omega,hM0⟩ ?_ ?_
      · exact Cut.fg (by simp (disch:=first | omega | simp (disch:=omega) only [aG,aM]) only [fZ,aM,fgl_nil,fgl_cons,or_true,true_or])
      clear hM0 kP kT kS kS2 kE kE2 kr lS lE lr gj gt
      rintro ⟨m,a3,N⟩ ⟨hm,hM⟩
      simp only at hm hM
      have hM0:=hM
      obtain ⟨kP,kT,⟨kS,kS2⟩,kE,kE2⟩:=hM
      obtain ⟨gj,gt⟩:=hz1.dsK hp hz m hm
      have kr:=kP.rt
      rw [kT.2.2] at kr
      unfold rootC slA at kr
      by_cases hmt : m < p.ms.length
      · have hbn:=bin_pm ok kP m (by omega) (by omega)
        rw [kT.2.2,Int.toNat_natCast] at hbn
        have kh:=kP.get .hal rfl
        simp only [ctn] at kh
        have hhl:=gj.hl
        have hh0 : (dsK p s1 m).hal=s1.hal:=(dsK_hal _ _).1
        rw [hh0] at kh hhl
        simp (disch:=((try simp only [lZ]); omega)) only [aZ,aM,kS]
        refine hbn.mono ?_
        rintro r H' ⟨rfl,hH⟩
        rw [hH]
        refine aret_of ?_
        have skip : (outsN (p.ms.getD m [])=0∨s1.hal.getD m false=true)→Mid H p ad N a3 (dsK p s1 (m+1)):=fun hc=>by
          simp only [dsK,disA]; rw [hh0,if_pos hc]; exact hM0
        by_cases hb : binN p m
        · rw [decide_eq_true hb]
          simp (disch:=((try simp only [lZ]); omega)) only [aZ,aM]
          refine ⟨(m+1,a3,N),⟨by simp only; omega,skip (.inl hb)⟩,by simp only; omega,?_⟩
          try simp (disch:=((try simp only [lZ]); omega)) only [aZ,aM]
          exact Cut.fg (by simp (disch:=first | omega | simp (disch:=omega) only [aG,aM]) only [fZ,aM,fgl_nil,fgl_cons,or_true,true_or])
        · rw [decide_eq_false hb]
          cases hha : s1.hal.getD m false with
          | true =>
            simp (disch:=((try simp only [lZ]); omega)) only [aZ,aM,kS,kr,kh,hhl,hha]
            refine ⟨(m+1,a3,N),⟨by simp only; omega,skip (.inr hha)⟩,by simp only; omega,?_⟩
            try simp (disch:=((try simp only [lZ]); omega)) only [aZ,aM]
            exact Cut.fg (by simp (disch:=first | omega | simp (disch:=omega) only [aG,aM]) only [fZ,aM,fgl_nil,fgl_cons,or_true,true_or])
          | false =>
            have hz2 : ∀ i,i < p.bs.length→(p.bs.getD i b0).fr=m→(dsK p s1 m).fst i=zeros p.mt:=fun i hi hf=>by rw [dsK_fst s1 m i (by omega)]; exact hz i hi
            have hds:=dist_pm hp kP gj.ok hmt hb hz2
            rw [kT.2.2] at hds
            simp (disch:=((try simp only [lZ]); omega)) only [aZ,aM,kS,kr,kh,hhl,hha]
            refine hds.mono ?_
            rintro r H' ⟨rfl,a4,P4,T4⟩
            have hM4 : Mid H p ad H' a4 (dsK p s1 (m+1)):=by
              refine hM0.next ?_ T4
              simp only [dsK,disA]; rw [hh0,if_neg (by rintro (h | h); exact hb h; rw [hha] at h; cases h)]; exact P4
            refine aret_of ?_
            simp (disch:=((try simp only [lZ]); omega)) only [aZ,aM]
            refine ⟨(m+1,a4,H'),⟨by simp only; omega,hM4⟩,by simp only; omega,?_⟩
            try simp (disch:=((try simp only [lZ]); omega)) only [aZ,aM]
            exact Cut.fg (by simp (disch:=first | omega | simp (disch:=omega) only [aG,aM]) only [fZ,aM,fgl_nil,fgl_cons,or_true,true_or])
      · have hme : m=p.ms.length:=by omega
        have hse:=blk_self kE
        have lE:=blkAt_lt kE
        rw [hme] at kP
        simp (disch:=((try simp only [lZ]); omega)) only [aZ,aM,kE,hse,r_plant_state_step]
        exact post2 (R:=fun r H'=>r=.v (.int .i64 0)∧∃ ad' : Ad,PM H' p ad' (stpS p s)∧Tr p H ad H' ad') ⟨rfl,a3,by unfold stpS; rw [hs1]; exact kP,kT⟩
end Go.Proofs.Ytcppaddgclkekaa
