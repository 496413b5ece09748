/- Lemmas and walks that the proof of TopControlPlant uses. No statement is claimed here. -/
import Derived.Test.YtdkoindoljngmaaGreatTopControlPlantZap
namespace Go.Proofs.YtdkoindoljngmaaGreat
open Go Go.Lft
set_option linter.unusedSimpArgs false
set_option linter.unusedVariables false
attribute [local congr] ob_congr bw_congr ib_congr ck_congr iwA_congr itA_congr aw_congr awp_congr sqA_congr bkA_congr vr_congr gd_congr
theorem VR.fs0 {P : Program} {kp : Bool} {f : Nat} {w : Bool} {l : List A} {H : List Blk} {R : A→List Blk→Prop} (h : ∀ (a : Option Addr) (c : Nat),VR P kp f (.v (.slice a 0 c) :: l) H R) : VR P kp f (.fs w [] :: l) H R:=fun c vs hH hs hr=>by
  obtain ⟨x,xs,rfl,h1,h2⟩:=hr.uncons
  cases h1 with
  | fs0 w a cp=>exact h a cp c _ hH hs (RL.cons (.v _) h2)
  | fs w l b o cp k f e1 e2 e3=>exact h (some ⟨b,o,none⟩) cp c _ hH hs (RL.cons (.v _) h2)
theorem cloneR_vr {w : Bool} (xs : List Int) (h : xs.length≤1000) : VR P false n_slices_Cloneint_int [.fs w (ints xs)] [] (isR (.fs true (ints xs))):=by
  cases xs with
  | nil =>
    refine VR.fs0 fun a c=>?_
    refine vr_slices_Cloneint_int (by simp) (.inr rfl) fun _ _=>?_
    cases a with
    | none =>
      have he : eqsA false (.v (.slice none 0 c)) (.v (.slice none 0 0))=some (.v (.bool true)):=rfl
      simp (disch:=((try simp only [lZ]); omega)) only [aZ,aM,s_slices_Cloneint_int,v_slices_Cloneint_int,r_slices_Cloneint_int,he]
      exact post0 (fz_nil _ _) ⟨rfl,rfl⟩
    | some a =>
      have he : eqsA false (.v (.slice (some a) 0 c)) (.v (.slice none 0 0))=some (.v (.bool false)):=rfl
      have hn : ∀ H size,newsA H size (.v (.slice (some a) 0 c))=some (0,[]):=fun _ _=>rfl
      simp (disch:=((try simp only [lZ]); omega)) only [aZ,aM,s_slices_Cloneint_int,v_slices_Cloneint_int,r_slices_Cloneint_int,he,hn]
      exact post0 (fz_slI 0 _ 0 1 0 [] (by omega) rfl (by simp (disch:=((try simp only [lZ]); omega)) only [aZ,aM]; rfl)) ⟨rfl,rfl⟩
  | cons x xs =>
    refine vr_slices_Cloneint_int (by simp) (.inr rfl) fun _ _=>?_
    have he : eqsA false (.fs w (ints (x :: xs))) (.v (.slice none 0 0))=some (.v (.bool false)):=by simp only [eqsA]; rw [if_neg (by rw [ii_len]; simp)]
    generalize hl : x :: xs=l at *
    simp (disch:=((try simp only [lZ]); omega)) only [aZ,aM,s_slices_Cloneint_int,v_slices_Cloneint_int,r_slices_Cloneint_int,he]
    exact post0 (fz_slI 0 _ 0 1 _ l (by omega) rfl (by simp (disch:=((try simp only [lZ]); omega)) only [aZ,aM])) ⟨rfl,rfl⟩
theorem bts_flat (l : List Bt) : flatA 4 (bts l)=some (l.flatMap btC):=by
  induction l with
  | nil=>rfl
  | cons b l ih =>
    rw [show bts (b :: l)=btA b :: bts l from rfl,flat_cons 4 _ _ (btC b) rfl rfl,ih]; rfl
theorem btC_one (l : List Bt) : (l.flatMap btC).all A.one=true:=by
  rw [List.all_eq_true]
  intro a ha
  obtain ⟨b,_,hb⟩:=List.mem_flatMap.1 ha
  simp only [btC,List.mem_cons,List.not_mem_nil,or_false] at hb
  rcases hb with rfl | rfl | rfl | rfl<;>rfl
theorem btC_len (l : List Bt) : (l.flatMap btC).length=l.length*4:=by
  induction l with
  | nil=>rfl
  | cons b l ih=>rw [List.flatMap_cons,List.length_append,ih]; simp [btC]; omega
theorem btC_bd (n : Nat) (l : List Bt) : A.bdL n (l.flatMap btC)=true:=bdL_mem fun a ha=>by
  obtain ⟨b,_,hb⟩:=List.mem_flatMap.1 ha
  simp only [btC,List.mem_cons,List.not_mem_nil,or_false] at hb
  rcases hb with rfl | rfl | rfl | rfl<;>rfl
theorem cloneT_vr {w : Bool} (xs : List Bt) (h : xs.length≤100000) : VR P false n_slices_Cloneapi_Belt_api_Belt [.fs w (bts xs)] [] (isR (.fs true (bts xs))):=by
  cases xs with
  | nil =>
    refine VR.fs0 fun a c=>?_
    refine vr_slices_Cloneapi_Belt_api_Belt (by simp) (.inr rfl) fun _ _=>?_
    cases a with
    | none =>
      have he : eqsA false (.v (.slice none 0 c)) (.v (.slice none 0 0))=some (.v (.bool true)):=rfl
      simp (disch:=((try simp only [lZ]); omega)) only [aZ,aM,s_slices_Cloneapi_Belt_api_Belt,v_slices_Cloneapi_Belt_api_Belt,r_slices_Cloneapi_Belt_api_Belt,he]
      exact post0 (fz_nil _ _) ⟨rfl,rfl⟩
    | some a =>
      have he : eqsA false (.v (.slice (some a) 0 c)) (.v (.slice none 0 0))=some (.v (.bool false)):=rfl
      have hn : ∀ H size,newsA H size (.v (.slice (some a) 0 c))=some (0,[]):=fun _ _=>rfl
      simp (disch:=((try simp only [lZ]); omega)) only [aZ,aM,s_slices_Cloneapi_Belt_api_Belt,v_slices_Cloneapi_Belt_api_Belt,r_slices_Cloneapi_Belt_api_Belt,he,hn]
      exact post0 (Fz.sl (l:=[]) (r:=[]) (els:=[]) (by omega) (by simp (disch:=((try simp only [lZ]); omega)) only [aZ,aM]) trivial rfl rfl (by simp)) ⟨rfl,rfl⟩
  | cons x xs =>
    refine vr_slices_Cloneapi_Belt_api_Belt (by simp) (.inr rfl) fun _ _=>?_
    have he : eqsA false (.fs w (bts (x :: xs))) (.v (.slice none 0 0))=some (.v (.bool false)):=by simp only [eqsA]; rw [if_neg (by rw [bt_len]; simp)]
    generalize hl : x :: xs=l at *
    have hn : ∀ H,newsA H 4 (.fs w (bts l))=some (l.length,l.flatMap btC):=fun H=>by simp only [newsA,bts_flat,Option.bind_some,btC_one,if_true,bt_len]
    simp (disch:=((try simp only [lZ]); omega)) only [aZ,aM,s_slices_Cloneapi_Belt_api_Belt,v_slices_Cloneapi_Belt_api_Belt,r_slices_Cloneapi_Belt_api_Belt,he,hn]
    exact post0 (Fz.sl (r:=l.flatMap btC) (els:=bts l) (by omega) (by simp (disch:=((try simp only [lZ]); omega)) only [aZ,aM]) (FzL.refl (btC_bd _ _)) (by rw [bts_flat,List.drop_zero,List.take_of_length_le (by rw [btC_len]; omega)]) (bt_len _) (by rw [btC_len]; omega)) ⟨rfl,rfl⟩
def mxF (m : Mc) : A:=.fs true (rows true m)
def mxC (l : List Mc) (n : Nat) : List A:=l.map mxF++List.replicate (n - l.length) nilS
def mxE (l : List Mc) (x : A) (n : Nat) : List A:=l.map mxF++x :: List.replicate (n - (l.length+1)) nilS
theorem mxC_len (l : List Mc) (n : Nat) (h : l.length≤n) : (mxC l n).length=n:=by simp [mxC]; omega
theorem mxE_len (l : List Mc) (x : A) (n : Nat) (h : l.length < n) : (mxE l x n).length=n:=by simp [mxE]; omega
theorem mxC_E (l : List Mc) (n : Nat) (h : l.length < n) : mxC l n=mxE l nilS n:=by
  unfold mxC mxE
  rw [show n - l.length=(n - (l.length+1))+1 by omega,List.replicate_succ]
theorem mxE_nth (l : List Mc) (x : A) (n k : Nat) (h : k=l.length) : nthA (mxE l x n) k=some x:=by
  subst h
  rw [nthA_get]
  unfold mxE
  rw [List.getElem?_append_right (by simp)]; simp
theorem mxE_set (l : List Mc) (x y : A) (n k : Nat) (h : k=l.length) : (mxE l x n).set k y=mxE l y n:=by
  subst h
  unfold mxE
  rw [List.set_append_right _ _ (by simp)]; simp
theorem mxE_spl (l : List Mc) (x y : A) (n k : Nat) (h : k=l.length) : splA (mxE l x n) k [y]=mxE l y n:=by
  rw [spl_one,mxE_set _ _ _ _ _ h]
  unfold mxE; simp; omega
theorem mxE_C (l : List Mc) (m : Mc) (n : Nat) : mxE l (mxF m) n=mxC (l++[m]) n:=by simp [mxE,mxC]
theorem mxF_bd (n : Nat) (l : List Mc) : A.bdL n (l.map mxF)=true:=bdL_mem fun a ha=>by
  obtain ⟨m,_,rfl⟩:=List.mem_map.1 ha
  simp [mxF,A.bd,r_bd]
theorem nil_bd (n k : Nat) : A.bdL n (List.replicate k nilS)=true:=bdL_mem fun a ha=>by
  rw [(List.mem_replicate.1 ha).2]; rfl
theorem mxE_fz (m : Nat) (H : List Blk) (l : List Mc) (x y : A) (n : Nat) (h : Fz m H x y) : FzL m H (mxE l x n) (mxE l y n) :=
  FzL.cat (FzL.refl (mxF_bd _ _)) ⟨h,FzL.refl (nil_bd _ _)⟩
theorem mcs_flat (l : List Mc) : flatA 1 (mcs true l)=some (l.map mxF):=by
  induction l with
  | nil=>rfl
  | cons m l ih =>
    rw [show mcs true (m :: l)=mcA true m :: mcs true l from rfl,flat_cons 1 _ _ [mxF m] rfl rfl,ih]; rfl
theorem copied_vr {w v : Bool} (p : Pl) (hp : pcheck p=0) : VR P false n_plant_copied [plA w v p] [] (isR (plA true true p)):=by
  refine vr_plant_copied (by simp) (.inr rfl) fun _ _=>?_
  have ok:=pcheck_ok hp
  have n2:=ok.n2
  have b2:=ok.b2
  have e0 : repA p.ms.length [nilS]=mxC [] p.ms.length:=by rw [repA_one]; simp [mxC]
  unfold nilS at e0
  unfold plA plC
  simp (disch:=((try simp only [lZ]); omega)) only [aZ,aM,s_plant_copied,v_plant_copied,e0]
  refine AWP.loopP g_plant_copied_0 (fun k : Nat=>k≤p.ms.length) (fun k=>[(4,.v (.int .i64 k))]) (fun k=>[(2,⟨0,mxC (p.ms.take k) p.ms.length⟩)]) (fun k=>p.ms.length - k) 0 (by omega) ?_ ?_
  · rw [List.take_zero]
    exact Cut.fg (by simp (disch:=first | omega | simp (disch:=omega) only [aG,aM]) only [fZ,aM,fgl_nil,fgl_cons,or_true,true_or])
  rintro k hk
  have hkl : (p.ms.take k).length=k:=by simp; omega
  by_cases hlt : k < p.ms.length
  · have mcl:=mxC_len (p.ms.take k) p.ms.length (by omega)
    have mx0:=mxC_E (p.ms.take k) p.ms.length (by omega)
    have mel:=fun x=>mxE_len (p.ms.take k) x p.ms.length (by omega)
    have men:=fun x=>mxE_nth (p.ms.take k) x p.ms.length k hkl.symm
    have mes:=fun x y=>mxE_set (p.ms.take k) x y p.ms.length k hkl.symm
    have mep:=fun x y=>mxE_spl (p.ms.take k) x y p.ms.length k hkl.symm
    have hmo:=ok.mc _ (mem_get [] hlt)
    have hml:=hmo.len
    have hm2:=hmo.m2
    unfold nilS at *
    simp (disch:=((try simp only [lZ]); omega)) only [aZ,aM,mx0,mel]
    refine AWP.cut (Cut.virtB 2 0 k 1 rfl (by rw [← nthA_get]; exact men _)) ?_
    simp (disch:=((try simp only [lZ]); omega)) only [aZ,aM,mes]
    refine AWP.loopP g_plant_copied_1 (fun j : Nat=>j≤(p.ms.getD k []).length) (fun j=>[(10,.v (.int .i64 j))]) (fun j=>[(2,⟨0,mxE (p.ms.take k) (.vs 4 j 1 j) p.ms.length⟩),(4,⟨j,rows true ((p.ms.getD k []).take j)⟩)]) (fun j=>(p.ms.getD k []).length - j) 0 (by omega) ?_ ?_
    · rw [List.take_zero]
      exact Cut.fg (by simp (disch:=first | omega | simp (disch:=omega) only [aG,aM]) only [fZ,aM,fgl_nil,fgl_cons,or_true,true_or])
    rintro j hj
    by_cases hjt : j < (p.ms.getD k []).length
    · have hro:=hmo.row _ (mem_get [] hjt)
      simp (disch:=((try simp only [lZ]); omega)) only [aZ,aM,mel,men]
      refine (cloneR_vr (w:=w) ((p.ms.getD k []).getD j []) (by omega)).same (by simp (disch:=first | omega | simp (disch:=omega) only [aG,aM]) only [fZ,aM]) (by simp (disch:=first | omega | simp (disch:=omega) only [aG,aM]) only [fZ,aM]) (aret_of ?_)
      have ht : List.take j (List.take j (p.ms.getD k []))++[List.getD (p.ms.getD k []) j []]=List.take (j+1) (p.ms.getD k []):=by rw [List.take_take,Nat.min_self,take_succ_get' _ _ _ hjt]
      have hrl : (rows true ((p.ms.getD k []).take j)).length=j:=by rw [r_len,List.length_take]; omega
      simp (disch:=((try simp only [lZ]); omega)) only [aZ,aM,mel,men,mep,hrl,ht]
      refine ⟨j+1,by omega,by omega,?_⟩
      try simp (disch:=((try simp only [lZ]); omega)) only [aZ,aM]
      exact Cut.of' 5 rfl (by omega) (by simp (disch:=first | omega | simp (disch:=omega) only [aG,aM]) only [fZ,aM,fun H=>eq_true (mxE_fz 5 H (p.ms.take k) (.vs 4 (j+1) 1 (j+1)) _ p.ms.length (Fz.refl rfl))]) (by simp (disch:=first | omega | simp (disch:=omega) only [aG,aM]) only [fZ,aM])
    · have hje : j=(p.ms.getD k []).length:=by omega
      subst hje
      rw [List.take_length]
      have hmc : mxE (p.ms.take k) (mxF (p.ms.getD k [])) p.ms.length=mxC (p.ms.take (k+1)) p.ms.length:=by rw [mxE_C,← take_succ_get' _ _ _ hlt]
      simp (disch:=((try simp only [lZ]); omega)) only [aZ,aM]
      refine ⟨k+1,by omega,by omega,?_⟩
      rw [← hmc]
      refine Cut.of' 3 rfl (by omega) ⟨rfl,by simp (disch:=first | omega | simp (disch:=omega) only [aG,aM]) only [fZ,aM],rfl,by simp (disch:=first | omega | simp (disch:=omega) only [aG,aM]) only [fZ,aM],rfl,mxE_fz _ _ _ _ _ _ (fz_vsR 3 _ 4 _ _ _ (by omega) rfl (by simp (disch:=((try simp only [lZ]); omega)) only [aZ,aM])),trivial⟩ (by simp (disch:=first | omega | simp (disch:=omega) only [aG,aM]) only [fZ,aM])
  · have hke : k=p.ms.length:=by omega
    subst hke
    rw [List.take_length]
    simp (disch:=((try simp only [lZ]); omega)) only [aZ,aM]
    refine (cloneT_vr (w:=v) p.bs (by omega)).same (by simp (disch:=first | omega | simp (disch:=omega) only [aG,aM]) only [fZ,aM]) (by simp (disch:=first | omega | simp (disch:=omega) only [aG,aM]) only [fZ,aM]) (aret_of ?_)
    simp (disch:=((try simp only [lZ]); omega)) only [aZ,aM,r_plant_copied]
    have hmx : mxC p.ms p.ms.length=p.ms.map mxF:=by simp [mxC]
    rw [hmx]
    exact post0 (r:=plA true true p) (Fz.agg ⟨Fz.refl rfl,Fz.sl (l:=p.ms.map mxF) (r:=p.ms.map mxF) (els:=mcs true p.ms) (by omega) (by simp (disch:=((try simp only [lZ]); omega)) only [aZ,aM]) (FzL.refl (mxF_bd _ _)) (by rw [mcs_flat,List.drop_zero,List.take_of_length_le (by simp)]) (mc_len _ _) (by simp),Fz.refl (by simp (disch:=first | omega | simp (disch:=omega) only [aG,aM]) only [fZ,aM]),Fz.refl rfl,trivial⟩) ⟨rfl,rfl⟩
def newS (p : Pl) : Sy:={bef:=fun _=>zeros p.mt,fst:=fun _=>zeros p.mt,pos:=fun _=>0,rng:=fun _ _=>zeros p.mt,hal:=List.replicate p.ms.length false,fed:=zeros p.mt}
theorem sm_zero (n : Nat) : sm n (fun _=>(0 : Int))=0:=by
  induction n with
  | zero=>rfl
  | succ n ih=>simp only [sm,ih]; rfl
theorem new_tot (p : Pl) (x : Nat) : tot p (newS p) x=0:=by
  unfold tot befT fstT rngT newS
  simp only [zeros_get,sm_zero]; rfl
theorem Gd.new (p : Pl) : Gd p (newS p) :=
  ⟨fun m _=>⟨(zeros_ok _).1,fun x=>by simp only [newS]; rw [zeros_get]; omega⟩,fun i _=>⟨(zeros_ok _).1,fun x=>by simp only [newS]; rw [zeros_get]; omega⟩,fun i _ q _=>⟨(zeros_ok _).1,fun x=>by simp only [newS]; rw [zeros_get]; omega⟩,
    fun i _ h=>h,by simp [newS],zeros_ok _,fun x=>by rw [new_tot]; omega⟩
def usK (p : Pl) (k b : Nat) : Pc→Bool
  | .root=>true | .bef=>true | .bel=>true | .hal=>true | .fed=>true
  | .bm m=>decide (m < k)
  | .fi i=>decide (i < b)
  | .re i=>decide (i < b) && decide (0 < p.rl i)
  | .ri i q=>decide (i < b) && decide (q < p.rl i)
theorem usK_all (p : Pl) : usK p p.ms.length p.bs.length=usd p:=by funext c; cases c<;>rfl
def befK (p : Pl) (k : Nat) (ad : Ad) : List A:=(List.range k).map fun m=>slA (ad (.bm m)) p.mt
def belsK (p : Pl) (b : Nat) (ad : Ad) : List A:=(List.range b).flatMap (cvC p ad)
def rootK (p : Pl) (k b : Nat) (ad : Ad) : List A:=[.v (.int .i64 p.mt),.fs true (mcs true p.ms),.fs true (bts p.bs),.v (.int .i64 p.fd),.vs (ad .bef).1 (ad .bef).2 1 k,.vs (ad .bel).1 (ad .bel).2 2 b,slA (ad .hal) p.ms.length,slA (ad .fed) p.mt]
def ctK (p : Pl) (k b : Nat) (ad : Ad) : Pc→List A
  | .root=>rootK p k b ad
  | .bef=>befK p k ad
  | .bel=>belsK p b ad
  | .hal=>bools (List.replicate p.ms.length false)
  | .fed=>ints (zeros p.mt)
  | .bm _=>ints (zeros p.mt)
  | .fi _=>ints (zeros p.mt)
  | .re i=>belC (p.rl i) p.mt 0 fun q=>ad (.ri i q)
  | .ri _ _=>ints (zeros p.mt)
structure PN (n : Nat) (K : List Blk) (p : Pl) (k b : Nat) (ad : Ad) : Prop where
  get : ∀ c,usK p k b c=true→blkAt K (ad c).1 (ad c).2=some (ctK p k b ad c)
  inj : ∀ c d,usK p k b c=true→usK p k b d=true→(ad c).1=(ad d).1→c=d
  zr : (ad .root).2=0∧∀ i,(ad (.re i)).2=0
  hi : ∀ c,usK p k b c=true→n < (ad c).1
theorem PN.lt {n : Nat} {K : List Blk} {p : Pl} {k b : Nat} {ad : Ad} (h : PN n K p k b ad) {c : Pc} (hc : usK p k b c=true) : (ad c).1 < K.length:=blkAt_lt (h.get c hc)
theorem PN.ne {n : Nat} {K : List Blk} {p : Pl} {k b : Nat} {ad : Ad} (h : PN n K p k b ad) {c d : Pc} (hc : usK p k b c=true) (hd : usK p k b d=true) (hn : c≠d) : (ad c).1≠(ad d).1:=fun he=>hn (h.inj c d hc hd he)
theorem PN.rt {n : Nat} {K : List Blk} {p : Pl} {k b : Nat} {ad : Ad} (h : PN n K p k b ad) : blkAt K (ad .root).1 0=some (rootK p k b ad):=by have:=h.get .root rfl; rw [h.zr.1] at this; exact this
theorem PN.next {n : Nat} {K K' : List Blk} {p : Pl} {k b k' b' : Nat} {ad ad' : Ad} (h : PN n K p k b ad) (hr : ad' .root = ad .root) (hz : ∀ i, (ad' (.re i)).2 = 0)
    (hold : ∀ c,usK p k b c=true→(ad' c).1=(ad c).1) (hnew : ∀ c,usK p k' b' c=true→usK p k b c=false→K.length≤(ad' c).1)
    (hin : ∀ c d,usK p k' b' c=true→usK p k' b' d=true→usK p k b c=false→usK p k b d=false→(ad' c).1=(ad' d).1→c=d)
    (hget : ∀ c,usK p k' b' c=true→blkAt K' (ad' c).1 (ad' c).2=some (ctK p k' b' ad' c)) : PN n K' p k' b' ad':=by
  refine ⟨hget,fun c d hc hd he=>?_,⟨by rw [hr]; exact h.zr.1,hz⟩,fun c hc=>?_⟩
  · cases uc : usK p k b c with
    | false =>
      cases ud : usK p k b d with
      | false=>exact hin c d hc hd uc ud he
      | true =>
        have h1:=hnew c hc uc
        have h2:=h.lt ud
        have h3:=hold d ud
        omega
    | true =>
      cases ud : usK p k b d with
      | false =>
        have h1:=hnew d hd ud
        have h2:=h.lt uc
        have h3:=hold c uc
        omega
      | true=>exact h.inj c d uc ud (by rw [← hold c uc,← hold d ud,he])
  · cases uc : usK p k b c with
    | false =>
      have h1:=hnew c hc uc
      have h2:=h.lt (c:=.root) rfl
      have h3:=h.hi .root rfl
      omega
    | true=>rw [hold c uc]; exact h.hi c uc
theorem blk_ta {K T : List Blk} {i1 i2 j : Nat} {B1 B2 : Blk} {l L : Nat} (hL : L=K.length) : blkAt ((K.set i1 B1).set i2 B2++T) (L+j) l=blkAt T j l:=by
  subst hL
  have:=blkAt_new ((K.set i1 B1).set i2 B2) T j l
  simpa using this
theorem blk_to {K T : List Blk} {i1 i2 j l : Nat} {B1 B2 : Blk} {x : List A} (h : blkAt K j l=some x) (h1 : j≠i1) (h2 : j≠i2) : blkAt ((K.set i1 B1).set i2 B2++T) j l=some x:=by
  rw [blkAt_app _ _ _ _ (by simp; exact blkAt_lt h),blkAt_set_ne _ _ _ _ _ h2,blkAt_set_ne _ _ _ _ _ h1]; exact h
theorem blk_t1 {K T : List Blk} {i1 i2 v : Nat} {B2 : Blk} {x : List A} (h : i1 < K.length) (h2 : i1≠i2) : blkAt ((K.set i1 ⟨v,x⟩).set i2 B2++T) i1 v=some x:=by
  rw [blkAt_app _ _ _ _ (by simp; exact h),blkAt_set_ne _ _ _ _ _ h2]; exact blkAt_set_same _ _ _ _ h
theorem blk_t2 {K T : List Blk} {i1 i2 v : Nat} {B1 : Blk} {x : List A} (h : i2 < K.length) : blkAt ((K.set i1 B1).set i2 ⟨v,x⟩++T) i2 v=some x:=by
  rw [blkAt_app _ _ _ _ (by simp; exact h)]; exact blkAt_set_same _ _ _ _ (by simpa using h)
theorem gr_t {K T : List Blk} {n i1 i2 : Nat} {B1 B2 : Blk} (h1 : n < i1) (h2 : n < i2) : Gr (fun i=>n < i) K ((K.set i1 B1).set i2 B2++T) :=
  ⟨by simp,fun i ver hi hn=>by
    have hn' : ¬ n < i:=hn
    rw [blkAt_app _ _ _ _ (by simp; exact hi),blkAt_set_ne _ _ _ _ _ (by omega),blkAt_set_ne _ _ _ _ _ (by omega)]⟩
def adM (ad : Ad) (L k : Nat) : Ad
  | .bm m=>if m=k then (L,0) else ad (.bm m)
  | .bef=>((ad .bef).1,(ad .bef).2+1)
  | c=>ad c
def adT (ad : Ad) (L b : Nat) : Ad
  | .fi i=>if i=b then (L+1,0) else ad (.fi i)
  | .re i=>if i=b then (L+3,0) else ad (.re i)
  | .ri i q=>if i=b then (L+(4+q),0) else ad (.ri i q)
  | .bel=>((ad .bel).1,(ad .bel).2+1)
  | c=>ad c
theorem befK_app (p : Pl) (k : Nat) (ad : Ad) (L : Nat) : befK p k ad++[.sl L 0 1 0 p.mt]=befK p (k+1) (adM ad L k):=by
  unfold befK
  rw [List.range_succ,List.map_append]
  congr 1
  · refine List.map_congr_left fun m hm=>?_
    have : m < k:=List.mem_range.1 hm
    simp only [adM]; rw [if_neg (by omega)]
  · simp [adM,slA]
theorem befK_len (p : Pl) (k : Nat) (ad : Ad) : (befK p k ad).length=k:=by simp [befK]
theorem belsK_app (p : Pl) (b : Nat) (ad : Ad) (L : Nat) : belsK p b ad++[.sl (L+1) 0 1 0 p.mt,if 0 < p.rl b then .lp (L+3) 0 0 else .v (.pointer none)]=belsK p (b+1) (adT ad L b):=by
  unfold belsK
  rw [List.range_succ,List.flatMap_append]
  congr 1
  · rw [List.flatMap_def,List.flatMap_def]
    congr 1
    refine List.map_congr_left fun m hm=>?_
    have : m < b:=List.mem_range.1 hm
    simp only [adT,cvC,if_neg (show ¬ m=b by omega)]
  · simp [adT,slA,cvC]
theorem belsK_len (p : Pl) (b : Nat) (ad : Ad) : (belsK p b ad).length=b*2:=flat2_len _ (cvC_len p ad) _
theorem PN.addM {n : Nat} {K : List Blk} {p : Pl} {k : Nat} {ad : Ad} (h : PN n K p k 0 ad) (T : List Blk) (hT : blkAt T 0 0 = some (ints (zeros p.mt))) :
    PN n ((K.set (ad .bef).1 ⟨(ad .bef).2+1,befK p (k+1) (adM ad K.length k)⟩).set (ad .root).1 ⟨0,rootK p (k+1) 0 (adM ad K.length k)⟩++T) p (k+1) 0 (adM ad K.length k):=by
  have nb:=h.ne (c:=.bef) (d:=.root) rfl rfl (by simp)
  have lb:=h.lt (c:=.bef) rfl
  have lr:=h.lt (c:=.root) rfl
  have ub : ∀ m,usK p k 0 (.bm m)=true→m≠k:=fun m hm=>by simp [usK] at hm; omega
  refine h.next rfl (fun i=>h.zr.2 i) (fun c hc=>?_) (fun c hc hn=>?_) (fun c d hc hd hcn hdn he=>?_) (fun c hc=>?_)
  · cases c with
    | bm m=>simp only [adM]; rw [if_neg (ub m hc)]
    | _=>rfl
  · cases c with
    | bm m =>
      simp [usK] at hc hn
      simp only [adM]; rw [if_pos (by omega)]; exact Nat.le_refl _
    | _=>simp_all [usK]
  · cases c with
    | bm m =>
      cases d with
      | bm m'=>simp [usK] at hc hd hcn hdn; congr 1; omega
      | _=>simp_all [usK]
    | _=>simp_all [usK]
  · cases c with
    | bm m =>
      simp only [adM]
      by_cases e : m=k
      · rw [if_pos e]
        have:=blk_ta (K:=K) (T:=T) (i1:=(ad .bef).1) (i2:=(ad .root).1) (B1:=⟨(ad .bef).2+1,befK p (k+1) (adM ad K.length k)⟩) (B2:=⟨0,rootK p (k+1) 0 (adM ad K.length k)⟩) (j:=0) (l:=0) rfl
        rw [Nat.add_zero] at this
        exact this.trans hT
      · rw [if_neg e]
        have hu : usK p k 0 (.bm m)=true:=by simp [usK] at hc ⊢; omega
        exact blk_to (h.get _ hu) (h.ne hu rfl (by simp)) (h.ne hu rfl (by simp))
    | bef=>exact blk_t1 lb nb
    | root=>simp only [adM]; rw [h.zr.1]; exact blk_t2 lr
    | bel=>exact blk_to (h.get .bel rfl) (h.ne rfl rfl (by simp)) (h.ne rfl rfl (by simp))
    | hal=>exact blk_to (h.get .hal rfl) (h.ne rfl rfl (by simp)) (h.ne rfl rfl (by simp))
    | fed=>exact blk_to (h.get .fed rfl) (h.ne rfl rfl (by simp)) (h.ne rfl rfl (by simp))
    | _=>simp [usK] at hc
theorem PN.addT {n : Nat} {K : List Blk} {p : Pl} {k b : Nat} {ad : Ad} (h : PN n K p k b ad) (T : List Blk) (hT : blkAt T 1 0 = some (ints (zeros p.mt)))
    (hR : 0 < p.rl b→blkAt T 3 0=some (belC (p.rl b) p.mt 0 (fun q=>(K.length+(4+q),0)))∧∀ q,q < p.rl b→blkAt T (4+q) 0=some (ints (zeros p.mt))) :
    PN n ((K.set (ad .bel).1 ⟨(ad .bel).2+1,belsK p (b+1) (adT ad K.length b)⟩).set (ad .root).1 ⟨0,rootK p k (b+1) (adT ad K.length b)⟩++T) p k (b+1) (adT ad K.length b):=by
  have nb:=h.ne (c:=.bel) (d:=.root) rfl rfl (by simp)
  have lb:=h.lt (c:=.bel) rfl
  have lr:=h.lt (c:=.root) rfl
  refine h.next rfl (fun i=>?_) (fun c hc=>?_) (fun c hc hn=>?_) (fun c d hc hd hcn hdn he=>?_) (fun c hc=>?_)
  · simp only [adT]; split
    · rfl
    · exact h.zr.2 i
  · cases c with
    | fi i=>simp only [usK,decide_eq_true_eq] at hc; simp only [adT]; rw [if_neg (by omega)]
    | re i=>simp only [usK,Bool.and_eq_true,decide_eq_true_eq] at hc; simp only [adT]; rw [if_neg (by omega)]
    | ri i q=>simp only [usK,Bool.and_eq_true,decide_eq_true_eq] at hc; simp only [adT]; rw [if_neg (by omega)]
    | _=>rfl
  · cases c with
    | fi i =>
      simp [usK] at hc hn
      simp only [adT]; rw [if_pos (by omega)]; simp only; omega
    | re i =>
      simp [usK] at hc hn
      have : i=b:=by
        by_cases e : i < b
        · have:=hn e; omega
        · omega
      simp only [adT]; rw [if_pos this]; simp only; omega
    | ri i q =>
      simp [usK] at hc hn
      have : i=b:=by
        by_cases e : i < b
        · have:=hn e; omega
        · omega
      simp only [adT]; rw [if_pos this]; simp only; omega
    | _=>simp_all [usK]
  · have key : ∀ c, usK p k (b + 1) c = true → usK p k b c = false → c = .fi b ∨ c = .re b ∨ ∃ q, c = .ri b q := fun c hc hn => by
      cases c with
      | fi i=>simp [usK] at hc hn; left; congr 1; omega
      | re i =>
        simp [usK] at hc hn; right; left; congr 1
        by_cases e : i < b
        · have:=hn e; omega
        · omega
      | ri i q =>
        simp [usK] at hc hn; right; right; refine ⟨q,?_⟩; congr 1
        by_cases e : i < b
        · have:=hn e; omega
        · omega
      | _=>simp_all [usK]
    rcases key c hc hcn with rfl | rfl | ⟨q,rfl⟩<;>rcases key d hd hdn with rfl | rfl | ⟨q',rfl⟩<;>simp only [adT,if_true] at he<;>first | rfl | omega | (congr 1; omega)
  · cases c with
    | fi i =>
      simp only [adT]
      by_cases e : i=b
      · rw [if_pos e]; exact (blk_ta rfl).trans hT
      · rw [if_neg e]
        have hu : usK p k b (.fi i)=true:=by simp [usK] at hc ⊢; omega
        exact blk_to (h.get _ hu) (h.ne hu rfl (by simp)) (h.ne hu rfl (by simp))
    | re i =>
      simp only [adT]
      simp only [usK,Bool.and_eq_true,decide_eq_true_eq] at hc
      by_cases e : i=b
      · subst e
        rw [if_pos rfl]
        simp only [ctK,adT,if_true]
        exact (blk_ta rfl).trans (hR hc.2).1
      · rw [if_neg e]
        have hu : usK p k b (.re i)=true:=by simp [usK]; omega
        have:=blk_to (T:=T) (B1:=⟨(ad .bel).2+1,belsK p (b+1) (adT ad K.length b)⟩) (B2:=⟨0,rootK p k (b+1) (adT ad K.length b)⟩) (h.get _ hu) (h.ne hu (d:=.bel) rfl (by simp)) (h.ne hu (d:=.root) rfl (by simp))
        simp only [ctK,adT] at this ⊢
        simp only [if_neg e]
        exact this
    | ri i q =>
      simp only [adT]
      simp only [usK,Bool.and_eq_true,decide_eq_true_eq] at hc
      by_cases e : i=b
      · subst e
        rw [if_pos rfl]
        exact (blk_ta rfl).trans ((hR (by omega)).2 q hc.2)
      · rw [if_neg e]
        have hu : usK p k b (.ri i q)=true:=by simp [usK]; omega
        exact blk_to (h.get _ hu) (h.ne hu rfl (by simp)) (h.ne hu rfl (by simp))
    | bel=>exact blk_t1 lb nb
    | root=>simp only [adT]; rw [h.zr.1]; exact blk_t2 lr
    | bef=>exact blk_to (h.get .bef rfl) (h.ne rfl rfl (by simp)) (h.ne rfl rfl (by simp))
    | hal=>exact blk_to (h.get .hal rfl) (h.ne rfl rfl (by simp)) (h.ne rfl rfl (by simp))
    | fed=>exact blk_to (h.get .fed rfl) (h.ne rfl rfl (by simp)) (h.ne rfl rfl (by simp))
    | bm m =>
      have hu : usK p k b (.bm m)=true:=hc
      exact blk_to (h.get _ hu) (h.ne hu rfl (by simp)) (h.ne hu rfl (by simp))
def ad0 (n : Nat) : Ad
  | .root=>(n+2,0) | .hal=>(n+1,0) | .fed=>(n+3,0) | .bef=>(n+4,0) | .bel=>(n+5,0)
  | _=>(0,0)
theorem PN.init (H : List Blk) (p : Pl) (B : Blk) : PN H.length (H++[B,⟨0,bools (List.replicate p.ms.length false)⟩,⟨0,rootK p 0 0 (ad0 H.length)⟩,⟨0,ints (zeros p.mt)⟩,⟨0,[]⟩,⟨0,[]⟩]) p 0 0 (ad0 H.length):=by
  refine ⟨fun c hc=>?_,fun c d hc hd he=>?_,⟨rfl,fun i=>rfl⟩,fun c hc=>?_⟩
  · cases c<;>first | (simp [usK] at hc; done) | (simp only [ad0]; rw [blkAt_new]; rfl)
  · cases c<;>first | (simp [usK] at hc; done) | (cases d<;>first | rfl | (simp [usK] at hd; done) | (simp only [ad0] at he; omega))
  · cases c<;>first | (simp [usK] at hc; done) | (simp only [ad0]; omega)
theorem bel_sh (n len mat : Nat) : A.shL n (belC len mat 0 (newA 1))=belC len mat 0 (newA (n+1)):=by
  rw [shL_map]
  unfold belC belK ringC
  rw [List.map_append,List.map_map]
  congr 1
  refine List.map_congr_left fun q _=>?_
  simp only [Function.comp,newA]
  split
  · simp only [A.sh]; congr 1; omega
  · rfl
theorem bel_cl (len mat : Nat) (ad : Nat→Nat×Nat) : A.clL (belC len mat 0 ad)=true:=clL_iff.2 fun a ha=>by
  rcases List.mem_append.1 ha with h | h
  · obtain ⟨q,_,rfl⟩:=List.mem_map.1 h
    split<;>rfl
  · simp only [List.mem_cons,List.not_mem_nil,or_false] at h
    rcases h with rfl | rfl | rfl<;>rfl
def beltN (n len mat : Nat) : List Blk:=⟨0,belC len mat 0 (newA (n+1))⟩ :: List.replicate len ⟨0,ints (zeros mat)⟩
theorem bnew_ps {kp : Bool} {H : List Blk} {mat len : Nat} (h1 : 1≤len) (h16 : len≤16) (hm : 1≤mat∧mat≤16) : VR P kp n_belt_New [.v (.int .i64 len),.v (.int .i64 mat)] H (fun r H'=>r=.tup [.lp H.length 0 0,.v (.int .i64 0)]∧H'=H++beltN H.length len mat):=by
  refine (bnew_vr h1 h16 hm).useO (LdL.refl rfl) ?_ ⟨rfl,?_⟩
  · simp only [Bool.and_eq_true,List.all_eq_true]
    refine ⟨rfl,fun B hB=>?_⟩
    rcases List.mem_cons.1 hB with rfl | h
    · exact bel_cl _ _ _
    · rw [(List.mem_replicate.1 h).2]; exact ii_cl _
  · unfold beltG beltN
    rw [List.map_cons,List.map_replicate]
    simp only [Blk.sh,bel_sh,shL_bd _ (ii_bd 0 _)]
theorem beltN_at (n len mat q : Nat) (h : q < len) : blkAt (beltN n len mat) (1+q) 0=some (ints (zeros mat)):=by
  have : (beltN n len mat)[1+q]?=some ⟨0,ints (zeros mat)⟩:=by
    unfold beltN
    rw [Nat.add_comm 1 q,List.getElem?_cons_succ,List.getElem?_replicate,if_pos h]
  exact blkAt_iff.2 ⟨_,this,rfl,rfl⟩
theorem Rel.cells_vs {g : Bool→Heap} {σ : Nam} {i ver k n : Nat} {v : Value} (hn : 0 < n) (h : Rel g σ (.vs i ver k n) v) : Rel g σ (.sl i ver k 0 n) v:=by
  cases h with
  | vs0=>omega
  | vs i ver k n b s o' cp e1 e2 e3=>exact .sl i ver k 0 n b s o' cp e1 e2 fun hc=>by have:=e3 hc; omega
theorem Cut.cellS {n0 : Nat} {e : List A} {H : List Blk} (i ver j : Nat) {i' v' k n : Nat} {l : List A} (hb : blkAt H i ver=some l) (hj : l[j]?=some (.vs i' v' k n)) (hn : 0 < n) : Cut n0 e H e (H.set i (⟨ver,l.set j (.sl i' v' k 0 n)⟩ : Blk)):=by
  intro c ev hH h0 hs he
  subst hH
  obtain ⟨B,q1,q2,q3⟩:=blkAt_iff.1 hb
  subst q2; subst q3
  rcases hs.blk i B q1 with ⟨_,k0⟩ | ⟨b,s,vs,z,t,f1,f2,f3,f4,f5⟩
  · rw [k0] at hj; simp at hj
  · obtain ⟨x,hx,hxr⟩:=f5.get hj
    have h2:=f5.set j (Rel.cells_vs hn hxr)
    have h3 : vs.set j x=vs:=by
      apply List.ext_getElem?
      intro i
      rw [List.getElem?_set]
      split
      · rename_i hi; subst hi
        rw [if_pos (List.getElem?_eq_some_iff.1 hx).1,hx]
      · rfl
    rw [h3] at h2
    obtain ⟨e1,e2,e3⟩:=St.turn hs n0 q1 (v':=B.ver) (b':=b) (s':=s) (t:=t) (vs:=vs) (z:=z) (Or.inl (And.intro f1 (Nat.le_refl _))) f4 h2
    have h4 : Go.Lft.upd c.h b (.cells (vs++z).toArray t)=c.h:=upd_self f3
    refine ⟨_,rfl,?_,e2,e1,he.mono (fun _=>Ext.refl _) e3⟩
    simp only; exact h4
theorem both_of {A B C : Prop} (ha : C→A) (hb : C→B) (hc : C) : A∧B:=⟨ha hc,hb hc⟩
theorem new_vr {H : List Blk} {w v : Bool} (p : Pl) (hp : chkP p=0) : VR P false n_plant_New [plA w v p] H (fun r H'=>∃ ad : Ad,r=.tup [.lp (ad .root).1 0 0,.v (.int .i64 0)]∧PM H' p ad (newS p)∧Gr nof H H'∧∀ c,usd p c=true→H.length≤(ad c).1):=by
  refine vr_plant_New (by simp) (.inl rfl) fun _ _=>?_
  have hpc:=(chkP_ok hp).1
  have ok:=pcheck_ok hpc
  obtain ⟨m1,m2,m3⟩:=ok.mt1
  have n1:=ok.n1
  have n2:=ok.n2
  have b2:=ok.b2
  have hck:=plantCheck_vr (w:=w) (v:=v) p
  have hcp:=copied_vr (w:=w) (v:=v) p hpc
  rw [hp] at hck
  unfold plA plC at *
  rw [m3] at *
  simp (disch:=((try simp only [lZ]); omega)) only [aZ,aM,s_plant_New,v_plant_New]
  refine hck.same (by simp (disch:=first | omega | simp (disch:=omega) only [aG,aM]) only [fZ,aM]) rfl (aret_of ?_)
  simp (disch:=((try simp only [lZ]); omega)) only [aZ,aM]
  apply both_of
  · intro hc
    refine hcp.same (by simp (disch:=first | omega | simp (disch:=omega) only [aG,aM]) only [fZ,aM]) (by simp (disch:=first | omega | simp (disch:=omega) only [aG,aM]) only [fZ,aM]) (aret_of ?_)
    simp (disch:=((try simp only [lZ]); omega)) only [aZ,aM]
    exact hc
  · intro hc
    refine hcp.same (by simp (disch:=first | omega | simp (disch:=omega) only [aG,aM]) only [fZ,aM]) (by simp (disch:=first | omega | simp (disch:=omega) only [aG,aM]) only [fZ,aM]) (aret_of ?_)
    simp (disch:=((try simp only [lZ]); omega)) only [aZ,aM]
    exact hc
  refine (empty_ps m2 (by simp (disch:=((try simp only [lZ]); omega)) only [aZ,aM]; rfl)).mono ?_
  rintro r H' ⟨rfl,hH⟩
  rw [hH]
  refine aret_of ?_
  simp (disch:=((try simp only [lZ]); omega)) only [aZ,aM]
  refine AWP.cut (Cut.virtB (H.length+2) 0 4 1 (by simp (disch:=((try simp only [lZ]); omega)) only [aZ,aM]; rfl) rfl) ?_
  simp (disch:=((try simp only [lZ]); omega)) only [aZ,aM]
  refine AWP.cut (Cut.virtB (H.length+2) 0 5 2 (by simp (disch:=((try simp only [lZ]); omega)) only [aZ,aM]; rfl) rfl) ?_
  simp (disch:=((try simp only [lZ]); omega)) only [aZ,aM]
  refine AWP.cut (Cut.drop 19) ?_
  simp (disch:=((try simp only [lZ]); omega)) only [aZ,aM]
  generalize hr2 : H.length+(1+1)=r
  have gr0 : ∀ K K' : List Blk,Gr nof H K→Gr (fun i=>H.length < i) K K'→Gr nof H K':=fun K K' h1 h2=>h1.trans h2 fun i hi hf=>by have : H.length < i:=hf; omega
  have pa0 : ∀ (K K' : List Blk) (l : List A),blkAt K H.length 0=some l→Gr (fun i=>H.length < i) K K'→blkAt K' H.length 0=some l:=fun K K' l h1 h2=>h2.at h1 (by simp)
  refine AWP.loopM g_plant_New_0 (fun x : Nat×Ad×List Blk=>x.1≤p.ms.length∧PN H.length x.2.2 p x.1 0 x.2.1∧(x.2.1 .root).1=r∧Gr nof H x.2.2∧blkAt x.2.2 H.length 0=some [.v (.int .i64 p.mt),.fs w (mcs w p.ms),.fs v (bts p.bs),.v (.int .i64 p.fd)]) (fun x=>[(6,.v (.int .i64 x.1))]) (fun x=>x.2.2) (fun x=>p.ms.length - x.1) (0,ad0 H.length,_) ⟨by omega,PN.init H p ⟨0,[.v (.int .i64 p.mt),.fs w (mcs w p.ms),.fs v (bts p.bs),.v (.int .i64 p.fd)]⟩,hr2,Gr.app _ _,by rw [blkAt_new0]; rfl⟩ ?_ ?_
  · exact Cut.fg (by simp (disch:=first | omega | simp (disch:=omega) only [aG,aM]) only [fZ,aM,fgl_nil,fgl_cons,or_true,true_or])
  rintro ⟨k,ad,K⟩ ⟨hk,hP,hr,hG,hB⟩
  simp only at hk hP hr hG hB
  have kr:=hP.rt
  rw [hr] at kr
  have kb:=hP.get .bef rfl
  simp only [ctK] at kb
  have lr:=hP.lt (c:=.root) rfl
  rw [hr] at lr
  have lb:=hP.lt (c:=.bef) rfl
  have nb:=hP.ne (c:=.bef) (d:=.root) rfl rfl (by simp)
  rw [hr] at nb
  by_cases hlt : k < p.ms.length
  · unfold rootK slA at kr
    simp (disch:=((try simp only [lZ]); omega)) only [aZ,aM,kr]
    refine (empty_ps m2 kr).mono ?_
    rintro x H' ⟨rfl,hH⟩
    rw [hH]
    refine aret_of ?_
    have bl:=befK_len p k ad
    have ap:=befK_app p k ad K.length
    have tk : (befK p k ad).take k=befK p k ad:=List.take_of_length_le (by omega)
    have hN:=hP.addM [⟨0,ints (zeros p.mt)⟩,⟨0,[.sl K.length 0 1 0 p.mt]⟩] rfl
    have hg:=gr_t (K:=K) (T:=[⟨0,ints (zeros p.mt)⟩,⟨0,[.sl K.length 0 1 0 p.mt]⟩]) (B1:=⟨(ad .bef).2+1,befK p (k+1) (adM ad K.length k)⟩) (B2:=⟨0,rootK p (k+1) 0 (adM ad K.length k)⟩) (hP.hi .bef rfl) (hP.hi .root rfl)
    rw [hr] at hN hg
    simp (disch:=((try simp only [lZ]); omega)) only [aZ,aM,kr,kb,bl,ap,tk]
    refine ⟨(k+1,adM ad K.length k,_),⟨by simp only; omega,hN,hr,gr0 _ _ hG hg,pa0 _ _ _ hB hg⟩,by simp only; omega,?_⟩
    unfold rootK slA
    simp only [adM]
    try simp (disch:=((try simp only [lZ]); omega)) only [aZ,aM]
    exact Cut.fg (by simp (disch:=first | omega | simp (disch:=omega) only [aG,aM]) only [fZ,aM,fgl_nil,fgl_cons,or_true,true_or])
  have hke : k=p.ms.length:=by omega
  rw [hke] at hP
  clear kr kb lr lb nb
  simp (disch:=((try simp only [lZ]); omega)) only [aZ,aM,hB]
  refine AWP.loopM g_plant_New_1 (fun x : Nat×Ad×List Blk=>x.1≤p.bs.length∧PN H.length x.2.2 p p.ms.length x.1 x.2.1∧(x.2.1 .root).1=r∧Gr nof H x.2.2∧blkAt x.2.2 H.length 0=some [.v (.int .i64 p.mt),.fs w (mcs w p.ms),.fs v (bts p.bs),.v (.int .i64 p.fd)]) (fun x=>[(9,.v (.int .i64 x.1))]) (fun x=>x.2.2) (fun x=>p.bs.length - x.1) (0,ad,K) ⟨by omega,hP,hr,hG,hB⟩ ?_ ?_
  · exact Cut.fg (by simp (disch:=first | omega | simp (disch:=omega) only [aG,aM]) only [fZ,aM,fgl_nil,fgl_cons,or_true,true_or])
  clear hB hG hr hP hke hlt hk
  rintro ⟨b,ad,K⟩ ⟨hk,hP,hr,hG,hB⟩
  simp only at hk hP hr hG hB
  have kr:=hP.rt
  rw [hr] at kr
  have kb:=hP.get .bel rfl
  simp only [ctK] at kb
  have lr:=hP.lt (c:=.root) rfl
  rw [hr] at lr
  have lb:=hP.lt (c:=.bel) rfl
  have nb:=hP.ne (c:=.bel) (d:=.root) rfl rfl (by simp)
  rw [hr] at nb
  by_cases hlt : b < p.bs.length
  · unfold rootK slA at kr
    have lp:=blkAt_lt hB
    simp (disch:=((try simp only [lZ]); omega)) only [aZ,aM]
    refine (empty_ps m2 (r:=r) (by simp (disch:=((try simp only [lZ]); omega)) only [aZ,aM,kr]; rfl)).mono ?_
    rintro x H' ⟨rfl,hH⟩
    rw [hH]
    refine aret_of ?_
    simp (disch:=((try simp only [lZ]); omega)) only [aZ,aM]
    have hbl:=belsK_len p b ad
    have hap:=belsK_app p b ad K.length
    have tk : (belsK p b ad).take (b*2)=belsK p b ad:=List.take_of_length_le (by omega)
    have hbt:=ok.bt _ (mem_get b0 hlt)
    refine ib_intro (fun h1=>?_) (fun h1=>?_)
    · have hrl : ((p.bs.getD b b0).ln - 1)=(p.rl b : Nat):=by unfold Pl.rl; omega
      have hr0 : 0 < p.rl b:=by unfold Pl.rl; omega
      have hr16 : p.rl b≤16:=by have:=ok.rl hlt; omega
      have hbn:=fun (kp : Bool) (H : List Blk)=>bnew_ps (kp:=kp) (H:=H) (mat:=p.mt) (len:=p.rl b) (by omega) hr16 ⟨m1,m2⟩
      have q1:=beltN_at (K.length+3) (p.rl b) p.mt
      have q0 : blkAt (beltN (K.length+3) (p.rl b) p.mt) 0 0=some (belC (p.rl b) p.mt 0 (newA (K.length+3+1))):=rfl
      simp (disch:=((try simp only [lZ]); omega)) only [aZ,aM,hrl,hB]
      refine (hbn _ _).mono ?_
      rintro x H' ⟨rfl,hH⟩
      rw [hH]
      refine aret_of ?_
      simp only [List.length_append,List.length_cons,List.length_nil,Nat.zero_add,Nat.reduceAdd]
      generalize beltN (K.length+3) (p.rl b) p.mt=G at *
      rw [if_pos hr0] at hap
      simp (disch:=((try simp only [lZ]); omega)) only [aZ,aM,kr,kb,hbl,hap,tk]
      obtain ⟨T,hTe⟩ : ∃ T : List Blk,T=((⟨0,[.v (.int .i64 (p.bs.getD b b0).fr),.v (.int .i64 (p.bs.getD b b0).ot),.v (.int .i64 (p.bs.getD b b0).to),.v (.int .i64 (p.bs.getD b b0).ln)]⟩ : Blk) :: ⟨0,ints (zeros p.mt)⟩ :: ⟨0,[.sl (K.length+1) 0 1 0 p.mt,.lp (K.length+3) 0 0]⟩ :: (G++[⟨0,[.sl (K.length+1) 0 1 0 p.mt,.lp (K.length+3) 0 0]⟩])):=⟨_,rfl⟩
      have hT : ∀ q,q < p.rl b→blkAt T (4+q) 0=some (ints (zeros p.mt)):=fun q hq=>by
        rw [hTe,show 4+q=(1+q)+3 by omega]
        show blkAt (G++_) (1+q) 0=_
        rw [blkAt_app _ _ _ _ (blkAt_lt (q1 q hq))]; exact q1 q hq
      have hT0 : blkAt T 3 0=some (belC (p.rl b) p.mt 0 (fun q=>(K.length+(4+q),0))):=by
        rw [hTe]
        show blkAt (G++_) 0 0=_
        rw [blkAt_app _ _ _ _ (blkAt_lt q0),q0]
        congr 2
        funext q
        simp only [newA]; congr 1; omega
      have hN:=hP.addT T (by rw [hTe]; rfl) (fun _=>⟨hT0,hT⟩)
      have hg:=gr_t (K:=K) (T:=T) (B1:=⟨(ad .bel).2+1,belsK p (b+1) (adT ad K.length b)⟩) (B2:=⟨0,rootK p p.ms.length (b+1) (adT ad K.length b)⟩) (hP.hi .bel rfl) (hP.hi .root rfl)
      clear hT hT0
      subst hTe
      rw [hr] at hN hg
      refine ⟨(b+1,adT ad K.length b,_),⟨by simp only; omega,hN,hr,gr0 _ _ hG hg,pa0 _ _ _ hB hg⟩,by simp only; omega,?_⟩
      unfold rootK slA
      simp only [adT]
      try simp (disch:=((try simp only [lZ]); omega)) only [aZ,aM]
      exact Cut.fg (by simp (disch:=first | omega | simp (disch:=omega) only [aG,aM]) only [fZ,aM,fgl_nil,fgl_cons,or_true,true_or])
    · have hrl : p.rl b=0:=by unfold Pl.rl; omega
      rw [hrl,if_neg (by omega)] at hap
      have hN:=hP.addT [⟨0,[.v (.int .i64 (p.bs.getD b b0).fr),.v (.int .i64 (p.bs.getD b b0).ot),.v (.int .i64 (p.bs.getD b b0).to),.v (.int .i64 (p.bs.getD b b0).ln)]⟩,⟨0,ints (zeros p.mt)⟩,⟨0,[.sl (K.length+1) 0 1 0 p.mt,.v (.pointer none)]⟩,⟨0,[.sl (K.length+1) 0 1 0 p.mt,.v (.pointer none)]⟩] rfl (fun hc=>by omega)
      have hg:=gr_t (K:=K) (T:=[⟨0,[.v (.int .i64 (p.bs.getD b b0).fr),.v (.int .i64 (p.bs.getD b b0).ot),.v (.int .i64 (p.bs.getD b b0).to),.v (.int .i64 (p.bs.getD b b0).ln)]⟩,⟨0,ints (zeros p.mt)⟩,⟨0,[.sl (K.length+1) 0 1 0 p.mt,.v (.pointer none)]⟩,⟨0,[.sl (K.length+1) 0 1 0 p.mt,.v (.pointer none)]⟩]) (B1:=⟨(ad .bel).2+1,belsK p (b+1) (adT ad K.length b)⟩) (B2:=⟨0,rootK p p.ms.length (b+1) (adT ad K.length b)⟩) (hP.hi .bel rfl) (hP.hi .root rfl)
      rw [hr] at hN hg
      simp (disch:=((try simp only [lZ]); omega)) only [aZ,aM,kr,kb,hbl,hap,tk]
      refine ⟨(b+1,adT ad K.length b,_),⟨by simp only; omega,hN,hr,gr0 _ _ hG hg,pa0 _ _ _ hB hg⟩,by simp only; omega,?_⟩
      unfold rootK slA
      simp only [adT]
      try simp (disch:=((try simp only [lZ]); omega)) only [aZ,aM]
      exact Cut.fg (by simp (disch:=first | omega | simp (disch:=omega) only [aG,aM]) only [fZ,aM,fgl_nil,fgl_cons,or_true,true_or])
  have hke : b=p.bs.length:=by omega
  subst hke
  have hlo:=fun c hc=>hP.hi c hc
  have hzr:=hP.zr
  obtain ⟨hget,hinj,_,_⟩:=hP
  rw [usK_all] at hget hinj hlo
  simp (disch:=((try simp only [lZ]); omega)) only [aZ,aM,r_plant_New]
  have hm:=(pcheck_ok hpc).mt1.2.2
  have e1 : (rootK p p.ms.length p.bs.length ad).set 4 (.sl (ad .bef).1 (ad .bef).2 1 0 p.ms.length)=rootC p ad:=by
    unfold rootC
    rw [hm]; rfl
  have hset : ∀ c,usd p c=true→c≠.root→blkAt (K.set r ⟨0,rootC p ad⟩) (ad c).1 (ad c).2=some (ctK p p.ms.length p.bs.length ad c):=fun c hc hn=>by
    rw [blkAt_set_ne _ _ _ _ _ (fun he=>hn (hinj c .root hc rfl (he.trans hr.symm)))]; exact hget c hc
  have P1 : PM (K.set r ⟨0,rootC p ad⟩) p ad (newS p):=by
    refine ⟨fun c hc=>?_,hinj,hzr⟩
    cases c with
    | root=>rw [hr,hzr.1]; exact blkAt_set_same _ _ _ _ lr
    | _=>exact hset _ hc (by simp)
  have hc:=Cut.cellS (n0:=H.length) (e:=[.tup [.lp r 0 0,.v (.int .i64 0)]]) r 0 4 kr rfl n1
  rw [e1] at hc
  have h1:=hlo .root rfl
  rw [hr] at h1
  refine ⟨_,K.set r ⟨0,rootC p ad⟩,hc,ad,by rw [hr],P1,hG.trans (Gr.set (F:=one r) _ _ _ rfl) fun i hi hf=>?_,fun c hc=>Nat.le_of_lt (hlo c hc)⟩
  have : i=r:=hf
  omega
end Go.Proofs.YtdkoindoljngmaaGreat
namespace Go.Proofs.YtdkoindoljngmaaGreat
open Go Go.Lft
set_option linter.unusedSimpArgs false
set_option linter.unusedVariables false
def slt (p : Pl) (s : Sy) (i : Nat) : Nat→List Int
  | 0=>s.fst i
  | k+1=>s.rng i ((s.pos i+k) % p.rl i)
theorem out_slt (p : Pl) (s : Sy) (i : Nat) : outM p s i=slt p s i (p.rl i):=by
  unfold outM Pl.nxt
  cases h : p.rl i with
  | zero=>rfl
  | succ r=>rw [if_pos (by omega)]; simp only [slt,h]; rfl
theorem mod_shift {a r k : Nat} (h1 : 0 < k) (h2 : k < r) : ((a+r - 1) % r+k) % r=(a+(k - 1)) % r:=by
  rw [Nat.mod_add_mod,show a+r - 1+k=a+(k - 1)+r by omega,Nat.add_mod_right]
theorem mod_off {a r k : Nat} (h1 : 0 < k) (h2 : k < r) : ((a+r - 1) % r+k) % r≠(a+r - 1) % r:=by
  have h3 : (a+r - 1) % r < r:=Nat.mod_lt _ (by omega)
  generalize (a+r - 1) % r=b at *
  intro hc
  by_cases h : b+k < r
  · rw [Nat.mod_eq_of_lt h] at hc; omega
  · rw [Nat.mod_eq_sub_mod (by omega),Nat.mod_eq_of_lt (by omega)] at hc; omega
theorem mvA_slt (p : Pl) (s : Sy) (i j k : Nat) (hk : k≤p.rl j) : slt p (mvA p s i) j k=if j=i then (if k=0 then zeros p.mt else slt p s i (k - 1)) else slt p s j k:=by
  by_cases e : j=i
  · subst e
    rw [if_pos rfl]
    cases k with
    | zero=>simp [slt,mvA,mov_fst,updF_same]
    | succ k =>
      rw [if_neg (by omega)]
      have hr : 0 < p.rl j:=by omega
      have e1 : (mvA p s j).pos j=p.nxt s j:=by simp only [mvA,movS]; rw [if_pos hr]; simp only [rolS,updF_same]; rfl
      have e2 : (mvA p s j).rng j=updF (s.rng j) (p.nxt s j) (s.fst j):=by simp only [mvA,movS]; rw [if_pos hr]; simp only [rolS,updF_same]; rfl
      simp only [slt,e1,e2]
      have hn : p.nxt s j < p.rl j:=Nat.mod_lt _ hr
      cases k with
      | zero=>simp only [Nat.add_zero,Nat.mod_eq_of_lt hn,updF_same]; rfl
      | succ k =>
        unfold Pl.nxt
        rw [updF_ne _ _ (mod_off (by omega) (by omega)),mod_shift (by omega) (by omega)]
        rfl
  · rw [if_neg e]
    have e0 : (mvA p s i).fst j=s.fst j:=by simp only [mvA,mov_fst]; rw [updF_ne _ _ e]
    have e1 : (mvA p s i).pos j=s.pos j:=by
      simp only [mvA,movS]; split
      · simp only [rolS,empS]; rw [updF_ne _ _ e]
      · rfl
    have e2 : (mvA p s i).rng j=s.rng j:=by
      simp only [mvA,movS]; split
      · simp only [rolS,empS]; rw [updF_ne _ _ e]
      · rfl
    cases k with
    | zero=>exact e0
    | succ k=>simp only [slt,e1,e2]
theorem mvK_slt (p : Pl) (s : Sy) (i k : Nat) (hk : k≤p.rl i) : ∀ j,slt p (mvK p s j) i k=if i < j then (if k=0 then zeros p.mt else slt p s i (k - 1)) else slt p s i k
  | 0=>by simp [mvK]
  | j+1=>by
    simp only [mvK]
    rw [mvA_slt _ _ _ _ _ hk]
    by_cases e : i=j
    · subst e
      rw [if_pos rfl]
      by_cases h0 : k=0
      · simp [h0]
      · have:=mvK_slt p s i (k - 1) (by omega) i
        simp only [h0,if_false,this]; simp
    · rw [if_neg e,mvK_slt p s i k hk j]
      by_cases h : i < j
      · simp [h,show i < j+1 by omega]
      · simp [h,show ¬ i < j+1 by omega]
theorem mvK_out (p : Pl) (s : Sy) (j : Nat) : outM p (mvK p s j) j=outM p s j:=by
  rw [out_slt,out_slt,mvK_slt _ _ _ _ (Nat.le_refl _),if_neg (by omega)]
def arrK (p : Pl) (s : Sy) (m k : Nat) : List Int:=tb p.mt fun x=>(s.bef m).getD x 0+sm k fun i=>if tpS p i=m then (outM p s i).getD x 0 else 0
def arrL (p : Pl) (s : Sy) (m : Nat) : List Int:=arrK p s m p.bs.length
theorem mvK_bef {p : Pl} (ok : POk p) {s : Sy} (h : Gd p s) {m : Nat} (hm : m < p.ms.length) : ∀ k,k≤p.bs.length→(mvK p s k).bef m=arrK p s m k
  | 0,_=>by
    have hl:=(h.bl m hm).1
    unfold arrK
    simp only [mvK,sm]
    refine eq_of_getB 0 (by rw [tb_len,hl]) fun x hx=>?_
    rw [tb_get _ _ _ (by omega)]; omega
  | k+1,hk=>by
    have ih:=mvK_bef ok h hm k (by omega)
    have ho:=((h.ok).out (i:=k) (by omega)).1
    simp only [mvK,mvA]
    rw [mvK_out]
    by_cases e : m=tpS p k
    · rw [← e,updF_same,ih]
      unfold arrK
      rw [tb_plus]
      refine tb_ext fun x hx=>?_
      simp only [sm]; rw [if_pos e.symm]; omega
    · rw [updF_ne _ _ e,ih]
      unfold arrK
      refine tb_ext fun x hx=>?_
      simp only [sm]; rw [if_neg (fun hc=>e hc.symm)]; omega
def runs (p : Pl) (s : Sy) (m : Nat) : Prop:=¬ (outsN (p.ms.getD m [])=0∨s.hal.getD m false=true)
instance (p : Pl) (s : Sy) (m : Nat) : Decidable (runs p s m):=inferInstanceAs (Decidable (¬ _))
theorem dsK_bef (p : Pl) (s : Sy) (m : Nat) : ∀ k,(dsK p s k).bef m=if m < k∧runs p s m then zeros p.mt else s.bef m
  | 0=>by rw [if_neg (by omega)]; rfl
  | k+1=>by
    have ih:=dsK_bef p s m k
    have hh:=(dsK_hal (p:=p) s k).1
    simp only [dsK,disA]
    rw [hh]
    split
    · rename_i hc
      rw [ih]
      by_cases e : m=k
      · subst e; rw [if_neg (by omega),if_neg (fun h=>h.2 hc)]
      · by_cases h : m < k∧runs p s m
        · rw [if_pos h,if_pos ⟨by omega,h.2⟩]
        · rw [if_neg h,if_neg (fun h2=>h ⟨by omega,h2.2⟩)]
    · rename_i hc
      simp only [disS]
      by_cases e : m=k
      · subst e; rw [updF_same,if_pos ⟨by omega,hc⟩]
      · rw [updF_ne _ _ e]
        show (dsK p s k).bef m=_
        rw [ih]
        by_cases h : m < k∧runs p s m
        · rw [if_pos h,if_pos ⟨by omega,h.2⟩]
        · rw [if_neg h,if_neg (fun h2=>h ⟨by omega,h2.2⟩)]
def prtL (p : Pl) (m : Nat) (l : List Int) (o : Nat) : List Int:=(msM (p.ms.getD m []) l).getD o []
def frS (p : Pl) (i : Nat) : Nat:=(p.bs.getD i b0).fr.toNat
def otS (p : Pl) (i : Nat) : Nat:=(p.bs.getD i b0).ot.toNat
theorem dsK_fsts {p : Pl} (ok : POk p) (s : Sy) {i : Nat} (hi : i < p.bs.length) : ∀ k,(dsK p s k).fst i=if frS p i < k∧runs p s (frS p i) then prtL p (frS p i) (s.bef (frS p i)) (otS p i) else s.fst i
  | 0=>by rw [if_neg (by omega)]; rfl
  | k+1=>by
    have ih:=dsK_fsts ok s hi k
    have hh:=(dsK_hal (p:=p) s k).1
    have hb:=ok.bt _ (mem_get b0 hi)
    have hf : (p.bs.getD i b0).fr=(frS p i : Int):=by unfold frS; omega
    simp only [dsK,disA]
    rw [hh]
    split
    · rename_i hc
      rw [ih]
      by_cases e : frS p i=k
      · rw [if_neg (by omega),if_neg (fun h=>h.2 (by rw [e]; exact hc))]
      · by_cases h : frS p i < k∧runs p s (frS p i)
        · rw [if_pos h,if_pos ⟨by omega,h.2⟩]
        · rw [if_neg h,if_neg (fun h2=>h ⟨by omega,h2.2⟩)]
    · rename_i hc
      simp only [disS,disK]
      by_cases e : frS p i=k
      · rw [if_pos ⟨by omega,by rw [← e]; exact hb.2.2.2.1⟩,if_pos ⟨by omega,by rw [e]; exact hc⟩]
        unfold prt prtL
        rw [e,dsK_bef,if_neg (by omega)]; rfl
      · rw [if_neg (fun h=>e (by omega)),ih]
        by_cases h : frS p i < k∧runs p s (frS p i)
        · rw [if_pos h,if_pos ⟨by omega,h.2⟩]
        · rw [if_neg h,if_neg (fun h2=>h ⟨by omega,h2.2⟩)]
theorem dsK_rng (p : Pl) (s : Sy) : ∀ k,(dsK p s k).rng=s.rng∧(dsK p s k).pos=s.pos
  | 0=>⟨rfl,rfl⟩
  | k+1=>by
    have ih:=dsK_rng p s k
    simp only [dsK,disA]
    split
    · exact ih
    · exact ih
theorem runs_mvK (p : Pl) (s : Sy) (k m : Nat) : runs p (mvK p s k) m=runs p s m:=by unfold runs; rw [(mvK_hal p s k).1]
theorem stp_bef {p : Pl} (ok : POk p) {s : Sy} (h : Gd p s) {m : Nat} (hm : m < p.ms.length) : (stpS p s).bef m=if runs p s m then zeros p.mt else arrL p s m:=by
  unfold stpS arrL
  rw [dsK_bef,mvK_bef ok h hm _ (Nat.le_refl _)]
  simp only [runs_mvK]
  by_cases hr : runs p s m
  · rw [if_pos ⟨hm,hr⟩,if_pos hr]
  · rw [if_neg (fun h=>hr h.2),if_neg hr]
theorem fr_lt {p : Pl} (ok : POk p) {i : Nat} (hi : i < p.bs.length) : frS p i < p.ms.length:=by
  have:=ok.bt _ (mem_get b0 hi)
  unfold frS; omega
theorem stp_slt0 {p : Pl} (ok : POk p) {s : Sy} (h : Gd p s) {i : Nat} (hi : i < p.bs.length) : slt p (stpS p s) i 0=if runs p s (frS p i) then prtL p (frS p i) (arrL p s (frS p i)) (otS p i) else zeros p.mt:=by
  have hf:=fr_lt ok hi
  show (stpS p s).fst i=_
  unfold stpS arrL
  rw [dsK_fsts ok _ hi,mvK_bef ok h hf _ (Nat.le_refl _),mvK_fst]
  simp only [runs_mvK]
  by_cases hr : runs p s (frS p i)
  · rw [if_pos ⟨hf,hr⟩,if_pos hr]
  · rw [if_neg (fun h=>hr h.2),if_neg hr,if_pos hi]
theorem stp_sltS {p : Pl} {s : Sy} {i k : Nat} (hi : i < p.bs.length) (hk : k < p.rl i) : slt p (stpS p s) i (k+1)=slt p s i k:=by
  have h1:=mvK_slt p s i (k+1) (by omega) p.bs.length
  rw [if_pos hi,if_neg (by omega),Nat.add_sub_cancel] at h1
  rw [← h1]
  obtain ⟨e1,e2⟩:=dsK_rng p (mvK p s p.bs.length) p.ms.length
  simp only [slt,stpS,e1,e2]
theorem sm_front (n : Nat) (f : Nat→Int) : sm (n+1) f=f 0+sm n fun k=>f (k+1):=by
  induction n with
  | zero=>simp [sm]
  | succ n ih=>rw [show sm (n+1+1) f=sm (n+1) f+f (n+1) from rfl,ih]; simp only [sm]; omega
theorem sm_rot1 (n : Nat) (g : Nat→Int) : sm n (fun k=>g ((1+k) % n))=sm n g:=by
  cases n with
  | zero=>rfl
  | succ m =>
    rw [sm_front m g]
    simp only [sm]
    rw [show (1+m) % (m+1)=0 by rw [Nat.add_comm,Nat.mod_self],Int.add_comm]
    congr 1
    exact sm_congr fun k hk=>by rw [Nat.mod_eq_of_lt (by omega),Nat.add_comm]
theorem sm_rot (n : Nat) (f : Nat→Int) : ∀ c,sm n (fun k=>f ((c+k) % n))=sm n f
  | 0=>sm_congr fun k hk=>by rw [Nat.zero_add,Nat.mod_eq_of_lt hk]
  | c+1=>by
    rw [← sm_rot n f c,← sm_rot1 n fun k=>f ((c+k) % n)]
    refine sm_congr fun k hk=>?_
    rw [Nat.add_mod_mod]; congr 2; omega
theorem inB_slt (p : Pl) (s : Sy) (x i : Nat) : inB p s x i=sm (p.rl i+1) fun k=>(slt p s i k).getD x 0:=by
  rw [sm_front]
  unfold inB
  congr 1
  exact (sm_rot (p.rl i) (fun q=>(s.rng i q).getD x 0) (s.pos i)).symm
structure Eqv (p : Pl) (s t : Sy) : Prop where
  bef : ∀ m,m < p.ms.length→s.bef m=t.bef m
  slt : ∀ i,i < p.bs.length→∀ k,k≤p.rl i→slt p s i k=slt p t i k
  hal : s.hal=t.hal
  fed : s.fed=t.fed
theorem Eqv.refl (p : Pl) (s : Sy) : Eqv p s s:=⟨fun _ _=>rfl,fun _ _ _ _=>rfl,rfl,rfl⟩
theorem Eqv.symm {p : Pl} {s t : Sy} (h : Eqv p s t) : Eqv p t s:=⟨fun m hm=>(h.bef m hm).symm,fun i hi k hk=>(h.slt i hi k hk).symm,h.hal.symm,h.fed.symm⟩
theorem Eqv.trans {p : Pl} {s t u : Sy} (h : Eqv p s t) (g : Eqv p t u) : Eqv p s u:=⟨fun m hm=>(h.bef m hm).trans (g.bef m hm),fun i hi k hk=>(h.slt i hi k hk).trans (g.slt i hi k hk),h.hal.trans g.hal,h.fed.trans g.fed⟩
theorem Eqv.arr {p : Pl} {s t : Sy} (h : Eqv p s t) {m : Nat} (hm : m < p.ms.length) : arrL p s m=arrL p t m:=by
  unfold arrL arrK
  refine tb_ext fun x _=>?_
  rw [h.bef m hm]
  congr 1
  refine sm_congr fun i hi=>?_
  rw [out_slt,out_slt,h.slt i hi _ (Nat.le_refl _)]
theorem Eqv.runs {p : Pl} {s t : Sy} (h : Eqv p s t) (m : Nat) : runs p s m=runs p t m:=by unfold Go.Proofs.YtdkoindoljngmaaGreat.runs; rw [h.hal]
theorem Eqv.stp {p : Pl} (hp : pcheck p=0) {s t : Sy} (hs : Gd p s) (ht : Gd p t) (h : Eqv p s t) : Eqv p (stpS p s) (stpS p t):=by
  have ok:=pcheck_ok hp
  refine ⟨fun m hm=>?_,fun i hi k hk=>?_,?_,?_⟩
  · rw [stp_bef ok hs hm,stp_bef ok ht hm,h.arr hm]; simp only [h.runs m]
  · cases k with
    | zero=>rw [stp_slt0 ok hs hi,stp_slt0 ok ht hi,h.arr (fr_lt ok hi)]; simp only [h.runs (frS p i)]
    | succ k=>rw [stp_sltS hi (by omega),stp_sltS hi (by omega)]; exact h.slt i hi k (by omega)
  · rw [(hs.stp hp).2.2.1,(ht.stp hp).2.2.1,h.hal]
  · rw [(hs.stp hp).2.2.2,(ht.stp hp).2.2.2,h.fed]
theorem Eqv.it {p : Pl} (hp : pcheck p=0) {s t : Sy} (hs : Gd p s) (ht : Gd p t) (h : Eqv p s t) : ∀ k,Eqv p (itS p s k) (itS p t k)
  | 0=>h
  | k+1=>Eqv.stp hp (hs.it hp k).1 (ht.it hp k).1 (Eqv.it hp hs ht h k)
theorem Eqv.ins {p : Pl} {s t : Sy} (h : Eqv p s t) (x : Nat) : insT p s x=insT p t x:=by
  unfold insT
  congr 1
  · exact sm_congr fun m hm=>by unfold inM; rw [h.bef m hm]
  · exact sm_congr fun i hi => by
      rw [inB_slt,inB_slt]
      exact sm_congr fun k hk=>by rw [h.slt i hi k (by omega)]
theorem Eqv.insL {p : Pl} {s t : Sy} (h : Eqv p s t) : insL p s=insL p t:=tb_ext fun x _=>h.ins x
theorem Eqv.tot {p : Pl} {s t : Sy} (h : Eqv p s t) (x : Nat) : tot p s x=tot p t x:=by
  unfold Go.Proofs.YtdkoindoljngmaaGreat.tot
  have h1 : befT p s x=befT p t x:=sm_congr fun m hm=>by rw [h.bef m hm]
  have h2 : ∀ u : Sy,fstT p u x+rngT p u x=sm p.bs.length (inB p u x):=fun u=>by
    unfold fstT rngT; rw [← sm_add]; exact sm_congr fun i _=>rfl
  have h3:=h2 s
  have h4:=h2 t
  have h5 : sm p.bs.length (inB p s x)=sm p.bs.length (inB p t x):=sm_congr fun i hi=>by
    rw [inB_slt,inB_slt]
    exact sm_congr fun k hk=>by rw [h.slt i hi k (by omega)]
  omega
theorem sm_zero_all {n : Nat} {f : Nat→Int} (h : ∀ i,i < n→0≤f i) (hz : sm n f=0) {i : Nat} (hi : i < n) : f i=0:=by
  have:=sm_le h hi
  have:=h i hi
  omega
theorem nil_zero {n : Nat} {l : List Int} (hl : l.length=n) (h : ∀ x,l.getD x 0=0) : l=zeros n :=
  eq_of_getB 0 (by rw [hl]; simp [zeros]) fun x _=>by rw [h x,zeros_get]
theorem emp_bef {p : Pl} {s : Sy} (h : Gd p s) (hz : ∀ x,insT p s x=0) {m : Nat} (hm : m < p.ms.length) (hb : ¬ binN p m) : s.bef m=zeros p.mt:=by
  refine nil_zero (h.bl m hm).1 fun x=>?_
  have h1:=sm_nn (inM_nn h x)
  have h2:=sm_nn (inB_nn h x)
  have h3:=hz x
  unfold insT at h3
  have h4:=sm_zero_all (inM_nn h x) (by omega) hm
  unfold inM at h4
  rwa [if_neg (show ¬ outsN (p.ms.getD m [])=0 from hb)] at h4
theorem slt_ok {p : Pl} {s : Sy} (h : Gd p s) {i k : Nat} (hi : i < p.bs.length) (hk : k≤p.rl i) : (slt p s i k).length=p.mt∧∀ x,0≤(slt p s i k).getD x 0:=by
  cases k with
  | zero=>exact h.fl i hi
  | succ k=>exact h.rl i hi _ (Nat.mod_lt _ (by omega))
theorem emp_slt {p : Pl} {s : Sy} (h : Gd p s) (hz : ∀ x,insT p s x=0) {i k : Nat} (hi : i < p.bs.length) (hk : k≤p.rl i) : slt p s i k=zeros p.mt:=by
  refine nil_zero (slt_ok h hi hk).1 fun x=>?_
  have h1:=sm_nn (inM_nn h x)
  have h2:=sm_nn (inB_nn h x)
  have h3:=hz x
  unfold insT at h3
  have h4:=sm_zero_all (inB_nn h x) (by omega) hi
  rw [inB_slt] at h4
  exact sm_zero_all (n:=p.rl i+1) (f:=fun k=>(slt p s i k).getD x 0) (fun q hq=>(slt_ok h hi (by omega)).2 x) h4 (by omega)
theorem emp_arr {p : Pl} {s : Sy} (h : Gd p s) (hz : ∀ x,insT p s x=0) {m : Nat} (hm : m < p.ms.length) : arrL p s m=s.bef m:=by
  refine eq_of_getB 0 (by unfold arrL arrK; rw [tb_len,(h.bl m hm).1]) fun x hx=>?_
  unfold arrL arrK at hx ⊢
  rw [tb_len] at hx
  rw [tb_get _ _ _ hx,sm_congr (g:=fun _=>0) fun i hi=>by rw [out_slt,emp_slt h hz hi (Nat.le_refl _),zeros_get]; split<;>rfl,sm_zero]; omega
theorem prt_zero {p : Pl} (hp : pcheck p=0) {m : Nat} (hm : m < p.ms.length) (hb : ¬ binN p m) {o : Nat} (ho : o < outsN (p.ms.getD m [])) : prtL p m (zeros p.mt) o=zeros p.mt:=by
  have hx : MixOk p.mt ((newS p).bef m):=zeros_ok _
  have h1:=prt_ok hp hm hb hx ho
  refine nil_zero h1.1 fun x=>?_
  have h2:=prt_sum hp hm hb hx x
  have h3 : ((newS p).bef m).getD x 0=0:=zeros_get _ _
  rw [h3] at h2
  exact sm_zero_all (f:=fun o=>(prt p (newS p) m o).getD x 0) (fun o ho=>((prt_ok hp hm hb hx ho).2 x).1) h2 ho
theorem emp_fix {p : Pl} (hp : pcheck p=0) {s : Sy} (h : Gd p s) (hz : ∀ x,insT p s x=0) : Eqv p (stpS p s) s:=by
  have ok:=pcheck_ok hp
  refine ⟨fun m hm=>?_,fun i hi k hk=>?_,(h.stp hp).2.2.1,(h.stp hp).2.2.2⟩
  · rw [stp_bef ok h hm]
    split
    · rename_i hr
      exact (emp_bef h hz hm fun hb=>hr (.inl hb)).symm
    · exact emp_arr h hz hm
  · rw [emp_slt h hz hi hk]
    cases k with
    | zero =>
      rw [stp_slt0 ok h hi]
      split
      · rename_i hr
        have hb : ¬ binN p (frS p i):=fun hb=>hr (.inl hb)
        have hf:=fr_lt ok hi
        have hbt:=ok.bt _ (mem_get b0 hi)
        rw [emp_arr h hz hf,emp_bef h hz hf hb]
        exact prt_zero hp hf hb (by unfold otS frS; omega)
      · rfl
    | succ k=>rw [stp_sltS hi (by omega)]; exact emp_slt h hz hi (by omega)
theorem emp_it {p : Pl} (hp : pcheck p=0) {s : Sy} (h : Gd p s) (hz : ∀ x,insT p s x=0) : ∀ k,Eqv p (itS p s k) s
  | 0=>Eqv.refl p s
  | k+1=>(Eqv.stp hp (h.it hp k).1 h (emp_it hp h hz k)).trans (emp_fix hp h hz)
theorem it_add (p : Pl) (s : Sy) (j : Nat) : ∀ k,itS p s (j+k)=itS p (itS p s j) k
  | 0=>rfl
  | k+1=>by rw [← Nat.add_assoc]; simp only [itS]; rw [it_add p s j k]
theorem run_eqv {p : Pl} (hp : pcheck p=0) {s : Sy} (h : Gd p s) {k n : Nat} (hk : k≤n) (hz : k=n∨∀ x,insT p (itS p s k) x=0) : Eqv p (itS p s k) (itS p s n):=by
  rcases hz with rfl | hz
  · exact Eqv.refl _ _
  · rw [show n=k+(n - k) by omega,it_add]
    exact (emp_it hp (h.it hp k).1 hz (n - k)).symm
def rcv (p : Pl) (s : Sy) (m : Nat) (x : Nat) : Int:=sm p.bs.length fun i=>if tpS p i=m then (outM p s i).getD x 0 else 0
theorem rcv_nn {p : Pl} {s : Sy} (h : Gd p s) (m x i : Nat) (hi : i < p.bs.length) : 0≤(if tpS p i=m then (outM p s i).getD x 0 else 0):=by
  split
  · exact ((h.ok.out hi).2 x).1
  · omega
theorem rcv_ge {p : Pl} {s : Sy} (h : Gd p s) (x : Nat) {i : Nat} (hi : i < p.bs.length) : (outM p s i).getD x 0≤rcv p s (tpS p i) x:=by
  have:=sm_le (f:=fun j=>if tpS p j=tpS p i then (outM p s j).getD x 0 else 0) (fun j hj=>rcv_nn h _ x j hj) hi
  rw [if_pos rfl] at this; exact this
theorem arr_get {p : Pl} {s : Sy} (h : Gd p s) {m : Nat} (hm : m < p.ms.length) (x : Nat) : (arrL p s m).getD x 0=(s.bef m).getD x 0+rcv p s m x:=by
  unfold arrL arrK
  by_cases hx : x < p.mt
  · rw [tb_get _ _ _ hx]; rfl
  · rw [get_out (n:=p.mt) (tb_len _ _) (by omega),get_out (h.bl m hm).1 (by omega)]
    unfold rcv
    rw [sm_congr (g:=fun _=>0) fun i hi=>by
      split
      · exact get_out (h.ok.out hi).1 (by omega)
      · rfl,sm_zero]; rfl
theorem arr_ok {p : Pl} (ok : POk p) {s : Sy} (h : Gd p s) {m : Nat} (hm : m < p.ms.length) : MixOk p.mt (arrL p s m):=by
  have:=(h.mvK ok p.bs.length (Nat.le_refl _)).1.ok.bef m hm
  rw [mvK_bef ok h hm _ (Nat.le_refl _)] at this; exact this
def binT (p : Pl) (s : Sy) (x : Nat) : Int:=sm p.ms.length fun m=>if outsN (p.ms.getD m [])=0 then (s.bef m).getD x 0 else 0
theorem tot_ins (p : Pl) (s : Sy) (x : Nat) : tot p s x=insT p s x+binT p s x:=by
  unfold tot insT binT befT
  have h1 : (sm p.ms.length fun m=>(s.bef m).getD x 0)=sm p.ms.length (inM p s x)+sm p.ms.length fun m=>if outsN (p.ms.getD m [])=0 then (s.bef m).getD x 0 else 0:=by
    rw [← sm_add]
    refine sm_congr fun m hm=>?_
    unfold inM; split<;>omega
  have h2 : fstT p s x+rngT p s x=sm p.bs.length (inB p s x):=by
    unfold fstT rngT; rw [← sm_add]; exact sm_congr fun i _=>rfl
  omega
theorem bin_stp {p : Pl} (ok : POk p) {s : Sy} (h : Gd p s) (x : Nat) : binT p (stpS p s) x=binT p s x+sm p.ms.length fun m=>if outsN (p.ms.getD m [])=0 then rcv p s m x else 0:=by
  unfold binT
  rw [← sm_add]
  refine sm_congr fun m hm=>?_
  split
  · rename_i hb
    rw [stp_bef ok h hm,if_neg (fun hr=>hr (.inl hb)),arr_get h hm]
  · rfl
theorem bin_nn {p : Pl} {s : Sy} (h : Gd p s) (x m : Nat) : 0≤(if outsN (p.ms.getD m [])=0 then rcv p s m x else 0):=by
  split
  · exact sm_nn fun i hi=>rcv_nn h m x i hi
  · omega
theorem ins_stp {p : Pl} (hp : pcheck p=0) {s : Sy} (h : Gd p s) (x : Nat) : insT p (stpS p s) x≤insT p s x∧∀ b,b < p.ms.length→binN p b→insT p (stpS p s) x≤insT p s x - rcv p s b x:=by
  have h1:=(h.stp hp).2.1 x
  rw [tot_ins,tot_ins,bin_stp (pcheck_ok hp) h] at h1
  have h2:=sm_nn (n:=p.ms.length) (f:=fun m=>if outsN (p.ms.getD m [])=0 then rcv p s m x else 0) fun m _=>bin_nn h x m
  refine ⟨by omega,fun b hb hbin=>?_⟩
  have h3:=sm_le (f:=fun m=>if outsN (p.ms.getD m [])=0 then rcv p s m x else 0) (fun m _=>bin_nn h x m) hb
  rw [if_pos (show outsN (p.ms.getD b [])=0 from hbin)] at h3
  omega
theorem ins_it {p : Pl} (hp : pcheck p=0) {s : Sy} (h : Gd p s) (x : Nat) : ∀ k j,insT p (itS p s (j+k)) x≤insT p (itS p s j) x
  | 0,j=>Int.le_refl _
  | k+1,j=>Int.le_trans (ins_stp hp (h.it hp (j+k)).1 x).1 (ins_it hp h x k j)
theorem posR_next (p : Pl) (mt : Int) (i : Nat) : ∀ j,posR p mt (nx p mt i) j=posR p mt i (j+1)
  | 0=>rfl
  | j+1=>by simp only [posR,posR_next p mt i j]
theorem farR_next (p : Pl) (mt : Int) (i : Nat) : ∀ j,farR p mt i (j+1)=lx p mt i+farR p mt (nx p mt i) j
  | 0=>by simp [farR,posR]
  | j+1=>by
    have:=farR_next p mt i j
    simp only [farR] at this ⊢
    rw [posR_next,Int.add_assoc,← Int.add_assoc,← Int.add_assoc]
    simp only [posR] at this ⊢
    omega
theorem way_next {p : Pl} (h : POk p) {mt : Int} (h0 : 0 ≤ mt) (h1 : mt < p.mat) {i : Nat} (hi : i < p.ms.length) (hb : ¬ binN p i) (hw : (wayV p mt i).2 = true) :
    (wayV p mt (nx p mt i)).2=true∧(wayV p mt i).1=(wayV p mt (nx p mt i)).1+lx p mt i∧0≤(wayV p mt (nx p mt i)).1:=by
  have hn:=(out_ok h h0 h1 hi hb).2.2.2.1
  have hn2:=h.n2
  rcases wayR_cases h h0 h1 hi with ⟨k,k1,k2,k3,k4⟩ | ⟨k1,k2⟩
  · match k,k1,k2,k3,k4 with
    | 0,_,_,k3,_=>exact (hb k3).elim
    | k+1,k1,k2,k3,k4 =>
      have c1 : ∀ j,j < k→¬ binN p (posR p mt (nx p mt i) j):=fun j hj=>by rw [posR_next]; exact k2 (j+1) (by omega)
      have c2 : binN p (posR p mt (nx p mt i) k):=by rw [posR_next]; exact k3
      have c3:=wayR_of (f:=p.ms.length) (by omega) c1 c2
      have c4:=farR_bd h h0 h1 hn k c1
      unfold wayV
      rw [k4,c3,farR_next]
      exact ⟨rfl,by simp only; omega,c4.1⟩
  · unfold wayV at hw
    rw [k2] at hw; cases hw
theorem way_far {p : Pl} (h : POk p) {mt : Int} (h0 : 0≤mt) (h1 : mt < p.mat) {i : Nat} (hi : i < p.ms.length) (hw : (wayV p mt i).2=true) : 0≤(wayV p mt i).1∧(wayV p mt i).1≤16*p.ms.length:=by
  rcases wayR_cases h h0 h1 hi with ⟨k,k1,k2,k3,k4⟩ | ⟨k1,k2⟩
  · have:=farR_bd h h0 h1 hi k k2
    unfold wayV
    rw [k4]
    simp only; omega
  · unfold wayV at hw
    rw [k2] at hw; cases hw
theorem belt_way {p : Pl} {s : Sy} {i : Nat} (hi : i < p.bs.length) (j k : Nat) : ∀ d,k+d≤p.rl i→slt p (itS p s (j+d)) i (k+d)=slt p (itS p s j) i k
  | 0,_=>rfl
  | d+1,hd=>by
    rw [← Nat.add_assoc,← Nat.add_assoc]
    simp only [itS]
    rw [stp_sltS hi (by omega)]; exact belt_way hi j k d (by omega)
theorem belt_end {p : Pl} {s : Sy} {i k : Nat} (hi : i < p.bs.length) (hk : k≤p.rl i) (j : Nat) : outM p (itS p s (j+(p.rl i - k))) i=slt p (itS p s j) i k:=by
  have:=belt_way (p:=p) (s:=s) hi j k (p.rl i - k) (by omega)
  rw [show k+(p.rl i - k)=p.rl i by omega] at this
  rw [out_slt,this]
theorem prt_main {p : Pl} (hp : pcheck p=0) {m x : Nat} (hm : m < p.ms.length) (hb : ¬ binN p m) {l : List Int} (hl : MixOk p.mt l) (hx : x < p.mt) (h1 : 1≤l.getD x 0) : 1≤(prtL p m l (mainN (p.ms.getD m []) x).toNat).getD x 0:=by
  obtain ⟨z1,z2,z3⟩:=msE_zero (msE_good hp hm hb hl)
  have ok:=pcheck_ok hp
  obtain ⟨m1,m2,m3⟩:=ok.mt1
  have hxl : x < l.length:=by rw [hl.1]; exact hx
  have hk : x < (p.ms.getD m []).length:=by have:=z1.len; omega
  have d:=divM_ok z1 z2 hk (z3 x hxl)
  obtain ⟨g1,g2,g3⟩:=mainN_ok (ok.mc _ (mem_get [] hm)) hb (k:=x) (by omega) (by omega)
  unfold prtL
  rw [msM_at _ _ (by omega) hxl]
  exact d.first (by omega)
def noH (s : Sy) : Prop:=∀ m : Nat,s.hal.getD m false=false
theorem noH_it {p : Pl} (hp : pcheck p=0) {s : Sy} (h : Gd p s) (hh : noH s) (k : Nat) : noH (itS p s k):=fun m=>by rw [(h.it hp k).2.2.1]; exact hh m
theorem way_out {p : Pl} (hc : chkP p = 0) {s : Sy} (h : Gd p s) (hh : noH s) {x : Nat} (hx : x < p.mt) : ∀ (n m j : Nat), m < p.ms.length → ¬ binN p m → (wayV p x m).1 = n → 1 ≤ (arrL p (itS p s j) m).getD x 0 →
    ∃ t b,t≤j+n∧b < p.ms.length∧binN p b∧1≤rcv p (itS p s t) b x:=by
  obtain ⟨hp,hd⟩:=chkP_ok hc
  have ok:=pcheck_ok hp
  obtain ⟨m1,m2,m3⟩:=ok.mt1
  have hdr:=(drB_iff ok).1 hd
  intro n
  induction n using Nat.strongRecOn with
  | ind n ih =>
    intro m j hm hb hn ha
    obtain ⟨o1,o2,o3,o4,o5,o6,o7⟩:=out_ok ok (mt:=x) (by omega) (by omega) hm hb
    obtain ⟨w1,w2,w3⟩:=way_next ok (mt:=x) (by omega) (by omega) hm hb (hdr m hm x (by omega))
    obtain ⟨f1,f2,f3⟩:=findB_ok o1
    have hgj:=(h.it hp j).1
    have hrl : (p.rl (outB p x m) : Int)+1=lx p x m:=by
      have : lx p x m=(p.bs.getD (outB p x m) b0).ln:=rfl
      unfold Pl.rl; omega
    have hfr : frS p (outB p x m)=m:=by unfold frS; rw [o3]; rfl
    have hot : otS p (outB p x m)=(mainN (p.ms.getD m []) x).toNat:=by
      unfold otS outB; rw [f3]
    have hto : tpS p (outB p x m)=nx p x m:=rfl
    have hs0 : 1≤(slt p (itS p s (j+1)) (outB p x m) 0).getD x 0:=by
      show 1≤(slt p (stpS p (itS p s j)) (outB p x m) 0).getD x 0
      rw [stp_slt0 ok hgj o2,hfr,if_pos,hot]
      · exact prt_main hp hm hb (arr_ok ok hgj hm) hx ha
      · rintro (h1 | h1)
        · exact hb h1
        · rw [noH_it hp h hh j m] at h1; cases h1
    have he:=belt_end (p:=p) (s:=s) o2 (Nat.zero_le _) (j+1)
    rw [← he] at hs0
    have hg2:=(h.it hp (j+1+(p.rl (outB p x m) - 0))).1
    have hr:=rcv_ge hg2 x o2
    rw [hto] at hr
    by_cases hbn : binN p (nx p x m)
    · exact ⟨j+1+(p.rl (outB p x m) - 0),nx p x m,by omega,o4,hbn,by omega⟩
    · have hq:=out_ok ok (mt:=x) (by omega) (by omega) o4 hbn
      have ha2:=arr_get hg2 o4 x
      have hbb:=(hg2.bl _ o4).2 x
      obtain ⟨t,b,t1,t2,t3,t4⟩:=ih (wayV p x (nx p x m)).1.toNat (by omega) (nx p x m) _ o4 hbn (by omega) (by omega : 1≤(arrL p (itS p s (j+1+(p.rl (outB p x m) - 0))) (nx p x m)).getD x 0)
      exact ⟨t,b,by omega,t2,t3,t4⟩
theorem mxN_ge {n : Nat} {f : Nat→Int} : ∀ {i : Nat},i < n→f i≤mxN n f:=by
  induction n with
  | zero=>intro i hi; omega
  | succ n ih =>
    intro i hi
    simp only [mxN]
    by_cases e : i=n
    · subst e; exact Int.le_max_right _ _
    · exact Int.le_trans (ih (by omega)) (Int.le_max_left _ _)
theorem hgI_ge (p : Pl) (m : Nat) (h0 : Int) : ∀ k,h0≤hgI p m h0 k∧∀ x,x < k→(heightR p m x).1≤hgI p m h0 k
  | 0=>⟨Int.le_refl _,fun x hx=>by omega⟩
  | k+1=>by
    have ih:=hgI_ge p m h0 k
    simp only [hgI]
    refine ⟨Int.le_trans ih.1 (Int.le_max_left _ _),fun x hx=>?_⟩
    by_cases e : x=k
    · subst e; exact Int.le_max_right _ _
    · exact Int.le_trans (ih.2 x (by omega)) (Int.le_max_left _ _)
theorem hgO_ge (p : Pl) {x : Nat} (hx : x < p.mt) : ∀ (n m : Nat),m < n→(heightR p m x).1≤hgO p n
  | 0,m,h=>by omega
  | n+1,m,h=>by
    simp only [hgO]
    by_cases e : m=n
    · subst e; exact (hgI_ge p m _ _).2 x hx
    · exact Int.le_trans (hgO_ge p hx n m (by omega)) (hgI_ge p n _ _).1
theorem height_way {p : Pl} (hp : pcheck p=0) {m x : Nat} (hm : m < p.ms.length) (hx : x < p.mt) (hw : (wayV p x m).2=true) : (heightR p m x).1=(wayV p x m).1:=by
  obtain ⟨m1,m2,m3⟩:=(pcheck_ok hp).mt1
  unfold heightR
  rw [if_neg (fun hc=>hc hp),if_neg (by omega),if_neg (by omega),Int.toNat_natCast,hw,if_neg (by decide)]
theorem hgI_le {p : Pl} (hc : chkP p=0) {m : Nat} (hm : m < p.ms.length) {h0 : Int} (hh : h0≤16*p.ms.length) : ∀ k,k≤p.mt→hgI p m h0 k≤16*p.ms.length
  | 0,_=>hh
  | k+1,hk=>by
    obtain ⟨hp,hd⟩:=chkP_ok hc
    have ok:=pcheck_ok hp
    obtain ⟨m1,m2,m3⟩:=ok.mt1
    have ih:=hgI_le hc hm hh k (by omega)
    have hw:=(drB_iff ok).1 hd m hm k (by omega)
    have h1:=height_way hp hm (x:=k) (by omega) hw
    have h2:=way_far ok (mt:=k) (by omega) (by omega) hm hw
    simp only [hgI]
    omega
theorem per_le {p : Pl} (hc : chkP p=0) : 0≤perP p∧perP p≤16*p.ms.length+16:=by
  have q1:=lng_bd (pcheck_ok (chkP_ok hc).1) p.bs.length (Nat.le_refl _)
  have q2 : ∀ n,n≤p.ms.length→0≤hgO p n∧hgO p n≤16*p.ms.length:=by
    intro n
    induction n with
    | zero=>intro _; simp [hgO]; omega
    | succ n ih =>
      intro hn
      exact ⟨(hgO_bd hc (n+1) hn).1,hgI_le hc (by omega) (ih (by omega)).2 _ (Nat.le_refl _)⟩
  have:=q2 p.ms.length (Nat.le_refl _)
  unfold perP; omega
theorem sm_pos {n : Nat} {f : Nat→Int} (h : ∀ i,i < n→0≤f i) (hp : 0 < sm n f) : ∃ i,i < n∧0 < f i:=by
  apply Classical.byContradiction
  intro hc
  have : sm n f=0:=by
    rw [sm_congr (g:=fun _=>0) fun i hi=>by
      have:=h i hi
      have : ¬ 0 < f i:=fun h1=>hc ⟨i,hi,h1⟩
      omega,sm_zero]
  omega
theorem per_out {p : Pl} (hc : chkP p=0) {s : Sy} (h : Gd p s) (hh : noH s) {x : Nat} (hx : 0 < insT p s x) : insT p (itS p s (perP p).toNat) x+1≤insT p s x:=by
  obtain ⟨hp,hd⟩:=chkP_ok hc
  have ok:=pcheck_ok hp
  obtain ⟨m1,m2,m3⟩:=ok.mt1
  have hdr:=(drB_iff ok).1 hd
  have hper:=per_le hc
  have hlng:=lng_bd ok p.bs.length (Nat.le_refl _)
  have hxm : x < p.mt:=by
    apply Classical.byContradiction
    intro hcx
    have e1 : sm p.ms.length (inM p s x)=0:=by
      rw [sm_congr (g:=fun _=>0) fun m hm=>by unfold inM; split; rfl; exact get_out (h.bl m hm).1 (by omega),sm_zero]
    have e2 : sm p.bs.length (inB p s x)=0:=by
      rw [sm_congr (g:=fun _=>0) fun i hi=>by
        rw [inB_slt,sm_congr (g:=fun _=>0) fun k hk=>get_out (slt_ok h hi (by omega)).1 (by omega),sm_zero],sm_zero]
    unfold insT at hx; omega
  have hhg : ∀ m,m < p.ms.length→0≤(wayV p x m).1∧(wayV p x m).1≤hgO p p.ms.length:=fun m hm=>by
    have hw:=hdr m hm x (by omega)
    have h1:=height_way hp hm hxm hw
    have h2:=hgO_ge p hxm p.ms.length m hm
    have h3:=way_far ok (mt:=x) (by omega) (by omega) hm hw
    omega
  have hln : ∀ i,i < p.bs.length→(p.rl i : Int)+1≤lngP p p.bs.length:=fun i hi=>by
    have h1:=mxN_ge (f:=fun i=>(p.bs.getD i b0).ln) hi
    have h2:=ok.bt _ (mem_get b0 hi)
    unfold lngP Pl.rl; omega
  have key : ∃ t b : Nat,(t : Int) < perP p∧b < p.ms.length∧binN p b∧1≤rcv p (itS p s t) b x:=by
    unfold insT at hx
    by_cases h1 : 0 < sm p.ms.length (inM p s x)
    · obtain ⟨m,hm,h2⟩:=sm_pos (inM_nn h x) h1
      unfold inM at h2
      by_cases hb : outsN (p.ms.getD m [])=0
      · rw [if_pos hb] at h2; omega
      · rw [if_neg hb] at h2
        have ha:=arr_get h hm x
        have hr : 0≤rcv p s m x:=sm_nn fun i hi=>rcv_nn h m x i hi
        obtain ⟨t,b,t1,t2,t3,t4⟩:=way_out hc h hh hxm (wayV p x m).1.toNat m 0 hm hb (by have:=hhg m hm; omega) (by show 1≤(arrL p s m).getD x 0; omega)
        have h3:=hhg m hm
        have h4:=out_ok ok (mt:=x) (by omega) (by omega) hm hb
        have h5:=hln _ h4.2.1
        exact ⟨t,b,by unfold perP; omega,t2,t3,t4⟩
    · have h2:=sm_nn (inM_nn h x)
      obtain ⟨i,hi,h3⟩:=sm_pos (inB_nn h x) (by omega)
      rw [inB_slt] at h3
      obtain ⟨k,hk,h4⟩:=sm_pos (fun k hk=>(slt_ok h hi (by omega)).2 x) h3
      have he:=belt_end (p:=p) (s:=s) hi (k:=k) (by omega) 0
      have hg2:=(h.it hp (0+(p.rl i - k))).1
      have hr:=rcv_ge hg2 x hi
      rw [he] at hr
      have hr1 : (slt p (itS p s 0) i k).getD x 0=(slt p s i k).getD x 0:=rfl
      have ht:=tp_lt ok hi
      have hl:=hln i hi
      by_cases hb : binN p (tpS p i)
      · exact ⟨0+(p.rl i - k),tpS p i,by have:=hhg _ ht; unfold perP; omega,ht,hb,by omega⟩
      · have ha:=arr_get hg2 ht x
        have hbb:=(hg2.bl _ ht).2 x
        have h5:=hhg _ ht
        obtain ⟨t,b,t1,t2,t3,t4⟩:=way_out hc h hh hxm (wayV p x (tpS p i)).1.toNat (tpS p i) (0+(p.rl i - k)) ht hb (by omega) (by omega)
        exact ⟨t,b,by unfold perP; omega,t2,t3,t4⟩
  obtain ⟨t,b,t1,t2,t3,t4⟩:=key
  have h1:=(ins_stp hp (h.it hp t).1 x).2 b t2 t3
  have h2:=ins_it hp h x t 0
  rw [Nat.zero_add] at h2
  have h3:=ins_it hp h x ((perP p).toNat - (t+1)) (t+1)
  rw [show t+1+((perP p).toNat - (t+1))=(perP p).toNat by omega] at h3
  have h4 : insT p (itS p s (t+1)) x=insT p (stpS p (itS p s t)) x:=rfl
  have h5 : insT p (itS p s 0) x=insT p s x:=rfl
  omega
def sumI (p : Pl) (s : Sy) : Int:=sm p.mt (insT p s)
theorem sumI_nn {p : Pl} {s : Sy} (h : Gd p s) : 0≤sumI p s:=sm_nn fun x _=>(ins_tot h x).2
theorem sm_mono {n : Nat} {f g : Nat→Int} (h : ∀ i,i < n→f i≤g i) : sm n f≤sm n g:=by
  induction n with
  | zero=>exact Int.le_refl _
  | succ n ih=>simp only [sm]; have:=ih fun i hi=>h i (by omega); have:=h n (by omega); omega
theorem sm_less {n : Nat} {f g : Nat→Int} (h : ∀ i,i < n→f i≤g i) {i : Nat} (hi : i < n) (hl : f i+1≤g i) : sm n f+1≤sm n g:=by
  induction n with
  | zero=>omega
  | succ n ih =>
    simp only [sm]
    by_cases e : i=n
    · subst e
      have:=sm_mono (n:=i) fun j hj=>h j (by omega)
      omega
    · have:=ih (fun j hj=>h j (by omega)) (by omega)
      have:=h n (by omega)
      omega
theorem sumI_it {p : Pl} (hp : pcheck p=0) {s : Sy} (h : Gd p s) (k : Nat) : sumI p (itS p s k)≤sumI p s:=sm_mono fun x _=>by
  have:=ins_it hp h x k 0
  rw [Nat.zero_add] at this; exact this
theorem sumI_per {p : Pl} (hc : chkP p=0) {s : Sy} (h : Gd p s) (hh : noH s) (hx : 0 < sumI p s) : sumI p (itS p s (perP p).toNat)+1≤sumI p s:=by
  obtain ⟨hp,_⟩:=chkP_ok hc
  obtain ⟨x,h1,h2⟩:=sm_pos (fun x _=>(ins_tot h x).2) hx
  refine sm_less (fun y _=>?_) h1 (per_out hc h hh h2)
  have:=ins_it hp h y (perP p).toNat 0
  rw [Nat.zero_add] at this; exact this
theorem sumI_bnd {p : Pl} (hc : chkP p=0) : ∀ (g : Nat) {s : Sy},Gd p s→noH s→sumI p s≤g→sumI p (itS p s (g*(perP p).toNat))=0
  | 0,s,h,hh,hg=>by
    have:=sumI_nn h
    rw [Nat.zero_mul]
    show sumI p s=0
    omega
  | g+1,s,h,hh,hg=>by
    obtain ⟨hp,_⟩:=chkP_ok hc
    rw [Nat.succ_mul,Nat.add_comm,it_add]
    have h1:=(h.it hp (perP p).toNat).1
    refine sumI_bnd hc g h1 (noH_it hp h hh _) ?_
    by_cases hx : 0 < sumI p s
    · have:=sumI_per hc h hh hx; omega
    · have:=sumI_it hp h (perP p).toNat; omega
end Go.Proofs.YtdkoindoljngmaaGreat
namespace Go.Proofs.YtdkoindoljngmaaGreat
open Go Go.Lft
set_option linter.unusedSimpArgs false
set_option linter.unusedVariables false
attribute [local congr] ob_congr bw_congr ib_congr ck_congr iwA_congr itA_congr aw_congr awp_congr sqA_congr bkA_congr vr_congr gd_congr
theorem fitE_ok {mt : Nat} {fed xs : List Int} (h : fitE mt fed xs=0) : MixOk mt xs∧∀ x,fed.getD x 0+xs.getD x 0≤1073741824∨mt≤x:=by
  have h1:=(fitE_zero h).2
  have hl:=(fitE_zero h).1
  refine ⟨h1,fun x=>?_⟩
  by_cases hx : x < mt
  · left
    unfold fitE at h
    split at h
    · cases h
    split at h
    · cases h
    split at h
    · cases h
    rename_i h3
    apply Classical.byContradiction
    intro hc
    exact h3 ⟨x,by omega,by omega⟩
  · right; omega
theorem feed_tot {p : Pl} (ok : POk p) {s : Sy} (h : Gd p s) {xs : List Int} (hx : xs.length=p.mt) (x : Nat) : tot p (feedS p s xs) x=tot p s x+xs.getD x 0:=by
  have hfd:=ok.fd
  have ht : p.fd.toNat < p.ms.length:=by omega
  have h1 : befT p (feedS p s xs) x=befT p s x+xs.getD x 0:=by
    unfold befT
    rw [sm_upd (fun m=>(s.bef m).getD x 0) (fun m=>((feedS p s xs).bef m).getD x 0) ht fun j hj _=>by simp only [feedS]; rw [updF_ne _ _ hj]]
    simp only [feedS,updF_same]
    rw [plus_get (h.bl _ ht).1 hx]; omega
  have h2 : fstT p (feedS p s xs) x=fstT p s x:=rfl
  have h3 : rngT p (feedS p s xs) x=rngT p s x:=rfl
  unfold tot; omega
def Iv (p : Pl) (s : Sy) : Prop:=Gd p s∧∀ x,tot p s x≤s.fed.getD x 0
theorem Iv.new (p : Pl) : Iv p (newS p):=⟨Gd.new p,fun x=>by rw [new_tot]; show (0 : Int)≤(zeros p.mt).getD x 0; rw [zeros_get]; exact Int.le_refl _⟩
theorem Iv.feed {p : Pl} (ok : POk p) {s : Sy} (h : Iv p s) {xs : List Int} (he : fitE p.mt s.fed xs=0) : Iv p (feedS p s xs):=by
  obtain ⟨g,hf⟩:=h
  obtain ⟨e1,e2⟩:=fitE_ok he
  have hfd:=ok.fd
  have ht : p.fd.toNat < p.ms.length:=by omega
  have hfed : ∀ x,(plusM s.fed xs).getD x 0=s.fed.getD x 0+xs.getD x 0:=fun x=>plus_get g.fd.1 e1.1 x
  have hbd : ∀ x,s.fed.getD x 0+xs.getD x 0≤1073741824:=fun x=>by
    rcases e2 x with h1 | h1
    · exact h1
    · rw [get_out g.fd.1 h1,get_out e1.1 h1]; omega
  refine ⟨⟨fun m hm=>?_,g.fl,g.rl,g.ps,g.hl,⟨by show (plusM s.fed xs).length=_; rw [plusM_len]; exact g.fd.1,fun x=>?_⟩,fun x=>?_⟩,fun x=>?_⟩
  · simp only [feedS]
    by_cases e : m=p.fd.toNat
    · rw [e,updF_same]
      have hb:=g.bl _ ht
      refine ⟨by rw [plusM_len]; exact hb.1,fun x=>?_⟩
      rw [plus_get hb.1 e1.1]
      have:=hb.2 x
      have:=(e1.2 x).1
      omega
    · rw [updF_ne _ _ e]; exact g.bl m hm
  · simp only [feedS]; rw [hfed]
    have:=hbd x
    have:=(g.fd.2 x).1
    have:=(e1.2 x).1
    omega
  · rw [feed_tot ok g e1.1]
    have:=hf x
    have:=hbd x
    omega
  · rw [feed_tot ok g e1.1]
    show _≤(plusM s.fed xs).getD x 0
    rw [hfed]
    have:=hf x
    omega
theorem take_tot {p : Pl} {s : Sy} (h : Gd p s) {m : Int} {xs : List Int} (he : takE p s m xs=0) (x : Nat) : tot p (takS s m xs) x=tot p s x - xs.getD x 0∧xs.length=p.mt∧0≤xs.getD x 0∧xs.getD x 0≤(s.bef m.toNat).getD x 0∧(m.toNat < p.ms.length∧0≤m)∧(dnM (s.bef m.toNat) xs xs.length).getD x 0=(s.bef m.toNat).getD x 0 - xs.getD x 0:=by
  unfold takE at he
  split at he
  · contradiction
  rename_i h1
  split at he
  · cases he
  rename_i h2
  split at he
  · cases he
  rename_i h3
  have hm : 0≤m∧m.toNat < p.ms.length:=by
    have h0:=Classical.not_not.1 h1
    unfold fndE at h0
    split at h0
    · cases h0
    · omega
  have hl : xs.length=p.mt:=by omega
  have hb:=h.bl _ hm.2
  have hd : (dnM (s.bef m.toNat) xs xs.length).getD x 0=(s.bef m.toNat).getD x 0 - xs.getD x 0:=by
    by_cases hx : x < p.mt
    · rw [dnM_get _ _ _ _ (by omega),if_pos (by omega)]
    · rw [get_out (n:=p.mt) (by rw [dnM_len]; exact hb.1) (by omega),get_out hb.1 (by omega),get_out hl (by omega)]; rfl
  have hxs : 0≤xs.getD x 0∧xs.getD x 0≤(s.bef m.toNat).getD x 0:=by
    by_cases hx : x < xs.length
    · have : ¬ badT (s.bef m.toNat) xs x:=fun hc=>h3 ⟨x,hx,hc⟩
      unfold badT at this; omega
    · rw [get_out rfl (by omega)]
      have:=hb.2 x
      omega
  refine ⟨?_,hl,hxs.1,hxs.2,⟨hm.2,hm.1⟩,hd⟩
  have h1 : befT p (takS s m xs) x=befT p s x - xs.getD x 0:=by
    unfold befT
    rw [sm_upd (fun m=>(s.bef m).getD x 0) (fun j=>((takS s m xs).bef j).getD x 0) hm.2 fun j hj _=>by simp only [takS]; rw [updF_ne _ _ hj]]
    simp only [takS,updF_same]
    rw [hd]; omega
  have h2 : fstT p (takS s m xs) x=fstT p s x:=rfl
  have h3 : rngT p (takS s m xs) x=rngT p s x:=rfl
  unfold tot; omega
theorem Iv.take {p : Pl} {s : Sy} (h : Iv p s) {m : Int} {xs : List Int} (he : takE p s m xs=0) : Iv p (takS s m xs):=by
  obtain ⟨g,hf⟩:=h
  have ht:=fun x=>take_tot g he x
  refine ⟨⟨fun j hj=>?_,g.fl,g.rl,g.ps,g.hl,g.fd,fun x=>?_⟩,fun x=>?_⟩
  · simp only [takS]
    by_cases e : j=m.toNat
    · rw [e,updF_same]
      have hb:=g.bl _ (ht 0).2.2.2.2.1.1
      refine ⟨by rw [dnM_len]; exact hb.1,fun x=>?_⟩
      have:=ht x
      rw [this.2.2.2.2.2]; omega
    · rw [updF_ne _ _ e]; exact g.bl j hj
  · have:=ht x
    have:=g.tt x
    omega
  · have:=ht x
    have:=hf x
    show _≤s.fed.getD x 0
    omega
theorem Iv.halt {p : Pl} {s : Sy} (h : Iv p s) (m : Int) (b : Bool) : Iv p (hltS s m b):=⟨⟨h.1.bl,h.1.fl,h.1.rl,h.1.ps,by simp only [hltS,List.length_set]; exact h.1.hl,h.1.fd,h.1.tt⟩,h.2⟩
theorem Iv.it {p : Pl} (hp : pcheck p=0) {s : Sy} (h : Iv p s) (k : Nat) : Iv p (itS p s k):=by
  obtain ⟨g1,g2,g3,g4⟩:=h.1.it hp k
  exact ⟨g1,fun x=>by rw [g2,g4]; exact h.2 x⟩
theorem run_e {H : List Blk} {p : Pl} {ad : Ad} {s : Sy} (hp : pcheck p = 0) (h : PM H p ad s) (hg : Iv p s) (n : Nat) (hn : n ≤ 100000) :
    VR P false n_plant_Plant_Run [.lp (ad .root).1 0 0,.v (.int .i64 n)] H (fun r H'=>r=.v (.int .i64 0)∧∃ (s' : Sy) (ad' : Ad),PM H' p ad' s'∧Tr p H ad H' ad'∧Iv p s'∧Eqv p s' (itS p s n)) :=
  (run_m hp h hg.1 n hn).mono fun r H' ⟨h1,k,ad',h2,h3,h4,h5⟩=>⟨h1,itS p s k,ad',h3,h4,hg.it hp k,run_eqv hp hg.1 h2 h5⟩
def feedR (p : Pl) (s : Sy) (xs : List Int) : Sy:=if fitE p.mt s.fed xs=0 then feedS p s xs else s
theorem Iv.feedR {p : Pl} (ok : POk p) {s : Sy} (h : Iv p s) (xs : List Int) : Iv p (feedR p s xs):=by
  unfold Go.Proofs.YtdkoindoljngmaaGreat.feedR
  split
  · rename_i he; exact h.feed ok he
  · exact h
theorem feed_s {j v : Nat} {H : List Blk} {p : Pl} {ad : Ad} {s : Sy} (hp : pcheck p = 0) (h : PM H p ad s) (hg : Iv p s) {xs : List Int} (hj : blkAt H j v = some (ints xs)) (hj2 : ¬ ftp p ad j) :
    VR P false n_plant_Plant_Feed [.lp (ad .root).1 0 0,.sl j v 1 0 xs.length] H (fun r H'=>r=.v (.int .i64 (fitE p.mt s.fed xs))∧PM H' p ad (feedR p s xs)∧Tr p H ad H' ad):=by
  unfold feedR
  by_cases he : fitE p.mt s.fed xs=0
  · rw [if_pos he,he]; exact feed_sl hp h hg.1 hj hj2 he
  · rw [if_neg he]
    exact (feed_sl_err hp h hg.1 hj hj2 he).mono fun r H' ⟨h1,h2⟩=>⟨h1,h2▸h,h2▸Tr.refl _ _⟩
def loopP : Pl:=⟨1,[[[600,400]],[[]]],[⟨0,0,1,1⟩,⟨0,1,0,2⟩],0⟩
theorem PM.nftp {H : List Blk} {p : Pl} {ad : Ad} {s : Sy} (h : PM H p ad s) {j : Nat} (hj : H.length≤j) : ¬ ftp p ad j:=by
  rintro ⟨c,hc,he⟩
  have:=h.lt hc
  omega
theorem nftp_lo {p : Pl} {ad : Ad} {n j : Nat} (h : ∀ c,usd p c=true→n≤(ad c).1) (hj : j < n) : ¬ ftp p ad j:=by
  rintro ⟨c,hc,he⟩
  have:=h c hc
  omega
def litP (p : Pl) : Prop:=p.ms.length≤12∧p.bs.length≤24
instance (p : Pl) : Decidable (litP p):=inferInstanceAs (Decidable (_∧_))
theorem sum35_vr {w : Bool} (xs : List Int) (hl : xs.length≤1000) (hb : ∀ x,0≤xs.getD x 0∧xs.getD x 0≤1073741824) : VR P false n_ref35_Total [.fs w (ints xs)] [] (isR (.v (.int .i64 (sm xs.length fun x=>xs.getD x 0)))):=by
  refine vr_ref35_Total (by simp) (.inr rfl) fun _ _=>?_
  have bd : ∀ k,k≤xs.length→0≤sm k (fun x=>xs.getD x 0)∧sm k (fun x=>xs.getD x 0)≤k*1073741824:=by
    intro k
    induction k with
    | zero=>intro _; simp [sm]
    | succ k ih =>
      intro hk
      have h1:=ih (by omega)
      have h2:=hb k
      simp only [sm]; omega
  simp (disch:=((try simp only [lZ]); omega)) only [aZ,aM,s_ref35_Total,v_ref35_Total]
  refine AWP.loopP g_ref35_Total_0 (fun k : Nat=>k≤xs.length) (fun k=>[(2,.v (.int .i64 (sm k fun x=>xs.getD x 0))),(3,.v (.int .i64 k))]) (fun _=>[]) (fun k=>xs.length - k) 0 (by omega) ?_ ?_
  · exact Cut.fg (by simp (disch:=first | omega | simp (disch:=omega) only [aG,aM]) only [fZ,aM,fgl_nil,fgl_cons,or_true,true_or,sm])
  rintro k hk
  have h1:=bd k hk
  by_cases hlt : k < xs.length
  · have h2:=hb k
    simp (disch:=((try simp only [lZ]); omega)) only [aZ,aM]
    refine ⟨k+1,by omega,by omega,?_⟩
    simp only [sm]
    try simp (disch:=((try simp only [lZ]); omega)) only [aZ,aM]
    exact Cut.fg (by simp (disch:=first | omega | simp (disch:=omega) only [aG,aM]) only [fZ,aM,fgl_nil,fgl_cons,or_true,true_or])
  · have hke : k=xs.length:=by omega
    subst hke
    simp (disch:=((try simp only [lZ]); omega)) only [aZ,aM,r_ref35_Total]
    exact post_v ⟨rfl,rfl⟩
theorem insL_len (p : Pl) (s : Sy) : (insL p s).length=p.mt:=tb_len _ _
theorem insL_sum (p : Pl) (s : Sy) : sm (insL p s).length (fun x=>(insL p s).getD x 0)=sumI p s:=by
  rw [insL_len]
  exact sm_congr fun x hx=>tb_get _ _ _ hx
theorem insL_bd {p : Pl} {s : Sy} (h : Gd p s) (x : Nat) : 0≤(insL p s).getD x 0∧(insL p s).getD x 0≤1073741824:=by
  by_cases hx : x < p.mt
  · rw [show (insL p s).getD x 0=insT p s x from tb_get _ _ _ hx]
    have:=ins_tot h x
    have:=h.tt x
    omega
  · rw [get_out (insL_len p s) (by omega)]; omega
theorem sumI_vr {w : Bool} {p : Pl} {s : Sy} (hm : p.mt≤16) (h : Gd p s) : VR P false n_ref35_Total [.fs w (ints (insL p s))] [] (isR (.v (.int .i64 (sumI p s)))):=by
  have:=sum35_vr (w:=w) (insL p s) (by rw [insL_len]; omega) (insL_bd h)
  rwa [insL_sum] at this
theorem Eqv.sumI {p : Pl} {s t : Sy} (h : Eqv p s t) : sumI p s=sumI p t:=sm_congr fun x _=>h.ins x
theorem noH_new (p : Pl) : noH (newS p):=fun m=>by
  simp only [newS,List.getD_eq_getElem?_getD,List.getElem?_replicate]
  split<;>rfl
theorem noH_eqv {p : Pl} {s t : Sy} (h : Eqv p s t) (ht : noH t) : noH s:=fun m=>by rw [h.hal]; exact ht m
theorem noH_feed {p : Pl} {s : Sy} (xs : List Int) (h : noH s) : noH (feedR p s xs):=by
  unfold feedR; split<;>exact h

structure Two (K : List Blk) (p : Pl) (a : Ad) (s : Sy) (b : Ad) (t : Sy) : Prop where
  l : PM K p a s
  r : PM K p b t
  d : ∀ i,ftp p a i→¬ ftp p b i
theorem ftp_lt {K : List Blk} {p : Pl} {a : Ad} {s : Sy} (h : PM K p a s) {i : Nat} (hi : ftp p a i) : i < K.length:=by
  obtain ⟨c,hc,rfl⟩:=hi; exact h.lt hc
theorem Two.swap {K : List Blk} {p : Pl} {a b : Ad} {s t : Sy} (h : Two K p a s b t) : Two K p b t a s:=⟨h.r,h.l,fun i hb ha=>h.d i ha hb⟩
theorem Two.left {K K' : List Blk} {p : Pl} {a b a' : Ad} {s t s' : Sy} (h : Two K p a s b t) (hP : PM K' p a' s') (hT : Tr p K a K' a') : Two K' p a' s' b t :=
  ⟨hP,h.r.gr hT.1 fun c hc hf=>h.d _ hf ⟨c,hc,rfl⟩,fun i ha hb=>by
    rcases hT.2.1 i ha with h1 | h1
    · have:=ftp_lt h.r hb; omega
    · exact h.d i h1 hb⟩
theorem Two.right {K K' : List Blk} {p : Pl} {a b b' : Ad} {s t t' : Sy} (h : Two K p a s b t) (hP : PM K' p b' t') (hT : Tr p K b K' b') : Two K' p a s b' t':=(h.swap.left hP hT).swap
theorem Two.gr {K K' : List Blk} {p : Pl} {a b : Ad} {s t : Sy} (h : Two K p a s b t) (g : Gr nof K K') : Two K' p a s b t:=⟨h.l.gr g fun _ _ h=>h,h.r.gr g fun _ _ h=>h,h.d⟩
theorem Eqv.feedR {p : Pl} (ok : POk p) {s t : Sy} (h : Eqv p s t) (xs : List Int) : Eqv p (feedR p s xs) (feedR p t xs):=by
  unfold Go.Proofs.YtdkoindoljngmaaGreat.feedR
  rw [h.fed]
  split
  · have hfd:=ok.fd
    refine ⟨fun m hm=>?_,h.slt,h.hal,?_⟩
    · simp only [feedS]
      by_cases e : m=p.fd.toNat
      · rw [e,updF_same,updF_same,h.bef _ (by omega)]
      · rw [updF_ne _ _ e,updF_ne _ _ e]; exact h.bef m hm
    · simp only [feedS,h.fed]
  · exact h
structure Op where
  k : Int
  m : Int
  n : Int
  mx : List Int
def opC (o : Op) : List A:=[.v (.int .i64 o.k),.v (.int .i64 o.m),.v (.int .i64 o.n),.fs true (ints o.mx)]
def opA (o : Op) : A:=.agg (opC o)
def ops (l : List Op) : List A:=l.map opA
theorem ref35Bin_vr {w v : Bool} (p : Pl) (m : Nat) (hm : m < p.ms.length) : VR P false n_ref35_Bin [plA w v p,.v (.int .i64 m)] [] (isR (.v (.bool (decide (binN p m))))):=by
  refine vr_ref35_Bin (by simp) (.inr rfl) fun _ _=>?_
  unfold plA plC binN
  simp (disch:=((try simp only [lZ]); omega)) only [aZ,aM,s_ref35_Bin,v_ref35_Bin]
  refine (refOuts_vr (w:=w) (p.ms.getD m [])).same (by unfold mcA mcC; simp (disch:=first | omega | simp (disch:=omega) only [aG,aM]) only [fZ,aM]) rfl (aret_of ?_)
  simp (disch:=((try simp only [lZ]); omega)) only [aZ,aM,r_ref35_Bin]
  refine post_v ⟨?_,rfl⟩
  congr 3
  simp
end Go.Proofs.YtdkoindoljngmaaGreat
namespace Go.Proofs.YtdkoindoljngmaaGreat
open Go Go.Lft
set_option linter.unusedSimpArgs false
set_option linter.unusedVariables false

end Go.Proofs.YtdkoindoljngmaaGreat
namespace Go.Proofs.YtdkoindoljngmaaGreat
open Go Go.Lft
set_option linter.unusedSimpArgs false
set_option linter.unusedVariables false
attribute [local congr] ob_congr bw_congr ib_congr ck_congr iwA_congr itA_congr aw_congr awp_congr sqA_congr bkA_congr vr_congr gd_congr
def tbK (n : Nat) (f : Nat→Int) (k : Nat) : List Int:=tb n fun x=>if x < k then f x else 0
theorem tbK_len (n : Nat) (f : Nat→Int) (k : Nat) : (tbK n f k).length=n:=tb_len _ _
theorem tbK_zero (n : Nat) (f : Nat→Int) : tbK n f 0=zeros n:=by rw [tb_zero]; exact tb_ext fun x _=>by simp
theorem tbK_set (n : Nat) (f : Nat→Int) (k : Nat) (h : k < n) : (tbK n f k).set k (f k)=tbK n f (k+1):=by
  refine eq_of_getB 0 (by simp [tbK_len]) fun i hi=>?_
  simp only [List.length_set,tbK_len] at hi
  unfold tbK
  rw [getD_seti,tb_get _ _ _ hi,tb_get _ _ _ hi,tb_len]
  by_cases hik : i=k
  · subst hik; rw [if_pos ⟨rfl,h⟩,if_pos (by omega)]
  · rw [if_neg (fun hc=>hik hc.1.symm)]
    by_cases hlt : i < k
    · rw [if_pos hlt,if_pos (by omega)]
    · rw [if_neg hlt,if_neg (by omega)]
theorem tbK_same (n : Nat) (f : Nat→Int) (k : Nat) (h : k < n) (hz : f k=0) : tbK n f k=tbK n f (k+1):=by
  refine tb_ext fun x _=>?_
  by_cases hx : x=k
  · subst hx; rw [if_neg (by omega),if_pos (by omega),hz]
  · by_cases hlt : x < k
    · rw [if_pos hlt,if_pos (by omega)]
    · rw [if_neg hlt,if_neg (by omega)]
theorem tbK_all (n : Nat) (f : Nat→Int) : tbK n f n=tb n f:=tb_ext fun x hx=>by rw [if_pos hx]
theorem fit_small {mt : Nat} (h16 : mt≤16) {fed : List Int} {f : Nat→Int} {c bd : Int} (hf : ∀ x,x < mt→0≤f x∧f x≤c) (hb : ∀ x,fed.getD x 0≤bd) (h : bd+c≤1073741824∧c≤1073741824) : fitE mt fed (tb mt f)=0:=by
  unfold fitE
  rw [if_neg (by rw [tb_len]; omega),if_neg,if_neg]
  · rintro ⟨i,hi,h3⟩
    rw [tb_len] at hi
    rw [tb_get _ _ _ hi] at h3
    have:=hf i hi
    have:=hb i
    omega
  · refine fun hc=>hc (mixE_ok.2 ⟨by rw [tb_len]; exact h16,fun x hx=>?_⟩)
    obtain ⟨i,hi,rfl⟩:=get_mem 0 hx
    rw [tb_len] at hi
    rw [tb_get _ _ _ hi]
    have:=hf i hi
    omega
structure DInv (p : Pl) (a : Ad) (s : Sy) (bd : Int) (K : List Blk) : Prop where
  pm : PM K p a s
  iv : Iv p s
  nh : noH s
  b0 : blkAt K 0 0=some [.v (.int .i64 p.mt),.fs true (mcs true p.ms),.fs true (bts p.bs),.v (.int .i64 p.fd)]
  n0 : ¬ ftp p a 0
  eq : ∀ x,tot p s x=s.fed.getD x 0
  fd : ∀ x,s.fed.getD x 0≤bd
theorem DInv.gr {p : Pl} {a : Ad} {s : Sy} {bd : Int} {K K' : List Blk} (h : DInv p a s bd K) (g : Gr nof K K') : DInv p a s bd K' :=
  ⟨h.pm.gr g fun _ _ h=>h,h.iv,h.nh,g.at h.b0 fun h=>h,h.n0,h.eq,h.fd⟩
theorem feedR_dif' {p : Pl} (ok : POk p) {s : Sy} (h : Iv p s) (xs : List Int) (x : Nat) : tot p (feedR p s xs) x - (feedR p s xs).fed.getD x 0=tot p s x - s.fed.getD x 0:=by
  unfold feedR
  split
  · rename_i he
    obtain ⟨e1,e2⟩:=fitE_ok he
    rw [feed_tot ok h.1 e1.1]
    show _ - (plusM s.fed xs).getD x 0=_
    rw [plus_get h.1.fd.1 e1.1]; omega
  · rfl
theorem DInv.feed {p : Pl} (ok : POk p) {a : Ad} {s : Sy} {bd c : Int} {K K' : List Blk} (h : DInv p a s bd K) {xs : List Int} (he : fitE p.mt s.fed xs=0) (hx : ∀ x,xs.getD x 0≤c) (hP : PM K' p a (feedR p s xs)) (hT : Tr p K a K' a) : DInv p a (feedR p s xs) (bd+c) K':=by
  have k:=hT.keep h.b0 h.n0
  refine ⟨hP,h.iv.feedR ok xs,noH_feed xs h.nh,k.1,k.2,fun x=>by have:=feedR_dif' ok h.iv xs x; have:=h.eq x; omega,fun x=>?_⟩
  unfold feedR
  rw [if_pos he]
  show (plusM s.fed xs).getD x 0≤_
  rw [plus_get h.iv.1.fd.1 (fitE_ok he).1.1]
  have:=h.fd x
  have:=hx x
  omega
theorem DInv.run {p : Pl} (hp : pcheck p=0) {a a' : Ad} {s s' : Sy} {bd : Int} {K K' : List Blk} (h : DInv p a s bd K) {n : Nat} (hP : PM K' p a' s') (hT : Tr p K a K' a') (hI : Iv p s') (hE : Eqv p s' (itS p s n)) : DInv p a' s' bd K':=by
  have k:=hT.keep h.b0 h.n0
  obtain ⟨g1,g2,g3,g4⟩:=h.iv.1.it hp n
  have ef : s'.fed=s.fed:=hE.fed.trans g4
  exact ⟨hP,hI,noH_eqv hE (noH_it hp h.iv.1 h.nh n),k.1,k.2,fun x=>by rw [hE.tot x,g2 x,ef]; exact h.eq x,fun x=>by rw [ef]; exact h.fd x⟩
theorem sumI_le {p : Pl} {s : Sy} {bd : Int} (hg : Gd p s) (he : ∀ x,tot p s x=s.fed.getD x 0) (hf : ∀ x,s.fed.getD x 0≤bd) (h0 : 0≤bd) (h16 : p.mt≤16) : 0≤sumI p s∧sumI p s≤16*bd:=by
  refine ⟨sumI_nn hg,?_⟩
  have : ∀ n,sm n (insT p s)≤n*bd:=by
    intro n
    induction n with
    | zero=>simp [sm]
    | succ n ih =>
      simp only [sm]
      have h1:=(ins_tot hg n).1
      have h2:=he n
      have h3:=hf n
      have h4 : ((n+1 : Nat) : Int)*bd=n*bd+bd:=by rw [Int.natCast_add,Int.add_mul]; simp
      omega
  have h1:=this p.mt
  have h2 : (p.mt : Int)*bd≤16*bd:=Int.mul_le_mul_of_nonneg_right (by omega) h0
  unfold sumI; omega
structure CInv (p : Pl) (a : Ad) (s : Sy) (tk : List Int) (T : Nat) (K : List Blk) : Prop where
  pm : PM K p a s
  iv : Iv p s
  b0 : blkAt K 0 0=some [.v (.int .i64 p.mt),.fs true (mcs true p.ms),.fs true (bts p.bs),.v (.int .i64 p.fd)]
  n0 : ¬ ftp p a 0
  bT : blkAt K T 0=some (ints tk)
  nT : ¬ ftp p a T
  T0 : 0 < T
  len : tk.length=p.mt
  sum : ∀ x,tot p s x+tk.getD x 0=s.fed.getD x 0
  nn : ∀ x,0≤tk.getD x 0
theorem CInv.grow {p : Pl} {a : Ad} {s : Sy} {tk : List Int} {T : Nat} {K : List Blk} (h : CInv p a s tk T K) (G : List Blk) : CInv p a s tk T (K++G) :=
  ⟨h.pm.grow G,h.iv,by rw [blkAt_app _ _ _ _ (blkAt_lt h.b0)]; exact h.b0,h.n0,by rw [blkAt_app _ _ _ _ (blkAt_lt h.bT)]; exact h.bT,h.nT,h.T0,h.len,h.sum,h.nn⟩
theorem CInv.step {p : Pl} {a a' : Ad} {s s' : Sy} {tk : List Int} {T : Nat} {K K' : List Blk} (h : CInv p a s tk T K) (hP : PM K' p a' s') (hI : Iv p s') (hT : Tr p K a K' a') (hd : ∀ x,tot p s' x - s'.fed.getD x 0=tot p s x - s.fed.getD x 0) : CInv p a' s' tk T K':=by
  have h1:=hT.keep h.b0 h.n0
  have h2:=hT.keep h.bT h.nT
  exact ⟨hP,hI,h1.1,h1.2,h2.1,h2.2,h.T0,h.len,fun x=>by have:=h.sum x; have:=hd x; omega,h.nn⟩
end Go.Proofs.YtdkoindoljngmaaGreat
namespace Go.Lft
open Go
theorem AWP.seq {P : Program} {n0 : Nat} {a b : S} {Q : QA} {e : List A} {H : List Blk} (h : AWP P n0 a (fun x e H=>match x with | .nxt=>AWP P n0 b Q e H | x=>Q x e H) e H) : AWP P n0 (.seq a b) Q e H:=fun c ev hH hn hs he=>by
  subst hH
  refine S.wp_mono a (fun x e' h' hq=>?_) (h c ev rfl hn hs he)
  obtain ⟨e2,d,rfl,h2,h3,h4,h5⟩:=hq
  cases x with
  | nxt=>exact S.wp_mono b (fun x e' h'' hq=>hq.up h3) (h2 d _ rfl (h3.len hn) h4 h5)
  | exit i=>exact ⟨e2,d,rfl,h2,h3,h4,h5⟩
  | ret=>exact ⟨e2,d,rfl,h2,h3,h4,h5⟩
def S.pre : Nat→S→S
  | n+1,.set i x k=>.set i x (k.pre n)
  | n+1,.chk x k=>.chk x (k.pre n)
  | n+1,.eff kp d f k=>.eff kp d f (k.pre n)
  | _,_=>.nxt
def S.post : Nat→S→S
  | n+1,.set _ _ k=>k.post n
  | n+1,.chk _ k=>k.post n
  | n+1,.eff _ _ _ k=>k.post n
  | _,s=>s
theorem wp_chain {P : Program} : ∀ (n : Nat) (s : S) {Q : Ex→List Value→Heap→Prop} {e : List Value} {h : Heap},(S.seq (s.pre n) (s.post n)).wp P Q e h→s.wp P Q e h
  | 0,s,Q,e,h,hw=>by cases s<;>exact hw
  | n+1,s,Q,e,h,hw=>by
    cases s with
    | set i x k=>obtain ⟨v,h1,h2⟩:=hw; exact ⟨v,h1,wp_chain n k h2⟩
    | chk x k=>obtain ⟨v,h1,h2⟩:=hw; exact ⟨v,h1,wp_chain n k h2⟩
    | eff kp d f k=>exact E.ok_mono (R:=fun v h'=>(kp=true→Ext h h')∧(S.seq (k.pre n) (k.post n)).wp P Q (put e d v) h') (fun v h' hh=>⟨hh.1,wp_chain n k hh.2⟩) hw
    | _=>exact hw
theorem AWP.chain {P : Program} {n0 : Nat} {s : S} {Q : QA} {e : List A} {H : List Blk} (n : Nat) (h : (s.pre n).aw P n0 (fun x e H=>match x with | .nxt=>AWP P n0 (s.post n) Q e H | x=>Q x e H) e H) : AWP P n0 s Q e H :=
  fun c ev a1 a2 a3 a4=>wp_chain n s (AWP.seq (aw_sound h) c ev a1 a2 a3 a4)
theorem fzL_all {H : List Blk} {l r : List A} (h : frzL (frzP H 9) l r) : FzL 0 H l r:=frzL_sound (frzP_sound 9) h
end Go.Lft
namespace Go.Proofs.YtdkoindoljngmaaGreat
open Go Go.Lft
set_option linter.unusedSimpArgs false
set_option linter.unusedVariables false
attribute [local congr] ob_congr bw_congr ib_congr ck_congr iwA_congr itA_congr aw_congr awp_congr sqA_congr bkA_congr vr_congr gd_congr
theorem voA {f : Nat} {fn : Func} {V : List Nat} {F : Fun} {nt : Nat} (hf : P.funcs[f]? = some fn) (hc : compF P fn V false = some F) (hn : fn.ntmps = nt) {kp : Bool} {args : List A} {H : List Blk} {R : A → List Blk → Prop} (hlen : args.length ≤ nt) (hk : kp = false ∨ H = [])
    (hw : AWP P H.length F.body (postA H.length F R) (envA V args) H) : VR P kp f args H R :=
  VR.of (F:=F) (V:=V) (fun hl _ _ hs=>fn_of P_mixed hf hc (by rw [hn]; exact hl) hs) hlen hk fun _ _=>hw
end Go.Proofs.YtdkoindoljngmaaGreat
namespace Go.Proofs.YtdkoindoljngmaaGreat
open Go Go.Lft
set_option linter.unusedSimpArgs false
set_option linter.unusedVariables false
attribute [local congr] ob_congr bw_congr ib_congr ck_congr iwA_congr itA_congr aw_congr awp_congr sqA_congr bkA_congr vr_congr gd_congr

theorem idxE_mem {α : Type} {p : α→Prop} [DecidablePred p] {l : List α} : 0≤idxE p l↔∃ x∈l,p x:=by
  constructor
  · intro h
    have h1:=idxE_ge p l
    cases l with
    | nil=>simp [idxE] at h
    | cons d r=>exact ⟨_,mem_get d (by omega),idxE_at (p:=p) d h⟩
  · rintro ⟨x,h1,h2⟩
    apply Classical.byContradiction; intro hc
    exact idxE_neg (p:=p) (l:=l) (by omega) x h1 h2
def delG (l : Arcs) (r : List Int) : Prop:=r.length=1∧¬ (r.getD 0 0,r.getD 0 0)∈l
instance (l : Arcs) : DecidablePred (delG l):=fun r=>by unfold delG; infer_instance
theorem gcheck_plant {p : Pl} (h : POk p) : gcheck p.ms.length (arcsR p)=0:=by
  unfold gcheck
  have h1:=h.n1
  have h2:=h.n2
  have h3:=h.b2
  have h4:=arcsR_len p
  rw [if_neg (by omega),if_neg (by omega),if_neg]
  rintro ⟨i,hi,hb⟩
  rw [arcsR_get p i (by omega)] at hb
  have:=h.bt _ (mem_get b0 (show i < p.bs.length by omega))
  unfold arcBad at hb
  simp only at hb
  omega
theorem inR_plant {p : Pl} (h : POk p) : inR p.ms.length (arcsR p):=(gcheck_ok (gcheck_plant h)).2.2.2
end Go.Proofs.YtdkoindoljngmaaGreat
namespace Go.Proofs.YtdkoindoljngmaaGreat
open Go Go.Lft
set_option linter.unusedSimpArgs false
set_option linter.unusedVariables false
structure GP (n : Int) (l : Arcs) (G : List (List Int)) : Prop where
  len : G.length≤n.toNat
  rlen : ∀ k,k < G.length→(G.getD k []).length≤n.toNat
  rng : ∀ k,k < G.length→∀ x∈G.getD k [],0≤x∧x < n
  apart : ∀ i k,i < k→k < G.length→∀ x∈G.getD i [],x ∉ G.getD k []
  nd : ∀ k,k < G.length→(G.getD k []).Pairwise (· < ·)
  cover : ∀ x,0≤x→x < n→∃ k,k < G.length∧x∈G.getD k []
  same : ∀ k,k < G.length→∀ x∈G.getD k [],∀ y,0≤y→y < n→(y∈G.getD k []↔both n l x.toNat y.toNat=true)
  ne : ∀ k,k < G.length→G.getD k []≠[]
  cnt : ∀ k,k < G.length→(G.getD k []).length=((List.range n.toNat).filter fun i : Nat=>decide ((i : Int)∈G.getD k [])).length
theorem gp_of {n : Int} {l : Arcs} (hr : inR n l) : GP n l (gst n l n.toNat).2:=by
  have hG:=gst_reps n l n.toNat
  have hlt:=reps_lt n l n.toNat
  have hap:=reps_apart hr n.toNat (Nat.le_refl _)
  have hlen : (gst n l n.toNat).2.length=(reps n l n.toNat).length:=by rw [hG,List.length_map]
  have hget : ∀ k,k < (reps n l n.toNat).length→∃ r,(reps n l n.toNat)[k]?=some r∧r < n.toNat∧(gst n l n.toNat).2.getD k []=memb n l r 0 n.toNat:=fun k hk=>by
    refine ⟨(reps n l n.toNat)[k],by simp [hk],hlt _ (List.getElem_mem hk),?_⟩
    rw [hG,List.getD_eq_getElem?_getD,List.getElem?_map,List.getElem?_eq_getElem hk]; rfl
  refine ⟨gst_len n l n.toNat,fun k hk=>?_,fun k hk x hx=>?_,fun i k hik hk x hx hx'=>?_,fun k hk=>?_,fun x h0 h1=>?_,fun k hk x hx y hy0 hy1=>?_,fun k hk=>?_,fun k hk=>?_⟩
  · obtain ⟨r,_,_,h⟩:=hget k (by omega)
    rw [h]; exact memb_len n l r 0 n.toNat
  · obtain ⟨r,_,_,h⟩:=hget k (by omega)
    rw [h,memb_mem] at hx
    omega
  · obtain ⟨r,g1,g2,h⟩:=hget k (by omega)
    obtain ⟨s,g3,g4,h'⟩:=hget i (by omega)
    rw [h',memb_mem] at hx
    rw [h,memb_mem] at hx'
    obtain ⟨i1,i2⟩:=List.getElem?_eq_some_iff.1 g3
    obtain ⟨k1,k2⟩:=List.getElem?_eq_some_iff.1 g1
    have hf:=List.pairwise_iff_getElem.1 hap i k i1 k1 hik
    rw [i2,k2] at hf
    have:=b_trans hr g4 (by omega) g2 hx.2.2 (b_symm hr g2 (by omega) hx'.2.2)
    rw [hf] at this; cases this
  · obtain ⟨r,_,_,h⟩:=hget k (by omega)
    rw [h]; exact memb_lt n l r 0 n.toNat
  · obtain ⟨r,h2,h3⟩:=reps_cover hr n.toNat (Nat.le_refl _) x.toNat (by omega)
    obtain ⟨k,hk,rfl⟩:=List.mem_iff_getElem.1 h2
    obtain ⟨s,g1,_,h⟩:=hget k hk
    obtain ⟨_,k2⟩:=List.getElem?_eq_some_iff.1 g1
    refine ⟨k,by omega,?_⟩
    rw [h,← k2,memb_mem]
    exact ⟨h0,by omega,h3⟩
  · obtain ⟨r,_,g2,h⟩:=hget k (by omega)
    rw [h,memb_mem] at hx ⊢
    constructor
    · rintro ⟨_,_,h3⟩
      exact b_trans hr (by omega) g2 (by omega) (b_symm hr g2 (by omega) hx.2.2) h3
    · intro h3
      exact ⟨hy0,by omega,b_trans hr g2 (by omega) (by omega) hx.2.2 h3⟩
  · obtain ⟨r,_,g2,h⟩:=hget k (by omega)
    rw [h]
    have : (r : Int)∈memb n l r 0 n.toNat:=memb_mem.2 ⟨by omega,by omega,by rw [Int.toNat_natCast]; exact b_refl hr g2⟩
    intro hc; rw [hc] at this; simp at this
  · obtain ⟨r,_,g2,h⟩:=hget k (by omega)
    rw [h]
    have e : (memb n l r 0 n.toNat).length=((List.range n.toNat).filter fun j=>decide (0≤j) && both n l r j).length:=by unfold memb; rw [List.length_map]
    rw [e]
    refine congrArg List.length (List.filter_congr fun i hi=>?_)
    have hi : i < n.toNat:=by simpa using hi
    have:=memb_mem (n:=n) (l:=l) (r:=r) (b:=n.toNat) (x:=(i : Int))
    rw [Int.toNat_natCast] at this
    rw [Bool.eq_iff_iff,decide_eq_true_eq,this]
    simp; omega
theorem getD_setC {α : Type} (l : List α) (i j : Nat) (y d : α) : (l.set i y).getD j d=if i=j∧j < l.length then y else l.getD j d:=by
  rw [List.getD_eq_getElem?_getD,List.getElem?_set,List.getD_eq_getElem?_getD]
  by_cases h : i=j
  · subst h
    by_cases h2 : i < l.length
    · simp [h2]
    · simp [h2]
  · simp [h]
def ofN (G : List (List Int)) : Nat→Int→Int
  | 0,_=>0
  | k+1,x=>if x∈G.getD k [] then k else ofN G k x
def ofM (G : List (List Int)) (k j : Nat) (x : Int) : Int:=if x∈(G.getD k []).take j then k else ofN G k x
def tabI (n : Nat) (f : Int→Int) : List Int:=(List.range n).map fun i : Nat=>f (i : Int)
theorem tabI_len (n : Nat) (f : Int→Int) : (tabI n f).length=n:=by simp [tabI]
theorem tabI_get (n : Nat) (f : Int→Int) (i : Nat) (h : i < n) : (tabI n f).getD i 0=f i:=by simp [tabI,List.getD_eq_getElem?_getD,h]
theorem tabI_ext {n : Nat} {f g : Int→Int} (h : ∀ i : Nat,i < n→f i=g i) : tabI n f=tabI n g:=List.map_congr_left fun i hi=>h i (by simpa using hi)
theorem tabI_set {n : Nat} (f : Int→Int) (i : Nat) (v : Int) (h : i < n) : (tabI n f).set i v=tabI n fun x=>if x=i then v else f x:=by
  refine eq_of_get 0 (by simp [tabI]) fun j hj=>?_
  rw [List.length_set,tabI_len] at hj
  rw [tabI_get _ _ _ hj,getD_setC,tabI_len,tabI_get _ _ _ hj]
  by_cases hij : i=j
  · subst hij; rw [if_pos ⟨rfl,h⟩,if_pos rfl]
  · rw [if_neg (fun h=>hij h.1),if_neg (by omega)]
theorem tabI_rep (n : Nat) : List.replicate n (0 : Int)=tabI n fun _=>0:=by
  refine eq_of_get 0 (by simp [tabI]) fun j hj=>?_
  simp only [List.length_replicate] at hj
  rw [tabI_get _ _ _ hj]; simp [List.getD_eq_getElem?_getD,hj]
theorem ofM_zero (G : List (List Int)) (k : Nat) (x : Int) : ofM G k 0 x=ofN G k x:=by unfold ofM; simp
theorem ofM_all (G : List (List Int)) (k : Nat) (x : Int) : ofM G k (G.getD k []).length x=ofN G (k+1) x:=by unfold ofM; rw [List.take_length]; rfl
theorem ofM_step (G : List (List Int)) (k j : Nat) (hj : j < (G.getD k []).length) (x : Int) : ofM G k (j+1) x=if x=(G.getD k []).getD j 0 then (k : Int) else ofM G k j x:=by
  unfold ofM
  rw [take_succ_get' _ j 0 hj]
  by_cases hx : x=(G.getD k []).getD j 0
  · rw [if_pos hx,if_pos (by rw [List.mem_append,List.mem_singleton]; exact .inr hx)]
  · rw [if_neg hx]
    have : x∈(G.getD k []).take j++[(G.getD k []).getD j 0]↔x∈(G.getD k []).take j:=by
      rw [List.mem_append,List.mem_singleton]
      exact ⟨fun h=>h.resolve_right hx,.inl⟩
    simp only [this]
section
variable {n : Int} {l : Arcs} {G : List (List Int)} (h : GP n l G)
include h
theorem ofN_at {k : Nat} (hk : k < G.length) {x : Int} (hx : x∈G.getD k []) : ofN G G.length x=k:=by
  have : ∀ j,k < j→j≤G.length→ofN G j x=k:=by
    intro j
    induction j with
    | zero=>intro h1; omega
    | succ j ih =>
      intro h1 h2
      simp only [ofN]
      by_cases hj : k=j
      · subst hj; rw [if_pos hx]
      · rw [if_neg (h.apart k j (by omega) (by omega) x hx),ih (by omega) (by omega)]
  exact this _ hk (Nat.le_refl _)
theorem ofN_mem {x : Int} (h0 : 0≤x) (h1 : x < n) : 0≤ofN G G.length x∧ofN G G.length x < G.length∧x∈G.getD (ofN G G.length x).toNat []:=by
  obtain ⟨k,hk,hx⟩:=h.cover x h0 h1
  rw [ofN_at h hk hx]
  exact ⟨by omega,by omega,by simpa using hx⟩
theorem ofN_iff {x : Int} (h0 : 0≤x) (h1 : x < n) {k : Nat} (hk : k < G.length) : ofN G G.length x=k↔x∈G.getD k []:=by
  obtain ⟨g1,g2,g3⟩:=ofN_mem h h0 h1
  constructor
  · intro he; rw [he] at g3; simpa using g3
  · exact fun hx=>ofN_at h hk hx
end
theorem set_self {H : List Blk} {j ver : Nat} {l : List A} (h : blkAt H j ver=some l) : H.set j ⟨ver,l⟩=H:=by
  obtain ⟨B,h1,h2,h3⟩:=blkAt_iff.1 h
  have : B=⟨ver,l⟩:=by cases B; simp at h2 h3; subst h2; subst h3; rfl
  subst this
  apply List.ext_getElem?
  intro k
  rw [List.getElem?_set]
  split
  · rename_i hk; subst hk; rw [if_pos (blkAt_lt h),h1]
  · rfl
def grp (G : List (List Int)) (m : Int) : List Int:=G.getD (ofN G G.length m).toNat []
def jamP (st r : List Int) : Prop:=∃ x∈r,st.getD x.toNat 0=2
instance (st r : List Int) : Decidable (jamP st r):=by unfold jamP; infer_instance
def blkP (l : Arcs) (r st : List Int) : Prop:=∃ a∈l,a.1∈r∧a.2 ∉ r∧st.getD a.2.toNat 0≠1
instance (l : Arcs) (r st : List Int) : Decidable (blkP l r st):=by unfold blkP; infer_instance
def setG (st r : List Int) (v : Int) : List Int:=r.foldl (fun s x=>s.set x.toNat v) st
theorem setG_nil (st : List Int) (v : Int) : setG st [] v=st:=rfl
theorem setG_snoc (st r : List Int) (x v : Int) : setG st (r++[x]) v=(setG st r v).set x.toNat v:=by unfold setG; rw [List.foldl_append]; rfl
theorem setG_len (v : Int) : ∀ (r st : List Int),(setG st r v).length=st.length
  | [],st=>rfl
  | x :: r,st=>by show (setG (st.set x.toNat v) r v).length=_; rw [setG_len v r]; simp
theorem setG_get (v : Int) (i : Nat) : ∀ (r st : List Int),(∀ x∈r,0≤x)→i < st.length→(setG st r v).getD i 0=if (i : Int)∈r then v else st.getD i 0
  | [],st,_,_=>by simp [setG]
  | x :: r,st,h,hi=>by
    show (setG (st.set x.toNat v) r v).getD i 0=_
    have hx:=h x (by simp)
    rw [setG_get v i r _ (fun y hy=>h y (by simp [hy])) (by simpa using hi)]
    by_cases h1 : (i : Int)∈r
    · rw [if_pos h1,if_pos (by simp [h1])]
    · rw [if_neg h1,getD_setC]
      by_cases h2 : x.toNat=i
      · subst h2
        rw [if_pos ⟨rfl,hi⟩,if_pos (by rw [Int.toNat_of_nonneg hx]; simp)]
      · rw [if_neg (fun h=>h2 h.1),if_neg]
        simp only [List.mem_cons,not_or]
        exact ⟨by omega,h1⟩
def stp (s : Int) : Int:=if s=1 then 0 else s
def stopF (B : List Bool) (st : List Int) (k : Nat) : List Int:=tabI st.length fun i=>if i < k∧B.getD i.toNat false=true then stp (st.getD i.toNat 0) else st.getD i.toNat 0
theorem stopF_len (B : List Bool) (st : List Int) (k : Nat) : (stopF B st k).length=st.length:=tabI_len _ _
theorem stopF_get (B : List Bool) (st : List Int) (k i : Nat) (h : i < st.length) : (stopF B st k).getD i 0=if i < k∧B.getD i false=true then stp (st.getD i 0) else st.getD i 0:=by
  unfold stopF; rw [tabI_get _ _ _ h,Int.toNat_natCast]; simp only [Int.ofNat_lt]
theorem stopF_zero (B : List Bool) (st : List Int) : stopF B st 0=st:=by
  refine eq_of_get 0 (stopF_len _ _ _) fun i hi=>?_
  rw [stopF_len] at hi
  rw [stopF_get _ _ _ _ hi,if_neg (by omega)]
theorem stopF_succ (B : List Bool) (st : List Int) (k : Nat) (h : k < st.length) : stopF B st (k+1)=if B.getD k false=true then (stopF B st k).set k (stp (st.getD k 0)) else stopF B st k:=by
  refine eq_of_get 0 (by split<;>simp [stopF_len]) fun i hi=>?_
  rw [stopF_len] at hi
  rw [stopF_get _ _ _ _ hi]
  by_cases hb : B.getD k false=true
  · rw [if_pos hb,getD_setC,stopF_len,stopF_get _ _ _ _ hi]
    by_cases hik : k=i
    · subst hik; rw [if_pos ⟨by omega,hb⟩,if_pos ⟨rfl,hi⟩]
    · rw [if_neg (c:=k=i∧i < st.length) (fun h=>hik h.1)]
      by_cases hi2 : i < k+1∧B.getD i false=true
      · rw [if_pos hi2,if_pos ⟨by omega,hi2.2⟩]
      · rw [if_neg hi2,if_neg (fun h=>hi2 ⟨by omega,h.2⟩)]
  · rw [if_neg hb,stopF_get _ _ _ _ hi]
    by_cases hik : i=k
    · subst hik; rw [if_neg (fun h=>hb h.2),if_neg (fun h=>hb h.2)]
    · by_cases hi2 : i < k+1∧B.getD i false=true
      · rw [if_pos hi2,if_pos ⟨by omega,hi2.2⟩]
      · rw [if_neg hi2,if_neg (fun h=>hi2 ⟨by omega,h.2⟩)]
theorem stopF_at (B : List Bool) (st : List Int) (k : Nat) (h : k < st.length) : (stopF B st k).getD k 0=st.getD k 0:=by
  rw [stopF_get _ _ _ _ h,if_neg (by omega)]
structure Cn where
  n : Nat
  l : Arcs
def Cn.G (c : Cn) : List (List Int):=(gst c.n c.l c.n).2
def Cn.bk (c : Cn) (m : Int) : List Bool:=reachL c.n (backL c.l) m
def Cn.bad (c : Cn) (m : Int) : Prop:=m < 0∨(c.n : Int)≤m
instance (c : Cn) (m : Int) : Decidable (c.bad m):=by unfold Cn.bad; infer_instance
def startR (c : Cn) (st : List Int) (m : Int) : Int×List Int :=
  if c.bad m then (7,st) else if jamP st (grp c.G m) then (24,st) else if blkP c.l (grp c.G m) st then (13,st) else (0,setG st (grp c.G m) 1)
def stopL (c : Cn) (st : List Int) (m : Int) : List Int:=stopF (c.bk m) st c.n
def stopR (c : Cn) (st : List Int) (m : Int) : Int×List Int:=if c.bad m then (7,st) else (0,stopL c st m)
def jamR (c : Cn) (st : List Int) (m : Int) : Int×List Int:=if c.bad m then (7,st) else (0,(stopL c st m).set m.toNat 2)
def clearR (c : Cn) (st : List Int) (m : Int) : Int×List Int:=if c.bad m then (7,st) else if st.getD m.toNat 0≠2 then (13,st) else (0,st.set m.toNat 0)
def stateR (c : Cn) (st : List Int) (m : Int) : Int×Int:=if c.bad m then (0,7) else (st.getD m.toNat 0,0)
def unsP (st : List Int) (a : Int×Int) : Prop:=st.getD a.1.toNat 0=1∧st.getD a.2.toNat 0≠1
instance (st : List Int) : DecidablePred (unsP st):=fun a=>by unfold unsP; infer_instance
def safeP (c : Cn) (st : List Int) : Prop:=∀ a∈c.l,¬ unsP st a
instance (c : Cn) (st : List Int) : Decidable (safeP c st):=by unfold safeP; infer_instance
def actR (c : Cn) (st : List Int) (a : Int×Int) : Int×List Int:=if a.1=0 then startR c st a.2 else if a.1=1 then stopR c st a.2 else if a.1=2 then jamR c st a.2 else clearR c st a.2
theorem stopL_len (c : Cn) (st : List Int) (m : Int) : (stopL c st m).length=st.length:=stopF_len _ _ _
end Go.Proofs.YtdkoindoljngmaaGreat
namespace Go.Proofs.YtdkoindoljngmaaGreat
open Go Go.Lft
set_option linter.unusedSimpArgs false
set_option linter.unusedVariables false
attribute [local congr] ob_congr bw_congr ib_congr ck_congr iwA_congr itA_congr aw_congr awp_congr sqA_congr bkA_congr vr_congr gd_congr
def cnP (p : Pl) : Cn:=⟨p.ms.length,arcsR p⟩
def Cn.of (c : Cn) : List Int:=tabI c.n (ofN c.G c.G.length)
theorem Cn.of_len (c : Cn) : c.of.length=c.n:=tabI_len _ _
structure CnOk (c : Cn) : Prop where
  gp : GP c.n c.l c.G
  r : inR c.n c.l
  g : gcheck c.n c.l=0
  n1 : c.n≤64
  l1 : c.l.length≤512
theorem cn_ok {p : Pl} (h : pcheck p=0) : CnOk (cnP p):=by
  have ok:=pcheck_ok h
  have hg:=gcheck_plant ok
  have hr:=inR_plant ok
  obtain ⟨c1,c2,c3,c4⟩:=gcheck_ok hg
  have:=gp_of hr
  rw [Int.toNat_natCast] at this
  exact ⟨this,hr,hg,by show p.ms.length≤64; omega,c3⟩
theorem CnOk.G1 {c : Cn} (h : CnOk c) : c.G.length≤64:=by have:=h.gp.len; have:=h.n1; omega
theorem CnOk.G2 {c : Cn} (h : CnOk c) {k : Nat} (hk : k < c.G.length) : (c.G.getD k []).length≤64:=by have:=h.gp.rlen k hk; have:=h.n1; omega
theorem controlGroups_ok {w v : Bool} {p : Pl} (h : pcheck p=0) : VR P false n_control_groups [plA w v p] [] (isR (.tup [.agg [.v (.int .i64 (cnP p).n),.fs true (pairs (cnP p).l)],.fs true (rows true (cnP p).G),.fs true (ints (cnP p).of),.v (.int .i64 0)])):=by
  refine vr_control_groups (by simp) (.inr rfl) fun _ _=>?_
  have hv:=layoutGraph_vr (w:=w) (v:=v) p
  have hv2:=groups_vr (w:=true) p.ms.length (arcsR p)
  have ok:=cn_ok h
  rw [pgraph_ok h] at hv
  have hgr : groupsR p.ms.length (arcsR p)=((cnP p).G,0):=by unfold groupsR; rw [if_neg (by have:=ok.g; unfold cnP at this; simp only at this; omega),Int.toNat_natCast]; rfl
  rw [hgr] at hv2
  have hn : p.ms.length=(cnP p).n:=rfl
  have hl : arcsR p=(cnP p).l:=rfl
  unfold graphT graphA at hv
  unfold graphA at hv2
  rw [hn,hl] at hv hv2
  unfold plA plC at hv ⊢
  have g1:=ok.G1
  have g2:=fun k hk=>ok.G2 (k:=k) hk
  have n1:=ok.n1
  have hofe : (cnP p).of=tabI (cnP p).n (ofN (cnP p).G (cnP p).G.length):=rfl
  have gr:=ok.gp.rng
  generalize (cnP p).of=O at *
  generalize (cnP p).G=G at *
  generalize (cnP p).l=l at *
  generalize hcn : (cnP p).n=n at *
  simp (disch:=((try simp only [lZ]); omega)) only [aZ,aM,s_control_groups,v_control_groups]
  refine hv.same (by simp (disch:=first | omega | simp (disch:=omega) only [aG,aM]) only [fZ,aM]) (by simp (disch:=first | omega | simp (disch:=omega) only [aG,aM]) only [fZ,aM]) (aret_of ?_)
  simp (disch:=((try simp only [lZ]); omega)) only [aZ,aM]
  refine hv2.same (by simp (disch:=first | omega | simp (disch:=omega) only [aG,aM]) only [fZ,aM]) (by simp (disch:=first | omega | simp (disch:=omega) only [aG,aM]) only [fZ,aM]) (aret_of ?_)
  simp (disch:=((try simp only [lZ]); omega)) only [aZ,aM,Int.toNat_natCast]
  rw [tabI_rep]
  refine AWP.loopP g_control_groups_0 (fun k : Nat=>k≤G.length) (fun k=>[(10,.v (.int .i64 k))]) (fun k=>[(3,⟨0,ints (tabI n (ofN G k))⟩)]) (fun k=>G.length - k) 0 (by omega) ?_ ?_
  · have e0 : (fun _ : Int=>(0 : Int))=ofN G 0:=rfl
    rw [e0]
    try simp (disch:=((try simp only [lZ]); omega)) only [aZ,aM]
    exact Cut.of' 4 rfl (by omega) (by simp (disch:=first | omega | simp (disch:=omega) only [aG,aM]) only [fZ,aM]) (by simp (disch:=first | omega | simp (disch:=omega) only [aG,aM]) only [fZ,aM])
  rintro k hk
  by_cases hlt : k < G.length
  · have hg2:=g2 k hlt
    have hgr2:=gr k hlt
    have e1 : tabI n (ofN G k)=tabI n (ofM G k 0):=tabI_ext fun i _=>(ofM_zero G k i).symm
    have e2 : tabI n (ofM G k (G.getD k []).length)=tabI n (ofN G (k+1)):=tabI_ext fun i _=>ofM_all G k i
    have e3:=fun j hj=>ofM_step G k j hj
    rw [e1]
    simp (disch:=((try simp only [lZ]); omega)) only [aZ,aM]
    refine AWP.loopP g_control_groups_1 (fun j : Nat=>j≤(G.getD k []).length) (fun j=>[(16,.v (.int .i64 j))]) (fun j=>[(3,⟨0,ints (tabI n (ofM G k j))⟩)]) (fun j=>(G.getD k []).length - j) 0 (by omega) ?_ ?_
    · try simp (disch:=((try simp only [lZ]); omega)) only [aZ,aM]
      exact Cut.of' 4 rfl (by omega) (by simp (disch:=first | omega | simp (disch:=omega) only [aG,aM]) only [fZ,aM]) (by simp (disch:=first | omega | simp (disch:=omega) only [aG,aM]) only [fZ,aM])
    rintro j hj
    have tl:=tabI_len n (ofM G k j)
    by_cases hjl : j < (G.getD k []).length
    · have hx:=hgr2 _ (mem_get 0 hjl)
      have e4 : (tabI n (ofM G k j)).set ((G.getD k []).getD j 0).toNat (k : Int)=tabI n (ofM G k (j+1)):=by
        rw [tabI_set _ _ _ (by omega)]
        refine tabI_ext fun i hi=>?_
        rw [e3 j hjl,Int.toNat_of_nonneg hx.1]
      simp (disch:=((try simp only [lZ]); omega)) only [aZ,aM,e4]
      refine ⟨j+1,by omega,by omega,?_⟩
      exact Cut.of' 4 rfl (by omega) (by simp (disch:=first | omega | simp (disch:=omega) only [aG,aM]) only [fZ,aM]) (by simp (disch:=first | omega | simp (disch:=omega) only [aG,aM]) only [fZ,aM])
    · have hje : j=(G.getD k []).length:=by omega
      subst hje
      rw [e2]
      simp (disch:=((try simp only [lZ]); omega)) only [aZ,aM]
      refine ⟨k+1,by omega,by omega,?_⟩
      exact Cut.of' 4 rfl (by omega) (by simp (disch:=first | omega | simp (disch:=omega) only [aG,aM]) only [fZ,aM]) (by simp (disch:=first | omega | simp (disch:=omega) only [aG,aM]) only [fZ,aM])
  · have hke : k=G.length:=by omega
    subst hke
    have tl:=tabI_len n (ofN G G.length)
    rw [← hofe] at tl ⊢
    simp (disch:=((try simp only [lZ]); omega)) only [aZ,aM,r_control_groups]
    exact post0 (r:=.tup [.agg [.v (.int .i64 n),.fs true (pairs l)],.fs true (rows true G),.fs true (ints O),.v (.int .i64 0)]) (Fz.tup ⟨Fz.refl (by simp (disch:=first | omega | simp (disch:=omega) only [aG,aM]) only [fZ,aM]),Fz.refl (by simp (disch:=first | omega | simp (disch:=omega) only [aG,aM]) only [fZ,aM]),fz_slI 0 _ 3 0 _ O (by omega) tl.symm rfl,Fz.refl rfl,trivial⟩) ⟨rfl,rfl⟩
def panC (c : Cn) (j : Nat) : List A:=[.v (.int .i64 c.n),.fs true (pairs c.l),.fs true (rows true c.G),.fs true (ints c.of),.sl j 0 1 0 c.n]
structure PS (H : List Blk) (i j : Nat) (c : Cn) (st : List Int) : Prop where
  hi : blkAt H i 0=some (panC c j)
  hj : blkAt H j 0=some (ints st)
  ne : i≠j
  sl : st.length=c.n
theorem PS.set {H : List Blk} {i j : Nat} {c : Cn} {st : List Int} (h : PS H i j c st) (st' : List Int) (hl : st'.length=c.n) : PS (H.set j ⟨0,ints st'⟩) i j c st' :=
  ⟨by rw [blkAt_set_ne _ _ _ _ _ h.ne]; exact h.hi,blkAt_set_same _ _ _ _ (blkAt_lt h.hj),h.ne,hl⟩
def panG (c : Cn) (st : List Int) : List Blk:=[⟨0,[.any,.any,.any,.any]⟩,⟨0,[.any,.any]⟩,⟨0,ints st⟩,⟨0,panC c 2⟩]
theorem controlNew_ok {w v : Bool} {p : Pl} (h : pcheck p=0) : VR P false n_control_New [plA w v p] [] (ownR (.tup [.lp 3 0 0,.v (.int .i64 0)]) (panG (cnP p) (List.replicate (cnP p).n 0))):=by
  refine vr_control_New (by simp) (.inr rfl) fun _ _=>?_
  have hv:=controlGroups_ok (w:=w) (v:=v) h
  have n1:=(cn_ok h).n1
  unfold panG panC
  unfold plA plC at hv ⊢
  generalize cnP p=c at *
  simp (disch:=((try simp only [lZ]); omega)) only [aZ,aM,s_control_New,v_control_New]
  refine hv.same (by simp (disch:=first | omega | simp (disch:=omega) only [aG,aM]) only [fZ,aM]) (by simp (disch:=first | omega | simp (disch:=omega) only [aG,aM]) only [fZ,aM]) (aret_of ?_)
  simp (disch:=((try simp only [lZ]); omega)) only [aZ,aM,Int.toNat_natCast,r_control_New]
  refine ⟨_,panG c (List.replicate c.n 0),?_,rfl,rfl⟩
  unfold panG panC
  exact Cut.of' 4 rfl (by omega) (by simp (disch:=first | omega | simp (disch:=omega) only [aG,aM]) only [fZ,aM]) ⟨Fz.refl rfl,trivial⟩
theorem panC_sh (n : Nat) (c : Cn) (j : Nat) : A.shL n (panC c j)=panC c (n+j):=by
  unfold panC
  simp only [A.shL,A.sh,shL_bd _ (p_bd 0 _),shL_bd _ (r_bd 0 _ _),shL_bd _ (ii_bd 0 _)]
theorem panG_sh (n : Nat) (c : Cn) (st : List Int) : (panG c st).map (Blk.sh n)=[⟨0,[.any,.any,.any,.any]⟩,⟨0,[.any,.any]⟩,⟨0,ints st⟩,⟨0,panC c (n+2)⟩]:=by
  unfold panG
  simp only [List.map_cons,List.map_nil,Blk.sh,panC_sh,A.shL,A.sh,shL_bd _ (ii_bd 0 _)]
theorem panG_cl (c : Cn) (st : List Int) : ((panG c st).all fun B=>A.clL B.cells)=true:=by
  simp [panG,panC,A.clL,A.cl,p_cl,r_cl,ii_cl]
theorem find_ps {H : List Blk} {i j : Nat} {c : Cn} {st : List Int} (h : PS H i j c st) (m : Int) : VR P false n_control_Panel_find [.lp i 0 0,.v (.int .i64 m)] H (fun r H'=>r=.v (.int .i64 (if c.bad m then 7 else 0))∧H'=H):=by
  refine vr_control_Panel_find (by simp) (.inl rfl) fun hb _=>?_
  have hi:=h.hi
  unfold panC at hi
  by_cases hm : c.bad m
  · have hm':=hm
    unfold Cn.bad at hm'
    rw [if_pos hm]
    simp (disch:=((try simp only [lZ]); omega)) only [aZ,aM,s_control_Panel_find,v_control_Panel_find,r_control_Panel_find,hi,decide_eq_true hm']
    exact post2 (R:=fun r H'=>_) ⟨rfl,rfl⟩
  · have hm':=hm
    unfold Cn.bad at hm'
    rw [if_neg hm]
    simp (disch:=((try simp only [lZ]); omega)) only [aZ,aM,s_control_Panel_find,v_control_Panel_find,r_control_Panel_find,hi,decide_eq_false hm']
    exact post2 (R:=fun r H'=>_) ⟨rfl,rfl⟩
theorem state_ps {H : List Blk} {i j : Nat} {c : Cn} {st : List Int} (h : PS H i j c st) (m : Int) : VR P false n_control_Panel_State [.lp i 0 0,.v (.int .i64 m)] H (fun r H'=>r=.tup [.v (.int .i64 (stateR c st m).1),.v (.int .i64 (stateR c st m).2)]∧H'=H):=by
  refine vr_control_Panel_State (by simp) (.inl rfl) fun hb _=>?_
  have hi:=h.hi
  have hj:=h.hj
  have sl:=h.sl
  unfold panC at hi
  unfold stateR
  simp (disch:=((try simp only [lZ]); omega)) only [aZ,aM,s_control_Panel_State,v_control_Panel_State]
  refine (find_ps h m).mono ?_
  rintro r H' ⟨rfl,hH⟩
  rw [hH]
  refine aret_of ?_
  by_cases hm : c.bad m
  · rw [if_pos hm,if_pos hm]
    simp (disch:=((try simp only [lZ]); omega)) only [aZ,aM,r_control_Panel_State]
    exact post2 (R:=fun r H'=>_) ⟨rfl,rfl⟩
  · rw [if_neg hm,if_neg hm]
    unfold Cn.bad at hm
    simp (disch:=((try simp only [lZ]); omega)) only [aZ,aM,r_control_Panel_State,hi,hj]
    exact post2 (R:=fun r H'=>_) ⟨rfl,rfl⟩
theorem stopped_vr {kp : Bool} {H : List Blk} (s : Int) : VR P kp n_control_stopped [.v (.int .i64 s)] H (fun r H'=>r=.v (.int .i64 (stp s))∧H'=H):=by
  have : VR P false n_control_stopped [.v (.int .i64 s)] [] (isR (.v (.int .i64 (stp s)))):=by
    refine vr_control_stopped (by simp) (.inr rfl) fun _ _=>?_
    by_cases h1 : s=1
    · have : stp s=0:=by unfold stp; rw [if_pos h1]
      rw [this]
      simp (disch:=((try simp only [lZ]); omega)) only [aZ,aM,s_control_stopped,v_control_stopped,decide_eq_true h1,r_control_stopped]
      exact post_v ⟨rfl,rfl⟩
    by_cases h0 : s=0
    · have : stp s=0:=by unfold stp; rw [if_neg h1]; exact h0
      rw [this]
      simp (disch:=((try simp only [lZ]); omega)) only [aZ,aM,s_control_stopped,v_control_stopped,decide_eq_false h1,decide_eq_true h0,r_control_stopped]
      exact post_v ⟨rfl,rfl⟩
    · have : stp s=s:=by unfold stp; rw [if_neg h1]
      rw [this]
      simp (disch:=((try simp only [lZ]); omega)) only [aZ,aM,s_control_stopped,v_control_stopped,decide_eq_false h1,decide_eq_false h0,r_control_stopped]
      exact post_v ⟨rfl,rfl⟩
  exact this.same rfl rfl ⟨rfl,rfl⟩
theorem stop_ps {H : List Blk} {i j : Nat} {c : Cn} {st : List Int} (ok : CnOk c) (h : PS H i j c st) (m : Int) : VR P false n_control_Panel_Stop [.lp i 0 0,.v (.int .i64 m)] H (fun r H'=>r=.v (.int .i64 (stopR c st m).1)∧H'=H.set j ⟨0,ints (stopR c st m).2⟩):=by
  refine vr_control_Panel_Stop (by simp) (.inl rfl) fun hb _=>?_
  have hi:=h.hi
  have hj:=h.hj
  have sl:=h.sl
  have hs:=set_self hj
  have lt:=blkAt_lt hj
  have lti:=blkAt_lt h.hi
  have n1:=ok.n1
  unfold panC at hi
  unfold stopR
  simp (disch:=((try simp only [lZ]); omega)) only [aZ,aM,s_control_Panel_Stop,v_control_Panel_Stop]
  refine (find_ps h m).mono ?_
  rintro r H' ⟨rfl,hH⟩
  rw [hH]
  refine aret_of ?_
  by_cases hm : c.bad m
  · rw [if_pos hm,if_pos hm]
    simp (disch:=((try simp only [lZ]); omega)) only [aZ,aM,r_control_Panel_Stop]
    exact post2 (R:=fun r H'=>_) ⟨rfl,hs.symm⟩
  rw [if_neg hm,if_neg hm]
  unfold Cn.bad at hm
  have hv:=back_vr (w:=true) c.n c.l m
  have e : visitR c.n c.l (backL c.l) m=(c.bk m,0):=by
    unfold visitR; rw [if_neg (by have:=ok.g; omega),if_neg (by omega)]; rfl
  have hbl : (c.bk m).length=c.n:=by unfold Cn.bk; rw [reachL_len]; simp
  rw [e] at hv
  unfold graphA at hv
  unfold stopL
  generalize c.bk m=B at *
  simp (disch:=((try simp only [lZ]); omega)) only [aZ,aM,hi]
  refine hv.same (by simp (disch:=first | omega | simp (disch:=omega) only [aG,aM]) only [fZ,aM]) (by simp (disch:=first | omega | simp (disch:=omega) only [aG,aM]) only [fZ,aM]) (aret_of ?_)
  simp (disch:=((try simp only [lZ]); omega)) only [aZ,aM]
  refine AWP.loopP g_control_Panel_Stop_0 (fun k : Nat=>k≤c.n) (fun k=>[(6,.v (.int .i64 k))]) (fun k=>[(j,⟨0,ints (stopF B st k)⟩)]) (fun k=>c.n - k) 0 (by omega) ?_ ?_
  · rw [stopF_zero]
    simp (disch:=((try simp only [lZ]); omega)) only [aZ,aM,hs]
    exact Cut.same (Nat.le_refl _) hb (by simp (disch:=first | omega | simp (disch:=omega) only [aG,aM]) only [fZ,aM])
  rintro k hk
  have hq:=h.set (stopF B st k) (by rw [stopF_len]; exact sl)
  have hqi:=hq.hi
  have hqj:=hq.hj
  unfold panC at hqi
  have fl:=stopF_len B st k
  have hb' : ∀ st' : List Int,okB (H.set j ⟨0,ints st'⟩).length (H.set j ⟨0,ints st'⟩):=fun st'=>by rw [List.length_set]; exact okB.set hb (ii_bd _ _)
  by_cases hlt : k < c.n
  · have hsu:=stopF_succ B st k (by omega)
    have hat:=stopF_at B st k (by omega)
    simp (disch:=((try simp only [lZ]); omega)) only [aZ,aM]
    refine ib_split (fun h1=>?_) (fun h1=>?_)
    · rw [if_pos h1] at hsu
      simp (disch:=((try simp only [lZ]); omega)) only [aZ,aM,hqi,hqj]
      refine (stopped_vr ((stopF B st k).getD k 0)).mono ?_
      rintro r H' ⟨rfl,hH⟩
      rw [hH]
      refine aret_of ?_
      rw [hat]
      simp (disch:=((try simp only [lZ]); omega)) only [aZ,aM,hqi,hqj,List.length_set,← hsu]
      refine ⟨k+1,by omega,by omega,?_⟩
      try simp (disch:=((try simp only [lZ]); omega)) only [aZ,aM]
      exact Cut.same (by rw [List.length_set]; exact Nat.le_refl _) (hb' _) (by simp (disch:=first | omega | simp (disch:=omega) only [aG,aM]) only [fZ,aM])
    · rw [if_neg (by rw [h1]; simp)] at hsu
      simp (disch:=((try simp only [lZ]); omega)) only [aZ,aM,← hsu]
      refine ⟨k+1,by omega,by omega,?_⟩
      try simp (disch:=((try simp only [lZ]); omega)) only [aZ,aM]
      exact Cut.same (by rw [List.length_set]; exact Nat.le_refl _) (hb' _) (by simp (disch:=first | omega | simp (disch:=omega) only [aG,aM]) only [fZ,aM])
  · have hke : k=c.n:=by omega
    subst hke
    simp (disch:=((try simp only [lZ]); omega)) only [aZ,aM,r_control_Panel_Stop]
    exact post2 (R:=fun r H'=>_) ⟨rfl,rfl⟩
end Go.Proofs.YtdkoindoljngmaaGreat
