/- Lemmas and walks that the proof of SetpointPlain uses. No statement is claimed here. -/
import Derived.Test.YtcppaddgclkekaaSetpointPlainZao
import Derived.Lib.Mul64
namespace Go.Proofs.Ytcppaddgclkekaa
open Go Go.Lft
set_option linter.unusedSimpArgs false
set_option linter.unusedVariables false
attribute [local congr] ob_congr bw_congr ib_congr ck_congr iwA_congr itA_congr aw_congr awp_congr sqA_congr bkA_congr vr_congr gd_congr
theorem pigeonI : ∀ (n : Nat) (f : Nat→Nat),(∀ i,i≤n→f i < n)→∃ i j,i < j∧j≤n∧f i=f j
  | 0,f,h=>by have:=h 0 (by omega); omega
  | n+1,f,h=>by
    by_cases hx : ∃ i,i≤n∧f i=f (n+1)
    · obtain ⟨i,h1,h2⟩:=hx; exact ⟨i,n+1,by omega,by omega,h2⟩
    · have hne : ∀ i,i≤n→f i≠f (n+1):=fun i hi hc=>hx ⟨i,hi,hc⟩
      obtain ⟨i,j,h1,h2,h3⟩:=pigeonI n (fun i=>if f i=n then f (n+1) else f i) fun i hi=>by
        have a1:=h i (by omega)
        have a2:=h (n+1) (by omega)
        have a3:=hne i hi
        split<;>omega
      have a1:=hne i (by omega)
      have a2:=hne j h2
      refine ⟨i,j,h1,by omega,?_⟩
      split at h3<;>split at h3<;>omega
theorem ltO_ne {q : List Int} {x y : Int} (h : ltO q x y) : x≠y:=by rintro rfl; unfold ltO at h; omega
theorem sorted_all {q T : List Int} {n : Nat} (hl : T.length=n) (hr : InR n T) (hs : T.Pairwise (ltO q)) : ∀ i : Nat,i < n→∃ l,l < n∧T.getD l 0=(i : Int):=fun i hi=>by
  apply Classical.byContradiction; intro hc
  have hne : ∀ l,l < n→T.getD l 0≠(i : Int):=fun l hl' he=>hc ⟨l,hl',he⟩
  have hin : ∀ l,l < n→0≤T.getD l 0∧T.getD l 0 < n:=fun l hl'=>hr _ (mem_getD (by omega))
  obtain ⟨m,rfl⟩ : ∃ m,n=m+1:=⟨n - 1,by omega⟩
  obtain ⟨a,b,h1,h2,h3⟩:=pigeonI m (fun l=>if (T.getD l 0).toNat < i then (T.getD l 0).toNat else (T.getD l 0).toNat - 1) fun l hl'=>by
    have a1:=hin l (by omega)
    have a2:=hne l (by omega)
    split<;>omega
  have a1:=hin a (by omega)
  have a2:=hne a (by omega)
  have b1:=hin b (by omega)
  have b2:=hne b (by omega)
  have hab : T.getD a 0=T.getD b 0:=by
    split at h3<;>split at h3<;>omega
  have:=List.pairwise_iff_getElem.1 hs a b (by omega) (by omega) h1
  refine ltO_ne this ?_
  simpa [List.getD_eq_getElem?_getD,show a < T.length by omega,show b < T.length by omega] using hab
theorem sorted_get {q T : List Int} (hs : T.Pairwise (ltO q)) {i j : Nat} (hij : i < j) (hj : j < T.length) : ltO q (T.getD i 0) (T.getD j 0):=by
  have:=List.pairwise_iff_getElem.1 hs i j (by omega) hj hij
  simpa [List.getD_eq_getElem?_getD,show i < T.length by omega,hj] using this
def incs (p : List Int) (T : List Int) : List Int:=T.foldl (fun p x=>inc p x.toNat) p
theorem incs_succ (p T : List Int) (k : Nat) (h : k < T.length) : incs p (T.take (k+1))=inc (incs p (T.take k)) (T.getD k 0).toNat:=by
  unfold incs
  rw [List.take_succ_eq_append_getElem h,List.foldl_append]
  simp [List.getD_eq_getElem?_getD,h]
theorem incs_len (p T : List Int) : (incs p T).length=p.length:=by
  unfold incs
  induction T generalizing p with
  | nil=>rfl
  | cons x T ih=>rw [List.foldl_cons,ih,inc_len]
theorem rd_sorted {p0 q0 T : List Int} (hl : p0.length = q0.length) (hq : ∀ i, i < q0.length → 0 ≤ q0.getD i 0) (hT : T.length = q0.length) (hr : InR q0.length T) (hs : T.Pairwise (ltO q0)) :
    ∀ k,k≤q0.length→(rd p0 q0 k).1=incs p0 (T.take k)∧∀ i,i < q0.length→(rd p0 q0 k).2.getD i 0=if ∃ l,l < k∧T.getD l 0=(i : Int) then -1 else q0.getD i 0
  | 0,_=>⟨by simp [rd,incs],fun i _=>by rw [if_neg (by rintro ⟨l,h,_⟩; omega)]; rfl⟩
  | k+1,hk=>by
    obtain ⟨h1,h2⟩:=rd_sorted hl hq hT hr hs k (by omega)
    have hll:=rd_len p0 q0 k
    have hin:=hr _ (mem_getD (l:=T) (i:=k) (by omega))
    have hb : bestI (rd p0 q0 k).2=(T.getD k 0).toNat:=by
      have hTk : (rd p0 q0 k).2.getD (T.getD k 0).toNat 0=q0.getD (T.getD k 0).toNat 0:=by
        rw [h2 _ (by omega),if_neg]
        rintro ⟨l,l1,l2⟩
        exact ltO_ne (sorted_get hs l1 (by omega)) (by omega)
      have hge : ∀ i,i < q0.length→(rd p0 q0 k).2.getD i 0≤q0.getD (T.getD k 0).toNat 0∧(i < (T.getD k 0).toNat→(rd p0 q0 k).2.getD i 0 < q0.getD (T.getD k 0).toNat 0):=fun i hi=>by
        rw [h2 i hi]
        have hnn:=hq (T.getD k 0).toNat (by omega)
        split
        · omega
        · rename_i hx
          obtain ⟨l,l1,l2⟩:=sorted_all hT hr hs i hi
          have hkl : k≤l:=Nat.le_of_not_lt fun hc=>hx ⟨l,hc,l2⟩
          by_cases hkl2 : k=l
          · subst hkl2
            rw [l2,Int.toNat_natCast]
            exact ⟨Int.le_refl _,fun h=>by omega⟩
          · have:=sorted_get hs (show k < l by omega) (by omega)
            rw [l2] at this
            unfold ltO kq at this
            rw [Int.toNat_natCast] at this
            omega
      refine bestI_uniq (by omega) (fun i hi=>?_) fun i hi=>?_
      · rw [hTk]; exact (hge i (by omega)).1
      · rw [hTk]; exact (hge i (by omega)).2 hi
    refine ⟨?_,fun i hi=>?_⟩
    · simp only [rd]
      rw [hb,h1,incs_succ _ _ _ (by omega)]
    · simp only [rd]
      rw [hb,getD_seti]
      by_cases he : (T.getD k 0).toNat=i
      · rw [if_pos ⟨he,by omega⟩,if_pos ⟨k,by omega,by omega⟩]
      · rw [if_neg (fun h=>he h.1),h2 i hi]
        have : (∃ l,l < k∧T.getD l 0=(i : Int))↔∃ l,l < k+1∧T.getD l 0=(i : Int):=by
          constructor
          · rintro ⟨l,a,b⟩; exact ⟨l,by omega,b⟩
          · rintro ⟨l,a,b⟩
            rcases Nat.lt_succ_iff_lt_or_eq.1 a with h | rfl
            · exact ⟨l,h,b⟩
            · omega
        simp only [this]
theorem fdiv_nn (a : Int) (n : Nat) : a.fdiv (2 ^ n)=a / 2 ^ n:=Int.fdiv_eq_ediv_of_nonneg a (Int.le_of_lt (Int.pow_pos (by decide)))
theorem s_shrI (a : Int) (k : IntKind) (b : Int) (h0 : 0≤b) (h1 : b≤63) : s2A (.bin .shr) (.v (.int .i64 a)) (.v (.int k b))=some (.v (.int .i64 (a / 2 ^ b.toNat))):=by
  have e : min b.toNat 64=b.toNat:=Nat.min_eq_left (by omega)
  have h : k2v (.bin .shr) (.int .i64 a) (.int k b)=some (.int .i64 (a / 2 ^ b.toNat)):=by
    rw [← fdiv_nn,← e]
    simp only [k2v,binOp,Op.shift,pureV,show ¬ b < 0 by omega,if_false]; rfl
  simp only [s2A,h,Option.map_some]
theorem s_shrU (a : Int) (k : IntKind) (b : Int) (h0 : 0≤b) (h1 : b≤63) : s2A (.bin .shr) (.v (.int .u64 a)) (.v (.int k b))=some (.v (.int .u64 (a / 2 ^ b.toNat))):=by
  have e : min b.toNat 64=b.toNat:=Nat.min_eq_left (by omega)
  have h : k2v (.bin .shr) (.int .u64 a) (.int k b)=some (.int .u64 (a / 2 ^ b.toNat)):=by
    rw [← fdiv_nn,← e]
    simp only [k2v,binOp,Op.shift,pureV,show ¬ b < 0 by omega,if_false]; rfl
  simp only [s2A,h,Option.map_some]
theorem s_shlI (a : Int) (k : IntKind) (b : Int) (h0 : 0≤b) (h1 : b≤63) : s2A (.bin .shl) (.v (.int .i64 a)) (.v (.int k b))=some (.v (.int .i64 (IntKind.wrap .i64 (a*2 ^ b.toNat)))):=by
  have e : min b.toNat 64=b.toNat:=Nat.min_eq_left (by omega)
  have h : k2v (.bin .shl) (.int .i64 a) (.int k b)=some (.int .i64 (IntKind.wrap .i64 (a*2 ^ b.toNat))):=by
    rw [← e]
    simp only [k2v,binOp,Op.shift,pureV,show ¬ b < 0 by omega,if_false]; rfl
  simp only [s2A,h,Option.map_some]
theorem and_mask (a : Nat) (k : Nat) (ha : a < 2 ^ 64) (hk : 2 ^ k - 1 < 2 ^ 64) : (BitVec.ofInt 64 (a : Int) &&& BitVec.ofInt 64 ((2 ^ k - 1 : Nat) : Int)).toNat=a % 2 ^ k:=by
  rw [BitVec.toNat_and,BitVec.toNat_ofInt,BitVec.toNat_ofInt]
  have e1 : ((a : Int) % (2 ^ 64 : Nat)).toNat=a:=by omega
  have e2 : (((2 ^ k - 1 : Nat) : Int) % (2 ^ 64 : Nat)).toNat=2 ^ k - 1:=by
    rw [Int.emod_eq_of_lt (by omega) (by omega)]; rfl
  rw [e1,e2,Nat.and_two_pow_sub_one_eq_mod]
theorem s_andI (a m : Int) (k : Nat) (hk : k≤62) (hm : m=2 ^ k - 1) (h0 : 0≤a) (h1 : a≤9223372036854775807) : s2A (.bin .and) (.v (.int .i64 a)) (.v (.int .i64 m))=some (.v (.int .i64 (a % 2 ^ k))):=by
  obtain ⟨b,rfl⟩ : ∃ b : Nat,a=b:=⟨a.toNat,by omega⟩
  have hp : (2 : Nat) ^ k≤2 ^ 62:=Nat.pow_le_pow_right (by decide) hk
  have h1p : 1≤2 ^ k:=Nat.one_le_two_pow
  have e62 : (2 : Nat) ^ 62=4611686018427387904:=by decide
  have e64 : (2 : Nat) ^ 64=18446744073709551616:=by decide
  have hm' : m=((2 ^ k - 1 : Nat) : Int):=by
    rw [hm,Int.natCast_sub h1p,Int.natCast_pow]; rfl
  have hb:=and_mask b k (by omega) (by omega)
  have h : k2v (.bin .and) (.int .i64 b) (.int .i64 m)=some (.int .i64 (IntKind.wrap .i64 ((BitVec.ofInt 64 (b : Int) &&& BitVec.ofInt 64 m).toNat))):=by
    simp [k2v,binOp,Op.intBits,pureV]; rfl
  have hlt : b % 2 ^ k < 2 ^ k:=Nat.mod_lt _ (by omega)
  rw [hm',hb,wrap_in (by omega) (by omega)] at h
  rw [hm']
  simp only [s2A,h,Option.map_some,Int.natCast_emod,Int.natCast_pow]
  rfl
theorem s_andU (a m : Int) (k : Nat) (hk : k≤62) (hm : m=2 ^ k - 1) (h0 : 0≤a) (h1 : a≤18446744073709551615) : s2A (.bin .and) (.v (.int .u64 a)) (.v (.int .u64 m))=some (.v (.int .u64 (a % 2 ^ k))):=by
  obtain ⟨b,rfl⟩ : ∃ b : Nat,a=b:=⟨a.toNat,by omega⟩
  have hp : (2 : Nat) ^ k≤2 ^ 62:=Nat.pow_le_pow_right (by decide) hk
  have h1p : 1≤2 ^ k:=Nat.one_le_two_pow
  have e62 : (2 : Nat) ^ 62=4611686018427387904:=by decide
  have e64 : (2 : Nat) ^ 64=18446744073709551616:=by decide
  have hm' : m=((2 ^ k - 1 : Nat) : Int):=by
    rw [hm,Int.natCast_sub h1p,Int.natCast_pow]; rfl
  have hb:=and_mask b k (by omega) (by omega)
  have h : k2v (.bin .and) (.int .u64 b) (.int .u64 m)=some (.int .u64 (IntKind.wrap .u64 ((BitVec.ofInt 64 (b : Int) &&& BitVec.ofInt 64 m).toNat))):=by
    simp [k2v,binOp,Op.intBits,pureV]; rfl
  have hlt : b % 2 ^ k < 2 ^ k:=Nat.mod_lt _ (by omega)
  rw [hm',hb,wrap_u64 (by omega) (by omega)] at h
  rw [hm']
  simp only [s2A,h,Option.map_some,Int.natCast_emod,Int.natCast_pow]
  rfl
theorem take_succ_I (l : List Int) (k : Nat) (h : k < l.length) : l.take (k+1)=l.take k++[l.getD k 0]:=by
  rw [List.take_succ_eq_append_getElem h]; simp [List.getD_eq_getElem?_getD,h]
def sumK (l : List Int) (k : Nat) : Int:=(l.take k).sum
theorem sumK_zero (l : List Int) : sumK l 0=0:=by simp [sumK]
theorem sumK_succ (l : List Int) (k : Nat) (h : k < l.length) : sumK l (k+1)=sumK l k+l.getD k 0:=by
  unfold sumK; rw [take_succ_I l k h]; simp
theorem sumK_all (l : List Int) : sumK l l.length=l.sum:=by simp [sumK]
theorem numIn_vr {w : Bool} (x : Int) : VR P false n_num_in [.fs w [.v (.int .i64 x)]] [] (isR (.v (.bool (decide (-1125899906842624≤x∧x≤1125899906842624))))):=by
  refine vr_num_in (by simp) (.inr rfl) fun _ _=>?_
  have e : [A.v (.int .i64 x)]=ints [x]:=rfl
  rw [e]
  simp (disch:=((try simp only [lZ]); omega)) only [aZ,s_num_in,v_num_in]
  refine AWP.loopP g_num_in_0 (fun k : Nat=>k≤1∧(k=1→-1125899906842624≤x∧x≤1125899906842624)) (fun k=>[(1,.v (.bool false)),(2,.v (.int .i64 k))]) (fun _=>[]) (fun k=>1 - k) 0 ⟨by omega,fun h=>by omega⟩ ?_ ?_
  · simp only [List.length_cons,List.length_nil]
    exact Cut.of' 0 rfl (by omega) (by simp (disch:=first | omega | simp (disch:=omega) only [aG]) only [fZ]) (by simp (disch:=first | omega | simp (disch:=omega) only [aG]) only [fZ])
  rintro k ⟨hk,hx⟩
  by_cases hlt : k < 1
  · have hk0 : k=0:=by omega
    subst hk0
    simp (disch:=((try simp only [lZ]); omega)) only [aZ,List.length_cons,List.length_nil,List.getD_cons_zero]
    refine ib_intro (fun h3=>?_) (fun h3=>?_)
    · simp (disch:=((try simp only [lZ]); omega)) only [aZ,r_num_in]
      exact post_v ⟨vfalse (by omega),rfl⟩
    · simp (disch:=((try simp only [lZ]); omega)) only [aZ]
      exact ⟨1,⟨by omega,fun _=>by omega⟩,by omega,(by refine Cut.of' (0) ?_ (by omega) ?_ ?_<;>simp (disch:=first | omega | simp (disch:=omega) only [aG]) only [fZ,Int.zero_add])⟩
  · have hk1 : k=1:=by omega
    subst hk1
    simp (disch:=((try simp only [lZ]); omega)) only [aZ,r_num_in,List.length_cons,List.length_nil]
    exact post_v ⟨vtrue (hx rfl),rfl⟩
theorem checked_vr (x : Int) : VR P false n_num_checked [.v (.int .i64 x)] [] (isR (.tup [.v (.int .i64 (if -1125899906842624≤x∧x≤1125899906842624 then x else 0)),.v (.int .i64 (if -1125899906842624≤x∧x≤1125899906842624 then 0 else 2))])):=by
  refine vr_num_checked (by simp) (.inr rfl) fun _ _=>?_
  simp (disch:=((try simp only [lZ]); omega)) only [aZ,s_num_checked,v_num_checked]
  refine (numIn_vr (w:=false) x).use ⟨ld_slI _ 0 0 1 [x] rfl rfl,trivial⟩ rfl (aret_of ?_)
  by_cases h : -1125899906842624≤x∧x≤1125899906842624
  · rw [if_pos h,if_pos h]
    simp (disch:=((try simp only [lZ]); omega)) only [aZ,decide_eq_true h,r_num_checked]
    exact post0 (Fz.refl rfl) ⟨rfl,rfl⟩
  · rw [if_neg h,if_neg h]
    simp (disch:=((try simp only [lZ]); omega)) only [aZ,decide_eq_false h,r_num_checked]
    exact post0 (Fz.refl rfl) ⟨rfl,rfl⟩
theorem numSum_vr {w : Bool} (l : List Int) (hl : l.length≤512) (hr : ∀ x∈l,0≤x∧x≤1125899906842624) : VR P false n_num_Sum [.fs w (ints l)] [] (isR (.tup [.v (.int .i64 (if l.sum≤1125899906842624 then l.sum else 0)),.v (.int .i64 (if l.sum≤1125899906842624 then 0 else 2))])):=by
  refine vr_num_Sum (by simp) (.inr rfl) fun _ _=>?_
  have e25 : (2 : Int) ^ (25 : Int).toNat=33554432:=by decide
  have e25' : (2 : Int) ^ 25=33554432:=by decide
  simp (disch:=((try simp only [lZ]); omega)) only [aZ,s_num_Sum,v_num_Sum]
  refine AWP.loopP (α:=Nat×Int×Int) g_num_Sum_0 (fun s=>s.1≤l.length∧s.2.1*33554432+s.2.2=sumK l s.1∧0≤s.2.1∧s.2.1≤s.1*33554432∧0≤s.2.2∧s.2.2≤s.1*33554432) (fun s=>[(1,.v (.int .i64 0)),(2,.v (.int .i64 0)),(3,.v (.int .i64 s.2.1)),(4,.v (.int .i64 s.2.2)),(5,.v (.int .i64 s.1))]) (fun _=>[]) (fun s=>l.length - s.1) (0,0,0) ⟨by omega,by simp [sumK_zero],by simp,by simp,by simp,by simp⟩ ?_ ?_
  · exact Cut.of' 0 rfl (by omega) (by simp (disch:=first | omega | simp (disch:=omega) only [aG]) only [fZ]) (by simp (disch:=first | omega | simp (disch:=omega) only [aG]) only [fZ])
  rintro ⟨k,hi,lo⟩ ⟨h1,h2,h3,h4,h5,h6⟩
  simp only at h1 h2 h3 h4 h5 h6
  by_cases hlt : k < l.length
  · have hx:=hr _ (mem_getD hlt)
    have hs:=sumK_succ l k hlt
    simp (disch:=((try simp only [lZ]); omega)) only [aZ]
    refine (numIn_vr (w:=false) (l.getD k 0)).use ⟨ld_slI _ 0 0 1 [l.getD k 0] rfl rfl,trivial⟩ rfl (aret_of ?_)
    simp (disch:=((try simp only [lZ]); omega)) only [aZ,decide_eq_true (show -1125899906842624≤l.getD k 0∧l.getD k 0≤1125899906842624 by omega),s_shrI,e25,s_andI (l.getD k 0) 33554431 25 (by omega) rfl (by omega) (by omega),e25']
    refine ⟨(k+1,hi+l.getD k 0 / 33554432,lo+l.getD k 0 % 33554432),⟨by simp only; omega,?_,?_,?_,?_,?_⟩,by simp only; omega,?_⟩
    · simp only; omega
    · simp only; omega
    · simp only; omega
    · simp only; omega
    · simp only; omega
    · exact Cut.of' 0 rfl (by omega) (by simp (disch:=first | omega | simp (disch:=omega) only [aG]) only [fZ]) (by simp (disch:=first | omega | simp (disch:=omega) only [aG]) only [fZ])
  · have hke : k=l.length:=by omega
    subst hke
    rw [sumK_all] at h2
    simp (disch:=((try simp only [lZ]); omega)) only [aZ,s_shrI,e25]
    refine ib_intro (fun h7=>?_) (fun h7=>?_)
    · rw [if_neg (by omega),if_neg (by omega)]
      simp (disch:=((try simp only [lZ]); omega)) only [aZ,r_num_Sum]
      exact post0 (Fz.refl rfl) ⟨rfl,rfl⟩
    · have e5 : (hi+lo / 33554432)*33554432+lo % 33554432=l.sum:=by omega
      simp (disch:=((try simp only [lZ]); omega)) only [aZ,s_shlI,e25,s_andI lo 33554431 25 (by omega) rfl (by omega) (by omega),e25',e5]
      refine (checked_vr l.sum).same (by simp (disch:=first | omega | simp (disch:=omega) only [aG]) only [fZ]) rfl (aret_of ?_)
      have e6 : (-1125899906842624≤l.sum∧l.sum≤1125899906842624)=(l.sum≤1125899906842624):=propext (by omega)
      simp only [e6]
      simp (disch:=((try simp only [lZ]); omega)) only [aZ,r_num_Sum]
      exact post0 (Fz.refl rfl) ⟨rfl,rfl⟩
def badW (w : Int) : Prop:=w < 0∨1125899906842624 < w
instance : DecidablePred badW:=fun w=>by unfold badW; infer_instance
def weighE (ws : List Int) : Int×Int :=
  if ws.length < 1∨512 < ws.length then (0,1) else if ∃ i,i < ws.length∧badW (ws.getD i 0) then (0,1) else if ws.sum≤1125899906842624 then (ws.sum,0) else (0,2)
theorem weigh_len {ws : List Int} (h : ws.length < 1∨512 < ws.length) : weighE ws=(0,1):=by unfold weighE; rw [if_pos h]
theorem weigh_bad {ws : List Int} (h : ¬ (ws.length < 1∨512 < ws.length)) (h2 : ∃ i,i < ws.length∧badW (ws.getD i 0)) : weighE ws=(0,1):=by unfold weighE; rw [if_neg h,if_pos h2]
theorem weigh_sum {ws : List Int} (h : ¬ (ws.length < 1∨512 < ws.length)) (h2 : ¬ ∃ i,i < ws.length∧badW (ws.getD i 0)) : weighE ws=if ws.sum≤1125899906842624 then (ws.sum,0) else (0,2):=by unfold weighE; rw [if_neg h,if_neg h2]
def pairT (x : Int×Int) : A:=.tup [.v (.int .i64 x.1),.v (.int .i64 x.2)]
theorem weighed_vr {w : Bool} (ws : List Int) : VR P false n_share_weighed [.fs w (ints ws)] [] (isR (pairT (weighE ws))):=by
  refine vr_share_weighed (by simp) (.inr rfl) fun _ _=>?_
  unfold pairT
  simp (disch:=((try simp only [lZ]); omega)) only [aZ,s_share_weighed,v_share_weighed]
  refine ib_intro (fun h1=>?_) (fun h1=>?_)
  · rw [weigh_len (by omega)]
    simp (disch:=((try simp only [lZ]); omega)) only [aZ,r_share_weighed]
    exact post0 (Fz.refl rfl) ⟨rfl,rfl⟩
  have h1 : ¬ (ws.length < 1∨512 < ws.length):=by omega
  simp (disch:=((try simp only [lZ]); omega)) only [aZ]
  refine AWP.loopP g_share_weighed_0 (fun k : Nat=>k≤ws.length∧∀ i,i < k→¬ badW (ws.getD i 0)) (fun k=>[(1,.v (.int .i64 0)),(2,.v (.int .i64 0)),(3,.v (.int .i64 k))]) (fun _=>[]) (fun k=>ws.length - k) 0 ⟨by omega,fun i hi=>by omega⟩ (by refine Cut.of' (0) ?_ (by omega) ?_ ?_<;>simp (disch:=first | omega | simp (disch:=omega) only [aG]) only [fZ]) ?_
  rintro k ⟨hk,hb⟩
  by_cases hlt : k < ws.length
  · simp (disch:=((try simp only [lZ]); omega)) only [aZ]
    refine ib_intro (fun h3=>?_) (fun h3=>?_)
    · rw [weigh_bad h1 ⟨k,hlt,h3⟩]
      simp (disch:=((try simp only [lZ]); omega)) only [aZ,r_share_weighed]
      exact post0 (Fz.refl rfl) ⟨rfl,rfl⟩
    · simp (disch:=((try simp only [lZ]); omega)) only [aZ]
      refine ⟨k+1,⟨by omega,fun i hi=>?_⟩,by omega,(by refine Cut.of' (0) ?_ (by omega) ?_ ?_<;>simp (disch:=first | omega | simp (disch:=omega) only [aG]) only [fZ])⟩
      rcases Nat.lt_succ_iff_lt_or_eq.1 hi with h | rfl
      · exact hb i h
      · exact h3
  · have hno : ¬ ∃ i, i < ws.length ∧ badW (ws.getD i 0) := by
      rintro ⟨i,h2,h3⟩; exact hb i (by omega) h3
    have hall : ∀ x∈ws,0≤x∧x≤1125899906842624:=fun x hx=>by
      obtain ⟨i,h2,rfl⟩:=getD_mem hx
      have:=hb i (by omega)
      unfold badW at this; omega
    rw [weigh_sum h1 hno]
    simp (disch:=((try simp only [lZ]); omega)) only [aZ]
    refine (numSum_vr (w:=w) ws (by omega) hall).same (by simp (disch:=first | omega | simp (disch:=omega) only [aG]) only [fZ]) rfl (aret_of ?_)
    by_cases h4 : ws.sum≤1125899906842624
    · simp only [if_pos h4]
      simp (disch:=((try simp only [lZ]); omega)) only [aZ,r_share_weighed]
      exact post0 (Fz.refl rfl) ⟨rfl,rfl⟩
    · simp only [if_neg h4]
      simp (disch:=((try simp only [lZ]); omega)) only [aZ,r_share_weighed]
      exact post0 (Fz.refl rfl) ⟨rfl,rfl⟩
theorem mul64_vr (x y : Int) (hx : 0≤x∧x≤18446744073709551615) (hy : 0≤y∧y≤18446744073709551615) : VR P false n_bits_Mul64 [.v (.int .u64 x),.v (.int .u64 y)] [] (isR (.tup [.v (.int .u64 (x*y / 18446744073709551616)),.v (.int .u64 (IntKind.wrap .u64 (x*y)))])):=by
  refine vr_bits_Mul64 (by simp) (.inr rfl) fun _ _=>?_
  have e32 : (2 : Int) ^ (32 : Int).toNat=4294967296:=by decide
  have e32' : (2 : Int) ^ 32=4294967296:=by decide
  obtain ⟨X,rfl⟩ : ∃ X : Nat,x=X:=⟨x.toNat,by omega⟩
  obtain ⟨Y,rfl⟩ : ∃ Y : Nat,y=Y:=⟨y.toNat,by omega⟩
  obtain ⟨m1,m2,m3,m4⟩:=Go.Lib.mul64_hi X Y (by omega) (by omega)
  have n4 : (X : Int) / 4294967296*((Y : Int) / 4294967296)+((X : Int) / 4294967296*((Y : Int) % 4294967296)+(X : Int) % 4294967296*((Y : Int) % 4294967296) / 4294967296) / 4294967296+(((X : Int) / 4294967296*((Y : Int) % 4294967296)+(X : Int) % 4294967296*((Y : Int) % 4294967296) / 4294967296) % 4294967296+(X : Int) % 4294967296*((Y : Int) / 4294967296)) / 4294967296=(X : Int)*Y / 18446744073709551616:=by
    have:=congrArg (fun n : Nat=>(n : Int)) m4
    simpa only [Int.natCast_add,Int.natCast_mul,Int.natCast_ediv,Int.natCast_emod,Int.cast_ofNat_Int] using this
  have n1 : (X : Int) % 4294967296*((Y : Int) % 4294967296) < 18446744073709551616:=by
    have:=Int.ofNat_lt.2 m1
    simpa only [Int.natCast_add,Int.natCast_mul,Int.natCast_ediv,Int.natCast_emod,Int.cast_ofNat_Int] using this
  have n2 : (X : Int) / 4294967296*((Y : Int) % 4294967296)+(X : Int) % 4294967296*((Y : Int) % 4294967296) / 4294967296 < 18446744073709551616:=by
    have:=Int.ofNat_lt.2 m2
    simpa only [Int.natCast_add,Int.natCast_mul,Int.natCast_ediv,Int.natCast_emod,Int.cast_ofNat_Int] using this
  have n3 : ((X : Int) / 4294967296*((Y : Int) % 4294967296)+(X : Int) % 4294967296*((Y : Int) % 4294967296) / 4294967296) % 4294967296+(X : Int) % 4294967296*((Y : Int) / 4294967296) < 18446744073709551616:=by
    have:=Int.ofNat_lt.2 m3
    simpa only [Int.natCast_add,Int.natCast_mul,Int.natCast_ediv,Int.natCast_emod,Int.cast_ofNat_Int] using this
  have p1 : 0≤(X : Int) % 4294967296*((Y : Int) % 4294967296):=Int.mul_nonneg (by omega) (by omega)
  have p2 : 0≤(X : Int) / 4294967296*((Y : Int) % 4294967296):=Int.mul_nonneg (by omega) (by omega)
  have p3 : 0≤(X : Int) % 4294967296*((Y : Int) / 4294967296):=Int.mul_nonneg (by omega) (by omega)
  have p4 : 0≤(X : Int) / 4294967296*((Y : Int) / 4294967296):=Int.mul_nonneg (by omega) (by omega)
  have p5 : (X : Int)*Y / 18446744073709551616≤18446744073709551615:=by
    have : (X : Int)*Y≤18446744073709551615*18446744073709551615:=Int.mul_le_mul (by omega) (by omega) (by omega) (by omega)
    omega
  have p6 : 0≤(X : Int)*Y:=Int.mul_nonneg (by omega) (by omega)
  simp (disch:=((try simp only [lZ]); omega)) only [aZ,s_bits_Mul64,v_bits_Mul64,s_andU (X : Int) 4294967295 32 (by omega) rfl (by omega) (by omega),s_andU (Y : Int) 4294967295 32 (by omega) rfl (by omega) (by omega),s_shrU,e32,e32']
  generalize hA : (X : Int) / 4294967296*((Y : Int) / 4294967296)=A at *
  generalize hB : (X : Int) / 4294967296*((Y : Int) % 4294967296)=B at *
  generalize hC : (X : Int) % 4294967296*((Y : Int) / 4294967296)=C at *
  generalize hD : (X : Int) % 4294967296*((Y : Int) % 4294967296)=D at *
  simp (disch:=((try simp only [lZ]); omega)) only [aZ,wrap_u64,s_shrU,e32,e32',s_andU (B+D / 4294967296) 4294967295 32 (by omega) rfl (by omega) (by omega),hA,hC,n4,r_bits_Mul64]
  exact post0 (Fz.refl rfl) ⟨rfl,rfl⟩
theorem div64_small (lo y : Int) (hlo : 0≤lo∧lo≤18446744073709551615) (hy : 0 < y∧y≤18446744073709551615) : VR P false n_bits_Div64 [.v (.int .u64 0),.v (.int .u64 lo),.v (.int .u64 y)] [] (isR (.tup [.v (.int .u64 (lo / y)),.v (.int .u64 (lo % y))])):=by
  refine vr_bits_Div64 (by simp) (.inr rfl) fun _ _=>?_
  have h1 : lo.tdiv y=lo / y:=Int.tdiv_eq_ediv_of_nonneg hlo.1
  have h2 : lo.tmod y=lo % y:=Int.tmod_eq_emod_of_nonneg hlo.1
  have h3 : 0≤lo / y:=Int.ediv_nonneg hlo.1 (by omega)
  have h4 : lo / y≤lo:=Int.ediv_le_self y hlo.1
  simp (disch:=((try simp only [lZ]); omega)) only [aZ,s_bits_Div64,v_bits_Div64,h1,h2,wrap_u64,r_bits_Div64]
  exact post0 (Fz.refl rfl) ⟨rfl,rfl⟩
def splitE (t : Int) (ws : List Int) : Int :=
  if t < 0∨70368744177664 < t then 1 else if (weighE ws).2≠0 then (weighE ws).2 else if (weighE ws).1=0∧0 < t then 10 else 0
def splitV (t : Int) (ws : List Int) : List Int×Int:=if splitE t ws≠0 then ([],splitE t ws) else (partsR t ws,0)
structure SplitOk (t : Int) (ws : List Int) : Prop where
  t0 : 0≤t∧t≤70368744177664
  len : 1≤ws.length∧ws.length≤512
  w : ∀ x∈ws,0≤x∧x≤1125899906842624
  sum : ws.sum≤1125899906842624
  pos : ws.sum=0→t=0
  we : weighE ws=(ws.sum,0)
theorem splitE_ok {t : Int} {ws : List Int} (h : splitE t ws=0) : SplitOk t ws:=by
  unfold splitE at h
  split at h
  · cases h
  rename_i h1
  split at h
  · contradiction
  rename_i h2
  split at h
  · cases h
  rename_i h3
  have h2':=Classical.not_not.1 h2
  have hw : weighE ws=if ws.length < 1∨512 < ws.length then (0,1) else if ∃ i,i < ws.length∧badW (ws.getD i 0) then (0,1) else if ws.sum≤1125899906842624 then (ws.sum,0) else (0,2):=rfl
  by_cases a1 : ws.length < 1∨512 < ws.length
  · rw [if_pos a1] at hw; rw [hw] at h2'; cases h2'
  rw [if_neg a1] at hw
  by_cases a2 : ∃ i,i < ws.length∧badW (ws.getD i 0)
  · rw [if_pos a2] at hw; rw [hw] at h2'; cases h2'
  rw [if_neg a2] at hw
  by_cases a3 : ws.sum≤1125899906842624
  · rw [if_pos a3] at hw
    rw [hw] at h3
    refine ⟨by omega,by omega,fun x hx=>?_,a3,fun hz=>?_,hw⟩
    · obtain ⟨i,h4,rfl⟩:=getD_mem hx
      apply Classical.byContradiction; intro hc
      exact a2 ⟨i,h4,by unfold badW; omega⟩
    · simp only at h3; omega
  · rw [if_neg a3] at hw; rw [hw] at h2'; cases h2'
theorem SplitOk.sp {t : Int} {ws : List Int} (h : SplitOk t ws) : SpOk t ws:=⟨h.t0.1,fun w hw=>(h.w w hw).1,fun hc=>by have:=h.len; rw [hc] at this; simp at this,h.pos⟩
theorem w_le {t : Int} {ws : List Int} (h : SplitOk t ws) {i : Nat} (hi : i < ws.length) : 0≤ws.getD i 0∧ws.getD i 0≤ws.sum:=by
  have h1:=h.w _ (mem_getD hi)
  refine ⟨h1.1,?_⟩
  have:=sum_le_p ((List.replicate ws.length 0).set i (ws.getD i 0)) ws (by simp) fun l hl=>by
    simp only [List.length_set,List.length_replicate] at hl
    rw [getD_seti]
    split
    · rename_i hc; rw [hc.1]; exact Int.le_refl _
    · have:=(h.w _ (mem_getD hl)).1
      simpa [List.getD_eq_getElem?_getD,hl] using this
  rw [sum_seti _ _ _ (by simpa using hi)] at this
  have e1 : (List.replicate ws.length (0 : Int)).sum=0:=by
    induction ws.length with
    | zero=>rfl
    | succ n ih=>rw [List.replicate_succ,List.sum_cons,ih]; rfl
  have e2 : (List.replicate ws.length (0 : Int)).getD i 0=0:=by simp [List.getD_eq_getElem?_getD,hi]
  omega
theorem q_le {t : Int} {ws : List Int} (h : SplitOk t ws) {i : Nat} (hi : i < ws.length) : 0≤t*ws.getD i 0 / ws.sum∧t*ws.getD i 0 / ws.sum≤t:=by
  have h1:=w_le h hi
  have h0:=h.t0.1
  refine ⟨Int.ediv_nonneg (Int.mul_nonneg h0 h1.1) (by omega),?_⟩
  by_cases hz : ws.sum=0
  · rw [hz,Int.ediv_zero]; exact h0
  · have : t*ws.getD i 0≤t*ws.sum:=Int.mul_le_mul_of_nonneg_left h1.2 h0
    have:=Int.ediv_le_ediv (show 0 < ws.sum by omega) this
    rwa [Int.mul_ediv_cancel _ hz] at this
theorem r_le {t : Int} {ws : List Int} (h : SplitOk t ws) {i : Nat} (hi : i < ws.length) : 0≤t*ws.getD i 0 % ws.sum∧t*ws.getD i 0 % ws.sum≤1125899906842624:=by
  have h1:=w_le h hi
  by_cases hz : ws.sum=0
  · rw [hz,h.pos hz]; simp
  · have:=Int.emod_lt_of_pos (t*ws.getD i 0) (show 0 < ws.sum by omega)
    have:=Int.emod_nonneg (t*ws.getD i 0) hz
    have:=h.sum
    omega
def frontQ (t : Int) (ws : List Int) (k : Nat) : List Int:=(quos t ws).take k++List.replicate (ws.length - k) 0
def frontR (t : Int) (ws : List Int) (k : Nat) : List Int:=(rems t ws).take k++List.replicate (ws.length - k) 0
def frontO (n k : Nat) : List Int:=rng 0 k++List.replicate (n - k) 0
theorem front_set (l : List Int) (n k : Nat) (y : Int) (hl : l.length=n) (hk : k < n) (hy : y=l.getD k 0) : (l.take k++List.replicate (n - k) 0).set k y=l.take (k+1)++List.replicate (n - (k+1)) 0:=by
  subst hy
  have h1 : (l.take k).length=k:=by simp; omega
  rw [List.set_append_right _ _ (by omega),h1,Nat.sub_self,show n - k=(n - (k+1))+1 by omega,List.replicate_succ,List.set_cons_zero,take_succ_I l k (by omega)]
  simp
theorem front_len (l : List Int) (n k : Nat) (hl : l.length=n) (hk : k≤n) : (l.take k++List.replicate (n - k) (0 : Int)).length=n:=by simp; omega
theorem front_get (l : List Int) (n k : Nat) (hl : l.length=n) (hk : k < n) : (l.take k++List.replicate (n - k) (0 : Int)).getD k 0=0:=by
  have h1 : (l.take k).length=k:=by simp; omega
  rw [get_app,h1,if_neg (by omega),Nat.sub_self]
  simp [List.getD_eq_getElem?_getD,show 0 < n - k by omega]
theorem sumQ_bd {t : Int} {ws : List Int} (h : SplitOk t ws) : ∀ k,k≤ws.length→0≤sumK (quos t ws) k∧sumK (quos t ws) k≤t:=fun k hk=>by
  have hl:=quos_len t ws
  have hnn : ∀ x∈quos t ws,0≤x:=fun x hx=>by
    obtain ⟨i,h2,rfl⟩:=getD_mem hx
    exact quos_nn h.sp i (by omega)
  have h1:=sum_ge0 ((quos t ws).take k) fun x hx=>hnn x (List.mem_of_mem_take hx)
  have h2:=sum_ge0 ((quos t ws).drop k) fun x hx=>hnn x (List.mem_of_mem_drop hx)
  have h3 : (quos t ws).sum=((quos t ws).take k).sum+((quos t ws).drop k).sum:=by rw [← List.sum_append,List.take_append_drop]
  have h4:=(left_bd h.sp).1
  unfold sumK; omega
theorem frontO_eq (n k : Nat) (hk : k≤n) : frontO n k=(rng 0 n).take k++List.replicate (n - k) 0:=by
  unfold frontO
  congr 1
  have : rng 0 n=rng 0 k++rng (0+k) (n - k):=by rw [← rng_split]; congr 1; omega
  rw [this,List.take_append_of_le_length (by rw [rng_len]; exact Nat.le_refl _),List.take_of_length_le (by rw [rng_len]; exact Nat.le_refl _)]
theorem sp_err {t : Int} {ws : List Int} (h : t < 0∨70368744177664 < t) : splitV t ws=([],1):=by unfold splitV splitE; rw [if_pos h]; rfl
theorem sp_we {t : Int} {ws : List Int} (h : ¬ (t < 0∨70368744177664 < t)) (h2 : (weighE ws).2≠0) : splitV t ws=([],(weighE ws).2):=by unfold splitV splitE; rw [if_neg h,if_pos h2,if_pos h2]
theorem sp_empty {t : Int} {ws : List Int} (h : ¬ (t < 0∨70368744177664 < t)) (h2 : ¬ (weighE ws).2≠0) (h3 : (weighE ws).1=0∧0 < t) : splitV t ws=([],10):=by unfold splitV splitE; rw [if_neg h,if_neg h2,if_pos h3]; rfl
theorem sp_ok {t : Int} {ws : List Int} (h : ¬ (t < 0∨70368744177664 < t)) (h2 : ¬ (weighE ws).2≠0) (h3 : ¬ ((weighE ws).1=0∧0 < t)) : splitE t ws=0∧splitV t ws=(partsR t ws,0):=by
  have : splitE t ws=0:=by unfold splitE; rw [if_neg h,if_neg h2,if_neg h3]
  exact ⟨this,by unfold splitV; rw [if_neg (by omega)]⟩
theorem rd_bound {p0 q0 : List Int} (hp : ∀ i,i < p0.length→0≤p0.getD i 0∧p0.getD i 0≤70368744177664) : ∀ k i,i < p0.length→0≤(rd p0 q0 k).1.getD i 0∧(rd p0 q0 k).1.getD i 0≤70368744177664+k
  | 0,i,hi=>by have:=hp i hi; simp only [rd]; omega
  | k+1,i,hi=>by
    have ih:=rd_bound (q0:=q0) hp k
    simp only [rd,inc]
    rw [getD_seti]
    split
    · rename_i h
      rw [h.1]
      have:=ih i hi; omega
    · have:=ih i hi; omega
def SplitO (t : Int) (ws : List Int) : A→List Blk→Prop:=fun r G=>((splitV t ws).2≠0∧r=.tup [.fs true [],.v (.int .i64 (splitV t ws).2)]∧G=[])∨((splitV t ws).2=0∧∃ ver,r=.tup [.sl 0 ver 1 0 ws.length,.v (.int .i64 0)]∧G=[⟨ver,ints (partsR t ws)⟩])
theorem check1_vr (x : Int) : VR P false n_material_check_1 [.v (.int .i64 x)] [] (isR (.v (.bool (decide (badM x))))):=by
  refine vr_material_check_1 (by simp) (.inr rfl) fun _ _=>?_
  simp (disch:=((try simp only [lZ]); omega)) only [aZ,aM,aBl,s_material_check_1,v_material_check_1,r_material_check_1]
  exact post_v ⟨rfl,rfl⟩
theorem badM_hit {xs : List Int} {k : Nat} (hk : k < xs.length) (hb : ∀ i,i < k→¬ badM (xs.getD i 0)) (hp : badM (xs.getD k 0)) : idxE badM xs=k:=idxE_hit (p:=badM) 0 hk hb hp
theorem badM_none {xs : List Int} (hb : ∀ i,i < xs.length→¬ badM (xs.getD i 0)) : idxE badM xs=-1:=idxE_none (p:=badM) 0 hb
theorem indexMix_vr {w : Bool} (xs : List Int) (hl : xs.length < 1000000000) : VR P false n_slices_IndexFunc [.fs w (ints xs),.fn n_material_check_1 []] [] (isR (.v (.int .i64 (idxE badM xs)))):=by
  refine vr_slices_IndexFunc (by simp) (.inr rfl) fun _ _=>?_
  simp (disch:=((try simp only [lZ]); omega)) only [aZ,aM,aBl,s_slices_IndexFunc,v_slices_IndexFunc]
  refine AWP.loopP g_slices_IndexFunc_0 (fun k : Nat=>k≤xs.length∧∀ i,i < k→¬ badM (xs.getD i 0)) (fun k=>[(2,.v (.int .i64 0)),(3,.v (.int .i64 k))]) (fun _=>[]) (fun k=>xs.length - k) 0 ⟨by omega,fun i hi=>by omega⟩ (by refine Cut.of' (0) ?_ (by omega) ?_ ?_<;>simp (disch:=first | omega | simp (disch:=omega) only [aG,aM,aBl]) only [fZ,aM,aBl]) ?_
  rintro k ⟨hk,hb⟩
  by_cases hlt : k < xs.length
  · simp (disch:=((try simp only [lZ]); omega)) only [aZ,aM,aBl]
    refine ⟨by kernel_rfl,?_⟩
    refine (check1_vr (xs.getD k 0)).same (by simp (disch:=first | omega | simp (disch:=omega) only [aG,aM,aBl]) only [fZ,aM,aBl]) rfl (aret_of ?_)
    simp (disch:=((try simp only [lZ]); omega)) only [aZ,aM,aBl]
    refine ib_intro (fun h3=>?_) (fun h3=>?_)
    · simp (disch:=((try simp only [lZ]); omega)) only [aZ,aM,aBl,r_slices_IndexFunc]
      exact post_v ⟨by rw [badM_hit hlt hb h3],rfl⟩
    · simp (disch:=((try simp only [lZ]); omega)) only [aZ,aM,aBl]
      refine ⟨k+1,⟨by omega,fun i hi=>?_⟩,by omega,(by refine Cut.of' (0) ?_ (by omega) ?_ ?_<;>simp (disch:=first | omega | simp (disch:=omega) only [aG,aM,aBl]) only [fZ,aM,aBl])⟩
      rcases Nat.lt_succ_iff_lt_or_eq.1 hi with h | rfl
      · exact hb i h
      · exact h3
  · simp (disch:=((try simp only [lZ]); omega)) only [aZ,aM,aBl,r_slices_IndexFunc]
    exact post_v ⟨by rw [badM_none fun i hi=>hb i (by omega)],rfl⟩
theorem containsMix_vr {w : Bool} (xs : List Int) (hl : xs.length < 1000000000) : VR P false n_slices_ContainsFunc [.fs w (ints xs),.fn n_material_check_1 []] [] (isR (.v (.bool (decide (0≤idxE badM xs))))):=by
  refine vr_slices_ContainsFunc (by simp) (.inr rfl) fun _ _=>?_
  simp (disch:=((try simp only [lZ]); omega)) only [aZ,aM,aBl,s_slices_ContainsFunc,v_slices_ContainsFunc]
  refine (indexMix_vr (w:=w) xs hl).same (by simp (disch:=first | omega | simp (disch:=omega) only [aG,aM,aBl]) only [fZ,aM,aBl]) rfl (aret_of ?_)
  simp (disch:=((try simp only [lZ]); omega)) only [aZ,aM,aBl,r_slices_ContainsFunc]
  exact post_v ⟨vdec Iff.rfl,rfl⟩
theorem mixCheck_vr {w v : Bool} (l : List (List Int)) (hl : l.length < 1000000000) : VR P false n_material_check [.fs w (rows v l)] [] (isR (.v (.int .i64 (firstE mixE l)))):=by
  refine vr_material_check (by simp) (.inr rfl) fun _ _=>?_
  simp (disch:=((try simp only [lZ]); omega)) only [aZ,aM,aBl,s_material_check,v_material_check]
  refine AWP.loopP g_material_check_0 (fun k : Nat=>k≤l.length∧∀ i,i < k→mixE (l.getD i [])=0) (fun k=>[(1,.v (.int .i64 0)),(2,.v (.int .i64 k))]) (fun _=>[]) (fun k=>l.length - k) 0 ⟨by omega,fun i hi=>by omega⟩ (by refine Cut.of' (0) ?_ (by omega) ?_ ?_<;>simp (disch:=first | omega | simp (disch:=omega) only [aG,aM,aBl]) only [fZ,aM,aBl]) ?_
  rintro k ⟨hk,hb⟩
  by_cases hlt : k < l.length
  · simp (disch:=((try simp only [lZ]); omega)) only [aZ,aM,aBl]
    refine ib_intro (fun h3=>?_) (fun h3=>?_)
    · have he:=mixE_len (xs:=l.getD k []) (by omega)
      simp (disch:=((try simp only [lZ]); omega)) only [aZ,aM,aBl,r_material_check]
      exact post_v ⟨by rw [firstE_hit [] hlt hb (by omega),he],rfl⟩
    · simp (disch:=((try simp only [lZ]); omega)) only [aZ,aM,aBl]
      refine (containsMix_vr (w:=v) (l.getD k []) (by omega)).same (by simp (disch:=first | omega | simp (disch:=omega) only [aG,aM,aBl]) only [fZ,aM,aBl]) rfl (aret_of ?_)
      simp (disch:=((try simp only [lZ]); omega)) only [aZ,aM,aBl]
      refine ib_intro (fun h4=>?_) (fun h4=>?_)
      · have he:=mixE_bad (xs:=l.getD k []) (by omega) h4
        simp (disch:=((try simp only [lZ]); omega)) only [aZ,aM,aBl,r_material_check]
        exact post_v ⟨by rw [firstE_hit [] hlt hb (by omega),he],rfl⟩
      · have he:=mixE_good (xs:=l.getD k []) (by omega) h4
        simp (disch:=((try simp only [lZ]); omega)) only [aZ,aM,aBl]
        refine ⟨k+1,⟨by omega,fun i hi=>?_⟩,by omega,(by refine Cut.of' (0) ?_ (by omega) ?_ ?_<;>simp (disch:=first | omega | simp (disch:=omega) only [aG,aM,aBl]) only [fZ,aM,aBl])⟩
        rcases Nat.lt_succ_iff_lt_or_eq.1 hi with h | rfl
        · exact hb i h
        · exact he
  · simp (disch:=((try simp only [lZ]); omega)) only [aZ,aM,aBl,r_material_check]
    exact post_v ⟨by rw [firstE_none [] fun i hi=>hb i (by omega)],rfl⟩
theorem firstE_one (xs : List Int) : firstE mixE [xs]=mixE xs:=by
  unfold firstE firstE; split
  · rfl
  · rename_i h; exact (Classical.not_not.1 h).symm
theorem mixCheck1_vr (xs : List Int) : VR P false n_material_check [.fs false [.fs false (ints xs)]] [] (isR (.v (.int .i64 (mixE xs)))):=by
  have h:=mixCheck_vr (w:=false) (v:=false) [xs] (by simp)
  rw [firstE_one] at h; exact h
theorem materialTotal_vr {w : Bool} (xs : List Int) : VR P false n_material_Total [.fs w (ints xs)] [] (isR (pairT (totM xs))):=by
  refine vr_material_Total (by simp) (.inr rfl) fun _ _=>?_
  unfold pairT
  simp (disch:=((try simp only [lZ]); omega)) only [aZ,aM,aBl,s_material_Total,v_material_Total]
  refine (mixCheck1_vr xs).use (ld_all (by simp [zZ,blkAt,flatA,A.cells,A.one,Lft.one,retA,A.bdL,A.bd,ii_bd])) rfl (aret_of ?_)
  simp (disch:=((try simp only [lZ]); omega)) only [aZ,aM,aBl]
  refine ib_intro (fun h1=>?_) (fun h1=>?_)
  · rw [totM_err h1]
    simp (disch:=((try simp only [lZ]); omega)) only [aZ,aM,aBl,r_material_Total]
    exact post0 (Fz.refl rfl) ⟨rfl,rfl⟩
  have h1:=Classical.not_not.1 h1
  have h2:=sumT_mix h1
  have h3:=(mixE_ok.1 h1).1
  rw [totM_ok h1]
  simp (disch:=((try simp only [lZ]); omega)) only [aZ,aM,aBl]
  refine AWP.loopP g_material_Total_0 (fun k : Nat=>k≤xs.length) (fun k=>[(4,.v (.int .i64 (sumT xs k))),(5,.v (.int .i64 k))]) (fun _=>[]) (fun k=>xs.length - k) 0 (by omega) ?_ ?_
  · rw [sumT_zero]
    exact Cut.of' 1 rfl (by omega) (by simp (disch:=first | omega | simp (disch:=omega) only [aG,aM,aBl]) only [fZ,aM,aBl]) (by simp (disch:=first | omega | simp (disch:=omega) only [aG,aM,aBl]) only [fZ,aM,aBl])
  rintro k hk
  have h4:=h2 k hk
  by_cases hlt : k < xs.length
  · have h5:=mixE_get h1 k hlt
    simp (disch:=((try simp only [lZ]); omega)) only [aZ,aM,aBl]
    refine ⟨k+1,by omega,by omega,?_⟩
    rw [sumT_succ xs k hlt]
    exact Cut.of' 1 rfl (by omega) (by simp (disch:=first | omega | simp (disch:=omega) only [aG,aM,aBl]) only [fZ,aM,aBl]) (by simp (disch:=first | omega | simp (disch:=omega) only [aG,aM,aBl]) only [fZ,aM,aBl])
  · have hke : k=xs.length:=by omega
    subst hke
    simp (disch:=((try simp only [lZ]); omega)) only [aZ,aM,aBl,r_material_Total,sumT_all]
    exact post0 (Fz.refl rfl) ⟨rfl,rfl⟩
theorem materialPurity_vr {w : Bool} (xs : List Int) (i : Int) : VR P false n_material_Purity [.fs w (ints xs),.v (.int .i64 i)] [] (isR (pairT (purM xs i))):=by
  refine vr_material_Purity (by simp) (.inr rfl) fun _ _=>?_
  have ht:=materialTotal_vr (w:=w) xs
  unfold pairT at ht ⊢
  simp (disch:=((try simp only [lZ]); omega)) only [aZ,aM,aBl,s_material_Purity,v_material_Purity]
  refine ht.same (by simp (disch:=first | omega | simp (disch:=omega) only [aG,aM,aBl]) only [fZ,aM,aBl]) (by simp (disch:=first | omega | simp (disch:=omega) only [aG,aM,aBl]) only [fZ,aM,aBl]) (aret_of ?_)
  by_cases h1 : mixE xs=0
  case neg =>
    rw [totM_err h1,purM_err h1]
    simp (disch:=((try simp only [lZ]); omega)) only [aZ,aM,aBl,r_material_Purity]
    exact post0 (Fz.refl rfl) ⟨rfl,rfl⟩
  rw [totM_ok h1]
  have h2:=sum_mix h1
  simp (disch:=((try simp only [lZ]); omega)) only [aZ,aM,aBl]
  refine ib_intro (fun h3=>?_) (fun h3=>?_)
  · rw [purM_rng h1 h3]
    simp (disch:=((try simp only [lZ]); omega)) only [aZ,aM,aBl,r_material_Purity]
    exact post0 (Fz.refl rfl) ⟨rfl,rfl⟩
  simp (disch:=((try simp only [lZ]); omega)) only [aZ,aM,aBl]
  refine ib_intro (fun h4=>?_) (fun h4=>?_)
  · rw [purM_emp h1 h3 h4]
    simp (disch:=((try simp only [lZ]); omega)) only [aZ,aM,aBl,r_material_Purity]
    exact post0 (Fz.refl rfl) ⟨rfl,rfl⟩
  rw [purM_ok h1 h3 h4]
  have h5:=mixE_get0 h1 i.toNat
  have h6 : 0≤xs.getD i.toNat 0*1000 / xs.sum:=Int.ediv_nonneg (by omega) h2.1
  have h7 : xs.getD i.toNat 0*1000 / xs.sum≤xs.getD i.toNat 0*1000:=Int.ediv_le_self _ (by omega)
  simp (disch:=((try simp only [lZ]); omega)) only [aZ,aM,aBl,r_material_Purity]
  exact post0 (Fz.refl rfl) ⟨rfl,rfl⟩
def DivOk (t : Int) (ws : List Int) : Prop:=0 < ws.sum→∀ i,i < ws.length→VR P false n_bits_Div64 [.v (.int .u64 (t*ws.getD i 0 / 18446744073709551616)),.v (.int .u64 (IntKind.wrap .u64 (t*ws.getD i 0))),.v (.int .u64 ws.sum)] [] (isR (.tup [.v (.int .u64 (t*ws.getD i 0 / ws.sum)),.v (.int .u64 (t*ws.getD i 0 % ws.sum))]))
theorem divOk_small {t : Int} {ws : List Int} (h : SplitOk t ws) (hs : ∀ i,i < ws.length→t*ws.getD i 0≤18446744073709551615) : DivOk t ws:=fun hp i hi=>by
  have h1:=hs i hi
  have h2 : 0≤t*ws.getD i 0:=Int.mul_nonneg h.t0.1 (w_le h hi).1
  have:=h.sum
  rw [show t*ws.getD i 0 / 18446744073709551616=0 by omega,wrap_u64 h2 h1]
  exact div64_small _ _ ⟨h2,h1⟩ ⟨hp,by omega⟩
theorem shareSplitO_vr {w : Bool} (t : Int) (ws : List Int) (hd : splitE t ws=0→DivOk t ws) : VR P false n_share_Split [.v (.int .i64 t),.fs w (ints ws)] [] (SplitO t ws):=by
  refine vr_share_Split (by simp) (.inr rfl) fun _ _=>?_
  simp (disch:=((try simp only [lZ]); omega)) only [aZ,s_share_Split,v_share_Split]
  refine ib_intro (fun h1=>?_) (fun h1=>?_)
  · simp (disch:=((try simp only [lZ]); omega)) only [aZ,r_share_Split]
    exact post_err (.inl ⟨by rw [sp_err h1]; decide,by rw [sp_err h1],rfl⟩)
  simp (disch:=((try simp only [lZ]); omega)) only [aZ]
  refine (weighed_vr (w:=w) ws).same (by simp (disch:=first | omega | simp (disch:=omega) only [aG]) only [fZ]) rfl (aret_of ?_)
  unfold pairT
  simp (disch:=((try simp only [lZ]); omega)) only [aZ]
  refine ib_intro (fun h2=>?_) (fun h2=>?_)
  · simp (disch:=((try simp only [lZ]); omega)) only [aZ,r_share_Split]
    exact post_err (.inl ⟨by rw [sp_we h1 h2]; exact h2,by rw [sp_we h1 h2],rfl⟩)
  simp (disch:=((try simp only [lZ]); omega)) only [aZ]
  refine ib_intro (fun h3=>?_) (fun h3=>?_)
  · simp (disch:=((try simp only [lZ]); omega)) only [aZ,r_share_Split]
    exact post_err (.inl ⟨by rw [sp_empty h1 h2 h3]; decide,by rw [sp_empty h1 h2 h3],rfl⟩)
  obtain ⟨e0,e1⟩:=sp_ok h1 h2 h3
  have hd:=hd e0
  have ok:=splitE_ok e0
  obtain ⟨t0,t1⟩:=ok.t0
  obtain ⟨n0,n1⟩:=ok.len
  have hws:=ok.sum
  have hl:=quos_len t ws
  have hl2:=rems_len t ws
  have hlb:=left_bd ok.sp
  rw [ok.we]
  simp (disch:=((try simp only [lZ]); omega)) only [aZ]
  refine AWP.loopP (α:=Nat) g_share_Split_0 (fun k=>k≤ws.length) (fun k=>[(8,.v (.int .i64 (t - sumK (quos t ws) k))),(9,.v (.int .i64 k))]) (fun k=>[(0,⟨0,ints (frontQ t ws k)⟩),(1,⟨0,ints (frontR t ws k)⟩),(2,⟨0,ints (frontO ws.length k)⟩)]) (fun k=>ws.length - k) 0 (by omega) ?_ ?_
  · have z1 : frontQ t ws 0=List.replicate ws.length 0:=by simp [frontQ]
    have z2 : frontR t ws 0=List.replicate ws.length 0:=by simp [frontR]
    have z3 : frontO ws.length 0=List.replicate ws.length 0:=by simp [frontO,rng]
    simp only [z1,z2,z3,sumK_zero,Int.sub_zero]
    try simp (disch:=((try simp only [lZ]); omega)) only [aZ]
    exact Cut.of' 4 rfl (by omega) (by simp (disch:=first | omega | simp (disch:=omega) only [aG]) only [fZ]) (by simp (disch:=first | omega | simp (disch:=omega) only [aG]) only [fZ])
  rintro k hk
  have hsb:=sumQ_bd ok k hk
  have f1 : (frontQ t ws k).length=ws.length:=front_len _ _ _ hl hk
  have f2 : (frontR t ws k).length=ws.length:=front_len _ _ _ hl2 hk
  have f3 : (frontO ws.length k).length=ws.length:=by rw [frontO_eq _ _ hk]; exact front_len _ _ _ (rng_len _ _) hk
  by_cases hlt : k < ws.length
  · have hsb1:=sumQ_bd ok (k+1) (by omega)
    have hs1:=sumK_succ (quos t ws) k (by omega)
    have g1 : (quos t ws).getD k 0=t*ws.getD k 0 / ws.sum:=getD_map _ _ _ hlt
    have g2 : (rems t ws).getD k 0=t*ws.getD k 0 % ws.sum:=getD_map _ _ _ hlt
    rw [g1] at hs1
    have u1 : (frontQ t ws k).set k (t*ws.getD k 0 / ws.sum)=frontQ t ws (k+1):=front_set _ _ _ _ hl hlt g1.symm
    have u2 : (frontR t ws k).set k (t*ws.getD k 0 % ws.sum)=frontR t ws (k+1):=front_set _ _ _ _ hl2 hlt g2.symm
    have u3 : (frontO ws.length k).set k (k : Int)=frontO ws.length (k+1):=by
      rw [frontO_eq _ _ hk,frontO_eq _ _ (by omega)]
      exact front_set _ _ _ _ (rng_len _ _) hlt (by rw [rng_get _ _ _ hlt,Nat.zero_add])
    have f1' : (frontQ t ws (k+1)).length=ws.length:=front_len _ _ _ hl (by omega)
    have u4 : (frontQ t ws (k+1)).getD k 0=t*ws.getD k 0 / ws.sum:=by
      rw [← u1,getD_seti,if_pos ⟨rfl,by omega⟩]
    have hwl:=w_le ok hlt
    have hqr:=q_le ok hlt
    have hrr:=r_le ok hlt
    have sa : (t - sumK (quos t ws) k) - t*ws.getD k 0 / ws.sum=t - sumK (quos t ws) (k+1):=by omega
    simp (disch:=((try simp only [lZ]); omega)) only [aZ,Int.toNat_natCast,u3]
    refine ib_intro (fun h4=>?_) (fun h4=>?_)
    · have hdk:=hd (by omega) k hlt
      simp (disch:=((try simp only [lZ]); omega)) only [aZ,wrap_u64]
      refine (mul64_vr t (ws.getD k 0) ⟨t0,by omega⟩ ⟨hwl.1,by omega⟩).same (by simp (disch:=first | omega | simp (disch:=omega) only [aG]) only [fZ]) rfl (aret_of ?_)
      simp (disch:=((try simp only [lZ]); omega)) only [aZ,wrap_u64]
      refine hdk.same (by simp (disch:=first | omega | simp (disch:=omega) only [aG]) only [fZ]) rfl (aret_of ?_)
      simp (disch:=((try simp only [lZ]); omega)) only [aZ,Int.toNat_natCast,u1,u2,u4,sa]
      refine ⟨?_,?_⟩
      all_goals
        refine ⟨k+1,by omega,by omega,?_⟩
        exact Cut.of' 4 rfl (by omega) (by simp (disch:=first | omega | simp (disch:=omega) only [aG]) only [fZ]) (by simp (disch:=first | omega | simp (disch:=omega) only [aG]) only [fZ])
    · have hz : ws.sum=0:=by omega
      have z1 : t*ws.getD k 0 / ws.sum=0:=by rw [hz,Int.ediv_zero]
      have z2 : t*ws.getD k 0 % ws.sum=0:=by rw [hz,ok.pos hz]; simp
      rw [z1] at sa u1
      rw [z2] at u2
      have u5 : (frontQ t ws k).getD k 0=0:=front_get _ _ _ hl hlt
      have v1 : (frontQ t ws k).set k 0=frontQ t ws k:=eq_getD (by simp) fun i hi=>by
        rw [getD_seti]; split
        · rename_i h; rw [← h.1,u5]
        · rfl
      have v2 : (frontR t ws k).set k 0=frontR t ws k:=eq_getD (by simp) fun i hi=>by
        rw [getD_seti]; split
        · rename_i h; rw [← h.1]; exact (front_get _ _ _ hl2 hlt).symm
        · rfl
      rw [v1] at u1
      rw [v2] at u2
      simp (disch:=((try simp only [lZ]); omega)) only [aZ,Int.toNat_natCast,u5,sa]
      refine ⟨k+1,by omega,by omega,?_⟩
      rw [← u1,← u2]
      exact Cut.of' 4 rfl (by omega) (by simp (disch:=first | omega | simp (disch:=omega) only [aG]) only [fZ]) (by simp (disch:=first | omega | simp (disch:=omega) only [aG]) only [fZ])
  · have hke : k=ws.length:=by omega
    subst hke
    have tq : frontQ t ws ws.length=quos t ws:=by
      unfold frontQ; rw [List.take_of_length_le (by omega),Nat.sub_self]; simp
    have tr : frontR t ws ws.length=rems t ws:=by
      unfold frontR; rw [List.take_of_length_le (by omega),Nat.sub_self]; simp
    have to : frontO ws.length ws.length=rng 0 ws.length:=by
      unfold frontO; rw [Nat.sub_self]; simp
    have sq : sumK (quos t ws) ws.length=(quos t ws).sum:=by rw [← hl,sumK_all]
    have hlN : t - (quos t ws).sum=(leftN t ws : Nat):=by unfold leftN; omega
    have hln : leftN t ws < ws.length:=by omega
    have hQ : QOk (rems t ws):=fun i hi=>by
      rw [show (rems t ws).getD i 0=t*ws.getD i 0 % ws.sum from getD_map _ _ _ (by omega)]
      exact r_le ok (by omega)
    have hs:=sortStable_vr (p:=quos t ws) hQ (by omega)
    unfold HS at hs
    rw [hl2] at hs
    have hpb : ∀ i,i < (quos t ws).length→0≤(quos t ws).getD i 0∧(quos t ws).getD i 0≤70368744177664:=fun i hi=>by
      rw [show (quos t ws).getD i 0=t*ws.getD i 0 / ws.sum from getD_map _ _ _ (by omega)]
      have:=q_le ok (i:=i) (by omega); omega
    rw [tq,tr,to,sq,hlN]
    clear f1 f2 f3 hsb
    simp (disch:=((try simp only [lZ]); omega)) only [aZ]
    refine hs.mono ?_
    rintro r H' ⟨rfl,T,T1,T2,T3,rfl⟩
    refine aret_of ?_
    have hsrt:=rd_sorted (p0:=quos t ws) (q0:=rems t ws) (T:=T) (by omega) (fun i hi=>(hQ i hi).1) (by omega) (by rw [hl2]; exact T2) T3
    have hrb:=rd_bound (q0:=rems t ws) hpb
    simp (disch:=((try simp only [lZ]); omega)) only [aZ]
    refine AWP.loopP (α:=Nat) g_share_Split_1 (fun j=>j≤leftN t ws) (fun j=>[(20,.v (.int .i64 j))]) (fun j=>[(0,⟨0,ints (incs (quos t ws) (T.take j))⟩)]) (fun j=>leftN t ws - j) 0 (Nat.zero_le _) ?_ ?_
    · simp only [List.take_zero,incs,List.foldl_nil]
      exact Cut.of' 4 rfl (by omega) (by simp (disch:=first | omega | simp (disch:=omega) only [aG]) only [fZ]) (by simp (disch:=first | omega | simp (disch:=omega) only [aG]) only [fZ])
    rintro j hj
    have il:=incs_len (quos t ws) (T.take j)
    by_cases hjl : j < leftN t ws
    · have hx:=T2 _ (mem_getD (l:=T) (i:=j) (by omega))
      have his:=incs_succ (quos t ws) T j (by omega)
      have hb:=hrb j (T.getD j 0).toNat (by omega)
      rw [(hsrt j (by omega)).1] at hb
      unfold inc at his
      simp (disch:=((try simp only [lZ]); omega)) only [aZ,Int.toNat_natCast]
      refine ⟨j+1,by omega,by omega,?_⟩
      rw [his]
      exact Cut.of' 4 rfl (by omega) (by simp (disch:=first | omega | simp (disch:=omega) only [aG]) only [fZ]) (by simp (disch:=first | omega | simp (disch:=omega) only [aG]) only [fZ])
    · have hje : j=leftN t ws:=by omega
      subst hje
      have hpR : partsR t ws=incs (quos t ws) (T.take (leftN t ws)):=(hsrt _ (by omega)).1
      simp (disch:=((try simp only [lZ]); omega)) only [aZ,r_share_Split]
      exact ⟨.tup [.sl 0 0 1 0 ws.length,.v (.int .i64 0)],[⟨0,ints (partsR t ws)⟩],Cut.of' 1 rfl (by omega) ⟨rfl,by rw [hpR]; exact FzL.refl (ii_bd _ _),trivial⟩ ⟨Fz.refl rfl,trivial⟩,.inr ⟨by rw [e1],0,rfl,rfl⟩⟩
end Go.Proofs.Ytcppaddgclkekaa
namespace Go.Proofs.Ytcppaddgclkekaa
open Go Go.Lft
set_option linter.unusedSimpArgs false
set_option linter.unusedVariables false
def isB (m o : Int) (b : Bt) : Prop:=b.fr=m∧b.ot=o
instance (m o : Int) : DecidablePred (isB m o):=fun b=>by unfold isB; infer_instance
def findB (bs : List Bt) (m o : Int) : Int:=idxE (isB m o) bs
def beltE (ms : List Mc) (b : Bt) : Int :=
  if b.fr < 0∨(ms.length : Int)≤b.fr∨b.ot < 0∨(outsN (ms.getD b.fr.toNat []) : Int)≤b.ot∨b.to < 0∨(ms.length : Int)≤b.to then 7
  else if b.ln < 1∨16 < b.ln then 1 else 0
def twice (bs : List Bt) : Prop:=∃ k,k < bs.length∧findB bs (bs.getD k b0).fr (bs.getD k b0).ot≠k
def openO (ms : List Mc) (bs : List Bt) : Prop:=∃ i,i < ms.length∧∃ o,o < outsN (ms.getD i [])∧findB bs i o < 0
instance (bs : List Bt) : Decidable (twice bs):=by unfold twice; infer_instance
instance (ms : List Mc) (bs : List Bt) : Decidable (openO ms bs):=by unfold openO; infer_instance
def beltsE (ms : List Mc) (bs : List Bt) : Int :=
  if firstE (beltE ms) bs≠0 then firstE (beltE ms) bs else if twice bs then 6 else 0
def pcheck (p : Pl) : Int :=
  if p.mat < 1∨16 < p.mat then 1 else if p.ms.length=0 then 10 else if 24 < p.ms.length∨48 < p.bs.length then 8
  else if firstE (fun m=>mcheck m p.mat) p.ms≠0 then firstE (fun m=>mcheck m p.mat) p.ms
  else if beltsE p.ms p.bs≠0 then beltsE p.ms p.bs
  else if openO p.ms p.bs then 3
  else if p.fd < 0∨(p.ms.length : Int)≤p.fd then 7
  else if outsN (p.ms.getD p.fd.toNat [])=0 then 13 else 0
structure POk (p : Pl) : Prop where
  m1 : 1≤p.mat
  m2 : p.mat≤16
  n1 : 1≤p.ms.length
  n2 : p.ms.length≤24
  b2 : p.bs.length≤48
  mc : ∀ m∈p.ms,MOk m p.mat
  bt : ∀ b∈p.bs,0≤b.fr∧b.fr < p.ms.length∧0≤b.ot∧b.ot < outsN (p.ms.getD b.fr.toNat [])∧0≤b.to∧b.to < p.ms.length∧1≤b.ln∧b.ln≤16
  un : ∀ k,k < p.bs.length→findB p.bs (p.bs.getD k b0).fr (p.bs.getD k b0).ot=k
  op : ∀ i,i < p.ms.length→∀ o,o < outsN (p.ms.getD i [])→0≤findB p.bs i o
  fd : 0≤p.fd∧p.fd < p.ms.length
  fo : outsN (p.ms.getD p.fd.toNat [])≠0
theorem beltE_ok {ms : List Mc} {b : Bt} (h : beltE ms b=0) : 0≤b.fr∧b.fr < ms.length∧0≤b.ot∧b.ot < outsN (ms.getD b.fr.toNat [])∧0≤b.to∧b.to < ms.length∧1≤b.ln∧b.ln≤16:=by
  unfold beltE at h
  split at h
  · cases h
  · split at h
    · cases h
    · omega
theorem pcheck_ok {p : Pl} (h : pcheck p=0) : POk p:=by
  unfold pcheck at h
  split at h
  · cases h
  rename_i h1
  split at h
  · cases h
  rename_i h2
  split at h
  · cases h
  rename_i h3
  split at h
  · contradiction
  rename_i h4
  split at h
  · contradiction
  rename_i h5
  split at h
  · cases h
  rename_i h6
  split at h
  · cases h
  rename_i h7
  split at h
  · cases h
  rename_i h8
  have h5:=Classical.not_not.1 h5
  unfold beltsE at h5
  split at h5
  · contradiction
  rename_i h9
  split at h5
  · cases h5
  rename_i h10
  refine ⟨by omega,by omega,by omega,by omega,by omega,fun m hm=>mcheck_ok (firstE_all (Classical.not_not.1 h4) m hm),fun b hb=>beltE_ok (firstE_all (Classical.not_not.1 h9) b hb),fun k hk=>?_,fun i hi o ho=>?_,by omega,h8⟩
  · apply Classical.byContradiction; intro hc; exact h10 ⟨k,hk,hc⟩
  · apply Classical.byContradiction; intro hc; exact h6 ⟨i,hi,o,ho,by omega⟩
theorem findB_ok {bs : List Bt} {m o : Int} (h : 0≤findB bs m o) : (findB bs m o).toNat < bs.length∧(bs.getD (findB bs m o).toNat b0).fr=m∧(bs.getD (findB bs m o).toNat b0).ot=o:=by
  have h1:=idxE_ge (isB m o) bs
  have h2:=idxE_at (p:=isB m o) b0 h
  unfold findB at h ⊢
  exact ⟨by omega,h2⟩
theorem findB_ge (bs : List Bt) (m o : Int) : -1≤findB bs m o∧findB bs m o < bs.length:=idxE_ge (isB m o) bs
def outB (p : Pl) (mt : Int) (at0 : Nat) : Nat:=(findB p.bs at0 (mainN (p.ms.getD at0 []) mt)).toNat
def nx (p : Pl) (mt : Int) (at0 : Nat) : Nat:=(p.bs.getD (outB p mt at0) b0).to.toNat
def lx (p : Pl) (mt : Int) (at0 : Nat) : Int:=(p.bs.getD (outB p mt at0) b0).ln
def binN (p : Pl) (at0 : Nat) : Prop:=outsN (p.ms.getD at0 [])=0
instance (p : Pl) : DecidablePred (binN p):=fun i=>by unfold binN; infer_instance
def wayR (p : Pl) (mt : Int) : Nat→Nat→Int→Int×Bool
  | 0,at0,n=>if binN p at0 then (n,true) else (0,false)
  | f+1,at0,n=>if binN p at0 then (n,true) else wayR p mt f (nx p mt at0) (n+lx p mt at0)
def posR (p : Pl) (mt : Int) (m : Nat) : Nat→Nat
  | 0=>m
  | k+1=>nx p mt (posR p mt m k)
def farR (p : Pl) (mt : Int) (m : Nat) : Nat→Int
  | 0=>0
  | k+1=>farR p mt m k+lx p mt (posR p mt m k)
theorem out_ok {p : Pl} (h : POk p) {mt : Int} (h0 : 0 ≤ mt) (h1 : mt < p.mat) {i : Nat} (hi : i < p.ms.length) (hb : ¬ binN p i) :
    0≤findB p.bs i (mainN (p.ms.getD i []) mt)∧outB p mt i < p.bs.length∧(p.bs.getD (outB p mt i) b0).fr=i∧nx p mt i < p.ms.length∧(p.bs.getD (outB p mt i) b0).to=nx p mt i∧1≤lx p mt i∧lx p mt i≤16:=by
  have hm:=h.mc _ (mem_get [] hi)
  obtain ⟨g1,g2,g3⟩:=mainN_ok hm hb h0 h1
  have h2 : 0≤findB p.bs i (mainN (p.ms.getD i []) mt):=by
    have:=h.op i hi (mainN (p.ms.getD i []) mt).toNat (by omega)
    rw [Int.toNat_of_nonneg g1] at this; exact this
  obtain ⟨h3,h4,h5⟩:=findB_ok h2
  have h6:=h.bt _ (mem_get b0 h3)
  have h7 : (p.bs.getD (outB p mt i) b0).to=nx p mt i:=by unfold nx outB; omega
  refine ⟨h2,h3,h4,?_,h7,h6.2.2.2.2.2.2.1,h6.2.2.2.2.2.2.2⟩
  unfold outB at h7; omega
theorem posR_lt {p : Pl} (h : POk p) {mt : Int} (h0 : 0≤mt) (h1 : mt < p.mat) {m : Nat} (hm : m < p.ms.length) : ∀ (k : Nat),(∀ i,i < k→¬ binN p (posR p mt m i))→posR p mt m k < p.ms.length
  | 0,_=>hm
  | k+1,hb=>(out_ok h h0 h1 (posR_lt h h0 h1 hm k fun i hi=>hb i (by omega)) (hb k (by omega))).2.2.2.1
theorem farR_bd {p : Pl} (h : POk p) {mt : Int} (h0 : 0≤mt) (h1 : mt < p.mat) {m : Nat} (hm : m < p.ms.length) : ∀ (k : Nat),(∀ i,i < k→¬ binN p (posR p mt m i))→0≤farR p mt m k∧farR p mt m k≤16*k
  | 0,_=>by simp [farR]
  | k+1,hb=>by
    have h2:=farR_bd h h0 h1 hm k fun i hi=>hb i (by omega)
    have h3:=out_ok h h0 h1 (posR_lt h h0 h1 hm k fun i hi=>hb i (by omega)) (hb k (by omega))
    simp only [farR]; omega
theorem wayR_skip {p : Pl} {mt : Int} {m : Nat} : ∀ (k f : Nat),(∀ i,i < k→¬ binN p (posR p mt m i))→wayR p mt (k+f) m 0=wayR p mt f (posR p mt m k) (farR p mt m k)
  | 0,f,_=>by simp [posR,farR]
  | k+1,f,hb=>by
    rw [show k+1+f=k+(f+1) by omega,wayR_skip k (f+1) fun i hi=>hb i (by omega)]
    simp only [wayR,posR,farR]
    rw [if_neg (hb k (by omega))]
theorem wayR_bin {p : Pl} {mt : Int} {f at0 : Nat} {n : Int} (h : binN p at0) : wayR p mt f at0 n=(n,true):=by
  cases f<;>simp [wayR,h]
theorem wayR_none {p : Pl} {mt : Int} {m : Nat} (h : ∀ i,¬ binN p (posR p mt m i)) (f : Nat) : wayR p mt f m 0=(0,false):=by
  have:=wayR_skip (p:=p) (mt:=mt) (m:=m) f 0 fun i _=>h i
  rw [Nat.add_zero] at this
  rw [this]; simp [wayR,h f]
theorem again {p : Pl} {mt : Int} {m i j : Nat} (hij : i < j) (he : posR p mt m i=posR p mt m j) : ∀ k,∃ l,l < j∧posR p mt m k=posR p mt m l:=by
  intro k
  induction k with
  | zero=>exact ⟨0,by omega,rfl⟩
  | succ k ih =>
    obtain ⟨l,h1,h2⟩:=ih
    by_cases hl : l+1 < j
    · exact ⟨l+1,hl,by simp only [posR,h2]⟩
    · have : l+1=j:=by omega
      exact ⟨i,hij,by rw [he,← this]; simp only [posR,h2]⟩
theorem again_none {p : Pl} {mt : Int} {m i j : Nat} (hij : i < j) (he : posR p mt m i=posR p mt m j) (hb : ∀ l,l < j→¬ binN p (posR p mt m l)) : ∀ k,¬ binN p (posR p mt m k):=fun k=>by
  obtain ⟨l,h1,h2⟩:=again hij he k
  rw [h2]; exact hb l h1
theorem pigeon : ∀ (n : Nat) (f : Nat→Nat),(∀ i,i≤n→f i < n)→∃ i j,i < j∧j≤n∧f i=f j
  | 0,f,h=>by have:=h 0 (by omega); omega
  | n+1,f,h=>by
    by_cases hx : ∃ i,i≤n∧f i=f (n+1)
    · obtain ⟨i,h1,h2⟩:=hx; exact ⟨i,n+1,by omega,by omega,h2⟩
    · have hne : ∀ i,i≤n→f i≠f (n+1):=fun i hi hc=>hx ⟨i,hi,hc⟩
      obtain ⟨i,j,h1,h2,h3⟩:=pigeon n (fun i=>if f i=n then f (n+1) else f i) fun i hi=>by
        have a1:=h i (by omega)
        have a2:=h (n+1) (by omega)
        have a3:=hne i hi
        split<;>omega
      have a1:=hne i (by omega)
      have a2:=hne j h2
      refine ⟨i,j,h1,by omega,?_⟩
      split at h3<;>split at h3<;>omega
theorem far_none {p : Pl} (h : POk p) {mt : Int} (h0 : 0≤mt) (h1 : mt < p.mat) {m : Nat} (hm : m < p.ms.length) (hb : ∀ i,i < p.ms.length→¬ binN p (posR p mt m i)) : ∀ k,¬ binN p (posR p mt m k):=by
  obtain ⟨i,j,h2,h3,h4⟩:=pigeon p.ms.length (posR p mt m) fun i hi=>posR_lt h h0 h1 hm i fun l hl=>hb l (by omega)
  exact again_none h2 h4 fun l hl=>hb l (by omega)
theorem wayR_of {p : Pl} {mt : Int} {m k f : Nat} (hk : k≤f) (hb : ∀ i,i < k→¬ binN p (posR p mt m i)) (he : binN p (posR p mt m k)) : wayR p mt f m 0=(farR p mt m k,true):=by
  rw [show f=k+(f - k) by omega,wayR_skip k _ hb,wayR_bin he]
theorem least {Q : Nat→Prop} (h : ∃ k,Q k) : ∃ k,Q k∧∀ i,i < k→¬ Q i:=by
  obtain ⟨k,hk⟩:=h
  induction k using Nat.strongRecOn with
  | ind k ih =>
    by_cases hx : ∃ i,i < k∧Q i
    · obtain ⟨i,h1,h2⟩:=hx; exact ih i h1 h2
    · exact ⟨k,hk,fun i hi hq=>hx ⟨i,hi,hq⟩⟩
theorem wayR_cases {p : Pl} (h : POk p) {mt : Int} (h0 : 0 ≤ mt) (h1 : mt < p.mat) {m : Nat} (hm : m < p.ms.length) :
    (∃ k,k < p.ms.length∧(∀ i,i < k→¬ binN p (posR p mt m i))∧binN p (posR p mt m k)∧wayR p mt p.ms.length m 0=(farR p mt m k,true)) ∨
    ((∀ i,¬ binN p (posR p mt m i))∧wayR p mt p.ms.length m 0=(0,false)):=by
  by_cases hx : ∃ k,k < p.ms.length∧binN p (posR p mt m k)
  · obtain ⟨k0,g1,g2⟩:=hx
    obtain ⟨k,k1,k2⟩:=least (Q:=fun k=>binN p (posR p mt m k)) ⟨k0,g2⟩
    have hle : k≤k0:=Nat.le_of_not_lt fun hc=>k2 k0 hc g2
    exact .inl ⟨k,by omega,k2,k1,wayR_of (by omega) k2 k1⟩
  · have hn : ∀ i,i < p.ms.length→¬ binN p (posR p mt m i):=fun i hi hc=>hx ⟨i,hi,hc⟩
    have:=far_none h h0 h1 hm hn
    exact .inr ⟨this,wayR_none this _⟩
theorem t1 : pcheck ⟨1,[[[900,100]],[[]]],[⟨0,0,1,2⟩,⟨0,1,0,3⟩],0⟩=0:=by decide +kernel
end Go.Proofs.Ytcppaddgclkekaa
namespace Go.Proofs.Ytcppaddgclkekaa
open Go Go.Lft
set_option linter.unusedSimpArgs false
set_option linter.unusedVariables false
attribute [local congr] ob_congr bw_congr ib_congr ck_congr iwA_congr itA_congr aw_congr awp_congr sqA_congr bkA_congr vr_congr gd_congr
theorem machineOuts_vr {w : Bool} (m : Mc) : VR P false n_machine_Outs [mcA w m] [] (isR (.v (.int .i64 (outsN m)))):=by
  refine vr_machine_Outs (by simp) (.inr rfl) fun _ _=>?_
  unfold mcA mcC
  simp (disch:=((try simp only [lZ]); omega)) only [aZ,aM,s_machine_Outs,v_machine_Outs]
  refine ib_intro (fun h1=>?_) (fun h1=>?_)
  · simp (disch:=((try simp only [lZ]); omega)) only [aZ,aM,r_machine_Outs]
    refine post_v ⟨?_,rfl⟩
    have : m=[]:=List.eq_nil_of_length_eq_zero (by omega)
    subst this; rfl
  · simp (disch:=((try simp only [lZ]); omega)) only [aZ,aM,r_machine_Outs]
    exact post_v ⟨rfl,rfl⟩
theorem mainN_hit {m : Mc} {mat : Int} (h : ¬ (mat < 0∨(m.length : Int)≤mat)) {k : Nat} (hk : k < (m.getD mat.toNat []).length) (hb : ∀ i,i < k→¬ 0 < (m.getD mat.toNat []).getD i 0) (hp : 0 < (m.getD mat.toNat []).getD k 0) : mainN m mat=k:=by
  unfold mainN; rw [if_neg h]
  exact idxE_hit (p:=fun r : Int=>0 < r) 0 hk hb hp
theorem mainN_none {m : Mc} {mat : Int} (h : ¬ (mat < 0∨(m.length : Int)≤mat)) (hb : ∀ i,i < (m.getD mat.toNat []).length→¬ 0 < (m.getD mat.toNat []).getD i 0) : mainN m mat=-1:=by
  unfold mainN; rw [if_neg h]
  exact idxE_none (p:=fun r : Int=>0 < r) 0 hb
theorem machineMain_vr {w : Bool} (m : Mc) (mat : Int) (hl : (m.getD mat.toNat []).length < 1000000000) : VR P false n_machine_Main [mcA w m,.v (.int .i64 mat)] [] (isR (.v (.int .i64 (mainN m mat)))):=by
  refine vr_machine_Main (by simp) (.inr rfl) fun _ _=>?_
  unfold mcA mcC
  simp (disch:=((try simp only [lZ]); omega)) only [aZ,aM,s_machine_Main,v_machine_Main]
  refine ib_intro (fun h1=>?_) (fun h1=>?_)
  · simp (disch:=((try simp only [lZ]); omega)) only [aZ,aM,r_machine_Main]
    exact post_v ⟨by unfold mainN; rw [if_pos h1],rfl⟩
  simp (disch:=((try simp only [lZ]); omega)) only [aZ,aM]
  refine AWP.loopP g_machine_Main_0 (fun k : Nat=>k≤(m.getD mat.toNat []).length∧∀ i,i < k→¬ 0 < (m.getD mat.toNat []).getD i 0) (fun k=>[(2,.v (.int .i64 0)),(4,.v (.int .i64 k))]) (fun _=>[]) (fun k=>(m.getD mat.toNat []).length - k) 0 ⟨by omega,fun i hi=>by omega⟩ (by refine Cut.of' (1) ?_ (by omega) ?_ ?_<;>simp (disch:=first | omega | simp (disch:=omega) only [aG,aM]) only [fZ,aM]) ?_
  rintro k ⟨hk,hb⟩
  by_cases hlt : k < (m.getD mat.toNat []).length
  · simp (disch:=((try simp only [lZ]); omega)) only [aZ,aM]
    refine ib_intro (fun h3=>?_) (fun h3=>?_)
    · simp (disch:=((try simp only [lZ]); omega)) only [aZ,aM,r_machine_Main]
      exact post_v ⟨by rw [mainN_hit h1 hlt hb h3],rfl⟩
    · simp (disch:=((try simp only [lZ]); omega)) only [aZ,aM]
      refine ⟨k+1,⟨by omega,fun i hi=>?_⟩,by omega,(by refine Cut.of' (1) ?_ (by omega) ?_ ?_<;>simp (disch:=first | omega | simp (disch:=omega) only [aG,aM]) only [fZ,aM])⟩
      rcases Nat.lt_succ_iff_lt_or_eq.1 hi with h | rfl
      · exact hb i h
      · exact h3
  · simp (disch:=((try simp only [lZ]); omega)) only [aZ,aM,r_machine_Main]
    exact post_v ⟨by rw [mainN_none h1 fun i hi=>hb i (by omega)],rfl⟩
theorem row_full {outs : Nat} {r : List Int} (h : 4 < r.length) : rowE outs r=8:=by unfold rowE; rw [if_pos h]
theorem row_form {outs : Nat} {r : List Int} (h : ¬ 4 < r.length) (h2 : r.length≠outs) : rowE outs r=3:=by unfold rowE; rw [if_neg h,if_pos h2]
theorem row_range {outs : Nat} {r : List Int} (h : ¬ 4 < r.length) (h2 : r.length=outs) {k : Nat} (hk : k < r.length) (hb : ∀ i,i < k→rangeE (r.getD i 0)=0) (hn : r.getD k 0 < 0∨1000 < r.getD k 0) : rowE outs r=1:=by
  unfold rowE
  have h3:=firstE_hit (f:=rangeE) 0 hk hb (by rw [rangeE_bad hn]; omega)
  rw [rangeE_bad hn] at h3
  rw [if_neg h,if_neg (by omega),h3]; rfl
theorem row_sum {outs : Nat} {r : List Int} (h : ¬ 4 < r.length) (h2 : r.length=outs) (hb : ∀ i,i < r.length→rangeE (r.getD i 0)=0) (hs : 0 < r.length∧r.sum≠1000) : rowE outs r=17:=by
  unfold rowE
  have h3:=firstE_none (f:=rangeE) 0 hb
  rw [if_neg h,if_neg (by omega),h3,if_neg (by omega),if_pos hs]
theorem row_ok {outs : Nat} {r : List Int} (h : ¬ 4 < r.length) (h2 : r.length=outs) (hb : ∀ i,i < r.length→rangeE (r.getD i 0)=0) (hs : ¬ (0 < r.length∧r.sum≠1000)) : rowE outs r=0:=by
  unfold rowE
  have h3:=firstE_none (f:=rangeE) 0 hb
  rw [if_neg h,if_neg (by omega),h3,if_neg (by omega),if_neg hs]
theorem sum_le {r : List Int} {k : Nat} (hk : k≤r.length) (h4 : ¬ 4 < r.length) (hb : ∀ i,i < k→rangeE (r.getD i 0)=0) : 0≤sumT r k∧sumT r k≤4000:=by
  have:=sumT_bd r 0 1000 k hk fun i hi=>rangeE_zero (hb i hi)
  omega
theorem mcheck_range {m : Mc} {mat : Int} (h : mat < 1∨16 < mat) : mcheck m mat=1:=by unfold mcheck; rw [if_pos h]
theorem mcheck_len {m : Mc} {mat : Int} (h : ¬ (mat < 1∨16 < mat)) (h2 : (m.length : Int)≠mat) : mcheck m mat=18:=by unfold mcheck; rw [if_neg h,if_pos h2]
theorem mcheck_hit {m : Mc} {mat : Int} (h : ¬ (mat < 1∨16 < mat)) (h2 : (m.length : Int)=mat) {k : Nat} (hk : k < m.length) (hb : ∀ i,i < k→rowE (outsN m) (m.getD i [])=0) (hn : rowE (outsN m) (m.getD k [])≠0) : mcheck m mat=rowE (outsN m) (m.getD k []):=by
  unfold mcheck; rw [if_neg h,if_neg (by omega)]
  exact firstE_hit [] hk hb hn
theorem mcheck_none {m : Mc} {mat : Int} (h : ¬ (mat < 1∨16 < mat)) (h2 : (m.length : Int)=mat) (hb : ∀ i,i < m.length→rowE (outsN m) (m.getD i [])=0) : mcheck m mat=0:=by
  unfold mcheck; rw [if_neg h,if_neg (by omega)]
  exact firstE_none [] hb
theorem outs_get (m : Mc) : (m.getD 0 []).length=outsN m:=rfl
theorem machineCheck_vr {w : Bool} (m : Mc) (mat : Int) : VR P false n_machine_Check [mcA w m,.v (.int .i64 mat)] [] (isR (.v (.int .i64 (mcheck m mat)))):=by
  have hou:=outs_get m
  refine vr_machine_Check (by simp) (.inr rfl) fun _ _=>?_
  unfold mcA mcC
  simp (disch:=((try simp only [lZ]); omega)) only [aZ,aM,s_machine_Check,v_machine_Check]
  refine ib_intro (fun h1=>?_) (fun h1=>?_)
  · simp (disch:=((try simp only [lZ]); omega)) only [aZ,aM,r_machine_Check]
    exact post_v ⟨by rw [mcheck_range h1],rfl⟩
  simp (disch:=((try simp only [lZ]); omega)) only [aZ,aM]
  refine ib_intro (fun h2=>?_) (fun h2=>?_)
  · simp (disch:=((try simp only [lZ]); omega)) only [aZ,aM,r_machine_Check]
    exact post_v ⟨by rw [mcheck_len h1 h2],rfl⟩
  have h2 : (m.length : Int)=mat:=by omega
  subst h2
  simp (disch:=((try simp only [lZ]); omega)) only [aZ,aM]
  refine AWP.loopP g_machine_Check_0 (fun k : Nat=>k≤m.length∧∀ i,i < k→rowE (outsN m) (m.getD i [])=0) (fun k=>[(4,.v (.int .i64 0)),(5,.v (.int .i64 k))]) (fun _=>[]) (fun k=>m.length - k) 0 ⟨by omega,fun i hi=>by omega⟩ (by refine Cut.of' (1) ?_ (by omega) ?_ ?_<;>simp (disch:=first | omega | simp (disch:=omega) only [aG,aM]) only [fZ,aM]) ?_
  rintro k ⟨hk,hb⟩
  by_cases hlt : k < m.length
  · simp (disch:=((try simp only [lZ]); omega)) only [aZ,aM,outs_get]
    refine ib_intro (fun h3=>?_) (fun h3=>?_)
    · have hr : rowE (outsN m) (m.getD k [])=8:=row_full (by omega)
      simp (disch:=((try simp only [lZ]); omega)) only [aZ,aM,r_machine_Check]
      exact post_v ⟨by rw [mcheck_hit h1 rfl hlt hb (by omega),hr],rfl⟩
    have h3 : ¬ 4 < (m.getD k []).length:=by omega
    simp (disch:=((try simp only [lZ]); omega)) only [aZ,aM]
    refine ib_intro (fun h4=>?_) (fun h4=>?_)
    · have hr : rowE (outsN m) (m.getD k [])=3:=row_form h3 (by omega)
      simp (disch:=((try simp only [lZ]); omega)) only [aZ,aM,r_machine_Check]
      exact post_v ⟨by rw [mcheck_hit h1 rfl hlt hb (by omega),hr],rfl⟩
    have h4 : (m.getD k []).length=outsN m:=by omega
    simp (disch:=((try simp only [lZ]); omega)) only [aZ,aM]
    refine AWP.loopP g_machine_Check_1 (fun j : Nat=>j≤(m.getD k []).length∧∀ i,i < j→rangeE ((m.getD k []).getD i 0)=0) (fun j=>[(4,.v (.int .i64 0)),(10,.v (.int .i64 (sumT (m.getD k []) j))),(11,.v (.int .i64 j))]) (fun _=>[]) (fun j=>(m.getD k []).length - j) 0 ⟨by omega,fun i hi=>by omega⟩ (by refine Cut.of' (1) ?_ (by omega) ?_ ?_<;>simp (disch:=first | omega | simp (disch:=omega) only [aG,aM]) only [fZ,aM,sumT_zero]) ?_
    rintro j ⟨hj,hc⟩
    have hs:=sum_le hj h3 hc
    by_cases hjl : j < (m.getD k []).length
    · simp (disch:=((try simp only [lZ]); omega)) only [aZ,aM]
      refine ib_intro (fun h5=>?_) (fun h5=>?_)
      · have hr:=row_range h3 h4 hjl hc h5
        simp (disch:=((try simp only [lZ]); omega)) only [aZ,aM,r_machine_Check]
        exact post_v ⟨by rw [mcheck_hit h1 rfl hlt hb (by omega),hr],rfl⟩
      · simp (disch:=((try simp only [lZ]); omega)) only [aZ,aM]
        refine ⟨j+1,⟨by omega,fun i hi=>?_⟩,by omega,(by refine Cut.of' (1) ?_ (by omega) ?_ ?_<;>simp (disch:=first | omega | simp (disch:=omega) only [aG,aM]) only [fZ,aM,sumT_succ _ j hjl])⟩
        rcases Nat.lt_succ_iff_lt_or_eq.1 hi with h | rfl
        · exact hc i h
        · exact rangeE_ok h5
    · have hje : j=(m.getD k []).length:=by omega
      subst hje
      rw [sumT_all]
      rw [sumT_all] at hs
      simp (disch:=((try simp only [lZ]); omega)) only [aZ,aM]
      refine ib_intro (fun h5=>?_) (fun h5=>?_)
      · have hr:=row_sum h3 h4 hc (by omega)
        simp (disch:=((try simp only [lZ]); omega)) only [aZ,aM,r_machine_Check]
        exact post_v ⟨by rw [mcheck_hit h1 rfl hlt hb (by omega),hr],rfl⟩
      · have hr:=row_ok h3 h4 hc (by omega)
        simp (disch:=((try simp only [lZ]); omega)) only [aZ,aM]
        refine ⟨k+1,⟨by omega,fun i hi=>?_⟩,by omega,(by refine Cut.of' (1) ?_ (by omega) ?_ ?_<;>simp (disch:=first | omega | simp (disch:=omega) only [aG,aM]) only [fZ,aM])⟩
        rcases Nat.lt_succ_iff_lt_or_eq.1 hi with h | rfl
        · exact hb i h
        · exact hr
  · have hkl : k=m.length:=by omega
    subst hkl
    simp (disch:=((try simp only [lZ]); omega)) only [aZ,aM,r_machine_Check]
    exact post_v ⟨by rw [mcheck_none h1 rfl hb],rfl⟩
theorem row_split {m : Mc} {mat : Int} (h : MOk m mat) (ho : outsN m≠0) {k : Nat} (hk : k < m.length) {t : Int} (ht : 0≤t∧t≤1073741824) : splitE t (m.getD k [])=0∧(m.getD k []).sum=1000∧(m.getD k []).length=outsN m∧outsN m≤4∧∀ i,i < (m.getD k []).length→0≤(m.getD k []).getD i 0∧(m.getD k []).getD i 0≤1000:=by
  obtain ⟨r1,r2,r3,r4⟩:=h.row _ (mem_get [] hk)
  have hs:=r4 (by omega)
  have hb : ∀ i,i < (m.getD k []).length→0≤(m.getD k []).getD i 0∧(m.getD k []).getD i 0≤1000:=fun i hi=>r3 _ (mem_getD hi)
  refine ⟨?_,hs,r1,by omega,hb⟩
  have hw : weighE (m.getD k [])=(1000,0):=by
    rw [weigh_sum (by omega) (by
      rintro ⟨i,hi,h2⟩
      have:=hb i hi
      unfold badW at h2; omega),hs,if_pos (by omega)]
  unfold splitE
  rw [hw,if_neg (by omega),if_neg (by simp),if_neg (by simp)]
theorem row_div {m : Mc} {mat : Int} (h : MOk m mat) (ho : outsN m≠0) {k : Nat} (hk : k < m.length) {t : Int} (ht : 0≤t∧t≤1073741824) : DivOk t (m.getD k []):=by
  obtain ⟨h1,h2,h3,h4,h5⟩:=row_split h ho hk ht
  refine divOk_small (splitE_ok h1) fun i hi=>?_
  have:=h5 i hi
  have : t*(m.getD k []).getD i 0≤1073741824*1000:=Int.mul_le_mul ht.2 this.2 this.1 (by omega)
  omega
def divR (l : List Int) (main : Nat) (mass : Int) : List Int :=
  if mass=0∨0 < l.getD main 0 then l else (l.set (bestI l) (l.getD (bestI l) 0 - 1)).set main 1
theorem divR_len (l : List Int) (main : Nat) (mass : Int) : (divR l main mass).length=l.length:=by unfold divR; split<;>simp
def divM (m : Mc) (k : Nat) (mass : Int) : List Int:=divR (partsR mass (m.getD k [])) (mainN m k).toNat mass
theorem greatest_vr {w : Bool} (l : List Int) (h0 : 0 < l.length) (hl : l.length < 1000000) : VR P false n_machine_greatest [.fs w (ints l)] [] (isR (.v (.int .i64 (bestI l)))):=by
  refine vr_machine_greatest (by simp) (.inr rfl) fun _ _=>?_
  simp (disch:=((try simp only [lZ]); omega)) only [aZ,aM,s_machine_greatest,v_machine_greatest]
  refine AWP.loopP g_machine_greatest_0 (fun k : Nat=>k≤l.length) (fun k=>[(2,.v (.int .i64 (bestN l k))),(3,.v (.int .i64 k))]) (fun _=>[]) (fun k=>l.length - k) 0 (by omega) ?_ ?_
  · simp only [bestN]
    exact Cut.of' 0 rfl (by omega) (by simp (disch:=first | omega | simp (disch:=omega) only [aG,aM]) only [fZ,aM]) (by simp (disch:=first | omega | simp (disch:=omega) only [aG,aM]) only [fZ,aM])
  rintro k hk
  have hbl : bestN l k < l.length:=by
    by_cases h : 0 < k
    · have:=bestN_lt l k h; omega
    · have : k=0:=by omega
      subst this; exact h0
  by_cases hlt : k < l.length
  · have hbs : bestN l (k+1)=if l.getD (bestN l k) 0 < l.getD k 0 then k else bestN l k:=rfl
    simp (disch:=((try simp only [lZ]); omega)) only [aZ,aM]
    refine ib_intro (fun h5=>?_) (fun h5=>?_)
    · rw [if_pos h5] at hbs
      simp (disch:=((try simp only [lZ]); omega)) only [aZ,aM]
      refine ⟨k+1,by omega,by omega,?_⟩
      rw [hbs]
      exact Cut.of' 0 rfl (by omega) (by simp (disch:=first | omega | simp (disch:=omega) only [aG,aM]) only [fZ,aM]) (by simp (disch:=first | omega | simp (disch:=omega) only [aG,aM]) only [fZ,aM])
    · rw [if_neg h5] at hbs
      simp (disch:=((try simp only [lZ]); omega)) only [aZ,aM]
      refine ⟨k+1,by omega,by omega,?_⟩
      rw [hbs]
      exact Cut.of' 0 rfl (by omega) (by simp (disch:=first | omega | simp (disch:=omega) only [aG,aM]) only [fZ,aM]) (by simp (disch:=first | omega | simp (disch:=omega) only [aG,aM]) only [fZ,aM])
  · have hke : k=l.length:=by omega
    subst hke
    simp (disch:=((try simp only [lZ]); omega)) only [aZ,aM,r_machine_greatest]
    exact post_v ⟨rfl,rfl⟩
theorem parts_pos {t : Int} {ws l : List Int} (h : SpR t ws l) (ht : 0 < t) (hne : ws≠[]) : 0 < l.getD (bestI l) 0:=by
  apply Int.lt_of_not_ge; intro hc
  have hl : 0 < l.length:=by rw [h.len]; exact List.length_pos_iff.2 hne
  have:=(bestN_max l l.length).1
  change ∀ i,i < l.length→l.getD i 0≤l.getD (bestI l) 0 at this
  have hs:=sum_le_c 0 l fun x hx=>by
    obtain ⟨i,h1,rfl⟩:=getD_mem hx
    have:=this i h1; omega
  rw [h.sum] at hs; omega
theorem parts_bd {t : Int} {ws l : List Int} (h : SpR t ws l) (ok : SplitOk t ws) : ∀ i,i < l.length→0≤l.getD i 0∧l.getD i 0≤t+1:=fun i hi=>by
  have:=q_le ok (i:=i) (by rw [← h.len]; exact hi)
  rcases h.two i (by rw [← h.len]; exact hi) with h1 | ⟨h1,_⟩<;>omega
theorem divided_vr {w : Bool} (m : Mc) (mat : Int) (h : MOk m mat) (ho : outsN m≠0) (k : Nat) (hk : k < m.length) (t : Int) (ht : 0≤t∧t≤1073741824) : VR P false n_machine_divided [mcA w m,.v (.int .i64 k),.v (.int .i64 t)] [] (isR (.fs true (ints (divM m k t)))):=by
  refine vr_machine_divided (by simp) (.inr rfl) fun _ _=>?_
  obtain ⟨h1,h2,h3,h4,h5⟩:=row_split h ho hk ht
  have hd:=row_div h ho hk ht
  have ok:=splitE_ok h1
  have hsp:=partsR_ok ok.sp
  have hne : m.getD k []≠[]:=ok.sp.ne
  have hlen:=h.len
  obtain ⟨g1,g2,g3⟩:=mainN_ok h ho (k:=k) (by omega) (by omega)
  have hrow : ((m.getD (k : Int).toNat []).length) < 1000000000:=by rw [Int.toNat_natCast]; omega
  unfold mcA mcC divM
  simp (disch:=((try simp only [lZ]); omega)) only [aZ,aM,s_machine_divided,v_machine_divided]
  refine (shareSplitO_vr (w:=w) t (m.getD k []) fun _=>hd).useS (LdL.refl (by simp (disch:=first | omega | simp (disch:=omega) only [aG,aM]) only [fZ,aM])) ?_ ?_
  · rintro r G (⟨_,rfl,rfl⟩ | ⟨_,ver,rfl,rfl⟩)
    · rfl
    · simp (disch:=first | omega | simp (disch:=omega) only [aG,aM]) only [fZ,aM,List.all_cons,List.all_nil]
  rintro r G (⟨hbad,rfl,rfl⟩ | ⟨_,ver,rfl,rfl⟩)
  · exfalso; apply hbad; unfold splitV; rw [if_neg (by omega)]
  refine aret_of ?_
  have e1 : A.shL 1 (ints (partsR t (m.getD k [])))=ints (partsR t (m.getD k [])):=shL_bd _ (ii_bd 0 _)
  have hpl:=hsp.len
  have hpb:=parts_bd hsp ok
  have hpp:=fun hp=>parts_pos hsp hp hne
  generalize partsR t (m.getD k [])=l at *
  simp (disch:=((try simp only [lZ]); omega)) only [aZ,aM,A.sh,A.shL,Blk.sh,List.map_cons,List.map_nil,e1]
  refine (machineMain_vr (w:=w) m k hrow).same (by unfold mcA mcC; simp (disch:=first | omega | simp (disch:=omega) only [aG,aM]) only [fZ,aM]) rfl (aret_of ?_)
  have hmb:=hpb (mainN m k).toNat (by omega)
  simp (disch:=((try simp only [lZ]); omega)) only [aZ,aM]
  refine ib_intro (fun h6=>?_) (fun h6=>?_)
  · have hdv : divR l (mainN m k).toNat t=(l.set (bestI l) (l.getD (bestI l) 0 - 1)).set (mainN m k).toNat 1:=by unfold divR; rw [if_neg (by omega)]
    have hbp:=hpp (by omega)
    have hbl : bestI l < l.length:=bestN_lt l l.length (by omega)
    have hbb:=hpb _ hbl
    have hbm : bestI l≠(mainN m k).toNat:=by intro hc; rw [hc] at hbp; omega
    have hg : (l.set (bestI l) (l.getD (bestI l) 0 - 1)).getD (mainN m k).toNat 0=0:=by rw [getD_seti,if_neg (fun h=>hbm h.1)]; omega
    have z : (0 : Int)+1=1:=rfl
    simp (disch:=((try simp only [lZ]); omega)) only [aZ,aM]
    refine (greatest_vr (w:=false) l (by omega) (by omega)).use ⟨ld_slI _ 1 ver _ l hpl.symm (by simp (disch:=((try simp only [lZ]); omega)) only [aZ,aM]),trivial⟩ rfl (aret_of ?_)
    simp (disch:=((try simp only [lZ]); omega)) only [aZ,aM,Int.toNat_natCast,hg,z,← hdv,r_machine_divided]
    exact post0 (fz_slI 0 _ 1 ver _ (divR l (mainN m k).toNat t) (by omega) (by rw [divR_len]; omega) (by simp (disch:=((try simp only [lZ]); omega)) only [aZ,aM])) ⟨rfl,rfl⟩
  · have hdv : divR l (mainN m k).toNat t=l:=by unfold divR; rw [if_pos (by omega)]
    rw [hdv]
    simp (disch:=((try simp only [lZ]); omega)) only [aZ,aM,r_machine_divided]
    exact post0 (fz_slI 0 _ 1 ver _ l (by omega) hpl.symm (by simp (disch:=((try simp only [lZ]); omega)) only [aZ,aM])) ⟨rfl,rfl⟩
end Go.Proofs.Ytcppaddgclkekaa
namespace Go.Proofs.Ytcppaddgclkekaa
open Go Go.Lft
set_option linter.unusedSimpArgs false
set_option linter.unusedVariables false
def mtx (k n : Nat) (f : Nat→Nat→Int) : List (List Int):=(List.range k).map fun o=>(List.range n).map fun i=>f o i
theorem mtx_len (k n : Nat) (f : Nat→Nat→Int) : (mtx k n f).length=k:=by simp [mtx]
theorem mtx_get (k n : Nat) (f : Nat→Nat→Int) (o : Nat) (h : o < k) : (mtx k n f).getD o []=(List.range n).map fun i=>f o i:=by
  simp [mtx,List.getD_eq_getElem?_getD,h]
theorem mtx_row (n : Nat) (g : Nat→Int) (i : Nat) (h : i < n) : ((List.range n).map g).getD i 0=g i:=by simp [List.getD_eq_getElem?_getD,h]
theorem mtx_rl (n : Nat) (g : Nat→Int) : ((List.range n).map g).length=n:=by simp
theorem mtx_ext {k n : Nat} {f g : Nat→Nat→Int} (h : ∀ o i,o < k→i < n→f o i=g o i) : mtx k n f=mtx k n g:=by
  unfold mtx
  refine List.map_congr_left fun o ho=>List.map_congr_left fun i hi=>h o i (by simpa using ho) (by simpa using hi)
theorem mtx_set {k n : Nat} (f : Nat→Nat→Int) (o i : Nat) (v : Int) (ho : o < k) (hi : i < n) : (mtx k n f).set o (((List.range n).map fun i=>f o i).set i v)=mtx k n fun a b=>if a=o∧b=i then v else f a b:=by
  refine List.ext_getElem (by simp [mtx]) fun a h1 h2=>?_
  simp only [mtx,List.getElem_set,List.getElem_map,List.getElem_range]
  by_cases h : o=a
  · subst h
    rw [if_pos rfl]
    refine List.ext_getElem (by simp) fun b h3 h4=>?_
    simp only [List.getElem_set,List.getElem_map,List.getElem_range,true_and]
    by_cases hb : i=b
    · subst hb; simp
    · rw [if_neg hb,if_neg (fun h=>hb h.symm)]
  · rw [if_neg h]
    refine List.map_congr_left fun b _=>?_
    rw [if_neg (fun hh=>h hh.1.symm)]
theorem mtx_zero (k n : Nat) : mtx k n (fun _ _=>0)++[List.replicate n 0]=mtx (k+1) n fun _ _=>0:=by
  simp only [mtx,List.range_succ,List.map_append,List.map_cons,List.map_nil]
  congr 2
  rw [List.map_const',List.length_range]
theorem mtx_z0 (n : Nat) (f : Nat→Nat→Int) : mtx 0 n f=[]:=rfl
def rowB (M : List (List Int)) : List Blk:=M.map fun l=>⟨0,ints l⟩
def ptrA (k n : Nat) : List A:=(List.range k).map fun o=>.sl (o+2) 0 1 0 n
theorem ptr_len (k n : Nat) : (ptrA k n).length=k:=by simp [ptrA]
theorem ptr_nth (k n o : Nat) (h : o < k) : nthA (ptrA k n) o=some (.sl (o+2) 0 1 0 n):=by simp [nthA_get,ptrA,h]
theorem ptr_app (k n : Nat) : ptrA k n++[.sl (k+2) 0 1 0 n]=ptrA (k+1) n:=by simp [ptrA,List.range_succ]
theorem bdL_mem {n : Nat} : ∀ {l : List A},(∀ a∈l,A.bd n a=true)→A.bdL n l=true
  | [],_=>rfl
  | a :: l,h=>by
    simp only [A.bdL,Bool.and_eq_true]
    exact ⟨h a (by simp),bdL_mem fun b hb=>h b (by simp [hb])⟩
theorem ptr_bd (k n m : Nat) (h : k+2≤m) : A.bdL m (ptrA k n)=true:=by
  refine bdL_mem fun a ha=>?_
  obtain ⟨o,ho,rfl⟩:=List.mem_map.1 ha
  have : o < k:=by simpa using ho
  simp only [A.bd,decide_eq_true_eq]; omega
theorem row_spl (n : Nat) (g : Nat→Int) (x : Nat) (y : Int) (h : x < n) : splA (ints ((List.range n).map g)) x [.v (.int .i64 y)]=ints (((List.range n).map g).set x y):=ii_spl _ _ _ (by simpa using h)
def hm (b : List A) (v : Nat) (p : List A) (M : List (List Int)) : List Blk:=⟨0,b⟩ :: ⟨v,p⟩ :: rowB M
theorem hm_of (b : List A) (v : Nat) (p : List A) : [(⟨0,b⟩ : Blk),⟨v,p⟩]=hm b v p []:=rfl
theorem hm_len (b : List A) (v : Nat) (p : List A) (M : List (List Int)) : (hm b v p M).length=M.length+2:=by simp [hm,rowB]
theorem hm_b (b : List A) (v : Nat) (p : List A) (M : List (List Int)) : blkAt (hm b v p M) 0 0=some b:=by simp [hm,blkAt]
theorem hm_p (b : List A) (v : Nat) (p : List A) (M : List (List Int)) : blkAt (hm b v p M) 1 v=some p:=by simp [hm,blkAt]
theorem rowB_at : ∀ (M : List (List Int)) (o : Nat),o < M.length→blkAt (rowB M) o 0=some (ints (M.getD o []))
  | [],o,h=>by simp at h
  | l :: M,0,_=>by simp [rowB,blkAt]
  | l :: M,o+1,h=>by
    have:=rowB_at M o (by simpa using h)
    simpa [rowB,blkAt] using this
theorem hm_r (b : List A) (v : Nat) (p : List A) (M : List (List Int)) (o : Nat) (h : o < M.length) : blkAt (hm b v p M) (o+2) 0=some (ints (M.getD o [])):=by
  exact rowB_at M o h
theorem hm_rm (b : List A) (v : Nat) (p : List A) (k n : Nat) (f : Nat→Nat→Int) (o : Nat) (h : o < k) : blkAt (hm b v p (mtx k n f)) (o+2) 0=some (ints ((List.range n).map fun i=>f o i)):=by
  rw [hm_r _ _ _ _ _ (by rw [mtx_len]; exact h),mtx_get _ _ _ _ h]
theorem hm_sp (b : List A) (v v' : Nat) (p q : List A) (M : List (List Int)) : (hm b v p M).set 1 ⟨v',q⟩=hm b v' q M:=rfl
theorem hm_sr (b : List A) (v : Nat) (p : List A) (M : List (List Int)) (o : Nat) (l : List Int) : (hm b v p M).set (o+2) ⟨0,ints l⟩=hm b v p (M.set o l):=by
  simp [hm,rowB,List.map_set]
theorem hm_app (b : List A) (v : Nat) (p : List A) (M : List (List Int)) (l : List Int) : hm b v p M++[⟨0,ints l⟩]=hm b v p (M++[l]):=by simp [hm,rowB]
theorem hm_ok {b : List A} {v : Nat} {p : List A} {M : List (List Int)} {n : Nat} (h1 : A.bdL n b=true) (h2 : A.bdL n p=true) : okB n (hm b v p M):=by
  intro B hB
  rcases List.mem_cons.1 hB with rfl | hB
  · exact h1
  rcases List.mem_cons.1 hB with rfl | hB
  · exact h2
  obtain ⟨l,_,rfl⟩:=List.mem_map.1 hB
  exact ii_bd n l
def padA (j k n : Nat) : List A:=ptrA j n++List.replicate (k - j) (.v (.slice none 0 0))
theorem pad_len (j k n : Nat) (h : j≤k) : (padA j k n).length=k:=by simp [padA,ptr_len]; omega
theorem pad_zero (k n : Nat) : List.replicate k (A.v (.slice none 0 0))=padA 0 k n:=by simp [padA,ptrA]
theorem pad_all (k n : Nat) : padA k k n=ptrA k n:=by simp [padA]
theorem spl_mid (p r : List A) (a b : A) : splA (p++a :: r) p.length [b]=p++[b]++r:=by
  induction p with
  | nil=>rfl
  | cons c p ih=>simp only [List.cons_append,List.length_cons,spl_succ]; rw [ih]
theorem pad_spl (j k n : Nat) (h : j < k) : splA (padA j k n) j [.sl (j+2) 0 1 0 n]=padA (j+1) k n:=by
  have:=spl_mid (ptrA j n) (List.replicate (k - (j+1)) (.v (.slice none 0 0))) (.v (.slice none 0 0)) (.sl (j+2) 0 1 0 n)
  rw [ptr_len,ptr_app,← List.replicate_succ,show k - (j+1)+1=k - j by omega] at this
  exact this
theorem pad_bd (j k n m : Nat) (h : j+2≤m) : A.bdL m (padA j k n)=true:=by
  refine bdL_mem fun a ha=>?_
  rcases List.mem_append.1 ha with h1 | h1
  · obtain ⟨o,ho,rfl⟩:=List.mem_map.1 h1
    have : o < j:=by simpa using ho
    simp only [A.bd,decide_eq_true_eq]; omega
  · rw [(List.mem_replicate.1 h1).2]; rfl
theorem aQ : type_of% (And.intro @pad_len <| And.intro @pad_spl <| And.intro @mtx_len <| And.intro @mtx_get <| And.intro @mtx_row <| And.intro @mtx_rl <| And.intro @ptr_len <| And.intro @ptr_nth <| And.intro @hm_len <| And.intro @hm_b <| And.intro @hm_p <| And.intro @row_spl <| And.intro @hm_rm <| And.intro @hm_sp <| And.intro @hm_sr <| @hm_app):=And.intro @pad_len <| And.intro @pad_spl <| And.intro @mtx_len <| And.intro @mtx_get <| And.intro @mtx_row <| And.intro @mtx_rl <| And.intro @ptr_len <| And.intro @ptr_nth <| And.intro @hm_len <| And.intro @hm_b <| And.intro @hm_p <| And.intro @row_spl <| And.intro @hm_rm <| And.intro @hm_sp <| And.intro @hm_sr <| @hm_app
theorem cut_hm {n0 : Nat} {e e' : List A} {b b' : List A} {v : Nat} {p : List A} {M : List (List Int)} (hn : n0≤M.length+2) (hb : FzL (M.length+2) (hm b v p M) b b') (hp : A.bdL (M.length+2) p=true) (he : FzL (M.length+2) (hm b v p M) e e') : Cut n0 e (hm b v p M) e' (hm b' v p M):=by
  refine Cut.of hn (hm_len _ _ _ _) (fun i B' h=>?_) he
  match i with
  | 0=>cases h; exact ⟨⟨0,b⟩,rfl,rfl,hb⟩
  | 1=>cases h; exact ⟨⟨v,p⟩,rfl,rfl,FzL.refl hp⟩
  | i+2 =>
    refine ⟨B',h,rfl,FzL.refl ?_⟩
    obtain ⟨l,_,rfl⟩:=List.mem_map.1 (List.mem_of_getElem? (l:=rowB M) h)
    exact ii_bd _ l
theorem fz_ptr {m : Nat} {b : List A} {v : Nat} {p : List A} {M : List (List Int)} {k n : Nat} (hm2 : m≤2) (hk : M.length=k) (hn : ∀ l∈M,l.length=n) : FzL m (hm b v p M) (ptrA k n) (rows true M):=by
  have z : ∀ j,j≤k→FzL m (hm b v p M) (ptrA j n) (rows true (M.take j)):=by
    intro j
    induction j with
    | zero=>intro _; exact trivial
    | succ j ih =>
      intro hj
      rw [← ptr_app,List.take_succ_eq_append_getElem (by omega),← r_app1]
      refine FzL.cat (ih (by omega)) ⟨?_,trivial⟩
      have he : M.getD j []=M[j]'(by omega):=by simp [List.getD_eq_getElem?_getD,show j < M.length by omega]
      exact fz_slI m _ (j+2) 0 n _ (by omega) (hn _ (List.getElem_mem _)).symm (by rw [hm_r _ _ _ _ _ (by omega),he])
  have:=z k (Nat.le_refl _)
  rwa [List.take_of_length_le (by omega)] at this
theorem fz_mtx {b : List A} {v : Nat} {M : List (List Int)} {k n : Nat} (hk : M.length=k) (hn : ∀ l∈M,l.length=n) : Fz 0 (hm b v (ptrA k n) M) (.sl 1 v 1 0 k) (.fs true (rows true M)):=by
  subst hk
  refine Fz.sl (Nat.zero_le _) (hm_p _ _ _ _) (fz_ptr (by omega) rfl hn) ?_ (r_len _ _) (by rw [r_len]; omega)
  rw [List.drop_zero,Nat.mul_one,← r_len true M,List.take_length]; exact r_flat _ _
theorem mtx_rows {k n : Nat} {f : Nat→Nat→Int} : ∀ l∈mtx k n f,l.length=n:=by
  intro l hl
  obtain ⟨o,_,rfl⟩:=List.mem_map.1 hl
  simp
end Go.Proofs.Ytcppaddgclkekaa
namespace Go.Proofs.Ytcppaddgclkekaa
open Go Go.Lft
set_option linter.unusedSimpArgs false
set_option linter.unusedVariables false
attribute [local congr] ob_congr bw_congr ib_congr ck_congr iwA_congr itA_congr aw_congr awp_congr sqA_congr bkA_congr vr_congr gd_congr
def badE (x : Int) : Int:=if x < 0∨1073741824 < x then 18 else 0
theorem badE_bad {x : Int} (h : x < 0∨1073741824 < x) : badE x=18:=by unfold badE; rw [if_pos h]
theorem badE_ok {x : Int} (h : ¬ (x < 0∨1073741824 < x)) : badE x=0:=by unfold badE; rw [if_neg h]
theorem badE_zero {x : Int} (h : badE x=0) : 0≤x∧x≤1073741824:=by unfold badE at h; split at h<;>omega
def msE (m : Mc) (xs : List Int) : Int:=if mcheck m xs.length≠0 then mcheck m xs.length else if firstE badE xs≠0 then 18 else if outsN m=0 then 13 else 0
def msM (m : Mc) (xs : List Int) : List (List Int):=mtx (outsN m) xs.length fun o i=>(divM m i (xs.getD i 0)).getD o 0
def msF (m : Mc) (xs : List Int) (x o : Nat) : Nat→Nat→Int:=fun a b=>if b < x∨(b=x∧a < o) then (divM m b (xs.getD b 0)).getD a 0 else 0
def splitS (m : Mc) (xs : List Int) : A→List Blk→Prop:=fun r G=>(msE m xs≠0∧r=.tup [.v (.slice none 0 0),.v (.int .i64 (msE m xs))]∧G=[])∨(msE m xs=0∧r=.tup [.sl 1 0 1 0 (outsN m),.v (.int .i64 0)]∧G=hm [.any] 0 (ptrA (outsN m) xs.length) (msM m xs))
theorem msF_zero (m : Mc) (xs : List Int) (n : Nat) : mtx (outsN m) n (msF m xs 0 0)=mtx (outsN m) n fun _ _=>0:=mtx_ext fun o i _ _=>by unfold msF; rw [if_neg (by omega)]
theorem msF_next (m : Mc) (xs : List Int) (x : Nat) : mtx (outsN m) xs.length (msF m xs x (outsN m))=mtx (outsN m) xs.length (msF m xs (x+1) 0):=mtx_ext fun o i ho _=>by
  unfold msF
  by_cases h : i < x∨(i=x∧o < outsN m)
  · rw [if_pos h,if_pos (by omega)]
  · rw [if_neg h,if_neg (by omega)]
theorem msF_end (m : Mc) (xs : List Int) : mtx (outsN m) xs.length (msF m xs xs.length 0)=msM m xs:=mtx_ext fun o i ho hi=>by
  unfold msF; rw [if_pos (by omega)]
theorem msF_set (m : Mc) (xs : List Int) {x o : Nat} (ho : o < outsN m) (hx : x < xs.length) : (mtx (outsN m) xs.length (msF m xs x o)).set o (((List.range xs.length).map fun i=>msF m xs x o o i).set x ((divM m x (xs.getD x 0)).getD o 0))=mtx (outsN m) xs.length (msF m xs x (o+1)):=by
  rw [mtx_set _ o x _ ho hx]
  refine mtx_ext fun a b _ _=>?_
  by_cases h : a=o∧b=x
  · obtain ⟨rfl,rfl⟩:=h
    rw [if_pos ⟨rfl,rfl⟩]; unfold msF; rw [if_pos (by omega)]
  · rw [if_neg h]; unfold msF
    by_cases h2 : b < x∨(b=x∧a < o)
    · rw [if_pos h2,if_pos (by omega)]
    · rw [if_neg h2,if_neg (by omega)]
theorem divM_len {m : Mc} {mat : Int} (h : MOk m mat) (ho : outsN m≠0) {k : Nat} (hk : k < m.length) {t : Int} (ht : 0≤t∧t≤1073741824) : (divM m k t).length=outsN m:=by
  obtain ⟨h1,h2,h3,h4,h5⟩:=row_split h ho hk ht
  unfold divM
  rw [divR_len,(partsR_ok (splitE_ok h1).sp).len,h3]
theorem machineSplitO_vr {w v : Bool} (m : Mc) (xs : List Int) : VR P false n_machine_Split [mcA w m,.fs v (ints xs)] [] (splitS m xs):=by
  refine vr_machine_Split (by simp) (.inr rfl) fun _ _=>?_
  unfold mcA mcC
  simp (disch:=((try simp only [lZ]); omega)) only [aZ,aM,aQ,s_machine_Split,v_machine_Split]
  refine (machineCheck_vr (w:=w) m xs.length).same (by unfold mcA mcC; simp (disch:=first | omega | simp (disch:=omega) only [aG,aM,aQ]) only [fZ,aM,aQ]) rfl (aret_of ?_)
  simp (disch:=((try simp only [lZ]); omega)) only [aZ,aM,aQ]
  refine ib_intro (fun h1=>?_) (fun h1=>?_)
  · have he : msE m xs=mcheck m xs.length:=by unfold msE; rw [if_pos h1]
    simp (disch:=((try simp only [lZ]); omega)) only [aZ,aM,aQ,r_machine_Split]
    exact post0 (r:=.tup [.v (.slice none 0 0),.v (.int .i64 (mcheck m xs.length))]) (Fz.refl rfl) (.inl ⟨by omega,by rw [he],rfl⟩)
  have h1' : mcheck m xs.length=0:=Classical.not_not.1 h1
  have ok:=mcheck_ok h1'
  have k1:=ok.m1
  have k2:=ok.m2
  have k3:=ok.len
  simp (disch:=((try simp only [lZ]); omega)) only [aZ,aM,aQ]
  refine AWP.loopP g_machine_Split_0 (fun i : Nat=>i≤xs.length∧∀ j,j < i→badE (xs.getD j 0)=0) (fun i=>[(6,.v (.int .i64 i))]) (fun _=>[]) (fun i=>xs.length - i) 0 ⟨by omega,by omega⟩ ?_ ?_
  · exact Cut.of' 1 rfl (by omega) (by simp (disch:=first | omega | simp (disch:=omega) only [aG,aM,aQ]) only [fZ,aM,aQ]) (by simp (disch:=first | omega | simp (disch:=omega) only [aG,aM,aQ]) only [fZ,aM,aQ])
  rintro i ⟨hi,hi2⟩
  by_cases hlt : i < xs.length
  · simp (disch:=((try simp only [lZ]); omega)) only [aZ,aM,aQ]
    refine ib_intro (fun h2=>?_) (fun h2=>?_)
    · have he : msE m xs = 18 := by
        unfold msE; rw [if_neg h1,if_pos]
        rw [firstE_hit 0 hlt hi2 (by rw [badE_bad (by omega)]; omega),badE_bad (by omega)]; omega
      simp (disch:=((try simp only [lZ]); omega)) only [aZ,aM,aQ,r_machine_Split]
      exact post0 (r:=.tup [.v (.slice none 0 0),.v (.int .i64 18)]) (Fz.refl rfl) (.inl ⟨by omega,by rw [he],rfl⟩)
    · simp (disch:=((try simp only [lZ]); omega)) only [aZ,aM,aQ]
      refine ⟨i+1,⟨by omega,fun j hj=>?_⟩,by omega,?_⟩
      · by_cases hji : j=i
        · subst hji; exact badE_ok (by omega)
        · exact hi2 j (by omega)
      · exact Cut.of' 1 rfl (by omega) (by simp (disch:=first | omega | simp (disch:=omega) only [aG,aM,aQ]) only [fZ,aM,aQ]) (by simp (disch:=first | omega | simp (disch:=omega) only [aG,aM,aQ]) only [fZ,aM,aQ])
  have hie : i=xs.length:=by omega
  subst hie
  have hb : firstE badE xs=0:=firstE_none 0 hi2
  have hbd : ∀ i,i < xs.length→0≤xs.getD i 0∧xs.getD i 0≤1073741824:=fun i hi=>badE_zero (hi2 i hi)
  simp (disch:=((try simp only [lZ]); omega)) only [aZ,aM,aQ]
  refine (machineOuts_vr (w:=w) m).same (by unfold mcA mcC; simp (disch:=first | omega | simp (disch:=omega) only [aG,aM,aQ]) only [fZ,aM,aQ]) rfl (aret_of ?_)
  simp (disch:=((try simp only [lZ]); omega)) only [aZ,aM,aQ]
  refine ib_intro (fun h3=>?_) (fun h3=>?_)
  · have he : msE m xs = 13 := by
      unfold msE; rw [if_neg h1,if_neg (by omega),if_pos (by omega)]
    simp (disch:=((try simp only [lZ]); omega)) only [aZ,aM,aQ,r_machine_Split]
    exact post0 (r:=.tup [.v (.slice none 0 0),.v (.int .i64 13)]) (Fz.refl rfl) (.inl ⟨by omega,by rw [he],rfl⟩)
  have he : msE m xs=0:=by
    unfold msE; rw [if_neg h1,if_neg (by omega),if_neg (by omega)]
  have ho : outsN m≠0:=by omega
  have ho4 : outsN m≤4:=by
    have:=(row_split ok ho (k:=0) (by omega) (t:=0) (by omega)).2.2.2.1; exact this
  simp (disch:=((try simp only [lZ]); omega)) only [aZ,aM,aQ]
  rw [pad_zero _ xs.length,hm_of]
  refine AWP.loopM g_machine_Split_1 (fun j : Nat=>j≤outsN m) (fun j=>[(13,.v (.int .i64 j))]) (fun j=>hm [.fs w (rows w m)] 0 (padA j (outsN m) xs.length) (mtx j xs.length fun _ _=>0)) (fun j=>outsN m - j) 0 (by omega) ?_ ?_
  · rw [mtx_z0]
    exact Cut.same (by omega) (hm_ok (by simp (disch:=first | omega | simp (disch:=omega) only [aG,aM,aQ]) only [fZ,aM,aQ]) (pad_bd _ _ _ _ (by simp (disch:=((try simp only [lZ]); omega)) only [aZ,aM,aQ]; omega))) (by simp (disch:=first | omega | simp (disch:=omega) only [aG,aM,aQ]) only [fZ,aM,aQ])
  rintro j hj
  by_cases hlt2 : j < outsN m
  · simp (disch:=((try simp only [lZ]); omega)) only [aZ,aM,aQ]
    rw [mtx_zero]
    refine ⟨j+1,by omega,by omega,?_⟩
    exact Cut.same (by omega) (hm_ok (by simp (disch:=first | omega | simp (disch:=omega) only [aG,aM,aQ]) only [fZ,aM,aQ]) (pad_bd _ _ _ _ (by simp (disch:=((try simp only [lZ]); omega)) only [aZ,aM,aQ]; omega))) (by simp (disch:=first | omega | simp (disch:=omega) only [aG,aM,aQ]) only [fZ,aM,aQ])
  have hje : j=outsN m:=by omega
  subst hje
  rw [pad_all,← msF_zero m xs]
  simp (disch:=((try simp only [lZ]); omega)) only [aZ,aM,aQ]
  refine AWP.loopM g_machine_Split_2 (fun x : Nat=>x≤xs.length) (fun x=>[(17,.v (.int .i64 x))]) (fun x=>hm [.fs w (rows w m)] 0 (ptrA (outsN m) xs.length) (mtx (outsN m) xs.length (msF m xs x 0))) (fun x=>xs.length - x) 0 (by omega) ?_ ?_
  · exact Cut.same (by omega) (hm_ok (by simp (disch:=first | omega | simp (disch:=omega) only [aG,aM,aQ]) only [fZ,aM,aQ]) (ptr_bd _ _ _ (by simp (disch:=((try simp only [lZ]); omega)) only [aZ,aM,aQ]; omega))) (by simp (disch:=first | omega | simp (disch:=omega) only [aG,aM,aQ]) only [fZ,aM,aQ])
  rintro x hx
  by_cases hltx : x < xs.length
  · have hbx:=hbd x hltx
    have hdl:=divM_len ok ho (k:=x) (by omega) hbx
    have hms:=fun o ho=>msF_set m xs (x:=x) (o:=o) ho hltx
    simp (disch:=((try simp only [lZ]); omega)) only [aZ,aM,aQ]
    refine (divided_vr (w:=w) m _ ok ho x (by omega) (xs.getD x 0) hbx).same (by unfold mcA mcC; simp (disch:=first | omega | simp (disch:=omega) only [aG,aM,aQ]) only [fZ,aM,aQ]) (by simp (disch:=first | omega | simp (disch:=omega) only [aG,aM,aQ]) only [fZ,aM,aQ]) (aret_of ?_)
    simp (disch:=((try simp only [lZ]); omega)) only [aZ,aM,aQ]
    refine AWP.loopM g_machine_Split_3 (fun o : Nat=>o≤outsN m) (fun o=>[(23,.v (.int .i64 o))]) (fun o=>hm [.fs w (rows w m)] 0 (ptrA (outsN m) xs.length) (mtx (outsN m) xs.length (msF m xs x o))) (fun o=>outsN m - o) 0 (by omega) ?_ ?_
    · exact Cut.same (by omega) (hm_ok (by simp (disch:=first | omega | simp (disch:=omega) only [aG,aM,aQ]) only [fZ,aM,aQ]) (ptr_bd _ _ _ (by simp (disch:=((try simp only [lZ]); omega)) only [aZ,aM,aQ]; omega))) (by simp (disch:=first | omega | simp (disch:=omega) only [aG,aM,aQ]) only [fZ,aM,aQ])
    rintro o ho2
    by_cases hlto : o < outsN m
    · simp (disch:=((try simp only [lZ]); omega)) only [aZ,aM,aQ]
      rw [hms o hlto]
      refine ⟨o+1,by omega,by omega,?_⟩
      exact Cut.same (by omega) (hm_ok (by simp (disch:=first | omega | simp (disch:=omega) only [aG,aM,aQ]) only [fZ,aM,aQ]) (ptr_bd _ _ _ (by simp (disch:=((try simp only [lZ]); omega)) only [aZ,aM,aQ]; omega))) (by simp (disch:=first | omega | simp (disch:=omega) only [aG,aM,aQ]) only [fZ,aM,aQ])
    have hoe : o=outsN m:=by omega
    subst hoe
    rw [msF_next]
    simp (disch:=((try simp only [lZ]); omega)) only [aZ,aM,aQ]
    refine ⟨x+1,by omega,by omega,?_⟩
    exact Cut.same (by omega) (hm_ok (by simp (disch:=first | omega | simp (disch:=omega) only [aG,aM,aQ]) only [fZ,aM,aQ]) (ptr_bd _ _ _ (by simp (disch:=((try simp only [lZ]); omega)) only [aZ,aM,aQ]; omega))) (by simp (disch:=first | omega | simp (disch:=omega) only [aG,aM,aQ]) only [fZ,aM,aQ])
  have hxe : x=xs.length:=by omega
  subst hxe
  rw [msF_end]
  have hml : (msM m xs).length=outsN m:=mtx_len _ _ _
  simp (disch:=((try simp only [lZ]); omega)) only [aZ,aM,aQ,r_machine_Split]
  refine ⟨_,hm [.any] 0 (ptrA (outsN m) xs.length) (msM m xs),cut_hm (by omega) ⟨Fz.any,trivial⟩ (ptr_bd _ _ _ (by omega)) ?_,.inr ⟨he,rfl,rfl⟩⟩
  exact ⟨Fz.refl (by simp [retA,A.bd,A.bdL,hml]),trivial⟩
theorem msM_rows (m : Mc) (xs : List Int) : ∀ l∈msM m xs,l.length=xs.length:=mtx_rows
theorem msM_len (m : Mc) (xs : List Int) : (msM m xs).length=outsN m:=mtx_len _ _ _
def splitA (m : Mc) (xs : List Int) : A:=.tup [if msE m xs≠0 then .v (.slice none 0 0) else .fs true (rows true (msM m xs)),.v (.int .i64 (msE m xs))]
theorem machineSplit_vr {w v : Bool} (m : Mc) (xs : List Int) : VR P false n_machine_Split [mcA w m,.fs v (ints xs)] [] (isR (splitA m xs)):=by
  refine (machineSplitO_vr (w:=w) (v:=v) m xs).cut ?_
  rintro r G (⟨h1,rfl,rfl⟩ | ⟨h1,rfl,rfl⟩)
  · exact ⟨_,_,Cut.refl _ _ _,by unfold splitA; rw [if_pos h1],rfl⟩
  · refine ⟨splitA m xs,[],Cut.of (Nat.le_refl _) rfl (fun i B' h=>by simp at h) ⟨?_,trivial⟩,rfl,rfl⟩
    unfold splitA
    rw [if_neg (by omega),h1]
    exact Fz.tup ⟨fz_mtx (msM_len m xs) (msM_rows m xs),Fz.refl rfl,trivial⟩
def FgL : List A→List A→Prop
  | [],[]=>True
  | a :: l,b :: r=>(b=.any∨a=b)∧FgL l r
  | _,_=>False
theorem fgl_nil : FgL [] []=True:=rfl
theorem fgl_cons (a b : A) (l r : List A) : FgL (a :: l) (b :: r)=((b=.any∨a=b)∧FgL l r):=rfl
theorem FgL.rel {g : Bool→Heap} {σ : Nam} : ∀ {e e' : List A} {ev : List Value},FgL e e'→RL g σ e ev→RL g σ e' ev
  | [],[],_,_,h=>h
  | a :: l,b :: r,ev,hf,h=>by
    obtain ⟨x,xs,rfl,h1,h2⟩:=h.uncons
    refine RL.cons ?_ (FgL.rel hf.2 h2)
    rcases hf.1 with rfl | rfl
    · exact .any x
    · exact h1
  | [],_ :: _,_,hf,_=>hf.elim
  | _ :: _,[],_,hf,_=>hf.elim
theorem Cut.fg {n0 : Nat} {e e' : List A} {H : List Blk} (h : FgL e e') : Cut n0 e H e' H:=fun c ev h1 h2 h3 h4=>⟨c,h1,rfl,Lat.refl _ _,h3,h.rel h4⟩
def Gr (F : Nat→Prop) (H H' : List Blk) : Prop:=H.length≤H'.length∧∀ i ver,i < H.length→¬ F i→blkAt H' i ver=blkAt H i ver
theorem Gr.refl {F : Nat→Prop} (H : List Blk) : Gr F H H:=⟨Nat.le_refl _,fun _ _ _ _=>rfl⟩
theorem Gr.trans {F F' : Nat→Prop} {H H1 H2 : List Blk} (h : Gr F H H1) (k : Gr F' H1 H2) (hf : ∀ i,i < H.length→F' i→F i) : Gr F H H2 :=
  ⟨Nat.le_trans h.1 k.1,fun i ver hi hn=>(k.2 i ver (Nat.lt_of_lt_of_le hi h.1) fun hc=>hn (hf i hi hc)).trans (h.2 i ver hi hn)⟩
theorem Gr.mono {F F' : Nat→Prop} {H H' : List Blk} (h : Gr F H H') (hf : ∀ i,i < H.length→F i→F' i) : Gr F' H H':=⟨h.1,fun i ver hi hn=>h.2 i ver hi fun hc=>hn (hf i hi hc)⟩
theorem Gr.app {F : Nat→Prop} (H l : List Blk) : Gr F H (H++l):=⟨by simp,fun i ver hi _=>blkAt_app H l i ver hi⟩
theorem Gr.set {F : Nat→Prop} (H : List Blk) (j : Nat) (B : Blk) (hj : F j) : Gr F H (H.set j B):=⟨by simp,fun i ver hi hn=>blkAt_set_ne _ _ _ _ _ fun hc=>hn (hc▸hj)⟩
theorem Gr.at {F : Nat→Prop} {H H' : List Blk} (h : Gr F H H') {i ver : Nat} {l : List A} (hb : blkAt H i ver=some l) (hn : ¬ F i) : blkAt H' i ver=some l:=(h.2 i ver (blkAt_lt hb) hn).trans hb
abbrev nof : Nat→Prop:=fun _=>False
abbrev one (j : Nat) : Nat→Prop:=fun i=>i=j
theorem blk_self {H : List Blk} {j ver : Nat} {l : List A} (h : blkAt H j ver=some l) : H.set j ⟨ver,l⟩=H:=by
  obtain ⟨B,h1,h2,h3⟩:=blkAt_iff.1 h
  apply List.ext_getElem?
  intro i
  rw [List.getElem?_set]
  split
  · rename_i hi; subst hi
    rw [if_pos (List.getElem?_eq_some_iff.1 h1).1,h1,← h2,← h3]
  · rfl
def upM (a b : List Int) (k : Nat) : List Int:=(List.range a.length).map fun i=>if i < k then a.getD i 0+b.getD i 0 else a.getD i 0
theorem upM_len (a b : List Int) (k : Nat) : (upM a b k).length=a.length:=by simp [upM]
theorem upM_get (a b : List Int) (k i : Nat) (h : i < a.length) : (upM a b k).getD i 0=if i < k then a.getD i 0+b.getD i 0 else a.getD i 0:=by simp [upM,List.getD_eq_getElem?_getD,h]
theorem upM_zero (a b : List Int) : upM a b 0=a:=by
  refine eq_of_getB 0 (upM_len _ _ _) fun i hi=>?_
  rw [upM_len] at hi
  rw [upM_get _ _ _ _ hi,if_neg (by omega)]
theorem upM_all (a b : List Int) (k : Nat) (h : a.length≤k) : upM a b k=plusM a b:=by
  refine eq_of_getB 0 (by rw [upM_len,plusM_len]) fun i hi=>?_
  rw [upM_len] at hi
  rw [upM_get _ _ _ _ hi,plusM_get _ _ _ hi,if_pos (by omega)]
theorem upM_set (a b : List Int) (k : Nat) (h : k < a.length) : (upM a b k).set k (a.getD k 0+b.getD k 0)=upM a b (k+1):=by
  refine eq_of_getB 0 (by simp [upM_len]) fun i hi=>?_
  simp only [List.length_set,upM_len] at hi
  rw [upM_get _ _ _ _ hi,getD_seti,upM_get _ _ _ _ hi,upM_len]
  by_cases hik : i=k
  · subst hik; rw [if_pos ⟨rfl,h⟩,if_pos (by omega)]
  · rw [if_neg (fun hc=>hik hc.1.symm)]
    by_cases hlt : i < k
    · rw [if_pos hlt,if_pos (by omega)]
    · rw [if_neg hlt,if_neg (by omega)]
def Sm (a b : List Int) : Prop:=∀ i,i < a.length→-2305843009213693952≤a.getD i 0∧a.getD i 0≤2305843009213693952∧-2305843009213693952≤b.getD i 0∧b.getD i 0≤2305843009213693952
theorem add_sl {H : List Blk} {i v j u : Nat} {a b : List Int} (ha : blkAt H i v = some (ints a)) (hb : blkAt H j u = some (ints b)) (ne : j ≠ i) (hl : b.length = a.length) (hs : Sm a b) (h9 : a.length < 1000000000) :
    VR P false n_plant_add [.sl i v 1 0 a.length,.sl j u 1 0 b.length] H (fun r H'=>H'=H.set i ⟨v,ints (plusM a b)⟩):=by
  refine vr_plant_add (by simp) (.inl rfl) fun _ _=>?_
  have lt:=blkAt_lt ha
  have hse:=blk_self ha
  simp (disch:=((try simp only [lZ]); omega)) only [aZ,aM,s_plant_add,v_plant_add]
  refine AWP.loopP g_plant_add_0 (fun k : Nat=>k≤a.length) (fun k=>[(2,.v (.int .i64 k))]) (fun k=>[(i,⟨v,ints (upM a b k)⟩)]) (fun k=>a.length - k) 0 (by omega) ?_ ?_
  · rw [upM_zero]
    simp (disch:=((try simp only [lZ]); omega)) only [aZ,aM,hse]
    refine Cut.fg ?_
    simp (disch:=first | omega | simp (disch:=omega) only [aG,aM]) only [fZ,aM,fgl_nil,fgl_cons,or_true,true_or]
  rintro k hk
  have hb' : blkAt (H.set i ⟨v,ints (upM a b k)⟩) j u=some (ints b):=by rw [blkAt_set_ne _ _ _ _ _ ne]; exact hb
  have ha' : blkAt (H.set i ⟨v,ints (upM a b k)⟩) i v=some (ints (upM a b k)):=blkAt_set_same _ _ _ _ lt
  have ul:=upM_len a b k
  by_cases hlt : k < a.length
  · have hx:=hs k hlt
    have e0 : (upM a b k).getD k 0=a.getD k 0:=by rw [upM_get _ _ _ _ hlt,if_neg (by omega)]
    have e1:=upM_set a b k hlt
    simp (disch:=((try simp only [lZ]); omega)) only [aZ,aM,ha',hb',e0,e1]
    refine ⟨k+1,by omega,by omega,?_⟩
    try simp (disch:=((try simp only [lZ]); omega)) only [aZ,aM]
    refine Cut.fg ?_
    simp (disch:=first | omega | simp (disch:=omega) only [aG,aM]) only [fZ,aM,fgl_nil,fgl_cons,or_true,true_or]
  · have hke : k=a.length:=by omega
    subst hke
    rw [upM_all _ _ _ (Nat.le_refl _)]
    simp (disch:=((try simp only [lZ]); omega)) only [aZ,aM,r_plant_add]
    exact post2 (R:=fun r H'=>_) rfl
theorem add_fs {w : Bool} {H : List Blk} {i v : Nat} {a b : List Int} (ha : blkAt H i v = some (ints a)) (hl : b.length = a.length) (hs : Sm a b) (h9 : a.length < 1000000000) :
    VR P false n_plant_add [.sl i v 1 0 a.length,.fs w (ints b)] H (fun r H'=>H'=H.set i ⟨v,ints (plusM a b)⟩):=by
  refine vr_plant_add (by simp) (.inl rfl) fun _ _=>?_
  have lt:=blkAt_lt ha
  have hse:=blk_self ha
  simp (disch:=((try simp only [lZ]); omega)) only [aZ,aM,s_plant_add,v_plant_add]
  refine AWP.loopP g_plant_add_0 (fun k : Nat=>k≤a.length) (fun k=>[(2,.v (.int .i64 k))]) (fun k=>[(i,⟨v,ints (upM a b k)⟩)]) (fun k=>a.length - k) 0 (by omega) ?_ ?_
  · rw [upM_zero]
    simp (disch:=((try simp only [lZ]); omega)) only [aZ,aM,hse]
    exact Cut.fg (by simp (disch:=first | omega | simp (disch:=omega) only [aG,aM]) only [fZ,aM,fgl_nil,fgl_cons,or_true,true_or])
  rintro k hk
  have ha' : blkAt (H.set i ⟨v,ints (upM a b k)⟩) i v=some (ints (upM a b k)):=blkAt_set_same _ _ _ _ lt
  have ul:=upM_len a b k
  by_cases hlt : k < a.length
  · have hx:=hs k hlt
    have e0 : (upM a b k).getD k 0=a.getD k 0:=by rw [upM_get _ _ _ _ hlt,if_neg (by omega)]
    have e1:=upM_set a b k hlt
    simp (disch:=((try simp only [lZ]); omega)) only [aZ,aM,ha',e0,e1]
    refine ⟨k+1,by omega,by omega,?_⟩
    try simp (disch:=((try simp only [lZ]); omega)) only [aZ,aM]
    exact Cut.fg (by simp (disch:=first | omega | simp (disch:=omega) only [aG,aM]) only [fZ,aM,fgl_nil,fgl_cons,or_true,true_or])
  · have hke : k=a.length:=by omega
    subst hke
    rw [upM_all _ _ _ (Nat.le_refl _)]
    simp (disch:=((try simp only [lZ]); omega)) only [aZ,aM,r_plant_add]
    exact post2 (R:=fun r H'=>_) rfl
theorem add_nil {H : List Blk} {x : A} : VR P false n_plant_add [x,.v (.slice none 0 0)] H (fun r H'=>H'=H):=by
  refine vr_plant_add (by simp) (.inl rfl) fun _ _=>?_
  simp (disch:=((try simp only [lZ]); omega)) only [aZ,aM,s_plant_add,v_plant_add]
  refine AWP.loopP g_plant_add_0 (fun k : Nat=>k=0) (fun k=>[(2,.v (.int .i64 k))]) (fun k=>[]) (fun k=>0) 0 rfl ?_ ?_
  · exact Cut.fg (by simp (disch:=first | omega | simp (disch:=omega) only [aG,aM]) only [fZ,aM,fgl_nil,fgl_cons,or_true,true_or])
  rintro k rfl
  simp (disch:=((try simp only [lZ]); omega)) only [aZ,aM,r_plant_add]
  exact post2 (R:=fun r H'=>_) rfl
abbrev zeros (n : Nat) : List Int:=List.replicate n 0
theorem empty_vr {n : Nat} (hn : n≤16) : VR P false n_plant_state_empty [.fp false [.v (.int .i64 n),.any,.any,.any,.any,.any,.any,.any]] [] (ownR (.sl 0 0 1 0 n) [⟨0,ints (zeros n)⟩]):=by
  refine vr_plant_state_empty (by simp) (.inr rfl) fun _ _=>?_
  simp (disch:=((try simp only [lZ]); omega)) only [aZ,aM,s_plant_state_empty,v_plant_state_empty,r_plant_state_empty]
  exact post2 (R:=ownR _ _) ⟨rfl,rfl⟩
theorem empty_ps {kp : Bool} {H : List Blk} {r n : Nat} {a b c d e f g : A} (hn : n≤16) (hr : blkAt H r 0=some [.v (.int .i64 n),a,b,c,d,e,f,g]) : VR P kp n_plant_state_empty [.lp r 0 0] H (fun r H'=>r=.sl H.length 0 1 0 n∧H'=H++[⟨0,ints (zeros n)⟩]):=by
  have hl : LdL H [.v (.int .i64 n),a,b,c,d,e,f,g] [.v (.int .i64 n),.any,.any,.any,.any,.any,.any,.any]:=⟨Ld.refl rfl,Ld.any,Ld.any,Ld.any,Ld.any,Ld.any,Ld.any,Ld.any,trivial⟩
  refine (empty_vr hn).useO ⟨Ld.lp (o:=0) hr hl (by simp),trivial⟩ (by simp [A.cl,ii_cl]) ⟨by simp [A.sh],by simp [Blk.sh,shL_bd _ (ii_bd 0 _)]⟩
theorem clone_vr {w : Bool} {xs : List Int} (h0 : 0 < xs.length) (h1 : xs.length≤16) : VR P false n_slices_Clone [.fs w (ints xs)] [] (ownR (.sl 0 1 1 0 xs.length) [⟨1,ints xs⟩]):=by
  refine vr_slices_Clone (by simp) (.inr rfl) fun _ _=>?_
  have he : eqsA false (.fs w (ints xs)) (.v (.slice none 0 0))=some (.v (.bool false)):=by simp only [eqsA]; rw [if_neg (by rw [ii_len]; omega)]
  simp (disch:=((try simp only [lZ]); omega)) only [aZ,aM,s_slices_Clone,v_slices_Clone,r_slices_Clone,he]
  exact post2 (R:=ownR _ _) ⟨rfl,rfl⟩
theorem clone_sl {kp : Bool} {H : List Blk} {i v : Nat} {xs : List Int} (h0 : 0 < xs.length) (h1 : xs.length≤16) (hb : blkAt H i v=some (ints xs)) : VR P kp n_slices_Clone [.sl i v 1 0 xs.length] H (fun r H'=>r=.sl H.length 1 1 0 xs.length∧H'=H++[⟨1,ints xs⟩]) :=
  (clone_vr (w:=false) h0 h1).useO ⟨ld_slI H i v xs.length xs rfl hb,trivial⟩ (by simp [A.cl,ii_cl]) ⟨by simp [A.sh],by simp [Blk.sh,shL_bd _ (ii_bd 0 _)]⟩
theorem v_slcu (e : List A) (H : List Blk) (arr : Option Nat) (n : Nat) (a lo hi z : X) (k : K1) : (X.slc arr n a lo hi (.u k z)).av e H=ob (a.av e H) fun x=>ob (lo.av e H) fun l=>ob (hi.av e H) fun u=>ob ((X.u k z).av e H) fun m=>slcA H arr n x l u (some m):=rfl
theorem slc_lpm {H : List Blk} {i ver len : Nat} {l : List A} {b c : Int} (hb : blkAt H i ver = some l) (h1 : 0 ≤ b) (h2 : b ≤ c) (h3 : c ≤ len) (h4 : len ≤ l.length) :
    slcA H (some len) 1 (.lp i ver 0) (.v (.int .i64 0)) (.v (.int .i64 b)) (some (.v (.int .i64 c)))=some (.sl i ver 1 0 b.toNat):=by
  simp only [slcA,hb,Option.bind_some]
  rw [if_pos ⟨by omega,by omega,h2,h3,by omega⟩]
  simp
theorem blk_ne {H : List Blk} {i v j u : Nat} {l l' : List A} (h : blkAt H i v=some l) (h' : blkAt H j u=some l') (hn : l.length≠l'.length) : i≠j:=fun hc=>by
  subst hc
  obtain ⟨B,e1,_,e2⟩:=blkAt_iff.1 h
  obtain ⟨C,e3,_,e4⟩:=blkAt_iff.1 h'
  rw [e1] at e3; cases e3
  exact hn (by rw [← e2,← e4])
abbrev nilS : A:=.v (.slice none 0 0)
def ringC (len mat : Nat) (ad : Nat→Nat×Nat) : List A:=(List.range 16).map fun q=>if q < len then .sl (ad q).1 (ad q).2 1 0 mat else nilS
def belK (c len mat pos : Nat) (ad : Nat→Nat×Nat) : List A:=ringC c mat ad++[.v (.int .i64 len),.v (.int .i64 mat),.v (.int .i64 pos)]
abbrev belC (len mat pos : Nat) (ad : Nat→Nat×Nat) : List A:=belK len len mat pos ad
theorem ring_len (len mat : Nat) (ad : Nat→Nat×Nat) : (ringC len mat ad).length=16:=by simp [ringC]
theorem bel_len (c len mat pos : Nat) (ad : Nat→Nat×Nat) : (belK c len mat pos ad).length=19:=by simp [belK,ring_len]
theorem bel_nth (c len mat pos : Nat) (ad : Nat→Nat×Nat) (q : Nat) (h : q < c) (h16 : c≤16) : nthA (belK c len mat pos ad) q=some (.sl (ad q).1 (ad q).2 1 0 mat):=by
  rw [nthA_get,belK,List.getElem?_append_left (by rw [ring_len]; omega)]
  simp [ringC,h,show q < 16 by omega]
theorem bel_nth16 (c len mat pos : Nat) (ad : Nat→Nat×Nat) : nthA (belK c len mat pos ad) 16=some (.v (.int .i64 len)):=by
  rw [nthA_get,belK,List.getElem?_append_right (by rw [ring_len]; omega),ring_len]; rfl
theorem bel_nth17 (c len mat pos : Nat) (ad : Nat→Nat×Nat) : nthA (belK c len mat pos ad) 17=some (.v (.int .i64 mat)):=by
  rw [nthA_get,belK,List.getElem?_append_right (by rw [ring_len]; omega),ring_len]; rfl
theorem bel_nth18 (c len mat pos : Nat) (ad : Nat→Nat×Nat) : nthA (belK c len mat pos ad) 18=some (.v (.int .i64 pos)):=by
  rw [nthA_get,belK,List.getElem?_append_right (by rw [ring_len]; omega),ring_len]; rfl
def updA (ad : Nat→Nat×Nat) (q : Nat) (a : Nat×Nat) : Nat→Nat×Nat:=fun j=>if j=q then a else ad j
theorem spl_one {l : List A} {k : Nat} {a : A} (h : k < l.length) : splA l k [a]=l.set k a:=by
  unfold splA
  apply List.ext_getElem?
  intro i
  rw [List.getElem?_set]
  by_cases h1 : i < k
  · rw [if_neg (by omega),List.append_assoc,List.getElem?_append_left (by simp; omega),List.getElem?_take_of_lt h1]
  · by_cases h2 : i=k
    · subst h2
      rw [if_pos rfl,if_pos h,List.append_assoc,List.getElem?_append_right (by simp; omega)]
      rw [show i - (List.take i l).length=0 by simp; omega]; rfl
    · rw [if_neg (by omega),List.getElem?_append_right (by simp; omega),List.getElem?_drop]
      congr 1; simp; omega
theorem bel_spl (len mat pos : Nat) (ad : Nat→Nat×Nat) (q : Nat) (a : Nat×Nat) (h : q < len) (h16 : len≤16) : splA (belC len mat pos ad) q [.sl a.1 a.2 1 0 mat]=belC len mat pos (updA ad q a):=by
  rw [spl_one (by rw [bel_len]; omega)]
  unfold belC belK
  rw [List.set_append_left _ _ (by rw [ring_len]; omega)]
  congr 1
  apply List.ext_getElem?
  intro i
  rw [List.getElem?_set,ring_len]
  unfold ringC updA
  by_cases h1 : q=i
  · subst h1; rw [if_pos rfl,if_pos (by omega)]; simp [h,show q < 16 by omega]
  · rw [if_neg h1]
    simp only [List.getElem?_map]
    by_cases hi : i < 16
    · simp [hi,show ¬ i=q by omega]
    · simp [Nat.not_lt.1 hi]
theorem bel_spl18 (c len mat pos : Nat) (ad : Nat→Nat×Nat) (x : Nat) : splA (belK c len mat pos ad) 18 [.v (.int .i64 x)]=belK c len mat x ad:=by
  rw [spl_one (by rw [bel_len]; omega)]
  unfold belK
  rw [List.set_append_right _ _ (by rw [ring_len]; omega),ring_len]; rfl
theorem slots_vr {H : List Blk} {r c len mat pos : Nat} {ad : Nat→Nat×Nat} (hr : blkAt H r 0=some (belK c len mat pos ad)) (h16 : len≤16) : VR P false n_belt_Belt_slots [.lp r 0 0] H (fun x H'=>x=.sl r 0 1 0 len∧H'=H):=by
  refine vr_belt_Belt_slots (by simp) (.inl rfl) fun _ _=>?_
  have n16:=bel_nth16 c len mat pos ad
  have hs:=slc_lpm (b:=len) (c:=len) (len:=16) hr (by omega) (by omega) (by omega) (by rw [bel_len]; omega)
  simp (disch:=((try simp only [lZ]); omega)) only [aZ,aM,s_belt_Belt_slots,v_belt_Belt_slots,r_belt_Belt_slots,v_slcu,hr,n16,hs]
  exact post2 (R:=fun r H'=>_) ⟨by first | rfl | simp,rfl⟩
theorem valid_vr {w : Bool} (xs : List Int) (n : Int) : VR P false n_material_Valid [.fs w (ints xs),.v (.int .i64 n)] [] (isR (.v (.bool (decide ((xs.length : Int)=n∧mixE xs=0))))):=by
  refine vr_material_Valid (by simp) (.inr rfl) fun _ _=>?_
  simp (disch:=((try simp only [lZ]); omega)) only [aZ,aM,s_material_Valid,v_material_Valid]
  refine ib_intro (fun h1=>?_) (fun h1=>?_)
  · simp (disch:=((try simp only [lZ]); omega)) only [aZ,aM]
    refine (mixCheck1_vr xs).use (ld_all (by simp [zZ,blkAt,flatA,A.cells,A.one,Lft.one,retA,A.bdL,A.bd,ii_bd])) rfl (aret_of ?_)
    simp (disch:=((try simp only [lZ]); omega)) only [aZ,aM,r_material_Valid]
    exact post_v ⟨by rw [show decide (mixE xs=0)=decide ((xs.length : Int)=n∧mixE xs=0) by simp [h1]],rfl⟩
  · simp (disch:=((try simp only [lZ]); omega)) only [aZ,aM,r_material_Valid]
    exact post_v ⟨by rw [show false=decide ((xs.length : Int)=n∧mixE xs=0) by simp [h1]],rfl⟩
theorem valid_sl {kp : Bool} {H : List Blk} {i v : Nat} {xs : List Int} (hb : blkAt H i v=some (ints xs)) (n : Nat) (hl : xs.length=n) (hm : mixE xs=0) : VR P kp n_material_Valid [.sl i v 1 0 n,.v (.int .i64 n)] H (fun r H'=>r=.v (.bool true)∧H'=H) :=
  (valid_vr (w:=false) xs n).use ⟨by rw [← hl]; exact ld_slI H i v xs.length xs rfl hb,Ld.refl rfl,trivial⟩ rfl ⟨by simp [hl,hm],rfl⟩
theorem bstep_vr {H : List Blk} {r len mat pos i v : Nat} {ad : Nat → Nat × Nat} {xs : List Int} (hr : blkAt H r 0 = some (belC len mat pos ad)) (h1 : 1 ≤ len) (h16 : len ≤ 16) (hp : pos < len) (hm : 1 ≤ mat ∧ mat ≤ 16)
    (hb : blkAt H i v=some (ints xs)) (hl : xs.length=mat) (hx : mixE xs=0) :
    VR P false n_belt_Belt_Step [.lp r 0 0,.sl i v 1 0 mat] H (fun x H'=>x=.tup [.sl (ad ((pos+len - 1) % len)).1 (ad ((pos+len - 1) % len)).2 1 0 mat,.v (.int .i64 0)]∧H'=(H++[(⟨1,ints xs⟩ : Blk)]).set r ⟨0,belC len mat ((pos+len - 1) % len) (updA ad ((pos+len - 1) % len) (H.length,1))⟩):=by
  refine vr_belt_Belt_Step (by simp) (.inl rfl) fun _ _=>?_
  have lt:=blkAt_lt hr
  have n16:=bel_nth16 len len mat pos ad
  have n17:=bel_nth17 len len mat pos ad
  have n18:=bel_nth18 len len mat pos ad
  have s18:=bel_spl18 len len mat pos ad
  have hq : (pos+len - 1) % len < len:=Nat.mod_lt _ (by omega)
  have hmod : ((pos : Int)+len - 1) % len=((pos+len - 1) % len : Nat):=by
    rw [show ((pos : Int)+len - 1)=((pos+len - 1 : Nat) : Int) by omega]
    exact (Int.natCast_emod _ _).symm
  simp (disch:=((try simp only [lZ]); omega)) only [aZ,aM,s_belt_Belt_Step,v_belt_Belt_Step,hr,n17]
  refine (valid_sl hb mat hl hx).mono ?_
  rintro x H' ⟨rfl,hH⟩
  rw [hH]
  refine aret_of ?_
  simp (disch:=((try simp only [lZ]); omega)) only [aZ,aM]
  refine (slots_vr hr h16).mono ?_
  rintro x H' ⟨rfl,hH⟩
  rw [hH]
  refine aret_of ?_
  generalize hg : (pos+len - 1) % len=q at *
  have bl:=bel_len len len mat q ad
  have bl0:=bel_len len len mat pos ad
  have m18:=bel_nth18 len len mat q ad
  have mq:=bel_nth len len mat q ad q hq h16
  have ms:=fun a=>bel_spl len mat q ad q a hq h16
  have hir : i≠r:=blk_ne hb hr (by rw [bel_len,ii_len]; omega)
  have hb2 : blkAt (H.set r ⟨0,belC len mat q ad⟩++[⟨0,[]⟩]) i v=some (ints xs):=by
    rw [blkAt_app _ _ _ _ (by rw [List.length_set]; exact blkAt_lt hb),blkAt_set_ne _ _ _ _ _ hir]; exact hb
  have hms:=ms (H.length,1)
  have hbn : blkAt (H.set r ⟨0,belC len mat q ad⟩++[⟨0,[]⟩]) H.length 0=some []:=by
    have:=blkAt_new0 (H.set r ⟨0,belC len mat q ad⟩) [⟨0,[]⟩] 0
    rw [List.length_set] at this; exact this
  have hsn : ∀ B C : Blk,(H.set r B++[C]).set H.length ⟨1,ints xs⟩=H.set r B++[⟨1,ints xs⟩]:=fun B C=>by
    have:=setB_new0 (H.set r B) [C] ⟨1,ints xs⟩
    rw [List.length_set] at this; exact this
  simp (disch:=((try simp only [lZ]); omega)) only [aZ,aM,hr,n16,n17,n18,hmod,bl0,bl,s18,m18,mq,hb2,hbn,hsn,hms,r_belt_Belt_Step]
  exact ⟨post2 (R:=fun r H'=>_) ⟨rfl,rfl⟩,post2 (R:=fun r H'=>_) ⟨rfl,rfl⟩⟩
def newA (n : Nat) : Nat→Nat×Nat:=fun q=>(n+q,0)
theorem ring_zero (mat : Nat) (ad : Nat→Nat×Nat) : ringC 0 mat ad=[nilS,nilS,nilS,nilS,nilS,nilS,nilS,nilS,nilS,nilS,nilS,nilS,nilS,nilS,nilS,nilS]:=rfl
theorem bel_grow (c len mat pos : Nat) (ad : Nat→Nat×Nat) (h16 : c < 16) : splA (belK c len mat pos ad) c [.sl (ad c).1 (ad c).2 1 0 mat]=belK (c+1) len mat pos ad:=by
  rw [spl_one (by rw [bel_len]; omega)]
  unfold belK
  rw [List.set_append_left _ _ (by rw [ring_len]; omega)]
  congr 1
  apply List.ext_getElem?
  intro i
  rw [List.getElem?_set,ring_len]
  unfold ringC
  by_cases h1 : c=i
  · subst h1; rw [if_pos rfl,if_pos (by omega)]; simp [h16]
  · rw [if_neg h1]
    simp only [List.getElem?_map]
    by_cases hi : i < 16
    · simp [hi,show (i < c+1↔i < c) by omega]
    · simp [Nat.not_lt.1 hi]
theorem bempty_vr {H : List Blk} {r mat len : Nat} (h1 : 1 ≤ len) (h16 : len ≤ 16) (hm : 1 ≤ mat ∧ mat ≤ 16) {ad : Nat → Nat × Nat} (hr : blkAt H r 0 = some (belK 0 len mat 0 (newA H.length))) :
    VR P false n_belt_Belt_empty [.lp r 0 0] H (fun x H'=>H'=H.set r ⟨0,belC len mat 0 (newA H.length)⟩++List.replicate len ⟨0,ints (zeros mat)⟩):=by
  refine vr_belt_Belt_empty (by simp) (.inl rfl) fun _ _=>?_
  have lt:=blkAt_lt hr
  have hse:=blk_self hr
  simp (disch:=((try simp only [lZ]); omega)) only [aZ,aM,s_belt_Belt_empty,v_belt_Belt_empty]
  refine (slots_vr hr h16).mono ?_
  rintro x H' ⟨rfl,hH⟩
  rw [hH]
  refine aret_of ?_
  simp (disch:=((try simp only [lZ]); omega)) only [aZ,aM]
  refine AWP.loopM g_belt_Belt_empty_0 (fun k : Nat=>k≤len) (fun k=>[(2,.v (.int .i64 k))]) (fun k=>H.set r ⟨0,belK k len mat 0 (newA H.length)⟩++List.replicate k ⟨0,ints (zeros mat)⟩) (fun k=>len - k) 0 (by omega) ?_ ?_
  · rw [hse,List.replicate_zero,List.append_nil]
    exact Cut.fg (by simp (disch:=first | omega | simp (disch:=omega) only [aG,aM]) only [fZ,aM,fgl_nil,fgl_cons,or_true,true_or])
  rintro k hk
  by_cases hlt : k < len
  · have hset : ∀ B : Blk, (H.set r ⟨0, belK k len mat 0 (newA H.length)⟩ ++ List.replicate k (⟨0, ints (zeros mat)⟩ : Blk)).set r B ++ [(⟨0, ints (zeros mat)⟩ : Blk)] = H.set r B ++ List.replicate (k + 1) ⟨0, ints (zeros mat)⟩ := fun B => by
      rw [List.set_append_left _ _ (by rw [List.length_set]; exact lt),List.set_set,List.append_assoc,List.replicate_succ']
    have hat : blkAt (H.set r ⟨0,belK k len mat 0 (newA H.length)⟩++List.replicate k ⟨0,ints (zeros mat)⟩) r 0=some (belK k len mat 0 (newA H.length)):=by
      rw [blkAt_app _ _ _ _ (by rw [List.length_set]; exact lt)]; exact blkAt_set_same _ _ _ _ lt
    have hlen : (H.set r ⟨0,belK k len mat 0 (newA H.length)⟩++List.replicate k (⟨0,ints (zeros mat)⟩ : Blk)).length=H.length+k:=by simp
    generalize H.set r ⟨0,belK k len mat 0 (newA H.length)⟩++List.replicate k (⟨0,ints (zeros mat)⟩ : Blk)=K at *
    have ltk:=blkAt_lt hat
    have hat2 : blkAt (K++[⟨0,ints (zeros mat)⟩]) r 0=some (belK k len mat 0 (newA H.length)):=by rw [blkAt_app _ _ _ _ ltk]; exact hat
    have n17:=bel_nth17 k len mat 0 (newA H.length)
    have bl:=bel_len k len mat 0 (newA H.length)
    have gr : splA (belK k len mat 0 (newA H.length)) k [.sl K.length 0 1 0 mat]=belK (k+1) len mat 0 (newA H.length):=by rw [hlen]; exact bel_grow k len mat 0 (newA H.length) (by omega)
    unfold zeros at *
    simp (disch:=((try simp only [lZ]); omega)) only [aZ,aM,hat,hat2,n17,bl,gr]
    refine ⟨k+1,by omega,by omega,?_⟩
    rw [hset]
    exact Cut.fg (by simp (disch:=first | omega | simp (disch:=omega) only [aG,aM]) only [fZ,aM,fgl_nil,fgl_cons,or_true,true_or])
  · have hke : k=len:=by omega
    subst hke
    simp (disch:=((try simp only [lZ]); omega)) only [aZ,aM,r_belt_Belt_empty]
    exact post2 (R:=fun r H'=>_) rfl
def beltG (len mat : Nat) : List Blk:=⟨0,belC len mat 0 (newA 1)⟩ :: List.replicate len ⟨0,ints (zeros mat)⟩
theorem bnew_vr {mat len : Nat} (h1 : 1≤len) (h16 : len≤16) (hm : 1≤mat∧mat≤16) : VR P false n_belt_New [.v (.int .i64 len),.v (.int .i64 mat)] [] (ownR (.tup [.lp 0 0 0,.v (.int .i64 0)]) (beltG len mat)):=by
  refine vr_belt_New (by simp) (.inr rfl) fun _ _=>?_
  simp (disch:=((try simp only [lZ]); omega)) only [aZ,aM,s_belt_New,v_belt_New]
  refine (bempty_vr (r:=0) (len:=len) (mat:=mat) h1 h16 hm (ad:=newA 1) (by unfold belK; rw [ring_zero]; rfl)).mono ?_
  rintro x H' hH
  rw [hH]
  refine aret_of ?_
  simp (disch:=((try simp only [lZ]); omega)) only [aZ,aM,r_belt_New]
  exact post2 (R:=ownR _ _) ⟨rfl,rfl⟩
def accR (mat : Nat) (ct : Nat→List Int) : Nat→List Int
  | 0=>zeros mat
  | k+1=>plusM (accR mat ct k) (ct k)
theorem accR_len (mat : Nat) (ct : Nat→List Int) (k : Nat) : (accR mat ct k).length=mat:=by
  induction k with
  | zero=>simp [accR,zeros]
  | succ k ih=>rw [accR,plusM_len,ih]
def MixOk (mat : Nat) (l : List Int) : Prop:=l.length=mat∧∀ i,0≤l.getD i 0∧l.getD i 0≤1073741824
theorem accR_bd {mat : Nat} {ct : Nat→List Int} {n : Nat} (h : ∀ q,q < n→MixOk mat (ct q)) : ∀ k,k≤n→∀ i,0≤(accR mat ct k).getD i 0∧(accR mat ct k).getD i 0≤k*1073741824
  | 0,_,i=>by
    have : (zeros mat).getD i 0=0:=by simp [zeros,List.getD_eq_getElem?_getD,List.getElem?_replicate]; split<;>rfl
    simp only [accR]; rw [this]; omega
  | k+1,hk,i=>by
    have ih:=accR_bd h k (by omega) i
    have hc:=(h k (by omega)).2 i
    by_cases hi : i < mat
    · simp only [accR]
      rw [plusM_get _ _ _ (by rw [accR_len]; exact hi)]
      omega
    · have : (accR mat ct (k+1)).getD i 0=0:=by rw [List.getD_eq_getElem?_getD,List.getElem?_eq_none (by rw [accR_len]; omega)]; rfl
      rw [this]; omega
theorem btotal_vr {H : List Blk} {r len mat pos : Nat} {ad : Nat → Nat × Nat} {ct : Nat → List Int} (hr : blkAt H r 0 = some (belC len mat pos ad)) (h16 : len ≤ 16) (hm : 1 ≤ mat ∧ mat ≤ 16)
    (hc : ∀ q,q < len→blkAt H (ad q).1 (ad q).2=some (ints (ct q))∧MixOk mat (ct q)) :
    VR P false n_belt_Belt_Total [.lp r 0 0] H (fun x H'=>x=.sl H.length 0 1 0 mat∧H'=H++[⟨0,ints (accR mat ct len)⟩]):=by
  refine vr_belt_Belt_Total (by simp) (.inl rfl) fun _ _=>?_
  have lt:=blkAt_lt hr
  have n17:=bel_nth17 len len mat pos ad
  have hat : ∀ B : Blk,blkAt (H++[B]) r 0=some (belC len mat pos ad):=fun B=>by rw [blkAt_app _ _ _ _ lt]; exact hr
  unfold zeros at *
  simp (disch:=((try simp only [lZ]); omega)) only [aZ,aM,s_belt_Belt_Total,v_belt_Belt_Total,hr,n17]
  refine (slots_vr (hat _) h16).mono ?_
  rintro x H' ⟨rfl,hH⟩
  rw [hH]
  refine aret_of ?_
  simp (disch:=((try simp only [lZ]); omega)) only [aZ,aM]
  refine AWP.loopM g_belt_Belt_Total_0 (fun k : Nat=>k≤len) (fun k=>[(3,.v (.int .i64 k))]) (fun k=>H++[⟨0,ints (accR mat ct k)⟩]) (fun k=>len - k) 0 (by omega) ?_ ?_
  · exact Cut.fg (by simp (disch:=first | omega | simp (disch:=omega) only [aG,aM]) only [fZ,aM,fgl_nil,fgl_cons,or_true,true_or])
  rintro k hk
  have al:=accR_len mat ct k
  by_cases hlt : k < len
  · obtain ⟨c1,c2⟩:=hc k hlt
    have hcl:=c2.1
    have mk:=bel_nth len len mat pos ad k hlt h16
    have hak:=hat ⟨0,ints (accR mat ct k)⟩
    have bl:=bel_len len len mat pos ad
    simp (disch:=((try simp only [lZ]); omega)) only [aZ,aM,hak,mk,bl]
    refine AWP.loopM g_belt_Belt_Total_1 (fun j : Nat=>j≤mat) (fun j=>[(8,.v (.int .i64 j))]) (fun j=>H++[⟨0,ints (upM (accR mat ct k) (ct k) j)⟩]) (fun j=>mat - j) 0 (by omega) ?_ ?_
    · rw [upM_zero]
      exact Cut.fg (by simp (disch:=first | omega | simp (disch:=omega) only [aG,aM]) only [fZ,aM,fgl_nil,fgl_cons,or_true,true_or])
    rintro j hj
    have ul:=upM_len (accR mat ct k) (ct k) j
    have hcj : blkAt (H++[⟨0,ints (upM (accR mat ct k) (ct k) j)⟩]) (ad k).1 (ad k).2=some (ints (ct k)):=by rw [blkAt_app _ _ _ _ (blkAt_lt c1)]; exact c1
    by_cases hjt : j < mat
    · have e0 : (upM (accR mat ct k) (ct k) j).getD j 0=(accR mat ct k).getD j 0:=by rw [upM_get _ _ _ _ (by omega),if_neg (by omega)]
      have e1:=upM_set (accR mat ct k) (ct k) j (by omega)
      have b1:=accR_bd (n:=len) (fun q hq=>(hc q hq).2) k hk j
      have b2:=c2.2 j
      simp (disch:=((try simp only [lZ]); omega)) only [aZ,aM,hcj,e0,e1]
      refine ⟨j+1,by omega,by omega,?_⟩
      try simp (disch:=((try simp only [lZ]); omega)) only [aZ,aM]
      exact Cut.fg (by simp (disch:=first | omega | simp (disch:=omega) only [aG,aM]) only [fZ,aM,fgl_nil,fgl_cons,or_true,true_or])
    · have hje : j=mat:=by omega
      subst hje
      rw [upM_all _ _ _ (by omega)]
      simp (disch:=((try simp only [lZ]); omega)) only [aZ,aM]
      refine ⟨k+1,by omega,by omega,?_⟩
      try simp (disch:=((try simp only [lZ]); omega)) only [aZ,aM]
      exact Cut.fg (by simp (disch:=first | omega | simp (disch:=omega) only [aG,aM]) only [fZ,aM,fgl_nil,fgl_cons,or_true,true_or])
  · have hke : k=len:=by omega
    subst hke
    simp (disch:=((try simp only [lZ]); omega)) only [aZ,aM,r_belt_Belt_Total]
    exact post2 (R:=fun r H'=>_) ⟨rfl,rfl⟩
theorem btotal_nil {H : List Blk} : VR P false n_belt_Belt_Total [.v (.pointer none)] H (fun x H'=>x=nilS∧H'=H):=by
  refine vr_belt_Belt_Total (by simp) (.inl rfl) fun _ _=>?_
  simp (disch:=((try simp only [lZ]); omega)) only [aZ,aM,s_belt_Belt_Total,v_belt_Belt_Total,r_belt_Belt_Total]
  exact post2 (R:=fun r H'=>_) ⟨rfl,rfl⟩
end Go.Proofs.Ytcppaddgclkekaa
