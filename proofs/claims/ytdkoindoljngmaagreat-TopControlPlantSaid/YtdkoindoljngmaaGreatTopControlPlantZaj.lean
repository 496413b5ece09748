/- Lemmas and walks that the proof of TopControlPlant uses. No statement is claimed here. -/
import Derived.Test.YtdkoindoljngmaaGreatTopControlPlantZai
import Derived.Test.YtdkoindoljngmaaGreatChecked
import Derived.KernelRfl
namespace Go.Proofs.YtdkoindoljngmaaGreat
open Go Go.Lft
set_option maxRecDepth 100000
noncomputable abbrev P : Program:=Go.Proofs.Tryz.prog
theorem P_mixed : P.follows .mixedOrders=true:=by kernel_rfl
theorem vo {f : Nat} {fn : Func} {V : List Nat} {F : Fun} {nt : Nat} {s : S} (hf : P.funcs[f]?=some fn) (hc : compF P fn V false=some F) (hn : fn.ntmps=nt) (hb : F.body=s) : VRof P f s F V nt:=.of hb fun hl _ _ hs=>fn_of P_mixed hf hc (by rw [hn]; exact hl) hs
theorem vok {f : Nat} {fn : Func} {V : List Nat} {F : Fun} {nt : Nat} {s : S} (hf : P.funcs[f]?=some fn) (hc : compF P fn V true=some F) (hn : fn.ntmps=nt) (hb : F.body=s) : VRof P f s F V nt:=.of hb fun hl _ _ hs=>fn_of P_mixed hf hc (by rw [hn]; exact hl) hs
theorem vod {f g : Nat} {fn fg : Func} {V Vg : List Nat} {F : Fun} {nt : Nat} (hf : P.funcs[f]?=some fn) (hfg : P.funcs[g]?=some fg) (hc : compFD P fn fg Vg V g=some F) (hn : fn.ntmps=nt) {s : S} (hb : F.body=s) : VRof P f s F Vg nt:=.of hb fun hl _ _ hs=>fn_ofD P_mixed hf hfg hc (by rw [hn]; exact hl) hs
abbrev n_top_TopControlPlant : Nat:=4
def s_top_TopControlPlant : S :=
 (.eff false (some 4) (.box 25 (.var 0))
 (.set 3 (.lit (.bool false))
 (.chk (.ite (.ite (.ite (.b (.bin .gtr) (.u .len (.u .ld1 (.u (.fld 1) (.var 4)))) (.lit (.int .i64 10))) (.lit (.bool true)) (.b (.bin .gtr) (.u .len (.u .ld1 (.u (.fld 2) (.var 4)))) (.lit (.int .i64 20)))) (.lit (.bool true)) (.b (.bin .gtr) (.u .len (.var 2)) (.lit (.int .i64 10)))) (.lit undef) (.u (.lda 4) (.var 4)))
 (.seq
 (.ite (.ite (.ite (.b (.bin .gtr) (.u .len (.u .ld1 (.u (.fld 1) (.var 4)))) (.lit (.int .i64 10))) (.lit (.bool true)) (.b (.bin .gtr) (.u .len (.u .ld1 (.u (.fld 2) (.var 4)))) (.lit (.int .i64 20)))) (.lit (.bool true)) (.b (.bin .gtr) (.u .len (.var 2)) (.lit (.int .i64 10))))
 (.set 23 (.lit undef)
 (.ite (.lit (.bool true))
 (.call false (some 24) 12 .nl
 (.set 3 (.var 24)
 .ret))
 .nxt))
 (.call false (some 23) 6 (.cn (.u (.lda 4) (.var 4)) .nl)
 (.ite (.b (.bin .neq) (.var 23) (.lit (.int .i64 0)))
 (.call false (some 24) 12 .nl
 (.set 3 (.var 24)
 .ret))
 .nxt)))
 (.call false (some 25) 13 (.cn (.u (.lda 4) (.var 4)) .nl)
 (.chk (.u (.ext 0) (.var 25))
 (.chk (.u (.ext 1) (.var 25))
 (.set 5 (.u (.ext 0) (.var 25))
 (.set 6 (.u (.ext 1) (.var 25))
 (.call false (some 26) 8 (.cn (.u (.lda 4) (.var 4)) .nl)
 (.chk (.u (.ext 0) (.var 26))
 (.chk (.u (.ext 1) (.var 26))
 (.set 7 (.u (.ext 0) (.var 26))
 (.set 8 (.u (.ext 1) (.var 26))
 (.call false (some 27) 14 (.cn (.u (.lda 4) (.var 4)) .nl)
 (.chk (.u (.ext 0) (.var 27))
 (.chk (.u (.ext 1) (.var 27))
 (.set 9 (.u (.ext 0) (.var 27))
 (.set 10 (.u (.ext 1) (.var 27))
 (.seq
 (.ite (.ite (.ite (.ite (.ite (.b (.eqp false) (.var 5) (.lit (.pointer none))) (.lit (.bool true)) (.b (.eqp false) (.var 7) (.lit (.pointer none)))) (.lit (.bool true)) (.b (.bin .neq) (.var 6) (.lit (.int .i64 0)))) (.lit (.bool true)) (.b (.bin .neq) (.var 8) (.lit (.int .i64 0)))) (.lit (.bool true)) (.b (.bin .neq) (.var 10) (.lit (.int .i64 0))))
 (.set 3 (.lit (.bool false))
 .ret)
 .nxt)
 (.eff false (some 28) (.mk 3 1 8 [(.int .i64 0)] (.u .ld1 (.u (.fld 0) (.var 4))) (.u .ld1 (.u (.fld 0) (.var 4))))
 (.set 11 (.var 28)
 (.set 13 (.u .len (.var 11))
 (.set 12 (.lit (.int .i64 0))
 (.seq
 (.blk 0
 (.loop
 (.set 14 (.b (.bin .lss) (.var 12) (.var 13))
 (.seq
 (.ite (.var 14)
 .nxt
 (.exit 0))
 (.seq
 (.blk 1
 (.set 15 (.var 12)
 (.ite (.b (.bin .lss) (.var 15) (.u .len (.var 1)))
 (.eff false none (.st 1 (.b (.idx 1) (.var 11) (.var 15)) (.b .mx (.lit (.int .i64 0)) (.b .mn (.lit (.int .i64 9)) (.u .ld1 (.b (.idx 1) (.var 1) (.var 15))))))
 .nxt)
 .nxt)))
 (.set 12 (.b (.bin .add) (.var 12) (.lit (.int .i64 1)))
 .nxt))))))
 (.call false (some 29) 15 (.cn (.var 7) (.cn (.var 11) .nl))
 (.chk (.ite (.b (.bin .neq) (.var 29) (.lit (.int .i64 0))) (.lit undef) (.var 9))
 (.seq
 (.ite (.b (.bin .neq) (.var 29) (.lit (.int .i64 0)))
 (.set 36 (.lit undef)
 (.ite (.lit (.bool true))
 (.set 3 (.lit (.bool false))
 .ret)
 .nxt))
 (.call false (some 36) 16 (.cn (.var 5) (.cn (.var 9) .nl))
 (.ite (.u (.un .not) (.var 36))
 (.set 3 (.lit (.bool false))
 .ret)
 .nxt)))
 (.set 19 (.var 2)
 (.set 17 (.u .len (.var 19))
 (.set 16 (.lit (.int .i64 0))
 (.seq
 (.blk 2
 (.loop
 (.set 18 (.b (.bin .lss) (.var 16) (.var 17))
 (.seq
 (.ite (.var 18)
 .nxt
 (.exit 2))
 (.seq
 (.blk 3
 (.set 20 (.u .ld1 (.b (.idx 1) (.var 19) (.var 16)))
 (.call false (some 30) 17 (.cn (.var 5) (.cn (.var 20) .nl))
 (.chk (.ite (.b (.bin .eql) (.var 30) (.lit (.int .i64 0))) (.var 5) (.lit undef))
 (.seq
 (.ite (.b (.bin .eql) (.var 30) (.lit (.int .i64 0)))
 (.call false (some 37) 18 (.cn (.var 5) .nl)
 (.ite (.u (.un .not) (.var 37))
 (.set 3 (.lit (.bool false))
 .ret)
 .nxt))
 (.set 37 (.lit undef)
 (.ite (.lit (.bool false))
 (.set 3 (.lit (.bool false))
 .ret)
 .nxt)))
 (.call false (some 31) 19 (.cn (.u (.lda 4) (.var 4)) (.cn (.var 5) (.cn (.var 7) .nl)))
 (.chk (.ite (.u (.un .not) (.var 31)) (.lit undef) (.var 7))
 (.ite (.u (.un .not) (.var 31))
 (.set 38 (.lit undef)
 (.ite (.lit (.bool true))
 (.set 3 (.lit (.bool false))
 .ret)
 .nxt))
 (.call false (some 38) 20 (.cn (.var 7) (.cn (.lit (.int .i64 5)) .nl))
 (.ite (.b (.bin .neq) (.var 38) (.lit (.int .i64 0)))
 (.set 3 (.lit (.bool false))
 .ret)
 .nxt))))))))))
 (.set 16 (.b (.bin .add) (.var 16) (.lit (.int .i64 1)))
 .nxt))))))
 (.call false (some 32) 16 (.cn (.var 5) (.cn (.var 9) .nl))
 (.chk (.ite (.u (.un .not) (.var 32)) (.lit undef) (.u (.lda 4) (.var 4)))
 (.chk (.ite (.u (.un .not) (.var 32)) (.lit undef) (.var 7))
 (.seq
 (.ite (.u (.un .not) (.var 32))
 (.set 39 (.lit undef)
 (.ite (.lit (.bool true))
 (.set 3 (.lit (.bool false))
 .ret)
 .nxt))
 (.call false (some 39) 19 (.cn (.u (.lda 4) (.var 4)) (.cn (.var 5) (.cn (.var 7) .nl)))
 (.ite (.u (.un .not) (.var 39))
 (.set 3 (.lit (.bool false))
 .ret)
 .nxt)))
 (.seq
 (.both
 (.set 40 (.u (.lda 4) (.var 4))
 (.call false (some 33) 23 (.cn (.var 7) .nl)
 (.call false (some 41) 22 (.cn (.var 33) .nl)
 (.call false (some 43) 21 (.cn (.var 40) (.cn (.var 41) .nl))
 (.chk (.u (.ext 0) (.var 43))
 (.chk (.u (.ext 1) (.var 43))
 (.set 21 (.u (.ext 0) (.var 43))
 (.set 22 (.u (.ext 1) (.var 43))
 .nxt))))))))
 (.both
 (.call false (some 33) 23 (.cn (.var 7) .nl)
 (.set 40 (.u (.lda 4) (.var 4))
 (.call false (some 41) 22 (.cn (.var 33) .nl)
 (.call false (some 43) 21 (.cn (.var 40) (.cn (.var 41) .nl))
 (.chk (.u (.ext 0) (.var 43))
 (.chk (.u (.ext 1) (.var 43))
 (.set 21 (.u (.ext 0) (.var 43))
 (.set 22 (.u (.ext 1) (.var 43))
 .nxt))))))))
 (.call false (some 33) 23 (.cn (.var 7) .nl)
 (.call false (some 41) 22 (.cn (.var 33) .nl)
 (.set 40 (.u (.lda 4) (.var 4))
 (.call false (some 43) 21 (.cn (.var 40) (.cn (.var 41) .nl))
 (.chk (.u (.ext 0) (.var 43))
 (.chk (.u (.ext 1) (.var 43))
 (.set 21 (.u (.ext 0) (.var 43))
 (.set 22 (.u (.ext 1) (.var 43))
 .nxt))))))))))
 (.seq
 (.ite (.ite (.b (.bin .neq) (.var 22) (.lit (.int .i64 0))) (.lit (.bool true)) (.b (.bin .gtr) (.var 21) (.lit (.int .i64 2000))))
 (.seq
 (.ite (.b (.bin .eql) (.var 22) (.lit (.int .i64 0)))
 (.call false (some 34) 12 .nl
 (.set 3 (.var 34)
 .nxt))
 (.set 34 (.lit undef)
 (.set 3 (.lit (.bool false))
 .nxt)))
 .ret)
 .nxt)
 (.call false (some 35) 20 (.cn (.var 7) (.cn (.var 21) .nl))
 (.chk (.ite (.b (.bin .eql) (.var 35) (.lit (.int .i64 0))) (.var 7) (.lit undef))
 (.seq
 (.ite (.b (.bin .eql) (.var 35) (.lit (.int .i64 0)))
 (.call false (some 42) 23 (.cn (.var 7) .nl)
 (.call false (some 44) 22 (.cn (.var 42) .nl)
 (.ite (.b (.bin .eql) (.var 44) (.lit (.int .i64 0)))
 (.call false (some 45) 12 .nl
 (.set 3 (.var 45)
 .nxt))
 (.set 45 (.lit undef)
 (.set 3 (.lit (.bool false))
 .nxt)))))
 (.set 42 (.lit undef)
 (.set 44 (.lit undef)
 (.set 45 (.lit undef)
 (.set 3 (.lit (.bool false))
 .nxt)))))
 .ret)))))))))))))))))))))))))))))))))))))))))
def f_top_TopControlPlant : Fun:=⟨s_top_TopControlPlant,[(.var 3)]⟩
abbrev v_top_TopControlPlant : List Nat:=[0,1,2,6,3,7,8,9,10,11,12,13,78,77,79,14,107,106,108,105,16,17,18,36,39,42,47,52,75,97,113,123,133,145,159,163,102,117,127,139,143,146,167,147,168,172]
theorem vr_top_TopControlPlant : VRof P n_top_TopControlPlant s_top_TopControlPlant f_top_TopControlPlant v_top_TopControlPlant 174:=vok Tryz.func4 (by kernel_rfl) Tryz.ntmps4 rfl
theorem r_top_TopControlPlant : Fun.res f_top_TopControlPlant=[(.var 3)]:=rfl
abbrev g_top_TopControlPlant_0 : List Nat:=[12,14,15]
abbrev g_top_TopControlPlant_1 : List Nat:=[3,16,18,20,30,31,37,38]
abbrev n_ref35_Check : Nat:=6
def s_ref35_Check : S :=
 (.eff false (some 2) (.box 25 (.var 0))
 (.set 1 (.lit (.int .i64 0))
 (.call false (some 6) 24 (.cn (.u (.lda 4) (.var 2)) .nl)
 (.set 3 (.var 6)
 (.seq
 (.ite (.b (.bin .neq) (.var 3) (.lit (.int .i64 0)))
 (.set 1 (.var 3)
 .ret)
 .nxt)
 (.call false (some 7) 25 (.cn (.u (.lda 4) (.var 2)) .nl)
 (.chk (.u (.ext 0) (.var 7))
 (.chk (.u (.ext 1) (.var 7))
 (.set 4 (.u (.ext 0) (.var 7))
 (.set 5 (.u (.ext 1) (.var 7))
 (.seq
 (.ite (.u (.un .not) (.var 4))
 (.set 1 (.lit (.int .i64 23))
 .ret)
 .nxt)
 (.set 1 (.lit (.int .i64 0))
 .ret))))))))))))
def f_ref35_Check : Fun:=⟨s_ref35_Check,[(.var 1)]⟩
abbrev v_ref35_Check : List Nat:=[0,2,1,3,4,5,7,13]
theorem vr_ref35_Check : VRof P n_ref35_Check s_ref35_Check f_ref35_Check v_ref35_Check 18:=vo Tryz.func6 (by kernel_rfl) Tryz.ntmps6 rfl
theorem r_ref35_Check : Fun.res f_ref35_Check=[(.var 1)]:=rfl
abbrev n_plant_New : Nat:=8
def s_plant_New : S :=
 (.eff false (some 3) (.box 25 (.var 0))
 (.set 1 (.lit (.pointer none))
 (.set 2 (.lit (.int .i64 0))
 (.call false (some 15) 28 (.cn (.u (.lda 4) (.var 3)) .nl)
 (.set 4 (.var 15)
 (.seq
 (.ite (.b (.bin .neq) (.var 4) (.lit (.int .i64 0)))
 (.set 1 (.lit (.pointer none))
 (.set 2 (.var 4)
 .ret))
 .nxt)
 (.seq
 (.both
 (.chk (.u (.lda 4) (.var 3))
 (.set 18 (.u .len (.u .ld1 (.u (.fld 1) (.var 3))))
 (.eff false (some 17) (.mk 4 1 1 [(.bool false)] (.var 18) (.var 18))
 (.call false (some 16) 29 (.cn (.u (.lda 4) (.var 3)) .nl)
 (.chk (.bld [(.int .i64 0),(.slice none 0 0),(.slice none 0 0),(.int .i64 0),(.slice none 0 0),(.slice none 0 0),(.slice none 0 0),(.slice none 0 0)] (.pl 0 4 (.var 16) (.pl 6 1 (.var 17) .nl)))
 (.chk (.bld [(.int .i64 0),(.slice none 0 0),(.slice none 0 0),(.int .i64 0),(.slice none 0 0),(.slice none 0 0),(.slice none 0 0),(.slice none 0 0)] (.pl 0 8 (.bld [(.int .i64 0),(.slice none 0 0),(.slice none 0 0),(.int .i64 0),(.slice none 0 0),(.slice none 0 0),(.slice none 0 0),(.slice none 0 0)] (.pl 0 4 (.var 16) (.pl 6 1 (.var 17) .nl))) .nl))
 (.eff false (some 24) (.box 72 (.bld [(.int .i64 0),(.slice none 0 0),(.slice none 0 0),(.int .i64 0),(.slice none 0 0),(.slice none 0 0),(.slice none 0 0),(.slice none 0 0)] (.pl 0 8 (.bld [(.int .i64 0),(.slice none 0 0),(.slice none 0 0),(.int .i64 0),(.slice none 0 0),(.slice none 0 0),(.slice none 0 0),(.slice none 0 0)] (.pl 0 4 (.var 16) (.pl 6 1 (.var 17) .nl))) .nl)))
 (.set 5 (.var 24)
 .nxt))))))))
 (.chk (.u (.lda 4) (.var 3))
 (.set 18 (.u .len (.u .ld1 (.u (.fld 1) (.var 3))))
 (.call true (some 16) 29 (.cn (.u (.lda 4) (.var 3)) .nl)
 (.eff false (some 17) (.mk 4 1 1 [(.bool false)] (.var 18) (.var 18))
 (.chk (.bld [(.int .i64 0),(.slice none 0 0),(.slice none 0 0),(.int .i64 0),(.slice none 0 0),(.slice none 0 0),(.slice none 0 0),(.slice none 0 0)] (.pl 0 4 (.var 16) (.pl 6 1 (.var 17) .nl)))
 (.chk (.bld [(.int .i64 0),(.slice none 0 0),(.slice none 0 0),(.int .i64 0),(.slice none 0 0),(.slice none 0 0),(.slice none 0 0),(.slice none 0 0)] (.pl 0 8 (.bld [(.int .i64 0),(.slice none 0 0),(.slice none 0 0),(.int .i64 0),(.slice none 0 0),(.slice none 0 0),(.slice none 0 0),(.slice none 0 0)] (.pl 0 4 (.var 16) (.pl 6 1 (.var 17) .nl))) .nl))
 (.eff false (some 24) (.box 72 (.bld [(.int .i64 0),(.slice none 0 0),(.slice none 0 0),(.int .i64 0),(.slice none 0 0),(.slice none 0 0),(.slice none 0 0),(.slice none 0 0)] (.pl 0 8 (.bld [(.int .i64 0),(.slice none 0 0),(.slice none 0 0),(.int .i64 0),(.slice none 0 0),(.slice none 0 0),(.slice none 0 0),(.slice none 0 0)] (.pl 0 4 (.var 16) (.pl 6 1 (.var 17) .nl))) .nl)))
 (.set 5 (.var 24)
 .nxt)))))))))
 (.call false (some 19) 30 (.cn (.u (.fld 0) (.u .nilc (.var 5))) .nl)
 (.eff false none (.st 1 (.u (.fld 7) (.u (.fld 0) (.u .nilc (.var 5)))) (.var 19))
 (.set 7 (.u .len (.u .ld1 (.u (.fld 1) (.var 3))))
 (.set 6 (.lit (.int .i64 0))
 (.seq
 (.blk 0
 (.loop
 (.set 8 (.b (.bin .lss) (.var 6) (.var 7))
 (.seq
 (.ite (.var 8)
 .nxt
 (.exit 0))
 (.seq
 (.blk 1
 (.set 25 (.u .ld1 (.u (.fld 4) (.u (.fld 0) (.u .nilc (.var 5)))))
 (.call true (some 20) 30 (.cn (.u (.fld 0) (.u .nilc (.var 5))) .nl)
 (.eff false (some 26) (.lit 38 1 1 [(.slice none 0 0)] (.pl 0 1 (.var 20) .nl))
 (.eff false (some 28) (.app 38 1 24 [(.slice none 0 0)] (.var 25) (.var 26))
 (.eff false none (.st 1 (.u (.fld 4) (.u (.fld 0) (.u .nilc (.var 5)))) (.var 28))
 .nxt))))))
 (.set 6 (.b (.bin .add) (.var 6) (.lit (.int .i64 1)))
 .nxt))))))
 (.set 12 (.u .ld1 (.u (.fld 2) (.var 3)))
 (.set 10 (.u .len (.var 12))
 (.set 9 (.lit (.int .i64 0))
 (.seq
 (.blk 2
 (.loop
 (.set 11 (.b (.bin .lss) (.var 9) (.var 10))
 (.seq
 (.ite (.var 11)
 .nxt
 (.exit 2))
 (.seq
 (.blk 3
 (.chk (.u (.lda 4) (.b (.idx 4) (.var 12) (.var 9)))
 (.eff false (some 13) (.alloc 74 [(.int .i64 0),(.int .i64 0),(.int .i64 0),(.int .i64 0)])
 (.eff false none (.st 4 (.var 13) (.u (.lda 4) (.b (.idx 4) (.var 12) (.var 9))))
 (.call false (some 21) 30 (.cn (.u (.fld 0) (.u .nilc (.var 5))) .nl)
 (.chk (.bld [(.slice none 0 0),(.pointer none)] (.pl 0 1 (.var 21) .nl))
 (.eff false (some 14) (.alloc 77 [(.slice none 0 0),(.pointer none)])
 (.eff false none (.st 2 (.var 14) (.bld [(.slice none 0 0),(.pointer none)] (.pl 0 1 (.var 21) .nl)))
 (.seq
 (.ite (.b (.bin .gtr) (.u .ld1 (.u (.fld 3) (.var 13))) (.lit (.int .i64 1)))
 (.call false (some 22) 31 (.cn (.b (.bin .sub) (.u .ld1 (.u (.fld 3) (.var 13))) (.lit (.int .i64 1))) (.cn (.u .ld1 (.u (.fld 0) (.var 3))) .nl))
 (.chk (.u (.ext 0) (.var 22))
 (.chk (.u (.ext 1) (.var 22))
 (.eff false none (.st 1 (.u (.fld 1) (.var 14)) (.u (.ext 0) (.var 22)))
 .nxt))))
 .nxt)
 (.chk (.u .ld1 (.u (.fld 5) (.u (.fld 0) (.u .nilc (.var 5)))))
 (.eff false (some 23) (.lit 77 2 1 [(.slice none 0 0),(.pointer none)] (.pl 0 2 (.u (.lda 2) (.var 14)) .nl))
 (.eff false (some 27) (.app 77 2 32 [(.slice none 0 0),(.pointer none)] (.u .ld1 (.u (.fld 5) (.u (.fld 0) (.u .nilc (.var 5))))) (.var 23))
 (.eff false none (.st 1 (.u (.fld 5) (.u (.fld 0) (.u .nilc (.var 5)))) (.var 27))
 .nxt)))))))))))))
 (.set 9 (.b (.bin .add) (.var 9) (.lit (.int .i64 1)))
 .nxt))))))
 (.set 1 (.var 5)
 (.set 2 (.lit (.int .i64 0))
 .ret))))))))))))))))))
def f_plant_New : Fun:=⟨s_plant_New,[(.var 1),(.var 2)]⟩
abbrev v_plant_New : List Nat:=[0,2,3,1,4,5,34,33,35,55,54,56,53,7,8,10,15,19,18,27,45,62,73,84,22,41,46,85,47]
theorem vr_plant_New : VRof P n_plant_New s_plant_New f_plant_New v_plant_New 91:=vo Tryz.func8 (by kernel_rfl) Tryz.ntmps8 rfl
theorem r_plant_New : Fun.res f_plant_New=[(.var 1),(.var 2)]:=rfl
abbrev g_plant_New_0 : List Nat:=[6,8,20,25,26,28]
abbrev g_plant_New_1 : List Nat:=[9,11,13,14,21,22,23,27]
abbrev n_top_awake36 : Nat:=12
def s_top_awake36 : S :=
 (.set 0 (.lit (.bool false))
 (.eff false (some 3) (.lit 3 1 1 [(.int .i64 0)] (.pl 0 1 (.lit (.int .i64 1000)) .nl))
 (.eff false (some 5) (.lit 37 1 1 [(.slice none 0 0)] (.pl 0 1 (.var 3) .nl))
 (.chk (.bld [(.slice none 0 0)] (.pl 0 1 (.var 5) .nl))
 (.eff false (some 7) (.lit 3 1 0 [(.int .i64 0)] .nl)
 (.eff false (some 9) (.lit 37 1 1 [(.slice none 0 0)] (.pl 0 1 (.var 7) .nl))
 (.chk (.bld [(.slice none 0 0)] (.pl 0 1 (.var 9) .nl))
 (.eff false (some 11) (.lit 93 1 2 [(.slice none 0 0)] (.pl 0 1 (.bld [(.slice none 0 0)] (.pl 0 1 (.var 5) .nl)) (.pl 1 1 (.bld [(.slice none 0 0)] (.pl 0 1 (.var 9) .nl)) .nl)))
 (.chk (.bld [(.int .i64 0),(.int .i64 0),(.int .i64 0),(.int .i64 0)] (.pl 2 1 (.lit (.int .i64 1)) (.pl 3 1 (.lit (.int .i64 1)) .nl)))
 (.eff false (some 12) (.lit 74 4 1 [(.int .i64 0),(.int .i64 0),(.int .i64 0),(.int .i64 0)] (.pl 0 4 (.bld [(.int .i64 0),(.int .i64 0),(.int .i64 0),(.int .i64 0)] (.pl 2 1 (.lit (.int .i64 1)) (.pl 3 1 (.lit (.int .i64 1)) .nl))) .nl))
 (.chk (.bld [(.int .i64 0),(.slice none 0 0),(.slice none 0 0),(.int .i64 0)] (.pl 0 1 (.lit (.int .i64 1)) (.pl 1 1 (.var 11) (.pl 2 1 (.var 12) .nl))))
 (.call false (some 13) 13 (.cn (.bld [(.int .i64 0),(.slice none 0 0),(.slice none 0 0),(.int .i64 0)] (.pl 0 1 (.lit (.int .i64 1)) (.pl 1 1 (.var 11) (.pl 2 1 (.var 12) .nl)))) .nl)
 (.chk (.u (.ext 0) (.var 13))
 (.chk (.u (.ext 1) (.var 13))
 (.set 1 (.u (.ext 0) (.var 13))
 (.set 2 (.u (.ext 1) (.var 13))
 (.chk (.ite (.ite (.b (.eqp true) (.var 1) (.lit (.pointer none))) (.b (.bin .eql) (.var 2) (.lit (.int .i64 0))) (.lit (.bool false))) (.var 1) (.lit undef))
 (.seq
 (.ite (.ite (.b (.eqp true) (.var 1) (.lit (.pointer none))) (.b (.bin .eql) (.var 2) (.lit (.int .i64 0))) (.lit (.bool false)))
 (.call false (some 4) 44 (.cn (.var 1) (.cn (.lit (.int .i64 0)) .nl))
 (.chk (.ite (.b (.bin .eql) (.var 4) (.lit (.int .i64 13))) (.var 1) (.lit undef))
 (.ite (.b (.bin .eql) (.var 4) (.lit (.int .i64 13)))
 (.call false (some 6) 44 (.cn (.var 1) (.cn (.lit (.int .i64 1)) .nl))
 (.chk (.ite (.b (.bin .eql) (.var 6) (.lit (.int .i64 0))) (.var 1) (.lit undef))
 (.ite (.b (.bin .eql) (.var 6) (.lit (.int .i64 0)))
 (.call false (some 8) 44 (.cn (.var 1) (.cn (.lit (.int .i64 0)) .nl))
 (.chk (.ite (.b (.bin .eql) (.var 8) (.lit (.int .i64 0))) (.var 1) (.lit undef))
 (.ite (.b (.bin .eql) (.var 8) (.lit (.int .i64 0)))
 (.call false (some 10) 18 (.cn (.var 1) .nl)
 (.set 0 (.var 10)
 .nxt))
 (.set 10 (.lit undef)
 (.set 0 (.lit (.bool false))
 .nxt)))))
 (.set 8 (.lit undef)
 (.set 10 (.lit undef)
 (.set 0 (.lit (.bool false))
 .nxt))))))
 (.set 6 (.lit undef)
 (.set 8 (.lit undef)
 (.set 10 (.lit undef)
 (.set 0 (.lit (.bool false))
 .nxt)))))))
 (.set 4 (.lit undef)
 (.set 6 (.lit undef)
 (.set 8 (.lit undef)
 (.set 10 (.lit undef)
 (.set 0 (.lit (.bool false))
 .nxt))))))
 .ret))))))))))))))))))
def f_top_awake36 : Fun:=⟨s_top_awake36,[(.var 0)]⟩
abbrev v_top_awake36 : List Nat:=[0,1,2,4,25,5,30,7,35,8,40,10,12,14]
theorem r_top_awake36 : Fun.res f_top_awake36=[(.var 0)]:=rfl
abbrev n_control_New : Nat:=13
def s_control_New : S :=
 (.eff false (some 3) (.box 25 (.var 0))
 (.set 1 (.lit (.pointer none))
 (.set 2 (.lit (.int .i64 0))
 (.call false (some 8) 45 (.cn (.u (.lda 4) (.var 3)) .nl)
 (.chk (.u (.ext 0) (.var 8))
 (.chk (.u (.ext 1) (.var 8))
 (.chk (.u (.ext 2) (.var 8))
 (.chk (.u (.ext 3) (.var 8))
 (.eff false (some 7) (.alloc 96 [(.int .i64 0),(.slice none 0 0)])
 (.eff false none (.st 2 (.var 7) (.u (.ext 0) (.var 8)))
 (.set 4 (.u (.ext 1) (.var 8))
 (.set 5 (.u (.ext 2) (.var 8))
 (.set 6 (.u (.ext 3) (.var 8))
 (.seq
 (.ite (.b (.bin .neq) (.var 6) (.lit (.int .i64 0)))
 (.set 1 (.lit (.pointer none))
 (.set 2 (.var 6)
 .ret))
 .nxt)
 (.chk (.u (.lda 2) (.var 7))
 (.eff false (some 9) (.mk 3 1 8 [(.int .i64 0)] (.u .ld1 (.u (.fld 0) (.var 7))) (.u .ld1 (.u (.fld 0) (.var 7))))
 (.chk (.bld [(.int .i64 0),(.slice none 0 0),(.slice none 0 0),(.slice none 0 0),(.slice none 0 0)] (.pl 0 2 (.u (.lda 2) (.var 7)) (.pl 2 1 (.var 4) (.pl 3 1 (.var 5) (.pl 4 1 (.var 9) .nl)))))
 (.eff false (some 10) (.box 100 (.bld [(.int .i64 0),(.slice none 0 0),(.slice none 0 0),(.slice none 0 0),(.slice none 0 0)] (.pl 0 2 (.u (.lda 2) (.var 7)) (.pl 2 1 (.var 4) (.pl 3 1 (.var 5) (.pl 4 1 (.var 9) .nl))))))
 (.set 1 (.var 10)
 (.set 2 (.lit (.int .i64 0))
 .ret))))))))))))))))))))
def f_control_New : Fun:=⟨s_control_New,[(.var 1),(.var 2)]⟩
abbrev v_control_New : List Nat:=[0,2,3,1,5,6,7,4,10,23,25]
theorem vr_control_New : VRof P n_control_New s_control_New f_control_New v_control_New 26:=vo Tryz.func13 (by kernel_rfl) Tryz.ntmps13 rfl
theorem r_control_New : Fun.res f_control_New=[(.var 1),(.var 2)]:=rfl
abbrev n_control_Order : Nat:=14
def s_control_Order : S :=
 (.eff false (some 3) (.box 25 (.var 0))
 (.set 1 (.lit (.slice none 0 0))
 (.set 2 (.lit (.int .i64 0))
 (.call false (some 12) 45 (.cn (.u (.lda 4) (.var 3)) .nl)
 (.chk (.u (.ext 0) (.var 12))
 (.chk (.u (.ext 1) (.var 12))
 (.chk (.u (.ext 2) (.var 12))
 (.chk (.u (.ext 3) (.var 12))
 (.eff false (some 7) (.alloc 96 [(.int .i64 0),(.slice none 0 0)])
 (.eff false (some 5) (.alloc 50 [(.slice none 0 0)])
 (.eff false (some 8) (.alloc 37 [(.slice none 0 0)])
 (.eff false none (.st 2 (.var 7) (.u (.ext 0) (.var 12)))
 (.eff false none (.st 1 (.var 5) (.u (.ext 1) (.var 12)))
 (.eff false none (.st 1 (.var 8) (.u (.ext 2) (.var 12)))
 (.set 4 (.u (.ext 3) (.var 12))
 (.seq
 (.ite (.b (.bin .neq) (.var 4) (.lit (.int .i64 0)))
 (.set 1 (.lit (.slice none 0 0))
 (.set 2 (.var 4)
 .ret))
 .nxt)
 (.eff false (some 13) (.mk 4 1 1 [(.bool false)] (.u .len (.u .ld1 (.var 5))) (.u .len (.u .ld1 (.var 5))))
 (.eff false (some 6) (.alloc 36 [(.slice none 0 0)])
 (.eff false none (.st 1 (.var 6) (.var 13))
 (.chk (.fn 46 (.cn (.var 5) (.cn (.var 6) (.cn (.var 7) (.cn (.var 8) .nl)))))
 (.set 9 (.fn 46 (.cn (.var 5) (.cn (.var 6) (.cn (.var 7) (.cn (.var 8) .nl)))))
 (.set 10 (.lit (.slice none 0 0))
 (.callv false (some 14) (.var 9) .nl
 (.set 11 (.var 14)
 (.seq
 (.blk 0
 (.loop
 (.seq
 (.ite (.b (.bin .geq) (.var 11) (.lit (.int .i64 0)))
 .nxt
 (.exit 0))
 (.seq
 (.blk 1
 (.eff false none (.st 1 (.b (.idx 1) (.u .ld1 (.var 6)) (.var 11)) (.lit (.bool true)))
 (.eff false (some 15) (.lit 37 1 1 [(.slice none 0 0)] (.pl 0 1 (.u .ld1 (.b (.idx 1) (.u .ld1 (.var 5)) (.var 11))) .nl))
 (.eff false (some 17) (.app 37 1 24 [(.slice none 0 0)] (.var 10) (.var 15))
 (.set 10 (.var 17)
 .nxt)))))
 (.callv false (some 16) (.var 9) .nl
 (.set 11 (.var 16)
 .nxt))))))
 (.set 1 (.var 10)
 (.set 2 (.lit (.int .i64 0))
 .ret)))))))))))))))))))))))))))
def f_control_Order : Fun:=⟨s_control_Order,[(.var 1),(.var 2)]⟩
abbrev v_control_Order : List Nat:=[0,2,3,1,7,5,8,4,6,9,10,11,14,24,27,40,31,41]
theorem vr_control_Order : VRof P n_control_Order s_control_Order f_control_Order v_control_Order 43:=vo Tryz.func14 (by kernel_rfl) Tryz.ntmps14 rfl
theorem r_control_Order : Fun.res f_control_Order=[(.var 1),(.var 2)]:=rfl
abbrev g_control_Order_0 : List Nat:=[10,11,15,16,17]
abbrev n_plant_Plant_Feed : Nat:=15
def s_plant_Plant_Feed : S :=
 (.set 2 (.lit (.int .i64 0))
 (.seq
 (.ite (.b (.eqp false) (.var 0) (.lit (.pointer none)))
 (.set 2 (.lit (.int .i64 14))
 .ret)
 .nxt)
 (.call false (some 4) 47 (.cn (.u (.fld 0) (.u .nilc (.var 0))) (.cn (.var 1) .nl))
 (.set 3 (.var 4)
 (.seq
 (.ite (.b (.bin .neq) (.var 3) (.lit (.int .i64 0)))
 (.set 2 (.var 3)
 .ret)
 .nxt)
 (.call false none 48 (.cn (.u .ld1 (.u (.fld 7) (.u (.fld 0) (.u .nilc (.var 0))))) (.cn (.var 1) .nl))
 (.call false none 48 (.cn (.u .ld1 (.b (.idx 1) (.u .ld1 (.u (.fld 4) (.u (.fld 0) (.u .nilc (.var 0))))) (.u .ld1 (.u (.fld 3) (.u (.fld 0) (.u (.fld 0) (.u .nilc (.var 0)))))))) (.cn (.var 1) .nl))
 (.set 2 (.lit (.int .i64 0))
 .ret))))))))
def f_plant_Plant_Feed : Fun:=⟨s_plant_Plant_Feed,[(.var 2)]⟩
abbrev v_plant_Plant_Feed : List Nat:=[0,1,4,5,12]
theorem vr_plant_Plant_Feed : VRof P n_plant_Plant_Feed s_plant_Plant_Feed f_plant_Plant_Feed v_plant_Plant_Feed 38:=vo Tryz.func15 (by kernel_rfl) Tryz.ntmps15 rfl
theorem r_plant_Plant_Feed : Fun.res f_plant_Plant_Feed=[(.var 2)]:=rfl
abbrev n_top_start : Nat:=16
def s_top_start : S :=
 (.set 2 (.lit (.bool false))
 (.set 6 (.var 1)
 (.set 4 (.u .len (.var 6))
 (.set 3 (.lit (.int .i64 0))
 (.seq
 (.blk 0
 (.loop
 (.set 5 (.b (.bin .lss) (.var 3) (.var 4))
 (.seq
 (.ite (.var 5)
 .nxt
 (.exit 0))
 (.seq
 (.blk 1
 (.set 7 (.u .ld1 (.b (.idx 1) (.var 6) (.var 3)))
 (.chk (.ite (.b (.bin .eql) (.u .len (.var 7)) (.lit (.int .i64 0))) (.lit undef) (.u .ld1 (.b (.idx 1) (.var 7) (.lit (.int .i64 0)))))
 (.ite (.b (.bin .eql) (.u .len (.var 7)) (.lit (.int .i64 0)))
 (.set 8 (.lit undef)
 (.set 9 (.lit undef)
 (.ite (.lit (.bool true))
 (.set 2 (.lit (.bool false))
 .ret)
 .nxt)))
 (.call false (some 8) 44 (.cn (.var 0) (.cn (.u .ld1 (.b (.idx 1) (.var 7) (.lit (.int .i64 0)))) .nl))
 (.chk (.ite (.b (.bin .neq) (.var 8) (.lit (.int .i64 0))) (.lit undef) (.var 0))
 (.ite (.b (.bin .neq) (.var 8) (.lit (.int .i64 0)))
 (.set 9 (.lit undef)
 (.ite (.lit (.bool true))
 (.set 2 (.lit (.bool false))
 .ret)
 .nxt))
 (.call false (some 9) 18 (.cn (.var 0) .nl)
 (.ite (.u (.un .not) (.var 9))
 (.set 2 (.lit (.bool false))
 .ret)
 .nxt)))))))))
 (.set 3 (.b (.bin .add) (.var 3) (.lit (.int .i64 1)))
 .nxt))))))
 (.set 2 (.lit (.bool true))
 .ret))))))
def f_top_start : Fun:=⟨s_top_start,[(.var 2)]⟩
abbrev v_top_start : List Nat:=[0,1,4,9,8,10,7,6,21,26]
theorem vr_top_start : VRof P n_top_start s_top_start f_top_start v_top_start 30:=vo Tryz.func16 (by kernel_rfl) Tryz.ntmps16 rfl
theorem r_top_start : Fun.res f_top_start=[(.var 2)]:=rfl
abbrev g_top_start_0 : List Nat:=[2,3,5,7,8,9]
abbrev n_control_Panel_Stop : Nat:=17
def s_control_Panel_Stop : S :=
 (.set 2 (.lit (.int .i64 0))
 (.call false (some 12) 49 (.cn (.var 0) (.cn (.var 1) .nl))
 (.set 3 (.var 12)
 (.seq
 (.ite (.b (.bin .neq) (.var 3) (.lit (.int .i64 0)))
 (.set 2 (.var 3)
 .ret)
 .nxt)
 (.call false (some 13) 50 (.cn (.u (.lda 2) (.u (.fld 0) (.u .nilc (.var 0)))) (.cn (.var 1) .nl))
 (.chk (.u (.ext 0) (.var 13))
 (.chk (.u (.ext 1) (.var 13))
 (.set 4 (.u (.ext 0) (.var 13))
 (.set 5 (.u (.ext 1) (.var 13))
 (.seq
 (.ite (.b (.bin .neq) (.var 5) (.lit (.int .i64 0)))
 (.set 2 (.var 5)
 .ret)
 .nxt)
 (.set 9 (.var 4)
 (.set 7 (.u .len (.var 9))
 (.set 6 (.lit (.int .i64 0))
 (.seq
 (.blk 0
 (.loop
 (.set 8 (.b (.bin .lss) (.var 6) (.var 7))
 (.seq
 (.ite (.var 8)
 .nxt
 (.exit 0))
 (.seq
 (.blk 1
 (.chk (.u .ld1 (.b (.idx 1) (.var 9) (.var 6)))
 (.set 10 (.var 6)
 (.set 11 (.u .ld1 (.b (.idx 1) (.var 9) (.var 6)))
 (.ite (.var 11)
 (.set 14 (.u .ld1 (.u (.fld 4) (.u .nilc (.var 0))))
 (.call true (some 15) 51 (.cn (.u .ld1 (.b (.idx 1) (.u .ld1 (.u (.fld 4) (.u .nilc (.var 0)))) (.var 10))) .nl)
 (.eff false none (.st 1 (.b (.idx 1) (.var 14) (.var 10)) (.var 15))
 .nxt)))
 .nxt)))))
 (.set 6 (.b (.bin .add) (.var 6) (.lit (.int .i64 1)))
 .nxt))))))
 (.set 2 (.lit (.int .i64 0))
 .ret)))))))))))))))
def f_control_Panel_Stop : Fun:=⟨s_control_Panel_Stop,[(.var 2)]⟩
abbrev v_control_Panel_Stop : List Nat:=[0,1,4,5,6,7,30,29,31,28,8,9,12,22,39,48]
theorem vr_control_Panel_Stop : VRof P n_control_Panel_Stop s_control_Panel_Stop f_control_Panel_Stop v_control_Panel_Stop 51:=vo Tryz.func17 (by kernel_rfl) Tryz.ntmps17 rfl
theorem r_control_Panel_Stop : Fun.res f_control_Panel_Stop=[(.var 2)]:=rfl
abbrev g_control_Panel_Stop_0 : List Nat:=[6,8,10,11,14,15]
abbrev n_control_Panel_Safe : Nat:=18
def s_control_Panel_Safe : S :=
 (.eff false (some 2) (.box 47 (.var 0))
 (.set 1 (.lit (.bool false))
 (.seq
 (.ite (.b (.eqp false) (.u .ld1 (.var 2)) (.lit (.pointer none)))
 (.set 1 (.lit (.bool false))
 .ret)
 .nxt)
 (.chk (.u .ld1 (.u (.fld 1) (.u (.fld 0) (.u .nilc (.u .ld1 (.var 2))))))
 (.chk (.fn 53 (.cn (.var 2) .nl))
 (.call false (some 3) 52 (.cn (.u .ld1 (.u (.fld 1) (.u (.fld 0) (.u .nilc (.u .ld1 (.var 2)))))) (.cn (.fn 53 (.cn (.var 2) .nl)) .nl))
 (.set 1 (.u (.un .not) (.var 3))
 .ret)))))))
def f_control_Panel_Safe : Fun:=⟨s_control_Panel_Safe,[(.var 1)]⟩
abbrev v_control_Panel_Safe : List Nat:=[0,2,1,11]
theorem vr_control_Panel_Safe : VRof P n_control_Panel_Safe s_control_Panel_Safe f_control_Panel_Safe v_control_Panel_Safe 13:=vo Tryz.func18 (by kernel_rfl) Tryz.ntmps18 rfl
theorem r_control_Panel_Safe : Fun.res f_control_Panel_Safe=[(.var 1)]:=rfl
abbrev n_top_follows : Nat:=19
def s_top_follows : S :=
 (.eff false (some 4) (.box 25 (.var 0))
 (.set 3 (.lit (.bool false))
 (.set 6 (.u .len (.u .ld1 (.u (.fld 1) (.var 4))))
 (.set 5 (.lit (.int .i64 0))
 (.seq
 (.blk 0
 (.loop
 (.set 7 (.b (.bin .lss) (.var 5) (.var 6))
 (.seq
 (.ite (.var 7)
 .nxt
 (.exit 0))
 (.seq
 (.blk 1
 (.set 8 (.var 5)
 (.call false (some 11) 54 (.cn (.var 1) (.cn (.var 8) .nl))
 (.chk (.u (.ext 0) (.var 11))
 (.chk (.u (.ext 1) (.var 11))
 (.set 9 (.u (.ext 0) (.var 11))
 (.set 10 (.u (.ext 1) (.var 11))
 (.seq
 (.ite (.b (.bin .neq) (.var 10) (.lit (.int .i64 0)))
 (.set 3 (.lit (.bool false))
 .ret)
 .nxt)
 (.call false (some 12) 55 (.cn (.u (.lda 4) (.var 4)) (.cn (.var 8) .nl))
 (.chk (.ite (.u (.un .not) (.var 12)) (.b (.bin .neq) (.var 9) (.lit (.int .i64 1))) (.lit undef))
 (.ite (.u (.un .not) (.var 12))
 (.call false (some 13) 37 (.cn (.var 2) (.cn (.var 8) (.cn (.b (.bin .neq) (.var 9) (.lit (.int .i64 1))) .nl)))
 (.ite (.b (.bin .neq) (.var 13) (.lit (.int .i64 0)))
 (.set 3 (.lit (.bool false))
 .ret)
 .nxt))
 (.set 13 (.lit undef)
 (.ite (.lit (.bool false))
 (.set 3 (.lit (.bool false))
 .ret)
 .nxt)))))))))))))
 (.set 5 (.b (.bin .add) (.var 5) (.lit (.int .i64 1)))
 .nxt))))))
 (.set 3 (.lit (.bool true))
 .ret))))))
def f_top_follows : Fun:=⟨s_top_follows,[(.var 3)]⟩
abbrev v_top_follows : List Nat:=[0,1,2,6,3,13,12,14,7,8,9,19,26,33]
theorem vr_top_follows : VRof P n_top_follows s_top_follows f_top_follows v_top_follows 37:=vo Tryz.func19 (by kernel_rfl) Tryz.ntmps19 rfl
theorem r_top_follows : Fun.res f_top_follows=[(.var 3)]:=rfl
abbrev g_top_follows_0 : List Nat:=[3,5,7,8,9,10,11,12,13]
abbrev n_plant_Plant_Run : Nat:=20
def s_plant_Plant_Run : S :=
 (.set 2 (.lit (.int .i64 0))
 (.seq
 (.ite (.b (.eqp false) (.var 0) (.lit (.pointer none)))
 (.set 2 (.lit (.int .i64 14))
 .ret)
 .nxt)
 (.seq
 (.ite (.ite (.b (.bin .lss) (.var 1) (.lit (.int .i64 0))) (.lit (.bool true)) (.b (.bin .gtr) (.var 1) (.lit (.int .i64 100000))))
 (.set 2 (.lit (.int .i64 1))
 .ret)
 .nxt)
 (.set 4 (.var 1)
 (.set 3 (.lit (.int .i64 0))
 (.seq
 (.blk 0
 (.loop
 (.set 5 (.b (.bin .lss) (.var 3) (.var 4))
 (.seq
 (.ite (.var 5)
 .nxt
 (.exit 0))
 (.seq
 (.blk 1
 (.call false (some 7) 57 (.cn (.u (.fld 0) (.u .nilc (.var 0))) .nl)
 (.call false (some 9) 56 (.cn (.var 7) (.cn (.lit (.func (.func 58) #[] #[])) .nl))
 (.seq
 (.ite (.u (.un .not) (.var 9))
 (.set 2 (.lit (.int .i64 0))
 .ret)
 .nxt)
 (.call false (some 8) 59 (.cn (.u (.fld 0) (.u .nilc (.var 0))) .nl)
 (.set 6 (.var 8)
 (.ite (.b (.bin .neq) (.var 6) (.lit (.int .i64 0)))
 (.set 2 (.var 6)
 .ret)
 .nxt)))))))
 (.set 3 (.b (.bin .add) (.var 3) (.lit (.int .i64 1)))
 .nxt))))))
 (.set 2 (.lit (.int .i64 0))
 .ret)))))))
def f_plant_Plant_Run : Fun:=⟨s_plant_Plant_Run,[(.var 2)]⟩
abbrev v_plant_Plant_Run : List Nat:=[0,1,4,15,14,16,5,20,26,21]
theorem vr_plant_Plant_Run : VRof P n_plant_Plant_Run s_plant_Plant_Run f_plant_Plant_Run v_plant_Plant_Run 31:=vo Tryz.func20 (by kernel_rfl) Tryz.ntmps20 rfl
theorem r_plant_Plant_Run : Fun.res f_plant_Plant_Run=[(.var 2)]:=rfl
abbrev g_plant_Plant_Run_0 : List Nat:=[2,3,5,6,7,8,9]
abbrev n_plant_Bound : Nat:=21
def s_plant_Bound : S :=
 (.eff false (some 4) (.box 25 (.var 0))
 (.set 2 (.lit (.int .i64 0))
 (.set 3 (.lit (.int .i64 0))
 (.call false (some 23) 28 (.cn (.u (.lda 4) (.var 4)) .nl)
 (.set 5 (.var 23)
 (.seq
 (.ite (.b (.bin .neq) (.var 5) (.lit (.int .i64 0)))
 (.set 2 (.lit (.int .i64 0))
 (.set 3 (.var 5)
 .ret))
 .nxt)
 (.seq
 (.ite (.ite (.b (.bin .lss) (.var 1) (.lit (.int .i64 0))) (.lit (.bool true)) (.b (.bin .gtr) (.var 1) (.lit (.int .i64 1073741824))))
 (.set 2 (.lit (.int .i64 0))
 (.set 3 (.lit (.int .i64 1))
 .ret))
 .nxt)
 (.set 6 (.lit (.int .i64 0))
 (.set 7 (.lit (.int .i64 0))
 (.set 11 (.u .ld1 (.u (.fld 2) (.var 4)))
 (.set 9 (.u .len (.var 11))
 (.set 8 (.lit (.int .i64 0))
 (.seq
 (.blk 0
 (.loop
 (.set 10 (.b (.bin .lss) (.var 8) (.var 9))
 (.seq
 (.ite (.var 10)
 .nxt
 (.exit 0))
 (.seq
 (.blk 1
 (.chk (.u (.lda 4) (.b (.idx 4) (.var 11) (.var 8)))
 (.eff false (some 12) (.alloc 74 [(.int .i64 0),(.int .i64 0),(.int .i64 0),(.int .i64 0)])
 (.eff false none (.st 4 (.var 12) (.u (.lda 4) (.b (.idx 4) (.var 11) (.var 8))))
 (.set 6 (.b .mx (.var 6) (.u .ld1 (.u (.fld 3) (.var 12))))
 .nxt)))))
 (.set 8 (.b (.bin .add) (.var 8) (.lit (.int .i64 1)))
 .nxt))))))
 (.set 14 (.u .len (.u .ld1 (.u (.fld 1) (.var 4))))
 (.set 13 (.lit (.int .i64 0))
 (.seq
 (.blk 2
 (.loop
 (.set 15 (.b (.bin .lss) (.var 13) (.var 14))
 (.seq
 (.ite (.var 15)
 .nxt
 (.exit 2))
 (.seq
 (.blk 3
 (.set 16 (.var 13)
 (.set 18 (.u .ld1 (.u (.fld 0) (.var 4)))
 (.set 17 (.lit (.int .i64 0))
 (.blk 4
 (.loop
 (.set 19 (.b (.bin .lss) (.var 17) (.var 18))
 (.seq
 (.ite (.var 19)
 .nxt
 (.exit 4))
 (.seq
 (.blk 5
 (.set 20 (.var 17)
 (.call false (some 24) 60 (.cn (.u (.lda 4) (.var 4)) (.cn (.var 16) (.cn (.var 20) .nl)))
 (.chk (.u (.ext 0) (.var 24))
 (.chk (.u (.ext 1) (.var 24))
 (.set 21 (.u (.ext 0) (.var 24))
 (.set 22 (.u (.ext 1) (.var 24))
 (.seq
 (.ite (.b (.bin .neq) (.var 22) (.lit (.int .i64 0)))
 (.set 2 (.lit (.int .i64 0))
 (.set 3 (.var 22)
 .ret))
 .nxt)
 (.set 7 (.b .mx (.var 7) (.var 21))
 .nxt)))))))))
 (.set 17 (.b (.bin .add) (.var 17) (.lit (.int .i64 1)))
 .nxt))))))))))
 (.set 13 (.b (.bin .add) (.var 13) (.lit (.int .i64 1)))
 .nxt))))))
 (.set 2 (.b (.bin .mul) (.var 1) (.b (.bin .add) (.var 6) (.var 7)))
 (.set 3 (.lit (.int .i64 0))
 .ret))))))))))))))))))
def f_plant_Bound : Fun:=⟨s_plant_Bound,[(.var 2),(.var 3)]⟩
abbrev v_plant_Bound : List Nat:=[0,1,4,5,2,6,7,8,29,28,30,27,10,41,40,42,11,46,45,47,12,13,14,16,53]
theorem vr_plant_Bound : VRof P n_plant_Bound s_plant_Bound f_plant_Bound v_plant_Bound 69:=vo Tryz.func21 (by kernel_rfl) Tryz.ntmps21 rfl
theorem r_plant_Bound : Fun.res f_plant_Bound=[(.var 2),(.var 3)]:=rfl
abbrev g_plant_Bound_0 : List Nat:=[6,8,10,12]
abbrev g_plant_Bound_1 : List Nat:=[2,3,7,13,15,16,17,18,19,20,21,22,24]
abbrev g_plant_Bound_2 : List Nat:=[2,3,7,17,19,20,21,22,24]
abbrev n_ref35_Total : Nat:=22
def s_ref35_Total : S :=
 (.set 1 (.lit (.int .i64 0))
 (.set 2 (.lit (.int .i64 0))
 (.set 3 (.lit (.int .i64 0))
 (.seq
 (.blk 0
 (.loop
 (.seq
 (.ite (.b (.bin .lss) (.var 3) (.u .len (.var 0)))
 .nxt
 (.exit 0))
 (.seq
 (.blk 1
 (.set 2 (.b (.bin .add) (.var 2) (.u .ld1 (.b (.idx 1) (.var 0) (.var 3))))
 .nxt))
 (.set 3 (.b (.bin .add) (.var 3) (.lit (.int .i64 1)))
 .nxt)))))
 (.set 1 (.var 2)
 .ret)))))
def f_ref35_Total : Fun:=⟨s_ref35_Total,[(.var 1)]⟩
abbrev v_ref35_Total : List Nat:=[0,2,3,4]
theorem vr_ref35_Total : VRof P n_ref35_Total s_ref35_Total f_ref35_Total v_ref35_Total 18:=vo Tryz.func22 (by kernel_rfl) Tryz.ntmps22 rfl
theorem r_ref35_Total : Fun.res f_ref35_Total=[(.var 1)]:=rfl
abbrev g_ref35_Total_0 : List Nat:=[2,3]
abbrev n_plant_Plant_Inside : Nat:=23
def s_plant_Plant_Inside : S :=
 (.set 1 (.lit (.slice none 0 0))
 (.seq
 (.ite (.b (.eqp false) (.var 0) (.lit (.pointer none)))
 (.set 1 (.lit (.slice none 0 0))
 .ret)
 .nxt)
 (.call false (some 2) 57 (.cn (.u (.fld 0) (.u .nilc (.var 0))) .nl)
 (.set 1 (.var 2)
 .ret))))
def f_plant_Plant_Inside : Fun:=⟨s_plant_Plant_Inside,[(.var 1)]⟩
abbrev v_plant_Plant_Inside : List Nat:=[0,2,8]
theorem vr_plant_Plant_Inside : VRof P n_plant_Plant_Inside s_plant_Plant_Inside f_plant_Plant_Inside v_plant_Plant_Inside 9:=vo Tryz.func23 (by kernel_rfl) Tryz.ntmps23 rfl
theorem r_plant_Plant_Inside : Fun.res f_plant_Plant_Inside=[(.var 1)]:=rfl
abbrev n_ref34_Check : Nat:=24
def s_ref34_Check : S :=
 (.eff false (some 2) (.box 25 (.var 0))
 (.set 1 (.lit (.int .i64 0))
 (.seq
 (.ite (.ite (.b (.bin .lss) (.u .ld1 (.u (.fld 0) (.var 2))) (.lit (.int .i64 1))) (.lit (.bool true)) (.b (.bin .gtr) (.u .ld1 (.u (.fld 0) (.var 2))) (.lit (.int .i64 16))))
 (.set 1 (.lit (.int .i64 1))
 .ret)
 .nxt)
 (.seq
 (.ite (.b (.bin .eql) (.u .len (.u .ld1 (.u (.fld 1) (.var 2)))) (.lit (.int .i64 0)))
 (.set 1 (.lit (.int .i64 10))
 .ret)
 .nxt)
 (.seq
 (.ite (.ite (.b (.bin .gtr) (.u .len (.u .ld1 (.u (.fld 1) (.var 2)))) (.lit (.int .i64 24))) (.lit (.bool true)) (.b (.bin .gtr) (.u .len (.u .ld1 (.u (.fld 2) (.var 2)))) (.lit (.int .i64 48))))
 (.set 1 (.lit (.int .i64 8))
 .ret)
 .nxt)
 (.set 3 (.lit (.int .i64 0))
 (.seq
 (.blk 0
 (.loop
 (.seq
 (.ite (.b (.bin .lss) (.var 3) (.u .len (.u .ld1 (.u (.fld 1) (.var 2)))))
 .nxt
 (.exit 0))
 (.seq
 (.blk 1
 (.call false (some 8) 61 (.cn (.u (.lda 1) (.b (.idx 1) (.u .ld1 (.u (.fld 1) (.var 2))) (.var 3))) (.cn (.u .ld1 (.u (.fld 0) (.var 2))) .nl))
 (.set 4 (.var 8)
 (.ite (.b (.bin .neq) (.var 4) (.lit (.int .i64 0)))
 (.set 1 (.var 4)
 .ret)
 .nxt))))
 (.set 3 (.b (.bin .add) (.var 3) (.lit (.int .i64 1)))
 .nxt)))))
 (.call false (some 9) 62 (.cn (.u (.lda 4) (.var 2)) .nl)
 (.set 5 (.var 9)
 (.seq
 (.ite (.b (.bin .neq) (.var 5) (.lit (.int .i64 0)))
 (.set 1 (.var 5)
 .ret)
 .nxt)
 (.set 6 (.lit (.int .i64 0))
 (.seq
 (.blk 2
 (.loop
 (.seq
 (.ite (.b (.bin .lss) (.var 6) (.u .len (.u .ld1 (.u (.fld 1) (.var 2)))))
 .nxt
 (.exit 2))
 (.seq
 (.blk 3
 (.set 7 (.lit (.int .i64 0))
 (.blk 4
 (.loop
 (.call false (some 10) 63 (.cn (.u (.lda 1) (.b (.idx 1) (.u .ld1 (.u (.fld 1) (.var 2))) (.var 6))) .nl)
 (.seq
 (.ite (.b (.bin .lss) (.var 7) (.var 10))
 .nxt
 (.exit 4))
 (.seq
 (.blk 5
 (.call false (some 11) 64 (.cn (.u (.lda 4) (.var 2)) (.cn (.var 6) (.cn (.var 7) .nl)))
 (.ite (.b (.bin .lss) (.var 11) (.lit (.int .i64 0)))
 (.set 1 (.lit (.int .i64 3))
 .ret)
 .nxt)))
 (.set 7 (.b (.bin .add) (.var 7) (.lit (.int .i64 1)))
 .nxt))))))))
 (.set 6 (.b (.bin .add) (.var 6) (.lit (.int .i64 1)))
 .nxt)))))
 (.seq
 (.ite (.ite (.b (.bin .lss) (.u .ld1 (.u (.fld 3) (.var 2))) (.lit (.int .i64 0))) (.lit (.bool true)) (.b (.bin .geq) (.u .ld1 (.u (.fld 3) (.var 2))) (.u .len (.u .ld1 (.u (.fld 1) (.var 2))))))
 (.set 1 (.lit (.int .i64 7))
 .ret)
 .nxt)
 (.call false (some 12) 63 (.cn (.u (.lda 1) (.b (.idx 1) (.u .ld1 (.u (.fld 1) (.var 2))) (.u .ld1 (.u (.fld 3) (.var 2))))) .nl)
 (.seq
 (.ite (.b (.bin .eql) (.var 12) (.lit (.int .i64 0)))
 (.set 1 (.lit (.int .i64 13))
 .ret)
 .nxt)
 (.set 1 (.lit (.int .i64 0))
 .ret))))))))))))))))
def f_ref34_Check : Fun:=⟨s_ref34_Check,[(.var 1)]⟩
abbrev v_ref34_Check : List Nat:=[0,2,1,3,4,5,6,7,44,49,66,73,92]
theorem vr_ref34_Check : VRof P n_ref34_Check s_ref34_Check f_ref34_Check v_ref34_Check 94:=vo Tryz.func24 (by kernel_rfl) Tryz.ntmps24 rfl
theorem r_ref34_Check : Fun.res f_ref34_Check=[(.var 1)]:=rfl
abbrev g_ref34_Check_0 : List Nat:=[1,3,4,8]
abbrev g_ref34_Check_1 : List Nat:=[1,6,7,10,11]
abbrev g_ref34_Check_2 : List Nat:=[1,7,10,11]
abbrev n_ref34_Drains : Nat:=25
def s_ref34_Drains : S :=
 (.eff false (some 3) (.box 25 (.var 0))
 (.set 1 (.lit (.bool false))
 (.set 2 (.lit (.int .i64 0))
 (.call false (some 9) 24 (.cn (.u (.lda 4) (.var 3)) .nl)
 (.set 4 (.var 9)
 (.seq
 (.ite (.b (.bin .neq) (.var 4) (.lit (.int .i64 0)))
 (.set 1 (.lit (.bool false))
 (.set 2 (.var 4)
 .ret))
 .nxt)
 (.set 5 (.lit (.int .i64 0))
 (.seq
 (.blk 0
 (.loop
 (.seq
 (.ite (.b (.bin .lss) (.var 5) (.u .len (.u .ld1 (.u (.fld 1) (.var 3)))))
 .nxt
 (.exit 0))
 (.seq
 (.blk 1
 (.set 6 (.lit (.int .i64 0))
 (.blk 2
 (.loop
 (.seq
 (.ite (.b (.bin .lss) (.var 6) (.u .ld1 (.u (.fld 0) (.var 3))))
 .nxt
 (.exit 2))
 (.seq
 (.blk 3
 (.call false (some 10) 65 (.cn (.u (.lda 4) (.var 3)) (.cn (.var 5) (.cn (.var 6) .nl)))
 (.chk (.u (.ext 0) (.var 10))
 (.chk (.u (.ext 1) (.var 10))
 (.set 7 (.u (.ext 0) (.var 10))
 (.set 8 (.u (.ext 1) (.var 10))
 (.ite (.u (.un .not) (.var 8))
 (.set 1 (.lit (.bool false))
 (.set 2 (.lit (.int .i64 0))
 .ret))
 .nxt)))))))
 (.set 6 (.b (.bin .add) (.var 6) (.lit (.int .i64 1)))
 .nxt)))))))
 (.set 5 (.b (.bin .add) (.var 5) (.lit (.int .i64 1)))
 .nxt)))))
 (.set 1 (.lit (.bool true))
 (.set 2 (.lit (.int .i64 0))
 .ret))))))))))
def f_ref34_Drains : Fun:=⟨s_ref34_Drains,[(.var 1),(.var 2)]⟩
abbrev v_ref34_Drains : List Nat:=[0,2,3,1,4,5,6,7,8,10,31]
theorem vr_ref34_Drains : VRof P n_ref34_Drains s_ref34_Drains f_ref34_Drains v_ref34_Drains 36:=vo Tryz.func25 (by kernel_rfl) Tryz.ntmps25 rfl
theorem r_ref34_Drains : Fun.res f_ref34_Drains=[(.var 1),(.var 2)]:=rfl
abbrev g_ref34_Drains_0 : List Nat:=[1,2,5,6,7,8,10]
abbrev g_ref34_Drains_1 : List Nat:=[1,2,6,7,8,10]
abbrev n_plant_check : Nat:=28
def s_plant_check : S :=
 (.eff false (some 2) (.box 25 (.var 0))
 (.set 1 (.lit (.int .i64 0))
 (.call false (some 5) 68 (.cn (.u (.lda 4) (.var 2)) .nl)
 (.chk (.u (.ext 0) (.var 5))
 (.chk (.u (.ext 1) (.var 5))
 (.set 3 (.u (.ext 0) (.var 5))
 (.set 4 (.u (.ext 1) (.var 5))
 (.seq
 (.ite (.b (.bin .neq) (.var 4) (.lit (.int .i64 0)))
 (.set 1 (.var 4)
 .ret)
 .nxt)
 (.seq
 (.ite (.u (.un .not) (.var 3))
 (.set 1 (.lit (.int .i64 23))
 .ret)
 .nxt)
 (.set 1 (.lit (.int .i64 0))
 .ret))))))))))
def f_plant_check : Fun:=⟨s_plant_check,[(.var 1)]⟩
abbrev v_plant_check : List Nat:=[0,2,1,3,4,7]
theorem vr_plant_check : VRof P n_plant_check s_plant_check f_plant_check v_plant_check 15:=vo Tryz.func28 (by kernel_rfl) Tryz.ntmps28 rfl
theorem r_plant_check : Fun.res f_plant_check=[(.var 1)]:=rfl
abbrev n_plant_copied : Nat:=29
def s_plant_copied : S :=
 (.eff false (some 2) (.box 25 (.var 0))
 (.eff false (some 1) (.alloc 25 [(.int .i64 0),(.slice none 0 0),(.slice none 0 0),(.int .i64 0)])
 (.eff false (some 15) (.mk 93 1 24 [(.slice none 0 0)] (.u .len (.u .ld1 (.u (.fld 1) (.var 2)))) (.u .len (.u .ld1 (.u (.fld 1) (.var 2)))))
 (.set 3 (.var 15)
 (.set 7 (.u .ld1 (.u (.fld 1) (.var 2)))
 (.set 5 (.u .len (.var 7))
 (.set 4 (.lit (.int .i64 0))
 (.seq
 (.blk 0
 (.loop
 (.set 6 (.b (.bin .lss) (.var 4) (.var 5))
 (.seq
 (.ite (.var 6)
 .nxt
 (.exit 0))
 (.seq
 (.blk 1
 (.chk (.u (.lda 1) (.b (.idx 1) (.var 7) (.var 4)))
 (.eff false (some 9) (.alloc 93 [(.slice none 0 0)])
 (.set 8 (.var 4)
 (.eff false none (.st 1 (.var 9) (.u (.lda 1) (.b (.idx 1) (.var 7) (.var 4))))
 (.set 13 (.u .ld1 (.u (.fld 0) (.var 9)))
 (.set 11 (.u .len (.var 13))
 (.set 10 (.lit (.int .i64 0))
 (.blk 2
 (.loop
 (.set 12 (.b (.bin .lss) (.var 10) (.var 11))
 (.seq
 (.ite (.var 12)
 .nxt
 (.exit 2))
 (.seq
 (.blk 3
 (.set 14 (.u .ld1 (.b (.idx 1) (.var 13) (.var 10)))
 (.set 18 (.u .ld1 (.u (.fld 0) (.b (.idx 1) (.var 3) (.var 8))))
 (.call true (some 16) 69 (.cn (.var 14) .nl)
 (.eff false (some 19) (.lit 37 1 1 [(.slice none 0 0)] (.pl 0 1 (.var 16) .nl))
 (.eff false (some 20) (.app 37 1 24 [(.slice none 0 0)] (.var 18) (.var 19))
 (.eff false none (.st 1 (.u (.fld 0) (.b (.idx 1) (.var 3) (.var 8))) (.var 20))
 .nxt)))))))
 (.set 10 (.b (.bin .add) (.var 10) (.lit (.int .i64 1)))
 .nxt))))))))))))))
 (.set 4 (.b (.bin .add) (.var 4) (.lit (.int .i64 1)))
 .nxt))))))
 (.call false (some 17) 70 (.cn (.u .ld1 (.u (.fld 2) (.var 2))) .nl)
 (.eff false none (.st 1 (.u (.fld 1) (.var 2)) (.var 3))
 (.eff false none (.st 1 (.u (.fld 2) (.var 2)) (.var 17))
 (.eff false none (.st 4 (.var 1) (.u (.lda 4) (.var 2)))
 .ret))))))))))))
def f_plant_copied : Fun:=⟨s_plant_copied,[(.u (.lda 4) (.var 1))]⟩
abbrev v_plant_copied : List Nat:=[0,2,1,3,15,14,16,13,4,5,23,22,24,21,7,11,35,45,33,36,37]
theorem vr_plant_copied : VRof P n_plant_copied s_plant_copied f_plant_copied v_plant_copied 49:=vo Tryz.func29 (by kernel_rfl) Tryz.ntmps29 rfl
theorem r_plant_copied : Fun.res f_plant_copied=[(.u (.lda 4) (.var 1))]:=rfl
abbrev g_plant_copied_0 : List Nat:=[4,6,8,9,10,11,12,13,14,16,18,19,20]
abbrev g_plant_copied_1 : List Nat:=[10,12,14,16,18,19,20]
abbrev n_plant_state_empty : Nat:=30
def s_plant_state_empty : S :=
 (.set 1 (.lit (.slice none 0 0))
 (.eff false (some 2) (.mk 3 1 8 [(.int .i64 0)] (.u .ld1 (.u (.fld 0) (.u (.fld 0) (.u .nilc (.var 0))))) (.u .ld1 (.u (.fld 0) (.u (.fld 0) (.u .nilc (.var 0))))))
 (.set 1 (.var 2)
 .ret)))
def f_plant_state_empty : Fun:=⟨s_plant_state_empty,[(.var 1)]⟩
abbrev v_plant_state_empty : List Nat:=[0,2,8]
theorem vr_plant_state_empty : VRof P n_plant_state_empty s_plant_state_empty f_plant_state_empty v_plant_state_empty 9:=vo Tryz.func30 (by kernel_rfl) Tryz.ntmps30 rfl
theorem r_plant_state_empty : Fun.res f_plant_state_empty=[(.var 1)]:=rfl
abbrev n_belt_New : Nat:=31
def s_belt_New : S :=
 (.set 2 (.lit (.pointer none))
 (.set 3 (.lit (.int .i64 0))
 (.seq
 (.ite (.ite (.ite (.ite (.b (.bin .lss) (.var 0) (.lit (.int .i64 1))) (.lit (.bool true)) (.b (.bin .gtr) (.var 0) (.lit (.int .i64 16)))) (.lit (.bool true)) (.b (.bin .lss) (.var 1) (.lit (.int .i64 1)))) (.lit (.bool true)) (.b (.bin .gtr) (.var 1) (.lit (.int .i64 16))))
 (.set 2 (.lit (.pointer none))
 (.set 3 (.lit (.int .i64 1))
 .ret))
 .nxt)
 (.chk (.bld [(.slice none 0 0),(.slice none 0 0),(.slice none 0 0),(.slice none 0 0),(.slice none 0 0),(.slice none 0 0),(.slice none 0 0),(.slice none 0 0),(.slice none 0 0),(.slice none 0 0),(.slice none 0 0),(.slice none 0 0),(.slice none 0 0),(.slice none 0 0),(.slice none 0 0),(.slice none 0 0),(.int .i64 0),(.int .i64 0),(.int .i64 0)] (.pl 16 1 (.var 0) (.pl 17 1 (.var 1) .nl)))
 (.eff false (some 5) (.box 126 (.bld [(.slice none 0 0),(.slice none 0 0),(.slice none 0 0),(.slice none 0 0),(.slice none 0 0),(.slice none 0 0),(.slice none 0 0),(.slice none 0 0),(.slice none 0 0),(.slice none 0 0),(.slice none 0 0),(.slice none 0 0),(.slice none 0 0),(.slice none 0 0),(.slice none 0 0),(.slice none 0 0),(.int .i64 0),(.int .i64 0),(.int .i64 0)] (.pl 16 1 (.var 0) (.pl 17 1 (.var 1) .nl))))
 (.set 4 (.var 5)
 (.call false none 71 (.cn (.var 4) .nl)
 (.set 2 (.var 4)
 (.set 3 (.lit (.int .i64 0))
 .ret)))))))))
def f_belt_New : Fun:=⟨s_belt_New,[(.var 2),(.var 3)]⟩
abbrev v_belt_New : List Nat:=[0,1,4,5,6,24]
theorem vr_belt_New : VRof P n_belt_New s_belt_New f_belt_New v_belt_New 28:=vo Tryz.func31 (by kernel_rfl) Tryz.ntmps31 rfl
theorem r_belt_New : Fun.res f_belt_New=[(.var 2),(.var 3)]:=rfl
abbrev n_plant_Plant_Halt : Nat:=37
def s_plant_Plant_Halt : S :=
 (.set 3 (.lit (.int .i64 0))
 (.seq
 (.blk 0
 (.set 4 (.b (.eqp false) (.var 0) (.lit (.pointer none)))
 (.ite (.var 4)
 (.set 3 (.lit (.int .i64 14))
 .ret)
 (.set 5 (.ite (.b (.bin .lss) (.var 1) (.lit (.int .i64 0))) (.lit (.bool true)) (.b (.bin .geq) (.var 1) (.u .len (.u .ld1 (.u (.fld 1) (.u (.fld 0) (.u (.fld 0) (.u .nilc (.var 0)))))))))
 (.ite (.var 5)
 (.set 3 (.lit (.int .i64 7))
 .ret)
 (.call false (some 7) 75 (.cn (.u (.fld 0) (.u .nilc (.var 0))) (.cn (.var 1) .nl))
 (.set 6 (.var 7)
 (.ite (.var 6)
 (.set 3 (.lit (.int .i64 21))
 .ret)
 .nxt))))))))
 (.eff false none (.st 1 (.b (.idx 1) (.u .ld1 (.u (.fld 6) (.u (.fld 0) (.u .nilc (.var 0))))) (.var 1)) (.var 2))
 (.set 3 (.lit (.int .i64 0))
 .ret))))
def f_plant_Plant_Halt : Fun:=⟨s_plant_Plant_Halt,[(.var 3)]⟩
abbrev v_plant_Plant_Halt : List Nat:=[0,1,2,6,7,10,24,29]
theorem vr_plant_Plant_Halt : VRof P n_plant_Plant_Halt s_plant_Plant_Halt f_plant_Plant_Halt v_plant_Plant_Halt 38:=vo Tryz.func37 (by kernel_rfl) Tryz.ntmps37 rfl
theorem r_plant_Plant_Halt : Fun.res f_plant_Plant_Halt=[(.var 3)]:=rfl
abbrev n_control_Panel_Start : Nat:=44
def s_control_Panel_Start : S :=
 (.set 2 (.lit (.int .i64 0))
 (.call false (some 20) 49 (.cn (.var 0) (.cn (.var 1) .nl))
 (.set 3 (.var 20)
 (.seq
 (.ite (.b (.bin .neq) (.var 3) (.lit (.int .i64 0)))
 (.set 2 (.var 3)
 .ret)
 .nxt)
 (.set 4 (.u .ld1 (.b (.idx 1) (.u .ld1 (.u (.fld 3) (.u .nilc (.var 0)))) (.var 1)))
 (.set 8 (.u .ld1 (.b (.idx 1) (.u .ld1 (.u (.fld 2) (.u .nilc (.var 0)))) (.var 4)))
 (.set 6 (.u .len (.var 8))
 (.set 5 (.lit (.int .i64 0))
 (.seq
 (.blk 0
 (.loop
 (.set 7 (.b (.bin .lss) (.var 5) (.var 6))
 (.seq
 (.ite (.var 7)
 .nxt
 (.exit 0))
 (.seq
 (.blk 1
 (.set 9 (.u .ld1 (.b (.idx 1) (.var 8) (.var 5)))
 (.ite (.b (.bin .eql) (.u .ld1 (.b (.idx 1) (.u .ld1 (.u (.fld 4) (.u .nilc (.var 0)))) (.var 9))) (.lit (.int .i64 2)))
 (.set 2 (.lit (.int .i64 24))
 .ret)
 .nxt)))
 (.set 5 (.b (.bin .add) (.var 5) (.lit (.int .i64 1)))
 .nxt))))))
 (.set 13 (.u .ld1 (.u (.fld 1) (.u (.fld 0) (.u .nilc (.var 0)))))
 (.set 11 (.u .len (.var 13))
 (.set 10 (.lit (.int .i64 0))
 (.seq
 (.blk 2
 (.loop
 (.set 12 (.b (.bin .lss) (.var 10) (.var 11))
 (.seq
 (.ite (.var 12)
 .nxt
 (.exit 2))
 (.seq
 (.blk 3
 (.chk (.u (.lda 2) (.b (.idx 2) (.var 13) (.var 10)))
 (.eff false (some 14) (.alloc 102 [(.int .i64 0),(.int .i64 0)])
 (.eff false none (.st 2 (.var 14) (.u (.lda 2) (.b (.idx 2) (.var 13) (.var 10))))
 (.ite (.ite (.ite (.b (.bin .eql) (.u .ld1 (.b (.idx 1) (.u .ld1 (.u (.fld 3) (.u .nilc (.var 0)))) (.u .ld1 (.u (.fld 0) (.var 14))))) (.var 4)) (.b (.bin .neq) (.u .ld1 (.b (.idx 1) (.u .ld1 (.u (.fld 3) (.u .nilc (.var 0)))) (.u .ld1 (.u (.fld 1) (.var 14))))) (.var 4)) (.lit (.bool false))) (.b (.bin .neq) (.u .ld1 (.b (.idx 1) (.u .ld1 (.u (.fld 4) (.u .nilc (.var 0)))) (.u .ld1 (.u (.fld 1) (.var 14))))) (.lit (.int .i64 1))) (.lit (.bool false)))
 (.set 2 (.lit (.int .i64 13))
 .ret)
 .nxt)))))
 (.set 10 (.b (.bin .add) (.var 10) (.lit (.int .i64 1)))
 .nxt))))))
 (.set 18 (.u .ld1 (.b (.idx 1) (.u .ld1 (.u (.fld 2) (.u .nilc (.var 0)))) (.var 4)))
 (.set 16 (.u .len (.var 18))
 (.set 15 (.lit (.int .i64 0))
 (.seq
 (.blk 4
 (.loop
 (.set 17 (.b (.bin .lss) (.var 15) (.var 16))
 (.seq
 (.ite (.var 17)
 .nxt
 (.exit 4))
 (.seq
 (.blk 5
 (.set 19 (.u .ld1 (.b (.idx 1) (.var 18) (.var 15)))
 (.eff false none (.st 1 (.b (.idx 1) (.u .ld1 (.u (.fld 4) (.u .nilc (.var 0)))) (.var 19)) (.lit (.int .i64 1)))
 .nxt)))
 (.set 15 (.b (.bin .add) (.var 15) (.lit (.int .i64 1)))
 .nxt))))))
 (.set 2 (.lit (.int .i64 0))
 .ret))))))))))))))))))
def f_control_Panel_Start : Fun:=⟨s_control_Panel_Start,[(.var 2)]⟩
abbrev v_control_Panel_Start : List Nat:=[0,1,4,5,6,34,33,35,32,8,53,52,54,51,10,99,98,100,97,12,15]
theorem vr_control_Panel_Start : VRof P n_control_Panel_Start s_control_Panel_Start f_control_Panel_Start v_control_Panel_Start 110:=vo Tryz.func44 (by kernel_rfl) Tryz.ntmps44 rfl
theorem r_control_Panel_Start : Fun.res f_control_Panel_Start=[(.var 2)]:=rfl
abbrev g_control_Panel_Start_0 : List Nat:=[2,5,7,9]
abbrev g_control_Panel_Start_1 : List Nat:=[2,10,12,14]
abbrev g_control_Panel_Start_2 : List Nat:=[15,17,19]
abbrev n_control_groups : Nat:=45
def s_control_groups : S :=
 (.eff false (some 5) (.box 25 (.var 0))
 (.eff false (some 1) (.alloc 96 [(.int .i64 0),(.slice none 0 0)])
 (.set 2 (.lit (.slice none 0 0))
 (.set 3 (.lit (.slice none 0 0))
 (.set 4 (.lit (.int .i64 0))
 (.call false (some 21) 76 (.cn (.u (.lda 4) (.var 5)) .nl)
 (.chk (.u (.ext 0) (.var 21))
 (.chk (.u (.ext 1) (.var 21))
 (.eff false (some 7) (.alloc 96 [(.int .i64 0),(.slice none 0 0)])
 (.eff false none (.st 2 (.var 7) (.u (.ext 0) (.var 21)))
 (.set 6 (.u (.ext 1) (.var 21))
 (.seq
 (.ite (.b (.bin .neq) (.var 6) (.lit (.int .i64 0)))
 (.eff false none (.st 2 (.var 1) (.u (.lda 2) (.var 7)))
 (.set 2 (.lit (.slice none 0 0))
 (.set 3 (.lit (.slice none 0 0))
 (.set 4 (.var 6)
 .ret))))
 .nxt)
 (.call false (some 22) 77 (.cn (.u (.lda 2) (.var 7)) .nl)
 (.chk (.u (.ext 0) (.var 22))
 (.chk (.u (.ext 1) (.var 22))
 (.set 8 (.u (.ext 0) (.var 22))
 (.set 6 (.u (.ext 1) (.var 22))
 (.seq
 (.ite (.b (.bin .neq) (.var 6) (.lit (.int .i64 0)))
 (.eff false none (.st 2 (.var 1) (.u (.lda 2) (.var 7)))
 (.set 2 (.lit (.slice none 0 0))
 (.set 3 (.lit (.slice none 0 0))
 (.set 4 (.var 6)
 .ret))))
 .nxt)
 (.eff false (some 23) (.mk 3 1 8 [(.int .i64 0)] (.u .ld1 (.u (.fld 0) (.var 7))) (.u .ld1 (.u (.fld 0) (.var 7))))
 (.set 9 (.var 23)
 (.set 13 (.var 8)
 (.set 11 (.u .len (.var 13))
 (.set 10 (.lit (.int .i64 0))
 (.seq
 (.blk 0
 (.loop
 (.set 12 (.b (.bin .lss) (.var 10) (.var 11))
 (.seq
 (.ite (.var 12)
 .nxt
 (.exit 0))
 (.seq
 (.blk 1
 (.chk (.u .ld1 (.b (.idx 1) (.var 13) (.var 10)))
 (.set 14 (.var 10)
 (.set 15 (.u .ld1 (.b (.idx 1) (.var 13) (.var 10)))
 (.set 19 (.var 15)
 (.set 17 (.u .len (.var 19))
 (.set 16 (.lit (.int .i64 0))
 (.blk 2
 (.loop
 (.set 18 (.b (.bin .lss) (.var 16) (.var 17))
 (.seq
 (.ite (.var 18)
 .nxt
 (.exit 2))
 (.seq
 (.blk 3
 (.set 20 (.u .ld1 (.b (.idx 1) (.var 19) (.var 16)))
 (.eff false none (.st 1 (.b (.idx 1) (.var 9) (.var 20)) (.var 14))
 .nxt)))
 (.set 16 (.b (.bin .add) (.var 16) (.lit (.int .i64 1)))
 .nxt)))))))))))))
 (.set 10 (.b (.bin .add) (.var 10) (.lit (.int .i64 1)))
 .nxt))))))
 (.eff false none (.st 2 (.var 1) (.u (.lda 2) (.var 7)))
 (.set 2 (.var 8)
 (.set 3 (.var 9)
 (.set 4 (.lit (.int .i64 0))
 .ret))))))))))))))))))))))))))))
def f_control_groups : Fun:=⟨s_control_groups,[(.u (.lda 2) (.var 1)),(.var 2),(.var 3),(.var 4)]⟩
abbrev v_control_groups : List Nat:=[0,2,3,4,5,1,7,6,8,9,37,36,38,35,10,11,44,43,45,42,13,16,25,34]
theorem vr_control_groups : VRof P n_control_groups s_control_groups f_control_groups v_control_groups 57:=vo Tryz.func45 (by kernel_rfl) Tryz.ntmps45 rfl
theorem r_control_groups : Fun.res f_control_groups=[(.u (.lda 2) (.var 1)),(.var 2),(.var 3),(.var 4)]:=rfl
abbrev g_control_groups_0 : List Nat:=[10,12,14,15,16,17,18,19,20]
abbrev g_control_groups_1 : List Nat:=[16,18,20]
abbrev n_control_Order_1 : Nat:=46
def s_control_Order_1 : S :=
 (.set 4 (.lit (.int .i64 0))
 (.set 6 (.u .len (.u .ld1 (.var 0)))
 (.set 5 (.lit (.int .i64 0))
 (.seq
 (.blk 0
 (.loop
 (.set 7 (.b (.bin .lss) (.var 5) (.var 6))
 (.seq
 (.ite (.var 7)
 .nxt
 (.exit 0))
 (.seq
 (.blk 1
 (.set 8 (.var 5)
 (.set 9 (.u (.un .not) (.u .ld1 (.b (.idx 1) (.u .ld1 (.var 1)) (.var 8))))
 (.set 13 (.u .ld1 (.u (.fld 1) (.var 2)))
 (.set 11 (.u .len (.var 13))
 (.set 10 (.lit (.int .i64 0))
 (.seq
 (.blk 2
 (.loop
 (.set 12 (.b (.bin .lss) (.var 10) (.var 11))
 (.seq
 (.ite (.var 12)
 .nxt
 (.exit 2))
 (.seq
 (.blk 3
 (.chk (.u (.lda 2) (.b (.idx 2) (.var 13) (.var 10)))
 (.eff false (some 14) (.alloc 102 [(.int .i64 0),(.int .i64 0)])
 (.eff false none (.st 2 (.var 14) (.u (.lda 2) (.b (.idx 2) (.var 13) (.var 10))))
 (.set 9 (.ite (.var 9) (.ite (.ite (.b (.bin .neq) (.u .ld1 (.b (.idx 1) (.u .ld1 (.var 3)) (.u .ld1 (.u (.fld 0) (.var 14))))) (.var 8)) (.lit (.bool true)) (.b (.bin .eql) (.u .ld1 (.b (.idx 1) (.u .ld1 (.var 3)) (.u .ld1 (.u (.fld 1) (.var 14))))) (.var 8))) (.lit (.bool true)) (.u .ld1 (.b (.idx 1) (.u .ld1 (.var 1)) (.u .ld1 (.b (.idx 1) (.u .ld1 (.var 3)) (.u .ld1 (.u (.fld 1) (.var 14)))))))) (.lit (.bool false)))
 .nxt)))))
 (.set 10 (.b (.bin .add) (.var 10) (.lit (.int .i64 1)))
 .nxt))))))
 (.ite (.var 9)
 (.set 4 (.var 8)
 .ret)
 .nxt))))))))
 (.set 5 (.b (.bin .add) (.var 5) (.lit (.int .i64 1)))
 .nxt))))))
 (.set 4 (.lit (.int .i64 (-1)))
 .ret)))))
def f_control_Order_1 : Fun:=⟨s_control_Order_1,[(.var 4)]⟩
abbrev v_control_Order_1 : List Nat:=[0,1,2,3,4,11,10,12,5,6,22,21,23,20,8]
theorem vr_control_Order_1 : VRof P n_control_Order_1 s_control_Order_1 f_control_Order_1 v_control_Order_1 59:=vo Tryz.func46 (by kernel_rfl) Tryz.ntmps46 rfl
theorem r_control_Order_1 : Fun.res f_control_Order_1=[(.var 4)]:=rfl
abbrev g_control_Order_1_0 : List Nat:=[4,5,7,8,9,10,11,12,13,14]
abbrev g_control_Order_1_1 : List Nat:=[9,10,12,14]
abbrev n_plant_state_fits : Nat:=47
def s_plant_state_fits : S :=
 (.set 2 (.lit (.int .i64 0))
 (.seq
 (.ite (.b (.bin .neq) (.u .len (.var 1)) (.u .ld1 (.u (.fld 0) (.u (.fld 0) (.u .nilc (.var 0))))))
 (.set 2 (.lit (.int .i64 18))
 .ret)
 .nxt)
 (.call false (some 9) 78 (.cn (.var 1) (.cn (.u .ld1 (.u (.fld 0) (.u (.fld 0) (.u .nilc (.var 0))))) .nl))
 (.seq
 (.ite (.u (.un .not) (.var 9))
 (.set 2 (.lit (.int .i64 1))
 .ret)
 .nxt)
 (.set 6 (.var 1)
 (.set 4 (.u .len (.var 6))
 (.set 3 (.lit (.int .i64 0))
 (.seq
 (.blk 0
 (.loop
 (.set 5 (.b (.bin .lss) (.var 3) (.var 4))
 (.seq
 (.ite (.var 5)
 .nxt
 (.exit 0))
 (.seq
 (.blk 1
 (.chk (.u .ld1 (.b (.idx 1) (.var 6) (.var 3)))
 (.set 7 (.var 3)
 (.set 8 (.u .ld1 (.b (.idx 1) (.var 6) (.var 3)))
 (.ite (.b (.bin .gtr) (.b (.bin .add) (.u .ld1 (.b (.idx 1) (.u .ld1 (.u (.fld 7) (.u .nilc (.var 0)))) (.var 7))) (.var 8)) (.lit (.int .i64 1073741824)))
 (.set 2 (.lit (.int .i64 2))
 .ret)
 .nxt)))))
 (.set 3 (.b (.bin .add) (.var 3) (.lit (.int .i64 1)))
 .nxt))))))
 (.set 2 (.lit (.int .i64 0))
 .ret)))))))))
def f_plant_state_fits : Fun:=⟨s_plant_state_fits,[(.var 2)]⟩
abbrev v_plant_state_fits : List Nat:=[0,1,4,25,24,26,23,5,6,21]
theorem vr_plant_state_fits : VRof P n_plant_state_fits s_plant_state_fits f_plant_state_fits v_plant_state_fits 41:=vo Tryz.func47 (by kernel_rfl) Tryz.ntmps47 rfl
theorem r_plant_state_fits : Fun.res f_plant_state_fits=[(.var 2)]:=rfl
abbrev g_plant_state_fits_0 : List Nat:=[2,3,5,7,8]
abbrev n_plant_add : Nat:=48
def s_plant_add : S :=
 (.set 5 (.var 1)
 (.set 3 (.u .len (.var 5))
 (.set 2 (.lit (.int .i64 0))
 (.blk 0
 (.loop
 (.set 4 (.b (.bin .lss) (.var 2) (.var 3))
 (.seq
 (.ite (.var 4)
 .nxt
 (.exit 0))
 (.seq
 (.blk 1
 (.chk (.u .ld1 (.b (.idx 1) (.var 5) (.var 2)))
 (.set 6 (.var 2)
 (.set 7 (.u .ld1 (.b (.idx 1) (.var 5) (.var 2)))
 (.eff false none (.st 1 (.b (.idx 1) (.var 0) (.var 6)) (.b (.bin .add) (.u .ld1 (.b (.idx 1) (.var 0) (.var 6))) (.var 7)))
 .nxt)))))
 (.set 2 (.b (.bin .add) (.var 2) (.lit (.int .i64 1)))
 .nxt)))))))))
def f_plant_add : Fun:=⟨s_plant_add,[]⟩
abbrev v_plant_add : List Nat:=[0,1,8,7,9,6,4,5]
theorem vr_plant_add : VRof P n_plant_add s_plant_add f_plant_add v_plant_add 21:=vo Tryz.func48 (by kernel_rfl) Tryz.ntmps48 rfl
theorem r_plant_add : Fun.res f_plant_add=[]:=rfl
abbrev g_plant_add_0 : List Nat:=[2,4,6,7]
abbrev n_control_Panel_find : Nat:=49
def s_control_Panel_find : S :=
 (.set 2 (.lit (.int .i64 0))
 (.seq
 (.ite (.b (.eqp false) (.var 0) (.lit (.pointer none)))
 (.set 2 (.lit (.int .i64 14))
 .ret)
 .nxt)
 (.seq
 (.ite (.ite (.b (.bin .lss) (.var 1) (.lit (.int .i64 0))) (.lit (.bool true)) (.b (.bin .geq) (.var 1) (.u .len (.u .ld1 (.u (.fld 4) (.u .nilc (.var 0)))))))
 (.set 2 (.lit (.int .i64 7))
 .ret)
 .nxt)
 (.set 2 (.lit (.int .i64 0))
 .ret))))
def f_control_Panel_find : Fun:=⟨s_control_Panel_find,[(.var 2)]⟩
abbrev v_control_Panel_find : List Nat:=[0,1,4]
theorem vr_control_Panel_find : VRof P n_control_Panel_find s_control_Panel_find f_control_Panel_find v_control_Panel_find 18:=vo Tryz.func49 (by kernel_rfl) Tryz.ntmps49 rfl
theorem r_control_Panel_find : Fun.res f_control_Panel_find=[(.var 2)]:=rfl
abbrev n_graph_Back : Nat:=50
def s_graph_Back : S :=
 (.eff false (some 4) (.box 96 (.var 0))
 (.set 2 (.lit (.slice none 0 0))
 (.set 3 (.lit (.int .i64 0))
 (.call false (some 5) 79 (.cn (.u (.lda 2) (.var 4)) (.cn (.var 1) (.cn (.lit (.func (.func 80) #[] #[])) .nl)))
 (.chk (.u (.ext 0) (.var 5))
 (.chk (.u (.ext 1) (.var 5))
 (.set 2 (.u (.ext 0) (.var 5))
 (.set 3 (.u (.ext 1) (.var 5))
 .ret))))))))
def f_graph_Back : Fun:=⟨s_graph_Back,[(.var 2),(.var 3)]⟩
abbrev v_graph_Back : List Nat:=[0,1,4,5,2,8]
theorem vr_graph_Back : VRof P n_graph_Back s_graph_Back f_graph_Back v_graph_Back 11:=vo Tryz.func50 (by kernel_rfl) Tryz.ntmps50 rfl
theorem r_graph_Back : Fun.res f_graph_Back=[(.var 2),(.var 3)]:=rfl
abbrev n_control_stopped : Nat:=51
def s_control_stopped : S :=
 (.set 1 (.lit (.int .i64 0))
 (.set 2 (.var 0)
 (.seq
 (.blk 0
 (.seq
 (.blk 2
 (.blk 1
 (.set 3 (.b (.bin .eql) (.var 2) (.lit (.int .i64 1)))
 (.seq
 (.seq
 (.ite (.var 3)
 (.exit 1)
 .nxt)
 (.set 4 (.b (.bin .eql) (.var 2) (.lit (.int .i64 0)))
 (.ite (.var 4)
 (.exit 2)
 .nxt)))
 (.exit 0)))))
 (.set 1 (.lit (.int .i64 0))
 (.seq
 .ret
 (.exit 0)))))
 (.set 1 (.var 0)
 .ret))))
def f_control_stopped : Fun:=⟨s_control_stopped,[(.var 1)]⟩
abbrev v_control_stopped : List Nat:=[0,2,3,4,6]
theorem vr_control_stopped : VRof P n_control_stopped s_control_stopped f_control_stopped v_control_stopped 9:=vo Tryz.func51 (by kernel_rfl) Tryz.ntmps51 rfl
theorem r_control_stopped : Fun.res f_control_stopped=[(.var 1)]:=rfl
abbrev n_slices_ContainsFuncapi_Arc_api_Arc : Nat:=52
def s_slices_ContainsFuncapi_Arc_api_Arc : S :=
 (.set 2 (.lit (.bool false))
 (.call false (some 3) 81 (.cn (.var 0) (.cn (.var 1) .nl))
 (.set 2 (.b (.bin .geq) (.var 3) (.lit (.int .i64 0)))
 .ret)))
def f_slices_ContainsFuncapi_Arc_api_Arc : Fun:=⟨s_slices_ContainsFuncapi_Arc_api_Arc,[(.var 2)]⟩
abbrev v_slices_ContainsFuncapi_Arc_api_Arc : List Nat:=[0,1,4,7]
theorem vr_slices_ContainsFuncapi_Arc_api_Arc : VRof P n_slices_ContainsFuncapi_Arc_api_Arc s_slices_ContainsFuncapi_Arc_api_Arc f_slices_ContainsFuncapi_Arc_api_Arc v_slices_ContainsFuncapi_Arc_api_Arc 9:=vo Tryz.func52 (by kernel_rfl) Tryz.ntmps52 rfl
theorem r_slices_ContainsFuncapi_Arc_api_Arc : Fun.res f_slices_ContainsFuncapi_Arc_api_Arc=[(.var 2)]:=rfl
abbrev n_control_Panel_Safe_1 : Nat:=53
def s_control_Panel_Safe_1 : S :=
 (.eff false (some 3) (.box 102 (.var 0))
 (.set 2 (.lit (.bool false))
 (.set 2 (.ite (.b (.bin .eql) (.u .ld1 (.b (.idx 1) (.u .ld1 (.u (.fld 4) (.u .nilc (.u .ld1 (.var 1))))) (.u .ld1 (.u (.fld 0) (.var 3))))) (.lit (.int .i64 1))) (.b (.bin .neq) (.u .ld1 (.b (.idx 1) (.u .ld1 (.u (.fld 4) (.u .nilc (.u .ld1 (.var 1))))) (.u .ld1 (.u (.fld 1) (.var 3))))) (.lit (.int .i64 1))) (.lit (.bool false)))
 .ret)))
def f_control_Panel_Safe_1 : Fun:=⟨s_control_Panel_Safe_1,[(.var 2)]⟩
abbrev v_control_Panel_Safe_1 : List Nat:=[0,1,3,2]
theorem vr_control_Panel_Safe_1 : VRof P n_control_Panel_Safe_1 s_control_Panel_Safe_1 f_control_Panel_Safe_1 v_control_Panel_Safe_1 24:=vo Tryz.func53 (by kernel_rfl) Tryz.ntmps53 rfl
theorem r_control_Panel_Safe_1 : Fun.res f_control_Panel_Safe_1=[(.var 2)]:=rfl
abbrev n_control_Panel_State : Nat:=54
def s_control_Panel_State : S :=
 (.set 2 (.lit (.int .i64 0))
 (.set 3 (.lit (.int .i64 0))
 (.call false (some 5) 49 (.cn (.var 0) (.cn (.var 1) .nl))
 (.set 4 (.var 5)
 (.seq
 (.ite (.b (.bin .neq) (.var 4) (.lit (.int .i64 0)))
 (.set 2 (.lit (.int .i64 0))
 (.set 3 (.var 4)
 .ret))
 .nxt)
 (.set 2 (.u .ld1 (.b (.idx 1) (.u .ld1 (.u (.fld 4) (.u .nilc (.var 0)))) (.var 1)))
 (.set 3 (.lit (.int .i64 0))
 .ret)))))))
def f_control_Panel_State : Fun:=⟨s_control_Panel_State,[(.var 2),(.var 3)]⟩
abbrev v_control_Panel_State : List Nat:=[0,1,4,5,6,9]
theorem vr_control_Panel_State : VRof P n_control_Panel_State s_control_Panel_State f_control_Panel_State v_control_Panel_State 20:=vo Tryz.func54 (by kernel_rfl) Tryz.ntmps54 rfl
theorem r_control_Panel_State : Fun.res f_control_Panel_State=[(.var 2),(.var 3)]:=rfl
abbrev n_ref35_Bin : Nat:=55
def s_ref35_Bin : S :=
 (.eff false (some 3) (.box 25 (.var 0))
 (.set 2 (.lit (.bool false))
 (.call false (some 4) 63 (.cn (.u (.lda 1) (.b (.idx 1) (.u .ld1 (.u (.fld 1) (.var 3))) (.var 1))) .nl)
 (.set 2 (.b (.bin .eql) (.var 4) (.lit (.int .i64 0)))
 .ret))))
def f_ref35_Bin : Fun:=⟨s_ref35_Bin,[(.var 2)]⟩
abbrev v_ref35_Bin : List Nat:=[0,1,4,2,10]
theorem vr_ref35_Bin : VRof P n_ref35_Bin s_ref35_Bin f_ref35_Bin v_ref35_Bin 12:=vo Tryz.func55 (by kernel_rfl) Tryz.ntmps55 rfl
theorem r_ref35_Bin : Fun.res f_ref35_Bin=[(.var 2)]:=rfl
abbrev n_slices_ContainsFunc : Nat:=56
def s_slices_ContainsFunc : S :=
 (.set 2 (.lit (.bool false))
 (.call false (some 3) 82 (.cn (.var 0) (.cn (.var 1) .nl))
 (.set 2 (.b (.bin .geq) (.var 3) (.lit (.int .i64 0)))
 .ret)))
def f_slices_ContainsFunc : Fun:=⟨s_slices_ContainsFunc,[(.var 2)]⟩
abbrev v_slices_ContainsFunc : List Nat:=[0,1,4,7]
theorem vr_slices_ContainsFunc : VRof P n_slices_ContainsFunc s_slices_ContainsFunc f_slices_ContainsFunc v_slices_ContainsFunc 9:=vo Tryz.func56 (by kernel_rfl) Tryz.ntmps56 rfl
theorem r_slices_ContainsFunc : Fun.res f_slices_ContainsFunc=[(.var 2)]:=rfl
abbrev n_plant_state_inside : Nat:=57
def s_plant_state_inside : S :=
 (.set 1 (.lit (.slice none 0 0))
 (.call false (some 14) 30 (.cn (.var 0) .nl)
 (.set 2 (.var 14)
 (.set 6 (.u .ld1 (.u (.fld 4) (.u .nilc (.var 0))))
 (.set 4 (.u .len (.var 6))
 (.set 3 (.lit (.int .i64 0))
 (.seq
 (.blk 0
 (.loop
 (.set 5 (.b (.bin .lss) (.var 3) (.var 4))
 (.seq
 (.ite (.var 5)
 .nxt
 (.exit 0))
 (.seq
 (.blk 1
 (.chk (.u .ld1 (.b (.idx 1) (.var 6) (.var 3)))
 (.set 7 (.var 3)
 (.set 8 (.u .ld1 (.b (.idx 1) (.var 6) (.var 3)))
 (.call false (some 15) 75 (.cn (.var 0) (.cn (.var 7) .nl))
 (.ite (.u (.un .not) (.var 15))
 (.call false none 48 (.cn (.var 2) (.cn (.var 8) .nl))
 .nxt)
 .nxt))))))
 (.set 3 (.b (.bin .add) (.var 3) (.lit (.int .i64 1)))
 .nxt))))))
 (.set 12 (.u .ld1 (.u (.fld 5) (.u .nilc (.var 0))))
 (.set 10 (.u .len (.var 12))
 (.set 9 (.lit (.int .i64 0))
 (.seq
 (.blk 2
 (.loop
 (.set 11 (.b (.bin .lss) (.var 9) (.var 10))
 (.seq
 (.ite (.var 11)
 .nxt
 (.exit 2))
 (.seq
 (.blk 3
 (.chk (.u (.lda 2) (.b (.idx 2) (.var 12) (.var 9)))
 (.eff false (some 13) (.alloc 77 [(.slice none 0 0),(.pointer none)])
 (.eff false none (.st 2 (.var 13) (.u (.lda 2) (.b (.idx 2) (.var 12) (.var 9))))
 (.call false none 48 (.cn (.var 2) (.cn (.u .ld1 (.u (.fld 0) (.var 13))) .nl))
 (.call false (some 16) 83 (.cn (.u .ld1 (.u (.fld 1) (.var 13))) .nl)
 (.call false none 48 (.cn (.var 2) (.cn (.var 16) .nl))
 .nxt)))))))
 (.set 9 (.b (.bin .add) (.var 9) (.lit (.int .i64 1)))
 .nxt))))))
 (.set 1 (.var 2)
 .ret))))))))))))
def f_plant_state_inside : Fun:=⟨s_plant_state_inside,[(.var 1)]⟩
abbrev v_plant_state_inside : List Nat:=[0,2,3,15,14,16,13,4,5,33,32,34,31,7,9,22,44]
theorem vr_plant_state_inside : VRof P n_plant_state_inside s_plant_state_inside f_plant_state_inside v_plant_state_inside 48:=vo Tryz.func57 (by kernel_rfl) Tryz.ntmps57 rfl
theorem r_plant_state_inside : Fun.res f_plant_state_inside=[(.var 1)]:=rfl
abbrev g_plant_state_inside_0 : List Nat:=[3,5,7,8,15]
abbrev g_plant_state_inside_1 : List Nat:=[9,11,13,16]
abbrev n_plant_Plant_Run_1 : Nat:=58
def s_plant_Plant_Run_1 : S :=
 (.set 1 (.lit (.bool false))
 (.set 1 (.b (.bin .gtr) (.var 0) (.lit (.int .i64 0)))
 .ret))
def f_plant_Plant_Run_1 : Fun:=⟨s_plant_Plant_Run_1,[(.var 1)]⟩
abbrev v_plant_Plant_Run_1 : List Nat:=[0,2]
theorem vr_plant_Plant_Run_1 : VRof P n_plant_Plant_Run_1 s_plant_Plant_Run_1 f_plant_Plant_Run_1 v_plant_Plant_Run_1 5:=vo Tryz.func58 (by kernel_rfl) Tryz.ntmps58 rfl
theorem r_plant_Plant_Run_1 : Fun.res f_plant_Plant_Run_1=[(.var 1)]:=rfl
abbrev n_layout_Height : Nat:=60
def s_layout_Height : S :=
 (.eff false (some 5) (.box 25 (.var 0))
 (.set 3 (.lit (.int .i64 0))
 (.set 4 (.lit (.int .i64 0))
 (.call false (some 9) 88 (.cn (.u (.lda 4) (.var 5)) .nl)
 (.set 6 (.var 9)
 (.seq
 (.ite (.b (.bin .neq) (.var 6) (.lit (.int .i64 0)))
 (.set 3 (.lit (.int .i64 0))
 (.set 4 (.var 6)
 .ret))
 .nxt)
 (.call false (some 10) 89 (.cn (.u (.lda 4) (.var 5)) (.cn (.var 1) .nl))
 (.seq
 (.ite (.u (.un .not) (.var 10))
 (.set 3 (.lit (.int .i64 0))
 (.set 4 (.lit (.int .i64 7))
 .ret))
 .nxt)
 (.seq
 (.ite (.ite (.b (.bin .lss) (.var 2) (.lit (.int .i64 0))) (.lit (.bool true)) (.b (.bin .geq) (.var 2) (.u .ld1 (.u (.fld 0) (.var 5)))))
 (.set 3 (.lit (.int .i64 0))
 (.set 4 (.lit (.int .i64 18))
 .ret))
 .nxt)
 (.call false (some 11) 90 (.cn (.u (.lda 4) (.var 5)) (.cn (.var 1) (.cn (.var 2) .nl)))
 (.chk (.u (.ext 0) (.var 11))
 (.chk (.u (.ext 1) (.var 11))
 (.set 7 (.u (.ext 0) (.var 11))
 (.set 8 (.u (.ext 1) (.var 11))
 (.seq
 (.ite (.u (.un .not) (.var 8))
 (.set 3 (.lit (.int .i64 0))
 (.set 4 (.lit (.int .i64 23))
 .ret))
 .nxt)
 (.set 3 (.var 7)
 (.set 4 (.lit (.int .i64 0))
 .ret)))))))))))))))))
def f_layout_Height : Fun:=⟨s_layout_Height,[(.var 3),(.var 4)]⟩
abbrev v_layout_Height : List Nat:=[0,1,2,6,7,3,8,9,10,12,18,32]
theorem vr_layout_Height : VRof P n_layout_Height s_layout_Height f_layout_Height v_layout_Height 38:=vo Tryz.func60 (by kernel_rfl) Tryz.ntmps60 rfl
theorem r_layout_Height : Fun.res f_layout_Height=[(.var 3),(.var 4)]:=rfl
abbrev n_ref33_Check : Nat:=61
def s_ref33_Check : S :=
 (.eff false (some 3) (.box 93 (.var 0))
 (.set 2 (.lit (.int .i64 0))
 (.seq
 (.ite (.ite (.b (.bin .lss) (.var 1) (.lit (.int .i64 1))) (.lit (.bool true)) (.b (.bin .gtr) (.var 1) (.lit (.int .i64 16))))
 (.set 2 (.lit (.int .i64 1))
 .ret)
 .nxt)
 (.seq
 (.ite (.b (.bin .neq) (.u .len (.u .ld1 (.u (.fld 0) (.var 3)))) (.var 1))
 (.set 2 (.lit (.int .i64 18))
 .ret)
 .nxt)
 (.set 4 (.lit (.int .i64 0))
 (.seq
 (.blk 0
 (.loop
 (.seq
 (.ite (.b (.bin .lss) (.var 4) (.var 1))
 .nxt
 (.exit 0))
 (.seq
 (.blk 1
 (.call false (some 6) 91 (.cn (.u .ld1 (.b (.idx 1) (.u .ld1 (.u (.fld 0) (.var 3))) (.var 4))) (.cn (.u .len (.u .ld1 (.b (.idx 1) (.u .ld1 (.u (.fld 0) (.var 3))) (.lit (.int .i64 0))))) .nl))
 (.set 5 (.var 6)
 (.ite (.b (.bin .neq) (.var 5) (.lit (.int .i64 0)))
 (.set 2 (.var 5)
 .ret)
 .nxt))))
 (.set 4 (.b (.bin .add) (.var 4) (.lit (.int .i64 1)))
 .nxt)))))
 (.set 2 (.lit (.int .i64 0))
 .ret)))))))
def f_ref33_Check : Fun:=⟨s_ref33_Check,[(.var 2)]⟩
abbrev v_ref33_Check : List Nat:=[0,1,4,2,5,6,33]
theorem vr_ref33_Check : VRof P n_ref33_Check s_ref33_Check f_ref33_Check v_ref33_Check 37:=vo Tryz.func61 (by kernel_rfl) Tryz.ntmps61 rfl
theorem r_ref33_Check : Fun.res f_ref33_Check=[(.var 2)]:=rfl
abbrev g_ref33_Check_0 : List Nat:=[2,4,5,6]
abbrev n_ref34_belts : Nat:=62
def s_ref34_belts : S :=
 (.eff false (some 3) (.box 25 (.var 0))
 (.set 1 (.lit (.int .i64 0))
 (.set 2 (.lit (.int .i64 0))
 (.seq
 (.blk 0
 (.loop
 (.seq
 (.ite (.b (.bin .lss) (.var 2) (.u .len (.u .ld1 (.u (.fld 2) (.var 3)))))
 .nxt
 (.exit 0))
 (.seq
 (.blk 1
 (.chk (.u (.lda 4) (.b (.idx 4) (.u .ld1 (.u (.fld 2) (.var 3))) (.var 2)))
 (.eff false (some 4) (.alloc 74 [(.int .i64 0),(.int .i64 0),(.int .i64 0),(.int .i64 0)])
 (.eff false none (.st 4 (.var 4) (.u (.lda 4) (.b (.idx 4) (.u .ld1 (.u (.fld 2) (.var 3))) (.var 2))))
 (.set 7 (.ite (.ite (.ite (.b (.bin .lss) (.u .ld1 (.u (.fld 0) (.var 4))) (.lit (.int .i64 0))) (.lit (.bool true)) (.b (.bin .geq) (.u .ld1 (.u (.fld 0) (.var 4))) (.u .len (.u .ld1 (.u (.fld 1) (.var 3)))))) (.lit (.bool true)) (.b (.bin .lss) (.u .ld1 (.u (.fld 1) (.var 4))) (.lit (.int .i64 0)))) (.lit undef) (.u .ld1 (.u (.fld 1) (.var 4))))
 (.chk (.ite (.ite (.ite (.b (.bin .lss) (.u .ld1 (.u (.fld 0) (.var 4))) (.lit (.int .i64 0))) (.lit (.bool true)) (.b (.bin .geq) (.u .ld1 (.u (.fld 0) (.var 4))) (.u .len (.u .ld1 (.u (.fld 1) (.var 3)))))) (.lit (.bool true)) (.b (.bin .lss) (.u .ld1 (.u (.fld 1) (.var 4))) (.lit (.int .i64 0)))) (.lit undef) (.u (.lda 1) (.b (.idx 1) (.u .ld1 (.u (.fld 1) (.var 3))) (.u .ld1 (.u (.fld 0) (.var 4))))))
 (.seq
 (.ite (.ite (.ite (.b (.bin .lss) (.u .ld1 (.u (.fld 0) (.var 4))) (.lit (.int .i64 0))) (.lit (.bool true)) (.b (.bin .geq) (.u .ld1 (.u (.fld 0) (.var 4))) (.u .len (.u .ld1 (.u (.fld 1) (.var 3)))))) (.lit (.bool true)) (.b (.bin .lss) (.u .ld1 (.u (.fld 1) (.var 4))) (.lit (.int .i64 0))))
 (.set 8 (.lit undef)
 (.ite (.lit (.bool true))
 (.set 1 (.lit (.int .i64 7))
 .ret)
 .nxt))
 (.call true (some 8) 63 (.cn (.u (.lda 1) (.b (.idx 1) (.u .ld1 (.u (.fld 1) (.var 3))) (.u .ld1 (.u (.fld 0) (.var 4))))) .nl)
 (.ite (.ite (.ite (.b (.bin .geq) (.var 7) (.var 8)) (.lit (.bool true)) (.b (.bin .lss) (.u .ld1 (.u (.fld 2) (.var 4))) (.lit (.int .i64 0)))) (.lit (.bool true)) (.b (.bin .geq) (.u .ld1 (.u (.fld 2) (.var 4))) (.u .len (.u .ld1 (.u (.fld 1) (.var 3))))))
 (.set 1 (.lit (.int .i64 7))
 .ret)
 .nxt)))
 (.ite (.ite (.b (.bin .lss) (.u .ld1 (.u (.fld 3) (.var 4))) (.lit (.int .i64 1))) (.lit (.bool true)) (.b (.bin .gtr) (.u .ld1 (.u (.fld 3) (.var 4))) (.lit (.int .i64 16))))
 (.set 1 (.lit (.int .i64 1))
 .ret)
 .nxt))))))))
 (.set 2 (.b (.bin .add) (.var 2) (.lit (.int .i64 1)))
 .nxt)))))
 (.set 5 (.lit (.int .i64 0))
 (.seq
 (.blk 2
 (.loop
 (.seq
 (.ite (.b (.bin .lss) (.var 5) (.u .len (.u .ld1 (.u (.fld 2) (.var 3)))))
 .nxt
 (.exit 2))
 (.seq
 (.blk 3
 (.set 6 (.lit (.int .i64 0))
 (.blk 4
 (.loop
 (.seq
 (.ite (.b (.bin .lss) (.var 6) (.var 5))
 .nxt
 (.exit 4))
 (.seq
 (.blk 5
 (.ite (.ite (.b (.bin .eql) (.u .ld1 (.u (.fld 0) (.b (.idx 4) (.u .ld1 (.u (.fld 2) (.var 3))) (.var 5)))) (.u .ld1 (.u (.fld 0) (.b (.idx 4) (.u .ld1 (.u (.fld 2) (.var 3))) (.var 6))))) (.b (.bin .eql) (.u .ld1 (.u (.fld 1) (.b (.idx 4) (.u .ld1 (.u (.fld 2) (.var 3))) (.var 5)))) (.u .ld1 (.u (.fld 1) (.b (.idx 4) (.u .ld1 (.u (.fld 2) (.var 3))) (.var 6))))) (.lit (.bool false)))
 (.set 1 (.lit (.int .i64 6))
 .ret)
 .nxt))
 (.set 6 (.b (.bin .add) (.var 6) (.lit (.int .i64 1)))
 .nxt)))))))
 (.set 5 (.b (.bin .add) (.var 5) (.lit (.int .i64 1)))
 .nxt)))))
 (.set 1 (.lit (.int .i64 0))
 .ret)))))))
def f_ref34_belts : Fun:=⟨s_ref34_belts,[(.var 1)]⟩
abbrev v_ref34_belts : List Nat:=[0,2,3,1,4,5,6,37,44]
theorem vr_ref34_belts : VRof P n_ref34_belts s_ref34_belts f_ref34_belts v_ref34_belts 108:=vo Tryz.func62 (by kernel_rfl) Tryz.ntmps62 rfl
theorem r_ref34_belts : Fun.res f_ref34_belts=[(.var 1)]:=rfl
abbrev g_ref34_belts_0 : List Nat:=[1,2,4,7,8]
abbrev g_ref34_belts_1 : List Nat:=[1,5,6]
abbrev g_ref34_belts_2 : List Nat:=[1,6]
abbrev n_ref33_Outs : Nat:=63
def s_ref33_Outs : S :=
 (.eff false (some 2) (.box 93 (.var 0))
 (.set 1 (.lit (.int .i64 0))
 (.seq
 (.ite (.b (.bin .eql) (.u .len (.u .ld1 (.u (.fld 0) (.var 2)))) (.lit (.int .i64 0)))
 (.set 1 (.lit (.int .i64 0))
 .ret)
 .nxt)
 (.set 1 (.u .len (.u .ld1 (.b (.idx 1) (.u .ld1 (.u (.fld 0) (.var 2))) (.lit (.int .i64 0)))))
 .ret))))
def f_ref33_Outs : Fun:=⟨s_ref33_Outs,[(.var 1)]⟩
abbrev v_ref33_Outs : List Nat:=[0,2,1]
theorem vr_ref33_Outs : VRof P n_ref33_Outs s_ref33_Outs f_ref33_Outs v_ref33_Outs 12:=vo Tryz.func63 (by kernel_rfl) Tryz.ntmps63 rfl
theorem r_ref33_Outs : Fun.res f_ref33_Outs=[(.var 1)]:=rfl
abbrev n_ref34_place : Nat:=64
def s_ref34_place : S :=
 (.eff false (some 5) (.box 25 (.var 0))
 (.set 3 (.lit (.int .i64 0))
 (.set 4 (.lit (.int .i64 0))
 (.seq
 (.blk 0
 (.loop
 (.seq
 (.ite (.b (.bin .lss) (.var 4) (.u .len (.u .ld1 (.u (.fld 2) (.var 5)))))
 .nxt
 (.exit 0))
 (.seq
 (.blk 1
 (.ite (.ite (.b (.bin .eql) (.u .ld1 (.u (.fld 0) (.b (.idx 4) (.u .ld1 (.u (.fld 2) (.var 5))) (.var 4)))) (.var 1)) (.b (.bin .eql) (.u .ld1 (.u (.fld 1) (.b (.idx 4) (.u .ld1 (.u (.fld 2) (.var 5))) (.var 4)))) (.var 2)) (.lit (.bool false)))
 (.set 3 (.var 4)
 .ret)
 .nxt))
 (.set 4 (.b (.bin .add) (.var 4) (.lit (.int .i64 1)))
 .nxt)))))
 (.set 3 (.lit (.int .i64 (-1)))
 .ret)))))
def f_ref34_place : Fun:=⟨s_ref34_place,[(.var 3)]⟩
abbrev v_ref34_place : List Nat:=[0,1,2,6,7,3]
theorem vr_ref34_place : VRof P n_ref34_place s_ref34_place f_ref34_place v_ref34_place 34:=vo Tryz.func64 (by kernel_rfl) Tryz.ntmps64 rfl
theorem r_ref34_place : Fun.res f_ref34_place=[(.var 3)]:=rfl
abbrev g_ref34_place_0 : List Nat:=[3,4]
abbrev n_ref34_way : Nat:=65
def s_ref34_way : S :=
 (.eff false (some 7) (.box 25 (.var 0))
 (.set 3 (.lit (.int .i64 0))
 (.set 4 (.lit (.bool false))
 (.set 5 (.lit (.int .i64 0))
 (.set 6 (.lit (.int .i64 0))
 (.seq
 (.blk 0
 (.loop
 (.seq
 (.ite (.b (.bin .leq) (.var 6) (.u .len (.u .ld1 (.u (.fld 1) (.var 7)))))
 .nxt
 (.exit 0))
 (.seq
 (.blk 1
 (.call false (some 9) 63 (.cn (.u (.lda 1) (.b (.idx 1) (.u .ld1 (.u (.fld 1) (.var 7))) (.var 1))) .nl)
 (.seq
 (.ite (.b (.bin .eql) (.var 9) (.lit (.int .i64 0)))
 (.set 3 (.var 5)
 (.set 4 (.lit (.bool true))
 .ret))
 .nxt)
 (.seq
 (.both
 (.set 12 (.u .ld1 (.u (.fld 2) (.var 7)))
 (.set 10 (.u (.lda 4) (.var 7))
 (.chk (.u (.lda 1) (.b (.idx 1) (.u .ld1 (.u (.fld 1) (.var 7))) (.var 1)))
 (.chk (.var 2)
 (.eff false (some 8) (.alloc 74 [(.int .i64 0),(.int .i64 0),(.int .i64 0),(.int .i64 0)])
 (.call true (some 11) 92 (.cn (.u (.lda 1) (.b (.idx 1) (.u .ld1 (.u (.fld 1) (.var 7))) (.var 1))) (.cn (.var 2) .nl))
 (.call true (some 13) 64 (.cn (.var 10) (.cn (.var 1) (.cn (.var 11) .nl)))
 (.eff false none (.st 4 (.var 8) (.u (.lda 4) (.b (.idx 4) (.var 12) (.var 13))))
 .nxt))))))))
 (.both
 (.set 12 (.u .ld1 (.u (.fld 2) (.var 7)))
 (.set 10 (.u (.lda 4) (.var 7))
 (.call true (some 11) 92 (.cn (.u (.lda 1) (.b (.idx 1) (.u .ld1 (.u (.fld 1) (.var 7))) (.var 1))) (.cn (.var 2) .nl))
 (.eff false (some 8) (.alloc 74 [(.int .i64 0),(.int .i64 0),(.int .i64 0),(.int .i64 0)])
 (.call true (some 13) 64 (.cn (.var 10) (.cn (.var 1) (.cn (.var 11) .nl)))
 (.eff false none (.st 4 (.var 8) (.u (.lda 4) (.b (.idx 4) (.var 12) (.var 13))))
 .nxt))))))
 (.set 12 (.u .ld1 (.u (.fld 2) (.var 7)))
 (.set 10 (.u (.lda 4) (.var 7))
 (.call true (some 11) 92 (.cn (.u (.lda 1) (.b (.idx 1) (.u .ld1 (.u (.fld 1) (.var 7))) (.var 1))) (.cn (.var 2) .nl))
 (.call true (some 13) 64 (.cn (.var 10) (.cn (.var 1) (.cn (.var 11) .nl)))
 (.chk (.u (.lda 4) (.b (.idx 4) (.var 12) (.var 13)))
 (.eff false (some 8) (.alloc 74 [(.int .i64 0),(.int .i64 0),(.int .i64 0),(.int .i64 0)])
 (.eff false none (.st 4 (.var 8) (.u (.lda 4) (.b (.idx 4) (.var 12) (.var 13))))
 .nxt)))))))))
 (.set 5 (.b (.bin .add) (.var 5) (.u .ld1 (.u (.fld 3) (.var 8))))
 (.set 1 (.u .ld1 (.u (.fld 2) (.var 8)))
 .nxt))))))
 (.set 6 (.b (.bin .add) (.var 6) (.lit (.int .i64 1)))
 .nxt)))))
 (.set 3 (.lit (.int .i64 0))
 (.set 4 (.lit (.bool false))
 .ret))))))))
def f_ref34_way : Fun:=⟨s_ref34_way,[(.var 3),(.var 4)]⟩
abbrev v_ref34_way : List Nat:=[0,1,2,6,7,8,9,3,10,23,28,36,27,37]
theorem vr_ref34_way : VRof P n_ref34_way s_ref34_way f_ref34_way v_ref34_way 46:=vo Tryz.func65 (by kernel_rfl) Tryz.ntmps65 rfl
theorem r_ref34_way : Fun.res f_ref34_way=[(.var 3),(.var 4)]:=rfl
abbrev g_ref34_way_0 : List Nat:=[1,3,4,5,6,8,9,10,11,12,13]
abbrev n_slices_Clone : Nat:=67
def s_slices_Clone : S :=
 (.set 1 (.lit (.slice none 0 0))
 (.seq
 (.ite (.b (.eqs false) (.var 0) (.lit (.slice none 0 0)))
 (.set 1 (.lit (.slice none 0 0))
 .ret)
 .nxt)
 (.eff false (some 2) (.lit 3 1 0 [(.int .i64 0)] .nl)
 (.eff false (some 3) (.app 3 1 8 [(.int .i64 0)] (.var 2) (.var 0))
 (.set 1 (.var 3)
 .ret)))))
def f_slices_Clone : Fun:=⟨s_slices_Clone,[(.var 1)]⟩
abbrev v_slices_Clone : List Nat:=[0,2,5,7]
theorem vr_slices_Clone : VRof P n_slices_Clone s_slices_Clone f_slices_Clone v_slices_Clone 8:=vo Tryz.func67 (by kernel_rfl) Tryz.ntmps67 rfl
theorem r_slices_Clone : Fun.res f_slices_Clone=[(.var 1)]:=rfl
abbrev n_layout_Drains : Nat:=68
def s_layout_Drains : S :=
 (.eff false (some 3) (.box 25 (.var 0))
 (.set 1 (.lit (.bool false))
 (.set 2 (.lit (.int .i64 0))
 (.call false (some 15) 88 (.cn (.u (.lda 4) (.var 3)) .nl)
 (.set 4 (.var 15)
 (.seq
 (.ite (.b (.bin .neq) (.var 4) (.lit (.int .i64 0)))
 (.set 1 (.lit (.bool false))
 (.set 2 (.var 4)
 .ret))
 .nxt)
 (.set 6 (.u .len (.u .ld1 (.u (.fld 1) (.var 3))))
 (.set 5 (.lit (.int .i64 0))
 (.seq
 (.blk 0
 (.loop
 (.set 7 (.b (.bin .lss) (.var 5) (.var 6))
 (.seq
 (.ite (.var 7)
 .nxt
 (.exit 0))
 (.seq
 (.blk 1
 (.set 8 (.var 5)
 (.set 10 (.u .ld1 (.u (.fld 0) (.var 3)))
 (.set 9 (.lit (.int .i64 0))
 (.blk 2
 (.loop
 (.set 11 (.b (.bin .lss) (.var 9) (.var 10))
 (.seq
 (.ite (.var 11)
 .nxt
 (.exit 2))
 (.seq
 (.blk 3
 (.set 12 (.var 9)
 (.call false (some 16) 90 (.cn (.u (.lda 4) (.var 3)) (.cn (.var 8) (.cn (.var 12) .nl)))
 (.chk (.u (.ext 0) (.var 16))
 (.chk (.u (.ext 1) (.var 16))
 (.set 13 (.u (.ext 0) (.var 16))
 (.set 14 (.u (.ext 1) (.var 16))
 (.ite (.u (.un .not) (.var 14))
 (.set 1 (.lit (.bool false))
 (.set 2 (.lit (.int .i64 0))
 .ret))
 .nxt))))))))
 (.set 9 (.b (.bin .add) (.var 9) (.lit (.int .i64 1)))
 .nxt))))))))))
 (.set 5 (.b (.bin .add) (.var 5) (.lit (.int .i64 1)))
 .nxt))))))
 (.set 1 (.lit (.bool true))
 (.set 2 (.lit (.int .i64 0))
 .ret)))))))))))
def f_layout_Drains : Fun:=⟨s_layout_Drains,[(.var 1),(.var 2)]⟩
abbrev v_layout_Drains : List Nat:=[0,2,3,1,4,17,16,18,5,22,21,23,6,7,8,10,29]
theorem vr_layout_Drains : VRof P n_layout_Drains s_layout_Drains f_layout_Drains v_layout_Drains 36:=vo Tryz.func68 (by kernel_rfl) Tryz.ntmps68 rfl
theorem r_layout_Drains : Fun.res f_layout_Drains=[(.var 1),(.var 2)]:=rfl
abbrev g_layout_Drains_0 : List Nat:=[1,2,5,7,8,9,10,11,12,13,14,16]
abbrev g_layout_Drains_1 : List Nat:=[1,2,9,11,12,13,14,16]
abbrev n_slices_Cloneint_int : Nat:=69
def s_slices_Cloneint_int : S :=
 (.set 1 (.lit (.slice none 0 0))
 (.seq
 (.ite (.b (.eqs false) (.var 0) (.lit (.slice none 0 0)))
 (.set 1 (.lit (.slice none 0 0))
 .ret)
 .nxt)
 (.eff false (some 2) (.lit 3 1 0 [(.int .i64 0)] .nl)
 (.eff false (some 3) (.app 3 1 8 [(.int .i64 0)] (.var 2) (.var 0))
 (.set 1 (.var 3)
 .ret)))))
def f_slices_Cloneint_int : Fun:=⟨s_slices_Cloneint_int,[(.var 1)]⟩
abbrev v_slices_Cloneint_int : List Nat:=[0,2,5,7]
theorem vr_slices_Cloneint_int : VRof P n_slices_Cloneint_int s_slices_Cloneint_int f_slices_Cloneint_int v_slices_Cloneint_int 8:=vo Tryz.func69 (by kernel_rfl) Tryz.ntmps69 rfl
theorem r_slices_Cloneint_int : Fun.res f_slices_Cloneint_int=[(.var 1)]:=rfl
abbrev n_slices_Cloneapi_Belt_api_Belt : Nat:=70
def s_slices_Cloneapi_Belt_api_Belt : S :=
 (.set 1 (.lit (.slice none 0 0))
 (.seq
 (.ite (.b (.eqs false) (.var 0) (.lit (.slice none 0 0)))
 (.set 1 (.lit (.slice none 0 0))
 .ret)
 .nxt)
 (.eff false (some 2) (.lit 74 4 0 [(.int .i64 0),(.int .i64 0),(.int .i64 0),(.int .i64 0)] .nl)
 (.eff false (some 3) (.app 74 4 32 [(.int .i64 0),(.int .i64 0),(.int .i64 0),(.int .i64 0)] (.var 2) (.var 0))
 (.set 1 (.var 3)
 .ret)))))
def f_slices_Cloneapi_Belt_api_Belt : Fun:=⟨s_slices_Cloneapi_Belt_api_Belt,[(.var 1)]⟩
abbrev v_slices_Cloneapi_Belt_api_Belt : List Nat:=[0,2,5,7]
theorem vr_slices_Cloneapi_Belt_api_Belt : VRof P n_slices_Cloneapi_Belt_api_Belt s_slices_Cloneapi_Belt_api_Belt f_slices_Cloneapi_Belt_api_Belt v_slices_Cloneapi_Belt_api_Belt 8:=vo Tryz.func70 (by kernel_rfl) Tryz.ntmps70 rfl
theorem r_slices_Cloneapi_Belt_api_Belt : Fun.res f_slices_Cloneapi_Belt_api_Belt=[(.var 1)]:=rfl
abbrev n_belt_Belt_empty : Nat:=71
def s_belt_Belt_empty : S :=
 (.call false (some 6) 93 (.cn (.var 0) .nl)
 (.set 1 (.var 6)
 (.set 3 (.u .len (.var 1))
 (.set 2 (.lit (.int .i64 0))
 (.blk 0
 (.loop
 (.set 4 (.b (.bin .lss) (.var 2) (.var 3))
 (.seq
 (.ite (.var 4)
 .nxt
 (.exit 0))
 (.seq
 (.blk 1
 (.set 5 (.var 2)
 (.eff false (some 7) (.mk 3 1 8 [(.int .i64 0)] (.u .ld1 (.u (.fld 17) (.u .nilc (.var 0)))) (.u .ld1 (.u (.fld 17) (.u .nilc (.var 0)))))
 (.eff false none (.st 1 (.b (.idx 1) (.var 1) (.var 5)) (.var 7))
 .nxt))))
 (.set 2 (.b (.bin .add) (.var 2) (.lit (.int .i64 1)))
 .nxt))))))))))
def f_belt_Belt_empty : Fun:=⟨s_belt_Belt_empty,[]⟩
abbrev v_belt_Belt_empty : List Nat:=[0,2,8,7,9,3,5,17]
theorem vr_belt_Belt_empty : VRof P n_belt_Belt_empty s_belt_Belt_empty f_belt_Belt_empty v_belt_Belt_empty 20:=vo Tryz.func71 (by kernel_rfl) Tryz.ntmps71 rfl
theorem r_belt_Belt_empty : Fun.res f_belt_Belt_empty=[]:=rfl
abbrev g_belt_Belt_empty_0 : List Nat:=[2,4,5,7]
abbrev n_plant_state_bin : Nat:=75
def s_plant_state_bin : S :=
 (.set 2 (.lit (.bool false))
 (.call false (some 3) 95 (.cn (.u (.lda 1) (.b (.idx 1) (.u .ld1 (.u (.fld 1) (.u (.fld 0) (.u .nilc (.var 0))))) (.var 1))) .nl)
 (.set 2 (.b (.bin .eql) (.var 3) (.lit (.int .i64 0)))
 .ret)))
def f_plant_state_bin : Fun:=⟨s_plant_state_bin,[(.var 2)]⟩
abbrev v_plant_state_bin : List Nat:=[0,1,4,13]
theorem vr_plant_state_bin : VRof P n_plant_state_bin s_plant_state_bin f_plant_state_bin v_plant_state_bin 15:=vo Tryz.func75 (by kernel_rfl) Tryz.ntmps75 rfl
theorem r_plant_state_bin : Fun.res f_plant_state_bin=[(.var 2)]:=rfl
abbrev n_layout_Graph : Nat:=76
def s_layout_Graph : S :=
 (.eff false (some 3) (.box 25 (.var 0))
 (.eff false (some 1) (.alloc 96 [(.int .i64 0),(.slice none 0 0)])
 (.set 2 (.lit (.int .i64 0))
 (.call false (some 11) 88 (.cn (.u (.lda 4) (.var 3)) .nl)
 (.set 4 (.var 11)
 (.seq
 (.ite (.b (.bin .neq) (.var 4) (.lit (.int .i64 0)))
 (.chk (.bld [(.int .i64 0),(.slice none 0 0)] .nl)
 (.eff false none (.st 2 (.var 1) (.bld [(.int .i64 0),(.slice none 0 0)] .nl))
 (.set 2 (.var 4)
 .ret)))
 .nxt)
 (.chk (.bld [(.int .i64 0),(.slice none 0 0)] (.pl 0 1 (.u .len (.u .ld1 (.u (.fld 1) (.var 3)))) .nl))
 (.eff false (some 9) (.alloc 96 [(.int .i64 0),(.slice none 0 0)])
 (.eff false none (.st 2 (.var 9) (.bld [(.int .i64 0),(.slice none 0 0)] (.pl 0 1 (.u .len (.u .ld1 (.u (.fld 1) (.var 3)))) .nl)))
 (.set 8 (.u .ld1 (.u (.fld 2) (.var 3)))
 (.set 6 (.u .len (.var 8))
 (.set 5 (.lit (.int .i64 0))
 (.seq
 (.blk 0
 (.loop
 (.set 7 (.b (.bin .lss) (.var 5) (.var 6))
 (.seq
 (.ite (.var 7)
 .nxt
 (.exit 0))
 (.seq
 (.blk 1
 (.chk (.u (.lda 4) (.b (.idx 4) (.var 8) (.var 5)))
 (.eff false (some 10) (.alloc 74 [(.int .i64 0),(.int .i64 0),(.int .i64 0),(.int .i64 0)])
 (.eff false none (.st 4 (.var 10) (.u (.lda 4) (.b (.idx 4) (.var 8) (.var 5))))
 (.chk (.u .ld1 (.u (.fld 1) (.var 9)))
 (.chk (.bld [(.int .i64 0),(.int .i64 0)] (.pl 0 1 (.u .ld1 (.u (.fld 0) (.var 10))) (.pl 1 1 (.u .ld1 (.u (.fld 2) (.var 10))) .nl)))
 (.eff false (some 12) (.lit 102 2 1 [(.int .i64 0),(.int .i64 0)] (.pl 0 2 (.bld [(.int .i64 0),(.int .i64 0)] (.pl 0 1 (.u .ld1 (.u (.fld 0) (.var 10))) (.pl 1 1 (.u .ld1 (.u (.fld 2) (.var 10))) .nl))) .nl))
 (.eff false (some 13) (.app 102 2 16 [(.int .i64 0),(.int .i64 0)] (.u .ld1 (.u (.fld 1) (.var 9))) (.var 12))
 (.eff false none (.st 1 (.u (.fld 1) (.var 9)) (.var 13))
 .nxt)))))))))
 (.set 5 (.b (.bin .add) (.var 5) (.lit (.int .i64 1)))
 .nxt))))))
 (.eff false none (.st 2 (.var 1) (.u (.lda 2) (.var 9)))
 (.set 2 (.lit (.int .i64 0))
 .ret)))))))))))))))
def f_layout_Graph : Fun:=⟨s_layout_Graph,[(.u (.lda 2) (.var 1)),(.var 2)]⟩
abbrev v_layout_Graph : List Nat:=[0,2,3,1,4,21,20,22,19,5,7,9,32,33]
theorem vr_layout_Graph : VRof P n_layout_Graph s_layout_Graph f_layout_Graph v_layout_Graph 37:=vo Tryz.func76 (by kernel_rfl) Tryz.ntmps76 rfl
theorem r_layout_Graph : Fun.res f_layout_Graph=[(.u (.lda 2) (.var 1)),(.var 2)]:=rfl
abbrev g_layout_Graph_0 : List Nat:=[5,7,10,12,13]
abbrev n_graph_Groups : Nat:=77
def s_graph_Groups : S :=
 (.eff false (some 3) (.box 96 (.var 0))
 (.set 1 (.lit (.slice none 0 0))
 (.set 2 (.lit (.int .i64 0))
 (.call false (some 20) 96 (.cn (.u (.lda 2) (.var 3)) .nl)
 (.set 4 (.var 20)
 (.seq
 (.ite (.b (.bin .neq) (.var 4) (.lit (.int .i64 0)))
 (.set 1 (.lit (.slice none 0 0))
 (.set 2 (.var 4)
 .ret))
 .nxt)
 (.set 5 (.lit (.slice none 0 0))
 (.eff false (some 21) (.mk 4 1 1 [(.bool false)] (.u .ld1 (.u (.fld 0) (.var 3))) (.u .ld1 (.u (.fld 0) (.var 3))))
 (.set 6 (.var 21)
 (.set 8 (.u .ld1 (.u (.fld 0) (.var 3)))
 (.set 7 (.lit (.int .i64 0))
 (.seq
 (.blk 0
 (.loop
 (.set 9 (.b (.bin .lss) (.var 7) (.var 8))
 (.seq
 (.ite (.var 9)
 .nxt
 (.exit 0))
 (.seq
 (.blk 1
 (.set 10 (.var 7)
 (.seq
 (.ite (.u .ld1 (.b (.idx 1) (.var 6) (.var 10)))
 (.exit 1)
 .nxt)
 (.call false (some 22) 97 (.cn (.u (.lda 2) (.var 3)) (.cn (.var 10) .nl))
 (.chk (.u (.ext 0) (.var 22))
 (.chk (.u (.ext 1) (.var 22))
 (.set 11 (.u (.ext 0) (.var 22))
 (.set 12 (.u (.ext 1) (.var 22))
 (.call false (some 23) 50 (.cn (.u (.lda 2) (.var 3)) (.cn (.var 10) .nl))
 (.chk (.u (.ext 0) (.var 23))
 (.chk (.u (.ext 1) (.var 23))
 (.set 13 (.u (.ext 0) (.var 23))
 (.set 14 (.u (.ext 1) (.var 23))
 (.set 15 (.lit (.slice none 0 0))
 (.set 17 (.u .ld1 (.u (.fld 0) (.var 3)))
 (.set 16 (.lit (.int .i64 0))
 (.seq
 (.blk 2
 (.loop
 (.set 18 (.b (.bin .lss) (.var 16) (.var 17))
 (.seq
 (.ite (.var 18)
 .nxt
 (.exit 2))
 (.seq
 (.blk 3
 (.set 19 (.var 16)
 (.ite (.ite (.u .ld1 (.b (.idx 1) (.var 11) (.var 19))) (.u .ld1 (.b (.idx 1) (.var 13) (.var 19))) (.lit (.bool false)))
 (.eff false none (.st 1 (.b (.idx 1) (.var 6) (.var 19)) (.lit (.bool true)))
 (.eff false (some 24) (.lit 3 1 1 [(.int .i64 0)] (.pl 0 1 (.var 19) .nl))
 (.eff false (some 26) (.app 3 1 8 [(.int .i64 0)] (.var 15) (.var 24))
 (.set 15 (.var 26)
 .nxt))))
 .nxt)))
 (.set 16 (.b (.bin .add) (.var 16) (.lit (.int .i64 1)))
 .nxt))))))
 (.eff false (some 25) (.lit 37 1 1 [(.slice none 0 0)] (.pl 0 1 (.var 15) .nl))
 (.eff false (some 27) (.app 37 1 24 [(.slice none 0 0)] (.var 5) (.var 25))
 (.set 5 (.var 27)
 .nxt))))))))))))))))))))
 (.set 7 (.b (.bin .add) (.var 7) (.lit (.int .i64 1)))
 .nxt))))))
 (.set 1 (.var 5)
 (.set 2 (.lit (.int .i64 0))
 .ret))))))))))))))
def f_graph_Groups : Fun:=⟨s_graph_Groups,[(.var 1),(.var 2)]⟩
abbrev v_graph_Groups : List Nat:=[0,2,3,1,4,5,6,24,23,25,7,8,9,10,11,12,45,44,46,13,15,21,34,40,63,68,64,69]
theorem vr_graph_Groups : VRof P n_graph_Groups s_graph_Groups f_graph_Groups v_graph_Groups 72:=vo Tryz.func77 (by kernel_rfl) Tryz.ntmps77 rfl
theorem r_graph_Groups : Fun.res f_graph_Groups=[(.var 1),(.var 2)]:=rfl
abbrev g_graph_Groups_0 : List Nat:=[5,7,9,10,11,12,13,14,15,16,17,18,19,22,23,24,25,26,27]
abbrev g_graph_Groups_1 : List Nat:=[15,16,18,19,24,26]
abbrev n_material_Valid : Nat:=78
def s_material_Valid : S :=
 (.set 2 (.lit (.bool false))
 (.chk (.ite (.b (.bin .eql) (.u .len (.var 0)) (.var 1)) (.var 0) (.lit undef))
 (.seq
 (.ite (.b (.bin .eql) (.u .len (.var 0)) (.var 1))
 (.eff false (some 3) (.lit 38 1 1 [(.slice none 0 0)] (.pl 0 1 (.var 0) .nl))
 (.call false (some 4) 98 (.cn (.var 3) .nl)
 (.set 2 (.b (.bin .eql) (.var 4) (.lit (.int .i64 0)))
 .nxt)))
 (.set 3 (.lit undef)
 (.set 4 (.lit undef)
 (.set 2 (.lit (.bool false))
 .nxt))))
 .ret)))
def f_material_Valid : Fun:=⟨s_material_Valid,[(.var 2)]⟩
abbrev v_material_Valid : List Nat:=[0,1,4,11,12]
theorem vr_material_Valid : VRof P n_material_Valid s_material_Valid f_material_Valid v_material_Valid 15:=vo Tryz.func78 (by kernel_rfl) Tryz.ntmps78 rfl
theorem r_material_Valid : Fun.res f_material_Valid=[(.var 2)]:=rfl
abbrev n_graph_visit : Nat:=79
def s_graph_visit : S :=
 (.eff false (some 5) (.box 96 (.var 0))
 (.eff false (some 8) (.box 135 (.var 2))
 (.set 3 (.lit (.slice none 0 0))
 (.set 4 (.lit (.int .i64 0))
 (.call false (some 10) 96 (.cn (.u (.lda 2) (.var 5)) .nl)
 (.set 6 (.var 10)
 (.seq
 (.ite (.b (.bin .neq) (.var 6) (.lit (.int .i64 0)))
 (.set 3 (.lit (.slice none 0 0))
 (.set 4 (.var 6)
 .ret))
 .nxt)
 (.seq
 (.ite (.ite (.b (.bin .lss) (.var 1) (.lit (.int .i64 0))) (.lit (.bool true)) (.b (.bin .geq) (.var 1) (.u .ld1 (.u (.fld 0) (.var 5)))))
 (.set 3 (.lit (.slice none 0 0))
 (.set 4 (.lit (.int .i64 7))
 .ret))
 .nxt)
 (.eff false (some 11) (.mk 4 1 1 [(.bool false)] (.u .ld1 (.u (.fld 0) (.var 5))) (.u .ld1 (.u (.fld 0) (.var 5))))
 (.eff false (some 7) (.alloc 36 [(.slice none 0 0)])
 (.eff false none (.st 1 (.var 7) (.var 11))
 (.eff false (some 9) (.alloc 145 [.nilFunc])
 (.chk (.fn 99 (.cn (.var 7) (.cn (.var 5) (.cn (.var 8) (.cn (.var 9) .nl)))))
 (.eff false none (.st 1 (.var 9) (.fn 99 (.cn (.var 7) (.cn (.var 5) (.cn (.var 8) (.cn (.var 9) .nl))))))
 (.callv false none (.u .ld1 (.var 9)) (.cn (.var 1) .nl)
 (.set 3 (.u .ld1 (.var 7))
 (.set 4 (.lit (.int .i64 0))
 .ret)))))))))))))))))
def f_graph_visit : Fun:=⟨s_graph_visit,[(.var 3),(.var 4)]⟩
abbrev v_graph_visit : List Nat:=[0,1,2,6,7,3,8,9,5,10,12,26]
theorem vr_graph_visit : VRof P n_graph_visit s_graph_visit f_graph_visit v_graph_visit 32:=vo Tryz.func79 (by kernel_rfl) Tryz.ntmps79 rfl
theorem r_graph_visit : Fun.res f_graph_visit=[(.var 3),(.var 4)]:=rfl
abbrev n_graph_Back_1 : Nat:=80
def s_graph_Back_1 : S :=
 (.eff false (some 3) (.box 102 (.var 0))
 (.set 1 (.lit (.int .i64 0))
 (.set 2 (.lit (.int .i64 0))
 (.chk (.u .ld1 (.u (.fld 1) (.var 3)))
 (.chk (.u .ld1 (.u (.fld 0) (.var 3)))
 (.set 1 (.u .ld1 (.u (.fld 1) (.var 3)))
 (.set 2 (.u .ld1 (.u (.fld 0) (.var 3)))
 .ret)))))))
def f_graph_Back_1 : Fun:=⟨s_graph_Back_1,[(.var 1),(.var 2)]⟩
abbrev v_graph_Back_1 : List Nat:=[0,2,3,1]
theorem vr_graph_Back_1 : VRof P n_graph_Back_1 s_graph_Back_1 f_graph_Back_1 v_graph_Back_1 8:=vo Tryz.func80 (by kernel_rfl) Tryz.ntmps80 rfl
theorem r_graph_Back_1 : Fun.res f_graph_Back_1=[(.var 1),(.var 2)]:=rfl
abbrev n_slices_IndexFuncapi_Arc_api_Arc : Nat:=81
def s_slices_IndexFuncapi_Arc_api_Arc : S :=
 (.set 2 (.lit (.int .i64 0))
 (.set 4 (.u .len (.var 0))
 (.set 3 (.lit (.int .i64 0))
 (.seq
 (.blk 0
 (.loop
 (.set 5 (.b (.bin .lss) (.var 3) (.var 4))
 (.seq
 (.ite (.var 5)
 .nxt
 (.exit 0))
 (.seq
 (.blk 1
 (.set 6 (.var 3)
 (.callv false (some 7) (.var 1) (.cn (.u (.lda 2) (.b (.idx 2) (.var 0) (.var 6))) .nl)
 (.ite (.var 7)
 (.set 2 (.var 6)
 .ret)
 .nxt))))
 (.set 3 (.b (.bin .add) (.var 3) (.lit (.int .i64 1)))
 .nxt))))))
 (.set 2 (.lit (.int .i64 (-1)))
 .ret)))))
def f_slices_IndexFuncapi_Arc_api_Arc : Fun:=⟨s_slices_IndexFuncapi_Arc_api_Arc,[(.var 2)]⟩
abbrev v_slices_IndexFuncapi_Arc_api_Arc : List Nat:=[0,1,4,8,7,9,5,16]
theorem vr_slices_IndexFuncapi_Arc_api_Arc : VRof P n_slices_IndexFuncapi_Arc_api_Arc s_slices_IndexFuncapi_Arc_api_Arc f_slices_IndexFuncapi_Arc_api_Arc v_slices_IndexFuncapi_Arc_api_Arc 19:=vo Tryz.func81 (by kernel_rfl) Tryz.ntmps81 rfl
theorem r_slices_IndexFuncapi_Arc_api_Arc : Fun.res f_slices_IndexFuncapi_Arc_api_Arc=[(.var 2)]:=rfl
abbrev g_slices_IndexFuncapi_Arc_api_Arc_0 : List Nat:=[2,3,5,6,7]
abbrev n_slices_IndexFunc : Nat:=82
def s_slices_IndexFunc : S :=
 (.set 2 (.lit (.int .i64 0))
 (.set 4 (.u .len (.var 0))
 (.set 3 (.lit (.int .i64 0))
 (.seq
 (.blk 0
 (.loop
 (.set 5 (.b (.bin .lss) (.var 3) (.var 4))
 (.seq
 (.ite (.var 5)
 .nxt
 (.exit 0))
 (.seq
 (.blk 1
 (.set 6 (.var 3)
 (.callv false (some 7) (.var 1) (.cn (.u .ld1 (.b (.idx 1) (.var 0) (.var 6))) .nl)
 (.ite (.var 7)
 (.set 2 (.var 6)
 .ret)
 .nxt))))
 (.set 3 (.b (.bin .add) (.var 3) (.lit (.int .i64 1)))
 .nxt))))))
 (.set 2 (.lit (.int .i64 (-1)))
 .ret)))))
def f_slices_IndexFunc : Fun:=⟨s_slices_IndexFunc,[(.var 2)]⟩
abbrev v_slices_IndexFunc : List Nat:=[0,1,4,8,7,9,5,16]
theorem vr_slices_IndexFunc : VRof P n_slices_IndexFunc s_slices_IndexFunc f_slices_IndexFunc v_slices_IndexFunc 19:=vo Tryz.func82 (by kernel_rfl) Tryz.ntmps82 rfl
theorem r_slices_IndexFunc : Fun.res f_slices_IndexFunc=[(.var 2)]:=rfl
abbrev g_slices_IndexFunc_0 : List Nat:=[2,3,5,6,7]
abbrev n_belt_Belt_Total : Nat:=83
def s_belt_Belt_Total : S :=
 (.set 1 (.lit (.slice none 0 0))
 (.seq
 (.ite (.b (.eqp false) (.var 0) (.lit (.pointer none)))
 (.set 1 (.lit (.slice none 0 0))
 .ret)
 .nxt)
 (.eff false (some 14) (.mk 3 1 8 [(.int .i64 0)] (.u .ld1 (.u (.fld 17) (.u .nilc (.var 0)))) (.u .ld1 (.u (.fld 17) (.u .nilc (.var 0)))))
 (.set 2 (.var 14)
 (.call false (some 6) 93 (.cn (.var 0) .nl)
 (.set 4 (.u .len (.var 6))
 (.set 3 (.lit (.int .i64 0))
 (.seq
 (.blk 0
 (.loop
 (.set 5 (.b (.bin .lss) (.var 3) (.var 4))
 (.seq
 (.ite (.var 5)
 .nxt
 (.exit 0))
 (.seq
 (.blk 1
 (.set 7 (.u .ld1 (.b (.idx 1) (.var 6) (.var 3)))
 (.set 11 (.var 7)
 (.set 9 (.u .len (.var 11))
 (.set 8 (.lit (.int .i64 0))
 (.blk 2
 (.loop
 (.set 10 (.b (.bin .lss) (.var 8) (.var 9))
 (.seq
 (.ite (.var 10)
 .nxt
 (.exit 2))
 (.seq
 (.blk 3
 (.chk (.u .ld1 (.b (.idx 1) (.var 11) (.var 8)))
 (.set 12 (.var 8)
 (.set 13 (.u .ld1 (.b (.idx 1) (.var 11) (.var 8)))
 (.eff false none (.st 1 (.b (.idx 1) (.var 2) (.var 12)) (.b (.bin .add) (.u .ld1 (.b (.idx 1) (.var 2) (.var 12))) (.var 13)))
 .nxt)))))
 (.set 8 (.b (.bin .add) (.var 8) (.lit (.int .i64 1)))
 .nxt)))))))))))
 (.set 3 (.b (.bin .add) (.var 3) (.lit (.int .i64 1)))
 .nxt))))))
 (.set 1 (.var 2)
 .ret)))))))))
def f_belt_Belt_Total : Fun:=⟨s_belt_Belt_Total,[(.var 1)]⟩
abbrev v_belt_Belt_Total : List Nat:=[0,2,3,18,17,19,16,5,24,23,25,22,6,7,14]
theorem vr_belt_Belt_Total : VRof P n_belt_Belt_Total s_belt_Belt_Total f_belt_Belt_Total v_belt_Belt_Total 39:=vo Tryz.func83 (by kernel_rfl) Tryz.ntmps83 rfl
theorem r_belt_Belt_Total : Fun.res f_belt_Belt_Total=[(.var 1)]:=rfl
abbrev g_belt_Belt_Total_0 : List Nat:=[3,5,7,8,9,10,11,12,13]
abbrev g_belt_Belt_Total_1 : List Nat:=[8,10,12,13]
abbrev n_slices_Cloneapi_Mix_api_Mix : Nat:=84
def s_slices_Cloneapi_Mix_api_Mix : S :=
 (.set 1 (.lit (.slice none 0 0))
 (.seq
 (.ite (.b (.eqs false) (.var 0) (.lit (.slice none 0 0)))
 (.set 1 (.lit (.slice none 0 0))
 .ret)
 .nxt)
 (.eff false (some 2) (.lit 38 1 0 [(.slice none 0 0)] .nl)
 (.eff false (some 3) (.app 38 1 24 [(.slice none 0 0)] (.var 2) (.var 0))
 (.set 1 (.var 3)
 .ret)))))
def f_slices_Cloneapi_Mix_api_Mix : Fun:=⟨s_slices_Cloneapi_Mix_api_Mix,[(.var 1)]⟩
abbrev v_slices_Cloneapi_Mix_api_Mix : List Nat:=[0,2,5,7]
theorem vr_slices_Cloneapi_Mix_api_Mix : VRof P n_slices_Cloneapi_Mix_api_Mix s_slices_Cloneapi_Mix_api_Mix f_slices_Cloneapi_Mix_api_Mix v_slices_Cloneapi_Mix_api_Mix 8:=vo Tryz.func84 (by kernel_rfl) Tryz.ntmps84 rfl
theorem r_slices_Cloneapi_Mix_api_Mix : Fun.res f_slices_Cloneapi_Mix_api_Mix=[(.var 1)]:=rfl
abbrev v_plant_state_step_1 : List Nat:=[0,1,2]
abbrev n_plant_state_move : Nat:=86
def s_plant_state_move : S :=
 (.set 2 (.lit (.slice none 0 0))
 (.set 3 (.lit (.int .i64 0))
 (.set 4 (.b (.idx 2) (.u .ld1 (.u (.fld 5) (.u .nilc (.var 0)))) (.var 1))
 (.set 5 (.u .ld1 (.u (.fld 0) (.u .nilc (.var 4))))
 (.call false (some 6) 30 (.cn (.var 0) .nl)
 (.eff false none (.st 1 (.u (.fld 0) (.u .nilc (.var 4))) (.var 6))
 (.seq
 (.ite (.b (.eqp false) (.u .ld1 (.u (.fld 1) (.u .nilc (.var 4)))) (.lit (.pointer none)))
 (.set 2 (.var 5)
 (.set 3 (.lit (.int .i64 0))
 .ret))
 .nxt)
 (.call false (some 7) 100 (.cn (.u .ld1 (.u (.fld 1) (.u .nilc (.var 4)))) (.cn (.var 5) .nl))
 (.chk (.u (.ext 0) (.var 7))
 (.chk (.u (.ext 1) (.var 7))
 (.set 2 (.u (.ext 0) (.var 7))
 (.set 3 (.u (.ext 1) (.var 7))
 .ret))))))))))))
def f_plant_state_move : Fun:=⟨s_plant_state_move,[(.var 2),(.var 3)]⟩
abbrev v_plant_state_move : List Nat:=[0,1,4,5,6,7,20,34]
theorem vr_plant_state_move : VRof P n_plant_state_move s_plant_state_move f_plant_state_move v_plant_state_move 37:=vo Tryz.func86 (by kernel_rfl) Tryz.ntmps86 rfl
theorem r_plant_state_move : Fun.res f_plant_state_move=[(.var 2),(.var 3)]:=rfl
abbrev n_plant_state_distribute : Nat:=87
def s_plant_state_distribute : S :=
 (.set 2 (.lit (.int .i64 0))
 (.call false (some 13) 101 (.cn (.u (.lda 1) (.b (.idx 1) (.u .ld1 (.u (.fld 1) (.u (.fld 0) (.u .nilc (.var 0))))) (.var 1))) (.cn (.u .ld1 (.b (.idx 1) (.u .ld1 (.u (.fld 4) (.u .nilc (.var 0)))) (.var 1))) .nl))
 (.chk (.u (.ext 0) (.var 13))
 (.chk (.u (.ext 1) (.var 13))
 (.set 3 (.u (.ext 0) (.var 13))
 (.set 4 (.u (.ext 1) (.var 13))
 (.seq
 (.ite (.b (.bin .neq) (.var 4) (.lit (.int .i64 0)))
 (.set 2 (.var 4)
 .ret)
 .nxt)
 (.set 8 (.var 3)
 (.set 6 (.u .len (.var 8))
 (.set 5 (.lit (.int .i64 0))
 (.seq
 (.blk 0
 (.loop
 (.set 7 (.b (.bin .lss) (.var 5) (.var 6))
 (.seq
 (.ite (.var 7)
 .nxt
 (.exit 0))
 (.seq
 (.blk 1
 (.chk (.u .ld1 (.b (.idx 1) (.var 8) (.var 5)))
 (.set 9 (.var 5)
 (.set 10 (.u .ld1 (.b (.idx 1) (.var 8) (.var 5)))
 (.call false (some 14) 102 (.cn (.u (.lda 4) (.u (.fld 0) (.u .nilc (.var 0)))) (.cn (.var 1) (.cn (.var 9) .nl)))
 (.chk (.u (.ext 0) (.var 14))
 (.chk (.u (.ext 1) (.var 14))
 (.set 11 (.u (.ext 0) (.var 14))
 (.set 12 (.u (.ext 1) (.var 14))
 (.seq
 (.ite (.b (.bin .neq) (.var 12) (.lit (.int .i64 0)))
 (.set 2 (.var 12)
 .ret)
 .nxt)
 (.call false none 48 (.cn (.u .ld1 (.u (.fld 0) (.b (.idx 2) (.u .ld1 (.u (.fld 5) (.u .nilc (.var 0)))) (.var 11)))) (.cn (.var 10) .nl))
 .nxt)))))))))))
 (.set 5 (.b (.bin .add) (.var 5) (.lit (.int .i64 1)))
 .nxt))))))
 (.set 15 (.u .ld1 (.u (.fld 4) (.u .nilc (.var 0))))
 (.call true (some 16) 30 (.cn (.var 0) .nl)
 (.eff false none (.st 1 (.b (.idx 1) (.var 15) (.var 1)) (.var 16))
 (.set 2 (.lit (.int .i64 0))
 .ret)))))))))))))))
def f_plant_state_distribute : Fun:=⟨s_plant_state_distribute,[(.var 2)]⟩
abbrev v_plant_state_distribute : List Nat:=[0,1,4,5,6,35,34,36,33,7,8,9,10,27,47,67,70]
theorem vr_plant_state_distribute : VRof P n_plant_state_distribute s_plant_state_distribute f_plant_state_distribute v_plant_state_distribute 72:=vo Tryz.func87 (by kernel_rfl) Tryz.ntmps87 rfl
theorem r_plant_state_distribute : Fun.res f_plant_state_distribute=[(.var 2)]:=rfl
abbrev g_plant_state_distribute_0 : List Nat:=[2,5,7,9,10,11,12,14]
abbrev n_layout_Check : Nat:=88
def s_layout_Check : S :=
 (.eff false (some 2) (.box 25 (.var 0))
 (.set 1 (.lit (.int .i64 0))
 (.seq
 (.blk 0
 (.set 3 (.ite (.b (.bin .lss) (.u .ld1 (.u (.fld 0) (.var 2))) (.lit (.int .i64 1))) (.lit (.bool true)) (.b (.bin .gtr) (.u .ld1 (.u (.fld 0) (.var 2))) (.lit (.int .i64 16))))
 (.ite (.var 3)
 (.set 1 (.lit (.int .i64 1))
 .ret)
 (.set 4 (.b (.bin .eql) (.u .len (.u .ld1 (.u (.fld 1) (.var 2)))) (.lit (.int .i64 0)))
 (.ite (.var 4)
 (.set 1 (.lit (.int .i64 10))
 .ret)
 (.set 5 (.ite (.b (.bin .gtr) (.u .len (.u .ld1 (.u (.fld 1) (.var 2)))) (.lit (.int .i64 24))) (.lit (.bool true)) (.b (.bin .gtr) (.u .len (.u .ld1 (.u (.fld 2) (.var 2)))) (.lit (.int .i64 48))))
 (.ite (.var 5)
 (.set 1 (.lit (.int .i64 8))
 .ret)
 .nxt)))))))
 (.set 9 (.u .ld1 (.u (.fld 1) (.var 2)))
 (.set 7 (.u .len (.var 9))
 (.set 6 (.lit (.int .i64 0))
 (.seq
 (.blk 1
 (.loop
 (.set 8 (.b (.bin .lss) (.var 6) (.var 7))
 (.seq
 (.ite (.var 8)
 .nxt
 (.exit 1))
 (.seq
 (.blk 2
 (.chk (.u (.lda 1) (.b (.idx 1) (.var 9) (.var 6)))
 (.eff false (some 10) (.alloc 93 [(.slice none 0 0)])
 (.eff false none (.st 1 (.var 10) (.u (.lda 1) (.b (.idx 1) (.var 9) (.var 6))))
 (.call false (some 15) 103 (.cn (.u (.lda 1) (.var 10)) (.cn (.u .ld1 (.u (.fld 0) (.var 2))) .nl))
 (.set 11 (.var 15)
 (.ite (.b (.bin .neq) (.var 11) (.lit (.int .i64 0)))
 (.set 1 (.var 11)
 .ret)
 .nxt)))))))
 (.set 6 (.b (.bin .add) (.var 6) (.lit (.int .i64 1)))
 .nxt))))))
 (.call false (some 16) 104 (.cn (.u (.lda 4) (.var 2)) .nl)
 (.set 12 (.var 16)
 (.seq
 (.ite (.b (.bin .neq) (.var 12) (.lit (.int .i64 0)))
 (.set 1 (.var 12)
 .ret)
 .nxt)
 (.seq
 (.blk 3
 (.call false (some 17) 89 (.cn (.u (.lda 4) (.var 2)) (.cn (.u .ld1 (.u (.fld 3) (.var 2))) .nl))
 (.set 13 (.u (.un .not) (.var 17))
 (.ite (.var 13)
 (.set 1 (.lit (.int .i64 7))
 .ret)
 (.call false (some 18) 105 (.cn (.u (.lda 4) (.var 2)) (.cn (.u .ld1 (.u (.fld 3) (.var 2))) .nl))
 (.set 14 (.var 18)
 (.ite (.var 14)
 (.set 1 (.lit (.int .i64 13))
 .ret)
 .nxt)))))))
 (.set 1 (.lit (.int .i64 0))
 .ret))))))))))))
def f_layout_Check : Fun:=⟨s_layout_Check,[(.var 1)]⟩
abbrev v_layout_Check : List Nat:=[0,2,1,7,16,21,35,34,36,33,4,5,6,52,58,42,48,56,62]
theorem vr_layout_Check : VRof P n_layout_Check s_layout_Check f_layout_Check v_layout_Check 63:=vo Tryz.func88 (by kernel_rfl) Tryz.ntmps88 rfl
theorem r_layout_Check : Fun.res f_layout_Check=[(.var 1)]:=rfl
abbrev g_layout_Check_0 : List Nat:=[1,6,8,10,11,15]
abbrev n_layout_has : Nat:=89
def s_layout_has : S :=
 (.eff false (some 3) (.box 25 (.var 0))
 (.set 2 (.lit (.bool false))
 (.set 2 (.ite (.b (.bin .geq) (.var 1) (.lit (.int .i64 0))) (.b (.bin .lss) (.var 1) (.u .len (.u .ld1 (.u (.fld 1) (.var 3))))) (.lit (.bool false)))
 .ret)))
def f_layout_has : Fun:=⟨s_layout_has,[(.var 2)]⟩
abbrev v_layout_has : List Nat:=[0,1,4,2]
theorem vr_layout_has : VRof P n_layout_has s_layout_has f_layout_has v_layout_has 14:=vo Tryz.func89 (by kernel_rfl) Tryz.ntmps89 rfl
theorem r_layout_has : Fun.res f_layout_has=[(.var 2)]:=rfl
abbrev n_layout_way : Nat:=90
def s_layout_way : S :=
 (.eff false (some 7) (.box 25 (.var 0))
 (.set 3 (.lit (.int .i64 0))
 (.set 4 (.lit (.bool false))
 (.eff false (some 8) (.alloc 149 (List.replicate 24 (.bool false)))
 (.set 5 (.var 1)
 (.set 6 (.lit (.int .i64 0))
 (.seq
 (.blk 0
 (.loop
 (.call false (some 10) 105 (.cn (.u (.lda 4) (.var 7)) (.cn (.var 5) .nl))
 (.seq
 (.ite (.u (.un .not) (.var 10))
 .nxt
 (.exit 0))
 (.blk 1
 (.seq
 (.ite (.u .ld1 (.b (.idxa 24 1) (.var 8) (.var 5)))
 (.exit 0)
 .nxt)
 (.eff false none (.st 1 (.b (.idxa 24 1) (.var 8) (.var 5)) (.lit (.bool true)))
 (.seq
 (.both
 (.set 14 (.u .ld1 (.u (.fld 2) (.var 7)))
 (.set 11 (.u (.lda 4) (.var 7))
 (.chk (.u (.lda 1) (.b (.idx 1) (.u .ld1 (.u (.fld 1) (.var 7))) (.var 5)))
 (.chk (.var 2)
 (.eff false (some 9) (.alloc 74 [(.int .i64 0),(.int .i64 0),(.int .i64 0),(.int .i64 0)])
 (.call true (some 12) 107 (.cn (.u (.lda 1) (.b (.idx 1) (.u .ld1 (.u (.fld 1) (.var 7))) (.var 5))) (.cn (.var 2) .nl))
 (.call true (some 15) 106 (.cn (.var 11) (.cn (.var 5) (.cn (.var 12) .nl)))
 (.eff false none (.st 4 (.var 9) (.u (.lda 4) (.b (.idx 4) (.var 14) (.var 15))))
 .nxt))))))))
 (.both
 (.set 14 (.u .ld1 (.u (.fld 2) (.var 7)))
 (.set 11 (.u (.lda 4) (.var 7))
 (.call true (some 12) 107 (.cn (.u (.lda 1) (.b (.idx 1) (.u .ld1 (.u (.fld 1) (.var 7))) (.var 5))) (.cn (.var 2) .nl))
 (.eff false (some 9) (.alloc 74 [(.int .i64 0),(.int .i64 0),(.int .i64 0),(.int .i64 0)])
 (.call true (some 15) 106 (.cn (.var 11) (.cn (.var 5) (.cn (.var 12) .nl)))
 (.eff false none (.st 4 (.var 9) (.u (.lda 4) (.b (.idx 4) (.var 14) (.var 15))))
 .nxt))))))
 (.set 14 (.u .ld1 (.u (.fld 2) (.var 7)))
 (.set 11 (.u (.lda 4) (.var 7))
 (.call true (some 12) 107 (.cn (.u (.lda 1) (.b (.idx 1) (.u .ld1 (.u (.fld 1) (.var 7))) (.var 5))) (.cn (.var 2) .nl))
 (.call true (some 15) 106 (.cn (.var 11) (.cn (.var 5) (.cn (.var 12) .nl)))
 (.chk (.u (.lda 4) (.b (.idx 4) (.var 14) (.var 15)))
 (.eff false (some 9) (.alloc 74 [(.int .i64 0),(.int .i64 0),(.int .i64 0),(.int .i64 0)])
 (.eff false none (.st 4 (.var 9) (.u (.lda 4) (.b (.idx 4) (.var 14) (.var 15))))
 .nxt)))))))))
 (.set 5 (.u .ld1 (.u (.fld 2) (.var 9)))
 (.set 6 (.b (.bin .add) (.var 6) (.u .ld1 (.u (.fld 3) (.var 9))))
 .nxt))))))))))
 (.call false (some 13) 105 (.cn (.u (.lda 4) (.var 7)) (.cn (.var 5) .nl))
 (.seq
 (.ite (.u (.un .not) (.var 13))
 (.set 3 (.lit (.int .i64 0))
 (.set 4 (.lit (.bool false))
 .ret))
 .nxt)
 (.set 3 (.var 6)
 (.set 4 (.lit (.bool true))
 .ret)))))))))))
def f_layout_way : Fun:=⟨s_layout_way,[(.var 3),(.var 4)]⟩
abbrev v_layout_way : List Nat:=[0,1,2,6,7,9,10,3,8,11,15,24,32,44,23,33]
theorem vr_layout_way : VRof P n_layout_way s_layout_way f_layout_way v_layout_way 47:=vo Tryz.func90 (by kernel_rfl) Tryz.ntmps90 rfl
theorem r_layout_way : Fun.res f_layout_way=[(.var 3),(.var 4)]:=rfl
abbrev g_layout_way_0 : List Nat:=[5,6,9,10,11,12,14,15]
abbrev n_ref33_row : Nat:=91
def s_ref33_row : S :=
 (.set 2 (.lit (.int .i64 0))
 (.seq
 (.ite (.b (.bin .gtr) (.u .len (.var 0)) (.lit (.int .i64 4)))
 (.set 2 (.lit (.int .i64 8))
 .ret)
 .nxt)
 (.seq
 (.ite (.b (.bin .neq) (.u .len (.var 0)) (.var 1))
 (.set 2 (.lit (.int .i64 3))
 .ret)
 .nxt)
 (.set 3 (.lit (.int .i64 0))
 (.set 4 (.lit (.int .i64 0))
 (.seq
 (.blk 0
 (.loop
 (.seq
 (.ite (.b (.bin .lss) (.var 4) (.u .len (.var 0)))
 .nxt
 (.exit 0))
 (.seq
 (.blk 1
 (.seq
 (.ite (.ite (.b (.bin .lss) (.u .ld1 (.b (.idx 1) (.var 0) (.var 4))) (.lit (.int .i64 0))) (.lit (.bool true)) (.b (.bin .gtr) (.u .ld1 (.b (.idx 1) (.var 0) (.var 4))) (.lit (.int .i64 1000))))
 (.set 2 (.lit (.int .i64 1))
 .ret)
 .nxt)
 (.set 3 (.b (.bin .add) (.var 3) (.u .ld1 (.b (.idx 1) (.var 0) (.var 4))))
 .nxt)))
 (.set 4 (.b (.bin .add) (.var 4) (.lit (.int .i64 1)))
 .nxt)))))
 (.seq
 (.ite (.ite (.b (.bin .gtr) (.var 1) (.lit (.int .i64 0))) (.b (.bin .neq) (.var 3) (.lit (.int .i64 1000))) (.lit (.bool false)))
 (.set 2 (.lit (.int .i64 17))
 .ret)
 .nxt)
 (.set 2 (.lit (.int .i64 0))
 .ret))))))))
def f_ref33_row : Fun:=⟨s_ref33_row,[(.var 2)]⟩
abbrev v_ref33_row : List Nat:=[0,1,4,5,6]
theorem vr_ref33_row : VRof P n_ref33_row s_ref33_row f_ref33_row v_ref33_row 44:=vo Tryz.func91 (by kernel_rfl) Tryz.ntmps91 rfl
theorem r_ref33_row : Fun.res f_ref33_row=[(.var 2)]:=rfl
abbrev g_ref33_row_0 : List Nat:=[2,3,4]
abbrev n_ref33_Main : Nat:=92
def s_ref33_Main : S :=
 (.eff false (some 3) (.box 93 (.var 0))
 (.set 2 (.lit (.int .i64 0))
 (.seq
 (.ite (.ite (.b (.bin .lss) (.var 1) (.lit (.int .i64 0))) (.lit (.bool true)) (.b (.bin .geq) (.var 1) (.u .len (.u .ld1 (.u (.fld 0) (.var 3))))))
 (.set 2 (.lit (.int .i64 (-1)))
 .ret)
 .nxt)
 (.set 4 (.lit (.int .i64 0))
 (.seq
 (.blk 0
 (.loop
 (.seq
 (.ite (.b (.bin .lss) (.var 4) (.u .len (.u .ld1 (.b (.idx 1) (.u .ld1 (.u (.fld 0) (.var 3))) (.var 1)))))
 .nxt
 (.exit 0))
 (.seq
 (.blk 1
 (.ite (.b (.bin .gtr) (.u .ld1 (.b (.idx 1) (.u .ld1 (.b (.idx 1) (.u .ld1 (.u (.fld 0) (.var 3))) (.var 1))) (.var 4))) (.lit (.int .i64 0)))
 (.set 2 (.var 4)
 .ret)
 .nxt))
 (.set 4 (.b (.bin .add) (.var 4) (.lit (.int .i64 1)))
 .nxt)))))
 (.set 2 (.lit (.int .i64 (-1)))
 .ret))))))
def f_ref33_Main : Fun:=⟨s_ref33_Main,[(.var 2)]⟩
abbrev v_ref33_Main : List Nat:=[0,1,4,2,5]
theorem vr_ref33_Main : VRof P n_ref33_Main s_ref33_Main f_ref33_Main v_ref33_Main 35:=vo Tryz.func92 (by kernel_rfl) Tryz.ntmps92 rfl
theorem r_ref33_Main : Fun.res f_ref33_Main=[(.var 2)]:=rfl
abbrev g_ref33_Main_0 : List Nat:=[2,4]
abbrev n_belt_Belt_slots : Nat:=93
def s_belt_Belt_slots : S :=
 (.set 1 (.lit (.slice none 0 0))
 (.chk (.slc (some 16) 1 (.u (.fld 0) (.u .nilc (.var 0))) (.lit (.int .i64 0)) (.u .ld1 (.u (.fld 16) (.u .nilc (.var 0)))) (.u .ld1 (.u (.fld 16) (.u .nilc (.var 0)))))
 (.set 1 (.slc (some 16) 1 (.u (.fld 0) (.u .nilc (.var 0))) (.lit (.int .i64 0)) (.u .ld1 (.u (.fld 16) (.u .nilc (.var 0)))) (.u .ld1 (.u (.fld 16) (.u .nilc (.var 0)))))
 .ret)))
def f_belt_Belt_slots : Fun:=⟨s_belt_Belt_slots,[(.var 1)]⟩
abbrev v_belt_Belt_slots : List Nat:=[0,2]
theorem vr_belt_Belt_slots : VRof P n_belt_Belt_slots s_belt_Belt_slots f_belt_Belt_slots v_belt_Belt_slots 15:=vo Tryz.func93 (by kernel_rfl) Tryz.ntmps93 rfl
theorem r_belt_Belt_slots : Fun.res f_belt_Belt_slots=[(.var 1)]:=rfl
abbrev n_machine_Outs : Nat:=95
def s_machine_Outs : S :=
 (.eff false (some 2) (.box 93 (.var 0))
 (.set 1 (.lit (.int .i64 0))
 (.seq
 (.ite (.b (.bin .eql) (.u .len (.u .ld1 (.u (.fld 0) (.var 2)))) (.lit (.int .i64 0)))
 (.set 1 (.lit (.int .i64 0))
 .ret)
 .nxt)
 (.set 1 (.u .len (.u .ld1 (.b (.idx 1) (.u .ld1 (.u (.fld 0) (.var 2))) (.lit (.int .i64 0)))))
 .ret))))
def f_machine_Outs : Fun:=⟨s_machine_Outs,[(.var 1)]⟩
abbrev v_machine_Outs : List Nat:=[0,2,1]
theorem vr_machine_Outs : VRof P n_machine_Outs s_machine_Outs f_machine_Outs v_machine_Outs 12:=vo Tryz.func95 (by kernel_rfl) Tryz.ntmps95 rfl
theorem r_machine_Outs : Fun.res f_machine_Outs=[(.var 1)]:=rfl
abbrev n_graph_Check : Nat:=96
def s_graph_Check : S :=
 (.eff false (some 2) (.box 96 (.var 0))
 (.set 1 (.lit (.int .i64 0))
 (.seq
 (.ite (.ite (.b (.bin .lss) (.u .ld1 (.u (.fld 0) (.var 2))) (.lit (.int .i64 0))) (.lit (.bool true)) (.b (.bin .gtr) (.u .ld1 (.u (.fld 0) (.var 2))) (.lit (.int .i64 64))))
 (.set 1 (.lit (.int .i64 1))
 .ret)
 .nxt)
 (.seq
 (.ite (.b (.bin .gtr) (.u .len (.u .ld1 (.u (.fld 1) (.var 2)))) (.lit (.int .i64 512)))
 (.set 1 (.lit (.int .i64 8))
 .ret)
 .nxt)
 (.set 6 (.u .ld1 (.u (.fld 1) (.var 2)))
 (.set 4 (.u .len (.var 6))
 (.set 3 (.lit (.int .i64 0))
 (.seq
 (.blk 0
 (.loop
 (.set 5 (.b (.bin .lss) (.var 3) (.var 4))
 (.seq
 (.ite (.var 5)
 .nxt
 (.exit 0))
 (.seq
 (.blk 1
 (.chk (.u (.lda 2) (.b (.idx 2) (.var 6) (.var 3)))
 (.eff false (some 7) (.alloc 102 [(.int .i64 0),(.int .i64 0)])
 (.eff false none (.st 2 (.var 7) (.u (.lda 2) (.b (.idx 2) (.var 6) (.var 3))))
 (.ite (.ite (.ite (.ite (.b (.bin .lss) (.u .ld1 (.u (.fld 0) (.var 7))) (.lit (.int .i64 0))) (.lit (.bool true)) (.b (.bin .geq) (.u .ld1 (.u (.fld 0) (.var 7))) (.u .ld1 (.u (.fld 0) (.var 2))))) (.lit (.bool true)) (.b (.bin .lss) (.u .ld1 (.u (.fld 1) (.var 7))) (.lit (.int .i64 0)))) (.lit (.bool true)) (.b (.bin .geq) (.u .ld1 (.u (.fld 1) (.var 7))) (.u .ld1 (.u (.fld 0) (.var 2)))))
 (.set 1 (.lit (.int .i64 7))
 .ret)
 .nxt)))))
 (.set 3 (.b (.bin .add) (.var 3) (.lit (.int .i64 1)))
 .nxt))))))
 (.set 1 (.lit (.int .i64 0))
 .ret)))))))))
def f_graph_Check : Fun:=⟨s_graph_Check,[(.var 1)]⟩
abbrev v_graph_Check : List Nat:=[0,2,1,20,19,21,18,4]
theorem vr_graph_Check : VRof P n_graph_Check s_graph_Check f_graph_Check v_graph_Check 47:=vo Tryz.func96 (by kernel_rfl) Tryz.ntmps96 rfl
theorem r_graph_Check : Fun.res f_graph_Check=[(.var 1)]:=rfl
abbrev g_graph_Check_0 : List Nat:=[1,3,5,7]
abbrev n_graph_Reach : Nat:=97
def s_graph_Reach : S :=
 (.eff false (some 4) (.box 96 (.var 0))
 (.set 2 (.lit (.slice none 0 0))
 (.set 3 (.lit (.int .i64 0))
 (.call false (some 5) 79 (.cn (.u (.lda 2) (.var 4)) (.cn (.var 1) (.cn (.lit (.func (.func 109) #[] #[])) .nl)))
 (.chk (.u (.ext 0) (.var 5))
 (.chk (.u (.ext 1) (.var 5))
 (.set 2 (.u (.ext 0) (.var 5))
 (.set 3 (.u (.ext 1) (.var 5))
 .ret))))))))
def f_graph_Reach : Fun:=⟨s_graph_Reach,[(.var 2),(.var 3)]⟩
abbrev v_graph_Reach : List Nat:=[0,1,4,5,2,8]
theorem vr_graph_Reach : VRof P n_graph_Reach s_graph_Reach f_graph_Reach v_graph_Reach 11:=vo Tryz.func97 (by kernel_rfl) Tryz.ntmps97 rfl
theorem r_graph_Reach : Fun.res f_graph_Reach=[(.var 2),(.var 3)]:=rfl
abbrev n_material_check : Nat:=98
def s_material_check : S :=
 (.set 1 (.lit (.int .i64 0))
 (.set 5 (.var 0)
 (.set 3 (.u .len (.var 5))
 (.set 2 (.lit (.int .i64 0))
 (.seq
 (.blk 0
 (.loop
 (.set 4 (.b (.bin .lss) (.var 2) (.var 3))
 (.seq
 (.ite (.var 4)
 .nxt
 (.exit 0))
 (.seq
 (.blk 1
 (.set 6 (.u .ld1 (.b (.idx 1) (.var 5) (.var 2)))
 (.seq
 (.ite (.b (.bin .gtr) (.u .len (.var 6)) (.lit (.int .i64 16)))
 (.set 1 (.lit (.int .i64 18))
 .ret)
 .nxt)
 (.call false (some 7) 56 (.cn (.var 6) (.cn (.lit (.func (.func 110) #[] #[])) .nl))
 (.ite (.var 7)
 (.set 1 (.lit (.int .i64 1))
 .ret)
 .nxt)))))
 (.set 2 (.b (.bin .add) (.var 2) (.lit (.int .i64 1)))
 .nxt))))))
 (.set 1 (.lit (.int .i64 0))
 .ret))))))
def f_material_check : Fun:=⟨s_material_check,[(.var 1)]⟩
abbrev v_material_check : List Nat:=[0,2,7,6,8,5,4,15]
theorem vr_material_check : VRof P n_material_check s_material_check f_material_check v_material_check 17:=vo Tryz.func98 (by kernel_rfl) Tryz.ntmps98 rfl
theorem r_material_check : Fun.res f_material_check=[(.var 1)]:=rfl
abbrev g_material_check_0 : List Nat:=[1,2,4,6,7]
abbrev n_graph_visit_1 : Nat:=99
def s_graph_visit_1 : S :=
 (.seq
 (.ite (.u .ld1 (.b (.idx 1) (.u .ld1 (.var 1)) (.var 0)))
 .ret
 .nxt)
 (.eff false none (.st 1 (.b (.idx 1) (.u .ld1 (.var 1)) (.var 0)) (.lit (.bool true)))
 (.set 8 (.u .ld1 (.u (.fld 1) (.var 2)))
 (.set 6 (.u .len (.var 8))
 (.set 5 (.lit (.int .i64 0))
 (.blk 0
 (.loop
 (.set 7 (.b (.bin .lss) (.var 5) (.var 6))
 (.seq
 (.ite (.var 7)
 .nxt
 (.exit 0))
 (.seq
 (.blk 1
 (.chk (.u (.lda 2) (.b (.idx 2) (.var 8) (.var 5)))
 (.eff false (some 9) (.alloc 102 [(.int .i64 0),(.int .i64 0)])
 (.eff false none (.st 2 (.var 9) (.u (.lda 2) (.b (.idx 2) (.var 8) (.var 5))))
 (.callv false (some 12) (.u .ld1 (.var 3)) (.cn (.u (.lda 2) (.var 9)) .nl)
 (.chk (.u (.ext 0) (.var 12))
 (.chk (.u (.ext 1) (.var 12))
 (.set 10 (.u (.ext 0) (.var 12))
 (.set 11 (.u (.ext 1) (.var 12))
 (.ite (.b (.bin .eql) (.var 10) (.var 0))
 (.callv false none (.u .ld1 (.var 4)) (.cn (.var 11) .nl)
 .nxt)
 .nxt))))))))))
 (.set 5 (.b (.bin .add) (.var 5) (.lit (.int .i64 1)))
 .nxt)))))))))))
def f_graph_visit_1 : Fun:=⟨s_graph_visit_1,[]⟩
abbrev v_graph_visit_1 : List Nat:=[0,1,2,3,4,20,19,21,18,7,8,9,27]
theorem vr_graph_visit_1 : VRof P n_graph_visit_1 s_graph_visit_1 f_graph_visit_1 v_graph_visit_1 37:=vo Tryz.func99 (by kernel_rfl) Tryz.ntmps99 rfl
theorem r_graph_visit_1 : Fun.res f_graph_visit_1=[]:=rfl
abbrev g_graph_visit_1_0 : List Nat:=[5,7,9,10,11,12]
abbrev n_belt_Belt_Step : Nat:=100
def s_belt_Belt_Step : S :=
 (.set 2 (.lit (.slice none 0 0))
 (.set 3 (.lit (.int .i64 0))
 (.seq
 (.ite (.b (.eqp false) (.var 0) (.lit (.pointer none)))
 (.set 2 (.lit (.slice none 0 0))
 (.set 3 (.lit (.int .i64 14))
 .ret))
 .nxt)
 (.call false (some 6) 78 (.cn (.var 1) (.cn (.u .ld1 (.u (.fld 17) (.u .nilc (.var 0)))) .nl))
 (.seq
 (.ite (.u (.un .not) (.var 6))
 (.set 2 (.lit (.slice none 0 0))
 (.set 3 (.lit (.int .i64 18))
 .ret))
 .nxt)
 (.call false (some 7) 93 (.cn (.var 0) .nl)
 (.set 4 (.var 7)
 (.eff false none (.st 1 (.u (.fld 18) (.u .nilc (.var 0))) (.b (.bin .rem) (.b (.bin .sub) (.b (.bin .add) (.u .ld1 (.u (.fld 18) (.u .nilc (.var 0)))) (.u .ld1 (.u (.fld 16) (.u .nilc (.var 0))))) (.lit (.int .i64 1))) (.u .ld1 (.u (.fld 16) (.u .nilc (.var 0))))))
 (.set 5 (.u .ld1 (.b (.idx 1) (.var 4) (.u .ld1 (.u (.fld 18) (.u .nilc (.var 0))))))
 (.seq
 (.both
 (.set 9 (.u .ld1 (.u (.fld 18) (.u .nilc (.var 0))))
 (.eff false (some 8) (.lit 3 1 0 [(.int .i64 0)] .nl)
 (.eff false (some 10) (.app 3 1 8 [(.int .i64 0)] (.var 8) (.var 1))
 (.eff false none (.st 1 (.b (.idx 1) (.var 4) (.var 9)) (.var 10))
 .nxt))))
 (.chk (.u (.fld 18) (.u .nilc (.var 0)))
 (.eff false (some 8) (.lit 3 1 0 [(.int .i64 0)] .nl)
 (.eff false (some 10) (.app 3 1 8 [(.int .i64 0)] (.var 8) (.var 1))
 (.set 9 (.u .ld1 (.u (.fld 18) (.u .nilc (.var 0))))
 (.eff false none (.st 1 (.b (.idx 1) (.var 4) (.var 9)) (.var 10))
 .nxt))))))
 (.set 2 (.var 5)
 (.set 3 (.lit (.int .i64 0))
 .ret))))))))))))
def f_belt_Belt_Step : Fun:=⟨s_belt_Belt_Step,[(.var 2),(.var 3)]⟩
abbrev v_belt_Belt_Step : List Nat:=[0,1,4,5,6,7,15,18,49,48,51]
theorem vr_belt_Belt_Step : VRof P n_belt_Belt_Step s_belt_Belt_Step f_belt_Belt_Step v_belt_Belt_Step 54:=vok Tryz.func100 (by kernel_rfl) Tryz.ntmps100 rfl
theorem r_belt_Belt_Step : Fun.res f_belt_Belt_Step=[(.var 2),(.var 3)]:=rfl
abbrev n_machine_Split : Nat:=101
def s_machine_Split : S :=
 (.eff false (some 4) (.box 93 (.var 0))
 (.set 2 (.lit (.slice none 0 0))
 (.set 3 (.lit (.int .i64 0))
 (.call false (some 29) 103 (.cn (.u (.lda 1) (.var 4)) (.cn (.u .len (.var 1)) .nl))
 (.set 5 (.var 29)
 (.seq
 (.ite (.b (.bin .neq) (.var 5) (.lit (.int .i64 0)))
 (.set 2 (.lit (.slice none 0 0))
 (.set 3 (.var 5)
 .ret))
 .nxt)
 (.set 9 (.var 1)
 (.set 7 (.u .len (.var 9))
 (.set 6 (.lit (.int .i64 0))
 (.seq
 (.blk 0
 (.loop
 (.set 8 (.b (.bin .lss) (.var 6) (.var 7))
 (.seq
 (.ite (.var 8)
 .nxt
 (.exit 0))
 (.seq
 (.blk 1
 (.set 10 (.u .ld1 (.b (.idx 1) (.var 9) (.var 6)))
 (.ite (.ite (.b (.bin .lss) (.var 10) (.lit (.int .i64 0))) (.lit (.bool true)) (.b (.bin .gtr) (.var 10) (.lit (.int .i64 1073741824))))
 (.set 2 (.lit (.slice none 0 0))
 (.set 3 (.lit (.int .i64 18))
 .ret))
 .nxt)))
 (.set 6 (.b (.bin .add) (.var 6) (.lit (.int .i64 1)))
 .nxt))))))
 (.call false (some 30) 95 (.cn (.u (.lda 1) (.var 4)) .nl)
 (.set 11 (.var 30)
 (.seq
 (.ite (.b (.bin .eql) (.var 11) (.lit (.int .i64 0)))
 (.set 2 (.lit (.slice none 0 0))
 (.set 3 (.lit (.int .i64 13))
 .ret))
 .nxt)
 (.eff false (some 31) (.mk 38 1 24 [(.slice none 0 0)] (.var 11) (.var 11))
 (.set 12 (.var 31)
 (.set 14 (.u .len (.var 12))
 (.set 13 (.lit (.int .i64 0))
 (.seq
 (.blk 2
 (.loop
 (.set 15 (.b (.bin .lss) (.var 13) (.var 14))
 (.seq
 (.ite (.var 15)
 .nxt
 (.exit 2))
 (.seq
 (.blk 3
 (.set 16 (.var 13)
 (.eff false (some 32) (.mk 3 1 8 [(.int .i64 0)] (.u .len (.var 1)) (.u .len (.var 1)))
 (.eff false none (.st 1 (.b (.idx 1) (.var 12) (.var 16)) (.var 32))
 .nxt))))
 (.set 13 (.b (.bin .add) (.var 13) (.lit (.int .i64 1)))
 .nxt))))))
 (.set 20 (.var 1)
 (.set 18 (.u .len (.var 20))
 (.set 17 (.lit (.int .i64 0))
 (.seq
 (.blk 4
 (.loop
 (.set 19 (.b (.bin .lss) (.var 17) (.var 18))
 (.seq
 (.ite (.var 19)
 .nxt
 (.exit 4))
 (.seq
 (.blk 5
 (.chk (.u .ld1 (.b (.idx 1) (.var 20) (.var 17)))
 (.set 21 (.var 17)
 (.set 22 (.u .ld1 (.b (.idx 1) (.var 20) (.var 17)))
 (.call false (some 26) 111 (.cn (.u (.lda 1) (.var 4)) (.cn (.var 21) (.cn (.var 22) .nl)))
 (.set 24 (.u .len (.var 26))
 (.set 23 (.lit (.int .i64 0))
 (.blk 6
 (.loop
 (.set 25 (.b (.bin .lss) (.var 23) (.var 24))
 (.seq
 (.ite (.var 25)
 .nxt
 (.exit 6))
 (.seq
 (.blk 7
 (.chk (.u .ld1 (.b (.idx 1) (.var 26) (.var 23)))
 (.set 27 (.var 23)
 (.set 28 (.u .ld1 (.b (.idx 1) (.var 26) (.var 23)))
 (.eff false none (.st 1 (.b (.idx 1) (.u .ld1 (.b (.idx 1) (.var 12) (.var 27))) (.var 21)) (.var 28))
 .nxt)))))
 (.set 23 (.b (.bin .add) (.var 23) (.lit (.int .i64 1)))
 .nxt)))))))))))))
 (.set 17 (.b (.bin .add) (.var 17) (.lit (.int .i64 1)))
 .nxt))))))
 (.set 2 (.var 12)
 (.set 3 (.lit (.int .i64 0))
 .ret))))))))))))))))))))))))
def f_machine_Split : Fun:=⟨s_machine_Split,[(.var 2),(.var 3)]⟩
abbrev v_machine_Split : List Nat:=[0,1,4,5,2,6,25,24,26,23,8,9,10,44,43,45,11,56,55,57,54,12,13,66,65,67,64,14,15,19,37,41,51]
theorem vr_machine_Split : VRof P n_machine_Split s_machine_Split f_machine_Split v_machine_Split 81:=vo Tryz.func101 (by kernel_rfl) Tryz.ntmps101 rfl
theorem r_machine_Split : Fun.res f_machine_Split=[(.var 2),(.var 3)]:=rfl
abbrev g_machine_Split_0 : List Nat:=[2,3,6,8,10]
abbrev g_machine_Split_1 : List Nat:=[13,15,16,32]
abbrev g_machine_Split_2 : List Nat:=[17,19,21,22,23,24,25,26,27,28]
abbrev g_machine_Split_3 : List Nat:=[23,25,27,28]
abbrev n_layout_Next : Nat:=102
def s_layout_Next : S :=
 (.eff false (some 5) (.box 25 (.var 0))
 (.set 3 (.lit (.int .i64 0))
 (.set 4 (.lit (.int .i64 0))
 (.call false (some 8) 88 (.cn (.u (.lda 4) (.var 5)) .nl)
 (.set 6 (.var 8)
 (.seq
 (.ite (.b (.bin .neq) (.var 6) (.lit (.int .i64 0)))
 (.set 3 (.lit (.int .i64 0))
 (.set 4 (.var 6)
 .ret))
 .nxt)
 (.call false (some 9) 106 (.cn (.u (.lda 4) (.var 5)) (.cn (.var 1) (.cn (.var 2) .nl)))
 (.set 7 (.var 9)
 (.seq
 (.ite (.b (.bin .lss) (.var 7) (.lit (.int .i64 0)))
 (.set 3 (.lit (.int .i64 0))
 (.set 4 (.lit (.int .i64 7))
 .ret))
 .nxt)
 (.set 3 (.var 7)
 (.set 4 (.lit (.int .i64 0))
 .ret)))))))))))
def f_layout_Next : Fun:=⟨s_layout_Next,[(.var 3),(.var 4)]⟩
abbrev v_layout_Next : List Nat:=[0,1,2,6,7,3,8,9,11,18]
theorem vr_layout_Next : VRof P n_layout_Next s_layout_Next f_layout_Next v_layout_Next 22:=vo Tryz.func102 (by kernel_rfl) Tryz.ntmps102 rfl
theorem r_layout_Next : Fun.res f_layout_Next=[(.var 3),(.var 4)]:=rfl
abbrev n_machine_Check : Nat:=103
def s_machine_Check : S :=
 (.eff false (some 3) (.box 93 (.var 0))
 (.set 2 (.lit (.int .i64 0))
 (.seq
 (.ite (.ite (.b (.bin .lss) (.var 1) (.lit (.int .i64 1))) (.lit (.bool true)) (.b (.bin .gtr) (.var 1) (.lit (.int .i64 16))))
 (.set 2 (.lit (.int .i64 1))
 .ret)
 .nxt)
 (.seq
 (.ite (.b (.bin .neq) (.u .len (.u .ld1 (.u (.fld 0) (.var 3)))) (.var 1))
 (.set 2 (.lit (.int .i64 18))
 .ret)
 .nxt)
 (.set 4 (.lit (.int .i64 0))
 (.set 8 (.u .ld1 (.u (.fld 0) (.var 3)))
 (.set 6 (.u .len (.var 8))
 (.set 5 (.lit (.int .i64 0))
 (.seq
 (.blk 0
 (.loop
 (.set 7 (.b (.bin .lss) (.var 5) (.var 6))
 (.seq
 (.ite (.var 7)
 .nxt
 (.exit 0))
 (.seq
 (.blk 1
 (.set 9 (.u .ld1 (.b (.idx 1) (.var 8) (.var 5)))
 (.set 10 (.lit (.int .i64 0))
 (.seq
 (.ite (.b (.bin .gtr) (.u .len (.var 9)) (.lit (.int .i64 4)))
 (.set 4 (.lit (.int .i64 8))
 (.exit 0))
 .nxt)
 (.seq
 (.ite (.b (.bin .neq) (.u .len (.var 9)) (.u .len (.u .ld1 (.b (.idx 1) (.u .ld1 (.u (.fld 0) (.var 3))) (.lit (.int .i64 0))))))
 (.set 4 (.lit (.int .i64 3))
 (.exit 0))
 .nxt)
 (.set 14 (.var 9)
 (.set 12 (.u .len (.var 14))
 (.set 11 (.lit (.int .i64 0))
 (.seq
 (.blk 2
 (.loop
 (.set 13 (.b (.bin .lss) (.var 11) (.var 12))
 (.seq
 (.ite (.var 13)
 .nxt
 (.exit 2))
 (.seq
 (.blk 3
 (.set 15 (.u .ld1 (.b (.idx 1) (.var 14) (.var 11)))
 (.seq
 (.ite (.ite (.b (.bin .lss) (.var 15) (.lit (.int .i64 0))) (.lit (.bool true)) (.b (.bin .gtr) (.var 15) (.lit (.int .i64 1000))))
 (.set 4 (.lit (.int .i64 1))
 (.exit 0))
 .nxt)
 (.set 10 (.b (.bin .add) (.var 10) (.var 15))
 .nxt))))
 (.set 11 (.b (.bin .add) (.var 11) (.lit (.int .i64 1)))
 .nxt))))))
 (.ite (.ite (.b (.bin .gtr) (.u .len (.var 9)) (.lit (.int .i64 0))) (.b (.bin .neq) (.var 10) (.lit (.int .i64 1000))) (.lit (.bool false)))
 (.set 4 (.lit (.int .i64 17))
 (.exit 0))
 .nxt))))))))))
 (.set 5 (.b (.bin .add) (.var 5) (.lit (.int .i64 1)))
 .nxt))))))
 (.set 2 (.var 4)
 .ret))))))))))
def f_machine_Check : Fun:=⟨s_machine_Check,[(.var 2)]⟩
abbrev v_machine_Check : List Nat:=[0,1,4,2,5,25,24,26,23,7,8,42,41,43,40,10]
theorem vr_machine_Check : VRof P n_machine_Check s_machine_Check f_machine_Check v_machine_Check 65:=vo Tryz.func103 (by kernel_rfl) Tryz.ntmps103 rfl
theorem r_machine_Check : Fun.res f_machine_Check=[(.var 2)]:=rfl
abbrev g_machine_Check_0 : List Nat:=[4,5,7,9,10,11,12,13,14,15]
abbrev g_machine_Check_1 : List Nat:=[4,10,11,13,15]
abbrev n_layout_belts : Nat:=104
def s_layout_belts : S :=
 (.eff false (some 2) (.box 25 (.var 0))
 (.set 1 (.lit (.int .i64 0))
 (.set 6 (.u .ld1 (.u (.fld 2) (.var 2)))
 (.set 4 (.u .len (.var 6))
 (.set 3 (.lit (.int .i64 0))
 (.seq
 (.blk 0
 (.loop
 (.set 5 (.b (.bin .lss) (.var 3) (.var 4))
 (.seq
 (.ite (.var 5)
 .nxt
 (.exit 0))
 (.seq
 (.blk 1
 (.chk (.u (.lda 4) (.b (.idx 4) (.var 6) (.var 3)))
 (.eff false (some 7) (.alloc 74 [(.int .i64 0),(.int .i64 0),(.int .i64 0),(.int .i64 0)])
 (.eff false none (.st 4 (.var 7) (.u (.lda 4) (.b (.idx 4) (.var 6) (.var 3))))
 (.call false (some 25) 112 (.cn (.u (.lda 4) (.var 2)) (.cn (.u (.lda 4) (.var 7)) .nl))
 (.set 8 (.var 25)
 (.ite (.b (.bin .neq) (.var 8) (.lit (.int .i64 0)))
 (.set 1 (.var 8)
 .ret)
 .nxt)))))))
 (.set 3 (.b (.bin .add) (.var 3) (.lit (.int .i64 1)))
 .nxt))))))
 (.set 12 (.u .ld1 (.u (.fld 2) (.var 2)))
 (.set 10 (.u .len (.var 12))
 (.set 9 (.lit (.int .i64 0))
 (.seq
 (.blk 2
 (.loop
 (.set 11 (.b (.bin .lss) (.var 9) (.var 10))
 (.seq
 (.ite (.var 11)
 .nxt
 (.exit 2))
 (.seq
 (.blk 3
 (.chk (.u (.lda 4) (.b (.idx 4) (.var 12) (.var 9)))
 (.eff false (some 14) (.alloc 74 [(.int .i64 0),(.int .i64 0),(.int .i64 0),(.int .i64 0)])
 (.set 13 (.var 9)
 (.eff false none (.st 4 (.var 14) (.u (.lda 4) (.b (.idx 4) (.var 12) (.var 9))))
 (.call false (some 26) 106 (.cn (.u (.lda 4) (.var 2)) (.cn (.u .ld1 (.u (.fld 0) (.var 14))) (.cn (.u .ld1 (.u (.fld 1) (.var 14))) .nl)))
 (.ite (.b (.bin .neq) (.var 26) (.var 13))
 (.set 1 (.lit (.int .i64 6))
 .ret)
 .nxt)))))))
 (.set 9 (.b (.bin .add) (.var 9) (.lit (.int .i64 1)))
 .nxt))))))
 (.set 18 (.u .ld1 (.u (.fld 1) (.var 2)))
 (.set 16 (.u .len (.var 18))
 (.set 15 (.lit (.int .i64 0))
 (.seq
 (.blk 4
 (.loop
 (.set 17 (.b (.bin .lss) (.var 15) (.var 16))
 (.seq
 (.ite (.var 17)
 .nxt
 (.exit 4))
 (.seq
 (.blk 5
 (.chk (.u (.lda 1) (.b (.idx 1) (.var 18) (.var 15)))
 (.eff false (some 20) (.alloc 93 [(.slice none 0 0)])
 (.set 19 (.var 15)
 (.eff false none (.st 1 (.var 20) (.u (.lda 1) (.b (.idx 1) (.var 18) (.var 15))))
 (.call false (some 22) 95 (.cn (.u (.lda 1) (.var 20)) .nl)
 (.set 21 (.lit (.int .i64 0))
 (.blk 6
 (.loop
 (.set 23 (.b (.bin .lss) (.var 21) (.var 22))
 (.seq
 (.ite (.var 23)
 .nxt
 (.exit 6))
 (.seq
 (.blk 7
 (.set 24 (.var 21)
 (.call false (some 27) 106 (.cn (.u (.lda 4) (.var 2)) (.cn (.var 19) (.cn (.var 24) .nl)))
 (.ite (.b (.bin .lss) (.var 27) (.lit (.int .i64 0)))
 (.set 1 (.lit (.int .i64 3))
 .ret)
 .nxt))))
 (.set 21 (.b (.bin .add) (.var 21) (.lit (.int .i64 1)))
 .nxt)))))))))))))
 (.set 15 (.b (.bin .add) (.var 15) (.lit (.int .i64 1)))
 .nxt))))))
 (.set 1 (.lit (.int .i64 0))
 .ret)))))))))))))))
def f_layout_belts : Fun:=⟨s_layout_belts,[(.var 1)]⟩
abbrev v_layout_belts : List Nat:=[0,2,1,14,13,15,12,4,5,28,27,29,26,6,7,45,44,46,43,8,9,52,51,53,10,20,38,58]
theorem vr_layout_belts : VRof P n_layout_belts s_layout_belts f_layout_belts v_layout_belts 62:=vo Tryz.func104 (by kernel_rfl) Tryz.ntmps104 rfl
theorem r_layout_belts : Fun.res f_layout_belts=[(.var 1)]:=rfl
abbrev g_layout_belts_0 : List Nat:=[1,3,5,7,8,25]
abbrev g_layout_belts_1 : List Nat:=[1,9,11,13,14,26]
abbrev g_layout_belts_2 : List Nat:=[1,15,17,19,20,21,22,23,24,27]
abbrev g_layout_belts_3 : List Nat:=[1,21,23,24,27]
abbrev n_layout_bin : Nat:=105
def s_layout_bin : S :=
 (.eff false (some 3) (.box 25 (.var 0))
 (.set 2 (.lit (.bool false))
 (.call false (some 4) 95 (.cn (.u (.lda 1) (.b (.idx 1) (.u .ld1 (.u (.fld 1) (.var 3))) (.var 1))) .nl)
 (.set 2 (.b (.bin .eql) (.var 4) (.lit (.int .i64 0)))
 .ret))))
def f_layout_bin : Fun:=⟨s_layout_bin,[(.var 2)]⟩
abbrev v_layout_bin : List Nat:=[0,1,4,2,10]
theorem vr_layout_bin : VRof P n_layout_bin s_layout_bin f_layout_bin v_layout_bin 12:=vo Tryz.func105 (by kernel_rfl) Tryz.ntmps105 rfl
theorem r_layout_bin : Fun.res f_layout_bin=[(.var 2)]:=rfl
abbrev n_layout_find : Nat:=106
def s_layout_find : S :=
 (.eff false (some 4) (.box 25 (.var 0))
 (.eff false (some 5) (.box 3 (.var 1))
 (.eff false (some 6) (.box 3 (.var 2))
 (.set 3 (.lit (.int .i64 0))
 (.chk (.u .ld1 (.u (.fld 2) (.var 4)))
 (.chk (.fn 114 (.cn (.var 5) (.cn (.var 6) .nl)))
 (.call false (some 7) 113 (.cn (.u .ld1 (.u (.fld 2) (.var 4))) (.cn (.fn 114 (.cn (.var 5) (.cn (.var 6) .nl))) .nl))
 (.set 3 (.var 7)
 .ret))))))))
def f_layout_find : Fun:=⟨s_layout_find,[(.var 3)]⟩
abbrev v_layout_find : List Nat:=[0,1,2,6,3,4,5,10]
theorem vr_layout_find : VRof P n_layout_find s_layout_find f_layout_find v_layout_find 11:=vo Tryz.func106 (by kernel_rfl) Tryz.ntmps106 rfl
theorem r_layout_find : Fun.res f_layout_find=[(.var 3)]:=rfl
abbrev n_machine_Main : Nat:=107
def s_machine_Main : S :=
 (.eff false (some 3) (.box 93 (.var 0))
 (.set 2 (.lit (.int .i64 0))
 (.seq
 (.ite (.ite (.b (.bin .lss) (.var 1) (.lit (.int .i64 0))) (.lit (.bool true)) (.b (.bin .geq) (.var 1) (.u .len (.u .ld1 (.u (.fld 0) (.var 3))))))
 (.set 2 (.lit (.int .i64 (-1)))
 .ret)
 .nxt)
 (.set 7 (.u .ld1 (.b (.idx 1) (.u .ld1 (.u (.fld 0) (.var 3))) (.var 1)))
 (.set 5 (.u .len (.var 7))
 (.set 4 (.lit (.int .i64 0))
 (.seq
 (.blk 0
 (.loop
 (.set 6 (.b (.bin .lss) (.var 4) (.var 5))
 (.seq
 (.ite (.var 6)
 .nxt
 (.exit 0))
 (.seq
 (.blk 1
 (.chk (.u .ld1 (.b (.idx 1) (.var 7) (.var 4)))
 (.set 8 (.var 4)
 (.set 9 (.u .ld1 (.b (.idx 1) (.var 7) (.var 4)))
 (.ite (.b (.bin .gtr) (.var 9) (.lit (.int .i64 0)))
 (.set 2 (.var 8)
 .ret)
 .nxt)))))
 (.set 4 (.b (.bin .add) (.var 4) (.lit (.int .i64 1)))
 .nxt))))))
 (.set 2 (.lit (.int .i64 (-1)))
 .ret))))))))
def f_machine_Main : Fun:=⟨s_machine_Main,[(.var 2)]⟩
abbrev v_machine_Main : List Nat:=[0,1,4,2,22,21,23,20,5,6]
theorem vr_machine_Main : VRof P n_machine_Main s_machine_Main f_machine_Main v_machine_Main 31:=vo Tryz.func107 (by kernel_rfl) Tryz.ntmps107 rfl
theorem r_machine_Main : Fun.res f_machine_Main=[(.var 2)]:=rfl
abbrev g_machine_Main_0 : List Nat:=[2,4,6,8,9]
abbrev n_graph_Reach_1 : Nat:=109
def s_graph_Reach_1 : S :=
 (.eff false (some 3) (.box 102 (.var 0))
 (.set 1 (.lit (.int .i64 0))
 (.set 2 (.lit (.int .i64 0))
 (.chk (.u .ld1 (.u (.fld 0) (.var 3)))
 (.chk (.u .ld1 (.u (.fld 1) (.var 3)))
 (.set 1 (.u .ld1 (.u (.fld 0) (.var 3)))
 (.set 2 (.u .ld1 (.u (.fld 1) (.var 3)))
 .ret)))))))
def f_graph_Reach_1 : Fun:=⟨s_graph_Reach_1,[(.var 1),(.var 2)]⟩
abbrev v_graph_Reach_1 : List Nat:=[0,2,3,1]
theorem vr_graph_Reach_1 : VRof P n_graph_Reach_1 s_graph_Reach_1 f_graph_Reach_1 v_graph_Reach_1 8:=vo Tryz.func109 (by kernel_rfl) Tryz.ntmps109 rfl
theorem r_graph_Reach_1 : Fun.res f_graph_Reach_1=[(.var 1),(.var 2)]:=rfl
abbrev n_material_check_1 : Nat:=110
def s_material_check_1 : S :=
 (.set 1 (.lit (.bool false))
 (.set 1 (.ite (.b (.bin .lss) (.var 0) (.lit (.int .i64 0))) (.lit (.bool true)) (.b (.bin .gtr) (.var 0) (.lit (.int .i64 1073741824))))
 .ret))
def f_material_check_1 : Fun:=⟨s_material_check_1,[(.var 1)]⟩
abbrev v_material_check_1 : List Nat:=[0,2]
theorem vr_material_check_1 : VRof P n_material_check_1 s_material_check_1 f_material_check_1 v_material_check_1 9:=vo Tryz.func110 (by kernel_rfl) Tryz.ntmps110 rfl
theorem r_material_check_1 : Fun.res f_material_check_1=[(.var 1)]:=rfl
abbrev n_machine_divided : Nat:=111
def s_machine_divided : S :=
 (.eff false (some 4) (.box 93 (.var 0))
 (.set 3 (.lit (.slice none 0 0))
 (.call false (some 8) 117 (.cn (.var 2) (.cn (.u .ld1 (.b (.idx 1) (.u .ld1 (.u (.fld 0) (.var 4))) (.var 1))) .nl))
 (.chk (.u (.ext 0) (.var 8))
 (.chk (.u (.ext 1) (.var 8))
 (.set 5 (.u (.ext 0) (.var 8))
 (.set 6 (.u (.ext 1) (.var 8))
 (.call false (some 9) 107 (.cn (.u (.lda 1) (.var 4)) (.cn (.var 1) .nl))
 (.set 7 (.var 9)
 (.seq
 (.ite (.ite (.b (.bin .gtr) (.var 2) (.lit (.int .i64 0))) (.b (.bin .eql) (.u .ld1 (.b (.idx 1) (.var 5) (.var 7))) (.lit (.int .i64 0))) (.lit (.bool false)))
 (.call false (some 10) 118 (.cn (.var 5) .nl)
 (.eff false none (.st 1 (.b (.idx 1) (.var 5) (.var 10)) (.b (.bin .sub) (.u .ld1 (.b (.idx 1) (.var 5) (.var 10))) (.lit (.int .i64 1))))
 (.eff false none (.st 1 (.b (.idx 1) (.var 5) (.var 7)) (.b (.bin .add) (.u .ld1 (.b (.idx 1) (.var 5) (.var 7))) (.lit (.int .i64 1))))
 .nxt)))
 .nxt)
 (.set 3 (.var 5)
 .ret)))))))))))
def f_machine_divided : Fun:=⟨s_machine_divided,[(.var 3)]⟩
abbrev v_machine_divided : List Nat:=[0,1,2,6,3,7,8,9,17,22,34]
theorem vr_machine_divided : VRof P n_machine_divided s_machine_divided f_machine_divided v_machine_divided 46:=vo Tryz.func111 (by kernel_rfl) Tryz.ntmps111 rfl
theorem r_machine_divided : Fun.res f_machine_divided=[(.var 3)]:=rfl
abbrev n_layout_belt : Nat:=112
def s_layout_belt : S :=
 (.eff false (some 3) (.box 25 (.var 0))
 (.eff false (some 4) (.box 74 (.var 1))
 (.set 2 (.lit (.int .i64 0))
 (.seq
 (.blk 0
 (.call false (some 7) 89 (.cn (.u (.lda 4) (.var 3)) (.cn (.u .ld1 (.u (.fld 0) (.var 4))) .nl))
 (.set 8 (.ite (.ite (.u (.un .not) (.var 7)) (.lit (.bool true)) (.b (.bin .lss) (.u .ld1 (.u (.fld 1) (.var 4))) (.lit (.int .i64 0)))) (.lit undef) (.u .ld1 (.u (.fld 1) (.var 4))))
 (.chk (.ite (.ite (.u (.un .not) (.var 7)) (.lit (.bool true)) (.b (.bin .lss) (.u .ld1 (.u (.fld 1) (.var 4))) (.lit (.int .i64 0)))) (.lit undef) (.u (.lda 1) (.b (.idx 1) (.u .ld1 (.u (.fld 1) (.var 3))) (.u .ld1 (.u (.fld 0) (.var 4))))))
 (.seq
 (.ite (.ite (.u (.un .not) (.var 7)) (.lit (.bool true)) (.b (.bin .lss) (.u .ld1 (.u (.fld 1) (.var 4))) (.lit (.int .i64 0))))
 (.set 9 (.lit undef)
 (.set 10 (.lit undef)
 (.set 5 (.lit (.bool true))
 .nxt)))
 (.call true (some 9) 95 (.cn (.u (.lda 1) (.b (.idx 1) (.u .ld1 (.u (.fld 1) (.var 3))) (.u .ld1 (.u (.fld 0) (.var 4))))) .nl)
 (.chk (.ite (.b (.bin .geq) (.var 8) (.var 9)) (.lit undef) (.u (.lda 4) (.var 3)))
 (.chk (.ite (.b (.bin .geq) (.var 8) (.var 9)) (.lit undef) (.u .ld1 (.u (.fld 2) (.var 4))))
 (.ite (.b (.bin .geq) (.var 8) (.var 9))
 (.set 10 (.lit undef)
 (.set 5 (.lit (.bool true))
 .nxt))
 (.call false (some 10) 89 (.cn (.u (.lda 4) (.var 3)) (.cn (.u .ld1 (.u (.fld 2) (.var 4))) .nl))
 (.set 5 (.u (.un .not) (.var 10))
 .nxt)))))))
 (.ite (.var 5)
 (.set 2 (.lit (.int .i64 7))
 .ret)
 (.set 6 (.ite (.b (.bin .lss) (.u .ld1 (.u (.fld 3) (.var 4))) (.lit (.int .i64 1))) (.lit (.bool true)) (.b (.bin .gtr) (.u .ld1 (.u (.fld 3) (.var 4))) (.lit (.int .i64 16))))
 (.ite (.var 6)
 (.set 2 (.lit (.int .i64 1))
 .ret)
 .nxt))))))))
 (.set 2 (.lit (.int .i64 0))
 .ret)))))
def f_layout_belt : Fun:=⟨s_layout_belt,[(.var 2)]⟩
abbrev v_layout_belt : List Nat:=[0,1,4,2,3,5,35,9,18,25,32]
theorem vr_layout_belt : VRof P n_layout_belt s_layout_belt f_layout_belt v_layout_belt 44:=vo Tryz.func112 (by kernel_rfl) Tryz.ntmps112 rfl
theorem r_layout_belt : Fun.res f_layout_belt=[(.var 2)]:=rfl
abbrev n_slices_IndexFuncapi_Belt_api_Belt : Nat:=113
def s_slices_IndexFuncapi_Belt_api_Belt : S :=
 (.set 2 (.lit (.int .i64 0))
 (.set 4 (.u .len (.var 0))
 (.set 3 (.lit (.int .i64 0))
 (.seq
 (.blk 0
 (.loop
 (.set 5 (.b (.bin .lss) (.var 3) (.var 4))
 (.seq
 (.ite (.var 5)
 .nxt
 (.exit 0))
 (.seq
 (.blk 1
 (.set 6 (.var 3)
 (.callv false (some 7) (.var 1) (.cn (.u (.lda 4) (.b (.idx 4) (.var 0) (.var 6))) .nl)
 (.ite (.var 7)
 (.set 2 (.var 6)
 .ret)
 .nxt))))
 (.set 3 (.b (.bin .add) (.var 3) (.lit (.int .i64 1)))
 .nxt))))))
 (.set 2 (.lit (.int .i64 (-1)))
 .ret)))))
def f_slices_IndexFuncapi_Belt_api_Belt : Fun:=⟨s_slices_IndexFuncapi_Belt_api_Belt,[(.var 2)]⟩
abbrev v_slices_IndexFuncapi_Belt_api_Belt : List Nat:=[0,1,4,8,7,9,5,16]
theorem vr_slices_IndexFuncapi_Belt_api_Belt : VRof P n_slices_IndexFuncapi_Belt_api_Belt s_slices_IndexFuncapi_Belt_api_Belt f_slices_IndexFuncapi_Belt_api_Belt v_slices_IndexFuncapi_Belt_api_Belt 19:=vo Tryz.func113 (by kernel_rfl) Tryz.ntmps113 rfl
theorem r_slices_IndexFuncapi_Belt_api_Belt : Fun.res f_slices_IndexFuncapi_Belt_api_Belt=[(.var 2)]:=rfl
abbrev g_slices_IndexFuncapi_Belt_api_Belt_0 : List Nat:=[2,3,5,6,7]
abbrev n_layout_find_1 : Nat:=114
def s_layout_find_1 : S :=
 (.eff false (some 4) (.box 74 (.var 0))
 (.set 3 (.lit (.bool false))
 (.set 3 (.ite (.b (.bin .eql) (.u .ld1 (.u (.fld 0) (.var 4))) (.u .ld1 (.var 1))) (.b (.bin .eql) (.u .ld1 (.u (.fld 1) (.var 4))) (.u .ld1 (.var 2))) (.lit (.bool false)))
 .ret)))
def f_layout_find_1 : Fun:=⟨s_layout_find_1,[(.var 3)]⟩
abbrev v_layout_find_1 : List Nat:=[0,1,2,4,3]
theorem vr_layout_find_1 : VRof P n_layout_find_1 s_layout_find_1 f_layout_find_1 v_layout_find_1 15:=vo Tryz.func114 (by kernel_rfl) Tryz.ntmps114 rfl
theorem r_layout_find_1 : Fun.res f_layout_find_1=[(.var 3)]:=rfl
abbrev n_share_Split : Nat:=117
def s_share_Split : S :=
 (.set 2 (.lit (.slice none 0 0))
 (.set 3 (.lit (.int .i64 0))
 (.seq
 (.ite (.ite (.b (.bin .lss) (.var 0) (.lit (.int .i64 0))) (.lit (.bool true)) (.b (.bin .gtr) (.var 0) (.lit (.int .i64 70368744177664))))
 (.set 2 (.lit (.slice none 0 0))
 (.set 3 (.lit (.int .i64 1))
 .ret))
 .nxt)
 (.call false (some 25) 119 (.cn (.var 1) .nl)
 (.chk (.u (.ext 0) (.var 25))
 (.chk (.u (.ext 1) (.var 25))
 (.set 4 (.u (.ext 0) (.var 25))
 (.set 5 (.u (.ext 1) (.var 25))
 (.seq
 (.ite (.b (.bin .neq) (.var 5) (.lit (.int .i64 0)))
 (.set 2 (.lit (.slice none 0 0))
 (.set 3 (.var 5)
 .ret))
 .nxt)
 (.seq
 (.ite (.ite (.b (.bin .eql) (.var 4) (.lit (.int .i64 0))) (.b (.bin .gtr) (.var 0) (.lit (.int .i64 0))) (.lit (.bool false)))
 (.set 2 (.lit (.slice none 0 0))
 (.set 3 (.lit (.int .i64 10))
 .ret))
 .nxt)
 (.eff false (some 26) (.mk 3 1 8 [(.int .i64 0)] (.u .len (.var 1)) (.u .len (.var 1)))
 (.eff false (some 30) (.mk 3 1 8 [(.int .i64 0)] (.u .len (.var 1)) (.u .len (.var 1)))
 (.eff false (some 31) (.mk 3 1 8 [(.int .i64 0)] (.u .len (.var 1)) (.u .len (.var 1)))
 (.eff false (some 19) (.alloc 37 [(.slice none 0 0)])
 (.set 6 (.var 26)
 (.eff false none (.st 1 (.var 19) (.var 30))
 (.set 7 (.var 31)
 (.set 8 (.var 0)
 (.set 12 (.var 1)
 (.set 10 (.u .len (.var 12))
 (.set 9 (.lit (.int .i64 0))
 (.seq
 (.blk 0
 (.loop
 (.set 11 (.b (.bin .lss) (.var 9) (.var 10))
 (.seq
 (.ite (.var 11)
 .nxt
 (.exit 0))
 (.seq
 (.blk 1
 (.chk (.u .ld1 (.b (.idx 1) (.var 12) (.var 9)))
 (.set 13 (.var 9)
 (.set 14 (.u .ld1 (.b (.idx 1) (.var 12) (.var 9)))
 (.eff false none (.st 1 (.b (.idx 1) (.var 7) (.var 13)) (.var 13))
 (.seq
 (.ite (.b (.bin .gtr) (.var 4) (.lit (.int .i64 0)))
 (.call false (some 27) 120 (.cn (.u (.conv .u64) (.var 0)) (.cn (.u (.conv .u64) (.var 14)) .nl))
 (.chk (.u (.ext 0) (.var 27))
 (.chk (.u (.ext 1) (.var 27))
 (.set 15 (.u (.ext 0) (.var 27))
 (.set 16 (.u (.ext 1) (.var 27))
 (.call false (some 28) 121 (.cn (.var 15) (.cn (.var 16) (.cn (.u (.conv .u64) (.var 4)) .nl)))
 (.chk (.u (.ext 0) (.var 28))
 (.chk (.u (.ext 1) (.var 28))
 (.set 17 (.u (.ext 0) (.var 28))
 (.set 18 (.u (.ext 1) (.var 28))
 (.both
 (.set 29 (.u .ld1 (.var 19))
 (.chk (.u (.conv .i64) (.var 17))
 (.chk (.u (.conv .i64) (.var 18))
 (.eff false none (.st 1 (.b (.idx 1) (.var 6) (.var 13)) (.u (.conv .i64) (.var 17)))
 (.eff false none (.st 1 (.b (.idx 1) (.var 29) (.var 13)) (.u (.conv .i64) (.var 18)))
 .nxt)))))
 (.chk (.u (.conv .i64) (.var 17))
 (.chk (.u (.conv .i64) (.var 18))
 (.eff false none (.st 1 (.b (.idx 1) (.var 6) (.var 13)) (.u (.conv .i64) (.var 17)))
 (.set 29 (.u .ld1 (.var 19))
 (.eff false none (.st 1 (.b (.idx 1) (.var 29) (.var 13)) (.u (.conv .i64) (.var 18)))
 .nxt))))))))))))))))
 .nxt)
 (.set 8 (.b (.bin .sub) (.var 8) (.u .ld1 (.b (.idx 1) (.var 6) (.var 13))))
 .nxt)))))))
 (.set 9 (.b (.bin .add) (.var 9) (.lit (.int .i64 1)))
 .nxt))))))
 (.chk (.fn 123 (.cn (.var 19) .nl))
 (.call false none 122 (.cn (.var 7) (.cn (.fn 123 (.cn (.var 19) .nl)) .nl))
 (.set 23 (.slc none 1 (.var 7) (.lit (.int .i64 0)) (.var 8) .nl)
 (.set 21 (.u .len (.var 23))
 (.set 20 (.lit (.int .i64 0))
 (.seq
 (.blk 2
 (.loop
 (.set 22 (.b (.bin .lss) (.var 20) (.var 21))
 (.seq
 (.ite (.var 22)
 .nxt
 (.exit 2))
 (.seq
 (.blk 3
 (.set 24 (.u .ld1 (.b (.idx 1) (.var 23) (.var 20)))
 (.eff false none (.st 1 (.b (.idx 1) (.var 6) (.var 24)) (.b (.bin .add) (.u .ld1 (.b (.idx 1) (.var 6) (.var 24))) (.lit (.int .i64 1))))
 .nxt)))
 (.set 20 (.b (.bin .add) (.var 20) (.lit (.int .i64 1)))
 .nxt))))))
 (.set 2 (.var 6)
 (.set 3 (.lit (.int .i64 0))
 .ret))))))))))))))))))))))))))))))
def f_share_Split : Fun:=⟨s_share_Split,[(.var 2),(.var 3)]⟩
abbrev v_share_Split : List Nat:=[0,1,4,5,6,7,8,10,11,52,51,53,50,12,13,14,15,16,17,9,103,102,104,101,19,28,42,68,76,81,45,48]
theorem vr_share_Split : VRof P n_share_Split s_share_Split f_share_Split v_share_Split 115:=vo Tryz.func117 (by kernel_rfl) Tryz.ntmps117 rfl
theorem r_share_Split : Fun.res f_share_Split=[(.var 2),(.var 3)]:=rfl
abbrev g_share_Split_0 : List Nat:=[8,9,11,13,14,15,16,17,18,27,28,29]
abbrev g_share_Split_1 : List Nat:=[20,22,24]
abbrev n_machine_greatest : Nat:=118
def s_machine_greatest : S :=
 (.set 1 (.lit (.int .i64 0))
 (.set 2 (.lit (.int .i64 0))
 (.set 6 (.var 0)
 (.set 4 (.u .len (.var 6))
 (.set 3 (.lit (.int .i64 0))
 (.seq
 (.blk 0
 (.loop
 (.set 5 (.b (.bin .lss) (.var 3) (.var 4))
 (.seq
 (.ite (.var 5)
 .nxt
 (.exit 0))
 (.seq
 (.blk 1
 (.chk (.u .ld1 (.b (.idx 1) (.var 6) (.var 3)))
 (.set 7 (.var 3)
 (.set 8 (.u .ld1 (.b (.idx 1) (.var 6) (.var 3)))
 (.ite (.b (.bin .gtr) (.var 8) (.u .ld1 (.b (.idx 1) (.var 0) (.var 2))))
 (.set 2 (.var 7)
 .nxt)
 .nxt)))))
 (.set 3 (.b (.bin .add) (.var 3) (.lit (.int .i64 1)))
 .nxt))))))
 (.set 1 (.var 2)
 .ret)))))))
def f_machine_greatest : Fun:=⟨s_machine_greatest,[(.var 1)]⟩
abbrev v_machine_greatest : List Nat:=[0,2,3,8,7,9,6,4,5]
theorem vr_machine_greatest : VRof P n_machine_greatest s_machine_greatest f_machine_greatest v_machine_greatest 22:=vo Tryz.func118 (by kernel_rfl) Tryz.ntmps118 rfl
theorem r_machine_greatest : Fun.res f_machine_greatest=[(.var 1)]:=rfl
abbrev g_machine_greatest_0 : List Nat:=[2,3,5,7,8]
abbrev n_share_weighed : Nat:=119
def s_share_weighed : S :=
 (.set 1 (.lit (.int .i64 0))
 (.set 2 (.lit (.int .i64 0))
 (.seq
 (.ite (.ite (.b (.bin .lss) (.u .len (.var 0)) (.lit (.int .i64 1))) (.lit (.bool true)) (.b (.bin .gtr) (.u .len (.var 0)) (.lit (.int .i64 512))))
 (.set 1 (.lit (.int .i64 0))
 (.set 2 (.lit (.int .i64 1))
 .ret))
 .nxt)
 (.set 6 (.var 0)
 (.set 4 (.u .len (.var 6))
 (.set 3 (.lit (.int .i64 0))
 (.seq
 (.blk 0
 (.loop
 (.set 5 (.b (.bin .lss) (.var 3) (.var 4))
 (.seq
 (.ite (.var 5)
 .nxt
 (.exit 0))
 (.seq
 (.blk 1
 (.set 7 (.u .ld1 (.b (.idx 1) (.var 6) (.var 3)))
 (.ite (.ite (.b (.bin .lss) (.var 7) (.lit (.int .i64 0))) (.lit (.bool true)) (.b (.bin .gtr) (.var 7) (.lit (.int .i64 1125899906842624))))
 (.set 1 (.lit (.int .i64 0))
 (.set 2 (.lit (.int .i64 1))
 .ret))
 .nxt)))
 (.set 3 (.b (.bin .add) (.var 3) (.lit (.int .i64 1)))
 .nxt))))))
 (.call false (some 8) 124 (.cn (.var 0) .nl)
 (.chk (.u (.ext 0) (.var 8))
 (.chk (.u (.ext 1) (.var 8))
 (.set 1 (.u (.ext 0) (.var 8))
 (.set 2 (.u (.ext 1) (.var 8))
 .ret))))))))))))
def f_share_weighed : Fun:=⟨s_share_weighed,[(.var 1),(.var 2)]⟩
abbrev v_share_weighed : List Nat:=[0,2,3,16,15,17,14,5,28]
theorem vr_share_weighed : VRof P n_share_weighed s_share_weighed f_share_weighed v_share_weighed 31:=vo Tryz.func119 (by kernel_rfl) Tryz.ntmps119 rfl
theorem r_share_weighed : Fun.res f_share_weighed=[(.var 1),(.var 2)]:=rfl
abbrev g_share_weighed_0 : List Nat:=[1,2,3,5,7]
abbrev n_bits_Mul64 : Nat:=120
def s_bits_Mul64 : S :=
 (.set 2 (.lit (.int .u64 0))
 (.set 3 (.lit (.int .u64 0))
 (.set 4 (.b (.bin .and) (.var 0) (.lit (.int .u64 4294967295)))
 (.set 5 (.b (.bin .shr) (.var 0) (.lit (.int .u64 32)))
 (.set 6 (.b (.bin .and) (.var 1) (.lit (.int .u64 4294967295)))
 (.set 7 (.b (.bin .shr) (.var 1) (.lit (.int .u64 32)))
 (.set 8 (.b (.bin .mul) (.var 4) (.var 6))
 (.set 9 (.b (.bin .add) (.b (.bin .mul) (.var 5) (.var 6)) (.b (.bin .shr) (.var 8) (.lit (.int .u64 32))))
 (.set 10 (.b (.bin .and) (.var 9) (.lit (.int .u64 4294967295)))
 (.set 11 (.b (.bin .shr) (.var 9) (.lit (.int .u64 32)))
 (.set 10 (.b (.bin .add) (.var 10) (.b (.bin .mul) (.var 4) (.var 7)))
 (.set 2 (.b (.bin .add) (.b (.bin .add) (.b (.bin .mul) (.var 5) (.var 7)) (.var 11)) (.b (.bin .shr) (.var 10) (.lit (.int .u64 32))))
 (.set 3 (.b (.bin .mul) (.var 0) (.var 1))
 .ret)))))))))))))
def f_bits_Mul64 : Fun:=⟨s_bits_Mul64,[(.var 2),(.var 3)]⟩
abbrev v_bits_Mul64 : List Nat:=[0,1,4,5,6,7,8,9,10,11,12,13]
theorem vr_bits_Mul64 : VRof P n_bits_Mul64 s_bits_Mul64 f_bits_Mul64 v_bits_Mul64 51:=vo Tryz.func120 (by kernel_rfl) Tryz.ntmps120 rfl
theorem r_bits_Mul64 : Fun.res f_bits_Mul64=[(.var 2),(.var 3)]:=rfl
abbrev n_bits_Div64 : Nat:=121
def s_bits_Div64 : S :=
 (.set 3 (.lit (.int .u64 0))
 (.set 4 (.lit (.int .u64 0))
 (.seq
 (.ite (.b (.bin .eql) (.var 2) (.lit (.int .u64 0)))
 (.chk (.u .ld1 (.lit (.pointer (some ⟨0,0,none⟩))))
 .stop)
 .nxt)
 (.seq
 (.ite (.b (.bin .leq) (.var 2) (.var 0))
 (.chk (.u .ld1 (.lit (.pointer (some ⟨1,0,none⟩))))
 .stop)
 .nxt)
 (.seq
 (.ite (.b (.bin .eql) (.var 0) (.lit (.int .u64 0)))
 (.chk (.b (.bin .quo) (.var 1) (.var 2))
 (.chk (.b (.bin .rem) (.var 1) (.var 2))
 (.set 3 (.b (.bin .quo) (.var 1) (.var 2))
 (.set 4 (.b (.bin .rem) (.var 1) (.var 2))
 .ret))))
 .nxt)
 (.call false (some 16) 125 (.cn (.var 2) .nl)
 (.set 5 (.u (.conv .u64) (.var 16))
 (.set 2 (.b (.bin .shl) (.var 2) (.var 5))
 (.set 6 (.b (.bin .shr) (.var 2) (.lit (.int .u64 32)))
 (.set 7 (.b (.bin .and) (.var 2) (.lit (.int .u64 4294967295)))
 (.set 8 (.b (.bin .or) (.b (.bin .shl) (.var 0) (.var 5)) (.b (.bin .shr) (.var 1) (.b (.bin .sub) (.lit (.int .u64 64)) (.var 5))))
 (.set 9 (.b (.bin .shl) (.var 1) (.var 5))
 (.set 10 (.b (.bin .shr) (.var 9) (.lit (.int .u64 32)))
 (.set 11 (.b (.bin .and) (.var 9) (.lit (.int .u64 4294967295)))
 (.set 12 (.b (.bin .quo) (.var 8) (.var 6))
 (.set 13 (.b (.bin .sub) (.var 8) (.b (.bin .mul) (.var 12) (.var 6)))
 (.seq
 (.blk 0
 (.loop
 (.seq
 (.ite (.ite (.b (.bin .geq) (.var 12) (.lit (.int .u64 4294967296))) (.lit (.bool true)) (.b (.bin .gtr) (.b (.bin .mul) (.var 12) (.var 7)) (.b (.bin .add) (.b (.bin .mul) (.lit (.int .u64 4294967296)) (.var 13)) (.var 10))))
 .nxt
 (.exit 0))
 (.blk 1
 (.set 12 (.b (.bin .sub) (.var 12) (.lit (.int .u64 1)))
 (.set 13 (.b (.bin .add) (.var 13) (.var 6))
 (.ite (.b (.bin .geq) (.var 13) (.lit (.int .u64 4294967296)))
 (.exit 0)
 .nxt)))))))
 (.set 14 (.b (.bin .sub) (.b (.bin .add) (.b (.bin .mul) (.var 8) (.lit (.int .u64 4294967296))) (.var 10)) (.b (.bin .mul) (.var 12) (.var 2)))
 (.set 15 (.b (.bin .quo) (.var 14) (.var 6))
 (.set 13 (.b (.bin .sub) (.var 14) (.b (.bin .mul) (.var 15) (.var 6)))
 (.seq
 (.blk 2
 (.loop
 (.seq
 (.ite (.ite (.b (.bin .geq) (.var 15) (.lit (.int .u64 4294967296))) (.lit (.bool true)) (.b (.bin .gtr) (.b (.bin .mul) (.var 15) (.var 7)) (.b (.bin .add) (.b (.bin .mul) (.lit (.int .u64 4294967296)) (.var 13)) (.var 11))))
 .nxt
 (.exit 2))
 (.blk 3
 (.set 15 (.b (.bin .sub) (.var 15) (.lit (.int .u64 1)))
 (.set 13 (.b (.bin .add) (.var 13) (.var 6))
 (.ite (.b (.bin .geq) (.var 13) (.lit (.int .u64 4294967296)))
 (.exit 2)
 .nxt)))))))
 (.chk (.b (.bin .add) (.b (.bin .mul) (.var 12) (.lit (.int .u64 4294967296))) (.var 15))
 (.chk (.b (.bin .shr) (.b (.bin .sub) (.b (.bin .add) (.b (.bin .mul) (.var 14) (.lit (.int .u64 4294967296))) (.var 11)) (.b (.bin .mul) (.var 15) (.var 2))) (.var 5))
 (.set 3 (.b (.bin .add) (.b (.bin .mul) (.var 12) (.lit (.int .u64 4294967296))) (.var 15))
 (.set 4 (.b (.bin .shr) (.b (.bin .sub) (.b (.bin .add) (.b (.bin .mul) (.var 14) (.lit (.int .u64 4294967296))) (.var 11)) (.b (.bin .mul) (.var 15) (.var 2))) (.var 5))
 .ret)))))))))))))))))))))))))
def f_bits_Div64 : Fun:=⟨s_bits_Div64,[(.var 3),(.var 4)]⟩
abbrev v_bits_Div64 : List Nat:=[0,1,2,6,7,8,9,10,11,12,13,14,15,16,17,18,35]
theorem vr_bits_Div64 : VRof P n_bits_Div64 s_bits_Div64 f_bits_Div64 v_bits_Div64 135:=vo Tryz.func121 (by kernel_rfl) Tryz.ntmps121 rfl
theorem r_bits_Div64 : Fun.res f_bits_Div64=[(.var 3),(.var 4)]:=rfl
abbrev n_slices_SortStableFuncint_int : Nat:=122
def s_slices_SortStableFuncint_int : S :=
 (.call false none 126 (.cn (.var 0) (.cn (.u .len (.var 0)) (.cn (.var 1) .nl)))
 .nxt)
def f_slices_SortStableFuncint_int : Fun:=⟨s_slices_SortStableFuncint_int,[]⟩
abbrev v_slices_SortStableFuncint_int : List Nat:=[0,1]
theorem vr_slices_SortStableFuncint_int : VRof P n_slices_SortStableFuncint_int s_slices_SortStableFuncint_int f_slices_SortStableFuncint_int v_slices_SortStableFuncint_int 9:=vo Tryz.func122 (by kernel_rfl) Tryz.ntmps122 rfl
theorem r_slices_SortStableFuncint_int : Fun.res f_slices_SortStableFuncint_int=[]:=rfl
abbrev n_share_Split_1 : Nat:=123
def s_share_Split_1 : S :=
 (.set 3 (.lit (.int .i64 0))
 (.set 3 (.b (.bin .sub) (.u .ld1 (.b (.idx 1) (.u .ld1 (.var 2)) (.var 1))) (.u .ld1 (.b (.idx 1) (.u .ld1 (.var 2)) (.var 0))))
 .ret))
def f_share_Split_1 : Fun:=⟨s_share_Split_1,[(.var 3)]⟩
abbrev v_share_Split_1 : List Nat:=[0,1,2,5]
theorem vr_share_Split_1 : VRof P n_share_Split_1 s_share_Split_1 f_share_Split_1 v_share_Split_1 15:=vo Tryz.func123 (by kernel_rfl) Tryz.ntmps123 rfl
theorem r_share_Split_1 : Fun.res f_share_Split_1=[(.var 3)]:=rfl
abbrev n_num_Sum : Nat:=124
def s_num_Sum : S :=
 (.set 1 (.lit (.int .i64 0))
 (.set 2 (.lit (.int .i64 0))
 (.set 3 (.lit (.int .i64 0))
 (.set 4 (.lit (.int .i64 0))
 (.set 8 (.var 0)
 (.set 6 (.u .len (.var 8))
 (.set 5 (.lit (.int .i64 0))
 (.seq
 (.blk 0
 (.loop
 (.set 7 (.b (.bin .lss) (.var 5) (.var 6))
 (.seq
 (.ite (.var 7)
 .nxt
 (.exit 0))
 (.seq
 (.blk 1
 (.set 9 (.u .ld1 (.b (.idx 1) (.var 8) (.var 5)))
 (.eff false (some 10) (.lit 3 1 1 [(.int .i64 0)] (.pl 0 1 (.var 9) .nl))
 (.call false (some 12) 127 (.cn (.var 10) .nl)
 (.seq
 (.ite (.u (.un .not) (.var 12))
 (.set 1 (.lit (.int .i64 0))
 (.set 2 (.lit (.int .i64 1))
 .ret))
 .nxt)
 (.set 3 (.b (.bin .add) (.var 3) (.b (.bin .shr) (.var 9) (.lit (.int .u64 25))))
 (.set 4 (.b (.bin .add) (.var 4) (.b (.bin .and) (.var 9) (.lit (.int .i64 33554431))))
 .nxt)))))))
 (.set 5 (.b (.bin .add) (.var 5) (.lit (.int .i64 1)))
 .nxt))))))
 (.set 3 (.b (.bin .add) (.var 3) (.b (.bin .shr) (.var 4) (.lit (.int .u64 25))))
 (.seq
 (.ite (.ite (.b (.bin .lss) (.var 3) (.lit (.int .i64 (-67108864)))) (.lit (.bool true)) (.b (.bin .gtr) (.var 3) (.lit (.int .i64 67108864))))
 (.set 1 (.lit (.int .i64 0))
 (.set 2 (.lit (.int .i64 2))
 .ret))
 .nxt)
 (.call false (some 11) 128 (.cn (.b (.bin .add) (.b (.bin .shl) (.var 3) (.lit (.int .u64 25))) (.b (.bin .and) (.var 4) (.lit (.int .i64 33554431)))) .nl)
 (.chk (.u (.ext 0) (.var 11))
 (.chk (.u (.ext 1) (.var 11))
 (.set 1 (.u (.ext 0) (.var 11))
 (.set 2 (.u (.ext 1) (.var 11))
 .ret)))))))))))))))
def f_num_Sum : Fun:=⟨s_num_Sum,[(.var 1),(.var 2)]⟩
abbrev v_num_Sum : List Nat:=[0,2,3,4,5,10,9,11,8,7,15,42,16]
theorem vr_num_Sum : VRof P n_num_Sum s_num_Sum f_num_Sum v_num_Sum 45:=vo Tryz.func124 (by kernel_rfl) Tryz.ntmps124 rfl
theorem r_num_Sum : Fun.res f_num_Sum=[(.var 1),(.var 2)]:=rfl
abbrev g_num_Sum_0 : List Nat:=[1,2,3,4,5,7,9,10,12]
abbrev n_slices_stableCmpFunc : Nat:=126
def s_slices_stableCmpFunc : S :=
 (.set 3 (.lit (.int .i64 20))
 (.set 4 (.lit (.int .i64 0))
 (.set 5 (.var 3)
 (.seq
 (.blk 0
 (.loop
 (.seq
 (.ite (.b (.bin .leq) (.var 5) (.var 1))
 .nxt
 (.exit 0))
 (.blk 1
 (.call false none 130 (.cn (.var 0) (.cn (.var 4) (.cn (.var 5) (.cn (.var 2) .nl))))
 (.set 4 (.var 5)
 (.set 5 (.b (.bin .add) (.var 5) (.var 3))
 .nxt)))))))
 (.call false none 130 (.cn (.var 0) (.cn (.var 4) (.cn (.var 1) (.cn (.var 2) .nl))))
 (.blk 2
 (.loop
 (.seq
 (.ite (.b (.bin .lss) (.var 3) (.var 1))
 .nxt
 (.exit 2))
 (.blk 3
 (.chk (.b (.bin .mul) (.lit (.int .i64 2)) (.var 3))
 (.set 4 (.lit (.int .i64 0))
 (.set 5 (.b (.bin .mul) (.lit (.int .i64 2)) (.var 3))
 (.seq
 (.blk 4
 (.loop
 (.seq
 (.ite (.b (.bin .leq) (.var 5) (.var 1))
 .nxt
 (.exit 4))
 (.blk 5
 (.call false none 131 (.cn (.var 0) (.cn (.var 4) (.cn (.b (.bin .add) (.var 4) (.var 3)) (.cn (.var 5) (.cn (.var 2) .nl)))))
 (.set 4 (.var 5)
 (.set 5 (.b (.bin .add) (.var 5) (.b (.bin .mul) (.lit (.int .i64 2)) (.var 3)))
 .nxt)))))))
 (.set 6 (.b (.bin .add) (.var 4) (.var 3))
 (.seq
 (.ite (.b (.bin .lss) (.var 6) (.var 1))
 (.call false none 131 (.cn (.var 0) (.cn (.var 4) (.cn (.var 6) (.cn (.var 1) (.cn (.var 2) .nl)))))
 .nxt)
 .nxt)
 (.set 3 (.b (.bin .mul) (.var 3) (.lit (.int .i64 2)))
 .nxt))))))))))))))))
def f_slices_stableCmpFunc : Fun:=⟨s_slices_stableCmpFunc,[]⟩
abbrev v_slices_stableCmpFunc : List Nat:=[0,1,2,6,7,8,9]
theorem vr_slices_stableCmpFunc : VRof P n_slices_stableCmpFunc s_slices_stableCmpFunc f_slices_stableCmpFunc v_slices_stableCmpFunc 63:=vo Tryz.func126 (by kernel_rfl) Tryz.ntmps126 rfl
theorem r_slices_stableCmpFunc : Fun.res f_slices_stableCmpFunc=[]:=rfl
abbrev g_slices_stableCmpFunc_0 : List Nat:=[4,5]
abbrev g_slices_stableCmpFunc_1 : List Nat:=[3,4,5,6]
abbrev g_slices_stableCmpFunc_2 : List Nat:=[4,5]
abbrev n_num_in : Nat:=127
def s_num_in : S :=
 (.set 1 (.lit (.bool false))
 (.set 5 (.var 0)
 (.set 3 (.u .len (.var 5))
 (.set 2 (.lit (.int .i64 0))
 (.seq
 (.blk 0
 (.loop
 (.set 4 (.b (.bin .lss) (.var 2) (.var 3))
 (.seq
 (.ite (.var 4)
 .nxt
 (.exit 0))
 (.seq
 (.blk 1
 (.set 6 (.u .ld1 (.b (.idx 1) (.var 5) (.var 2)))
 (.ite (.ite (.b (.bin .lss) (.var 6) (.lit (.int .i64 (-1125899906842624)))) (.lit (.bool true)) (.b (.bin .gtr) (.var 6) (.lit (.int .i64 1125899906842624))))
 (.set 1 (.lit (.bool false))
 .ret)
 .nxt)))
 (.set 2 (.b (.bin .add) (.var 2) (.lit (.int .i64 1)))
 .nxt))))))
 (.set 1 (.lit (.bool true))
 .ret))))))
def f_num_in : Fun:=⟨s_num_in,[(.var 1)]⟩
abbrev v_num_in : List Nat:=[0,2,7,6,8,5,4]
theorem vr_num_in : VRof P n_num_in s_num_in f_num_in v_num_in 18:=vo Tryz.func127 (by kernel_rfl) Tryz.ntmps127 rfl
theorem r_num_in : Fun.res f_num_in=[(.var 1)]:=rfl
abbrev g_num_in_0 : List Nat:=[1,2,4,6]
abbrev n_num_checked : Nat:=128
def s_num_checked : S :=
 (.set 1 (.lit (.int .i64 0))
 (.set 2 (.lit (.int .i64 0))
 (.eff false (some 3) (.lit 3 1 1 [(.int .i64 0)] (.pl 0 1 (.var 0) .nl))
 (.call false (some 4) 127 (.cn (.var 3) .nl)
 (.seq
 (.ite (.u (.un .not) (.var 4))
 (.set 1 (.lit (.int .i64 0))
 (.set 2 (.lit (.int .i64 2))
 .ret))
 .nxt)
 (.set 1 (.var 0)
 (.set 2 (.lit (.int .i64 0))
 .ret)))))))
def f_num_checked : Fun:=⟨s_num_checked,[(.var 1),(.var 2)]⟩
abbrev v_num_checked : List Nat:=[0,2,3,5,6]
theorem vr_num_checked : VRof P n_num_checked s_num_checked f_num_checked v_num_checked 9:=vo Tryz.func128 (by kernel_rfl) Tryz.ntmps128 rfl
theorem r_num_checked : Fun.res f_num_checked=[(.var 1),(.var 2)]:=rfl
abbrev n_slices_insertionSortCmpFunc : Nat:=130
def s_slices_insertionSortCmpFunc : S :=
 (.set 4 (.b (.bin .add) (.var 1) (.lit (.int .i64 1)))
 (.blk 0
 (.loop
 (.seq
 (.ite (.b (.bin .lss) (.var 4) (.var 2))
 .nxt
 (.exit 0))
 (.seq
 (.blk 1
 (.set 5 (.var 4)
 (.blk 2
 (.loop
 (.chk (.ite (.b (.bin .gtr) (.var 5) (.var 1)) (.u .ld1 (.b (.idx 1) (.var 0) (.var 5))) (.lit undef))
 (.chk (.ite (.b (.bin .gtr) (.var 5) (.var 1)) (.u .ld1 (.b (.idx 1) (.var 0) (.b (.bin .sub) (.var 5) (.lit (.int .i64 1))))) (.lit undef))
 (.seq
 (.ite (.b (.bin .gtr) (.var 5) (.var 1))
 (.callv false (some 6) (.var 3) (.cn (.u .ld1 (.b (.idx 1) (.var 0) (.var 5))) (.cn (.u .ld1 (.b (.idx 1) (.var 0) (.b (.bin .sub) (.var 5) (.lit (.int .i64 1))))) .nl))
 (.ite (.b (.bin .lss) (.var 6) (.lit (.int .i64 0)))
 .nxt
 (.exit 2)))
 (.set 6 (.lit undef)
 (.ite (.lit (.bool false))
 .nxt
 (.exit 2))))
 (.seq
 (.blk 3
 (.chk (.u .ld1 (.b (.idx 1) (.var 0) (.b (.bin .sub) (.var 5) (.lit (.int .i64 1)))))
 (.set 7 (.u .ld1 (.b (.idx 1) (.var 0) (.var 5)))
 (.eff false none (.st 1 (.b (.idx 1) (.var 0) (.var 5)) (.u .ld1 (.b (.idx 1) (.var 0) (.b (.bin .sub) (.var 5) (.lit (.int .i64 1))))))
 (.eff false none (.st 1 (.b (.idx 1) (.var 0) (.b (.bin .sub) (.var 5) (.lit (.int .i64 1)))) (.var 7))
 .nxt)))))
 (.set 5 (.b (.bin .sub) (.var 5) (.lit (.int .i64 1)))
 .nxt)))))))))
 (.set 4 (.b (.bin .add) (.var 4) (.lit (.int .i64 1)))
 .nxt))))))
def f_slices_insertionSortCmpFunc : Fun:=⟨s_slices_insertionSortCmpFunc,[]⟩
abbrev v_slices_insertionSortCmpFunc : List Nat:=[0,1,2,3,8,9,32,50]
theorem vr_slices_insertionSortCmpFunc : VRof P n_slices_insertionSortCmpFunc s_slices_insertionSortCmpFunc f_slices_insertionSortCmpFunc v_slices_insertionSortCmpFunc 53:=vo Tryz.func130 (by kernel_rfl) Tryz.ntmps130 rfl
theorem r_slices_insertionSortCmpFunc : Fun.res f_slices_insertionSortCmpFunc=[]:=rfl
abbrev g_slices_insertionSortCmpFunc_0 : List Nat:=[4,5,6,7]
abbrev g_slices_insertionSortCmpFunc_1 : List Nat:=[5,6,7]
abbrev n_slices_symMergeCmpFunc : Nat:=131
def s_slices_symMergeCmpFunc : S :=
 (.seq
 (.ite (.b (.bin .eql) (.b (.bin .sub) (.var 2) (.var 1)) (.lit (.int .i64 1)))
 (.set 5 (.var 2)
 (.set 6 (.var 3)
 (.seq
 (.blk 0
 (.loop
 (.seq
 (.ite (.b (.bin .lss) (.var 5) (.var 6))
 .nxt
 (.exit 0))
 (.blk 1
 (.set 7 (.u (.conv .i64) (.b (.bin .shr) (.u (.conv .u64) (.b (.bin .add) (.var 5) (.var 6))) (.lit (.int .u64 1))))
 (.callv false (some 20) (.var 4) (.cn (.u .ld1 (.b (.idx 1) (.var 0) (.var 7))) (.cn (.u .ld1 (.b (.idx 1) (.var 0) (.var 1))) .nl))
 (.ite (.b (.bin .lss) (.var 20) (.lit (.int .i64 0)))
 (.set 5 (.b (.bin .add) (.var 7) (.lit (.int .i64 1)))
 .nxt)
 (.set 6 (.var 7)
 .nxt))))))))
 (.set 8 (.var 1)
 (.seq
 (.blk 2
 (.loop
 (.seq
 (.ite (.b (.bin .lss) (.var 8) (.b (.bin .sub) (.var 5) (.lit (.int .i64 1))))
 .nxt
 (.exit 2))
 (.seq
 (.blk 3
 (.chk (.u .ld1 (.b (.idx 1) (.var 0) (.b (.bin .add) (.var 8) (.lit (.int .i64 1)))))
 (.set 21 (.u .ld1 (.b (.idx 1) (.var 0) (.var 8)))
 (.eff false none (.st 1 (.b (.idx 1) (.var 0) (.var 8)) (.u .ld1 (.b (.idx 1) (.var 0) (.b (.bin .add) (.var 8) (.lit (.int .i64 1))))))
 (.eff false none (.st 1 (.b (.idx 1) (.var 0) (.b (.bin .add) (.var 8) (.lit (.int .i64 1)))) (.var 21))
 .nxt)))))
 (.set 8 (.b (.bin .add) (.var 8) (.lit (.int .i64 1)))
 .nxt)))))
 .ret)))))
 .nxt)
 (.seq
 (.ite (.b (.bin .eql) (.b (.bin .sub) (.var 3) (.var 2)) (.lit (.int .i64 1)))
 (.set 9 (.var 1)
 (.set 10 (.var 2)
 (.seq
 (.blk 4
 (.loop
 (.seq
 (.ite (.b (.bin .lss) (.var 9) (.var 10))
 .nxt
 (.exit 4))
 (.blk 5
 (.set 11 (.u (.conv .i64) (.b (.bin .shr) (.u (.conv .u64) (.b (.bin .add) (.var 9) (.var 10))) (.lit (.int .u64 1))))
 (.callv false (some 22) (.var 4) (.cn (.u .ld1 (.b (.idx 1) (.var 0) (.var 2))) (.cn (.u .ld1 (.b (.idx 1) (.var 0) (.var 11))) .nl))
 (.ite (.u (.un .not) (.b (.bin .lss) (.var 22) (.lit (.int .i64 0))))
 (.set 9 (.b (.bin .add) (.var 11) (.lit (.int .i64 1)))
 .nxt)
 (.set 10 (.var 11)
 .nxt))))))))
 (.set 12 (.var 2)
 (.seq
 (.blk 6
 (.loop
 (.seq
 (.ite (.b (.bin .gtr) (.var 12) (.var 9))
 .nxt
 (.exit 6))
 (.seq
 (.blk 7
 (.chk (.u .ld1 (.b (.idx 1) (.var 0) (.b (.bin .sub) (.var 12) (.lit (.int .i64 1)))))
 (.set 23 (.u .ld1 (.b (.idx 1) (.var 0) (.var 12)))
 (.eff false none (.st 1 (.b (.idx 1) (.var 0) (.var 12)) (.u .ld1 (.b (.idx 1) (.var 0) (.b (.bin .sub) (.var 12) (.lit (.int .i64 1))))))
 (.eff false none (.st 1 (.b (.idx 1) (.var 0) (.b (.bin .sub) (.var 12) (.lit (.int .i64 1)))) (.var 23))
 .nxt)))))
 (.set 12 (.b (.bin .sub) (.var 12) (.lit (.int .i64 1)))
 .nxt)))))
 .ret)))))
 .nxt)
 (.set 13 (.u (.conv .i64) (.b (.bin .shr) (.u (.conv .u64) (.b (.bin .add) (.var 1) (.var 3))) (.lit (.int .u64 1))))
 (.set 14 (.b (.bin .add) (.var 13) (.var 2))
 (.set 15 (.lit (.int .i64 0))
 (.set 16 (.lit (.int .i64 0))
 (.seq
 (.ite (.b (.bin .gtr) (.var 2) (.var 13))
 (.set 15 (.b (.bin .sub) (.var 14) (.var 3))
 (.set 16 (.var 13)
 .nxt))
 (.set 15 (.var 1)
 (.set 16 (.var 2)
 .nxt)))
 (.set 17 (.b (.bin .sub) (.var 14) (.lit (.int .i64 1)))
 (.seq
 (.blk 8
 (.loop
 (.seq
 (.ite (.b (.bin .lss) (.var 15) (.var 16))
 .nxt
 (.exit 8))
 (.blk 9
 (.set 18 (.u (.conv .i64) (.b (.bin .shr) (.u (.conv .u64) (.b (.bin .add) (.var 15) (.var 16))) (.lit (.int .u64 1))))
 (.callv false (some 24) (.var 4) (.cn (.u .ld1 (.b (.idx 1) (.var 0) (.b (.bin .sub) (.var 17) (.var 18)))) (.cn (.u .ld1 (.b (.idx 1) (.var 0) (.var 18))) .nl))
 (.ite (.u (.un .not) (.b (.bin .lss) (.var 24) (.lit (.int .i64 0))))
 (.set 15 (.b (.bin .add) (.var 18) (.lit (.int .i64 1)))
 .nxt)
 (.set 16 (.var 18)
 .nxt))))))))
 (.set 19 (.b (.bin .sub) (.var 14) (.var 15))
 (.seq
 (.ite (.ite (.b (.bin .lss) (.var 15) (.var 2)) (.b (.bin .lss) (.var 2) (.var 19)) (.lit (.bool false)))
 (.call false none 132 (.cn (.var 0) (.cn (.var 15) (.cn (.var 2) (.cn (.var 19) (.cn (.var 4) .nl)))))
 .nxt)
 .nxt)
 (.seq
 (.ite (.ite (.b (.bin .lss) (.var 1) (.var 15)) (.b (.bin .lss) (.var 15) (.var 13)) (.lit (.bool false)))
 (.call false none 131 (.cn (.var 0) (.cn (.var 1) (.cn (.var 15) (.cn (.var 13) (.cn (.var 4) .nl)))))
 .nxt)
 .nxt)
 (.ite (.ite (.b (.bin .lss) (.var 13) (.var 19)) (.b (.bin .lss) (.var 19) (.var 3)) (.lit (.bool false)))
 (.call false none 131 (.cn (.var 0) (.cn (.var 13) (.cn (.var 19) (.cn (.var 3) (.cn (.var 4) .nl)))))
 .nxt)
 .nxt)))))))))))))
def f_slices_symMergeCmpFunc : Fun:=⟨s_slices_symMergeCmpFunc,[]⟩
abbrev v_slices_symMergeCmpFunc : List Nat:=[0,1,2,3,4,10,11,12,13,14,15,16,17,18,19,20,21,22,23,24,49,74,101,126,169]
theorem vr_slices_symMergeCmpFunc : VRof P n_slices_symMergeCmpFunc s_slices_symMergeCmpFunc f_slices_symMergeCmpFunc v_slices_symMergeCmpFunc 220:=vo Tryz.func131 (by kernel_rfl) Tryz.ntmps131 rfl
theorem r_slices_symMergeCmpFunc : Fun.res f_slices_symMergeCmpFunc=[]:=rfl
abbrev g_slices_symMergeCmpFunc_0 : List Nat:=[5,6,7,20]
abbrev g_slices_symMergeCmpFunc_1 : List Nat:=[8,21]
abbrev g_slices_symMergeCmpFunc_2 : List Nat:=[9,10,11,22]
abbrev g_slices_symMergeCmpFunc_3 : List Nat:=[12,23]
abbrev g_slices_symMergeCmpFunc_4 : List Nat:=[15,16,18,24]
abbrev n_slices_rotateCmpFunc : Nat:=132
def s_slices_rotateCmpFunc : S :=
 (.set 5 (.b (.bin .sub) (.var 2) (.var 1))
 (.set 6 (.b (.bin .sub) (.var 3) (.var 2))
 (.seq
 (.blk 0
 (.loop
 (.seq
 (.ite (.b (.bin .neq) (.var 5) (.var 6))
 .nxt
 (.exit 0))
 (.blk 1
 (.ite (.b (.bin .gtr) (.var 5) (.var 6))
 (.call false none 133 (.cn (.var 0) (.cn (.b (.bin .sub) (.var 2) (.var 5)) (.cn (.var 2) (.cn (.var 6) (.cn (.var 4) .nl)))))
 (.set 5 (.b (.bin .sub) (.var 5) (.var 6))
 .nxt))
 (.call false none 133 (.cn (.var 0) (.cn (.b (.bin .sub) (.var 2) (.var 5)) (.cn (.b (.bin .sub) (.b (.bin .add) (.var 2) (.var 6)) (.var 5)) (.cn (.var 5) (.cn (.var 4) .nl)))))
 (.set 6 (.b (.bin .sub) (.var 6) (.var 5))
 .nxt)))))))
 (.call false none 133 (.cn (.var 0) (.cn (.b (.bin .sub) (.var 2) (.var 5)) (.cn (.var 2) (.cn (.var 5) (.cn (.var 4) .nl)))))
 .nxt))))
def f_slices_rotateCmpFunc : Fun:=⟨s_slices_rotateCmpFunc,[]⟩
abbrev v_slices_rotateCmpFunc : List Nat:=[0,1,2,3,4,10,11]
theorem vr_slices_rotateCmpFunc : VRof P n_slices_rotateCmpFunc s_slices_rotateCmpFunc f_slices_rotateCmpFunc v_slices_rotateCmpFunc 58:=vo Tryz.func132 (by kernel_rfl) Tryz.ntmps132 rfl
theorem r_slices_rotateCmpFunc : Fun.res f_slices_rotateCmpFunc=[]:=rfl
abbrev g_slices_rotateCmpFunc_0 : List Nat:=[5,6]
abbrev n_slices_swapRangeCmpFunc : Nat:=133
def s_slices_swapRangeCmpFunc : S :=
 (.set 5 (.lit (.int .i64 0))
 (.blk 0
 (.loop
 (.seq
 (.ite (.b (.bin .lss) (.var 5) (.var 3))
 .nxt
 (.exit 0))
 (.seq
 (.blk 1
 (.chk (.b (.bin .add) (.var 1) (.var 5))
 (.chk (.u .ld1 (.b (.idx 1) (.var 0) (.b (.bin .add) (.var 2) (.var 5))))
 (.set 6 (.u .ld1 (.b (.idx 1) (.var 0) (.b (.bin .add) (.var 1) (.var 5))))
 (.eff false none (.st 1 (.b (.idx 1) (.var 0) (.b (.bin .add) (.var 1) (.var 5))) (.u .ld1 (.b (.idx 1) (.var 0) (.b (.bin .add) (.var 2) (.var 5)))))
 (.eff false none (.st 1 (.b (.idx 1) (.var 0) (.b (.bin .add) (.var 2) (.var 5))) (.var 6))
 .nxt))))))
 (.set 5 (.b (.bin .add) (.var 5) (.lit (.int .i64 1)))
 .nxt))))))
def f_slices_swapRangeCmpFunc : Fun:=⟨s_slices_swapRangeCmpFunc,[]⟩
abbrev v_slices_swapRangeCmpFunc : List Nat:=[0,1,2,3,4,10,35]
theorem vr_slices_swapRangeCmpFunc : VRof P n_slices_swapRangeCmpFunc s_slices_swapRangeCmpFunc f_slices_swapRangeCmpFunc v_slices_swapRangeCmpFunc 38:=vo Tryz.func133 (by kernel_rfl) Tryz.ntmps133 rfl
theorem r_slices_swapRangeCmpFunc : Fun.res f_slices_swapRangeCmpFunc=[]:=rfl
abbrev g_slices_swapRangeCmpFunc_0 : List Nat:=[5,6]
abbrev n_plant_state_step : Nat:=59
def s_plant_state_step : S :=
 (.eff false (some 2) (.box 123 (.var 0))
 (.eff false (some 1) (.alloc 28 [(.int .i64 0)])
 (.call false (some 21) 84 (.cn (.u .ld1 (.u (.fld 4) (.u .nilc (.u .ld1 (.var 2))))) .nl)
 (.eff false (some 3) (.alloc 34 [(.slice none 0 0)])
 (.eff false none (.st 1 (.var 3) (.var 21))
 (.seq
 (.blk 9999
 (.set 5 (.u .len (.u .ld1 (.u (.fld 4) (.u .nilc (.u .ld1 (.var 2))))))
 (.set 4 (.lit (.int .i64 0))
 (.seq
 (.blk 0
 (.loop
 (.set 6 (.b (.bin .lss) (.var 4) (.var 5))
 (.seq
 (.ite (.var 6)
 .nxt
 (.exit 0))
 (.seq
 (.blk 1
 (.set 7 (.var 4)
 (.set 22 (.u .ld1 (.u (.fld 4) (.u .nilc (.u .ld1 (.var 2)))))
 (.call true (some 26) 67 (.cn (.u .ld1 (.b (.idx 1) (.u .ld1 (.u (.fld 4) (.u .nilc (.u .ld1 (.var 2))))) (.var 7))) .nl)
 (.eff false none (.st 1 (.b (.idx 1) (.var 22) (.var 7)) (.var 26))
 .nxt)))))
 (.set 4 (.b (.bin .add) (.var 4) (.lit (.int .i64 1)))
 .nxt))))))
 (.set 11 (.u .ld1 (.u (.fld 2) (.u (.fld 0) (.u .nilc (.u .ld1 (.var 2))))))
 (.set 9 (.u .len (.var 11))
 (.set 8 (.lit (.int .i64 0))
 (.seq
 (.blk 2
 (.loop
 (.set 10 (.b (.bin .lss) (.var 8) (.var 9))
 (.seq
 (.ite (.var 10)
 .nxt
 (.exit 2))
 (.seq
 (.blk 3
 (.chk (.u (.lda 4) (.b (.idx 4) (.var 11) (.var 8)))
 (.eff false (some 15) (.alloc 74 [(.int .i64 0),(.int .i64 0),(.int .i64 0),(.int .i64 0)])
 (.set 12 (.var 8)
 (.eff false none (.st 4 (.var 15) (.u (.lda 4) (.b (.idx 4) (.var 11) (.var 8))))
 (.call false (some 23) 86 (.cn (.u .ld1 (.var 2)) (.cn (.var 12) .nl))
 (.chk (.u (.ext 0) (.var 23))
 (.chk (.u (.ext 1) (.var 23))
 (.set 13 (.u (.ext 0) (.var 23))
 (.set 14 (.u (.ext 1) (.var 23))
 (.seq
 (.ite (.b (.bin .neq) (.var 14) (.lit (.int .i64 0)))
 (.eff false none (.st 1 (.var 1) (.var 14))
 (.exit 9999))
 .nxt)
 (.call false none 48 (.cn (.u .ld1 (.b (.idx 1) (.u .ld1 (.u (.fld 4) (.u .nilc (.u .ld1 (.var 2))))) (.u .ld1 (.u (.fld 2) (.var 15))))) (.cn (.var 13) .nl))
 .nxt))))))))))))
 (.set 8 (.b (.bin .add) (.var 8) (.lit (.int .i64 1)))
 .nxt))))))
 (.set 17 (.u .len (.u .ld1 (.u (.fld 1) (.u (.fld 0) (.u .nilc (.u .ld1 (.var 2)))))))
 (.set 16 (.lit (.int .i64 0))
 (.seq
 (.blk 4
 (.loop
 (.set 18 (.b (.bin .lss) (.var 16) (.var 17))
 (.seq
 (.ite (.var 18)
 .nxt
 (.exit 4))
 (.seq
 (.blk 5
 (.set 19 (.var 16)
 (.call false (some 24) 75 (.cn (.u .ld1 (.var 2)) (.cn (.var 19) .nl))
 (.seq
 (.ite (.ite (.var 24) (.lit (.bool true)) (.u .ld1 (.b (.idx 1) (.u .ld1 (.u (.fld 6) (.u .nilc (.u .ld1 (.var 2))))) (.var 19))))
 (.exit 5)
 .nxt)
 (.call false (some 25) 87 (.cn (.u .ld1 (.var 2)) (.cn (.var 19) .nl))
 (.set 20 (.var 25)
 (.ite (.b (.bin .neq) (.var 20) (.lit (.int .i64 0)))
 (.eff false none (.st 1 (.var 1) (.var 20))
 (.exit 9999))
 .nxt)))))))
 (.set 16 (.b (.bin .add) (.var 16) (.lit (.int .i64 1)))
 .nxt))))))
 (.eff false none (.st 1 (.var 1) (.lit (.int .i64 0)))
 (.exit 9999)))))))))))))
 (.ite (.b (.bin .neq) (.u .ld1 (.var 1)) (.lit (.int .i64 0)))
 (.eff false none (.st 1 (.u (.fld 4) (.u .nilc (.u .ld1 (.var 2)))) (.u .ld1 (.var 3)))
 .nxt)
 .nxt)))))))
def f_plant_state_step : Fun:=⟨s_plant_state_step,[(.u .ld1 (.var 1))]⟩
abbrev v_plant_state_step : List Nat:=[0,2,1,3,22,21,23,4,46,45,47,44,5,7,8,6,77,76,78,9,10,15,28,54,82,94,37]
theorem vr_plant_state_step : VRof P n_plant_state_step s_plant_state_step f_plant_state_step v_plant_state_step 99:=vod Tryz.func59 Tryz.func85 (V:=v_plant_state_step_1) (by kernel_rfl) Tryz.ntmps59 rfl
theorem r_plant_state_step : Fun.res f_plant_state_step=[(.u .ld1 (.var 1))]:=rfl
abbrev g_plant_state_step_0 : List Nat:=[4,6,7,22,26]
abbrev g_plant_state_step_1 : List Nat:=[8,10,12,13,14,15,23]
abbrev g_plant_state_step_2 : List Nat:=[16,18,19,20,24,25]
end Go.Proofs.YtdkoindoljngmaaGreat
