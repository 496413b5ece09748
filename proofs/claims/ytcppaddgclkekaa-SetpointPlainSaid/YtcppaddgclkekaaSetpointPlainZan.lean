/- Lemmas and walks that the proof of SetpointPlain uses. No statement is claimed here. -/
import Derived.Test.YtcppaddgclkekaaSetpointPlainZam
import Derived.Test.YtcppaddgclkekaaChecked
import Derived.KernelRfl
namespace Go.Proofs.Ytcppaddgclkekaa
open Go Go.Lft
set_option maxRecDepth 100000
noncomputable abbrev P : Program:=Go.Proofs.Try.prog
theorem P_mixed : P.follows .mixedOrders=true:=by kernel_rfl
theorem vo {f : Nat} {fn : Func} {V : List Nat} {F : Fun} {nt : Nat} {s : S} (hf : P.funcs[f]?=some fn) (hc : compF P fn V false=some F) (hn : fn.ntmps=nt) (hb : F.body=s) : VRof P f s F V nt:=.of hb fun hl _ _ hs=>fn_of P_mixed hf hc (by rw [hn]; exact hl) hs
theorem vok {f : Nat} {fn : Func} {V : List Nat} {F : Fun} {nt : Nat} {s : S} (hf : P.funcs[f]?=some fn) (hc : compF P fn V true=some F) (hn : fn.ntmps=nt) (hb : F.body=s) : VRof P f s F V nt:=.of hb fun hl _ _ hs=>fn_of P_mixed hf hc (by rw [hn]; exact hl) hs
theorem vod {f g : Nat} {fn fg : Func} {V Vg : List Nat} {F : Fun} {nt : Nat} (hf : P.funcs[f]?=some fn) (hfg : P.funcs[g]?=some fg) (hc : compFD P fn fg Vg V g=some F) (hn : fn.ntmps=nt) {s : S} (hb : F.body=s) : VRof P f s F Vg nt:=.of hb fun hl _ _ hs=>fn_ofD P_mixed hf hfg hc (by rw [hn]; exact hl) hs
abbrev n_law37_SetpointPlain : Nat:=6
def s_law37_SetpointPlain : S :=
 (.eff false (some 4) (.box 25 (.var 0))
 (.set 3 (.lit (.bool false))
 (.chk (.bld [(.int .i64 0),(.slice none 0 0),(.slice none 0 0),(.int .i64 0),(.slice none 0 0),(.slice none 0 0),(.slice none 0 0)] (.pl 0 4 (.u (.lda 4) (.var 4)) (.pl 5 1 (.var 1) (.pl 6 1 (.var 2) .nl))))
 (.call false (some 9) 7 (.cn (.bld [(.int .i64 0),(.slice none 0 0),(.slice none 0 0),(.int .i64 0),(.slice none 0 0),(.slice none 0 0),(.slice none 0 0)] (.pl 0 4 (.u (.lda 4) (.var 4)) (.pl 5 1 (.var 1) (.pl 6 1 (.var 2) .nl)))) .nl)
 (.seq
 (.ite (.u (.un .not) (.var 9))
 (.call false (some 10) 8 .nl
 (.set 3 (.var 10)
 .ret))
 .nxt)
 (.call false (some 11) 14 (.cn (.u (.lda 4) (.var 4)) (.cn (.var 1) (.cn (.var 2) .nl)))
 (.chk (.u (.ext 0) (.var 11))
 (.chk (.u (.ext 1) (.var 11))
 (.set 5 (.u (.ext 0) (.var 11))
 (.set 6 (.u (.ext 1) (.var 11))
 (.seq
 (.ite (.b (.bin .neq) (.var 6) (.lit (.int .i64 0)))
 (.seq
 (.ite (.b (.bin .eql) (.var 5) (.lit (.int .i64 0)))
 (.call false (some 12) 8 .nl
 (.set 3 (.var 12)
 .nxt))
 (.set 12 (.lit undef)
 (.set 3 (.lit (.bool false))
 .nxt)))
 .ret)
 .nxt)
 (.seq
 (.both
 (.chk (.u (.lda 4) (.var 4))
 (.eff false (some 13) (.mk 58 1 24 [(.slice none 0 0)] (.u .len (.u .ld1 (.u (.fld 1) (.var 4)))) (.u .len (.u .ld1 (.u (.fld 1) (.var 4)))))
 (.eff false (some 8) (.alloc 47 [(.slice none 0 0),(.int .i64 0)])
 (.call false (some 15) 13 (.cn (.u (.lda 4) (.var 4)) (.cn (.var 13) (.cn (.var 1) (.cn (.var 2) .nl))))
 (.chk (.u (.ext 0) (.var 15))
 (.chk (.u (.ext 1) (.var 15))
 (.eff false none (.st 2 (.var 8) (.u (.ext 0) (.var 15)))
 (.set 7 (.u (.ext 1) (.var 15))
 .nxt))))))))
 (.chk (.u (.lda 4) (.var 4))
 (.eff false (some 13) (.mk 58 1 24 [(.slice none 0 0)] (.u .len (.u .ld1 (.u (.fld 1) (.var 4)))) (.u .len (.u .ld1 (.u (.fld 1) (.var 4)))))
 (.call false (some 15) 13 (.cn (.u (.lda 4) (.var 4)) (.cn (.var 13) (.cn (.var 1) (.cn (.var 2) .nl))))
 (.chk (.u (.ext 0) (.var 15))
 (.chk (.u (.ext 1) (.var 15))
 (.eff false (some 8) (.alloc 47 [(.slice none 0 0),(.int .i64 0)])
 (.eff false none (.st 2 (.var 8) (.u (.ext 0) (.var 15)))
 (.set 7 (.u (.ext 1) (.var 15))
 .nxt)))))))))
 (.chk (.ite (.ite (.b (.bin .eql) (.var 7) (.lit (.int .i64 0))) (.b (.bin .eql) (.u .ld1 (.u (.fld 1) (.var 8))) (.var 5)) (.lit (.bool false))) (.u .ld1 (.u (.fld 0) (.var 8))) (.lit undef))
 (.chk (.ite (.ite (.b (.bin .eql) (.var 7) (.lit (.int .i64 0))) (.b (.bin .eql) (.u .ld1 (.u (.fld 1) (.var 8))) (.var 5)) (.lit (.bool false))) (.u .len (.u .ld1 (.u (.fld 1) (.var 4)))) (.lit undef))
 (.seq
 (.ite (.ite (.b (.bin .eql) (.var 7) (.lit (.int .i64 0))) (.b (.bin .eql) (.u .ld1 (.u (.fld 1) (.var 8))) (.var 5)) (.lit (.bool false)))
 (.eff false (some 14) (.mk 3 1 8 [(.int .i64 0)] (.u .len (.u .ld1 (.u (.fld 1) (.var 4)))) (.u .len (.u .ld1 (.u (.fld 1) (.var 4)))))
 (.call false (some 16) 17 (.cn (.u .ld1 (.u (.fld 0) (.var 8))) (.cn (.var 14) .nl))
 (.ite (.var 16)
 (.call false (some 17) 8 .nl
 (.set 3 (.var 17)
 .nxt))
 (.set 17 (.lit undef)
 (.set 3 (.lit (.bool false))
 .nxt)))))
 (.set 14 (.lit undef)
 (.set 16 (.lit undef)
 (.set 17 (.lit undef)
 (.set 3 (.lit (.bool false))
 .nxt)))))
 .ret)))))))))))))))
def f_law37_SetpointPlain : Fun:=⟨s_law37_SetpointPlain,[(.var 3)]⟩
abbrev v_law37_SetpointPlain : List Nat:=[0,1,2,6,3,7,8,10,9,15,17,22,30,37,57,40,58,61]
theorem vr_law37_SetpointPlain : VRof P n_law37_SetpointPlain s_law37_SetpointPlain f_law37_SetpointPlain v_law37_SetpointPlain 63:=vo Try.func6 (by kernel_rfl) Try.ntmps6 rfl
theorem r_law37_SetpointPlain : Fun.res f_law37_SetpointPlain=[(.var 3)]:=rfl
abbrev n_law37_light : Nat:=7
def s_law37_light : S :=
 (.eff false (some 2) (.box 32 (.var 0))
 (.set 1 (.lit (.bool false))
 (.seq
 (.ite (.ite (.ite (.ite (.ite (.b (.bin .gtr) (.u .len (.u .ld1 (.u (.fld 1) (.u (.fld 0) (.var 2))))) (.lit (.int .i64 30))) (.lit (.bool true)) (.b (.bin .gtr) (.u .len (.u .ld1 (.u (.fld 2) (.u (.fld 0) (.var 2))))) (.lit (.int .i64 60)))) (.lit (.bool true)) (.b (.bin .gtr) (.u .len (.u .ld1 (.u (.fld 4) (.var 2)))) (.lit (.int .i64 40)))) (.lit (.bool true)) (.b (.bin .gtr) (.u .len (.u .ld1 (.u (.fld 5) (.var 2)))) (.lit (.int .i64 40)))) (.lit (.bool true)) (.b (.bin .gtr) (.u .len (.u .ld1 (.u (.fld 6) (.var 2)))) (.lit (.int .i64 60))))
 (.set 1 (.lit (.bool false))
 .ret)
 .nxt)
 (.set 3 (.lit (.int .i64 0))
 (.seq
 (.blk 0
 (.loop
 (.seq
 (.ite (.b (.bin .lss) (.var 3) (.u .len (.u .ld1 (.u (.fld 1) (.u (.fld 0) (.var 2))))))
 .nxt
 (.exit 0))
 (.seq
 (.blk 1
 (.call false (some 10) 18 (.cn (.u .ld1 (.u (.fld 0) (.b (.idx 1) (.u .ld1 (.u (.fld 1) (.u (.fld 0) (.var 2)))) (.var 3)))) .nl)
 (.ite (.u (.un .not) (.var 10))
 (.set 1 (.lit (.bool false))
 .ret)
 .nxt)))
 (.set 3 (.b (.bin .add) (.var 3) (.lit (.int .i64 1)))
 .nxt)))))
 (.set 4 (.lit (.int .i64 0))
 (.seq
 (.blk 2
 (.loop
 (.seq
 (.ite (.b (.bin .lss) (.var 4) (.u .len (.u .ld1 (.u (.fld 4) (.var 2)))))
 .nxt
 (.exit 2))
 (.seq
 (.blk 3
 (.seq
 (.ite (.b (.bin .gtr) (.u .len (.u .ld1 (.b (.idx 1) (.u .ld1 (.u (.fld 4) (.var 2))) (.var 4)))) (.lit (.int .i64 10)))
 (.set 1 (.lit (.bool false))
 .ret)
 .nxt)
 (.set 5 (.lit (.int .i64 0))
 (.blk 4
 (.loop
 (.seq
 (.ite (.b (.bin .lss) (.var 5) (.u .len (.u .ld1 (.b (.idx 1) (.u .ld1 (.u (.fld 4) (.var 2))) (.var 4)))))
 .nxt
 (.exit 4))
 (.seq
 (.blk 5
 (.call false (some 11) 18 (.cn (.u .ld1 (.u (.fld 0) (.b (.idx 2) (.u .ld1 (.b (.idx 1) (.u .ld1 (.u (.fld 4) (.var 2))) (.var 4))) (.var 5)))) .nl)
 (.ite (.u (.un .not) (.var 11))
 (.set 1 (.lit (.bool false))
 .ret)
 .nxt)))
 (.set 5 (.b (.bin .add) (.var 5) (.lit (.int .i64 1)))
 .nxt))))))))
 (.set 4 (.b (.bin .add) (.var 4) (.lit (.int .i64 1)))
 .nxt)))))
 (.set 6 (.lit (.int .i64 16))
 (.set 7 (.lit (.int .i64 0))
 (.set 8 (.lit (.int .i64 0))
 (.seq
 (.blk 6
 (.loop
 (.seq
 (.ite (.b (.bin .lss) (.var 8) (.u .len (.u .ld1 (.u (.fld 2) (.u (.fld 0) (.var 2))))))
 .nxt
 (.exit 6))
 (.seq
 (.blk 7
 (.set 6 (.b (.bin .add) (.var 6) (.b .mx (.lit (.int .i64 0)) (.b .mn (.u .ld1 (.u (.fld 3) (.b (.idx 4) (.u .ld1 (.u (.fld 2) (.u (.fld 0) (.var 2)))) (.var 8)))) (.lit (.int .i64 16)))))
 .nxt))
 (.set 8 (.b (.bin .add) (.var 8) (.lit (.int .i64 1)))
 .nxt)))))
 (.set 9 (.lit (.int .i64 0))
 (.seq
 (.blk 8
 (.loop
 (.seq
 (.ite (.b (.bin .lss) (.var 9) (.u .len (.u .ld1 (.u (.fld 5) (.var 2)))))
 .nxt
 (.exit 8))
 (.seq
 (.blk 9
 (.seq
 (.ite (.ite (.b (.bin .lss) (.u .ld1 (.b (.idx 1) (.u .ld1 (.u (.fld 5) (.var 2))) (.var 9))) (.lit (.int .i64 0))) (.lit (.bool true)) (.b (.bin .gtr) (.u .ld1 (.b (.idx 1) (.u .ld1 (.u (.fld 5) (.var 2))) (.var 9))) (.lit (.int .i64 1073741824))))
 (.set 1 (.lit (.bool true))
 .ret)
 .nxt)
 (.set 7 (.b (.bin .add) (.var 7) (.u .ld1 (.b (.idx 1) (.u .ld1 (.u (.fld 5) (.var 2))) (.var 9))))
 .nxt)))
 (.set 9 (.b (.bin .add) (.var 9) (.lit (.int .i64 1)))
 .nxt)))))
 (.chk (.b (.bin .mul) (.var 7) (.var 6))
 (.call false (some 12) 16 (.cn (.u .ld1 (.u (.fld 4) (.var 2))) .nl)
 (.set 1 (.b (.bin .leq) (.b (.bin .mul) (.b (.bin .mul) (.var 7) (.var 6)) (.b .mx (.lit (.int .i64 1)) (.b .mn (.var 12) (.lit (.int .i64 256))))) (.lit (.int .i64 60000)))
 .ret))))))))))))))))
def f_law37_light : Fun:=⟨s_law37_light,[(.var 1)]⟩
abbrev v_law37_light : List Nat:=[0,2,1,3,4,5,6,7,8,9,55,90,144]
theorem vr_law37_light : VRof P n_law37_light s_law37_light f_law37_light v_law37_light 149:=vo Try.func7 (by kernel_rfl) Try.ntmps7 rfl
theorem r_law37_light : Fun.res f_law37_light=[(.var 1)]:=rfl
abbrev g_law37_light_0 : List Nat:=[1,3,10]
abbrev g_law37_light_1 : List Nat:=[1,4,5,11]
abbrev g_law37_light_2 : List Nat:=[1,5,11]
abbrev g_law37_light_3 : List Nat:=[6,8]
abbrev g_law37_light_4 : List Nat:=[1,7,9]
abbrev n_law37_awake : Nat:=8
def s_law37_awake : S :=
 (.set 0 (.lit (.bool false))
 (.call false (some 14) 19 .nl
 (.eff false (some 4) (.alloc 25 [(.int .i64 0),(.slice none 0 0),(.slice none 0 0),(.int .i64 0)])
 (.eff false none (.st 4 (.var 4) (.var 14))
 (.chk (.bld [(.int .i64 0),(.int .i64 0),(.int .i64 0),(.int .i64 0)] (.pl 0 1 (.lit (.int .i64 1)) (.pl 2 1 (.lit (.int .i64 5000)) (.pl 3 1 (.lit (.int .i64 900)) .nl))))
 (.eff false (some 15) (.lit 65 4 1 [(.int .i64 0),(.int .i64 0),(.int .i64 0),(.int .i64 0)] (.pl 0 4 (.bld [(.int .i64 0),(.int .i64 0),(.int .i64 0),(.int .i64 0)] (.pl 0 1 (.lit (.int .i64 1)) (.pl 2 1 (.lit (.int .i64 5000)) (.pl 3 1 (.lit (.int .i64 900)) .nl)))) .nl))
 (.set 1 (.var 15)
 (.eff false (some 16) (.lit 3 1 2 [(.int .i64 0)] (.pl 0 1 (.lit (.int .i64 1000)) (.pl 1 1 (.lit (.int .i64 0)) .nl)))
 (.eff false (some 25) (.lit 27 1 1 [(.slice none 0 0)] (.pl 0 1 (.var 16) .nl))
 (.chk (.bld [(.slice none 0 0),(.int .i64 0)] (.pl 0 1 (.var 25) (.pl 1 1 (.lit (.int .i64 7)) .nl)))
 (.eff false (some 33) (.lit 3 1 2 [(.int .i64 0)] (.pl 0 1 (.lit (.int .i64 500)) (.pl 1 1 (.lit (.int .i64 500)) .nl)))
 (.eff false (some 37) (.lit 27 1 1 [(.slice none 0 0)] (.pl 0 1 (.var 33) .nl))
 (.chk (.bld [(.slice none 0 0),(.int .i64 0)] (.pl 0 1 (.var 37) .nl))
 (.eff false (some 40) (.lit 60 2 2 [(.slice none 0 0),(.int .i64 0)] (.pl 0 2 (.bld [(.slice none 0 0),(.int .i64 0)] (.pl 0 1 (.var 25) (.pl 1 1 (.lit (.int .i64 7)) .nl))) (.pl 2 2 (.bld [(.slice none 0 0),(.int .i64 0)] (.pl 0 1 (.var 37) .nl)) .nl)))
 (.eff false (some 42) (.lit 58 1 2 [(.slice none 0 0)] (.pl 0 1 (.var 40) (.pl 1 1 (.lit (.slice none 0 0)) .nl)))
 (.set 2 (.var 42)
 (.eff false (some 17) (.lit 3 1 2 [(.int .i64 0)] (.pl 0 1 (.lit (.int .i64 0)) (.pl 1 1 (.lit (.int .i64 1000)) .nl)))
 (.eff false (some 26) (.lit 27 1 1 [(.slice none 0 0)] (.pl 0 1 (.var 17) .nl))
 (.chk (.bld [(.slice none 0 0),(.int .i64 0)] (.pl 0 1 (.var 26) .nl))
 (.eff false (some 34) (.lit 60 2 1 [(.slice none 0 0),(.int .i64 0)] (.pl 0 2 (.bld [(.slice none 0 0),(.int .i64 0)] (.pl 0 1 (.var 26) .nl)) .nl))
 (.eff false (some 38) (.lit 58 1 2 [(.slice none 0 0)] (.pl 0 1 (.var 34) (.pl 1 1 (.lit (.slice none 0 0)) .nl)))
 (.set 3 (.var 38)
 (.chk (.u (.lda 4) (.var 4))
 (.eff false (some 18) (.lit 3 1 1 [(.int .i64 0)] (.pl 0 1 (.lit (.int .i64 10)) .nl))
 (.call false (some 27) 12 (.cn (.u (.lda 4) (.var 4)) (.cn (.var 18) .nl))
 (.chk (.u (.ext 0) (.var 27))
 (.chk (.u (.ext 1) (.var 27))
 (.set 5 (.u (.ext 0) (.var 27))
 (.set 6 (.u (.ext 1) (.var 27))
 (.chk (.u (.lda 4) (.var 4))
 (.eff false (some 19) (.lit 3 1 1 [(.int .i64 0)] (.pl 0 1 (.lit (.int .i64 10)) .nl))
 (.call false (some 28) 14 (.cn (.u (.lda 4) (.var 4)) (.cn (.var 19) (.cn (.var 1) .nl)))
 (.chk (.u (.ext 0) (.var 28))
 (.chk (.u (.ext 1) (.var 28))
 (.set 7 (.u (.ext 0) (.var 28))
 (.set 8 (.u (.ext 1) (.var 28))
 (.chk (.u (.lda 4) (.var 4))
 (.eff false (some 20) (.lit 3 1 1 [(.int .i64 0)] (.pl 0 1 (.lit (.int .i64 10)) .nl))
 (.call false (some 29) 13 (.cn (.u (.lda 4) (.var 4)) (.cn (.var 2) (.cn (.var 20) (.cn (.var 1) .nl))))
 (.chk (.u (.ext 0) (.var 29))
 (.chk (.u (.ext 1) (.var 29))
 (.eff false (some 12) (.alloc 47 [(.slice none 0 0),(.int .i64 0)])
 (.eff false none (.st 2 (.var 12) (.u (.ext 0) (.var 29)))
 (.set 9 (.u (.ext 1) (.var 29))
 (.chk (.u (.lda 4) (.var 4))
 (.eff false (some 21) (.lit 3 1 1 [(.int .i64 0)] (.pl 0 1 (.lit (.int .i64 10)) .nl))
 (.call false (some 30) 13 (.cn (.u (.lda 4) (.var 4)) (.cn (.var 3) (.cn (.var 21) (.cn (.var 1) .nl))))
 (.chk (.u (.ext 0) (.var 30))
 (.chk (.u (.ext 1) (.var 30))
 (.eff false (some 35) (.alloc 47 [(.slice none 0 0),(.int .i64 0)])
 (.eff false none (.st 2 (.var 35) (.u (.ext 0) (.var 30)))
 (.set 10 (.u (.ext 1) (.var 30))
 (.chk (.u (.lda 4) (.var 4))
 (.eff false (some 22) (.lit 3 1 2 [(.int .i64 0)] (.pl 0 1 (.lit (.int .i64 1)) (.pl 1 1 (.lit (.int .i64 0)) .nl)))
 (.call false (some 31) 9 (.cn (.u (.lda 4) (.var 4)) (.cn (.var 2) (.cn (.var 22) .nl)))
 (.chk (.u (.ext 0) (.var 31))
 (.chk (.u (.ext 1) (.var 31))
 (.eff false (some 13) (.alloc 25 [(.int .i64 0),(.slice none 0 0),(.slice none 0 0),(.int .i64 0)])
 (.eff false none (.st 4 (.var 13) (.u (.ext 0) (.var 31)))
 (.set 11 (.u (.ext 1) (.var 31))
 (.eff false (some 23) (.lit 3 1 1 [(.int .i64 0)] (.pl 0 1 (.lit (.int .i64 0)) .nl))
 (.eff false (some 24) (.lit 3 1 1 [(.int .i64 0)] (.pl 0 1 (.lit (.int .i64 10)) .nl))
 (.eff false (some 32) (.lit 29 1 2 [(.slice none 0 0)] (.pl 0 1 (.var 23) (.pl 1 1 (.var 24) .nl)))
 (.call false (some 36) 20 (.cn (.var 5) (.cn (.var 32) .nl))
 (.chk (.ite (.ite (.ite (.ite (.var 36) (.b (.bin .eql) (.var 6) (.lit (.int .i64 0))) (.lit (.bool false))) (.b (.bin .eql) (.var 7) (.lit (.int .i64 50000))) (.lit (.bool false))) (.b (.bin .eql) (.var 8) (.lit (.int .i64 0))) (.lit (.bool false))) (.u .ld1 (.u (.fld 0) (.var 12))) (.lit undef))
 (.seq
 (.ite (.ite (.ite (.ite (.var 36) (.b (.bin .eql) (.var 6) (.lit (.int .i64 0))) (.lit (.bool false))) (.b (.bin .eql) (.var 7) (.lit (.int .i64 50000))) (.lit (.bool false))) (.b (.bin .eql) (.var 8) (.lit (.int .i64 0))) (.lit (.bool false)))
 (.eff false (some 39) (.lit 3 1 2 [(.int .i64 0)] (.pl 0 1 (.lit (.int .i64 1)) (.pl 1 1 (.lit (.int .i64 0)) .nl)))
 (.call false (some 41) 17 (.cn (.u .ld1 (.u (.fld 0) (.var 12))) (.cn (.var 39) .nl))
 (.chk (.ite (.ite (.ite (.ite (.ite (.ite (.ite (.var 41) (.b (.bin .eql) (.u .ld1 (.u (.fld 1) (.var 12))) (.lit (.int .i64 50000))) (.lit (.bool false))) (.b (.bin .eql) (.var 9) (.lit (.int .i64 0))) (.lit (.bool false))) (.b (.bin .eql) (.var 10) (.lit (.int .i64 40))) (.lit (.bool false))) (.b (.bin .eql) (.var 11) (.lit (.int .i64 0))) (.lit (.bool false))) (.b (.bin .eql) (.u .len (.u .ld1 (.u (.fld 1) (.var 13)))) (.lit (.int .i64 2))) (.lit (.bool false))) (.b (.bin .eql) (.u .len (.u .ld1 (.u (.fld 0) (.b (.idx 1) (.u .ld1 (.u (.fld 1) (.var 13))) (.lit (.int .i64 0)))))) (.lit (.int .i64 1))) (.lit (.bool false))) (.u .ld1 (.b (.idx 1) (.u .ld1 (.u (.fld 0) (.b (.idx 1) (.u .ld1 (.u (.fld 1) (.var 13))) (.lit (.int .i64 0))))) (.lit (.int .i64 0)))) (.lit undef))
 (.ite (.ite (.ite (.ite (.ite (.ite (.ite (.var 41) (.b (.bin .eql) (.u .ld1 (.u (.fld 1) (.var 12))) (.lit (.int .i64 50000))) (.lit (.bool false))) (.b (.bin .eql) (.var 9) (.lit (.int .i64 0))) (.lit (.bool false))) (.b (.bin .eql) (.var 10) (.lit (.int .i64 40))) (.lit (.bool false))) (.b (.bin .eql) (.var 11) (.lit (.int .i64 0))) (.lit (.bool false))) (.b (.bin .eql) (.u .len (.u .ld1 (.u (.fld 1) (.var 13)))) (.lit (.int .i64 2))) (.lit (.bool false))) (.b (.bin .eql) (.u .len (.u .ld1 (.u (.fld 0) (.b (.idx 1) (.u .ld1 (.u (.fld 1) (.var 13))) (.lit (.int .i64 0)))))) (.lit (.int .i64 1))) (.lit (.bool false)))
 (.eff false (some 43) (.lit 3 1 2 [(.int .i64 0)] (.pl 0 1 (.lit (.int .i64 500)) (.pl 1 1 (.lit (.int .i64 500)) .nl)))
 (.call false (some 44) 17 (.cn (.u .ld1 (.b (.idx 1) (.u .ld1 (.u (.fld 0) (.b (.idx 1) (.u .ld1 (.u (.fld 1) (.var 13))) (.lit (.int .i64 0))))) (.lit (.int .i64 0)))) (.cn (.var 43) .nl))
 (.set 0 (.var 44)
 .nxt)))
 (.set 43 (.lit undef)
 (.set 44 (.lit undef)
 (.set 0 (.lit (.bool false))
 .nxt)))))))
 (.set 39 (.lit undef)
 (.set 41 (.lit undef)
 (.set 43 (.lit undef)
 (.set 44 (.lit undef)
 (.set 0 (.lit (.bool false))
 .nxt))))))
 .ret))))))))))))))))))))))))))))))))))))))))))))))))))))))))))))))))))
def f_law37_awake : Fun:=⟨s_law37_awake,[(.var 0)]⟩
abbrev v_law37_awake : List Nat:=[0,2,3,4,1,5,6,7,8,10,12,14,9,13,15,17,18,26,33,39,47,55,63,68,69,19,27,34,41,49,57,64,70,21,29,11,71,22,30,87,24,88,25,130,131]
theorem vr_law37_awake : VRof P n_law37_awake s_law37_awake f_law37_awake v_law37_awake 133:=vo Try.func8 (by kernel_rfl) Try.ntmps8 rfl
theorem r_law37_awake : Fun.res f_law37_awake=[(.var 0)]:=rfl
abbrev n_setpoint_Apply : Nat:=9
def s_setpoint_Apply : S :=
 (.eff false (some 5) (.box 25 (.var 0))
 (.eff false (some 3) (.alloc 25 [(.int .i64 0),(.slice none 0 0),(.slice none 0 0),(.int .i64 0)])
 (.set 4 (.lit (.int .i64 0))
 (.call false (some 14) 21 (.cn (.u (.lda 4) (.var 5)) .nl)
 (.set 6 (.var 14)
 (.seq
 (.ite (.b (.bin .neq) (.var 6) (.lit (.int .i64 0)))
 (.chk (.bld [(.int .i64 0),(.slice none 0 0),(.slice none 0 0),(.int .i64 0)] .nl)
 (.eff false none (.st 4 (.var 3) (.bld [(.int .i64 0),(.slice none 0 0),(.slice none 0 0),(.int .i64 0)] .nl))
 (.set 4 (.var 6)
 .ret)))
 .nxt)
 (.call false (some 15) 22 (.cn (.u (.lda 4) (.var 5)) (.cn (.var 1) .nl))
 (.set 7 (.var 15)
 (.seq
 (.ite (.b (.bin .neq) (.var 7) (.lit (.int .i64 0)))
 (.chk (.bld [(.int .i64 0),(.slice none 0 0),(.slice none 0 0),(.int .i64 0)] .nl)
 (.eff false none (.st 4 (.var 3) (.bld [(.int .i64 0),(.slice none 0 0),(.slice none 0 0),(.int .i64 0)] .nl))
 (.set 4 (.var 7)
 .ret)))
 .nxt)
 (.seq
 (.ite (.b (.bin .neq) (.u .len (.var 2)) (.u .len (.u .ld1 (.u (.fld 1) (.var 5)))))
 (.chk (.bld [(.int .i64 0),(.slice none 0 0),(.slice none 0 0),(.int .i64 0)] .nl)
 (.eff false none (.st 4 (.var 3) (.bld [(.int .i64 0),(.slice none 0 0),(.slice none 0 0),(.int .i64 0)] .nl))
 (.set 4 (.lit (.int .i64 3))
 .ret)))
 .nxt)
 (.set 11 (.var 2)
 (.set 9 (.u .len (.var 11))
 (.set 8 (.lit (.int .i64 0))
 (.seq
 (.blk 0
 (.loop
 (.set 10 (.b (.bin .lss) (.var 8) (.var 9))
 (.seq
 (.ite (.var 10)
 .nxt
 (.exit 0))
 (.seq
 (.blk 1
 (.chk (.u .ld1 (.b (.idx 1) (.var 11) (.var 8)))
 (.set 12 (.var 8)
 (.set 13 (.u .ld1 (.b (.idx 1) (.var 11) (.var 8)))
 (.ite (.ite (.b (.bin .lss) (.var 13) (.lit (.int .i64 0))) (.lit (.bool true)) (.b (.bin .geq) (.var 13) (.b .mx (.lit (.int .i64 1)) (.u .len (.u .ld1 (.b (.idx 1) (.var 1) (.var 12)))))))
 (.chk (.bld [(.int .i64 0),(.slice none 0 0),(.slice none 0 0),(.int .i64 0)] .nl)
 (.eff false none (.st 4 (.var 3) (.bld [(.int .i64 0),(.slice none 0 0),(.slice none 0 0),(.int .i64 0)] .nl))
 (.set 4 (.lit (.int .i64 1))
 .ret)))
 .nxt)))))
 (.set 8 (.b (.bin .add) (.var 8) (.lit (.int .i64 1)))
 .nxt))))))
 (.call false (some 16) 23 (.cn (.u (.lda 4) (.var 5)) (.cn (.var 1) (.cn (.var 2) .nl)))
 (.eff false none (.st 4 (.var 3) (.var 16))
 (.set 4 (.lit (.int .i64 0))
 .ret)))))))))))))))))
def f_setpoint_Apply : Fun:=⟨s_setpoint_Apply,[(.u (.lda 4) (.var 3)),(.var 4)]⟩
abbrev v_setpoint_Apply : List Nat:=[0,1,2,6,7,3,8,9,34,33,35,32,10,11,13,20,56]
theorem vr_setpoint_Apply : VRof P n_setpoint_Apply s_setpoint_Apply f_setpoint_Apply v_setpoint_Apply 57:=vo Try.func9 (by kernel_rfl) Try.ntmps9 rfl
theorem r_setpoint_Apply : Fun.res f_setpoint_Apply=[(.u (.lda 4) (.var 3)),(.var 4)]:=rfl
abbrev g_setpoint_Apply_0 : List Nat:=[4,8,10,12,13]
abbrev n_setpoint_Yield : Nat:=12
def s_setpoint_Yield : S :=
 (.eff false (some 4) (.box 25 (.var 0))
 (.set 2 (.lit (.slice none 0 0))
 (.set 3 (.lit (.int .i64 0))
 (.call false (some 15) 25 (.cn (.u (.lda 4) (.var 4)) .nl)
 (.chk (.u (.ext 0) (.var 15))
 (.chk (.u (.ext 1) (.var 15))
 (.set 5 (.u (.ext 0) (.var 15))
 (.set 6 (.u (.ext 1) (.var 15))
 (.seq
 (.ite (.b (.bin .neq) (.var 6) (.lit (.int .i64 0)))
 (.set 2 (.lit (.slice none 0 0))
 (.set 3 (.var 6)
 .ret))
 .nxt)
 (.call false (some 16) 26 (.cn (.u (.lda 4) (.var 4)) (.cn (.var 1) .nl))
 (.set 7 (.var 16)
 (.seq
 (.ite (.b (.bin .neq) (.var 7) (.lit (.int .i64 0)))
 (.set 2 (.lit (.slice none 0 0))
 (.set 3 (.var 7)
 .ret))
 .nxt)
 (.call false none 27 (.cn (.var 5) (.cn (.var 1) .nl))
 (.seq
 (.blk 0
 (.loop
 (.call false (some 17) 29 (.cn (.var 5) .nl)
 (.call false (some 21) 28 (.cn (.var 17) .nl)
 (.seq
 (.ite (.var 21)
 .nxt
 (.exit 0))
 (.blk 1
 (.call false none 30 (.cn (.var 5) .nl)
 .nxt)))))))
 (.set 8 (.lit (.slice none 0 0))
 (.set 10 (.u .len (.u .ld1 (.u (.fld 1) (.var 4))))
 (.set 9 (.lit (.int .i64 0))
 (.seq
 (.blk 2
 (.loop
 (.set 11 (.b (.bin .lss) (.var 9) (.var 10))
 (.seq
 (.ite (.var 11)
 .nxt
 (.exit 2))
 (.seq
 (.blk 3
 (.set 12 (.var 9)
 (.call false (some 18) 31 (.cn (.var 5) (.cn (.var 12) .nl))
 (.chk (.u (.ext 0) (.var 18))
 (.chk (.u (.ext 1) (.var 18))
 (.set 13 (.u (.ext 0) (.var 18))
 (.set 14 (.u (.ext 1) (.var 18))
 (.seq
 (.ite (.b (.bin .neq) (.var 14) (.lit (.int .i64 0)))
 (.eff false (some 19) (.mk 3 1 8 [(.int .i64 0)] (.u .ld1 (.u (.fld 0) (.var 4))) (.u .ld1 (.u (.fld 0) (.var 4))))
 (.set 13 (.var 19)
 .nxt))
 .nxt)
 (.eff false (some 20) (.lit 29 1 1 [(.slice none 0 0)] (.pl 0 1 (.var 13) .nl))
 (.eff false (some 22) (.app 29 1 24 [(.slice none 0 0)] (.var 8) (.var 20))
 (.set 8 (.var 22)
 .nxt)))))))))))
 (.set 9 (.b (.bin .add) (.var 9) (.lit (.int .i64 1)))
 .nxt))))))
 (.set 2 (.var 8)
 (.set 3 (.lit (.int .i64 0))
 .ret))))))))))))))))))))
def f_setpoint_Yield : Fun:=⟨s_setpoint_Yield,[(.var 2),(.var 3)]⟩
abbrev v_setpoint_Yield : List Nat:=[0,1,4,5,2,6,7,8,9,38,37,39,10,11,12,15,23,31,44,51,54,32,55]
theorem vr_setpoint_Yield : VRof P n_setpoint_Yield s_setpoint_Yield f_setpoint_Yield v_setpoint_Yield 58:=vo Try.func12 (by kernel_rfl) Try.ntmps12 rfl
theorem r_setpoint_Yield : Fun.res f_setpoint_Yield=[(.var 2),(.var 3)]:=rfl
abbrev g_setpoint_Yield_0 : List Nat:=[17,21]
abbrev g_setpoint_Yield_1 : List Nat:=[8,9,11,12,13,14,18,19,20,22]
abbrev n_setpoint_Value : Nat:=14
def s_setpoint_Value : S :=
 (.eff false (some 5) (.box 25 (.var 0))
 (.set 3 (.lit (.int .i64 0))
 (.set 4 (.lit (.int .i64 0))
 (.call false (some 9) 12 (.cn (.u (.lda 4) (.var 5)) (.cn (.var 1) .nl))
 (.chk (.u (.ext 0) (.var 9))
 (.chk (.u (.ext 1) (.var 9))
 (.set 6 (.u (.ext 0) (.var 9))
 (.set 7 (.u (.ext 1) (.var 9))
 (.seq
 (.ite (.b (.bin .neq) (.var 7) (.lit (.int .i64 0)))
 (.set 3 (.lit (.int .i64 0))
 (.set 4 (.var 7)
 .ret))
 .nxt)
 (.call false (some 10) 33 (.cn (.u (.lda 4) (.var 5)) (.cn (.var 2) .nl))
 (.set 8 (.var 10)
 (.seq
 (.ite (.b (.bin .neq) (.var 8) (.lit (.int .i64 0)))
 (.set 3 (.lit (.int .i64 0))
 (.set 4 (.var 8)
 .ret))
 .nxt)
 (.call false (some 11) 35 (.cn (.var 6) (.cn (.var 2) .nl))
 (.set 3 (.var 11)
 (.set 4 (.lit (.int .i64 0))
 .ret)))))))))))))))
def f_setpoint_Value : Fun:=⟨s_setpoint_Value,[(.var 3),(.var 4)]⟩
abbrev v_setpoint_Value : List Nat:=[0,1,2,6,7,3,8,9,10,14,22,28]
theorem vr_setpoint_Value : VRof P n_setpoint_Value s_setpoint_Value f_setpoint_Value v_setpoint_Value 29:=vo Try.func14 (by kernel_rfl) Try.ntmps14 rfl
theorem r_setpoint_Value : Fun.res f_setpoint_Value=[(.var 3),(.var 4)]:=rfl
abbrev n_ref37_Choices : Nat:=16
def s_ref37_Choices : S :=
 (.set 1 (.lit (.int .i64 0))
 (.set 2 (.lit (.int .i64 1))
 (.set 3 (.lit (.int .i64 0))
 (.seq
 (.blk 0
 (.loop
 (.seq
 (.ite (.b (.bin .lss) (.var 3) (.u .len (.var 0)))
 .nxt
 (.exit 0))
 (.seq
 (.blk 1
 (.seq
 (.ite (.b (.bin .gtr) (.u .len (.u .ld1 (.b (.idx 1) (.var 0) (.var 3)))) (.lit (.int .i64 1)))
 (.set 2 (.b (.bin .mul) (.var 2) (.u .len (.u .ld1 (.b (.idx 1) (.var 0) (.var 3)))))
 .nxt)
 .nxt)
 (.ite (.b (.bin .gtr) (.var 2) (.lit (.int .i64 256)))
 (.set 1 (.lit (.int .i64 257))
 .ret)
 .nxt)))
 (.set 3 (.b (.bin .add) (.var 3) (.lit (.int .i64 1)))
 .nxt)))))
 (.set 1 (.var 2)
 .ret)))))
def f_ref37_Choices : Fun:=⟨s_ref37_Choices,[(.var 1)]⟩
abbrev v_ref37_Choices : List Nat:=[0,2,3,4]
theorem vr_ref37_Choices : VRof P n_ref37_Choices s_ref37_Choices f_ref37_Choices v_ref37_Choices 27:=vo Try.func16 (by kernel_rfl) Try.ntmps16 rfl
theorem r_ref37_Choices : Fun.res f_ref37_Choices=[(.var 1)]:=rfl
abbrev g_ref37_Choices_0 : List Nat:=[1,2,3]
abbrev n_ref37_Ints : Nat:=17
def s_ref37_Ints : S :=
 (.set 2 (.lit (.bool false))
 (.seq
 (.ite (.b (.bin .neq) (.u .len (.var 0)) (.u .len (.var 1)))
 (.set 2 (.lit (.bool false))
 .ret)
 .nxt)
 (.set 3 (.lit (.int .i64 0))
 (.seq
 (.blk 0
 (.loop
 (.seq
 (.ite (.b (.bin .lss) (.var 3) (.u .len (.var 0)))
 .nxt
 (.exit 0))
 (.seq
 (.blk 1
 (.ite (.b (.bin .neq) (.u .ld1 (.b (.idx 1) (.var 0) (.var 3))) (.u .ld1 (.b (.idx 1) (.var 1) (.var 3))))
 (.set 2 (.lit (.bool false))
 .ret)
 .nxt))
 (.set 3 (.b (.bin .add) (.var 3) (.lit (.int .i64 1)))
 .nxt)))))
 (.set 2 (.lit (.bool true))
 .ret)))))
def f_ref37_Ints : Fun:=⟨s_ref37_Ints,[(.var 2)]⟩
abbrev v_ref37_Ints : List Nat:=[0,1,4,5]
theorem vr_ref37_Ints : VRof P n_ref37_Ints s_ref37_Ints f_ref37_Ints v_ref37_Ints 26:=vo Try.func17 (by kernel_rfl) Try.ntmps17 rfl
theorem r_ref37_Ints : Fun.res f_ref37_Ints=[(.var 2)]:=rfl
abbrev g_ref37_Ints_0 : List Nat:=[2,3]
abbrev n_law37_rows : Nat:=18
def s_law37_rows : S :=
 (.set 1 (.lit (.bool false))
 (.seq
 (.ite (.b (.bin .gtr) (.u .len (.var 0)) (.lit (.int .i64 30)))
 (.set 1 (.lit (.bool false))
 .ret)
 .nxt)
 (.set 2 (.lit (.int .i64 0))
 (.seq
 (.blk 0
 (.loop
 (.seq
 (.ite (.b (.bin .lss) (.var 2) (.u .len (.var 0)))
 .nxt
 (.exit 0))
 (.seq
 (.blk 1
 (.ite (.b (.bin .gtr) (.u .len (.u .ld1 (.b (.idx 1) (.var 0) (.var 2)))) (.lit (.int .i64 10)))
 (.set 1 (.lit (.bool false))
 .ret)
 .nxt))
 (.set 2 (.b (.bin .add) (.var 2) (.lit (.int .i64 1)))
 .nxt)))))
 (.set 1 (.lit (.bool true))
 .ret)))))
def f_law37_rows : Fun:=⟨s_law37_rows,[(.var 1)]⟩
abbrev v_law37_rows : List Nat:=[0,2,3]
theorem vr_law37_rows : VRof P n_law37_rows s_law37_rows f_law37_rows v_law37_rows 19:=vo Try.func18 (by kernel_rfl) Try.ntmps18 rfl
theorem r_law37_rows : Fun.res f_law37_rows=[(.var 1)]:=rfl
abbrev g_law37_rows_0 : List Nat:=[1,2]
abbrev n_law37_sample : Nat:=19
def s_law37_sample : S :=
 (.eff false (some 0) (.alloc 25 [(.int .i64 0),(.slice none 0 0),(.slice none 0 0),(.int .i64 0)])
 (.eff false (some 1) (.lit 3 1 2 [(.int .i64 0)] (.pl 0 1 (.lit (.int .i64 600)) (.pl 1 1 (.lit (.int .i64 400)) .nl)))
 (.eff false (some 2) (.lit 27 1 1 [(.slice none 0 0)] (.pl 0 1 (.var 1) .nl))
 (.chk (.bld [(.slice none 0 0)] (.pl 0 1 (.var 2) .nl))
 (.eff false (some 3) (.lit 3 1 0 [(.int .i64 0)] .nl)
 (.eff false (some 4) (.lit 27 1 1 [(.slice none 0 0)] (.pl 0 1 (.var 3) .nl))
 (.chk (.bld [(.slice none 0 0)] (.pl 0 1 (.var 4) .nl))
 (.eff false (some 5) (.lit 44 1 2 [(.slice none 0 0)] (.pl 0 1 (.bld [(.slice none 0 0)] (.pl 0 1 (.var 2) .nl)) (.pl 1 1 (.bld [(.slice none 0 0)] (.pl 0 1 (.var 4) .nl)) .nl)))
 (.chk (.bld [(.int .i64 0),(.int .i64 0),(.int .i64 0),(.int .i64 0)] (.pl 0 1 (.lit (.int .i64 0)) (.pl 1 1 (.lit (.int .i64 0)) (.pl 2 1 (.lit (.int .i64 1)) (.pl 3 1 (.lit (.int .i64 1)) .nl)))))
 (.chk (.bld [(.int .i64 0),(.int .i64 0),(.int .i64 0),(.int .i64 0)] (.pl 0 1 (.lit (.int .i64 0)) (.pl 1 1 (.lit (.int .i64 1)) (.pl 2 1 (.lit (.int .i64 0)) (.pl 3 1 (.lit (.int .i64 2)) .nl)))))
 (.eff false (some 6) (.lit 62 4 2 [(.int .i64 0),(.int .i64 0),(.int .i64 0),(.int .i64 0)] (.pl 0 4 (.bld [(.int .i64 0),(.int .i64 0),(.int .i64 0),(.int .i64 0)] (.pl 0 1 (.lit (.int .i64 0)) (.pl 1 1 (.lit (.int .i64 0)) (.pl 2 1 (.lit (.int .i64 1)) (.pl 3 1 (.lit (.int .i64 1)) .nl))))) (.pl 4 4 (.bld [(.int .i64 0),(.int .i64 0),(.int .i64 0),(.int .i64 0)] (.pl 0 1 (.lit (.int .i64 0)) (.pl 1 1 (.lit (.int .i64 1)) (.pl 2 1 (.lit (.int .i64 0)) (.pl 3 1 (.lit (.int .i64 2)) .nl))))) .nl)))
 (.chk (.bld [(.int .i64 0),(.slice none 0 0),(.slice none 0 0),(.int .i64 0)] (.pl 0 1 (.lit (.int .i64 1)) (.pl 1 1 (.var 5) (.pl 2 1 (.var 6) .nl))))
 (.eff false none (.st 4 (.var 0) (.bld [(.int .i64 0),(.slice none 0 0),(.slice none 0 0),(.int .i64 0)] (.pl 0 1 (.lit (.int .i64 1)) (.pl 1 1 (.var 5) (.pl 2 1 (.var 6) .nl)))))
 .ret)))))))))))))
def f_law37_sample : Fun:=⟨s_law37_sample,[(.u (.lda 4) (.var 0))]⟩
abbrev v_law37_sample : List Nat:=[0,1,2,4,5,7,10]
theorem vr_law37_sample : VRof P n_law37_sample s_law37_sample f_law37_sample v_law37_sample 12:=vo Try.func19 (by kernel_rfl) Try.ntmps19 rfl
theorem r_law37_sample : Fun.res f_law37_sample=[(.u (.lda 4) (.var 0))]:=rfl
abbrev n_ref30_SameList : Nat:=20
def s_ref30_SameList : S :=
 (.set 2 (.lit (.bool false))
 (.seq
 (.ite (.b (.bin .neq) (.u .len (.var 0)) (.u .len (.var 1)))
 (.set 2 (.lit (.bool false))
 .ret)
 .nxt)
 (.set 3 (.lit (.int .i64 0))
 (.seq
 (.blk 0
 (.loop
 (.seq
 (.ite (.b (.bin .lss) (.var 3) (.u .len (.var 0)))
 .nxt
 (.exit 0))
 (.seq
 (.blk 1
 (.call false (some 4) 37 (.cn (.u .ld1 (.b (.idx 1) (.var 0) (.var 3))) (.cn (.u .ld1 (.b (.idx 1) (.var 1) (.var 3))) .nl))
 (.ite (.u (.un .not) (.var 4))
 (.set 2 (.lit (.bool false))
 .ret)
 .nxt)))
 (.set 3 (.b (.bin .add) (.var 3) (.lit (.int .i64 1)))
 .nxt)))))
 (.set 2 (.lit (.bool true))
 .ret)))))
def f_ref30_SameList : Fun:=⟨s_ref30_SameList,[(.var 2)]⟩
abbrev v_ref30_SameList : List Nat:=[0,1,4,5,25]
theorem vr_ref30_SameList : VRof P n_ref30_SameList s_ref30_SameList f_ref30_SameList v_ref30_SameList 27:=vo Try.func20 (by kernel_rfl) Try.ntmps20 rfl
theorem r_ref30_SameList : Fun.res f_ref30_SameList=[(.var 2)]:=rfl
abbrev g_ref30_SameList_0 : List Nat:=[2,3,4]
abbrev n_layout_Check : Nat:=21
def s_layout_Check : S :=
 (.eff false (some 2) (.box 25 (.var 0))
 (.set 1 (.lit (.int .i64 0))
 (.seq
 (.blk 0
 (.set 3 (.ite (.b (.bin .lss) (.u .ld1 (.u (.fld 0) (.var 2))) (.lit (.int .i64 1))) (.lit (.bool true)) (.b (.bin .gtr) (.u .ld1 (.u (.fld 0) (.var 2))) (.lit (.int .i64 16))))
 (.ite (.var 3)
 (.set 1 (.lit (.int .i64 1))
 .ret)
 (.set 4 (.b (.bin .eql) (.u .len (.u .ld1 (.u (.fld 1) (.var 2)))) (.lit (.int .i64 0)))
 (.ite (.var 4)
 (.set 1 (.lit (.int .i64 10))
 .ret)
 (.set 5 (.ite (.b (.bin .gtr) (.u .len (.u .ld1 (.u (.fld 1) (.var 2)))) (.lit (.int .i64 24))) (.lit (.bool true)) (.b (.bin .gtr) (.u .len (.u .ld1 (.u (.fld 2) (.var 2)))) (.lit (.int .i64 48))))
 (.ite (.var 5)
 (.set 1 (.lit (.int .i64 8))
 .ret)
 .nxt)))))))
 (.set 9 (.u .ld1 (.u (.fld 1) (.var 2)))
 (.set 7 (.u .len (.var 9))
 (.set 6 (.lit (.int .i64 0))
 (.seq
 (.blk 1
 (.loop
 (.set 8 (.b (.bin .lss) (.var 6) (.var 7))
 (.seq
 (.ite (.var 8)
 .nxt
 (.exit 1))
 (.seq
 (.blk 2
 (.chk (.u (.lda 1) (.b (.idx 1) (.var 9) (.var 6)))
 (.eff false (some 10) (.alloc 44 [(.slice none 0 0)])
 (.eff false none (.st 1 (.var 10) (.u (.lda 1) (.b (.idx 1) (.var 9) (.var 6))))
 (.call false (some 15) 38 (.cn (.u (.lda 1) (.var 10)) (.cn (.u .ld1 (.u (.fld 0) (.var 2))) .nl))
 (.set 11 (.var 15)
 (.ite (.b (.bin .neq) (.var 11) (.lit (.int .i64 0)))
 (.set 1 (.var 11)
 .ret)
 .nxt)))))))
 (.set 6 (.b (.bin .add) (.var 6) (.lit (.int .i64 1)))
 .nxt))))))
 (.call false (some 16) 39 (.cn (.u (.lda 4) (.var 2)) .nl)
 (.set 12 (.var 16)
 (.seq
 (.ite (.b (.bin .neq) (.var 12) (.lit (.int .i64 0)))
 (.set 1 (.var 12)
 .ret)
 .nxt)
 (.seq
 (.blk 3
 (.call false (some 17) 40 (.cn (.u (.lda 4) (.var 2)) (.cn (.u .ld1 (.u (.fld 3) (.var 2))) .nl))
 (.set 13 (.u (.un .not) (.var 17))
 (.ite (.var 13)
 (.set 1 (.lit (.int .i64 7))
 .ret)
 (.call false (some 18) 41 (.cn (.u (.lda 4) (.var 2)) (.cn (.u .ld1 (.u (.fld 3) (.var 2))) .nl))
 (.set 14 (.var 18)
 (.ite (.var 14)
 (.set 1 (.lit (.int .i64 13))
 .ret)
 .nxt)))))))
 (.set 1 (.lit (.int .i64 0))
 .ret))))))))))))
def f_layout_Check : Fun:=⟨s_layout_Check,[(.var 1)]⟩
abbrev v_layout_Check : List Nat:=[0,2,1,7,16,21,35,34,36,33,4,5,6,52,58,42,48,56,62]
theorem vr_layout_Check : VRof P n_layout_Check s_layout_Check f_layout_Check v_layout_Check 63:=vo Try.func21 (by kernel_rfl) Try.ntmps21 rfl
theorem r_layout_Check : Fun.res f_layout_Check=[(.var 1)]:=rfl
abbrev g_layout_Check_0 : List Nat:=[1,6,8,10,11,15]
abbrev n_setpoint_possible : Nat:=22
def s_setpoint_possible : S :=
 (.eff false (some 3) (.box 25 (.var 0))
 (.set 2 (.lit (.int .i64 0))
 (.seq
 (.ite (.b (.bin .neq) (.u .len (.var 1)) (.u .len (.u .ld1 (.u (.fld 1) (.var 3)))))
 (.set 2 (.lit (.int .i64 3))
 .ret)
 .nxt)
 (.set 7 (.var 1)
 (.set 5 (.u .len (.var 7))
 (.set 4 (.lit (.int .i64 0))
 (.seq
 (.blk 0
 (.loop
 (.set 6 (.b (.bin .lss) (.var 4) (.var 5))
 (.seq
 (.ite (.var 6)
 .nxt
 (.exit 0))
 (.seq
 (.blk 1
 (.chk (.u .ld1 (.b (.idx 1) (.var 7) (.var 4)))
 (.set 8 (.var 4)
 (.set 9 (.u .ld1 (.b (.idx 1) (.var 7) (.var 4)))
 (.seq
 (.ite (.b (.bin .gtr) (.u .len (.var 9)) (.lit (.int .i64 4)))
 (.set 2 (.lit (.int .i64 8))
 .ret)
 .nxt)
 (.set 13 (.var 9)
 (.set 11 (.u .len (.var 13))
 (.set 10 (.lit (.int .i64 0))
 (.blk 2
 (.loop
 (.set 12 (.b (.bin .lss) (.var 10) (.var 11))
 (.seq
 (.ite (.var 12)
 .nxt
 (.exit 2))
 (.seq
 (.blk 3
 (.chk (.u (.lda 2) (.b (.idx 2) (.var 13) (.var 10)))
 (.eff false (some 14) (.alloc 60 [(.slice none 0 0),(.int .i64 0)])
 (.eff false none (.st 2 (.var 14) (.u (.lda 2) (.b (.idx 2) (.var 13) (.var 10))))
 (.chk (.bld [(.slice none 0 0)] (.pl 0 1 (.u .ld1 (.u (.fld 0) (.var 14))) .nl))
 (.eff false (some 15) (.alloc 44 [(.slice none 0 0)])
 (.eff false none (.st 1 (.var 15) (.bld [(.slice none 0 0)] (.pl 0 1 (.u .ld1 (.u (.fld 0) (.var 14))) .nl)))
 (.call false (some 17) 38 (.cn (.u (.lda 1) (.var 15)) (.cn (.u .ld1 (.u (.fld 0) (.var 3))) .nl))
 (.set 16 (.var 17)
 (.seq
 (.ite (.b (.bin .neq) (.var 16) (.lit (.int .i64 0)))
 (.set 2 (.var 16)
 .ret)
 .nxt)
 (.chk (.u (.lda 1) (.var 15))
 (.set 18 (.u (.lda 1) (.b (.idx 1) (.u .ld1 (.u (.fld 1) (.var 3))) (.var 8)))
 (.call true (some 19) 42 (.cn (.u (.lda 1) (.var 15)) .nl)
 (.call false (some 20) 42 (.cn (.var 18) .nl)
 (.seq
 (.ite (.b (.bin .neq) (.var 19) (.var 20))
 (.set 2 (.lit (.int .i64 3))
 .ret)
 .nxt)
 (.ite (.ite (.b (.bin .lss) (.u .ld1 (.u (.fld 1) (.var 14))) (.lit (.int .i64 0))) (.lit (.bool true)) (.b (.bin .gtr) (.u .ld1 (.u (.fld 1) (.var 14))) (.lit (.int .i64 1000000000000))))
 (.set 2 (.lit (.int .i64 1))
 .ret)
 .nxt))))))))))))))))
 (.set 10 (.b (.bin .add) (.var 10) (.lit (.int .i64 1)))
 .nxt))))))))))))))
 (.set 4 (.b (.bin .add) (.var 4) (.lit (.int .i64 1)))
 .nxt))))))
 (.set 2 (.lit (.int .i64 0))
 .ret))))))))
def f_setpoint_possible : Fun:=⟨s_setpoint_possible,[(.var 2)]⟩
abbrev v_setpoint_possible : List Nat:=[0,1,4,2,19,18,20,17,5,6,29,28,30,27,8,9,10,39,49,44,50]
theorem vr_setpoint_possible : VRof P n_setpoint_possible s_setpoint_possible f_setpoint_possible v_setpoint_possible 62:=vo Try.func22 (by kernel_rfl) Try.ntmps22 rfl
theorem r_setpoint_possible : Fun.res f_setpoint_possible=[(.var 2)]:=rfl
abbrev g_setpoint_possible_0 : List Nat:=[2,4,6,8,9,10,11,12,13,14,15,16,17,18,19,20]
abbrev g_setpoint_possible_1 : List Nat:=[2,10,12,14,15,16,17,18,19,20]
abbrev n_setpoint_picked : Nat:=23
def s_setpoint_picked : S :=
 (.eff false (some 4) (.box 25 (.var 0))
 (.eff false (some 3) (.alloc 25 [(.int .i64 0),(.slice none 0 0),(.slice none 0 0),(.int .i64 0)])
 (.chk (.u (.lda 4) (.var 4))
 (.eff false (some 5) (.alloc 25 [(.int .i64 0),(.slice none 0 0),(.slice none 0 0),(.int .i64 0)])
 (.eff false none (.st 4 (.var 5) (.u (.lda 4) (.var 4)))
 (.eff false (some 12) (.lit 62 4 0 [(.int .i64 0),(.int .i64 0),(.int .i64 0),(.int .i64 0)] .nl)
 (.eff false (some 14) (.app 62 4 32 [(.int .i64 0),(.int .i64 0),(.int .i64 0),(.int .i64 0)] (.var 12) (.u .ld1 (.u (.fld 2) (.var 4))))
 (.eff false none (.st 1 (.u (.fld 2) (.var 5)) (.var 14))
 (.eff false none (.st 1 (.u (.fld 1) (.var 5)) (.lit (.slice none 0 0)))
 (.set 9 (.u .ld1 (.u (.fld 1) (.var 4)))
 (.set 7 (.u .len (.var 9))
 (.set 6 (.lit (.int .i64 0))
 (.seq
 (.blk 0
 (.loop
 (.set 8 (.b (.bin .lss) (.var 6) (.var 7))
 (.seq
 (.ite (.var 8)
 .nxt
 (.exit 0))
 (.seq
 (.blk 1
 (.chk (.u (.lda 1) (.b (.idx 1) (.var 9) (.var 6)))
 (.eff false (some 11) (.alloc 44 [(.slice none 0 0)])
 (.set 10 (.var 6)
 (.eff false none (.st 1 (.var 11) (.u (.lda 1) (.b (.idx 1) (.var 9) (.var 6))))
 (.seq
 (.ite (.b (.bin .gtr) (.u .len (.u .ld1 (.b (.idx 1) (.var 1) (.var 10)))) (.lit (.int .i64 0)))
 (.eff false none (.st 1 (.u (.fld 0) (.var 11)) (.u .ld1 (.u (.fld 0) (.b (.idx 2) (.u .ld1 (.b (.idx 1) (.var 1) (.var 10))) (.u .ld1 (.b (.idx 1) (.var 2) (.var 10)))))))
 .nxt)
 .nxt)
 (.set 15 (.u .ld1 (.u (.fld 1) (.var 5)))
 (.call true (some 13) 43 (.cn (.u .ld1 (.u (.fld 0) (.var 11))) .nl)
 (.chk (.bld [(.slice none 0 0)] (.pl 0 1 (.var 13) .nl))
 (.eff false (some 16) (.lit 44 1 1 [(.slice none 0 0)] (.pl 0 1 (.bld [(.slice none 0 0)] (.pl 0 1 (.var 13) .nl)) .nl))
 (.eff false (some 17) (.app 44 1 24 [(.slice none 0 0)] (.var 15) (.var 16))
 (.eff false none (.st 1 (.u (.fld 1) (.var 5)) (.var 17))
 .nxt))))))))))))
 (.set 6 (.b (.bin .add) (.var 6) (.lit (.int .i64 1)))
 .nxt))))))
 (.eff false none (.st 4 (.var 3) (.u (.lda 4) (.var 5)))
 .ret))))))))))))))
def f_setpoint_picked : Fun:=⟨s_setpoint_picked,[(.u (.lda 4) (.var 3))]⟩
abbrev v_setpoint_picked : List Nat:=[0,1,2,6,3,7,20,19,21,18,8,9,11,47,14,44,49,50]
theorem vr_setpoint_picked : VRof P n_setpoint_picked s_setpoint_picked f_setpoint_picked v_setpoint_picked 54:=vo Try.func23 (by kernel_rfl) Try.ntmps23 rfl
theorem r_setpoint_picked : Fun.res f_setpoint_picked=[(.u (.lda 4) (.var 3))]:=rfl
abbrev g_setpoint_picked_0 : List Nat:=[6,8,10,11,13,15,16,17]
abbrev n_plant_New : Nat:=25
def s_plant_New : S :=
 (.eff false (some 3) (.box 25 (.var 0))
 (.set 1 (.lit (.pointer none))
 (.set 2 (.lit (.int .i64 0))
 (.call false (some 15) 47 (.cn (.u (.lda 4) (.var 3)) .nl)
 (.set 4 (.var 15)
 (.seq
 (.ite (.b (.bin .neq) (.var 4) (.lit (.int .i64 0)))
 (.set 1 (.lit (.pointer none))
 (.set 2 (.var 4)
 .ret))
 .nxt)
 (.seq
 (.both
 (.chk (.u (.lda 4) (.var 3))
 (.set 18 (.u .len (.u .ld1 (.u (.fld 1) (.var 3))))
 (.eff false (some 17) (.mk 4 1 1 [(.bool false)] (.var 18) (.var 18))
 (.call false (some 16) 48 (.cn (.u (.lda 4) (.var 3)) .nl)
 (.chk (.bld [(.int .i64 0),(.slice none 0 0),(.slice none 0 0),(.int .i64 0),(.slice none 0 0),(.slice none 0 0),(.slice none 0 0),(.slice none 0 0)] (.pl 0 4 (.var 16) (.pl 6 1 (.var 17) .nl)))
 (.chk (.bld [(.int .i64 0),(.slice none 0 0),(.slice none 0 0),(.int .i64 0),(.slice none 0 0),(.slice none 0 0),(.slice none 0 0),(.slice none 0 0)] (.pl 0 8 (.bld [(.int .i64 0),(.slice none 0 0),(.slice none 0 0),(.int .i64 0),(.slice none 0 0),(.slice none 0 0),(.slice none 0 0),(.slice none 0 0)] (.pl 0 4 (.var 16) (.pl 6 1 (.var 17) .nl))) .nl))
 (.eff false (some 24) (.box 97 (.bld [(.int .i64 0),(.slice none 0 0),(.slice none 0 0),(.int .i64 0),(.slice none 0 0),(.slice none 0 0),(.slice none 0 0),(.slice none 0 0)] (.pl 0 8 (.bld [(.int .i64 0),(.slice none 0 0),(.slice none 0 0),(.int .i64 0),(.slice none 0 0),(.slice none 0 0),(.slice none 0 0),(.slice none 0 0)] (.pl 0 4 (.var 16) (.pl 6 1 (.var 17) .nl))) .nl)))
 (.set 5 (.var 24)
 .nxt))))))))
 (.chk (.u (.lda 4) (.var 3))
 (.set 18 (.u .len (.u .ld1 (.u (.fld 1) (.var 3))))
 (.call true (some 16) 48 (.cn (.u (.lda 4) (.var 3)) .nl)
 (.eff false (some 17) (.mk 4 1 1 [(.bool false)] (.var 18) (.var 18))
 (.chk (.bld [(.int .i64 0),(.slice none 0 0),(.slice none 0 0),(.int .i64 0),(.slice none 0 0),(.slice none 0 0),(.slice none 0 0),(.slice none 0 0)] (.pl 0 4 (.var 16) (.pl 6 1 (.var 17) .nl)))
 (.chk (.bld [(.int .i64 0),(.slice none 0 0),(.slice none 0 0),(.int .i64 0),(.slice none 0 0),(.slice none 0 0),(.slice none 0 0),(.slice none 0 0)] (.pl 0 8 (.bld [(.int .i64 0),(.slice none 0 0),(.slice none 0 0),(.int .i64 0),(.slice none 0 0),(.slice none 0 0),(.slice none 0 0),(.slice none 0 0)] (.pl 0 4 (.var 16) (.pl 6 1 (.var 17) .nl))) .nl))
 (.eff false (some 24) (.box 97 (.bld [(.int .i64 0),(.slice none 0 0),(.slice none 0 0),(.int .i64 0),(.slice none 0 0),(.slice none 0 0),(.slice none 0 0),(.slice none 0 0)] (.pl 0 8 (.bld [(.int .i64 0),(.slice none 0 0),(.slice none 0 0),(.int .i64 0),(.slice none 0 0),(.slice none 0 0),(.slice none 0 0),(.slice none 0 0)] (.pl 0 4 (.var 16) (.pl 6 1 (.var 17) .nl))) .nl)))
 (.set 5 (.var 24)
 .nxt)))))))))
 (.call false (some 19) 49 (.cn (.u (.fld 0) (.u .nilc (.var 5))) .nl)
 (.eff false none (.st 1 (.u (.fld 7) (.u (.fld 0) (.u .nilc (.var 5)))) (.var 19))
 (.set 7 (.u .len (.u .ld1 (.u (.fld 1) (.var 3))))
 (.set 6 (.lit (.int .i64 0))
 (.seq
 (.blk 0
 (.loop
 (.set 8 (.b (.bin .lss) (.var 6) (.var 7))
 (.seq
 (.ite (.var 8)
 .nxt
 (.exit 0))
 (.seq
 (.blk 1
 (.set 25 (.u .ld1 (.u (.fld 4) (.u (.fld 0) (.u .nilc (.var 5)))))
 (.call true (some 20) 49 (.cn (.u (.fld 0) (.u .nilc (.var 5))) .nl)
 (.eff false (some 26) (.lit 29 1 1 [(.slice none 0 0)] (.pl 0 1 (.var 20) .nl))
 (.eff false (some 28) (.app 29 1 24 [(.slice none 0 0)] (.var 25) (.var 26))
 (.eff false none (.st 1 (.u (.fld 4) (.u (.fld 0) (.u .nilc (.var 5)))) (.var 28))
 .nxt))))))
 (.set 6 (.b (.bin .add) (.var 6) (.lit (.int .i64 1)))
 .nxt))))))
 (.set 12 (.u .ld1 (.u (.fld 2) (.var 3)))
 (.set 10 (.u .len (.var 12))
 (.set 9 (.lit (.int .i64 0))
 (.seq
 (.blk 2
 (.loop
 (.set 11 (.b (.bin .lss) (.var 9) (.var 10))
 (.seq
 (.ite (.var 11)
 .nxt
 (.exit 2))
 (.seq
 (.blk 3
 (.chk (.u (.lda 4) (.b (.idx 4) (.var 12) (.var 9)))
 (.eff false (some 13) (.alloc 62 [(.int .i64 0),(.int .i64 0),(.int .i64 0),(.int .i64 0)])
 (.eff false none (.st 4 (.var 13) (.u (.lda 4) (.b (.idx 4) (.var 12) (.var 9))))
 (.call false (some 21) 49 (.cn (.u (.fld 0) (.u .nilc (.var 5))) .nl)
 (.chk (.bld [(.slice none 0 0),(.pointer none)] (.pl 0 1 (.var 21) .nl))
 (.eff false (some 14) (.alloc 100 [(.slice none 0 0),(.pointer none)])
 (.eff false none (.st 2 (.var 14) (.bld [(.slice none 0 0),(.pointer none)] (.pl 0 1 (.var 21) .nl)))
 (.seq
 (.ite (.b (.bin .gtr) (.u .ld1 (.u (.fld 3) (.var 13))) (.lit (.int .i64 1)))
 (.call false (some 22) 50 (.cn (.b (.bin .sub) (.u .ld1 (.u (.fld 3) (.var 13))) (.lit (.int .i64 1))) (.cn (.u .ld1 (.u (.fld 0) (.var 3))) .nl))
 (.chk (.u (.ext 0) (.var 22))
 (.chk (.u (.ext 1) (.var 22))
 (.eff false none (.st 1 (.u (.fld 1) (.var 14)) (.u (.ext 0) (.var 22)))
 .nxt))))
 .nxt)
 (.chk (.u .ld1 (.u (.fld 5) (.u (.fld 0) (.u .nilc (.var 5)))))
 (.eff false (some 23) (.lit 100 2 1 [(.slice none 0 0),(.pointer none)] (.pl 0 2 (.u (.lda 2) (.var 14)) .nl))
 (.eff false (some 27) (.app 100 2 32 [(.slice none 0 0),(.pointer none)] (.u .ld1 (.u (.fld 5) (.u (.fld 0) (.u .nilc (.var 5))))) (.var 23))
 (.eff false none (.st 1 (.u (.fld 5) (.u (.fld 0) (.u .nilc (.var 5)))) (.var 27))
 .nxt)))))))))))))
 (.set 9 (.b (.bin .add) (.var 9) (.lit (.int .i64 1)))
 .nxt))))))
 (.set 1 (.var 5)
 (.set 2 (.lit (.int .i64 0))
 .ret))))))))))))))))))
def f_plant_New : Fun:=⟨s_plant_New,[(.var 1),(.var 2)]⟩
abbrev v_plant_New : List Nat:=[0,2,3,1,4,5,34,33,35,55,54,56,53,7,8,10,15,19,18,27,45,62,73,84,22,41,46,85,47]
theorem vr_plant_New : VRof P n_plant_New s_plant_New f_plant_New v_plant_New 91:=vo Try.func25 (by kernel_rfl) Try.ntmps25 rfl
theorem r_plant_New : Fun.res f_plant_New=[(.var 1),(.var 2)]:=rfl
abbrev g_plant_New_0 : List Nat:=[6,8,20,25,26,28]
abbrev g_plant_New_1 : List Nat:=[9,11,13,14,21,22,23,27]
abbrev n_setpoint_fed : Nat:=26
def s_setpoint_fed : S :=
 (.eff false (some 3) (.box 25 (.var 0))
 (.set 2 (.lit (.int .i64 0))
 (.seq
 (.ite (.b (.bin .neq) (.u .len (.var 1)) (.u .ld1 (.u (.fld 0) (.var 3))))
 (.set 2 (.lit (.int .i64 18))
 .ret)
 .nxt)
 (.set 4 (.lit (.int .i64 0))
 (.set 8 (.var 1)
 (.set 6 (.u .len (.var 8))
 (.set 5 (.lit (.int .i64 0))
 (.seq
 (.blk 0
 (.loop
 (.set 7 (.b (.bin .lss) (.var 5) (.var 6))
 (.seq
 (.ite (.var 7)
 .nxt
 (.exit 0))
 (.seq
 (.blk 1
 (.set 9 (.u .ld1 (.b (.idx 1) (.var 8) (.var 5)))
 (.seq
 (.ite (.ite (.b (.bin .lss) (.var 9) (.lit (.int .i64 0))) (.lit (.bool true)) (.b (.bin .gtr) (.var 9) (.lit (.int .i64 1073741824))))
 (.set 2 (.lit (.int .i64 1))
 .ret)
 .nxt)
 (.set 4 (.b (.bin .add) (.var 4) (.var 9))
 .nxt))))
 (.set 5 (.b (.bin .add) (.var 5) (.lit (.int .i64 1)))
 .nxt))))))
 (.seq
 (.ite (.b (.bin .gtr) (.var 4) (.lit (.int .i64 2000)))
 (.set 2 (.lit (.int .i64 1))
 .ret)
 .nxt)
 (.set 2 (.lit (.int .i64 0))
 .ret))))))))))
def f_setpoint_fed : Fun:=⟨s_setpoint_fed,[(.var 2)]⟩
abbrev v_setpoint_fed : List Nat:=[0,1,4,2,5,15,14,16,13,7]
theorem vr_setpoint_fed : VRof P n_setpoint_fed s_setpoint_fed f_setpoint_fed v_setpoint_fed 31:=vo Try.func26 (by kernel_rfl) Try.ntmps26 rfl
theorem r_setpoint_fed : Fun.res f_setpoint_fed=[(.var 2)]:=rfl
abbrev g_setpoint_fed_0 : List Nat:=[2,4,5,7,9]
abbrev n_plant_Plant_Feed : Nat:=27
def s_plant_Plant_Feed : S :=
 (.set 2 (.lit (.int .i64 0))
 (.seq
 (.ite (.b (.eqp false) (.var 0) (.lit (.pointer none)))
 (.set 2 (.lit (.int .i64 14))
 .ret)
 .nxt)
 (.call false (some 4) 51 (.cn (.u (.fld 0) (.u .nilc (.var 0))) (.cn (.var 1) .nl))
 (.set 3 (.var 4)
 (.seq
 (.ite (.b (.bin .neq) (.var 3) (.lit (.int .i64 0)))
 (.set 2 (.var 3)
 .ret)
 .nxt)
 (.call false none 52 (.cn (.u .ld1 (.u (.fld 7) (.u (.fld 0) (.u .nilc (.var 0))))) (.cn (.var 1) .nl))
 (.call false none 52 (.cn (.u .ld1 (.b (.idx 1) (.u .ld1 (.u (.fld 4) (.u (.fld 0) (.u .nilc (.var 0))))) (.u .ld1 (.u (.fld 3) (.u (.fld 0) (.u (.fld 0) (.u .nilc (.var 0)))))))) (.cn (.var 1) .nl))
 (.set 2 (.lit (.int .i64 0))
 .ret))))))))
def f_plant_Plant_Feed : Fun:=⟨s_plant_Plant_Feed,[(.var 2)]⟩
abbrev v_plant_Plant_Feed : List Nat:=[0,1,4,5,12]
theorem vr_plant_Plant_Feed : VRof P n_plant_Plant_Feed s_plant_Plant_Feed f_plant_Plant_Feed v_plant_Plant_Feed 38:=vo Try.func27 (by kernel_rfl) Try.ntmps27 rfl
theorem r_plant_Plant_Feed : Fun.res f_plant_Plant_Feed=[(.var 2)]:=rfl
abbrev n_setpoint_heavy : Nat:=28
def s_setpoint_heavy : S :=
 (.set 1 (.lit (.bool false))
 (.set 5 (.var 0)
 (.set 3 (.u .len (.var 5))
 (.set 2 (.lit (.int .i64 0))
 (.seq
 (.blk 0
 (.loop
 (.set 4 (.b (.bin .lss) (.var 2) (.var 3))
 (.seq
 (.ite (.var 4)
 .nxt
 (.exit 0))
 (.seq
 (.blk 1
 (.set 6 (.u .ld1 (.b (.idx 1) (.var 5) (.var 2)))
 (.ite (.b (.bin .gtr) (.var 6) (.lit (.int .i64 0)))
 (.set 1 (.lit (.bool true))
 .ret)
 .nxt)))
 (.set 2 (.b (.bin .add) (.var 2) (.lit (.int .i64 1)))
 .nxt))))))
 (.set 1 (.lit (.bool false))
 .ret))))))
def f_setpoint_heavy : Fun:=⟨s_setpoint_heavy,[(.var 1)]⟩
abbrev v_setpoint_heavy : List Nat:=[0,2,7,6,8,5,4]
theorem vr_setpoint_heavy : VRof P n_setpoint_heavy s_setpoint_heavy f_setpoint_heavy v_setpoint_heavy 14:=vo Try.func28 (by kernel_rfl) Try.ntmps28 rfl
theorem r_setpoint_heavy : Fun.res f_setpoint_heavy=[(.var 1)]:=rfl
abbrev g_setpoint_heavy_0 : List Nat:=[1,2,4,6]
abbrev n_plant_Plant_Inside : Nat:=29
def s_plant_Plant_Inside : S :=
 (.set 1 (.lit (.slice none 0 0))
 (.seq
 (.ite (.b (.eqp false) (.var 0) (.lit (.pointer none)))
 (.set 1 (.lit (.slice none 0 0))
 .ret)
 .nxt)
 (.call false (some 2) 53 (.cn (.u (.fld 0) (.u .nilc (.var 0))) .nl)
 (.set 1 (.var 2)
 .ret))))
def f_plant_Plant_Inside : Fun:=⟨s_plant_Plant_Inside,[(.var 1)]⟩
abbrev v_plant_Plant_Inside : List Nat:=[0,2,8]
theorem vr_plant_Plant_Inside : VRof P n_plant_Plant_Inside s_plant_Plant_Inside f_plant_Plant_Inside v_plant_Plant_Inside 9:=vo Try.func29 (by kernel_rfl) Try.ntmps29 rfl
theorem r_plant_Plant_Inside : Fun.res f_plant_Plant_Inside=[(.var 1)]:=rfl
abbrev n_plant_Plant_Step : Nat:=30
def s_plant_Plant_Step : S :=
 (.set 1 (.lit (.int .i64 0))
 (.seq
 (.ite (.b (.eqp false) (.var 0) (.lit (.pointer none)))
 (.set 1 (.lit (.int .i64 14))
 .ret)
 .nxt)
 (.call false (some 2) 54 (.cn (.u (.fld 0) (.u .nilc (.var 0))) .nl)
 (.set 1 (.var 2)
 .ret))))
def f_plant_Plant_Step : Fun:=⟨s_plant_Plant_Step,[(.var 1)]⟩
abbrev v_plant_Plant_Step : List Nat:=[0,2,8]
theorem vr_plant_Plant_Step : VRof P n_plant_Plant_Step s_plant_Plant_Step f_plant_Plant_Step v_plant_Plant_Step 9:=vo Try.func30 (by kernel_rfl) Try.ntmps30 rfl
theorem r_plant_Plant_Step : Fun.res f_plant_Plant_Step=[(.var 1)]:=rfl
abbrev n_plant_Plant_Bin : Nat:=31
def s_plant_Plant_Bin : S :=
 (.set 2 (.lit (.slice none 0 0))
 (.set 3 (.lit (.int .i64 0))
 (.call false (some 5) 55 (.cn (.var 0) (.cn (.var 1) .nl))
 (.set 4 (.var 5)
 (.seq
 (.ite (.b (.bin .neq) (.var 4) (.lit (.int .i64 0)))
 (.set 2 (.lit (.slice none 0 0))
 (.set 3 (.var 4)
 .ret))
 .nxt)
 (.call false (some 6) 56 (.cn (.u .ld1 (.b (.idx 1) (.u .ld1 (.u (.fld 4) (.u (.fld 0) (.u .nilc (.var 0))))) (.var 1))) .nl)
 (.set 2 (.var 6)
 (.set 3 (.lit (.int .i64 0))
 .ret))))))))
def f_plant_Plant_Bin : Fun:=⟨s_plant_Plant_Bin,[(.var 2),(.var 3)]⟩
abbrev v_plant_Plant_Bin : List Nat:=[0,1,4,5,6,9,21]
theorem vr_plant_Plant_Bin : VRof P n_plant_Plant_Bin s_plant_Plant_Bin f_plant_Plant_Bin v_plant_Plant_Bin 22:=vo Try.func31 (by kernel_rfl) Try.ntmps31 rfl
theorem r_plant_Plant_Bin : Fun.res f_plant_Plant_Bin=[(.var 2),(.var 3)]:=rfl
abbrev n_setpoint_many : Nat:=32
def s_setpoint_many : S :=
 (.set 1 (.lit (.bool false))
 (.set 2 (.lit (.int .i64 1))
 (.set 6 (.var 0)
 (.set 4 (.u .len (.var 6))
 (.set 3 (.lit (.int .i64 0))
 (.seq
 (.blk 0
 (.loop
 (.set 5 (.b (.bin .lss) (.var 3) (.var 4))
 (.seq
 (.ite (.var 5)
 .nxt
 (.exit 0))
 (.seq
 (.blk 1
 (.set 7 (.u .ld1 (.b (.idx 1) (.var 6) (.var 3)))
 (.set 2 (.b (.bin .mul) (.var 2) (.b .mx (.lit (.int .i64 1)) (.u .len (.var 7))))
 (.ite (.b (.bin .gtr) (.var 2) (.lit (.int .i64 256)))
 (.set 1 (.lit (.bool true))
 .ret)
 .nxt))))
 (.set 3 (.b (.bin .add) (.var 3) (.lit (.int .i64 1)))
 .nxt))))))
 (.set 1 (.lit (.bool false))
 .ret)))))))
def f_setpoint_many : Fun:=⟨s_setpoint_many,[(.var 1)]⟩
abbrev v_setpoint_many : List Nat:=[0,2,3,8,7,9,6,5]
theorem vr_setpoint_many : VRof P n_setpoint_many s_setpoint_many f_setpoint_many v_setpoint_many 20:=vo Try.func32 (by kernel_rfl) Try.ntmps32 rfl
theorem r_setpoint_many : Fun.res f_setpoint_many=[(.var 1)]:=rfl
abbrev g_setpoint_many_0 : List Nat:=[1,2,3,5,7]
abbrev n_setpoint_wanted : Nat:=33
def s_setpoint_wanted : S :=
 (.eff false (some 8) (.box 25 (.var 0))
 (.set 2 (.lit (.int .i64 0))
 (.seq
 (.ite (.b (.bin .gtr) (.u .len (.var 1)) (.lit (.int .i64 24)))
 (.set 2 (.lit (.int .i64 8))
 .ret)
 .nxt)
 (.set 6 (.var 1)
 (.set 4 (.u .len (.var 6))
 (.set 3 (.lit (.int .i64 0))
 (.seq
 (.blk 0
 (.loop
 (.set 5 (.b (.bin .lss) (.var 3) (.var 4))
 (.seq
 (.ite (.var 5)
 .nxt
 (.exit 0))
 (.seq
 (.blk 1
 (.chk (.u (.lda 4) (.b (.idx 4) (.var 6) (.var 3)))
 (.eff false (some 7) (.alloc 65 [(.int .i64 0),(.int .i64 0),(.int .i64 0),(.int .i64 0)])
 (.eff false none (.st 4 (.var 7) (.u (.lda 4) (.b (.idx 4) (.var 6) (.var 3))))
 (.blk 2
 (.set 9 (.ite (.b (.bin .lss) (.u .ld1 (.u (.fld 0) (.var 7))) (.lit (.int .i64 0))) (.lit (.bool true)) (.b (.bin .geq) (.u .ld1 (.u (.fld 0) (.var 7))) (.u .len (.u .ld1 (.u (.fld 1) (.var 8))))))
 (.ite (.var 9)
 (.set 2 (.lit (.int .i64 7))
 .ret)
 (.call false (some 19) 42 (.cn (.u (.lda 1) (.b (.idx 1) (.u .ld1 (.u (.fld 1) (.var 8))) (.u .ld1 (.u (.fld 0) (.var 7))))) .nl)
 (.set 10 (.b (.bin .gtr) (.var 19) (.lit (.int .i64 0)))
 (.ite (.var 10)
 (.set 2 (.lit (.int .i64 21))
 .ret)
 (.set 11 (.ite (.b (.bin .lss) (.u .ld1 (.u (.fld 1) (.var 7))) (.lit (.int .i64 0))) (.lit (.bool true)) (.b (.bin .geq) (.u .ld1 (.u (.fld 1) (.var 7))) (.u .ld1 (.u (.fld 0) (.var 8)))))
 (.ite (.var 11)
 (.set 2 (.lit (.int .i64 18))
 .ret)
 (.set 12 (.ite (.ite (.ite (.b (.bin .lss) (.u .ld1 (.u (.fld 2) (.var 7))) (.lit (.int .i64 (-1000000)))) (.lit (.bool true)) (.b (.bin .gtr) (.u .ld1 (.u (.fld 2) (.var 7))) (.lit (.int .i64 1000000)))) (.lit (.bool true)) (.b (.bin .lss) (.u .ld1 (.u (.fld 3) (.var 7))) (.lit (.int .i64 0)))) (.lit (.bool true)) (.b (.bin .gtr) (.u .ld1 (.u (.fld 3) (.var 7))) (.lit (.int .i64 1000))))
 (.ite (.var 12)
 (.set 2 (.lit (.int .i64 1))
 .ret)
 .nxt))))))))))))))
 (.set 3 (.b (.bin .add) (.var 3) (.lit (.int .i64 1)))
 .nxt))))))
 (.eff false (some 18) (.alloc 106 (List.replicate 24 (.bool false)))
 (.set 16 (.var 1)
 (.set 14 (.u .len (.var 16))
 (.set 13 (.lit (.int .i64 0))
 (.seq
 (.blk 3
 (.loop
 (.set 15 (.b (.bin .lss) (.var 13) (.var 14))
 (.seq
 (.ite (.var 15)
 .nxt
 (.exit 3))
 (.seq
 (.blk 4
 (.chk (.u (.lda 4) (.b (.idx 4) (.var 16) (.var 13)))
 (.eff false (some 17) (.alloc 65 [(.int .i64 0),(.int .i64 0),(.int .i64 0),(.int .i64 0)])
 (.eff false none (.st 4 (.var 17) (.u (.lda 4) (.b (.idx 4) (.var 16) (.var 13))))
 (.seq
 (.ite (.u .ld1 (.b (.idxa 24 1) (.var 18) (.u .ld1 (.u (.fld 0) (.var 17)))))
 (.set 2 (.lit (.int .i64 6))
 .ret)
 .nxt)
 (.eff false none (.st 1 (.b (.idxa 24 1) (.var 18) (.u .ld1 (.u (.fld 0) (.var 17)))) (.lit (.bool true)))
 .nxt))))))
 (.set 13 (.b (.bin .add) (.var 13) (.lit (.int .i64 1)))
 .nxt))))))
 (.set 2 (.lit (.int .i64 0))
 .ret)))))))))))))
def f_setpoint_wanted : Fun:=⟨s_setpoint_wanted,[(.var 2)]⟩
abbrev v_setpoint_wanted : List Nat:=[0,1,4,15,14,16,13,6,2,19,31,40,51,73,72,74,71,9,7,38]
theorem vr_setpoint_wanted : VRof P n_setpoint_wanted s_setpoint_wanted f_setpoint_wanted v_setpoint_wanted 85:=vo Try.func33 (by kernel_rfl) Try.ntmps33 rfl
theorem r_setpoint_wanted : Fun.res f_setpoint_wanted=[(.var 2)]:=rfl
abbrev g_setpoint_wanted_0 : List Nat:=[2,3,5,7,9,10,11,12,19]
abbrev g_setpoint_wanted_1 : List Nat:=[2,13,15,17]
abbrev n_setpoint_choices : Nat:=34
def s_setpoint_choices : S :=
 (.eff false (some 2) (.box 26 (.var 0))
 (.set 1 (.lit .nilFunc)
 (.chk (.fn 57 (.cn (.var 2) .nl))
 (.set 1 (.fn 57 (.cn (.var 2) .nl))
 .ret))))
def f_setpoint_choices : Fun:=⟨s_setpoint_choices,[(.var 1)]⟩
abbrev v_setpoint_choices : List Nat:=[0,2,1]
theorem vr_setpoint_choices : VRof P n_setpoint_choices s_setpoint_choices f_setpoint_choices v_setpoint_choices 4:=vo Try.func34 (by kernel_rfl) Try.ntmps34 rfl
theorem r_setpoint_choices : Fun.res f_setpoint_choices=[(.var 1)]:=rfl
abbrev n_setpoint_worth : Nat:=35
def s_setpoint_worth : S :=
 (.set 2 (.lit (.int .i64 0))
 (.set 3 (.lit (.int .i64 0))
 (.set 7 (.var 1)
 (.set 5 (.u .len (.var 7))
 (.set 4 (.lit (.int .i64 0))
 (.seq
 (.blk 0
 (.loop
 (.set 6 (.b (.bin .lss) (.var 4) (.var 5))
 (.seq
 (.ite (.var 6)
 .nxt
 (.exit 0))
 (.seq
 (.blk 1
 (.chk (.u (.lda 4) (.b (.idx 4) (.var 7) (.var 4)))
 (.eff false (some 8) (.alloc 65 [(.int .i64 0),(.int .i64 0),(.int .i64 0),(.int .i64 0)])
 (.eff false none (.st 4 (.var 8) (.u (.lda 4) (.b (.idx 4) (.var 7) (.var 4))))
 (.set 9 (.u .ld1 (.b (.idx 1) (.var 0) (.u .ld1 (.u (.fld 0) (.var 8)))))
 (.call false (some 14) 58 (.cn (.var 9) (.cn (.u .ld1 (.u (.fld 1) (.var 8))) .nl))
 (.chk (.u (.ext 0) (.var 14))
 (.chk (.u (.ext 1) (.var 14))
 (.set 10 (.u (.ext 0) (.var 14))
 (.set 11 (.u (.ext 1) (.var 14))
 (.ite (.ite (.b (.bin .eql) (.var 11) (.lit (.int .i64 0))) (.b (.bin .geq) (.var 10) (.u .ld1 (.u (.fld 3) (.var 8)))) (.lit (.bool false)))
 (.call false (some 15) 59 (.cn (.var 9) .nl)
 (.chk (.u (.ext 0) (.var 15))
 (.chk (.u (.ext 1) (.var 15))
 (.set 12 (.u (.ext 0) (.var 15))
 (.set 13 (.u (.ext 1) (.var 15))
 (.set 3 (.b (.bin .add) (.var 3) (.b (.bin .mul) (.var 12) (.u .ld1 (.u (.fld 2) (.var 8)))))
 .nxt))))))
 .nxt)))))))))))
 (.set 4 (.b (.bin .add) (.var 4) (.lit (.int .i64 1)))
 .nxt))))))
 (.set 2 (.var 3)
 .ret)))))))
def f_setpoint_worth : Fun:=⟨s_setpoint_worth,[(.var 2)]⟩
abbrev v_setpoint_worth : List Nat:=[0,1,4,5,15,14,16,13,7,8,9,10,11,12,28,41]
theorem vr_setpoint_worth : VRof P n_setpoint_worth s_setpoint_worth f_setpoint_worth v_setpoint_worth 52:=vo Try.func35 (by kernel_rfl) Try.ntmps35 rfl
theorem r_setpoint_worth : Fun.res f_setpoint_worth=[(.var 2)]:=rfl
abbrev g_setpoint_worth_0 : List Nat:=[3,4,6,8,9,10,11,12,13,14,15]
abbrev n_setpoint_spent : Nat:=36
def s_setpoint_spent : S :=
 (.set 2 (.lit (.int .i64 0))
 (.set 3 (.lit (.int .i64 0))
 (.set 7 (.var 0)
 (.set 5 (.u .len (.var 7))
 (.set 4 (.lit (.int .i64 0))
 (.seq
 (.blk 0
 (.loop
 (.set 6 (.b (.bin .lss) (.var 4) (.var 5))
 (.seq
 (.ite (.var 6)
 .nxt
 (.exit 0))
 (.seq
 (.blk 1
 (.chk (.u .ld1 (.b (.idx 1) (.var 7) (.var 4)))
 (.set 8 (.var 4)
 (.set 9 (.u .ld1 (.b (.idx 1) (.var 7) (.var 4)))
 (.ite (.b (.bin .gtr) (.u .len (.var 9)) (.lit (.int .i64 0)))
 (.set 3 (.b (.bin .add) (.var 3) (.u .ld1 (.u (.fld 1) (.b (.idx 2) (.var 9) (.u .ld1 (.b (.idx 1) (.var 1) (.var 8)))))))
 .nxt)
 .nxt)))))
 (.set 4 (.b (.bin .add) (.var 4) (.lit (.int .i64 1)))
 .nxt))))))
 (.set 2 (.var 3)
 .ret)))))))
def f_setpoint_spent : Fun:=⟨s_setpoint_spent,[(.var 2)]⟩
abbrev v_setpoint_spent : List Nat:=[0,1,4,5,10,9,11,8,6,7]
theorem vr_setpoint_spent : VRof P n_setpoint_spent s_setpoint_spent f_setpoint_spent v_setpoint_spent 30:=vo Try.func36 (by kernel_rfl) Try.ntmps36 rfl
theorem r_setpoint_spent : Fun.res f_setpoint_spent=[(.var 2)]:=rfl
abbrev g_setpoint_spent_0 : List Nat:=[3,4,6,8,9]
abbrev n_ref30_Same : Nat:=37
def s_ref30_Same : S :=
 (.set 2 (.lit (.bool false))
 (.seq
 (.ite (.b (.bin .neq) (.u .len (.var 0)) (.u .len (.var 1)))
 (.set 2 (.lit (.bool false))
 .ret)
 .nxt)
 (.set 3 (.lit (.int .i64 0))
 (.seq
 (.blk 0
 (.loop
 (.seq
 (.ite (.b (.bin .lss) (.var 3) (.u .len (.var 0)))
 .nxt
 (.exit 0))
 (.seq
 (.blk 1
 (.ite (.b (.bin .neq) (.u .ld1 (.b (.idx 1) (.var 0) (.var 3))) (.u .ld1 (.b (.idx 1) (.var 1) (.var 3))))
 (.set 2 (.lit (.bool false))
 .ret)
 .nxt))
 (.set 3 (.b (.bin .add) (.var 3) (.lit (.int .i64 1)))
 .nxt)))))
 (.set 2 (.lit (.bool true))
 .ret)))))
def f_ref30_Same : Fun:=⟨s_ref30_Same,[(.var 2)]⟩
abbrev v_ref30_Same : List Nat:=[0,1,4,5]
theorem vr_ref30_Same : VRof P n_ref30_Same s_ref30_Same f_ref30_Same v_ref30_Same 26:=vo Try.func37 (by kernel_rfl) Try.ntmps37 rfl
theorem r_ref30_Same : Fun.res f_ref30_Same=[(.var 2)]:=rfl
abbrev g_ref30_Same_0 : List Nat:=[2,3]
abbrev n_machine_Check : Nat:=38
def s_machine_Check : S :=
 (.eff false (some 3) (.box 44 (.var 0))
 (.set 2 (.lit (.int .i64 0))
 (.seq
 (.ite (.ite (.b (.bin .lss) (.var 1) (.lit (.int .i64 1))) (.lit (.bool true)) (.b (.bin .gtr) (.var 1) (.lit (.int .i64 16))))
 (.set 2 (.lit (.int .i64 1))
 .ret)
 .nxt)
 (.seq
 (.ite (.b (.bin .neq) (.u .len (.u .ld1 (.u (.fld 0) (.var 3)))) (.var 1))
 (.set 2 (.lit (.int .i64 18))
 .ret)
 .nxt)
 (.set 4 (.lit (.int .i64 0))
 (.set 8 (.u .ld1 (.u (.fld 0) (.var 3)))
 (.set 6 (.u .len (.var 8))
 (.set 5 (.lit (.int .i64 0))
 (.seq
 (.blk 0
 (.loop
 (.set 7 (.b (.bin .lss) (.var 5) (.var 6))
 (.seq
 (.ite (.var 7)
 .nxt
 (.exit 0))
 (.seq
 (.blk 1
 (.set 9 (.u .ld1 (.b (.idx 1) (.var 8) (.var 5)))
 (.set 10 (.lit (.int .i64 0))
 (.seq
 (.ite (.b (.bin .gtr) (.u .len (.var 9)) (.lit (.int .i64 4)))
 (.set 4 (.lit (.int .i64 8))
 (.exit 0))
 .nxt)
 (.seq
 (.ite (.b (.bin .neq) (.u .len (.var 9)) (.u .len (.u .ld1 (.b (.idx 1) (.u .ld1 (.u (.fld 0) (.var 3))) (.lit (.int .i64 0))))))
 (.set 4 (.lit (.int .i64 3))
 (.exit 0))
 .nxt)
 (.set 14 (.var 9)
 (.set 12 (.u .len (.var 14))
 (.set 11 (.lit (.int .i64 0))
 (.seq
 (.blk 2
 (.loop
 (.set 13 (.b (.bin .lss) (.var 11) (.var 12))
 (.seq
 (.ite (.var 13)
 .nxt
 (.exit 2))
 (.seq
 (.blk 3
 (.set 15 (.u .ld1 (.b (.idx 1) (.var 14) (.var 11)))
 (.seq
 (.ite (.ite (.b (.bin .lss) (.var 15) (.lit (.int .i64 0))) (.lit (.bool true)) (.b (.bin .gtr) (.var 15) (.lit (.int .i64 1000))))
 (.set 4 (.lit (.int .i64 1))
 (.exit 0))
 .nxt)
 (.set 10 (.b (.bin .add) (.var 10) (.var 15))
 .nxt))))
 (.set 11 (.b (.bin .add) (.var 11) (.lit (.int .i64 1)))
 .nxt))))))
 (.ite (.ite (.b (.bin .gtr) (.u .len (.var 9)) (.lit (.int .i64 0))) (.b (.bin .neq) (.var 10) (.lit (.int .i64 1000))) (.lit (.bool false)))
 (.set 4 (.lit (.int .i64 17))
 (.exit 0))
 .nxt))))))))))
 (.set 5 (.b (.bin .add) (.var 5) (.lit (.int .i64 1)))
 .nxt))))))
 (.set 2 (.var 4)
 .ret))))))))))
def f_machine_Check : Fun:=⟨s_machine_Check,[(.var 2)]⟩
abbrev v_machine_Check : List Nat:=[0,1,4,2,5,25,24,26,23,7,8,42,41,43,40,10]
theorem vr_machine_Check : VRof P n_machine_Check s_machine_Check f_machine_Check v_machine_Check 65:=vo Try.func38 (by kernel_rfl) Try.ntmps38 rfl
theorem r_machine_Check : Fun.res f_machine_Check=[(.var 2)]:=rfl
abbrev g_machine_Check_0 : List Nat:=[4,5,7,9,10,11,12,13,14,15]
abbrev g_machine_Check_1 : List Nat:=[4,10,11,13,15]
abbrev n_layout_belts : Nat:=39
def s_layout_belts : S :=
 (.eff false (some 2) (.box 25 (.var 0))
 (.set 1 (.lit (.int .i64 0))
 (.set 6 (.u .ld1 (.u (.fld 2) (.var 2)))
 (.set 4 (.u .len (.var 6))
 (.set 3 (.lit (.int .i64 0))
 (.seq
 (.blk 0
 (.loop
 (.set 5 (.b (.bin .lss) (.var 3) (.var 4))
 (.seq
 (.ite (.var 5)
 .nxt
 (.exit 0))
 (.seq
 (.blk 1
 (.chk (.u (.lda 4) (.b (.idx 4) (.var 6) (.var 3)))
 (.eff false (some 7) (.alloc 62 [(.int .i64 0),(.int .i64 0),(.int .i64 0),(.int .i64 0)])
 (.eff false none (.st 4 (.var 7) (.u (.lda 4) (.b (.idx 4) (.var 6) (.var 3))))
 (.call false (some 25) 60 (.cn (.u (.lda 4) (.var 2)) (.cn (.u (.lda 4) (.var 7)) .nl))
 (.set 8 (.var 25)
 (.ite (.b (.bin .neq) (.var 8) (.lit (.int .i64 0)))
 (.set 1 (.var 8)
 .ret)
 .nxt)))))))
 (.set 3 (.b (.bin .add) (.var 3) (.lit (.int .i64 1)))
 .nxt))))))
 (.set 12 (.u .ld1 (.u (.fld 2) (.var 2)))
 (.set 10 (.u .len (.var 12))
 (.set 9 (.lit (.int .i64 0))
 (.seq
 (.blk 2
 (.loop
 (.set 11 (.b (.bin .lss) (.var 9) (.var 10))
 (.seq
 (.ite (.var 11)
 .nxt
 (.exit 2))
 (.seq
 (.blk 3
 (.chk (.u (.lda 4) (.b (.idx 4) (.var 12) (.var 9)))
 (.eff false (some 14) (.alloc 62 [(.int .i64 0),(.int .i64 0),(.int .i64 0),(.int .i64 0)])
 (.set 13 (.var 9)
 (.eff false none (.st 4 (.var 14) (.u (.lda 4) (.b (.idx 4) (.var 12) (.var 9))))
 (.call false (some 26) 61 (.cn (.u (.lda 4) (.var 2)) (.cn (.u .ld1 (.u (.fld 0) (.var 14))) (.cn (.u .ld1 (.u (.fld 1) (.var 14))) .nl)))
 (.ite (.b (.bin .neq) (.var 26) (.var 13))
 (.set 1 (.lit (.int .i64 6))
 .ret)
 .nxt)))))))
 (.set 9 (.b (.bin .add) (.var 9) (.lit (.int .i64 1)))
 .nxt))))))
 (.set 18 (.u .ld1 (.u (.fld 1) (.var 2)))
 (.set 16 (.u .len (.var 18))
 (.set 15 (.lit (.int .i64 0))
 (.seq
 (.blk 4
 (.loop
 (.set 17 (.b (.bin .lss) (.var 15) (.var 16))
 (.seq
 (.ite (.var 17)
 .nxt
 (.exit 4))
 (.seq
 (.blk 5
 (.chk (.u (.lda 1) (.b (.idx 1) (.var 18) (.var 15)))
 (.eff false (some 20) (.alloc 44 [(.slice none 0 0)])
 (.set 19 (.var 15)
 (.eff false none (.st 1 (.var 20) (.u (.lda 1) (.b (.idx 1) (.var 18) (.var 15))))
 (.call false (some 22) 42 (.cn (.u (.lda 1) (.var 20)) .nl)
 (.set 21 (.lit (.int .i64 0))
 (.blk 6
 (.loop
 (.set 23 (.b (.bin .lss) (.var 21) (.var 22))
 (.seq
 (.ite (.var 23)
 .nxt
 (.exit 6))
 (.seq
 (.blk 7
 (.set 24 (.var 21)
 (.call false (some 27) 61 (.cn (.u (.lda 4) (.var 2)) (.cn (.var 19) (.cn (.var 24) .nl)))
 (.ite (.b (.bin .lss) (.var 27) (.lit (.int .i64 0)))
 (.set 1 (.lit (.int .i64 3))
 .ret)
 .nxt))))
 (.set 21 (.b (.bin .add) (.var 21) (.lit (.int .i64 1)))
 .nxt)))))))))))))
 (.set 15 (.b (.bin .add) (.var 15) (.lit (.int .i64 1)))
 .nxt))))))
 (.set 1 (.lit (.int .i64 0))
 .ret)))))))))))))))
def f_layout_belts : Fun:=⟨s_layout_belts,[(.var 1)]⟩
abbrev v_layout_belts : List Nat:=[0,2,1,14,13,15,12,4,5,28,27,29,26,6,7,45,44,46,43,8,9,52,51,53,10,20,38,58]
theorem vr_layout_belts : VRof P n_layout_belts s_layout_belts f_layout_belts v_layout_belts 62:=vo Try.func39 (by kernel_rfl) Try.ntmps39 rfl
theorem r_layout_belts : Fun.res f_layout_belts=[(.var 1)]:=rfl
abbrev g_layout_belts_0 : List Nat:=[1,3,5,7,8,25]
abbrev g_layout_belts_1 : List Nat:=[1,9,11,13,14,26]
abbrev g_layout_belts_2 : List Nat:=[1,15,17,19,20,21,22,23,24,27]
abbrev g_layout_belts_3 : List Nat:=[1,21,23,24,27]
abbrev n_layout_has : Nat:=40
def s_layout_has : S :=
 (.eff false (some 3) (.box 25 (.var 0))
 (.set 2 (.lit (.bool false))
 (.set 2 (.ite (.b (.bin .geq) (.var 1) (.lit (.int .i64 0))) (.b (.bin .lss) (.var 1) (.u .len (.u .ld1 (.u (.fld 1) (.var 3))))) (.lit (.bool false)))
 .ret)))
def f_layout_has : Fun:=⟨s_layout_has,[(.var 2)]⟩
abbrev v_layout_has : List Nat:=[0,1,4,2]
theorem vr_layout_has : VRof P n_layout_has s_layout_has f_layout_has v_layout_has 14:=vo Try.func40 (by kernel_rfl) Try.ntmps40 rfl
theorem r_layout_has : Fun.res f_layout_has=[(.var 2)]:=rfl
abbrev n_layout_bin : Nat:=41
def s_layout_bin : S :=
 (.eff false (some 3) (.box 25 (.var 0))
 (.set 2 (.lit (.bool false))
 (.call false (some 4) 42 (.cn (.u (.lda 1) (.b (.idx 1) (.u .ld1 (.u (.fld 1) (.var 3))) (.var 1))) .nl)
 (.set 2 (.b (.bin .eql) (.var 4) (.lit (.int .i64 0)))
 .ret))))
def f_layout_bin : Fun:=⟨s_layout_bin,[(.var 2)]⟩
abbrev v_layout_bin : List Nat:=[0,1,4,2,10]
theorem vr_layout_bin : VRof P n_layout_bin s_layout_bin f_layout_bin v_layout_bin 12:=vo Try.func41 (by kernel_rfl) Try.ntmps41 rfl
theorem r_layout_bin : Fun.res f_layout_bin=[(.var 2)]:=rfl
abbrev n_machine_Outs : Nat:=42
def s_machine_Outs : S :=
 (.eff false (some 2) (.box 44 (.var 0))
 (.set 1 (.lit (.int .i64 0))
 (.seq
 (.ite (.b (.bin .eql) (.u .len (.u .ld1 (.u (.fld 0) (.var 2)))) (.lit (.int .i64 0)))
 (.set 1 (.lit (.int .i64 0))
 .ret)
 .nxt)
 (.set 1 (.u .len (.u .ld1 (.b (.idx 1) (.u .ld1 (.u (.fld 0) (.var 2))) (.lit (.int .i64 0)))))
 .ret))))
def f_machine_Outs : Fun:=⟨s_machine_Outs,[(.var 1)]⟩
abbrev v_machine_Outs : List Nat:=[0,2,1]
theorem vr_machine_Outs : VRof P n_machine_Outs s_machine_Outs f_machine_Outs v_machine_Outs 12:=vo Try.func42 (by kernel_rfl) Try.ntmps42 rfl
theorem r_machine_Outs : Fun.res f_machine_Outs=[(.var 1)]:=rfl
abbrev n_setpoint_rates : Nat:=43
def s_setpoint_rates : S :=
 (.set 1 (.lit (.slice none 0 0))
 (.set 2 (.lit (.slice none 0 0))
 (.set 6 (.var 0)
 (.set 4 (.u .len (.var 6))
 (.set 3 (.lit (.int .i64 0))
 (.seq
 (.blk 0
 (.loop
 (.set 5 (.b (.bin .lss) (.var 3) (.var 4))
 (.seq
 (.ite (.var 5)
 .nxt
 (.exit 0))
 (.seq
 (.blk 1
 (.set 7 (.u .ld1 (.b (.idx 1) (.var 6) (.var 3)))
 (.eff false (some 8) (.lit 3 1 0 [(.int .i64 0)] .nl)
 (.eff false (some 9) (.app 3 1 8 [(.int .i64 0)] (.var 8) (.var 7))
 (.eff false (some 10) (.lit 27 1 1 [(.slice none 0 0)] (.pl 0 1 (.var 9) .nl))
 (.eff false (some 11) (.app 27 1 24 [(.slice none 0 0)] (.var 2) (.var 10))
 (.set 2 (.var 11)
 .nxt)))))))
 (.set 3 (.b (.bin .add) (.var 3) (.lit (.int .i64 1)))
 .nxt))))))
 (.set 1 (.var 2)
 .ret)))))))
def f_setpoint_rates : Fun:=⟨s_setpoint_rates,[(.var 1)]⟩
abbrev v_setpoint_rates : List Nat:=[0,2,3,8,7,9,6,5,13,15,16,17]
theorem vr_setpoint_rates : VRof P n_setpoint_rates s_setpoint_rates f_setpoint_rates v_setpoint_rates 20:=vo Try.func43 (by kernel_rfl) Try.ntmps43 rfl
theorem r_setpoint_rates : Fun.res f_setpoint_rates=[(.var 1)]:=rfl
abbrev g_setpoint_rates_0 : List Nat:=[2,3,5,7,8,9,10,11]
abbrev n_plant_check : Nat:=47
def s_plant_check : S :=
 (.eff false (some 2) (.box 25 (.var 0))
 (.set 1 (.lit (.int .i64 0))
 (.call false (some 5) 65 (.cn (.u (.lda 4) (.var 2)) .nl)
 (.chk (.u (.ext 0) (.var 5))
 (.chk (.u (.ext 1) (.var 5))
 (.set 3 (.u (.ext 0) (.var 5))
 (.set 4 (.u (.ext 1) (.var 5))
 (.seq
 (.ite (.b (.bin .neq) (.var 4) (.lit (.int .i64 0)))
 (.set 1 (.var 4)
 .ret)
 .nxt)
 (.seq
 (.ite (.u (.un .not) (.var 3))
 (.set 1 (.lit (.int .i64 23))
 .ret)
 .nxt)
 (.set 1 (.lit (.int .i64 0))
 .ret))))))))))
def f_plant_check : Fun:=⟨s_plant_check,[(.var 1)]⟩
abbrev v_plant_check : List Nat:=[0,2,1,3,4,7]
theorem vr_plant_check : VRof P n_plant_check s_plant_check f_plant_check v_plant_check 15:=vo Try.func47 (by kernel_rfl) Try.ntmps47 rfl
theorem r_plant_check : Fun.res f_plant_check=[(.var 1)]:=rfl
abbrev n_plant_copied : Nat:=48
def s_plant_copied : S :=
 (.eff false (some 2) (.box 25 (.var 0))
 (.eff false (some 1) (.alloc 25 [(.int .i64 0),(.slice none 0 0),(.slice none 0 0),(.int .i64 0)])
 (.eff false (some 15) (.mk 44 1 24 [(.slice none 0 0)] (.u .len (.u .ld1 (.u (.fld 1) (.var 2)))) (.u .len (.u .ld1 (.u (.fld 1) (.var 2)))))
 (.set 3 (.var 15)
 (.set 7 (.u .ld1 (.u (.fld 1) (.var 2)))
 (.set 5 (.u .len (.var 7))
 (.set 4 (.lit (.int .i64 0))
 (.seq
 (.blk 0
 (.loop
 (.set 6 (.b (.bin .lss) (.var 4) (.var 5))
 (.seq
 (.ite (.var 6)
 .nxt
 (.exit 0))
 (.seq
 (.blk 1
 (.chk (.u (.lda 1) (.b (.idx 1) (.var 7) (.var 4)))
 (.eff false (some 9) (.alloc 44 [(.slice none 0 0)])
 (.set 8 (.var 4)
 (.eff false none (.st 1 (.var 9) (.u (.lda 1) (.b (.idx 1) (.var 7) (.var 4))))
 (.set 13 (.u .ld1 (.u (.fld 0) (.var 9)))
 (.set 11 (.u .len (.var 13))
 (.set 10 (.lit (.int .i64 0))
 (.blk 2
 (.loop
 (.set 12 (.b (.bin .lss) (.var 10) (.var 11))
 (.seq
 (.ite (.var 12)
 .nxt
 (.exit 2))
 (.seq
 (.blk 3
 (.set 14 (.u .ld1 (.b (.idx 1) (.var 13) (.var 10)))
 (.set 18 (.u .ld1 (.u (.fld 0) (.b (.idx 1) (.var 3) (.var 8))))
 (.call true (some 16) 66 (.cn (.var 14) .nl)
 (.eff false (some 19) (.lit 27 1 1 [(.slice none 0 0)] (.pl 0 1 (.var 16) .nl))
 (.eff false (some 20) (.app 27 1 24 [(.slice none 0 0)] (.var 18) (.var 19))
 (.eff false none (.st 1 (.u (.fld 0) (.b (.idx 1) (.var 3) (.var 8))) (.var 20))
 .nxt)))))))
 (.set 10 (.b (.bin .add) (.var 10) (.lit (.int .i64 1)))
 .nxt))))))))))))))
 (.set 4 (.b (.bin .add) (.var 4) (.lit (.int .i64 1)))
 .nxt))))))
 (.call false (some 17) 67 (.cn (.u .ld1 (.u (.fld 2) (.var 2))) .nl)
 (.eff false none (.st 1 (.u (.fld 1) (.var 2)) (.var 3))
 (.eff false none (.st 1 (.u (.fld 2) (.var 2)) (.var 17))
 (.eff false none (.st 4 (.var 1) (.u (.lda 4) (.var 2)))
 .ret))))))))))))
def f_plant_copied : Fun:=⟨s_plant_copied,[(.u (.lda 4) (.var 1))]⟩
abbrev v_plant_copied : List Nat:=[0,2,1,3,15,14,16,13,4,5,23,22,24,21,7,11,35,45,33,36,37]
theorem vr_plant_copied : VRof P n_plant_copied s_plant_copied f_plant_copied v_plant_copied 49:=vo Try.func48 (by kernel_rfl) Try.ntmps48 rfl
theorem r_plant_copied : Fun.res f_plant_copied=[(.u (.lda 4) (.var 1))]:=rfl
abbrev g_plant_copied_0 : List Nat:=[4,6,8,9,10,11,12,13,14,16,18,19,20]
abbrev g_plant_copied_1 : List Nat:=[10,12,14,16,18,19,20]
abbrev n_plant_state_empty : Nat:=49
def s_plant_state_empty : S :=
 (.set 1 (.lit (.slice none 0 0))
 (.eff false (some 2) (.mk 3 1 8 [(.int .i64 0)] (.u .ld1 (.u (.fld 0) (.u (.fld 0) (.u .nilc (.var 0))))) (.u .ld1 (.u (.fld 0) (.u (.fld 0) (.u .nilc (.var 0))))))
 (.set 1 (.var 2)
 .ret)))
def f_plant_state_empty : Fun:=⟨s_plant_state_empty,[(.var 1)]⟩
abbrev v_plant_state_empty : List Nat:=[0,2,8]
theorem vr_plant_state_empty : VRof P n_plant_state_empty s_plant_state_empty f_plant_state_empty v_plant_state_empty 9:=vo Try.func49 (by kernel_rfl) Try.ntmps49 rfl
theorem r_plant_state_empty : Fun.res f_plant_state_empty=[(.var 1)]:=rfl
abbrev n_belt_New : Nat:=50
def s_belt_New : S :=
 (.set 2 (.lit (.pointer none))
 (.set 3 (.lit (.int .i64 0))
 (.seq
 (.ite (.ite (.ite (.ite (.b (.bin .lss) (.var 0) (.lit (.int .i64 1))) (.lit (.bool true)) (.b (.bin .gtr) (.var 0) (.lit (.int .i64 16)))) (.lit (.bool true)) (.b (.bin .lss) (.var 1) (.lit (.int .i64 1)))) (.lit (.bool true)) (.b (.bin .gtr) (.var 1) (.lit (.int .i64 16))))
 (.set 2 (.lit (.pointer none))
 (.set 3 (.lit (.int .i64 1))
 .ret))
 .nxt)
 (.chk (.bld [(.slice none 0 0),(.slice none 0 0),(.slice none 0 0),(.slice none 0 0),(.slice none 0 0),(.slice none 0 0),(.slice none 0 0),(.slice none 0 0),(.slice none 0 0),(.slice none 0 0),(.slice none 0 0),(.slice none 0 0),(.slice none 0 0),(.slice none 0 0),(.slice none 0 0),(.slice none 0 0),(.int .i64 0),(.int .i64 0),(.int .i64 0)] (.pl 16 1 (.var 0) (.pl 17 1 (.var 1) .nl)))
 (.eff false (some 5) (.box 120 (.bld [(.slice none 0 0),(.slice none 0 0),(.slice none 0 0),(.slice none 0 0),(.slice none 0 0),(.slice none 0 0),(.slice none 0 0),(.slice none 0 0),(.slice none 0 0),(.slice none 0 0),(.slice none 0 0),(.slice none 0 0),(.slice none 0 0),(.slice none 0 0),(.slice none 0 0),(.slice none 0 0),(.int .i64 0),(.int .i64 0),(.int .i64 0)] (.pl 16 1 (.var 0) (.pl 17 1 (.var 1) .nl))))
 (.set 4 (.var 5)
 (.call false none 68 (.cn (.var 4) .nl)
 (.set 2 (.var 4)
 (.set 3 (.lit (.int .i64 0))
 .ret)))))))))
def f_belt_New : Fun:=⟨s_belt_New,[(.var 2),(.var 3)]⟩
abbrev v_belt_New : List Nat:=[0,1,4,5,6,24]
theorem vr_belt_New : VRof P n_belt_New s_belt_New f_belt_New v_belt_New 28:=vo Try.func50 (by kernel_rfl) Try.ntmps50 rfl
theorem r_belt_New : Fun.res f_belt_New=[(.var 2),(.var 3)]:=rfl
abbrev n_plant_state_fits : Nat:=51
def s_plant_state_fits : S :=
 (.set 2 (.lit (.int .i64 0))
 (.seq
 (.ite (.b (.bin .neq) (.u .len (.var 1)) (.u .ld1 (.u (.fld 0) (.u (.fld 0) (.u .nilc (.var 0))))))
 (.set 2 (.lit (.int .i64 18))
 .ret)
 .nxt)
 (.call false (some 9) 69 (.cn (.var 1) (.cn (.u .ld1 (.u (.fld 0) (.u (.fld 0) (.u .nilc (.var 0))))) .nl))
 (.seq
 (.ite (.u (.un .not) (.var 9))
 (.set 2 (.lit (.int .i64 1))
 .ret)
 .nxt)
 (.set 6 (.var 1)
 (.set 4 (.u .len (.var 6))
 (.set 3 (.lit (.int .i64 0))
 (.seq
 (.blk 0
 (.loop
 (.set 5 (.b (.bin .lss) (.var 3) (.var 4))
 (.seq
 (.ite (.var 5)
 .nxt
 (.exit 0))
 (.seq
 (.blk 1
 (.chk (.u .ld1 (.b (.idx 1) (.var 6) (.var 3)))
 (.set 7 (.var 3)
 (.set 8 (.u .ld1 (.b (.idx 1) (.var 6) (.var 3)))
 (.ite (.b (.bin .gtr) (.b (.bin .add) (.u .ld1 (.b (.idx 1) (.u .ld1 (.u (.fld 7) (.u .nilc (.var 0)))) (.var 7))) (.var 8)) (.lit (.int .i64 1073741824)))
 (.set 2 (.lit (.int .i64 2))
 .ret)
 .nxt)))))
 (.set 3 (.b (.bin .add) (.var 3) (.lit (.int .i64 1)))
 .nxt))))))
 (.set 2 (.lit (.int .i64 0))
 .ret)))))))))
def f_plant_state_fits : Fun:=⟨s_plant_state_fits,[(.var 2)]⟩
abbrev v_plant_state_fits : List Nat:=[0,1,4,25,24,26,23,5,6,21]
theorem vr_plant_state_fits : VRof P n_plant_state_fits s_plant_state_fits f_plant_state_fits v_plant_state_fits 41:=vo Try.func51 (by kernel_rfl) Try.ntmps51 rfl
theorem r_plant_state_fits : Fun.res f_plant_state_fits=[(.var 2)]:=rfl
abbrev g_plant_state_fits_0 : List Nat:=[2,3,5,7,8]
abbrev n_plant_add : Nat:=52
def s_plant_add : S :=
 (.set 5 (.var 1)
 (.set 3 (.u .len (.var 5))
 (.set 2 (.lit (.int .i64 0))
 (.blk 0
 (.loop
 (.set 4 (.b (.bin .lss) (.var 2) (.var 3))
 (.seq
 (.ite (.var 4)
 .nxt
 (.exit 0))
 (.seq
 (.blk 1
 (.chk (.u .ld1 (.b (.idx 1) (.var 5) (.var 2)))
 (.set 6 (.var 2)
 (.set 7 (.u .ld1 (.b (.idx 1) (.var 5) (.var 2)))
 (.eff false none (.st 1 (.b (.idx 1) (.var 0) (.var 6)) (.b (.bin .add) (.u .ld1 (.b (.idx 1) (.var 0) (.var 6))) (.var 7)))
 .nxt)))))
 (.set 2 (.b (.bin .add) (.var 2) (.lit (.int .i64 1)))
 .nxt)))))))))
def f_plant_add : Fun:=⟨s_plant_add,[]⟩
abbrev v_plant_add : List Nat:=[0,1,8,7,9,6,4,5]
theorem vr_plant_add : VRof P n_plant_add s_plant_add f_plant_add v_plant_add 21:=vo Try.func52 (by kernel_rfl) Try.ntmps52 rfl
theorem r_plant_add : Fun.res f_plant_add=[]:=rfl
abbrev g_plant_add_0 : List Nat:=[2,4,6,7]
abbrev n_plant_state_inside : Nat:=53
def s_plant_state_inside : S :=
 (.set 1 (.lit (.slice none 0 0))
 (.call false (some 14) 49 (.cn (.var 0) .nl)
 (.set 2 (.var 14)
 (.set 6 (.u .ld1 (.u (.fld 4) (.u .nilc (.var 0))))
 (.set 4 (.u .len (.var 6))
 (.set 3 (.lit (.int .i64 0))
 (.seq
 (.blk 0
 (.loop
 (.set 5 (.b (.bin .lss) (.var 3) (.var 4))
 (.seq
 (.ite (.var 5)
 .nxt
 (.exit 0))
 (.seq
 (.blk 1
 (.chk (.u .ld1 (.b (.idx 1) (.var 6) (.var 3)))
 (.set 7 (.var 3)
 (.set 8 (.u .ld1 (.b (.idx 1) (.var 6) (.var 3)))
 (.call false (some 15) 70 (.cn (.var 0) (.cn (.var 7) .nl))
 (.ite (.u (.un .not) (.var 15))
 (.call false none 52 (.cn (.var 2) (.cn (.var 8) .nl))
 .nxt)
 .nxt))))))
 (.set 3 (.b (.bin .add) (.var 3) (.lit (.int .i64 1)))
 .nxt))))))
 (.set 12 (.u .ld1 (.u (.fld 5) (.u .nilc (.var 0))))
 (.set 10 (.u .len (.var 12))
 (.set 9 (.lit (.int .i64 0))
 (.seq
 (.blk 2
 (.loop
 (.set 11 (.b (.bin .lss) (.var 9) (.var 10))
 (.seq
 (.ite (.var 11)
 .nxt
 (.exit 2))
 (.seq
 (.blk 3
 (.chk (.u (.lda 2) (.b (.idx 2) (.var 12) (.var 9)))
 (.eff false (some 13) (.alloc 100 [(.slice none 0 0),(.pointer none)])
 (.eff false none (.st 2 (.var 13) (.u (.lda 2) (.b (.idx 2) (.var 12) (.var 9))))
 (.call false none 52 (.cn (.var 2) (.cn (.u .ld1 (.u (.fld 0) (.var 13))) .nl))
 (.call false (some 16) 71 (.cn (.u .ld1 (.u (.fld 1) (.var 13))) .nl)
 (.call false none 52 (.cn (.var 2) (.cn (.var 16) .nl))
 .nxt)))))))
 (.set 9 (.b (.bin .add) (.var 9) (.lit (.int .i64 1)))
 .nxt))))))
 (.set 1 (.var 2)
 .ret))))))))))))
def f_plant_state_inside : Fun:=⟨s_plant_state_inside,[(.var 1)]⟩
abbrev v_plant_state_inside : List Nat:=[0,2,3,15,14,16,13,4,5,33,32,34,31,7,9,22,44]
theorem vr_plant_state_inside : VRof P n_plant_state_inside s_plant_state_inside f_plant_state_inside v_plant_state_inside 48:=vo Try.func53 (by kernel_rfl) Try.ntmps53 rfl
theorem r_plant_state_inside : Fun.res f_plant_state_inside=[(.var 1)]:=rfl
abbrev g_plant_state_inside_0 : List Nat:=[3,5,7,8,15]
abbrev g_plant_state_inside_1 : List Nat:=[9,11,13,16]
abbrev n_plant_Plant_find : Nat:=55
def s_plant_Plant_find : S :=
 (.set 2 (.lit (.int .i64 0))
 (.seq
 (.blk 0
 (.set 3 (.b (.eqp false) (.var 0) (.lit (.pointer none)))
 (.ite (.var 3)
 (.set 2 (.lit (.int .i64 14))
 .ret)
 (.set 4 (.ite (.b (.bin .lss) (.var 1) (.lit (.int .i64 0))) (.lit (.bool true)) (.b (.bin .geq) (.var 1) (.u .len (.u .ld1 (.u (.fld 1) (.u (.fld 0) (.u (.fld 0) (.u .nilc (.var 0)))))))))
 (.ite (.var 4)
 (.set 2 (.lit (.int .i64 7))
 .ret)
 (.call false (some 6) 70 (.cn (.u (.fld 0) (.u .nilc (.var 0))) (.cn (.var 1) .nl))
 (.set 5 (.u (.un .not) (.var 6))
 (.ite (.var 5)
 (.set 2 (.lit (.int .i64 21))
 .ret)
 .nxt))))))))
 (.set 2 (.lit (.int .i64 0))
 .ret)))
def f_plant_Plant_find : Fun:=⟨s_plant_Plant_find,[(.var 2)]⟩
abbrev v_plant_Plant_find : List Nat:=[0,1,4,5,8,22,27]
theorem vr_plant_Plant_find : VRof P n_plant_Plant_find s_plant_Plant_find f_plant_Plant_find v_plant_Plant_find 29:=vo Try.func55 (by kernel_rfl) Try.ntmps55 rfl
theorem r_plant_Plant_find : Fun.res f_plant_Plant_find=[(.var 2)]:=rfl
abbrev n_slices_Clone : Nat:=56
def s_slices_Clone : S :=
 (.set 1 (.lit (.slice none 0 0))
 (.seq
 (.ite (.b (.eqs false) (.var 0) (.lit (.slice none 0 0)))
 (.set 1 (.lit (.slice none 0 0))
 .ret)
 .nxt)
 (.eff false (some 2) (.lit 3 1 0 [(.int .i64 0)] .nl)
 (.eff false (some 3) (.app 3 1 8 [(.int .i64 0)] (.var 2) (.var 0))
 (.set 1 (.var 3)
 .ret)))))
def f_slices_Clone : Fun:=⟨s_slices_Clone,[(.var 1)]⟩
abbrev v_slices_Clone : List Nat:=[0,2,5,7]
theorem vr_slices_Clone : VRof P n_slices_Clone s_slices_Clone f_slices_Clone v_slices_Clone 8:=vo Try.func56 (by kernel_rfl) Try.ntmps56 rfl
theorem r_slices_Clone : Fun.res f_slices_Clone=[(.var 1)]:=rfl
abbrev n_setpoint_choices_1 : Nat:=57
def s_setpoint_choices_1 : S :=
 (.eff false (some 4) (.mk 3 1 8 [(.int .i64 0)] (.u .len (.u .ld1 (.var 1))) (.u .len (.u .ld1 (.var 1))))
 (.set 2 (.var 4)
 (.blk 0
 (.loop
 (.blk 1
 (.eff false (some 5) (.lit 3 1 0 [(.int .i64 0)] .nl)
 (.eff false (some 6) (.app 3 1 8 [(.int .i64 0)] (.var 5) (.var 2))
 (.callv false (some 7) (.var 0) (.cn (.var 6) .nl)
 (.seq
 (.ite (.u (.un .not) (.var 7))
 .ret
 .nxt)
 (.set 3 (.b (.bin .sub) (.u .len (.var 2)) (.lit (.int .i64 1)))
 (.seq
 (.blk 2
 (.loop
 (.seq
 (.ite (.ite (.b (.bin .geq) (.var 3) (.lit (.int .i64 0))) (.b (.bin .geq) (.b (.bin .add) (.u .ld1 (.b (.idx 1) (.var 2) (.var 3))) (.lit (.int .i64 1))) (.u .len (.u .ld1 (.b (.idx 1) (.u .ld1 (.var 1)) (.var 3))))) (.lit (.bool false)))
 .nxt
 (.exit 2))
 (.blk 3
 (.eff false none (.st 1 (.b (.idx 1) (.var 2) (.var 3)) (.lit (.int .i64 0)))
 (.set 3 (.b (.bin .sub) (.var 3) (.lit (.int .i64 1)))
 .nxt))))))
 (.seq
 (.ite (.b (.bin .lss) (.var 3) (.lit (.int .i64 0)))
 .ret
 .nxt)
 (.eff false none (.st 1 (.b (.idx 1) (.var 2) (.var 3)) (.b (.bin .add) (.u .ld1 (.b (.idx 1) (.var 2) (.var 3))) (.lit (.int .i64 1))))
 .nxt)))))))))))))
def f_setpoint_choices_1 : Fun:=⟨s_setpoint_choices_1,[]⟩
abbrev v_setpoint_choices_1 : List Nat:=[0,1,3,4,7,9,11,12]
theorem r_setpoint_choices_1 : Fun.res f_setpoint_choices_1=[]:=rfl
abbrev g_setpoint_choices_1_1 : List Nat:=[3]
abbrev n_material_Purity : Nat:=58
def s_material_Purity : S :=
 (.set 2 (.lit (.int .i64 0))
 (.set 3 (.lit (.int .i64 0))
 (.call false (some 9) 59 (.cn (.var 0) .nl)
 (.chk (.u (.ext 0) (.var 9))
 (.chk (.u (.ext 1) (.var 9))
 (.set 4 (.u (.ext 0) (.var 9))
 (.set 5 (.u (.ext 1) (.var 9))
 (.seq
 (.blk 0
 (.set 6 (.b (.bin .neq) (.var 5) (.lit (.int .i64 0)))
 (.ite (.var 6)
 (.set 2 (.lit (.int .i64 0))
 (.set 3 (.var 5)
 .ret))
 (.set 7 (.ite (.b (.bin .lss) (.var 1) (.lit (.int .i64 0))) (.lit (.bool true)) (.b (.bin .geq) (.var 1) (.u .len (.var 0))))
 (.ite (.var 7)
 (.set 2 (.lit (.int .i64 0))
 (.set 3 (.lit (.int .i64 1))
 .ret))
 (.set 8 (.b (.bin .eql) (.var 4) (.lit (.int .i64 0)))
 (.ite (.var 8)
 (.set 2 (.lit (.int .i64 0))
 (.set 3 (.lit (.int .i64 10))
 .ret))
 .nxt)))))))
 (.set 2 (.b (.bin .quo) (.b (.bin .mul) (.u .ld1 (.b (.idx 1) (.var 0) (.var 1))) (.lit (.int .i64 1000))) (.var 4))
 (.set 3 (.lit (.int .i64 0))
 .ret))))))))))
def f_material_Purity : Fun:=⟨s_material_Purity,[(.var 2),(.var 3)]⟩
abbrev v_material_Purity : List Nat:=[0,1,4,5,6,7,13,17,26,10]
theorem vr_material_Purity : VRof P n_material_Purity s_material_Purity f_material_Purity v_material_Purity 36:=vo Try.func58 (by kernel_rfl) Try.ntmps58 rfl
theorem r_material_Purity : Fun.res f_material_Purity=[(.var 2),(.var 3)]:=rfl
abbrev n_material_Total : Nat:=59
def s_material_Total : S :=
 (.set 1 (.lit (.int .i64 0))
 (.set 2 (.lit (.int .i64 0))
 (.eff false (some 10) (.lit 29 1 1 [(.slice none 0 0)] (.pl 0 1 (.var 0) .nl))
 (.call false (some 11) 76 (.cn (.var 10) .nl)
 (.set 3 (.var 11)
 (.seq
 (.ite (.b (.bin .neq) (.var 3) (.lit (.int .i64 0)))
 (.set 1 (.lit (.int .i64 0))
 (.set 2 (.var 3)
 .ret))
 .nxt)
 (.set 4 (.lit (.int .i64 0))
 (.set 8 (.var 0)
 (.set 6 (.u .len (.var 8))
 (.set 5 (.lit (.int .i64 0))
 (.seq
 (.blk 0
 (.loop
 (.set 7 (.b (.bin .lss) (.var 5) (.var 6))
 (.seq
 (.ite (.var 7)
 .nxt
 (.exit 0))
 (.seq
 (.blk 1
 (.set 9 (.u .ld1 (.b (.idx 1) (.var 8) (.var 5)))
 (.set 4 (.b (.bin .add) (.var 4) (.var 9))
 .nxt)))
 (.set 5 (.b (.bin .add) (.var 5) (.lit (.int .i64 1)))
 .nxt))))))
 (.set 1 (.var 4)
 (.set 2 (.lit (.int .i64 0))
 .ret)))))))))))))
def f_material_Total : Fun:=⟨s_material_Total,[(.var 1),(.var 2)]⟩
abbrev v_material_Total : List Nat:=[0,2,3,4,5,16,15,17,14,7,9,10]
theorem vr_material_Total : VRof P n_material_Total s_material_Total f_material_Total v_material_Total 25:=vo Try.func59 (by kernel_rfl) Try.ntmps59 rfl
theorem r_material_Total : Fun.res f_material_Total=[(.var 1),(.var 2)]:=rfl
abbrev g_material_Total_0 : List Nat:=[4,5,7,9]
abbrev n_layout_belt : Nat:=60
def s_layout_belt : S :=
 (.eff false (some 3) (.box 25 (.var 0))
 (.eff false (some 4) (.box 62 (.var 1))
 (.set 2 (.lit (.int .i64 0))
 (.seq
 (.blk 0
 (.call false (some 7) 40 (.cn (.u (.lda 4) (.var 3)) (.cn (.u .ld1 (.u (.fld 0) (.var 4))) .nl))
 (.set 8 (.ite (.ite (.u (.un .not) (.var 7)) (.lit (.bool true)) (.b (.bin .lss) (.u .ld1 (.u (.fld 1) (.var 4))) (.lit (.int .i64 0)))) (.lit undef) (.u .ld1 (.u (.fld 1) (.var 4))))
 (.chk (.ite (.ite (.u (.un .not) (.var 7)) (.lit (.bool true)) (.b (.bin .lss) (.u .ld1 (.u (.fld 1) (.var 4))) (.lit (.int .i64 0)))) (.lit undef) (.u (.lda 1) (.b (.idx 1) (.u .ld1 (.u (.fld 1) (.var 3))) (.u .ld1 (.u (.fld 0) (.var 4))))))
 (.seq
 (.ite (.ite (.u (.un .not) (.var 7)) (.lit (.bool true)) (.b (.bin .lss) (.u .ld1 (.u (.fld 1) (.var 4))) (.lit (.int .i64 0))))
 (.set 9 (.lit undef)
 (.set 10 (.lit undef)
 (.set 5 (.lit (.bool true))
 .nxt)))
 (.call true (some 9) 42 (.cn (.u (.lda 1) (.b (.idx 1) (.u .ld1 (.u (.fld 1) (.var 3))) (.u .ld1 (.u (.fld 0) (.var 4))))) .nl)
 (.chk (.ite (.b (.bin .geq) (.var 8) (.var 9)) (.lit undef) (.u (.lda 4) (.var 3)))
 (.chk (.ite (.b (.bin .geq) (.var 8) (.var 9)) (.lit undef) (.u .ld1 (.u (.fld 2) (.var 4))))
 (.ite (.b (.bin .geq) (.var 8) (.var 9))
 (.set 10 (.lit undef)
 (.set 5 (.lit (.bool true))
 .nxt))
 (.call false (some 10) 40 (.cn (.u (.lda 4) (.var 3)) (.cn (.u .ld1 (.u (.fld 2) (.var 4))) .nl))
 (.set 5 (.u (.un .not) (.var 10))
 .nxt)))))))
 (.ite (.var 5)
 (.set 2 (.lit (.int .i64 7))
 .ret)
 (.set 6 (.ite (.b (.bin .lss) (.u .ld1 (.u (.fld 3) (.var 4))) (.lit (.int .i64 1))) (.lit (.bool true)) (.b (.bin .gtr) (.u .ld1 (.u (.fld 3) (.var 4))) (.lit (.int .i64 16))))
 (.ite (.var 6)
 (.set 2 (.lit (.int .i64 1))
 .ret)
 .nxt))))))))
 (.set 2 (.lit (.int .i64 0))
 .ret)))))
def f_layout_belt : Fun:=⟨s_layout_belt,[(.var 2)]⟩
abbrev v_layout_belt : List Nat:=[0,1,4,2,3,5,35,9,18,25,32]
theorem vr_layout_belt : VRof P n_layout_belt s_layout_belt f_layout_belt v_layout_belt 44:=vo Try.func60 (by kernel_rfl) Try.ntmps60 rfl
theorem r_layout_belt : Fun.res f_layout_belt=[(.var 2)]:=rfl
abbrev n_layout_find : Nat:=61
def s_layout_find : S :=
 (.eff false (some 4) (.box 25 (.var 0))
 (.eff false (some 5) (.box 3 (.var 1))
 (.eff false (some 6) (.box 3 (.var 2))
 (.set 3 (.lit (.int .i64 0))
 (.chk (.u .ld1 (.u (.fld 2) (.var 4)))
 (.chk (.fn 78 (.cn (.var 5) (.cn (.var 6) .nl)))
 (.call false (some 7) 77 (.cn (.u .ld1 (.u (.fld 2) (.var 4))) (.cn (.fn 78 (.cn (.var 5) (.cn (.var 6) .nl))) .nl))
 (.set 3 (.var 7)
 .ret))))))))
def f_layout_find : Fun:=⟨s_layout_find,[(.var 3)]⟩
abbrev v_layout_find : List Nat:=[0,1,2,6,3,4,5,10]
theorem vr_layout_find : VRof P n_layout_find s_layout_find f_layout_find v_layout_find 11:=vo Try.func61 (by kernel_rfl) Try.ntmps61 rfl
theorem r_layout_find : Fun.res f_layout_find=[(.var 3)]:=rfl
abbrev n_layout_Drains : Nat:=65
def s_layout_Drains : S :=
 (.eff false (some 3) (.box 25 (.var 0))
 (.set 1 (.lit (.bool false))
 (.set 2 (.lit (.int .i64 0))
 (.call false (some 15) 21 (.cn (.u (.lda 4) (.var 3)) .nl)
 (.set 4 (.var 15)
 (.seq
 (.ite (.b (.bin .neq) (.var 4) (.lit (.int .i64 0)))
 (.set 1 (.lit (.bool false))
 (.set 2 (.var 4)
 .ret))
 .nxt)
 (.set 6 (.u .len (.u .ld1 (.u (.fld 1) (.var 3))))
 (.set 5 (.lit (.int .i64 0))
 (.seq
 (.blk 0
 (.loop
 (.set 7 (.b (.bin .lss) (.var 5) (.var 6))
 (.seq
 (.ite (.var 7)
 .nxt
 (.exit 0))
 (.seq
 (.blk 1
 (.set 8 (.var 5)
 (.set 10 (.u .ld1 (.u (.fld 0) (.var 3)))
 (.set 9 (.lit (.int .i64 0))
 (.blk 2
 (.loop
 (.set 11 (.b (.bin .lss) (.var 9) (.var 10))
 (.seq
 (.ite (.var 11)
 .nxt
 (.exit 2))
 (.seq
 (.blk 3
 (.set 12 (.var 9)
 (.call false (some 16) 79 (.cn (.u (.lda 4) (.var 3)) (.cn (.var 8) (.cn (.var 12) .nl)))
 (.chk (.u (.ext 0) (.var 16))
 (.chk (.u (.ext 1) (.var 16))
 (.set 13 (.u (.ext 0) (.var 16))
 (.set 14 (.u (.ext 1) (.var 16))
 (.ite (.u (.un .not) (.var 14))
 (.set 1 (.lit (.bool false))
 (.set 2 (.lit (.int .i64 0))
 .ret))
 .nxt))))))))
 (.set 9 (.b (.bin .add) (.var 9) (.lit (.int .i64 1)))
 .nxt))))))))))
 (.set 5 (.b (.bin .add) (.var 5) (.lit (.int .i64 1)))
 .nxt))))))
 (.set 1 (.lit (.bool true))
 (.set 2 (.lit (.int .i64 0))
 .ret)))))))))))
def f_layout_Drains : Fun:=⟨s_layout_Drains,[(.var 1),(.var 2)]⟩
abbrev v_layout_Drains : List Nat:=[0,2,3,1,4,17,16,18,5,22,21,23,6,7,8,10,29]
theorem vr_layout_Drains : VRof P n_layout_Drains s_layout_Drains f_layout_Drains v_layout_Drains 36:=vo Try.func65 (by kernel_rfl) Try.ntmps65 rfl
theorem r_layout_Drains : Fun.res f_layout_Drains=[(.var 1),(.var 2)]:=rfl
abbrev g_layout_Drains_0 : List Nat:=[1,2,5,7,8,9,10,11,12,13,14,16]
abbrev g_layout_Drains_1 : List Nat:=[1,2,9,11,12,13,14,16]
abbrev n_slices_Cloneint_int : Nat:=66
def s_slices_Cloneint_int : S :=
 (.set 1 (.lit (.slice none 0 0))
 (.seq
 (.ite (.b (.eqs false) (.var 0) (.lit (.slice none 0 0)))
 (.set 1 (.lit (.slice none 0 0))
 .ret)
 .nxt)
 (.eff false (some 2) (.lit 3 1 0 [(.int .i64 0)] .nl)
 (.eff false (some 3) (.app 3 1 8 [(.int .i64 0)] (.var 2) (.var 0))
 (.set 1 (.var 3)
 .ret)))))
def f_slices_Cloneint_int : Fun:=⟨s_slices_Cloneint_int,[(.var 1)]⟩
abbrev v_slices_Cloneint_int : List Nat:=[0,2,5,7]
theorem vr_slices_Cloneint_int : VRof P n_slices_Cloneint_int s_slices_Cloneint_int f_slices_Cloneint_int v_slices_Cloneint_int 8:=vo Try.func66 (by kernel_rfl) Try.ntmps66 rfl
theorem r_slices_Cloneint_int : Fun.res f_slices_Cloneint_int=[(.var 1)]:=rfl
abbrev n_slices_Cloneapi_Belt_api_Belt : Nat:=67
def s_slices_Cloneapi_Belt_api_Belt : S :=
 (.set 1 (.lit (.slice none 0 0))
 (.seq
 (.ite (.b (.eqs false) (.var 0) (.lit (.slice none 0 0)))
 (.set 1 (.lit (.slice none 0 0))
 .ret)
 .nxt)
 (.eff false (some 2) (.lit 62 4 0 [(.int .i64 0),(.int .i64 0),(.int .i64 0),(.int .i64 0)] .nl)
 (.eff false (some 3) (.app 62 4 32 [(.int .i64 0),(.int .i64 0),(.int .i64 0),(.int .i64 0)] (.var 2) (.var 0))
 (.set 1 (.var 3)
 .ret)))))
def f_slices_Cloneapi_Belt_api_Belt : Fun:=⟨s_slices_Cloneapi_Belt_api_Belt,[(.var 1)]⟩
abbrev v_slices_Cloneapi_Belt_api_Belt : List Nat:=[0,2,5,7]
theorem vr_slices_Cloneapi_Belt_api_Belt : VRof P n_slices_Cloneapi_Belt_api_Belt s_slices_Cloneapi_Belt_api_Belt f_slices_Cloneapi_Belt_api_Belt v_slices_Cloneapi_Belt_api_Belt 8:=vo Try.func67 (by kernel_rfl) Try.ntmps67 rfl
theorem r_slices_Cloneapi_Belt_api_Belt : Fun.res f_slices_Cloneapi_Belt_api_Belt=[(.var 1)]:=rfl
abbrev n_belt_Belt_empty : Nat:=68
def s_belt_Belt_empty : S :=
 (.call false (some 6) 80 (.cn (.var 0) .nl)
 (.set 1 (.var 6)
 (.set 3 (.u .len (.var 1))
 (.set 2 (.lit (.int .i64 0))
 (.blk 0
 (.loop
 (.set 4 (.b (.bin .lss) (.var 2) (.var 3))
 (.seq
 (.ite (.var 4)
 .nxt
 (.exit 0))
 (.seq
 (.blk 1
 (.set 5 (.var 2)
 (.eff false (some 7) (.mk 3 1 8 [(.int .i64 0)] (.u .ld1 (.u (.fld 17) (.u .nilc (.var 0)))) (.u .ld1 (.u (.fld 17) (.u .nilc (.var 0)))))
 (.eff false none (.st 1 (.b (.idx 1) (.var 1) (.var 5)) (.var 7))
 .nxt))))
 (.set 2 (.b (.bin .add) (.var 2) (.lit (.int .i64 1)))
 .nxt))))))))))
def f_belt_Belt_empty : Fun:=⟨s_belt_Belt_empty,[]⟩
abbrev v_belt_Belt_empty : List Nat:=[0,2,8,7,9,3,5,17]
theorem vr_belt_Belt_empty : VRof P n_belt_Belt_empty s_belt_Belt_empty f_belt_Belt_empty v_belt_Belt_empty 20:=vo Try.func68 (by kernel_rfl) Try.ntmps68 rfl
theorem r_belt_Belt_empty : Fun.res f_belt_Belt_empty=[]:=rfl
abbrev g_belt_Belt_empty_0 : List Nat:=[2,4,5,7]
abbrev n_material_Valid : Nat:=69
def s_material_Valid : S :=
 (.set 2 (.lit (.bool false))
 (.chk (.ite (.b (.bin .eql) (.u .len (.var 0)) (.var 1)) (.var 0) (.lit undef))
 (.seq
 (.ite (.b (.bin .eql) (.u .len (.var 0)) (.var 1))
 (.eff false (some 3) (.lit 29 1 1 [(.slice none 0 0)] (.pl 0 1 (.var 0) .nl))
 (.call false (some 4) 76 (.cn (.var 3) .nl)
 (.set 2 (.b (.bin .eql) (.var 4) (.lit (.int .i64 0)))
 .nxt)))
 (.set 3 (.lit undef)
 (.set 4 (.lit undef)
 (.set 2 (.lit (.bool false))
 .nxt))))
 .ret)))
def f_material_Valid : Fun:=⟨s_material_Valid,[(.var 2)]⟩
abbrev v_material_Valid : List Nat:=[0,1,4,11,12]
theorem vr_material_Valid : VRof P n_material_Valid s_material_Valid f_material_Valid v_material_Valid 15:=vo Try.func69 (by kernel_rfl) Try.ntmps69 rfl
theorem r_material_Valid : Fun.res f_material_Valid=[(.var 2)]:=rfl
abbrev n_plant_state_bin : Nat:=70
def s_plant_state_bin : S :=
 (.set 2 (.lit (.bool false))
 (.call false (some 3) 42 (.cn (.u (.lda 1) (.b (.idx 1) (.u .ld1 (.u (.fld 1) (.u (.fld 0) (.u .nilc (.var 0))))) (.var 1))) .nl)
 (.set 2 (.b (.bin .eql) (.var 3) (.lit (.int .i64 0)))
 .ret)))
def f_plant_state_bin : Fun:=⟨s_plant_state_bin,[(.var 2)]⟩
abbrev v_plant_state_bin : List Nat:=[0,1,4,13]
theorem vr_plant_state_bin : VRof P n_plant_state_bin s_plant_state_bin f_plant_state_bin v_plant_state_bin 15:=vo Try.func70 (by kernel_rfl) Try.ntmps70 rfl
theorem r_plant_state_bin : Fun.res f_plant_state_bin=[(.var 2)]:=rfl
abbrev n_belt_Belt_Total : Nat:=71
def s_belt_Belt_Total : S :=
 (.set 1 (.lit (.slice none 0 0))
 (.seq
 (.ite (.b (.eqp false) (.var 0) (.lit (.pointer none)))
 (.set 1 (.lit (.slice none 0 0))
 .ret)
 .nxt)
 (.eff false (some 14) (.mk 3 1 8 [(.int .i64 0)] (.u .ld1 (.u (.fld 17) (.u .nilc (.var 0)))) (.u .ld1 (.u (.fld 17) (.u .nilc (.var 0)))))
 (.set 2 (.var 14)
 (.call false (some 6) 80 (.cn (.var 0) .nl)
 (.set 4 (.u .len (.var 6))
 (.set 3 (.lit (.int .i64 0))
 (.seq
 (.blk 0
 (.loop
 (.set 5 (.b (.bin .lss) (.var 3) (.var 4))
 (.seq
 (.ite (.var 5)
 .nxt
 (.exit 0))
 (.seq
 (.blk 1
 (.set 7 (.u .ld1 (.b (.idx 1) (.var 6) (.var 3)))
 (.set 11 (.var 7)
 (.set 9 (.u .len (.var 11))
 (.set 8 (.lit (.int .i64 0))
 (.blk 2
 (.loop
 (.set 10 (.b (.bin .lss) (.var 8) (.var 9))
 (.seq
 (.ite (.var 10)
 .nxt
 (.exit 2))
 (.seq
 (.blk 3
 (.chk (.u .ld1 (.b (.idx 1) (.var 11) (.var 8)))
 (.set 12 (.var 8)
 (.set 13 (.u .ld1 (.b (.idx 1) (.var 11) (.var 8)))
 (.eff false none (.st 1 (.b (.idx 1) (.var 2) (.var 12)) (.b (.bin .add) (.u .ld1 (.b (.idx 1) (.var 2) (.var 12))) (.var 13)))
 .nxt)))))
 (.set 8 (.b (.bin .add) (.var 8) (.lit (.int .i64 1)))
 .nxt)))))))))))
 (.set 3 (.b (.bin .add) (.var 3) (.lit (.int .i64 1)))
 .nxt))))))
 (.set 1 (.var 2)
 .ret)))))))))
def f_belt_Belt_Total : Fun:=⟨s_belt_Belt_Total,[(.var 1)]⟩
abbrev v_belt_Belt_Total : List Nat:=[0,2,3,18,17,19,16,5,24,23,25,22,6,7,14]
theorem vr_belt_Belt_Total : VRof P n_belt_Belt_Total s_belt_Belt_Total f_belt_Belt_Total v_belt_Belt_Total 39:=vo Try.func71 (by kernel_rfl) Try.ntmps71 rfl
theorem r_belt_Belt_Total : Fun.res f_belt_Belt_Total=[(.var 1)]:=rfl
abbrev g_belt_Belt_Total_0 : List Nat:=[3,5,7,8,9,10,11,12,13]
abbrev g_belt_Belt_Total_1 : List Nat:=[8,10,12,13]
abbrev n_slices_Cloneapi_Mix_api_Mix : Nat:=72
def s_slices_Cloneapi_Mix_api_Mix : S :=
 (.set 1 (.lit (.slice none 0 0))
 (.seq
 (.ite (.b (.eqs false) (.var 0) (.lit (.slice none 0 0)))
 (.set 1 (.lit (.slice none 0 0))
 .ret)
 .nxt)
 (.eff false (some 2) (.lit 29 1 0 [(.slice none 0 0)] .nl)
 (.eff false (some 3) (.app 29 1 24 [(.slice none 0 0)] (.var 2) (.var 0))
 (.set 1 (.var 3)
 .ret)))))
def f_slices_Cloneapi_Mix_api_Mix : Fun:=⟨s_slices_Cloneapi_Mix_api_Mix,[(.var 1)]⟩
abbrev v_slices_Cloneapi_Mix_api_Mix : List Nat:=[0,2,5,7]
theorem vr_slices_Cloneapi_Mix_api_Mix : VRof P n_slices_Cloneapi_Mix_api_Mix s_slices_Cloneapi_Mix_api_Mix f_slices_Cloneapi_Mix_api_Mix v_slices_Cloneapi_Mix_api_Mix 8:=vo Try.func72 (by kernel_rfl) Try.ntmps72 rfl
theorem r_slices_Cloneapi_Mix_api_Mix : Fun.res f_slices_Cloneapi_Mix_api_Mix=[(.var 1)]:=rfl
abbrev v_plant_state_step_1 : List Nat:=[0,1,2]
abbrev n_plant_state_move : Nat:=74
def s_plant_state_move : S :=
 (.set 2 (.lit (.slice none 0 0))
 (.set 3 (.lit (.int .i64 0))
 (.set 4 (.b (.idx 2) (.u .ld1 (.u (.fld 5) (.u .nilc (.var 0)))) (.var 1))
 (.set 5 (.u .ld1 (.u (.fld 0) (.u .nilc (.var 4))))
 (.call false (some 6) 49 (.cn (.var 0) .nl)
 (.eff false none (.st 1 (.u (.fld 0) (.u .nilc (.var 4))) (.var 6))
 (.seq
 (.ite (.b (.eqp false) (.u .ld1 (.u (.fld 1) (.u .nilc (.var 4)))) (.lit (.pointer none)))
 (.set 2 (.var 5)
 (.set 3 (.lit (.int .i64 0))
 .ret))
 .nxt)
 (.call false (some 7) 81 (.cn (.u .ld1 (.u (.fld 1) (.u .nilc (.var 4)))) (.cn (.var 5) .nl))
 (.chk (.u (.ext 0) (.var 7))
 (.chk (.u (.ext 1) (.var 7))
 (.set 2 (.u (.ext 0) (.var 7))
 (.set 3 (.u (.ext 1) (.var 7))
 .ret))))))))))))
def f_plant_state_move : Fun:=⟨s_plant_state_move,[(.var 2),(.var 3)]⟩
abbrev v_plant_state_move : List Nat:=[0,1,4,5,6,7,20,34]
theorem vr_plant_state_move : VRof P n_plant_state_move s_plant_state_move f_plant_state_move v_plant_state_move 37:=vo Try.func74 (by kernel_rfl) Try.ntmps74 rfl
theorem r_plant_state_move : Fun.res f_plant_state_move=[(.var 2),(.var 3)]:=rfl
abbrev n_plant_state_distribute : Nat:=75
def s_plant_state_distribute : S :=
 (.set 2 (.lit (.int .i64 0))
 (.call false (some 13) 82 (.cn (.u (.lda 1) (.b (.idx 1) (.u .ld1 (.u (.fld 1) (.u (.fld 0) (.u .nilc (.var 0))))) (.var 1))) (.cn (.u .ld1 (.b (.idx 1) (.u .ld1 (.u (.fld 4) (.u .nilc (.var 0)))) (.var 1))) .nl))
 (.chk (.u (.ext 0) (.var 13))
 (.chk (.u (.ext 1) (.var 13))
 (.set 3 (.u (.ext 0) (.var 13))
 (.set 4 (.u (.ext 1) (.var 13))
 (.seq
 (.ite (.b (.bin .neq) (.var 4) (.lit (.int .i64 0)))
 (.set 2 (.var 4)
 .ret)
 .nxt)
 (.set 8 (.var 3)
 (.set 6 (.u .len (.var 8))
 (.set 5 (.lit (.int .i64 0))
 (.seq
 (.blk 0
 (.loop
 (.set 7 (.b (.bin .lss) (.var 5) (.var 6))
 (.seq
 (.ite (.var 7)
 .nxt
 (.exit 0))
 (.seq
 (.blk 1
 (.chk (.u .ld1 (.b (.idx 1) (.var 8) (.var 5)))
 (.set 9 (.var 5)
 (.set 10 (.u .ld1 (.b (.idx 1) (.var 8) (.var 5)))
 (.call false (some 14) 83 (.cn (.u (.lda 4) (.u (.fld 0) (.u .nilc (.var 0)))) (.cn (.var 1) (.cn (.var 9) .nl)))
 (.chk (.u (.ext 0) (.var 14))
 (.chk (.u (.ext 1) (.var 14))
 (.set 11 (.u (.ext 0) (.var 14))
 (.set 12 (.u (.ext 1) (.var 14))
 (.seq
 (.ite (.b (.bin .neq) (.var 12) (.lit (.int .i64 0)))
 (.set 2 (.var 12)
 .ret)
 .nxt)
 (.call false none 52 (.cn (.u .ld1 (.u (.fld 0) (.b (.idx 2) (.u .ld1 (.u (.fld 5) (.u .nilc (.var 0)))) (.var 11)))) (.cn (.var 10) .nl))
 .nxt)))))))))))
 (.set 5 (.b (.bin .add) (.var 5) (.lit (.int .i64 1)))
 .nxt))))))
 (.set 15 (.u .ld1 (.u (.fld 4) (.u .nilc (.var 0))))
 (.call true (some 16) 49 (.cn (.var 0) .nl)
 (.eff false none (.st 1 (.b (.idx 1) (.var 15) (.var 1)) (.var 16))
 (.set 2 (.lit (.int .i64 0))
 .ret)))))))))))))))
def f_plant_state_distribute : Fun:=⟨s_plant_state_distribute,[(.var 2)]⟩
abbrev v_plant_state_distribute : List Nat:=[0,1,4,5,6,35,34,36,33,7,8,9,10,27,47,67,70]
theorem vr_plant_state_distribute : VRof P n_plant_state_distribute s_plant_state_distribute f_plant_state_distribute v_plant_state_distribute 72:=vo Try.func75 (by kernel_rfl) Try.ntmps75 rfl
theorem r_plant_state_distribute : Fun.res f_plant_state_distribute=[(.var 2)]:=rfl
abbrev g_plant_state_distribute_0 : List Nat:=[2,5,7,9,10,11,12,14]
abbrev n_material_check : Nat:=76
def s_material_check : S :=
 (.set 1 (.lit (.int .i64 0))
 (.set 5 (.var 0)
 (.set 3 (.u .len (.var 5))
 (.set 2 (.lit (.int .i64 0))
 (.seq
 (.blk 0
 (.loop
 (.set 4 (.b (.bin .lss) (.var 2) (.var 3))
 (.seq
 (.ite (.var 4)
 .nxt
 (.exit 0))
 (.seq
 (.blk 1
 (.set 6 (.u .ld1 (.b (.idx 1) (.var 5) (.var 2)))
 (.seq
 (.ite (.b (.bin .gtr) (.u .len (.var 6)) (.lit (.int .i64 16)))
 (.set 1 (.lit (.int .i64 18))
 .ret)
 .nxt)
 (.call false (some 7) 84 (.cn (.var 6) (.cn (.lit (.func (.func 85) #[] #[])) .nl))
 (.ite (.var 7)
 (.set 1 (.lit (.int .i64 1))
 .ret)
 .nxt)))))
 (.set 2 (.b (.bin .add) (.var 2) (.lit (.int .i64 1)))
 .nxt))))))
 (.set 1 (.lit (.int .i64 0))
 .ret))))))
def f_material_check : Fun:=⟨s_material_check,[(.var 1)]⟩
abbrev v_material_check : List Nat:=[0,2,7,6,8,5,4,15]
theorem vr_material_check : VRof P n_material_check s_material_check f_material_check v_material_check 17:=vo Try.func76 (by kernel_rfl) Try.ntmps76 rfl
theorem r_material_check : Fun.res f_material_check=[(.var 1)]:=rfl
abbrev g_material_check_0 : List Nat:=[1,2,4,6,7]
abbrev n_slices_IndexFuncapi_Belt_api_Belt : Nat:=77
def s_slices_IndexFuncapi_Belt_api_Belt : S :=
 (.set 2 (.lit (.int .i64 0))
 (.set 4 (.u .len (.var 0))
 (.set 3 (.lit (.int .i64 0))
 (.seq
 (.blk 0
 (.loop
 (.set 5 (.b (.bin .lss) (.var 3) (.var 4))
 (.seq
 (.ite (.var 5)
 .nxt
 (.exit 0))
 (.seq
 (.blk 1
 (.set 6 (.var 3)
 (.callv false (some 7) (.var 1) (.cn (.u (.lda 4) (.b (.idx 4) (.var 0) (.var 6))) .nl)
 (.ite (.var 7)
 (.set 2 (.var 6)
 .ret)
 .nxt))))
 (.set 3 (.b (.bin .add) (.var 3) (.lit (.int .i64 1)))
 .nxt))))))
 (.set 2 (.lit (.int .i64 (-1)))
 .ret)))))
def f_slices_IndexFuncapi_Belt_api_Belt : Fun:=⟨s_slices_IndexFuncapi_Belt_api_Belt,[(.var 2)]⟩
abbrev v_slices_IndexFuncapi_Belt_api_Belt : List Nat:=[0,1,4,8,7,9,5,16]
theorem vr_slices_IndexFuncapi_Belt_api_Belt : VRof P n_slices_IndexFuncapi_Belt_api_Belt s_slices_IndexFuncapi_Belt_api_Belt f_slices_IndexFuncapi_Belt_api_Belt v_slices_IndexFuncapi_Belt_api_Belt 19:=vo Try.func77 (by kernel_rfl) Try.ntmps77 rfl
theorem r_slices_IndexFuncapi_Belt_api_Belt : Fun.res f_slices_IndexFuncapi_Belt_api_Belt=[(.var 2)]:=rfl
abbrev g_slices_IndexFuncapi_Belt_api_Belt_0 : List Nat:=[2,3,5,6,7]
abbrev n_layout_find_1 : Nat:=78
def s_layout_find_1 : S :=
 (.eff false (some 4) (.box 62 (.var 0))
 (.set 3 (.lit (.bool false))
 (.set 3 (.ite (.b (.bin .eql) (.u .ld1 (.u (.fld 0) (.var 4))) (.u .ld1 (.var 1))) (.b (.bin .eql) (.u .ld1 (.u (.fld 1) (.var 4))) (.u .ld1 (.var 2))) (.lit (.bool false)))
 .ret)))
def f_layout_find_1 : Fun:=⟨s_layout_find_1,[(.var 3)]⟩
abbrev v_layout_find_1 : List Nat:=[0,1,2,4,3]
theorem vr_layout_find_1 : VRof P n_layout_find_1 s_layout_find_1 f_layout_find_1 v_layout_find_1 15:=vo Try.func78 (by kernel_rfl) Try.ntmps78 rfl
theorem r_layout_find_1 : Fun.res f_layout_find_1=[(.var 3)]:=rfl
abbrev n_layout_way : Nat:=79
def s_layout_way : S :=
 (.eff false (some 7) (.box 25 (.var 0))
 (.set 3 (.lit (.int .i64 0))
 (.set 4 (.lit (.bool false))
 (.eff false (some 8) (.alloc 106 (List.replicate 24 (.bool false)))
 (.set 5 (.var 1)
 (.set 6 (.lit (.int .i64 0))
 (.seq
 (.blk 0
 (.loop
 (.call false (some 10) 41 (.cn (.u (.lda 4) (.var 7)) (.cn (.var 5) .nl))
 (.seq
 (.ite (.u (.un .not) (.var 10))
 .nxt
 (.exit 0))
 (.blk 1
 (.seq
 (.ite (.u .ld1 (.b (.idxa 24 1) (.var 8) (.var 5)))
 (.exit 0)
 .nxt)
 (.eff false none (.st 1 (.b (.idxa 24 1) (.var 8) (.var 5)) (.lit (.bool true)))
 (.seq
 (.both
 (.set 14 (.u .ld1 (.u (.fld 2) (.var 7)))
 (.set 11 (.u (.lda 4) (.var 7))
 (.chk (.u (.lda 1) (.b (.idx 1) (.u .ld1 (.u (.fld 1) (.var 7))) (.var 5)))
 (.chk (.var 2)
 (.eff false (some 9) (.alloc 62 [(.int .i64 0),(.int .i64 0),(.int .i64 0),(.int .i64 0)])
 (.call true (some 12) 86 (.cn (.u (.lda 1) (.b (.idx 1) (.u .ld1 (.u (.fld 1) (.var 7))) (.var 5))) (.cn (.var 2) .nl))
 (.call true (some 15) 61 (.cn (.var 11) (.cn (.var 5) (.cn (.var 12) .nl)))
 (.eff false none (.st 4 (.var 9) (.u (.lda 4) (.b (.idx 4) (.var 14) (.var 15))))
 .nxt))))))))
 (.both
 (.set 14 (.u .ld1 (.u (.fld 2) (.var 7)))
 (.set 11 (.u (.lda 4) (.var 7))
 (.call true (some 12) 86 (.cn (.u (.lda 1) (.b (.idx 1) (.u .ld1 (.u (.fld 1) (.var 7))) (.var 5))) (.cn (.var 2) .nl))
 (.eff false (some 9) (.alloc 62 [(.int .i64 0),(.int .i64 0),(.int .i64 0),(.int .i64 0)])
 (.call true (some 15) 61 (.cn (.var 11) (.cn (.var 5) (.cn (.var 12) .nl)))
 (.eff false none (.st 4 (.var 9) (.u (.lda 4) (.b (.idx 4) (.var 14) (.var 15))))
 .nxt))))))
 (.set 14 (.u .ld1 (.u (.fld 2) (.var 7)))
 (.set 11 (.u (.lda 4) (.var 7))
 (.call true (some 12) 86 (.cn (.u (.lda 1) (.b (.idx 1) (.u .ld1 (.u (.fld 1) (.var 7))) (.var 5))) (.cn (.var 2) .nl))
 (.call true (some 15) 61 (.cn (.var 11) (.cn (.var 5) (.cn (.var 12) .nl)))
 (.chk (.u (.lda 4) (.b (.idx 4) (.var 14) (.var 15)))
 (.eff false (some 9) (.alloc 62 [(.int .i64 0),(.int .i64 0),(.int .i64 0),(.int .i64 0)])
 (.eff false none (.st 4 (.var 9) (.u (.lda 4) (.b (.idx 4) (.var 14) (.var 15))))
 .nxt)))))))))
 (.set 5 (.u .ld1 (.u (.fld 2) (.var 9)))
 (.set 6 (.b (.bin .add) (.var 6) (.u .ld1 (.u (.fld 3) (.var 9))))
 .nxt))))))))))
 (.call false (some 13) 41 (.cn (.u (.lda 4) (.var 7)) (.cn (.var 5) .nl))
 (.seq
 (.ite (.u (.un .not) (.var 13))
 (.set 3 (.lit (.int .i64 0))
 (.set 4 (.lit (.bool false))
 .ret))
 .nxt)
 (.set 3 (.var 6)
 (.set 4 (.lit (.bool true))
 .ret)))))))))))
def f_layout_way : Fun:=⟨s_layout_way,[(.var 3),(.var 4)]⟩
abbrev v_layout_way : List Nat:=[0,1,2,6,7,9,10,3,8,11,15,24,32,44,23,33]
theorem vr_layout_way : VRof P n_layout_way s_layout_way f_layout_way v_layout_way 47:=vo Try.func79 (by kernel_rfl) Try.ntmps79 rfl
theorem r_layout_way : Fun.res f_layout_way=[(.var 3),(.var 4)]:=rfl
abbrev g_layout_way_0 : List Nat:=[5,6,9,10,11,12,14,15]
abbrev n_belt_Belt_slots : Nat:=80
def s_belt_Belt_slots : S :=
 (.set 1 (.lit (.slice none 0 0))
 (.chk (.slc (some 16) 1 (.u (.fld 0) (.u .nilc (.var 0))) (.lit (.int .i64 0)) (.u .ld1 (.u (.fld 16) (.u .nilc (.var 0)))) (.u .ld1 (.u (.fld 16) (.u .nilc (.var 0)))))
 (.set 1 (.slc (some 16) 1 (.u (.fld 0) (.u .nilc (.var 0))) (.lit (.int .i64 0)) (.u .ld1 (.u (.fld 16) (.u .nilc (.var 0)))) (.u .ld1 (.u (.fld 16) (.u .nilc (.var 0)))))
 .ret)))
def f_belt_Belt_slots : Fun:=⟨s_belt_Belt_slots,[(.var 1)]⟩
abbrev v_belt_Belt_slots : List Nat:=[0,2]
theorem vr_belt_Belt_slots : VRof P n_belt_Belt_slots s_belt_Belt_slots f_belt_Belt_slots v_belt_Belt_slots 15:=vo Try.func80 (by kernel_rfl) Try.ntmps80 rfl
theorem r_belt_Belt_slots : Fun.res f_belt_Belt_slots=[(.var 1)]:=rfl
abbrev n_belt_Belt_Step : Nat:=81
def s_belt_Belt_Step : S :=
 (.set 2 (.lit (.slice none 0 0))
 (.set 3 (.lit (.int .i64 0))
 (.seq
 (.ite (.b (.eqp false) (.var 0) (.lit (.pointer none)))
 (.set 2 (.lit (.slice none 0 0))
 (.set 3 (.lit (.int .i64 14))
 .ret))
 .nxt)
 (.call false (some 6) 69 (.cn (.var 1) (.cn (.u .ld1 (.u (.fld 17) (.u .nilc (.var 0)))) .nl))
 (.seq
 (.ite (.u (.un .not) (.var 6))
 (.set 2 (.lit (.slice none 0 0))
 (.set 3 (.lit (.int .i64 18))
 .ret))
 .nxt)
 (.call false (some 7) 80 (.cn (.var 0) .nl)
 (.set 4 (.var 7)
 (.eff false none (.st 1 (.u (.fld 18) (.u .nilc (.var 0))) (.b (.bin .rem) (.b (.bin .sub) (.b (.bin .add) (.u .ld1 (.u (.fld 18) (.u .nilc (.var 0)))) (.u .ld1 (.u (.fld 16) (.u .nilc (.var 0))))) (.lit (.int .i64 1))) (.u .ld1 (.u (.fld 16) (.u .nilc (.var 0))))))
 (.set 5 (.u .ld1 (.b (.idx 1) (.var 4) (.u .ld1 (.u (.fld 18) (.u .nilc (.var 0))))))
 (.seq
 (.both
 (.set 9 (.u .ld1 (.u (.fld 18) (.u .nilc (.var 0))))
 (.eff false (some 8) (.lit 3 1 0 [(.int .i64 0)] .nl)
 (.eff false (some 10) (.app 3 1 8 [(.int .i64 0)] (.var 8) (.var 1))
 (.eff false none (.st 1 (.b (.idx 1) (.var 4) (.var 9)) (.var 10))
 .nxt))))
 (.chk (.u (.fld 18) (.u .nilc (.var 0)))
 (.eff false (some 8) (.lit 3 1 0 [(.int .i64 0)] .nl)
 (.eff false (some 10) (.app 3 1 8 [(.int .i64 0)] (.var 8) (.var 1))
 (.set 9 (.u .ld1 (.u (.fld 18) (.u .nilc (.var 0))))
 (.eff false none (.st 1 (.b (.idx 1) (.var 4) (.var 9)) (.var 10))
 .nxt))))))
 (.set 2 (.var 5)
 (.set 3 (.lit (.int .i64 0))
 .ret))))))))))))
def f_belt_Belt_Step : Fun:=⟨s_belt_Belt_Step,[(.var 2),(.var 3)]⟩
abbrev v_belt_Belt_Step : List Nat:=[0,1,4,5,6,7,15,18,49,48,51]
theorem vr_belt_Belt_Step : VRof P n_belt_Belt_Step s_belt_Belt_Step f_belt_Belt_Step v_belt_Belt_Step 54:=vok Try.func81 (by kernel_rfl) Try.ntmps81 rfl
theorem r_belt_Belt_Step : Fun.res f_belt_Belt_Step=[(.var 2),(.var 3)]:=rfl
abbrev n_machine_Split : Nat:=82
def s_machine_Split : S :=
 (.eff false (some 4) (.box 44 (.var 0))
 (.set 2 (.lit (.slice none 0 0))
 (.set 3 (.lit (.int .i64 0))
 (.call false (some 29) 38 (.cn (.u (.lda 1) (.var 4)) (.cn (.u .len (.var 1)) .nl))
 (.set 5 (.var 29)
 (.seq
 (.ite (.b (.bin .neq) (.var 5) (.lit (.int .i64 0)))
 (.set 2 (.lit (.slice none 0 0))
 (.set 3 (.var 5)
 .ret))
 .nxt)
 (.set 9 (.var 1)
 (.set 7 (.u .len (.var 9))
 (.set 6 (.lit (.int .i64 0))
 (.seq
 (.blk 0
 (.loop
 (.set 8 (.b (.bin .lss) (.var 6) (.var 7))
 (.seq
 (.ite (.var 8)
 .nxt
 (.exit 0))
 (.seq
 (.blk 1
 (.set 10 (.u .ld1 (.b (.idx 1) (.var 9) (.var 6)))
 (.ite (.ite (.b (.bin .lss) (.var 10) (.lit (.int .i64 0))) (.lit (.bool true)) (.b (.bin .gtr) (.var 10) (.lit (.int .i64 1073741824))))
 (.set 2 (.lit (.slice none 0 0))
 (.set 3 (.lit (.int .i64 18))
 .ret))
 .nxt)))
 (.set 6 (.b (.bin .add) (.var 6) (.lit (.int .i64 1)))
 .nxt))))))
 (.call false (some 30) 42 (.cn (.u (.lda 1) (.var 4)) .nl)
 (.set 11 (.var 30)
 (.seq
 (.ite (.b (.bin .eql) (.var 11) (.lit (.int .i64 0)))
 (.set 2 (.lit (.slice none 0 0))
 (.set 3 (.lit (.int .i64 13))
 .ret))
 .nxt)
 (.eff false (some 31) (.mk 29 1 24 [(.slice none 0 0)] (.var 11) (.var 11))
 (.set 12 (.var 31)
 (.set 14 (.u .len (.var 12))
 (.set 13 (.lit (.int .i64 0))
 (.seq
 (.blk 2
 (.loop
 (.set 15 (.b (.bin .lss) (.var 13) (.var 14))
 (.seq
 (.ite (.var 15)
 .nxt
 (.exit 2))
 (.seq
 (.blk 3
 (.set 16 (.var 13)
 (.eff false (some 32) (.mk 3 1 8 [(.int .i64 0)] (.u .len (.var 1)) (.u .len (.var 1)))
 (.eff false none (.st 1 (.b (.idx 1) (.var 12) (.var 16)) (.var 32))
 .nxt))))
 (.set 13 (.b (.bin .add) (.var 13) (.lit (.int .i64 1)))
 .nxt))))))
 (.set 20 (.var 1)
 (.set 18 (.u .len (.var 20))
 (.set 17 (.lit (.int .i64 0))
 (.seq
 (.blk 4
 (.loop
 (.set 19 (.b (.bin .lss) (.var 17) (.var 18))
 (.seq
 (.ite (.var 19)
 .nxt
 (.exit 4))
 (.seq
 (.blk 5
 (.chk (.u .ld1 (.b (.idx 1) (.var 20) (.var 17)))
 (.set 21 (.var 17)
 (.set 22 (.u .ld1 (.b (.idx 1) (.var 20) (.var 17)))
 (.call false (some 26) 87 (.cn (.u (.lda 1) (.var 4)) (.cn (.var 21) (.cn (.var 22) .nl)))
 (.set 24 (.u .len (.var 26))
 (.set 23 (.lit (.int .i64 0))
 (.blk 6
 (.loop
 (.set 25 (.b (.bin .lss) (.var 23) (.var 24))
 (.seq
 (.ite (.var 25)
 .nxt
 (.exit 6))
 (.seq
 (.blk 7
 (.chk (.u .ld1 (.b (.idx 1) (.var 26) (.var 23)))
 (.set 27 (.var 23)
 (.set 28 (.u .ld1 (.b (.idx 1) (.var 26) (.var 23)))
 (.eff false none (.st 1 (.b (.idx 1) (.u .ld1 (.b (.idx 1) (.var 12) (.var 27))) (.var 21)) (.var 28))
 .nxt)))))
 (.set 23 (.b (.bin .add) (.var 23) (.lit (.int .i64 1)))
 .nxt)))))))))))))
 (.set 17 (.b (.bin .add) (.var 17) (.lit (.int .i64 1)))
 .nxt))))))
 (.set 2 (.var 12)
 (.set 3 (.lit (.int .i64 0))
 .ret))))))))))))))))))))))))
def f_machine_Split : Fun:=⟨s_machine_Split,[(.var 2),(.var 3)]⟩
abbrev v_machine_Split : List Nat:=[0,1,4,5,2,6,25,24,26,23,8,9,10,44,43,45,11,56,55,57,54,12,13,66,65,67,64,14,15,19,37,41,51]
theorem vr_machine_Split : VRof P n_machine_Split s_machine_Split f_machine_Split v_machine_Split 81:=vo Try.func82 (by kernel_rfl) Try.ntmps82 rfl
theorem r_machine_Split : Fun.res f_machine_Split=[(.var 2),(.var 3)]:=rfl
abbrev g_machine_Split_0 : List Nat:=[2,3,6,8,10]
abbrev g_machine_Split_1 : List Nat:=[13,15,16,32]
abbrev g_machine_Split_2 : List Nat:=[17,19,21,22,23,24,25,26,27,28]
abbrev g_machine_Split_3 : List Nat:=[23,25,27,28]
abbrev n_layout_Next : Nat:=83
def s_layout_Next : S :=
 (.eff false (some 5) (.box 25 (.var 0))
 (.set 3 (.lit (.int .i64 0))
 (.set 4 (.lit (.int .i64 0))
 (.call false (some 8) 21 (.cn (.u (.lda 4) (.var 5)) .nl)
 (.set 6 (.var 8)
 (.seq
 (.ite (.b (.bin .neq) (.var 6) (.lit (.int .i64 0)))
 (.set 3 (.lit (.int .i64 0))
 (.set 4 (.var 6)
 .ret))
 .nxt)
 (.call false (some 9) 61 (.cn (.u (.lda 4) (.var 5)) (.cn (.var 1) (.cn (.var 2) .nl)))
 (.set 7 (.var 9)
 (.seq
 (.ite (.b (.bin .lss) (.var 7) (.lit (.int .i64 0)))
 (.set 3 (.lit (.int .i64 0))
 (.set 4 (.lit (.int .i64 7))
 .ret))
 .nxt)
 (.set 3 (.var 7)
 (.set 4 (.lit (.int .i64 0))
 .ret)))))))))))
def f_layout_Next : Fun:=⟨s_layout_Next,[(.var 3),(.var 4)]⟩
abbrev v_layout_Next : List Nat:=[0,1,2,6,7,3,8,9,11,18]
theorem vr_layout_Next : VRof P n_layout_Next s_layout_Next f_layout_Next v_layout_Next 22:=vo Try.func83 (by kernel_rfl) Try.ntmps83 rfl
theorem r_layout_Next : Fun.res f_layout_Next=[(.var 3),(.var 4)]:=rfl
abbrev n_slices_ContainsFunc : Nat:=84
def s_slices_ContainsFunc : S :=
 (.set 2 (.lit (.bool false))
 (.call false (some 3) 88 (.cn (.var 0) (.cn (.var 1) .nl))
 (.set 2 (.b (.bin .geq) (.var 3) (.lit (.int .i64 0)))
 .ret)))
def f_slices_ContainsFunc : Fun:=⟨s_slices_ContainsFunc,[(.var 2)]⟩
abbrev v_slices_ContainsFunc : List Nat:=[0,1,4,7]
theorem vr_slices_ContainsFunc : VRof P n_slices_ContainsFunc s_slices_ContainsFunc f_slices_ContainsFunc v_slices_ContainsFunc 9:=vo Try.func84 (by kernel_rfl) Try.ntmps84 rfl
theorem r_slices_ContainsFunc : Fun.res f_slices_ContainsFunc=[(.var 2)]:=rfl
abbrev n_material_check_1 : Nat:=85
def s_material_check_1 : S :=
 (.set 1 (.lit (.bool false))
 (.set 1 (.ite (.b (.bin .lss) (.var 0) (.lit (.int .i64 0))) (.lit (.bool true)) (.b (.bin .gtr) (.var 0) (.lit (.int .i64 1073741824))))
 .ret))
def f_material_check_1 : Fun:=⟨s_material_check_1,[(.var 1)]⟩
abbrev v_material_check_1 : List Nat:=[0,2]
theorem vr_material_check_1 : VRof P n_material_check_1 s_material_check_1 f_material_check_1 v_material_check_1 9:=vo Try.func85 (by kernel_rfl) Try.ntmps85 rfl
theorem r_material_check_1 : Fun.res f_material_check_1=[(.var 1)]:=rfl
abbrev n_machine_Main : Nat:=86
def s_machine_Main : S :=
 (.eff false (some 3) (.box 44 (.var 0))
 (.set 2 (.lit (.int .i64 0))
 (.seq
 (.ite (.ite (.b (.bin .lss) (.var 1) (.lit (.int .i64 0))) (.lit (.bool true)) (.b (.bin .geq) (.var 1) (.u .len (.u .ld1 (.u (.fld 0) (.var 3))))))
 (.set 2 (.lit (.int .i64 (-1)))
 .ret)
 .nxt)
 (.set 7 (.u .ld1 (.b (.idx 1) (.u .ld1 (.u (.fld 0) (.var 3))) (.var 1)))
 (.set 5 (.u .len (.var 7))
 (.set 4 (.lit (.int .i64 0))
 (.seq
 (.blk 0
 (.loop
 (.set 6 (.b (.bin .lss) (.var 4) (.var 5))
 (.seq
 (.ite (.var 6)
 .nxt
 (.exit 0))
 (.seq
 (.blk 1
 (.chk (.u .ld1 (.b (.idx 1) (.var 7) (.var 4)))
 (.set 8 (.var 4)
 (.set 9 (.u .ld1 (.b (.idx 1) (.var 7) (.var 4)))
 (.ite (.b (.bin .gtr) (.var 9) (.lit (.int .i64 0)))
 (.set 2 (.var 8)
 .ret)
 .nxt)))))
 (.set 4 (.b (.bin .add) (.var 4) (.lit (.int .i64 1)))
 .nxt))))))
 (.set 2 (.lit (.int .i64 (-1)))
 .ret))))))))
def f_machine_Main : Fun:=⟨s_machine_Main,[(.var 2)]⟩
abbrev v_machine_Main : List Nat:=[0,1,4,2,22,21,23,20,5,6]
theorem vr_machine_Main : VRof P n_machine_Main s_machine_Main f_machine_Main v_machine_Main 31:=vo Try.func86 (by kernel_rfl) Try.ntmps86 rfl
theorem r_machine_Main : Fun.res f_machine_Main=[(.var 2)]:=rfl
abbrev g_machine_Main_0 : List Nat:=[2,4,6,8,9]
abbrev n_machine_divided : Nat:=87
def s_machine_divided : S :=
 (.eff false (some 4) (.box 44 (.var 0))
 (.set 3 (.lit (.slice none 0 0))
 (.call false (some 8) 89 (.cn (.var 2) (.cn (.u .ld1 (.b (.idx 1) (.u .ld1 (.u (.fld 0) (.var 4))) (.var 1))) .nl))
 (.chk (.u (.ext 0) (.var 8))
 (.chk (.u (.ext 1) (.var 8))
 (.set 5 (.u (.ext 0) (.var 8))
 (.set 6 (.u (.ext 1) (.var 8))
 (.call false (some 9) 86 (.cn (.u (.lda 1) (.var 4)) (.cn (.var 1) .nl))
 (.set 7 (.var 9)
 (.seq
 (.ite (.ite (.b (.bin .gtr) (.var 2) (.lit (.int .i64 0))) (.b (.bin .eql) (.u .ld1 (.b (.idx 1) (.var 5) (.var 7))) (.lit (.int .i64 0))) (.lit (.bool false)))
 (.call false (some 10) 90 (.cn (.var 5) .nl)
 (.eff false none (.st 1 (.b (.idx 1) (.var 5) (.var 10)) (.b (.bin .sub) (.u .ld1 (.b (.idx 1) (.var 5) (.var 10))) (.lit (.int .i64 1))))
 (.eff false none (.st 1 (.b (.idx 1) (.var 5) (.var 7)) (.b (.bin .add) (.u .ld1 (.b (.idx 1) (.var 5) (.var 7))) (.lit (.int .i64 1))))
 .nxt)))
 .nxt)
 (.set 3 (.var 5)
 .ret)))))))))))
def f_machine_divided : Fun:=⟨s_machine_divided,[(.var 3)]⟩
abbrev v_machine_divided : List Nat:=[0,1,2,6,3,7,8,9,17,22,34]
theorem vr_machine_divided : VRof P n_machine_divided s_machine_divided f_machine_divided v_machine_divided 46:=vo Try.func87 (by kernel_rfl) Try.ntmps87 rfl
theorem r_machine_divided : Fun.res f_machine_divided=[(.var 3)]:=rfl
abbrev n_slices_IndexFunc : Nat:=88
def s_slices_IndexFunc : S :=
 (.set 2 (.lit (.int .i64 0))
 (.set 4 (.u .len (.var 0))
 (.set 3 (.lit (.int .i64 0))
 (.seq
 (.blk 0
 (.loop
 (.set 5 (.b (.bin .lss) (.var 3) (.var 4))
 (.seq
 (.ite (.var 5)
 .nxt
 (.exit 0))
 (.seq
 (.blk 1
 (.set 6 (.var 3)
 (.callv false (some 7) (.var 1) (.cn (.u .ld1 (.b (.idx 1) (.var 0) (.var 6))) .nl)
 (.ite (.var 7)
 (.set 2 (.var 6)
 .ret)
 .nxt))))
 (.set 3 (.b (.bin .add) (.var 3) (.lit (.int .i64 1)))
 .nxt))))))
 (.set 2 (.lit (.int .i64 (-1)))
 .ret)))))
def f_slices_IndexFunc : Fun:=⟨s_slices_IndexFunc,[(.var 2)]⟩
abbrev v_slices_IndexFunc : List Nat:=[0,1,4,8,7,9,5,16]
theorem vr_slices_IndexFunc : VRof P n_slices_IndexFunc s_slices_IndexFunc f_slices_IndexFunc v_slices_IndexFunc 19:=vo Try.func88 (by kernel_rfl) Try.ntmps88 rfl
theorem r_slices_IndexFunc : Fun.res f_slices_IndexFunc=[(.var 2)]:=rfl
abbrev g_slices_IndexFunc_0 : List Nat:=[2,3,5,6,7]
abbrev n_share_Split : Nat:=89
def s_share_Split : S :=
 (.set 2 (.lit (.slice none 0 0))
 (.set 3 (.lit (.int .i64 0))
 (.seq
 (.ite (.ite (.b (.bin .lss) (.var 0) (.lit (.int .i64 0))) (.lit (.bool true)) (.b (.bin .gtr) (.var 0) (.lit (.int .i64 70368744177664))))
 (.set 2 (.lit (.slice none 0 0))
 (.set 3 (.lit (.int .i64 1))
 .ret))
 .nxt)
 (.call false (some 25) 91 (.cn (.var 1) .nl)
 (.chk (.u (.ext 0) (.var 25))
 (.chk (.u (.ext 1) (.var 25))
 (.set 4 (.u (.ext 0) (.var 25))
 (.set 5 (.u (.ext 1) (.var 25))
 (.seq
 (.ite (.b (.bin .neq) (.var 5) (.lit (.int .i64 0)))
 (.set 2 (.lit (.slice none 0 0))
 (.set 3 (.var 5)
 .ret))
 .nxt)
 (.seq
 (.ite (.ite (.b (.bin .eql) (.var 4) (.lit (.int .i64 0))) (.b (.bin .gtr) (.var 0) (.lit (.int .i64 0))) (.lit (.bool false)))
 (.set 2 (.lit (.slice none 0 0))
 (.set 3 (.lit (.int .i64 10))
 .ret))
 .nxt)
 (.eff false (some 26) (.mk 3 1 8 [(.int .i64 0)] (.u .len (.var 1)) (.u .len (.var 1)))
 (.eff false (some 30) (.mk 3 1 8 [(.int .i64 0)] (.u .len (.var 1)) (.u .len (.var 1)))
 (.eff false (some 31) (.mk 3 1 8 [(.int .i64 0)] (.u .len (.var 1)) (.u .len (.var 1)))
 (.eff false (some 19) (.alloc 27 [(.slice none 0 0)])
 (.set 6 (.var 26)
 (.eff false none (.st 1 (.var 19) (.var 30))
 (.set 7 (.var 31)
 (.set 8 (.var 0)
 (.set 12 (.var 1)
 (.set 10 (.u .len (.var 12))
 (.set 9 (.lit (.int .i64 0))
 (.seq
 (.blk 0
 (.loop
 (.set 11 (.b (.bin .lss) (.var 9) (.var 10))
 (.seq
 (.ite (.var 11)
 .nxt
 (.exit 0))
 (.seq
 (.blk 1
 (.chk (.u .ld1 (.b (.idx 1) (.var 12) (.var 9)))
 (.set 13 (.var 9)
 (.set 14 (.u .ld1 (.b (.idx 1) (.var 12) (.var 9)))
 (.eff false none (.st 1 (.b (.idx 1) (.var 7) (.var 13)) (.var 13))
 (.seq
 (.ite (.b (.bin .gtr) (.var 4) (.lit (.int .i64 0)))
 (.call false (some 27) 92 (.cn (.u (.conv .u64) (.var 0)) (.cn (.u (.conv .u64) (.var 14)) .nl))
 (.chk (.u (.ext 0) (.var 27))
 (.chk (.u (.ext 1) (.var 27))
 (.set 15 (.u (.ext 0) (.var 27))
 (.set 16 (.u (.ext 1) (.var 27))
 (.call false (some 28) 93 (.cn (.var 15) (.cn (.var 16) (.cn (.u (.conv .u64) (.var 4)) .nl)))
 (.chk (.u (.ext 0) (.var 28))
 (.chk (.u (.ext 1) (.var 28))
 (.set 17 (.u (.ext 0) (.var 28))
 (.set 18 (.u (.ext 1) (.var 28))
 (.both
 (.set 29 (.u .ld1 (.var 19))
 (.chk (.u (.conv .i64) (.var 17))
 (.chk (.u (.conv .i64) (.var 18))
 (.eff false none (.st 1 (.b (.idx 1) (.var 6) (.var 13)) (.u (.conv .i64) (.var 17)))
 (.eff false none (.st 1 (.b (.idx 1) (.var 29) (.var 13)) (.u (.conv .i64) (.var 18)))
 .nxt)))))
 (.chk (.u (.conv .i64) (.var 17))
 (.chk (.u (.conv .i64) (.var 18))
 (.eff false none (.st 1 (.b (.idx 1) (.var 6) (.var 13)) (.u (.conv .i64) (.var 17)))
 (.set 29 (.u .ld1 (.var 19))
 (.eff false none (.st 1 (.b (.idx 1) (.var 29) (.var 13)) (.u (.conv .i64) (.var 18)))
 .nxt))))))))))))))))
 .nxt)
 (.set 8 (.b (.bin .sub) (.var 8) (.u .ld1 (.b (.idx 1) (.var 6) (.var 13))))
 .nxt)))))))
 (.set 9 (.b (.bin .add) (.var 9) (.lit (.int .i64 1)))
 .nxt))))))
 (.chk (.fn 95 (.cn (.var 19) .nl))
 (.call false none 94 (.cn (.var 7) (.cn (.fn 95 (.cn (.var 19) .nl)) .nl))
 (.set 23 (.slc none 1 (.var 7) (.lit (.int .i64 0)) (.var 8) .nl)
 (.set 21 (.u .len (.var 23))
 (.set 20 (.lit (.int .i64 0))
 (.seq
 (.blk 2
 (.loop
 (.set 22 (.b (.bin .lss) (.var 20) (.var 21))
 (.seq
 (.ite (.var 22)
 .nxt
 (.exit 2))
 (.seq
 (.blk 3
 (.set 24 (.u .ld1 (.b (.idx 1) (.var 23) (.var 20)))
 (.eff false none (.st 1 (.b (.idx 1) (.var 6) (.var 24)) (.b (.bin .add) (.u .ld1 (.b (.idx 1) (.var 6) (.var 24))) (.lit (.int .i64 1))))
 .nxt)))
 (.set 20 (.b (.bin .add) (.var 20) (.lit (.int .i64 1)))
 .nxt))))))
 (.set 2 (.var 6)
 (.set 3 (.lit (.int .i64 0))
 .ret))))))))))))))))))))))))))))))
def f_share_Split : Fun:=⟨s_share_Split,[(.var 2),(.var 3)]⟩
abbrev v_share_Split : List Nat:=[0,1,4,5,6,7,8,10,11,52,51,53,50,12,13,14,15,16,17,9,103,102,104,101,19,28,42,68,76,81,45,48]
theorem vr_share_Split : VRof P n_share_Split s_share_Split f_share_Split v_share_Split 115:=vo Try.func89 (by kernel_rfl) Try.ntmps89 rfl
theorem r_share_Split : Fun.res f_share_Split=[(.var 2),(.var 3)]:=rfl
abbrev g_share_Split_0 : List Nat:=[8,9,11,13,14,15,16,17,18,27,28,29]
abbrev g_share_Split_1 : List Nat:=[20,22,24]
abbrev n_machine_greatest : Nat:=90
def s_machine_greatest : S :=
 (.set 1 (.lit (.int .i64 0))
 (.set 2 (.lit (.int .i64 0))
 (.set 6 (.var 0)
 (.set 4 (.u .len (.var 6))
 (.set 3 (.lit (.int .i64 0))
 (.seq
 (.blk 0
 (.loop
 (.set 5 (.b (.bin .lss) (.var 3) (.var 4))
 (.seq
 (.ite (.var 5)
 .nxt
 (.exit 0))
 (.seq
 (.blk 1
 (.chk (.u .ld1 (.b (.idx 1) (.var 6) (.var 3)))
 (.set 7 (.var 3)
 (.set 8 (.u .ld1 (.b (.idx 1) (.var 6) (.var 3)))
 (.ite (.b (.bin .gtr) (.var 8) (.u .ld1 (.b (.idx 1) (.var 0) (.var 2))))
 (.set 2 (.var 7)
 .nxt)
 .nxt)))))
 (.set 3 (.b (.bin .add) (.var 3) (.lit (.int .i64 1)))
 .nxt))))))
 (.set 1 (.var 2)
 .ret)))))))
def f_machine_greatest : Fun:=⟨s_machine_greatest,[(.var 1)]⟩
abbrev v_machine_greatest : List Nat:=[0,2,3,8,7,9,6,4,5]
theorem vr_machine_greatest : VRof P n_machine_greatest s_machine_greatest f_machine_greatest v_machine_greatest 22:=vo Try.func90 (by kernel_rfl) Try.ntmps90 rfl
theorem r_machine_greatest : Fun.res f_machine_greatest=[(.var 1)]:=rfl
abbrev g_machine_greatest_0 : List Nat:=[2,3,5,7,8]
abbrev n_share_weighed : Nat:=91
def s_share_weighed : S :=
 (.set 1 (.lit (.int .i64 0))
 (.set 2 (.lit (.int .i64 0))
 (.seq
 (.ite (.ite (.b (.bin .lss) (.u .len (.var 0)) (.lit (.int .i64 1))) (.lit (.bool true)) (.b (.bin .gtr) (.u .len (.var 0)) (.lit (.int .i64 512))))
 (.set 1 (.lit (.int .i64 0))
 (.set 2 (.lit (.int .i64 1))
 .ret))
 .nxt)
 (.set 6 (.var 0)
 (.set 4 (.u .len (.var 6))
 (.set 3 (.lit (.int .i64 0))
 (.seq
 (.blk 0
 (.loop
 (.set 5 (.b (.bin .lss) (.var 3) (.var 4))
 (.seq
 (.ite (.var 5)
 .nxt
 (.exit 0))
 (.seq
 (.blk 1
 (.set 7 (.u .ld1 (.b (.idx 1) (.var 6) (.var 3)))
 (.ite (.ite (.b (.bin .lss) (.var 7) (.lit (.int .i64 0))) (.lit (.bool true)) (.b (.bin .gtr) (.var 7) (.lit (.int .i64 1125899906842624))))
 (.set 1 (.lit (.int .i64 0))
 (.set 2 (.lit (.int .i64 1))
 .ret))
 .nxt)))
 (.set 3 (.b (.bin .add) (.var 3) (.lit (.int .i64 1)))
 .nxt))))))
 (.call false (some 8) 96 (.cn (.var 0) .nl)
 (.chk (.u (.ext 0) (.var 8))
 (.chk (.u (.ext 1) (.var 8))
 (.set 1 (.u (.ext 0) (.var 8))
 (.set 2 (.u (.ext 1) (.var 8))
 .ret))))))))))))
def f_share_weighed : Fun:=⟨s_share_weighed,[(.var 1),(.var 2)]⟩
abbrev v_share_weighed : List Nat:=[0,2,3,16,15,17,14,5,28]
theorem vr_share_weighed : VRof P n_share_weighed s_share_weighed f_share_weighed v_share_weighed 31:=vo Try.func91 (by kernel_rfl) Try.ntmps91 rfl
theorem r_share_weighed : Fun.res f_share_weighed=[(.var 1),(.var 2)]:=rfl
abbrev g_share_weighed_0 : List Nat:=[1,2,3,5,7]
abbrev n_bits_Mul64 : Nat:=92
def s_bits_Mul64 : S :=
 (.set 2 (.lit (.int .u64 0))
 (.set 3 (.lit (.int .u64 0))
 (.set 4 (.b (.bin .and) (.var 0) (.lit (.int .u64 4294967295)))
 (.set 5 (.b (.bin .shr) (.var 0) (.lit (.int .u64 32)))
 (.set 6 (.b (.bin .and) (.var 1) (.lit (.int .u64 4294967295)))
 (.set 7 (.b (.bin .shr) (.var 1) (.lit (.int .u64 32)))
 (.set 8 (.b (.bin .mul) (.var 4) (.var 6))
 (.set 9 (.b (.bin .add) (.b (.bin .mul) (.var 5) (.var 6)) (.b (.bin .shr) (.var 8) (.lit (.int .u64 32))))
 (.set 10 (.b (.bin .and) (.var 9) (.lit (.int .u64 4294967295)))
 (.set 11 (.b (.bin .shr) (.var 9) (.lit (.int .u64 32)))
 (.set 10 (.b (.bin .add) (.var 10) (.b (.bin .mul) (.var 4) (.var 7)))
 (.set 2 (.b (.bin .add) (.b (.bin .add) (.b (.bin .mul) (.var 5) (.var 7)) (.var 11)) (.b (.bin .shr) (.var 10) (.lit (.int .u64 32))))
 (.set 3 (.b (.bin .mul) (.var 0) (.var 1))
 .ret)))))))))))))
def f_bits_Mul64 : Fun:=⟨s_bits_Mul64,[(.var 2),(.var 3)]⟩
abbrev v_bits_Mul64 : List Nat:=[0,1,4,5,6,7,8,9,10,11,12,13]
theorem vr_bits_Mul64 : VRof P n_bits_Mul64 s_bits_Mul64 f_bits_Mul64 v_bits_Mul64 51:=vo Try.func92 (by kernel_rfl) Try.ntmps92 rfl
theorem r_bits_Mul64 : Fun.res f_bits_Mul64=[(.var 2),(.var 3)]:=rfl
abbrev n_bits_Div64 : Nat:=93
def s_bits_Div64 : S :=
 (.set 3 (.lit (.int .u64 0))
 (.set 4 (.lit (.int .u64 0))
 (.seq
 (.ite (.b (.bin .eql) (.var 2) (.lit (.int .u64 0)))
 (.chk (.u .ld1 (.lit (.pointer (some ⟨0,0,none⟩))))
 .stop)
 .nxt)
 (.seq
 (.ite (.b (.bin .leq) (.var 2) (.var 0))
 (.chk (.u .ld1 (.lit (.pointer (some ⟨1,0,none⟩))))
 .stop)
 .nxt)
 (.seq
 (.ite (.b (.bin .eql) (.var 0) (.lit (.int .u64 0)))
 (.chk (.b (.bin .quo) (.var 1) (.var 2))
 (.chk (.b (.bin .rem) (.var 1) (.var 2))
 (.set 3 (.b (.bin .quo) (.var 1) (.var 2))
 (.set 4 (.b (.bin .rem) (.var 1) (.var 2))
 .ret))))
 .nxt)
 (.call false (some 16) 97 (.cn (.var 2) .nl)
 (.set 5 (.u (.conv .u64) (.var 16))
 (.set 2 (.b (.bin .shl) (.var 2) (.var 5))
 (.set 6 (.b (.bin .shr) (.var 2) (.lit (.int .u64 32)))
 (.set 7 (.b (.bin .and) (.var 2) (.lit (.int .u64 4294967295)))
 (.set 8 (.b (.bin .or) (.b (.bin .shl) (.var 0) (.var 5)) (.b (.bin .shr) (.var 1) (.b (.bin .sub) (.lit (.int .u64 64)) (.var 5))))
 (.set 9 (.b (.bin .shl) (.var 1) (.var 5))
 (.set 10 (.b (.bin .shr) (.var 9) (.lit (.int .u64 32)))
 (.set 11 (.b (.bin .and) (.var 9) (.lit (.int .u64 4294967295)))
 (.set 12 (.b (.bin .quo) (.var 8) (.var 6))
 (.set 13 (.b (.bin .sub) (.var 8) (.b (.bin .mul) (.var 12) (.var 6)))
 (.seq
 (.blk 0
 (.loop
 (.seq
 (.ite (.ite (.b (.bin .geq) (.var 12) (.lit (.int .u64 4294967296))) (.lit (.bool true)) (.b (.bin .gtr) (.b (.bin .mul) (.var 12) (.var 7)) (.b (.bin .add) (.b (.bin .mul) (.lit (.int .u64 4294967296)) (.var 13)) (.var 10))))
 .nxt
 (.exit 0))
 (.blk 1
 (.set 12 (.b (.bin .sub) (.var 12) (.lit (.int .u64 1)))
 (.set 13 (.b (.bin .add) (.var 13) (.var 6))
 (.ite (.b (.bin .geq) (.var 13) (.lit (.int .u64 4294967296)))
 (.exit 0)
 .nxt)))))))
 (.set 14 (.b (.bin .sub) (.b (.bin .add) (.b (.bin .mul) (.var 8) (.lit (.int .u64 4294967296))) (.var 10)) (.b (.bin .mul) (.var 12) (.var 2)))
 (.set 15 (.b (.bin .quo) (.var 14) (.var 6))
 (.set 13 (.b (.bin .sub) (.var 14) (.b (.bin .mul) (.var 15) (.var 6)))
 (.seq
 (.blk 2
 (.loop
 (.seq
 (.ite (.ite (.b (.bin .geq) (.var 15) (.lit (.int .u64 4294967296))) (.lit (.bool true)) (.b (.bin .gtr) (.b (.bin .mul) (.var 15) (.var 7)) (.b (.bin .add) (.b (.bin .mul) (.lit (.int .u64 4294967296)) (.var 13)) (.var 11))))
 .nxt
 (.exit 2))
 (.blk 3
 (.set 15 (.b (.bin .sub) (.var 15) (.lit (.int .u64 1)))
 (.set 13 (.b (.bin .add) (.var 13) (.var 6))
 (.ite (.b (.bin .geq) (.var 13) (.lit (.int .u64 4294967296)))
 (.exit 2)
 .nxt)))))))
 (.chk (.b (.bin .add) (.b (.bin .mul) (.var 12) (.lit (.int .u64 4294967296))) (.var 15))
 (.chk (.b (.bin .shr) (.b (.bin .sub) (.b (.bin .add) (.b (.bin .mul) (.var 14) (.lit (.int .u64 4294967296))) (.var 11)) (.b (.bin .mul) (.var 15) (.var 2))) (.var 5))
 (.set 3 (.b (.bin .add) (.b (.bin .mul) (.var 12) (.lit (.int .u64 4294967296))) (.var 15))
 (.set 4 (.b (.bin .shr) (.b (.bin .sub) (.b (.bin .add) (.b (.bin .mul) (.var 14) (.lit (.int .u64 4294967296))) (.var 11)) (.b (.bin .mul) (.var 15) (.var 2))) (.var 5))
 .ret)))))))))))))))))))))))))
def f_bits_Div64 : Fun:=⟨s_bits_Div64,[(.var 3),(.var 4)]⟩
abbrev v_bits_Div64 : List Nat:=[0,1,2,6,7,8,9,10,11,12,13,14,15,16,17,18,35]
theorem vr_bits_Div64 : VRof P n_bits_Div64 s_bits_Div64 f_bits_Div64 v_bits_Div64 135:=vo Try.func93 (by kernel_rfl) Try.ntmps93 rfl
theorem r_bits_Div64 : Fun.res f_bits_Div64=[(.var 3),(.var 4)]:=rfl
abbrev n_slices_SortStableFuncint_int : Nat:=94
def s_slices_SortStableFuncint_int : S :=
 (.call false none 98 (.cn (.var 0) (.cn (.u .len (.var 0)) (.cn (.var 1) .nl)))
 .nxt)
def f_slices_SortStableFuncint_int : Fun:=⟨s_slices_SortStableFuncint_int,[]⟩
abbrev v_slices_SortStableFuncint_int : List Nat:=[0,1]
theorem vr_slices_SortStableFuncint_int : VRof P n_slices_SortStableFuncint_int s_slices_SortStableFuncint_int f_slices_SortStableFuncint_int v_slices_SortStableFuncint_int 9:=vo Try.func94 (by kernel_rfl) Try.ntmps94 rfl
theorem r_slices_SortStableFuncint_int : Fun.res f_slices_SortStableFuncint_int=[]:=rfl
abbrev n_share_Split_1 : Nat:=95
def s_share_Split_1 : S :=
 (.set 3 (.lit (.int .i64 0))
 (.set 3 (.b (.bin .sub) (.u .ld1 (.b (.idx 1) (.u .ld1 (.var 2)) (.var 1))) (.u .ld1 (.b (.idx 1) (.u .ld1 (.var 2)) (.var 0))))
 .ret))
def f_share_Split_1 : Fun:=⟨s_share_Split_1,[(.var 3)]⟩
abbrev v_share_Split_1 : List Nat:=[0,1,2,5]
theorem vr_share_Split_1 : VRof P n_share_Split_1 s_share_Split_1 f_share_Split_1 v_share_Split_1 15:=vo Try.func95 (by kernel_rfl) Try.ntmps95 rfl
theorem r_share_Split_1 : Fun.res f_share_Split_1=[(.var 3)]:=rfl
abbrev n_num_Sum : Nat:=96
def s_num_Sum : S :=
 (.set 1 (.lit (.int .i64 0))
 (.set 2 (.lit (.int .i64 0))
 (.set 3 (.lit (.int .i64 0))
 (.set 4 (.lit (.int .i64 0))
 (.set 8 (.var 0)
 (.set 6 (.u .len (.var 8))
 (.set 5 (.lit (.int .i64 0))
 (.seq
 (.blk 0
 (.loop
 (.set 7 (.b (.bin .lss) (.var 5) (.var 6))
 (.seq
 (.ite (.var 7)
 .nxt
 (.exit 0))
 (.seq
 (.blk 1
 (.set 9 (.u .ld1 (.b (.idx 1) (.var 8) (.var 5)))
 (.eff false (some 10) (.lit 3 1 1 [(.int .i64 0)] (.pl 0 1 (.var 9) .nl))
 (.call false (some 12) 99 (.cn (.var 10) .nl)
 (.seq
 (.ite (.u (.un .not) (.var 12))
 (.set 1 (.lit (.int .i64 0))
 (.set 2 (.lit (.int .i64 1))
 .ret))
 .nxt)
 (.set 3 (.b (.bin .add) (.var 3) (.b (.bin .shr) (.var 9) (.lit (.int .u64 25))))
 (.set 4 (.b (.bin .add) (.var 4) (.b (.bin .and) (.var 9) (.lit (.int .i64 33554431))))
 .nxt)))))))
 (.set 5 (.b (.bin .add) (.var 5) (.lit (.int .i64 1)))
 .nxt))))))
 (.set 3 (.b (.bin .add) (.var 3) (.b (.bin .shr) (.var 4) (.lit (.int .u64 25))))
 (.seq
 (.ite (.ite (.b (.bin .lss) (.var 3) (.lit (.int .i64 (-67108864)))) (.lit (.bool true)) (.b (.bin .gtr) (.var 3) (.lit (.int .i64 67108864))))
 (.set 1 (.lit (.int .i64 0))
 (.set 2 (.lit (.int .i64 2))
 .ret))
 .nxt)
 (.call false (some 11) 100 (.cn (.b (.bin .add) (.b (.bin .shl) (.var 3) (.lit (.int .u64 25))) (.b (.bin .and) (.var 4) (.lit (.int .i64 33554431)))) .nl)
 (.chk (.u (.ext 0) (.var 11))
 (.chk (.u (.ext 1) (.var 11))
 (.set 1 (.u (.ext 0) (.var 11))
 (.set 2 (.u (.ext 1) (.var 11))
 .ret)))))))))))))))
def f_num_Sum : Fun:=⟨s_num_Sum,[(.var 1),(.var 2)]⟩
abbrev v_num_Sum : List Nat:=[0,2,3,4,5,10,9,11,8,7,15,42,16]
theorem vr_num_Sum : VRof P n_num_Sum s_num_Sum f_num_Sum v_num_Sum 45:=vo Try.func96 (by kernel_rfl) Try.ntmps96 rfl
theorem r_num_Sum : Fun.res f_num_Sum=[(.var 1),(.var 2)]:=rfl
abbrev g_num_Sum_0 : List Nat:=[1,2,3,4,5,7,9,10,12]
abbrev n_slices_stableCmpFunc : Nat:=98
def s_slices_stableCmpFunc : S :=
 (.set 3 (.lit (.int .i64 20))
 (.set 4 (.lit (.int .i64 0))
 (.set 5 (.var 3)
 (.seq
 (.blk 0
 (.loop
 (.seq
 (.ite (.b (.bin .leq) (.var 5) (.var 1))
 .nxt
 (.exit 0))
 (.blk 1
 (.call false none 102 (.cn (.var 0) (.cn (.var 4) (.cn (.var 5) (.cn (.var 2) .nl))))
 (.set 4 (.var 5)
 (.set 5 (.b (.bin .add) (.var 5) (.var 3))
 .nxt)))))))
 (.call false none 102 (.cn (.var 0) (.cn (.var 4) (.cn (.var 1) (.cn (.var 2) .nl))))
 (.blk 2
 (.loop
 (.seq
 (.ite (.b (.bin .lss) (.var 3) (.var 1))
 .nxt
 (.exit 2))
 (.blk 3
 (.chk (.b (.bin .mul) (.lit (.int .i64 2)) (.var 3))
 (.set 4 (.lit (.int .i64 0))
 (.set 5 (.b (.bin .mul) (.lit (.int .i64 2)) (.var 3))
 (.seq
 (.blk 4
 (.loop
 (.seq
 (.ite (.b (.bin .leq) (.var 5) (.var 1))
 .nxt
 (.exit 4))
 (.blk 5
 (.call false none 103 (.cn (.var 0) (.cn (.var 4) (.cn (.b (.bin .add) (.var 4) (.var 3)) (.cn (.var 5) (.cn (.var 2) .nl)))))
 (.set 4 (.var 5)
 (.set 5 (.b (.bin .add) (.var 5) (.b (.bin .mul) (.lit (.int .i64 2)) (.var 3)))
 .nxt)))))))
 (.set 6 (.b (.bin .add) (.var 4) (.var 3))
 (.seq
 (.ite (.b (.bin .lss) (.var 6) (.var 1))
 (.call false none 103 (.cn (.var 0) (.cn (.var 4) (.cn (.var 6) (.cn (.var 1) (.cn (.var 2) .nl)))))
 .nxt)
 .nxt)
 (.set 3 (.b (.bin .mul) (.var 3) (.lit (.int .i64 2)))
 .nxt))))))))))))))))
def f_slices_stableCmpFunc : Fun:=⟨s_slices_stableCmpFunc,[]⟩
abbrev v_slices_stableCmpFunc : List Nat:=[0,1,2,6,7,8,9]
theorem vr_slices_stableCmpFunc : VRof P n_slices_stableCmpFunc s_slices_stableCmpFunc f_slices_stableCmpFunc v_slices_stableCmpFunc 63:=vo Try.func98 (by kernel_rfl) Try.ntmps98 rfl
theorem r_slices_stableCmpFunc : Fun.res f_slices_stableCmpFunc=[]:=rfl
abbrev g_slices_stableCmpFunc_0 : List Nat:=[4,5]
abbrev g_slices_stableCmpFunc_1 : List Nat:=[3,4,5,6]
abbrev g_slices_stableCmpFunc_2 : List Nat:=[4,5]
abbrev n_num_in : Nat:=99
def s_num_in : S :=
 (.set 1 (.lit (.bool false))
 (.set 5 (.var 0)
 (.set 3 (.u .len (.var 5))
 (.set 2 (.lit (.int .i64 0))
 (.seq
 (.blk 0
 (.loop
 (.set 4 (.b (.bin .lss) (.var 2) (.var 3))
 (.seq
 (.ite (.var 4)
 .nxt
 (.exit 0))
 (.seq
 (.blk 1
 (.set 6 (.u .ld1 (.b (.idx 1) (.var 5) (.var 2)))
 (.ite (.ite (.b (.bin .lss) (.var 6) (.lit (.int .i64 (-1125899906842624)))) (.lit (.bool true)) (.b (.bin .gtr) (.var 6) (.lit (.int .i64 1125899906842624))))
 (.set 1 (.lit (.bool false))
 .ret)
 .nxt)))
 (.set 2 (.b (.bin .add) (.var 2) (.lit (.int .i64 1)))
 .nxt))))))
 (.set 1 (.lit (.bool true))
 .ret))))))
def f_num_in : Fun:=⟨s_num_in,[(.var 1)]⟩
abbrev v_num_in : List Nat:=[0,2,7,6,8,5,4]
theorem vr_num_in : VRof P n_num_in s_num_in f_num_in v_num_in 18:=vo Try.func99 (by kernel_rfl) Try.ntmps99 rfl
theorem r_num_in : Fun.res f_num_in=[(.var 1)]:=rfl
abbrev g_num_in_0 : List Nat:=[1,2,4,6]
abbrev n_num_checked : Nat:=100
def s_num_checked : S :=
 (.set 1 (.lit (.int .i64 0))
 (.set 2 (.lit (.int .i64 0))
 (.eff false (some 3) (.lit 3 1 1 [(.int .i64 0)] (.pl 0 1 (.var 0) .nl))
 (.call false (some 4) 99 (.cn (.var 3) .nl)
 (.seq
 (.ite (.u (.un .not) (.var 4))
 (.set 1 (.lit (.int .i64 0))
 (.set 2 (.lit (.int .i64 2))
 .ret))
 .nxt)
 (.set 1 (.var 0)
 (.set 2 (.lit (.int .i64 0))
 .ret)))))))
def f_num_checked : Fun:=⟨s_num_checked,[(.var 1),(.var 2)]⟩
abbrev v_num_checked : List Nat:=[0,2,3,5,6]
theorem vr_num_checked : VRof P n_num_checked s_num_checked f_num_checked v_num_checked 9:=vo Try.func100 (by kernel_rfl) Try.ntmps100 rfl
theorem r_num_checked : Fun.res f_num_checked=[(.var 1),(.var 2)]:=rfl
abbrev n_slices_insertionSortCmpFunc : Nat:=102
def s_slices_insertionSortCmpFunc : S :=
 (.set 4 (.b (.bin .add) (.var 1) (.lit (.int .i64 1)))
 (.blk 0
 (.loop
 (.seq
 (.ite (.b (.bin .lss) (.var 4) (.var 2))
 .nxt
 (.exit 0))
 (.seq
 (.blk 1
 (.set 5 (.var 4)
 (.blk 2
 (.loop
 (.chk (.ite (.b (.bin .gtr) (.var 5) (.var 1)) (.u .ld1 (.b (.idx 1) (.var 0) (.var 5))) (.lit undef))
 (.chk (.ite (.b (.bin .gtr) (.var 5) (.var 1)) (.u .ld1 (.b (.idx 1) (.var 0) (.b (.bin .sub) (.var 5) (.lit (.int .i64 1))))) (.lit undef))
 (.seq
 (.ite (.b (.bin .gtr) (.var 5) (.var 1))
 (.callv false (some 6) (.var 3) (.cn (.u .ld1 (.b (.idx 1) (.var 0) (.var 5))) (.cn (.u .ld1 (.b (.idx 1) (.var 0) (.b (.bin .sub) (.var 5) (.lit (.int .i64 1))))) .nl))
 (.ite (.b (.bin .lss) (.var 6) (.lit (.int .i64 0)))
 .nxt
 (.exit 2)))
 (.set 6 (.lit undef)
 (.ite (.lit (.bool false))
 .nxt
 (.exit 2))))
 (.seq
 (.blk 3
 (.chk (.u .ld1 (.b (.idx 1) (.var 0) (.b (.bin .sub) (.var 5) (.lit (.int .i64 1)))))
 (.set 7 (.u .ld1 (.b (.idx 1) (.var 0) (.var 5)))
 (.eff false none (.st 1 (.b (.idx 1) (.var 0) (.var 5)) (.u .ld1 (.b (.idx 1) (.var 0) (.b (.bin .sub) (.var 5) (.lit (.int .i64 1))))))
 (.eff false none (.st 1 (.b (.idx 1) (.var 0) (.b (.bin .sub) (.var 5) (.lit (.int .i64 1)))) (.var 7))
 .nxt)))))
 (.set 5 (.b (.bin .sub) (.var 5) (.lit (.int .i64 1)))
 .nxt)))))))))
 (.set 4 (.b (.bin .add) (.var 4) (.lit (.int .i64 1)))
 .nxt))))))
def f_slices_insertionSortCmpFunc : Fun:=⟨s_slices_insertionSortCmpFunc,[]⟩
abbrev v_slices_insertionSortCmpFunc : List Nat:=[0,1,2,3,8,9,32,50]
theorem vr_slices_insertionSortCmpFunc : VRof P n_slices_insertionSortCmpFunc s_slices_insertionSortCmpFunc f_slices_insertionSortCmpFunc v_slices_insertionSortCmpFunc 53:=vo Try.func102 (by kernel_rfl) Try.ntmps102 rfl
theorem r_slices_insertionSortCmpFunc : Fun.res f_slices_insertionSortCmpFunc=[]:=rfl
abbrev g_slices_insertionSortCmpFunc_0 : List Nat:=[4,5,6,7]
abbrev g_slices_insertionSortCmpFunc_1 : List Nat:=[5,6,7]
abbrev n_slices_symMergeCmpFunc : Nat:=103
def s_slices_symMergeCmpFunc : S :=
 (.seq
 (.ite (.b (.bin .eql) (.b (.bin .sub) (.var 2) (.var 1)) (.lit (.int .i64 1)))
 (.set 5 (.var 2)
 (.set 6 (.var 3)
 (.seq
 (.blk 0
 (.loop
 (.seq
 (.ite (.b (.bin .lss) (.var 5) (.var 6))
 .nxt
 (.exit 0))
 (.blk 1
 (.set 7 (.u (.conv .i64) (.b (.bin .shr) (.u (.conv .u64) (.b (.bin .add) (.var 5) (.var 6))) (.lit (.int .u64 1))))
 (.callv false (some 20) (.var 4) (.cn (.u .ld1 (.b (.idx 1) (.var 0) (.var 7))) (.cn (.u .ld1 (.b (.idx 1) (.var 0) (.var 1))) .nl))
 (.ite (.b (.bin .lss) (.var 20) (.lit (.int .i64 0)))
 (.set 5 (.b (.bin .add) (.var 7) (.lit (.int .i64 1)))
 .nxt)
 (.set 6 (.var 7)
 .nxt))))))))
 (.set 8 (.var 1)
 (.seq
 (.blk 2
 (.loop
 (.seq
 (.ite (.b (.bin .lss) (.var 8) (.b (.bin .sub) (.var 5) (.lit (.int .i64 1))))
 .nxt
 (.exit 2))
 (.seq
 (.blk 3
 (.chk (.u .ld1 (.b (.idx 1) (.var 0) (.b (.bin .add) (.var 8) (.lit (.int .i64 1)))))
 (.set 21 (.u .ld1 (.b (.idx 1) (.var 0) (.var 8)))
 (.eff false none (.st 1 (.b (.idx 1) (.var 0) (.var 8)) (.u .ld1 (.b (.idx 1) (.var 0) (.b (.bin .add) (.var 8) (.lit (.int .i64 1))))))
 (.eff false none (.st 1 (.b (.idx 1) (.var 0) (.b (.bin .add) (.var 8) (.lit (.int .i64 1)))) (.var 21))
 .nxt)))))
 (.set 8 (.b (.bin .add) (.var 8) (.lit (.int .i64 1)))
 .nxt)))))
 .ret)))))
 .nxt)
 (.seq
 (.ite (.b (.bin .eql) (.b (.bin .sub) (.var 3) (.var 2)) (.lit (.int .i64 1)))
 (.set 9 (.var 1)
 (.set 10 (.var 2)
 (.seq
 (.blk 4
 (.loop
 (.seq
 (.ite (.b (.bin .lss) (.var 9) (.var 10))
 .nxt
 (.exit 4))
 (.blk 5
 (.set 11 (.u (.conv .i64) (.b (.bin .shr) (.u (.conv .u64) (.b (.bin .add) (.var 9) (.var 10))) (.lit (.int .u64 1))))
 (.callv false (some 22) (.var 4) (.cn (.u .ld1 (.b (.idx 1) (.var 0) (.var 2))) (.cn (.u .ld1 (.b (.idx 1) (.var 0) (.var 11))) .nl))
 (.ite (.u (.un .not) (.b (.bin .lss) (.var 22) (.lit (.int .i64 0))))
 (.set 9 (.b (.bin .add) (.var 11) (.lit (.int .i64 1)))
 .nxt)
 (.set 10 (.var 11)
 .nxt))))))))
 (.set 12 (.var 2)
 (.seq
 (.blk 6
 (.loop
 (.seq
 (.ite (.b (.bin .gtr) (.var 12) (.var 9))
 .nxt
 (.exit 6))
 (.seq
 (.blk 7
 (.chk (.u .ld1 (.b (.idx 1) (.var 0) (.b (.bin .sub) (.var 12) (.lit (.int .i64 1)))))
 (.set 23 (.u .ld1 (.b (.idx 1) (.var 0) (.var 12)))
 (.eff false none (.st 1 (.b (.idx 1) (.var 0) (.var 12)) (.u .ld1 (.b (.idx 1) (.var 0) (.b (.bin .sub) (.var 12) (.lit (.int .i64 1))))))
 (.eff false none (.st 1 (.b (.idx 1) (.var 0) (.b (.bin .sub) (.var 12) (.lit (.int .i64 1)))) (.var 23))
 .nxt)))))
 (.set 12 (.b (.bin .sub) (.var 12) (.lit (.int .i64 1)))
 .nxt)))))
 .ret)))))
 .nxt)
 (.set 13 (.u (.conv .i64) (.b (.bin .shr) (.u (.conv .u64) (.b (.bin .add) (.var 1) (.var 3))) (.lit (.int .u64 1))))
 (.set 14 (.b (.bin .add) (.var 13) (.var 2))
 (.set 15 (.lit (.int .i64 0))
 (.set 16 (.lit (.int .i64 0))
 (.seq
 (.ite (.b (.bin .gtr) (.var 2) (.var 13))
 (.set 15 (.b (.bin .sub) (.var 14) (.var 3))
 (.set 16 (.var 13)
 .nxt))
 (.set 15 (.var 1)
 (.set 16 (.var 2)
 .nxt)))
 (.set 17 (.b (.bin .sub) (.var 14) (.lit (.int .i64 1)))
 (.seq
 (.blk 8
 (.loop
 (.seq
 (.ite (.b (.bin .lss) (.var 15) (.var 16))
 .nxt
 (.exit 8))
 (.blk 9
 (.set 18 (.u (.conv .i64) (.b (.bin .shr) (.u (.conv .u64) (.b (.bin .add) (.var 15) (.var 16))) (.lit (.int .u64 1))))
 (.callv false (some 24) (.var 4) (.cn (.u .ld1 (.b (.idx 1) (.var 0) (.b (.bin .sub) (.var 17) (.var 18)))) (.cn (.u .ld1 (.b (.idx 1) (.var 0) (.var 18))) .nl))
 (.ite (.u (.un .not) (.b (.bin .lss) (.var 24) (.lit (.int .i64 0))))
 (.set 15 (.b (.bin .add) (.var 18) (.lit (.int .i64 1)))
 .nxt)
 (.set 16 (.var 18)
 .nxt))))))))
 (.set 19 (.b (.bin .sub) (.var 14) (.var 15))
 (.seq
 (.ite (.ite (.b (.bin .lss) (.var 15) (.var 2)) (.b (.bin .lss) (.var 2) (.var 19)) (.lit (.bool false)))
 (.call false none 104 (.cn (.var 0) (.cn (.var 15) (.cn (.var 2) (.cn (.var 19) (.cn (.var 4) .nl)))))
 .nxt)
 .nxt)
 (.seq
 (.ite (.ite (.b (.bin .lss) (.var 1) (.var 15)) (.b (.bin .lss) (.var 15) (.var 13)) (.lit (.bool false)))
 (.call false none 103 (.cn (.var 0) (.cn (.var 1) (.cn (.var 15) (.cn (.var 13) (.cn (.var 4) .nl)))))
 .nxt)
 .nxt)
 (.ite (.ite (.b (.bin .lss) (.var 13) (.var 19)) (.b (.bin .lss) (.var 19) (.var 3)) (.lit (.bool false)))
 (.call false none 103 (.cn (.var 0) (.cn (.var 13) (.cn (.var 19) (.cn (.var 3) (.cn (.var 4) .nl)))))
 .nxt)
 .nxt)))))))))))))
def f_slices_symMergeCmpFunc : Fun:=⟨s_slices_symMergeCmpFunc,[]⟩
abbrev v_slices_symMergeCmpFunc : List Nat:=[0,1,2,3,4,10,11,12,13,14,15,16,17,18,19,20,21,22,23,24,49,74,101,126,169]
theorem vr_slices_symMergeCmpFunc : VRof P n_slices_symMergeCmpFunc s_slices_symMergeCmpFunc f_slices_symMergeCmpFunc v_slices_symMergeCmpFunc 220:=vo Try.func103 (by kernel_rfl) Try.ntmps103 rfl
theorem r_slices_symMergeCmpFunc : Fun.res f_slices_symMergeCmpFunc=[]:=rfl
abbrev g_slices_symMergeCmpFunc_0 : List Nat:=[5,6,7,20]
abbrev g_slices_symMergeCmpFunc_1 : List Nat:=[8,21]
abbrev g_slices_symMergeCmpFunc_2 : List Nat:=[9,10,11,22]
abbrev g_slices_symMergeCmpFunc_3 : List Nat:=[12,23]
abbrev g_slices_symMergeCmpFunc_4 : List Nat:=[15,16,18,24]
abbrev n_slices_rotateCmpFunc : Nat:=104
def s_slices_rotateCmpFunc : S :=
 (.set 5 (.b (.bin .sub) (.var 2) (.var 1))
 (.set 6 (.b (.bin .sub) (.var 3) (.var 2))
 (.seq
 (.blk 0
 (.loop
 (.seq
 (.ite (.b (.bin .neq) (.var 5) (.var 6))
 .nxt
 (.exit 0))
 (.blk 1
 (.ite (.b (.bin .gtr) (.var 5) (.var 6))
 (.call false none 105 (.cn (.var 0) (.cn (.b (.bin .sub) (.var 2) (.var 5)) (.cn (.var 2) (.cn (.var 6) (.cn (.var 4) .nl)))))
 (.set 5 (.b (.bin .sub) (.var 5) (.var 6))
 .nxt))
 (.call false none 105 (.cn (.var 0) (.cn (.b (.bin .sub) (.var 2) (.var 5)) (.cn (.b (.bin .sub) (.b (.bin .add) (.var 2) (.var 6)) (.var 5)) (.cn (.var 5) (.cn (.var 4) .nl)))))
 (.set 6 (.b (.bin .sub) (.var 6) (.var 5))
 .nxt)))))))
 (.call false none 105 (.cn (.var 0) (.cn (.b (.bin .sub) (.var 2) (.var 5)) (.cn (.var 2) (.cn (.var 5) (.cn (.var 4) .nl)))))
 .nxt))))
def f_slices_rotateCmpFunc : Fun:=⟨s_slices_rotateCmpFunc,[]⟩
abbrev v_slices_rotateCmpFunc : List Nat:=[0,1,2,3,4,10,11]
theorem vr_slices_rotateCmpFunc : VRof P n_slices_rotateCmpFunc s_slices_rotateCmpFunc f_slices_rotateCmpFunc v_slices_rotateCmpFunc 58:=vo Try.func104 (by kernel_rfl) Try.ntmps104 rfl
theorem r_slices_rotateCmpFunc : Fun.res f_slices_rotateCmpFunc=[]:=rfl
abbrev g_slices_rotateCmpFunc_0 : List Nat:=[5,6]
abbrev n_slices_swapRangeCmpFunc : Nat:=105
def s_slices_swapRangeCmpFunc : S :=
 (.set 5 (.lit (.int .i64 0))
 (.blk 0
 (.loop
 (.seq
 (.ite (.b (.bin .lss) (.var 5) (.var 3))
 .nxt
 (.exit 0))
 (.seq
 (.blk 1
 (.chk (.b (.bin .add) (.var 1) (.var 5))
 (.chk (.u .ld1 (.b (.idx 1) (.var 0) (.b (.bin .add) (.var 2) (.var 5))))
 (.set 6 (.u .ld1 (.b (.idx 1) (.var 0) (.b (.bin .add) (.var 1) (.var 5))))
 (.eff false none (.st 1 (.b (.idx 1) (.var 0) (.b (.bin .add) (.var 1) (.var 5))) (.u .ld1 (.b (.idx 1) (.var 0) (.b (.bin .add) (.var 2) (.var 5)))))
 (.eff false none (.st 1 (.b (.idx 1) (.var 0) (.b (.bin .add) (.var 2) (.var 5))) (.var 6))
 .nxt))))))
 (.set 5 (.b (.bin .add) (.var 5) (.lit (.int .i64 1)))
 .nxt))))))
def f_slices_swapRangeCmpFunc : Fun:=⟨s_slices_swapRangeCmpFunc,[]⟩
abbrev v_slices_swapRangeCmpFunc : List Nat:=[0,1,2,3,4,10,35]
theorem vr_slices_swapRangeCmpFunc : VRof P n_slices_swapRangeCmpFunc s_slices_swapRangeCmpFunc f_slices_swapRangeCmpFunc v_slices_swapRangeCmpFunc 38:=vo Try.func105 (by kernel_rfl) Try.ntmps105 rfl
theorem r_slices_swapRangeCmpFunc : Fun.res f_slices_swapRangeCmpFunc=[]:=rfl
abbrev g_slices_swapRangeCmpFunc_0 : List Nat:=[5,6]
abbrev n_plant_state_step : Nat:=54
def s_plant_state_step : S :=
 (.eff false (some 2) (.box 117 (.var 0))
 (.eff false (some 1) (.alloc 34 [(.int .i64 0)])
 (.call false (some 21) 72 (.cn (.u .ld1 (.u (.fld 4) (.u .nilc (.u .ld1 (.var 2))))) .nl)
 (.eff false (some 3) (.alloc 39 [(.slice none 0 0)])
 (.eff false none (.st 1 (.var 3) (.var 21))
 (.seq
 (.blk 9999
 (.set 5 (.u .len (.u .ld1 (.u (.fld 4) (.u .nilc (.u .ld1 (.var 2))))))
 (.set 4 (.lit (.int .i64 0))
 (.seq
 (.blk 0
 (.loop
 (.set 6 (.b (.bin .lss) (.var 4) (.var 5))
 (.seq
 (.ite (.var 6)
 .nxt
 (.exit 0))
 (.seq
 (.blk 1
 (.set 7 (.var 4)
 (.set 22 (.u .ld1 (.u (.fld 4) (.u .nilc (.u .ld1 (.var 2)))))
 (.call true (some 26) 56 (.cn (.u .ld1 (.b (.idx 1) (.u .ld1 (.u (.fld 4) (.u .nilc (.u .ld1 (.var 2))))) (.var 7))) .nl)
 (.eff false none (.st 1 (.b (.idx 1) (.var 22) (.var 7)) (.var 26))
 .nxt)))))
 (.set 4 (.b (.bin .add) (.var 4) (.lit (.int .i64 1)))
 .nxt))))))
 (.set 11 (.u .ld1 (.u (.fld 2) (.u (.fld 0) (.u .nilc (.u .ld1 (.var 2))))))
 (.set 9 (.u .len (.var 11))
 (.set 8 (.lit (.int .i64 0))
 (.seq
 (.blk 2
 (.loop
 (.set 10 (.b (.bin .lss) (.var 8) (.var 9))
 (.seq
 (.ite (.var 10)
 .nxt
 (.exit 2))
 (.seq
 (.blk 3
 (.chk (.u (.lda 4) (.b (.idx 4) (.var 11) (.var 8)))
 (.eff false (some 15) (.alloc 62 [(.int .i64 0),(.int .i64 0),(.int .i64 0),(.int .i64 0)])
 (.set 12 (.var 8)
 (.eff false none (.st 4 (.var 15) (.u (.lda 4) (.b (.idx 4) (.var 11) (.var 8))))
 (.call false (some 23) 74 (.cn (.u .ld1 (.var 2)) (.cn (.var 12) .nl))
 (.chk (.u (.ext 0) (.var 23))
 (.chk (.u (.ext 1) (.var 23))
 (.set 13 (.u (.ext 0) (.var 23))
 (.set 14 (.u (.ext 1) (.var 23))
 (.seq
 (.ite (.b (.bin .neq) (.var 14) (.lit (.int .i64 0)))
 (.eff false none (.st 1 (.var 1) (.var 14))
 (.exit 9999))
 .nxt)
 (.call false none 52 (.cn (.u .ld1 (.b (.idx 1) (.u .ld1 (.u (.fld 4) (.u .nilc (.u .ld1 (.var 2))))) (.u .ld1 (.u (.fld 2) (.var 15))))) (.cn (.var 13) .nl))
 .nxt))))))))))))
 (.set 8 (.b (.bin .add) (.var 8) (.lit (.int .i64 1)))
 .nxt))))))
 (.set 17 (.u .len (.u .ld1 (.u (.fld 1) (.u (.fld 0) (.u .nilc (.u .ld1 (.var 2)))))))
 (.set 16 (.lit (.int .i64 0))
 (.seq
 (.blk 4
 (.loop
 (.set 18 (.b (.bin .lss) (.var 16) (.var 17))
 (.seq
 (.ite (.var 18)
 .nxt
 (.exit 4))
 (.seq
 (.blk 5
 (.set 19 (.var 16)
 (.call false (some 24) 70 (.cn (.u .ld1 (.var 2)) (.cn (.var 19) .nl))
 (.seq
 (.ite (.ite (.var 24) (.lit (.bool true)) (.u .ld1 (.b (.idx 1) (.u .ld1 (.u (.fld 6) (.u .nilc (.u .ld1 (.var 2))))) (.var 19))))
 (.exit 5)
 .nxt)
 (.call false (some 25) 75 (.cn (.u .ld1 (.var 2)) (.cn (.var 19) .nl))
 (.set 20 (.var 25)
 (.ite (.b (.bin .neq) (.var 20) (.lit (.int .i64 0)))
 (.eff false none (.st 1 (.var 1) (.var 20))
 (.exit 9999))
 .nxt)))))))
 (.set 16 (.b (.bin .add) (.var 16) (.lit (.int .i64 1)))
 .nxt))))))
 (.eff false none (.st 1 (.var 1) (.lit (.int .i64 0)))
 (.exit 9999)))))))))))))
 (.ite (.b (.bin .neq) (.u .ld1 (.var 1)) (.lit (.int .i64 0)))
 (.eff false none (.st 1 (.u (.fld 4) (.u .nilc (.u .ld1 (.var 2)))) (.u .ld1 (.var 3)))
 .nxt)
 .nxt)))))))
def f_plant_state_step : Fun:=⟨s_plant_state_step,[(.u .ld1 (.var 1))]⟩
abbrev v_plant_state_step : List Nat:=[0,2,1,3,22,21,23,4,46,45,47,44,5,7,8,6,77,76,78,9,10,15,28,54,82,94,37]
theorem vr_plant_state_step : VRof P n_plant_state_step s_plant_state_step f_plant_state_step v_plant_state_step 99:=vod Try.func54 Try.func73 (V:=v_plant_state_step_1) (by kernel_rfl) Try.ntmps54 rfl
theorem r_plant_state_step : Fun.res f_plant_state_step=[(.u .ld1 (.var 1))]:=rfl
abbrev g_plant_state_step_0 : List Nat:=[4,6,7,22,26]
abbrev g_plant_state_step_1 : List Nat:=[8,10,12,13,14,15,23]
abbrev g_plant_state_step_2 : List Nat:=[16,18,19,20,24,25]
abbrev n_setpoint_Best : Nat:=13
def s_setpoint_Best : S :=
 (.eff false (some 6) (.box 25 (.var 0))
 (.eff false (some 8) (.box 26 (.var 1))
 (.eff false (some 10) (.box 29 (.var 2))
 (.eff false (some 12) (.box 30 (.var 3))
 (.eff false (some 4) (.alloc 47 [(.slice none 0 0),(.int .i64 0)])
 (.set 5 (.lit (.int .i64 0))
 (.call false (some 22) 21 (.cn (.u (.lda 4) (.var 6)) .nl)
 (.set 7 (.var 22)
 (.seq
 (.ite (.b (.bin .neq) (.var 7) (.lit (.int .i64 0)))
 (.chk (.bld [(.slice none 0 0),(.int .i64 0)] .nl)
 (.eff false none (.st 2 (.var 4) (.bld [(.slice none 0 0),(.int .i64 0)] .nl))
 (.set 5 (.var 7)
 .ret)))
 .nxt)
 (.call false (some 23) 22 (.cn (.u (.lda 4) (.var 6)) (.cn (.u .ld1 (.var 8)) .nl))
 (.set 9 (.var 23)
 (.seq
 (.ite (.b (.bin .neq) (.var 9) (.lit (.int .i64 0)))
 (.chk (.bld [(.slice none 0 0),(.int .i64 0)] .nl)
 (.eff false none (.st 2 (.var 4) (.bld [(.slice none 0 0),(.int .i64 0)] .nl))
 (.set 5 (.var 9)
 .ret)))
 .nxt)
 (.call false (some 24) 32 (.cn (.u .ld1 (.var 8)) .nl)
 (.seq
 (.ite (.var 24)
 (.chk (.bld [(.slice none 0 0),(.int .i64 0)] .nl)
 (.eff false none (.st 2 (.var 4) (.bld [(.slice none 0 0),(.int .i64 0)] .nl))
 (.set 5 (.lit (.int .i64 8))
 .ret)))
 .nxt)
 (.call false (some 25) 26 (.cn (.u (.lda 4) (.var 6)) (.cn (.u .ld1 (.var 10)) .nl))
 (.set 11 (.var 25)
 (.seq
 (.ite (.b (.bin .neq) (.var 11) (.lit (.int .i64 0)))
 (.chk (.bld [(.slice none 0 0),(.int .i64 0)] .nl)
 (.eff false none (.st 2 (.var 4) (.bld [(.slice none 0 0),(.int .i64 0)] .nl))
 (.set 5 (.var 11)
 .ret)))
 .nxt)
 (.call false (some 26) 33 (.cn (.u (.lda 4) (.var 6)) (.cn (.u .ld1 (.var 12)) .nl))
 (.set 13 (.var 26)
 (.seq
 (.ite (.b (.bin .neq) (.var 13) (.lit (.int .i64 0)))
 (.chk (.bld [(.slice none 0 0),(.int .i64 0)] .nl)
 (.eff false none (.st 2 (.var 4) (.bld [(.slice none 0 0),(.int .i64 0)] .nl))
 (.set 5 (.var 13)
 .ret)))
 .nxt)
 (.chk (.bld [(.slice none 0 0),(.int .i64 0)] .nl)
 (.eff false (some 21) (.alloc 47 [(.slice none 0 0),(.int .i64 0)])
 (.eff false (some 20) (.alloc 4 [(.bool false)])
 (.eff false none (.st 2 (.var 21) (.bld [(.slice none 0 0),(.int .i64 0)] .nl))
 (.eff false none (.st 1 (.var 20) (.lit (.bool false)))
 (.call false (some 14) 34 (.cn (.u .ld1 (.var 8)) .nl)
 .nxt))))))))))))))))))))))))))
def sa_setpoint_Best : S :=
 (.set 16 (.var 15)
 .nxt)
def sb_setpoint_Best : S :=
 (.blk 1
 (.chk (.u (.lda 4) (.var 6))
 (.chk (.u .ld1 (.var 8))
 (.set 28 (.u .ld1 (.var 10))
 (.call true (some 27) 23 (.cn (.u (.lda 4) (.var 6)) (.cn (.u .ld1 (.var 8)) (.cn (.var 16) .nl)))
 (.call false (some 30) 12 (.cn (.var 27) (.cn (.var 28) .nl))
 (.chk (.u (.ext 0) (.var 30))
 (.chk (.u (.ext 1) (.var 30))
 (.set 17 (.u (.ext 0) (.var 30))
 (.set 18 (.u (.ext 1) (.var 30))
 (.seq
 (.ite (.b (.bin .neq) (.var 18) (.lit (.int .i64 0)))
 (.exit 1)
 .nxt)
 (.chk (.u .ld1 (.var 12))
 (.set 29 (.u .ld1 (.var 8))
 (.call true (some 31) 35 (.cn (.var 17) (.cn (.u .ld1 (.var 12)) .nl))
 (.call false (some 32) 36 (.cn (.var 29) (.cn (.var 16) .nl))
 (.set 19 (.b (.bin .sub) (.var 31) (.var 32))
 (.ite (.ite (.u (.un .not) (.u .ld1 (.var 20))) (.lit (.bool true)) (.b (.bin .gtr) (.var 19) (.u .ld1 (.u (.fld 1) (.var 21)))))
 (.chk (.bld [(.slice none 0 0),(.int .i64 0)] (.pl 0 1 (.var 16) (.pl 1 1 (.var 19) .nl)))
 (.eff false none (.st 2 (.var 21) (.bld [(.slice none 0 0),(.int .i64 0)] (.pl 0 1 (.var 16) (.pl 1 1 (.var 19) .nl))))
 (.eff false none (.st 1 (.var 20) (.lit (.bool true)))
 .nxt)))
 .nxt)))))))))))))))))
def sc_setpoint_Best : S :=
 (.seq
 (.ite (.u (.un .not) (.u .ld1 (.var 20)))
 (.chk (.bld [(.slice none 0 0),(.int .i64 0)] .nl)
 (.eff false none (.st 2 (.var 4) (.bld [(.slice none 0 0),(.int .i64 0)] .nl))
 (.set 5 (.lit (.int .i64 40))
 .ret)))
 .nxt)
 (.eff false none (.st 2 (.var 4) (.u (.lda 2) (.var 21)))
 (.set 5 (.lit (.int .i64 0))
 .ret)))
abbrev v_setpoint_Best : List Nat:=[0,1,2,3,8,9,4,10,5,11,6,12,7,13,52,53,16,17,18,19,15,14,21,28,34,38,45,58,59,68,60,67,70]
theorem vr_setpoint_Best : VRofR P n_setpoint_Best s_setpoint_Best sa_setpoint_Best sb_setpoint_Best sc_setpoint_Best (.var 14) 15 [(.u (.lda 2) (.var 4)),(.var 5)] v_setpoint_Best 87:=VRofR.of P_mixed Try.func13 (by kernel_rfl) Try.ntmps13
end Go.Proofs.Ytcppaddgclkekaa
