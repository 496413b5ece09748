/- Lemmas and walks that the proof of LayoutForward uses. No statement is claimed here. -/
import Derived.Test.YtjhdedifmhkhbaaLayoutForwardZah
import Derived.Test.YtjhdedifmhkhbaaChecked
import Derived.KernelRfl
namespace Go.Proofs.Ytjhdedifmhkhbaa
open Go Go.Lft
set_option maxRecDepth 100000
noncomputable abbrev P : Program := Go.Proofs.Try.prog
theorem P_mixed : P.follows .mixedOrders = true := by kernel_rfl

/-- recycling/recyclinglaw34.LayoutForward -/
abbrev n_law34_LayoutForward : Nat := 10
def s_law34_LayoutForward : S :=
 (.eff false (some 2) (.box 25 (.var 0))
 (.set 1 (.lit (.bool false))
 (.call false (some 11) 11 (.cn (.u (.lda 4) (.var 2)) .nl)
 (.seq
  (.ite (.var 11)
   (.call false (some 12) 12 .nl
   (.set 1 (.var 12)
   .ret))
   .nxt)
 (.call false (some 13) 24 (.cn (.u (.lda 4) (.var 2)) .nl)
 (.chk (.u (.ext 0) (.var 13))
 (.chk (.u (.ext 1) (.var 13))
 (.set 3 (.u (.ext 0) (.var 13))
 (.set 4 (.u (.ext 1) (.var 13))
 (.seq
  (.ite (.b (.bin .neq) (.var 4) (.lit (.int .i64 0)))
   (.seq
    (.ite (.b (.bin .eql) (.u .len (.var 3)) (.lit (.int .i64 0)))
     (.call false (some 14) 12 .nl
     (.set 1 (.var 14)
     .nxt))
     (.set 14 (.lit undef)
     (.set 1 (.lit (.bool false))
     .nxt)))
   .ret)
   .nxt)
 (.call false (some 15) 15 (.cn (.u (.lda 4) (.var 2)) .nl)
 (.chk (.u (.ext 0) (.var 15))
 (.chk (.u (.ext 1) (.var 15))
 (.eff false (some 6) (.alloc 33 [(.int .i64 0), (.slice none 0 0)])
 (.eff false none (.st 2 (.var 6) (.u (.ext 0) (.var 15)))
 (.set 5 (.u (.ext 1) (.var 15))
 (.call false (some 16) 29 (.cn (.u (.lda 2) (.var 6)) .nl)
 (.chk (.u (.ext 0) (.var 16))
 (.chk (.u (.ext 1) (.var 16))
 (.set 7 (.u (.ext 0) (.var 16))
 (.set 8 (.u (.ext 1) (.var 16))
 (.call false (some 17) 22 (.cn (.u (.lda 4) (.var 2)) .nl)
 (.chk (.u (.ext 0) (.var 17))
 (.chk (.u (.ext 1) (.var 17))
 (.set 9 (.u (.ext 0) (.var 17))
 (.set 10 (.u (.ext 1) (.var 17))
 (.seq
  (.ite (.ite (.ite (.ite (.b (.bin .eql) (.var 5) (.lit (.int .i64 0))) (.b (.bin .eql) (.var 10) (.lit (.int .i64 0))) (.lit (.bool false))) (.b (.eqb false) (.b (.bin .eql) (.var 8) (.lit (.int .i64 0))) (.b (.bin .eql) (.u .len (.var 3)) (.lit (.int .i64 0)))) (.lit (.bool false))) (.ite (.b (.bin .gtr) (.u .len (.var 3)) (.lit (.int .i64 0))) (.lit (.bool true)) (.var 9)) (.lit (.bool false)))
   (.call false (some 18) 12 .nl
   (.set 1 (.var 18)
   .nxt))
   (.set 18 (.lit undef)
   (.set 1 (.lit (.bool false))
   .nxt)))
 .ret)))))))))))))))))))))))))))
def f_law34_LayoutForward : Fun := ⟨s_law34_LayoutForward, [(.var 1)]⟩
abbrev v_law34_LayoutForward : List Nat := [0, 2, 1, 3, 4, 6, 5, 7, 8, 9, 10, 12, 13, 16, 25, 29, 34, 39, 65]
theorem c_law34_LayoutForward : compF P Go.Proofs.Try.f10 v_law34_LayoutForward = some f_law34_LayoutForward := by kernel_rfl
theorem of_law34_LayoutForward {args : List Value} (hn : args.length ≤ 67) {h : Heap} {R : Value → Heap → Prop} (hs : s_law34_LayoutForward.wp P (f_law34_LayoutForward.post R) (env0 v_law34_LayoutForward args) h) : Runs P n_law34_LayoutForward args h R := fn_of P_mixed Go.Proofs.Try.func10 c_law34_LayoutForward (by rw [Go.Proofs.Try.ntmps10]; exact hn) hs
theorem vr_law34_LayoutForward {kp : Bool} {args : List A} {H : List Blk} {R : A → List Blk → Prop} (hlen : args.length ≤ 67) (hk : kp = false ∨ H = []) (hw : (∀ B ∈ H, A.bdL H.length B.cells = true) → A.bdL H.length args = true → s_law34_LayoutForward.aw P H.length (postA H.length f_law34_LayoutForward R) (envA v_law34_LayoutForward args) H) : VR P kp n_law34_LayoutForward args H R := VR.of (F := f_law34_LayoutForward) (V := v_law34_LayoutForward) of_law34_LayoutForward hlen hk fun h1 h2 => aw_sound (hw h1 h2)
theorem r_law34_LayoutForward : Fun.res f_law34_LayoutForward = [(.var 1)] := rfl

/-- recycling/recyclinglaw34.great -/
abbrev n_law34_great : Nat := 11
def s_law34_great : S :=
 (.eff false (some 2) (.box 25 (.var 0))
 (.set 1 (.lit (.bool false))
 (.seq
  (.ite (.ite (.b (.bin .gtr) (.u .len (.u .ld1 (.u (.fld 1) (.var 2)))) (.lit (.int .i64 30))) (.lit (.bool true)) (.b (.bin .gtr) (.u .len (.u .ld1 (.u (.fld 2) (.var 2)))) (.lit (.int .i64 60))))
   (.set 1 (.lit (.bool true))
   .ret)
   .nxt)
 (.set 3 (.lit (.int .i64 0))
 (.seq
  (.blk 0
   (.loop
    (.seq
     (.ite (.b (.bin .lss) (.var 3) (.u .len (.u .ld1 (.u (.fld 1) (.var 2)))))
      .nxt
      (.exit 0))
    (.seq
     (.blk 1
      (.seq
       (.ite (.b (.bin .gtr) (.u .len (.u .ld1 (.u (.fld 0) (.b (.idx 1) (.u .ld1 (.u (.fld 1) (.var 2))) (.var 3))))) (.lit (.int .i64 20)))
        (.set 1 (.lit (.bool true))
        .ret)
        .nxt)
      (.set 4 (.lit (.int .i64 0))
      (.blk 2
       (.loop
        (.seq
         (.ite (.b (.bin .lss) (.var 4) (.u .len (.u .ld1 (.u (.fld 0) (.b (.idx 1) (.u .ld1 (.u (.fld 1) (.var 2))) (.var 3))))))
          .nxt
          (.exit 2))
        (.seq
         (.blk 3
          (.ite (.b (.bin .gtr) (.u .len (.u .ld1 (.b (.idx 1) (.u .ld1 (.u (.fld 0) (.b (.idx 1) (.u .ld1 (.u (.fld 1) (.var 2))) (.var 3)))) (.var 4)))) (.lit (.int .i64 20)))
           (.set 1 (.lit (.bool true))
           .ret)
           .nxt))
        (.set 4 (.b (.bin .add) (.var 4) (.lit (.int .i64 1)))
        .nxt))))))))
    (.set 3 (.b (.bin .add) (.var 3) (.lit (.int .i64 1)))
    .nxt)))))
 (.set 1 (.lit (.bool false))
 .ret))))))
def f_law34_great : Fun := ⟨s_law34_great, [(.var 1)]⟩
abbrev v_law34_great : List Nat := [0, 2, 1, 3, 4]
theorem c_law34_great : compF P Go.Proofs.Try.f11 v_law34_great = some f_law34_great := by kernel_rfl
theorem of_law34_great {args : List Value} (hn : args.length ≤ 52) {h : Heap} {R : Value → Heap → Prop} (hs : s_law34_great.wp P (f_law34_great.post R) (env0 v_law34_great args) h) : Runs P n_law34_great args h R := fn_of P_mixed Go.Proofs.Try.func11 c_law34_great (by rw [Go.Proofs.Try.ntmps11]; exact hn) hs
theorem vr_law34_great {kp : Bool} {args : List A} {H : List Blk} {R : A → List Blk → Prop} (hlen : args.length ≤ 52) (hk : kp = false ∨ H = []) (hw : (∀ B ∈ H, A.bdL H.length B.cells = true) → A.bdL H.length args = true → s_law34_great.aw P H.length (postA H.length f_law34_great R) (envA v_law34_great args) H) : VR P kp n_law34_great args H R := VR.of (F := f_law34_great) (V := v_law34_great) of_law34_great hlen hk fun h1 h2 => aw_sound (hw h1 h2)
theorem r_law34_great : Fun.res f_law34_great = [(.var 1)] := rfl
abbrev g_law34_great_0 : List Nat := [1, 3, 4]
abbrev g_law34_great_1 : List Nat := [1, 4]

/-- recycling/recyclinglaw34.awake -/
abbrev n_law34_awake : Nat := 12
def s_law34_awake : S :=
 (.set 0 (.lit (.bool false))
 (.call false (some 19) 30 (.cn (.lit (.int .i64 900)) (.cn (.lit (.int .i64 100)) .nl))
 (.call false (some 29) 30 (.cn (.lit (.int .i64 0)) (.cn (.lit (.int .i64 1000)) .nl))
 (.eff false (some 1) (.alloc 25 [(.int .i64 0), (.slice none 0 0), (.slice none 0 0), (.int .i64 0)])
 (.eff false (some 10) (.alloc 25 [(.int .i64 0), (.slice none 0 0), (.slice none 0 0), (.int .i64 0)])
 (.eff false none (.st 4 (.var 1) (.var 19))
 (.eff false none (.st 4 (.var 10) (.var 29))
 (.call false (some 20) 22 (.cn (.u (.lda 4) (.var 1)) .nl)
 (.chk (.u (.ext 0) (.var 20))
 (.chk (.u (.ext 1) (.var 20))
 (.set 2 (.u (.ext 0) (.var 20))
 (.set 3 (.u (.ext 1) (.var 20))
 (.call false (some 21) 20 (.cn (.u (.lda 4) (.var 1)) (.cn (.lit (.int .i64 0)) (.cn (.lit (.int .i64 0)) .nl)))
 (.chk (.u (.ext 0) (.var 21))
 (.chk (.u (.ext 1) (.var 21))
 (.set 4 (.u (.ext 0) (.var 21))
 (.set 5 (.u (.ext 1) (.var 21))
 (.call false (some 22) 20 (.cn (.u (.lda 4) (.var 1)) (.cn (.lit (.int .i64 1)) (.cn (.lit (.int .i64 0)) .nl)))
 (.chk (.u (.ext 0) (.var 22))
 (.chk (.u (.ext 1) (.var 22))
 (.set 6 (.u (.ext 0) (.var 22))
 (.set 7 (.u (.ext 1) (.var 22))
 (.call false (some 23) 24 (.cn (.u (.lda 4) (.var 1)) .nl)
 (.chk (.u (.ext 0) (.var 23))
 (.chk (.u (.ext 1) (.var 23))
 (.set 8 (.u (.ext 0) (.var 23))
 (.set 9 (.u (.ext 1) (.var 23))
 (.call false (some 24) 22 (.cn (.u (.lda 4) (.var 10)) .nl)
 (.chk (.u (.ext 0) (.var 24))
 (.chk (.u (.ext 1) (.var 24))
 (.set 11 (.u (.ext 0) (.var 24))
 (.set 12 (.u (.ext 1) (.var 24))
 (.call false (some 25) 20 (.cn (.u (.lda 4) (.var 10)) (.cn (.lit (.int .i64 0)) (.cn (.lit (.int .i64 0)) .nl)))
 (.chk (.u (.ext 0) (.var 25))
 (.chk (.u (.ext 1) (.var 25))
 (.set 13 (.u (.ext 0) (.var 25))
 (.set 14 (.u (.ext 1) (.var 25))
 (.call false (some 26) 17 (.cn (.u (.lda 4) (.var 1)) (.cn (.lit (.int .i64 0)) (.cn (.lit (.int .i64 1)) .nl)))
 (.chk (.u (.ext 0) (.var 26))
 (.chk (.u (.ext 1) (.var 26))
 (.set 15 (.u (.ext 0) (.var 26))
 (.set 16 (.u (.ext 1) (.var 26))
 (.call false (some 27) 15 (.cn (.u (.lda 4) (.var 1)) .nl)
 (.chk (.u (.ext 0) (.var 27))
 (.chk (.u (.ext 1) (.var 27))
 (.eff false (some 18) (.alloc 33 [(.int .i64 0), (.slice none 0 0)])
 (.eff false none (.st 2 (.var 18) (.u (.ext 0) (.var 27)))
 (.set 17 (.u (.ext 1) (.var 27))
 (.chk (.ite (.ite (.ite (.ite (.ite (.ite (.var 2) (.b (.bin .eql) (.var 3) (.lit (.int .i64 0))) (.lit (.bool false))) (.b (.bin .eql) (.var 4) (.lit (.int .i64 2))) (.lit (.bool false))) (.b (.bin .eql) (.var 5) (.lit (.int .i64 0))) (.lit (.bool false))) (.b (.bin .eql) (.var 6) (.lit (.int .i64 0))) (.lit (.bool false))) (.b (.bin .eql) (.var 7) (.lit (.int .i64 0))) (.lit (.bool false))) (.var 8) (.lit undef))
 (.seq
  (.ite (.ite (.ite (.ite (.ite (.ite (.var 2) (.b (.bin .eql) (.var 3) (.lit (.int .i64 0))) (.lit (.bool false))) (.b (.bin .eql) (.var 4) (.lit (.int .i64 2))) (.lit (.bool false))) (.b (.bin .eql) (.var 5) (.lit (.int .i64 0))) (.lit (.bool false))) (.b (.bin .eql) (.var 6) (.lit (.int .i64 0))) (.lit (.bool false))) (.b (.bin .eql) (.var 7) (.lit (.int .i64 0))) (.lit (.bool false)))
   (.eff false (some 28) (.lit 3 1 1 [(.int .i64 0)] (.pl 0 1 (.lit (.int .i64 0)) .nl))
   (.eff false (some 30) (.lit 53 1 1 [(.slice none 0 0)] (.pl 0 1 (.var 28) .nl))
   (.call false (some 31) 26 (.cn (.var 8) (.cn (.var 30) .nl))
   (.chk (.ite (.ite (.ite (.ite (.ite (.ite (.ite (.ite (.var 31) (.b (.bin .eql) (.var 9) (.lit (.int .i64 0))) (.lit (.bool false))) (.u (.un .not) (.var 11)) (.lit (.bool false))) (.b (.bin .eql) (.var 12) (.lit (.int .i64 0))) (.lit (.bool false))) (.b (.bin .eql) (.var 14) (.lit (.int .i64 23))) (.lit (.bool false))) (.b (.bin .eql) (.var 15) (.lit (.int .i64 1))) (.lit (.bool false))) (.b (.bin .eql) (.var 16) (.lit (.int .i64 0))) (.lit (.bool false))) (.b (.bin .eql) (.var 17) (.lit (.int .i64 0))) (.lit (.bool false))) (.u (.lda 2) (.var 18)) (.lit undef))
   (.chk (.ite (.ite (.ite (.ite (.ite (.ite (.ite (.ite (.var 31) (.b (.bin .eql) (.var 9) (.lit (.int .i64 0))) (.lit (.bool false))) (.u (.un .not) (.var 11)) (.lit (.bool false))) (.b (.bin .eql) (.var 12) (.lit (.int .i64 0))) (.lit (.bool false))) (.b (.bin .eql) (.var 14) (.lit (.int .i64 23))) (.lit (.bool false))) (.b (.bin .eql) (.var 15) (.lit (.int .i64 1))) (.lit (.bool false))) (.b (.bin .eql) (.var 16) (.lit (.int .i64 0))) (.lit (.bool false))) (.b (.bin .eql) (.var 17) (.lit (.int .i64 0))) (.lit (.bool false))) (.bld [(.int .i64 0), (.int .i64 0)] (.pl 0 1 (.lit (.int .i64 0)) (.pl 1 1 (.lit (.int .i64 1)) .nl))) (.lit undef))
   (.chk (.ite (.ite (.ite (.ite (.ite (.ite (.ite (.ite (.var 31) (.b (.bin .eql) (.var 9) (.lit (.int .i64 0))) (.lit (.bool false))) (.u (.un .not) (.var 11)) (.lit (.bool false))) (.b (.bin .eql) (.var 12) (.lit (.int .i64 0))) (.lit (.bool false))) (.b (.bin .eql) (.var 14) (.lit (.int .i64 23))) (.lit (.bool false))) (.b (.bin .eql) (.var 15) (.lit (.int .i64 1))) (.lit (.bool false))) (.b (.bin .eql) (.var 16) (.lit (.int .i64 0))) (.lit (.bool false))) (.b (.bin .eql) (.var 17) (.lit (.int .i64 0))) (.lit (.bool false))) (.bld [(.int .i64 0), (.int .i64 0)] (.pl 0 1 (.lit (.int .i64 0)) (.pl 1 1 (.lit (.int .i64 0)) .nl))) (.lit undef))
   (.ite (.ite (.ite (.ite (.ite (.ite (.ite (.ite (.var 31) (.b (.bin .eql) (.var 9) (.lit (.int .i64 0))) (.lit (.bool false))) (.u (.un .not) (.var 11)) (.lit (.bool false))) (.b (.bin .eql) (.var 12) (.lit (.int .i64 0))) (.lit (.bool false))) (.b (.bin .eql) (.var 14) (.lit (.int .i64 23))) (.lit (.bool false))) (.b (.bin .eql) (.var 15) (.lit (.int .i64 1))) (.lit (.bool false))) (.b (.bin .eql) (.var 16) (.lit (.int .i64 0))) (.lit (.bool false))) (.b (.bin .eql) (.var 17) (.lit (.int .i64 0))) (.lit (.bool false)))
    (.eff false (some 32) (.lit 58 2 2 [(.int .i64 0), (.int .i64 0)] (.pl 0 2 (.bld [(.int .i64 0), (.int .i64 0)] (.pl 0 1 (.lit (.int .i64 0)) (.pl 1 1 (.lit (.int .i64 1)) .nl))) (.pl 2 2 (.bld [(.int .i64 0), (.int .i64 0)] (.pl 0 1 (.lit (.int .i64 0)) (.pl 1 1 (.lit (.int .i64 0)) .nl))) .nl)))
    (.chk (.bld [(.int .i64 0), (.slice none 0 0)] (.pl 0 1 (.lit (.int .i64 2)) (.pl 1 1 (.var 32) .nl)))
    (.call false (some 33) 19 (.cn (.u (.lda 2) (.var 18)) (.cn (.bld [(.int .i64 0), (.slice none 0 0)] (.pl 0 1 (.lit (.int .i64 2)) (.pl 1 1 (.var 32) .nl))) .nl))
    (.chk (.ite (.var 33) (.u (.lda 4) (.var 1)) (.lit undef))
    (.ite (.var 33)
     (.call false (some 34) 13 (.cn (.u (.lda 4) (.var 1)) .nl)
     (.set 0 (.b (.bin .eql) (.var 34) (.lit (.int .i64 0)))
     .nxt))
     (.set 34 (.lit undef)
     (.set 0 (.lit (.bool false))
     .nxt)))))))
    (.set 32 (.lit undef)
    (.set 33 (.lit undef)
    (.set 34 (.lit undef)
    (.set 0 (.lit (.bool false))
    .nxt)))))))))))
   (.set 28 (.lit undef)
   (.set 30 (.lit undef)
   (.set 31 (.lit undef)
   (.set 32 (.lit undef)
   (.set 33 (.lit undef)
   (.set 34 (.lit undef)
   (.set 0 (.lit (.bool false))
   .nxt))))))))
 .ret))))))))))))))))))))))))))))))))))))))))))))))))))
def f_law34_awake : Fun := ⟨s_law34_awake, [(.var 0)]⟩
abbrev v_law34_awake : List Nat := [0, 1, 3, 4, 5, 6, 7, 8, 9, 10, 2, 11, 12, 13, 14, 15, 16, 18, 17, 19, 23, 28, 33, 38, 43, 48, 53, 58, 84, 20, 85, 86, 120, 122, 126]
theorem c_law34_awake : compF P Go.Proofs.Try.f12 v_law34_awake = some f_law34_awake := by kernel_rfl
theorem of_law34_awake {args : List Value} (hn : args.length ≤ 129) {h : Heap} {R : Value → Heap → Prop} (hs : s_law34_awake.wp P (f_law34_awake.post R) (env0 v_law34_awake args) h) : Runs P n_law34_awake args h R := fn_of P_mixed Go.Proofs.Try.func12 c_law34_awake (by rw [Go.Proofs.Try.ntmps12]; exact hn) hs
theorem vr_law34_awake {kp : Bool} {args : List A} {H : List Blk} {R : A → List Blk → Prop} (hlen : args.length ≤ 129) (hk : kp = false ∨ H = []) (hw : (∀ B ∈ H, A.bdL H.length B.cells = true) → A.bdL H.length args = true → s_law34_awake.aw P H.length (postA H.length f_law34_awake R) (envA v_law34_awake args) H) : VR P kp n_law34_awake args H R := VR.of (F := f_law34_awake) (V := v_law34_awake) of_law34_awake hlen hk fun h1 h2 => aw_sound (hw h1 h2)
theorem r_law34_awake : Fun.res f_law34_awake = [(.var 0)] := rfl

/-- recycling/layout.Check -/
abbrev n_layout_Check : Nat := 13
def s_layout_Check : S :=
 (.eff false (some 2) (.box 25 (.var 0))
 (.set 1 (.lit (.int .i64 0))
 (.seq
  (.blk 0
   (.set 3 (.ite (.b (.bin .lss) (.u .ld1 (.u (.fld 0) (.var 2))) (.lit (.int .i64 1))) (.lit (.bool true)) (.b (.bin .gtr) (.u .ld1 (.u (.fld 0) (.var 2))) (.lit (.int .i64 16))))
   (.ite (.var 3)
    (.set 1 (.lit (.int .i64 1))
    .ret)
    (.set 4 (.b (.bin .eql) (.u .len (.u .ld1 (.u (.fld 1) (.var 2)))) (.lit (.int .i64 0)))
    (.ite (.var 4)
     (.set 1 (.lit (.int .i64 10))
     .ret)
     (.set 5 (.ite (.b (.bin .gtr) (.u .len (.u .ld1 (.u (.fld 1) (.var 2)))) (.lit (.int .i64 24))) (.lit (.bool true)) (.b (.bin .gtr) (.u .len (.u .ld1 (.u (.fld 2) (.var 2)))) (.lit (.int .i64 48))))
     (.ite (.var 5)
      (.set 1 (.lit (.int .i64 8))
      .ret)
      .nxt)))))))
 (.set 9 (.u .ld1 (.u (.fld 1) (.var 2)))
 (.set 7 (.u .len (.var 9))
 (.set 6 (.lit (.int .i64 0))
 (.seq
  (.blk 1
   (.loop
    (.set 8 (.b (.bin .lss) (.var 6) (.var 7))
    (.seq
     (.ite (.var 8)
      .nxt
      (.exit 1))
    (.seq
     (.blk 2
      (.chk (.u (.lda 1) (.b (.idx 1) (.var 9) (.var 6)))
      (.eff false (some 10) (.alloc 48 [(.slice none 0 0)])
      (.eff false none (.st 1 (.var 10) (.u (.lda 1) (.b (.idx 1) (.var 9) (.var 6))))
      (.call false (some 15) 31 (.cn (.u (.lda 1) (.var 10)) (.cn (.u .ld1 (.u (.fld 0) (.var 2))) .nl))
      (.set 11 (.var 15)
      (.ite (.b (.bin .neq) (.var 11) (.lit (.int .i64 0)))
       (.set 1 (.var 11)
       .ret)
       .nxt)))))))
    (.set 6 (.b (.bin .add) (.var 6) (.lit (.int .i64 1)))
    .nxt))))))
 (.call false (some 16) 32 (.cn (.u (.lda 4) (.var 2)) .nl)
 (.set 12 (.var 16)
 (.seq
  (.ite (.b (.bin .neq) (.var 12) (.lit (.int .i64 0)))
   (.set 1 (.var 12)
   .ret)
   .nxt)
 (.seq
  (.blk 3
   (.call false (some 17) 33 (.cn (.u (.lda 4) (.var 2)) (.cn (.u .ld1 (.u (.fld 3) (.var 2))) .nl))
   (.set 13 (.u (.un .not) (.var 17))
   (.ite (.var 13)
    (.set 1 (.lit (.int .i64 7))
    .ret)
    (.call false (some 18) 34 (.cn (.u (.lda 4) (.var 2)) (.cn (.u .ld1 (.u (.fld 3) (.var 2))) .nl))
    (.set 14 (.var 18)
    (.ite (.var 14)
     (.set 1 (.lit (.int .i64 13))
     .ret)
     .nxt)))))))
 (.set 1 (.lit (.int .i64 0))
 .ret))))))))))))
def f_layout_Check : Fun := ⟨s_layout_Check, [(.var 1)]⟩
abbrev v_layout_Check : List Nat := [0, 2, 1, 7, 16, 21, 35, 34, 36, 33, 4, 5, 6, 52, 58, 42, 48, 56, 62]
theorem c_layout_Check : compF P Go.Proofs.Try.f13 v_layout_Check = some f_layout_Check := by kernel_rfl
theorem of_layout_Check {args : List Value} (hn : args.length ≤ 63) {h : Heap} {R : Value → Heap → Prop} (hs : s_layout_Check.wp P (f_layout_Check.post R) (env0 v_layout_Check args) h) : Runs P n_layout_Check args h R := fn_of P_mixed Go.Proofs.Try.func13 c_layout_Check (by rw [Go.Proofs.Try.ntmps13]; exact hn) hs
theorem vr_layout_Check {kp : Bool} {args : List A} {H : List Blk} {R : A → List Blk → Prop} (hlen : args.length ≤ 63) (hk : kp = false ∨ H = []) (hw : (∀ B ∈ H, A.bdL H.length B.cells = true) → A.bdL H.length args = true → s_layout_Check.aw P H.length (postA H.length f_layout_Check R) (envA v_layout_Check args) H) : VR P kp n_layout_Check args H R := VR.of (F := f_layout_Check) (V := v_layout_Check) of_layout_Check hlen hk fun h1 h2 => aw_sound (hw h1 h2)
theorem r_layout_Check : Fun.res f_layout_Check = [(.var 1)] := rfl
abbrev g_layout_Check_0 : List Nat := [1, 6, 8, 10, 11, 15]

/-- recycling/layout.Graph -/
abbrev n_layout_Graph : Nat := 15
def s_layout_Graph : S :=
 (.eff false (some 3) (.box 25 (.var 0))
 (.eff false (some 1) (.alloc 33 [(.int .i64 0), (.slice none 0 0)])
 (.set 2 (.lit (.int .i64 0))
 (.call false (some 11) 13 (.cn (.u (.lda 4) (.var 3)) .nl)
 (.set 4 (.var 11)
 (.seq
  (.ite (.b (.bin .neq) (.var 4) (.lit (.int .i64 0)))
   (.chk (.bld [(.int .i64 0), (.slice none 0 0)] .nl)
   (.eff false none (.st 2 (.var 1) (.bld [(.int .i64 0), (.slice none 0 0)] .nl))
   (.set 2 (.var 4)
   .ret)))
   .nxt)
 (.chk (.bld [(.int .i64 0), (.slice none 0 0)] (.pl 0 1 (.u .len (.u .ld1 (.u (.fld 1) (.var 3)))) .nl))
 (.eff false (some 9) (.alloc 33 [(.int .i64 0), (.slice none 0 0)])
 (.eff false none (.st 2 (.var 9) (.bld [(.int .i64 0), (.slice none 0 0)] (.pl 0 1 (.u .len (.u .ld1 (.u (.fld 1) (.var 3)))) .nl)))
 (.set 8 (.u .ld1 (.u (.fld 2) (.var 3)))
 (.set 6 (.u .len (.var 8))
 (.set 5 (.lit (.int .i64 0))
 (.seq
  (.blk 0
   (.loop
    (.set 7 (.b (.bin .lss) (.var 5) (.var 6))
    (.seq
     (.ite (.var 7)
      .nxt
      (.exit 0))
    (.seq
     (.blk 1
      (.chk (.u (.lda 4) (.b (.idx 4) (.var 8) (.var 5)))
      (.eff false (some 10) (.alloc 51 [(.int .i64 0), (.int .i64 0), (.int .i64 0), (.int .i64 0)])
      (.eff false none (.st 4 (.var 10) (.u (.lda 4) (.b (.idx 4) (.var 8) (.var 5))))
      (.chk (.u .ld1 (.u (.fld 1) (.var 9)))
      (.chk (.bld [(.int .i64 0), (.int .i64 0)] (.pl 0 1 (.u .ld1 (.u (.fld 0) (.var 10))) (.pl 1 1 (.u .ld1 (.u (.fld 2) (.var 10))) .nl)))
      (.eff false (some 12) (.lit 58 2 1 [(.int .i64 0), (.int .i64 0)] (.pl 0 2 (.bld [(.int .i64 0), (.int .i64 0)] (.pl 0 1 (.u .ld1 (.u (.fld 0) (.var 10))) (.pl 1 1 (.u .ld1 (.u (.fld 2) (.var 10))) .nl))) .nl))
      (.eff false (some 13) (.app 58 2 16 [(.int .i64 0), (.int .i64 0)] (.u .ld1 (.u (.fld 1) (.var 9))) (.var 12))
      (.eff false none (.st 1 (.u (.fld 1) (.var 9)) (.var 13))
      .nxt)))))))))
    (.set 5 (.b (.bin .add) (.var 5) (.lit (.int .i64 1)))
    .nxt))))))
 (.eff false none (.st 2 (.var 1) (.u (.lda 2) (.var 9)))
 (.set 2 (.lit (.int .i64 0))
 .ret)))))))))))))))
def f_layout_Graph : Fun := ⟨s_layout_Graph, [(.u (.lda 2) (.var 1)), (.var 2)]⟩
abbrev v_layout_Graph : List Nat := [0, 2, 3, 1, 4, 21, 20, 22, 19, 5, 7, 9, 32, 33]
theorem c_layout_Graph : compF P Go.Proofs.Try.f15 v_layout_Graph = some f_layout_Graph := by kernel_rfl
theorem of_layout_Graph {args : List Value} (hn : args.length ≤ 37) {h : Heap} {R : Value → Heap → Prop} (hs : s_layout_Graph.wp P (f_layout_Graph.post R) (env0 v_layout_Graph args) h) : Runs P n_layout_Graph args h R := fn_of P_mixed Go.Proofs.Try.func15 c_layout_Graph (by rw [Go.Proofs.Try.ntmps15]; exact hn) hs
theorem vr_layout_Graph {kp : Bool} {args : List A} {H : List Blk} {R : A → List Blk → Prop} (hlen : args.length ≤ 37) (hk : kp = false ∨ H = []) (hw : (∀ B ∈ H, A.bdL H.length B.cells = true) → A.bdL H.length args = true → s_layout_Graph.aw P H.length (postA H.length f_layout_Graph R) (envA v_layout_Graph args) H) : VR P kp n_layout_Graph args H R := VR.of (F := f_layout_Graph) (V := v_layout_Graph) of_layout_Graph hlen hk fun h1 h2 => aw_sound (hw h1 h2)
theorem r_layout_Graph : Fun.res f_layout_Graph = [(.u (.lda 2) (.var 1)), (.var 2)] := rfl
abbrev g_layout_Graph_0 : List Nat := [5, 7, 10, 12, 13]

/-- recycling/layout.Next -/
abbrev n_layout_Next : Nat := 17
def s_layout_Next : S :=
 (.eff false (some 5) (.box 25 (.var 0))
 (.set 3 (.lit (.int .i64 0))
 (.set 4 (.lit (.int .i64 0))
 (.call false (some 8) 13 (.cn (.u (.lda 4) (.var 5)) .nl)
 (.set 6 (.var 8)
 (.seq
  (.ite (.b (.bin .neq) (.var 6) (.lit (.int .i64 0)))
   (.set 3 (.lit (.int .i64 0))
   (.set 4 (.var 6)
   .ret))
   .nxt)
 (.call false (some 9) 39 (.cn (.u (.lda 4) (.var 5)) (.cn (.var 1) (.cn (.var 2) .nl)))
 (.set 7 (.var 9)
 (.seq
  (.ite (.b (.bin .lss) (.var 7) (.lit (.int .i64 0)))
   (.set 3 (.lit (.int .i64 0))
   (.set 4 (.lit (.int .i64 7))
   .ret))
   .nxt)
 (.set 3 (.var 7)
 (.set 4 (.lit (.int .i64 0))
 .ret)))))))))))
def f_layout_Next : Fun := ⟨s_layout_Next, [(.var 3), (.var 4)]⟩
abbrev v_layout_Next : List Nat := [0, 1, 2, 6, 7, 3, 8, 9, 11, 18]
theorem c_layout_Next : compF P Go.Proofs.Try.f17 v_layout_Next = some f_layout_Next := by kernel_rfl
theorem of_layout_Next {args : List Value} (hn : args.length ≤ 22) {h : Heap} {R : Value → Heap → Prop} (hs : s_layout_Next.wp P (f_layout_Next.post R) (env0 v_layout_Next args) h) : Runs P n_layout_Next args h R := fn_of P_mixed Go.Proofs.Try.func17 c_layout_Next (by rw [Go.Proofs.Try.ntmps17]; exact hn) hs
theorem vr_layout_Next {kp : Bool} {args : List A} {H : List Blk} {R : A → List Blk → Prop} (hlen : args.length ≤ 22) (hk : kp = false ∨ H = []) (hw : (∀ B ∈ H, A.bdL H.length B.cells = true) → A.bdL H.length args = true → s_layout_Next.aw P H.length (postA H.length f_layout_Next R) (envA v_layout_Next args) H) : VR P kp n_layout_Next args H R := VR.of (F := f_layout_Next) (V := v_layout_Next) of_layout_Next hlen hk fun h1 h2 => aw_sound (hw h1 h2)
theorem r_layout_Next : Fun.res f_layout_Next = [(.var 3), (.var 4)] := rfl

/-- recycling/recyclingref34.SameGraph -/
abbrev n_ref34_SameGraph : Nat := 19
def s_ref34_SameGraph : S :=
 (.eff false (some 3) (.box 33 (.var 0))
 (.eff false (some 4) (.box 33 (.var 1))
 (.set 2 (.lit (.bool false))
 (.seq
  (.ite (.ite (.b (.bin .neq) (.u .ld1 (.u (.fld 0) (.var 3))) (.u .ld1 (.u (.fld 0) (.var 4)))) (.lit (.bool true)) (.b (.bin .neq) (.u .len (.u .ld1 (.u (.fld 1) (.var 3)))) (.u .len (.u .ld1 (.u (.fld 1) (.var 4))))))
   (.set 2 (.lit (.bool false))
   .ret)
   .nxt)
 (.set 5 (.lit (.int .i64 0))
 (.seq
  (.blk 0
   (.loop
    (.seq
     (.ite (.b (.bin .lss) (.var 5) (.u .len (.u .ld1 (.u (.fld 1) (.var 3)))))
      .nxt
      (.exit 0))
    (.seq
     (.blk 1
      (.ite (.b (.eqi 2 true) (.u (.lda 2) (.b (.idx 2) (.u .ld1 (.u (.fld 1) (.var 3))) (.var 5))) (.u (.lda 2) (.b (.idx 2) (.u .ld1 (.u (.fld 1) (.var 4))) (.var 5))))
       (.set 2 (.lit (.bool false))
       .ret)
       .nxt))
    (.set 5 (.b (.bin .add) (.var 5) (.lit (.int .i64 1)))
    .nxt)))))
 (.set 2 (.lit (.bool true))
 .ret)))))))
def f_ref34_SameGraph : Fun := ⟨s_ref34_SameGraph, [(.var 2)]⟩
abbrev v_ref34_SameGraph : List Nat := [0, 1, 4, 2, 3, 5]
theorem c_ref34_SameGraph : compF P Go.Proofs.Try.f19 v_ref34_SameGraph = some f_ref34_SameGraph := by kernel_rfl
theorem of_ref34_SameGraph {args : List Value} (hn : args.length ≤ 38) {h : Heap} {R : Value → Heap → Prop} (hs : s_ref34_SameGraph.wp P (f_ref34_SameGraph.post R) (env0 v_ref34_SameGraph args) h) : Runs P n_ref34_SameGraph args h R := fn_of P_mixed Go.Proofs.Try.func19 c_ref34_SameGraph (by rw [Go.Proofs.Try.ntmps19]; exact hn) hs
theorem vr_ref34_SameGraph {kp : Bool} {args : List A} {H : List Blk} {R : A → List Blk → Prop} (hlen : args.length ≤ 38) (hk : kp = false ∨ H = []) (hw : (∀ B ∈ H, A.bdL H.length B.cells = true) → A.bdL H.length args = true → s_ref34_SameGraph.aw P H.length (postA H.length f_ref34_SameGraph R) (envA v_ref34_SameGraph args) H) : VR P kp n_ref34_SameGraph args H R := VR.of (F := f_ref34_SameGraph) (V := v_ref34_SameGraph) of_ref34_SameGraph hlen hk fun h1 h2 => aw_sound (hw h1 h2)
theorem r_ref34_SameGraph : Fun.res f_ref34_SameGraph = [(.var 2)] := rfl
abbrev g_ref34_SameGraph_0 : List Nat := [2, 5]

/-- recycling/layout.Height -/
abbrev n_layout_Height : Nat := 20
def s_layout_Height : S :=
 (.eff false (some 5) (.box 25 (.var 0))
 (.set 3 (.lit (.int .i64 0))
 (.set 4 (.lit (.int .i64 0))
 (.call false (some 9) 13 (.cn (.u (.lda 4) (.var 5)) .nl)
 (.set 6 (.var 9)
 (.seq
  (.ite (.b (.bin .neq) (.var 6) (.lit (.int .i64 0)))
   (.set 3 (.lit (.int .i64 0))
   (.set 4 (.var 6)
   .ret))
   .nxt)
 (.call false (some 10) 33 (.cn (.u (.lda 4) (.var 5)) (.cn (.var 1) .nl))
 (.seq
  (.ite (.u (.un .not) (.var 10))
   (.set 3 (.lit (.int .i64 0))
   (.set 4 (.lit (.int .i64 7))
   .ret))
   .nxt)
 (.seq
  (.ite (.ite (.b (.bin .lss) (.var 2) (.lit (.int .i64 0))) (.lit (.bool true)) (.b (.bin .geq) (.var 2) (.u .ld1 (.u (.fld 0) (.var 5)))))
   (.set 3 (.lit (.int .i64 0))
   (.set 4 (.lit (.int .i64 18))
   .ret))
   .nxt)
 (.call false (some 11) 40 (.cn (.u (.lda 4) (.var 5)) (.cn (.var 1) (.cn (.var 2) .nl)))
 (.chk (.u (.ext 0) (.var 11))
 (.chk (.u (.ext 1) (.var 11))
 (.set 7 (.u (.ext 0) (.var 11))
 (.set 8 (.u (.ext 1) (.var 11))
 (.seq
  (.ite (.u (.un .not) (.var 8))
   (.set 3 (.lit (.int .i64 0))
   (.set 4 (.lit (.int .i64 23))
   .ret))
   .nxt)
 (.set 3 (.var 7)
 (.set 4 (.lit (.int .i64 0))
 .ret)))))))))))))))))
def f_layout_Height : Fun := ⟨s_layout_Height, [(.var 3), (.var 4)]⟩
abbrev v_layout_Height : List Nat := [0, 1, 2, 6, 7, 3, 8, 9, 10, 12, 18, 32]
theorem c_layout_Height : compF P Go.Proofs.Try.f20 v_layout_Height = some f_layout_Height := by kernel_rfl
theorem of_layout_Height {args : List Value} (hn : args.length ≤ 38) {h : Heap} {R : Value → Heap → Prop} (hs : s_layout_Height.wp P (f_layout_Height.post R) (env0 v_layout_Height args) h) : Runs P n_layout_Height args h R := fn_of P_mixed Go.Proofs.Try.func20 c_layout_Height (by rw [Go.Proofs.Try.ntmps20]; exact hn) hs
theorem vr_layout_Height {kp : Bool} {args : List A} {H : List Blk} {R : A → List Blk → Prop} (hlen : args.length ≤ 38) (hk : kp = false ∨ H = []) (hw : (∀ B ∈ H, A.bdL H.length B.cells = true) → A.bdL H.length args = true → s_layout_Height.aw P H.length (postA H.length f_layout_Height R) (envA v_layout_Height args) H) : VR P kp n_layout_Height args H R := VR.of (F := f_layout_Height) (V := v_layout_Height) of_layout_Height hlen hk fun h1 h2 => aw_sound (hw h1 h2)
theorem r_layout_Height : Fun.res f_layout_Height = [(.var 3), (.var 4)] := rfl

/-- recycling/layout.Drains -/
abbrev n_layout_Drains : Nat := 22
def s_layout_Drains : S :=
 (.eff false (some 3) (.box 25 (.var 0))
 (.set 1 (.lit (.bool false))
 (.set 2 (.lit (.int .i64 0))
 (.call false (some 15) 13 (.cn (.u (.lda 4) (.var 3)) .nl)
 (.set 4 (.var 15)
 (.seq
  (.ite (.b (.bin .neq) (.var 4) (.lit (.int .i64 0)))
   (.set 1 (.lit (.bool false))
   (.set 2 (.var 4)
   .ret))
   .nxt)
 (.set 6 (.u .len (.u .ld1 (.u (.fld 1) (.var 3))))
 (.set 5 (.lit (.int .i64 0))
 (.seq
  (.blk 0
   (.loop
    (.set 7 (.b (.bin .lss) (.var 5) (.var 6))
    (.seq
     (.ite (.var 7)
      .nxt
      (.exit 0))
    (.seq
     (.blk 1
      (.set 8 (.var 5)
      (.set 10 (.u .ld1 (.u (.fld 0) (.var 3)))
      (.set 9 (.lit (.int .i64 0))
      (.blk 2
       (.loop
        (.set 11 (.b (.bin .lss) (.var 9) (.var 10))
        (.seq
         (.ite (.var 11)
          .nxt
          (.exit 2))
        (.seq
         (.blk 3
          (.set 12 (.var 9)
          (.call false (some 16) 40 (.cn (.u (.lda 4) (.var 3)) (.cn (.var 8) (.cn (.var 12) .nl)))
          (.chk (.u (.ext 0) (.var 16))
          (.chk (.u (.ext 1) (.var 16))
          (.set 13 (.u (.ext 0) (.var 16))
          (.set 14 (.u (.ext 1) (.var 16))
          (.ite (.u (.un .not) (.var 14))
           (.set 1 (.lit (.bool false))
           (.set 2 (.lit (.int .i64 0))
           .ret))
           .nxt))))))))
        (.set 9 (.b (.bin .add) (.var 9) (.lit (.int .i64 1)))
        .nxt))))))))))
    (.set 5 (.b (.bin .add) (.var 5) (.lit (.int .i64 1)))
    .nxt))))))
 (.set 1 (.lit (.bool true))
 (.set 2 (.lit (.int .i64 0))
 .ret)))))))))))
def f_layout_Drains : Fun := ⟨s_layout_Drains, [(.var 1), (.var 2)]⟩
abbrev v_layout_Drains : List Nat := [0, 2, 3, 1, 4, 17, 16, 18, 5, 22, 21, 23, 6, 7, 8, 10, 29]
theorem c_layout_Drains : compF P Go.Proofs.Try.f22 v_layout_Drains = some f_layout_Drains := by kernel_rfl
theorem of_layout_Drains {args : List Value} (hn : args.length ≤ 36) {h : Heap} {R : Value → Heap → Prop} (hs : s_layout_Drains.wp P (f_layout_Drains.post R) (env0 v_layout_Drains args) h) : Runs P n_layout_Drains args h R := fn_of P_mixed Go.Proofs.Try.func22 c_layout_Drains (by rw [Go.Proofs.Try.ntmps22]; exact hn) hs
theorem vr_layout_Drains {kp : Bool} {args : List A} {H : List Blk} {R : A → List Blk → Prop} (hlen : args.length ≤ 36) (hk : kp = false ∨ H = []) (hw : (∀ B ∈ H, A.bdL H.length B.cells = true) → A.bdL H.length args = true → s_layout_Drains.aw P H.length (postA H.length f_layout_Drains R) (envA v_layout_Drains args) H) : VR P kp n_layout_Drains args H R := VR.of (F := f_layout_Drains) (V := v_layout_Drains) of_layout_Drains hlen hk fun h1 h2 => aw_sound (hw h1 h2)
theorem r_layout_Drains : Fun.res f_layout_Drains = [(.var 1), (.var 2)] := rfl
abbrev g_layout_Drains_0 : List Nat := [1, 2, 5, 7, 8, 9, 10, 11, 12, 13, 14, 16]
abbrev g_layout_Drains_1 : List Nat := [1, 2, 9, 11, 12, 13, 14, 16]

/-- recycling/layout.Loops -/
abbrev n_layout_Loops : Nat := 24
def s_layout_Loops : S :=
 (.eff false (some 3) (.box 25 (.var 0))
 (.set 1 (.lit (.slice none 0 0))
 (.set 2 (.lit (.int .i64 0))
 (.call false (some 7) 15 (.cn (.u (.lda 4) (.var 3)) .nl)
 (.chk (.u (.ext 0) (.var 7))
 (.chk (.u (.ext 1) (.var 7))
 (.eff false (some 5) (.alloc 33 [(.int .i64 0), (.slice none 0 0)])
 (.eff false none (.st 2 (.var 5) (.u (.ext 0) (.var 7)))
 (.set 4 (.u (.ext 1) (.var 7))
 (.seq
  (.ite (.b (.bin .neq) (.var 4) (.lit (.int .i64 0)))
   (.set 1 (.lit (.slice none 0 0))
   (.set 2 (.var 4)
   .ret))
   .nxt)
 (.call false (some 8) 42 (.cn (.u (.lda 2) (.var 5)) .nl)
 (.chk (.u (.ext 0) (.var 8))
 (.chk (.u (.ext 1) (.var 8))
 (.set 6 (.u (.ext 0) (.var 8))
 (.set 4 (.u (.ext 1) (.var 8))
 (.seq
  (.ite (.b (.bin .neq) (.var 4) (.lit (.int .i64 0)))
   (.set 1 (.lit (.slice none 0 0))
   (.set 2 (.var 4)
   .ret))
   .nxt)
 (.chk (.fn 44 (.cn (.var 5) .nl))
 (.call false (some 9) 43 (.cn (.var 6) (.cn (.fn 44 (.cn (.var 5) .nl)) .nl))
 (.set 1 (.var 9)
 (.set 2 (.lit (.int .i64 0))
 .ret))))))))))))))))))))
def f_layout_Loops : Fun := ⟨s_layout_Loops, [(.var 1), (.var 2)]⟩
abbrev v_layout_Loops : List Nat := [0, 2, 3, 1, 5, 4, 6, 9, 17, 25]
theorem c_layout_Loops : compF P Go.Proofs.Try.f24 v_layout_Loops = some f_layout_Loops := by kernel_rfl
theorem of_layout_Loops {args : List Value} (hn : args.length ≤ 26) {h : Heap} {R : Value → Heap → Prop} (hs : s_layout_Loops.wp P (f_layout_Loops.post R) (env0 v_layout_Loops args) h) : Runs P n_layout_Loops args h R := fn_of P_mixed Go.Proofs.Try.func24 c_layout_Loops (by rw [Go.Proofs.Try.ntmps24]; exact hn) hs
theorem vr_layout_Loops {kp : Bool} {args : List A} {H : List Blk} {R : A → List Blk → Prop} (hlen : args.length ≤ 26) (hk : kp = false ∨ H = []) (hw : (∀ B ∈ H, A.bdL H.length B.cells = true) → A.bdL H.length args = true → s_layout_Loops.aw P H.length (postA H.length f_layout_Loops R) (envA v_layout_Loops args) H) : VR P kp n_layout_Loops args H R := VR.of (F := f_layout_Loops) (V := v_layout_Loops) of_layout_Loops hlen hk fun h1 h2 => aw_sound (hw h1 h2)
theorem r_layout_Loops : Fun.res f_layout_Loops = [(.var 1), (.var 2)] := rfl

/-- recycling/recyclingref09.Lists -/
abbrev n_ref09_Lists : Nat := 26
def s_ref09_Lists : S :=
 (.set 2 (.lit (.bool false))
 (.seq
  (.ite (.b (.bin .neq) (.u .len (.var 0)) (.u .len (.var 1)))
   (.set 2 (.lit (.bool false))
   .ret)
   .nxt)
 (.set 4 (.u .len (.var 0))
 (.set 3 (.lit (.int .i64 0))
 (.seq
  (.blk 0
   (.loop
    (.set 5 (.b (.bin .lss) (.var 3) (.var 4))
    (.seq
     (.ite (.var 5)
      .nxt
      (.exit 0))
    (.seq
     (.blk 1
      (.set 6 (.var 3)
      (.call false (some 7) 47 (.cn (.u .ld1 (.b (.idx 1) (.var 0) (.var 6))) (.cn (.u .ld1 (.b (.idx 1) (.var 1) (.var 6))) .nl))
      (.ite (.u (.un .not) (.var 7))
       (.set 2 (.lit (.bool false))
       .ret)
       .nxt))))
    (.set 3 (.b (.bin .add) (.var 3) (.lit (.int .i64 1)))
    .nxt))))))
 (.set 2 (.lit (.bool true))
 .ret))))))
def f_ref09_Lists : Fun := ⟨s_ref09_Lists, [(.var 2)]⟩
abbrev v_ref09_Lists : List Nat := [0, 1, 4, 13, 12, 14, 5, 24]
theorem c_ref09_Lists : compF P Go.Proofs.Try.f26 v_ref09_Lists = some f_ref09_Lists := by kernel_rfl
theorem of_ref09_Lists {args : List Value} (hn : args.length ≤ 27) {h : Heap} {R : Value → Heap → Prop} (hs : s_ref09_Lists.wp P (f_ref09_Lists.post R) (env0 v_ref09_Lists args) h) : Runs P n_ref09_Lists args h R := fn_of P_mixed Go.Proofs.Try.func26 c_ref09_Lists (by rw [Go.Proofs.Try.ntmps26]; exact hn) hs
theorem vr_ref09_Lists {kp : Bool} {args : List A} {H : List Blk} {R : A → List Blk → Prop} (hlen : args.length ≤ 27) (hk : kp = false ∨ H = []) (hw : (∀ B ∈ H, A.bdL H.length B.cells = true) → A.bdL H.length args = true → s_ref09_Lists.aw P H.length (postA H.length f_ref09_Lists R) (envA v_ref09_Lists args) H) : VR P kp n_ref09_Lists args H R := VR.of (F := f_ref09_Lists) (V := v_ref09_Lists) of_ref09_Lists hlen hk fun h1 h2 => aw_sound (hw h1 h2)
theorem r_ref09_Lists : Fun.res f_ref09_Lists = [(.var 2)] := rfl
abbrev g_ref09_Lists_0 : List Nat := [2, 3, 5, 6, 7]

/-- recycling/machine.Outs -/
abbrev n_machine_Outs : Nat := 27
def s_machine_Outs : S :=
 (.eff false (some 2) (.box 48 (.var 0))
 (.set 1 (.lit (.int .i64 0))
 (.seq
  (.ite (.b (.bin .eql) (.u .len (.u .ld1 (.u (.fld 0) (.var 2)))) (.lit (.int .i64 0)))
   (.set 1 (.lit (.int .i64 0))
   .ret)
   .nxt)
 (.set 1 (.u .len (.u .ld1 (.b (.idx 1) (.u .ld1 (.u (.fld 0) (.var 2))) (.lit (.int .i64 0)))))
 .ret))))
def f_machine_Outs : Fun := ⟨s_machine_Outs, [(.var 1)]⟩
abbrev v_machine_Outs : List Nat := [0, 2, 1]
theorem c_machine_Outs : compF P Go.Proofs.Try.f27 v_machine_Outs = some f_machine_Outs := by kernel_rfl
theorem of_machine_Outs {args : List Value} (hn : args.length ≤ 12) {h : Heap} {R : Value → Heap → Prop} (hs : s_machine_Outs.wp P (f_machine_Outs.post R) (env0 v_machine_Outs args) h) : Runs P n_machine_Outs args h R := fn_of P_mixed Go.Proofs.Try.func27 c_machine_Outs (by rw [Go.Proofs.Try.ntmps27]; exact hn) hs
theorem vr_machine_Outs {kp : Bool} {args : List A} {H : List Blk} {R : A → List Blk → Prop} (hlen : args.length ≤ 12) (hk : kp = false ∨ H = []) (hw : (∀ B ∈ H, A.bdL H.length B.cells = true) → A.bdL H.length args = true → s_machine_Outs.aw P H.length (postA H.length f_machine_Outs R) (envA v_machine_Outs args) H) : VR P kp n_machine_Outs args H R := VR.of (F := f_machine_Outs) (V := v_machine_Outs) of_machine_Outs hlen hk fun h1 h2 => aw_sound (hw h1 h2)
theorem r_machine_Outs : Fun.res f_machine_Outs = [(.var 1)] := rfl

/-- recycling/machine.Main -/
abbrev n_machine_Main : Nat := 28
def s_machine_Main : S :=
 (.eff false (some 3) (.box 48 (.var 0))
 (.set 2 (.lit (.int .i64 0))
 (.seq
  (.ite (.ite (.b (.bin .lss) (.var 1) (.lit (.int .i64 0))) (.lit (.bool true)) (.b (.bin .geq) (.var 1) (.u .len (.u .ld1 (.u (.fld 0) (.var 3))))))
   (.set 2 (.lit (.int .i64 (-1)))
   .ret)
   .nxt)
 (.set 7 (.u .ld1 (.b (.idx 1) (.u .ld1 (.u (.fld 0) (.var 3))) (.var 1)))
 (.set 5 (.u .len (.var 7))
 (.set 4 (.lit (.int .i64 0))
 (.seq
  (.blk 0
   (.loop
    (.set 6 (.b (.bin .lss) (.var 4) (.var 5))
    (.seq
     (.ite (.var 6)
      .nxt
      (.exit 0))
    (.seq
     (.blk 1
      (.chk (.u .ld1 (.b (.idx 1) (.var 7) (.var 4)))
      (.set 8 (.var 4)
      (.set 9 (.u .ld1 (.b (.idx 1) (.var 7) (.var 4)))
      (.ite (.b (.bin .gtr) (.var 9) (.lit (.int .i64 0)))
       (.set 2 (.var 8)
       .ret)
       .nxt)))))
    (.set 4 (.b (.bin .add) (.var 4) (.lit (.int .i64 1)))
    .nxt))))))
 (.set 2 (.lit (.int .i64 (-1)))
 .ret))))))))
def f_machine_Main : Fun := ⟨s_machine_Main, [(.var 2)]⟩
abbrev v_machine_Main : List Nat := [0, 1, 4, 2, 22, 21, 23, 20, 5, 6]
theorem c_machine_Main : compF P Go.Proofs.Try.f28 v_machine_Main = some f_machine_Main := by kernel_rfl
theorem of_machine_Main {args : List Value} (hn : args.length ≤ 31) {h : Heap} {R : Value → Heap → Prop} (hs : s_machine_Main.wp P (f_machine_Main.post R) (env0 v_machine_Main args) h) : Runs P n_machine_Main args h R := fn_of P_mixed Go.Proofs.Try.func28 c_machine_Main (by rw [Go.Proofs.Try.ntmps28]; exact hn) hs
theorem vr_machine_Main {kp : Bool} {args : List A} {H : List Blk} {R : A → List Blk → Prop} (hlen : args.length ≤ 31) (hk : kp = false ∨ H = []) (hw : (∀ B ∈ H, A.bdL H.length B.cells = true) → A.bdL H.length args = true → s_machine_Main.aw P H.length (postA H.length f_machine_Main R) (envA v_machine_Main args) H) : VR P kp n_machine_Main args H R := VR.of (F := f_machine_Main) (V := v_machine_Main) of_machine_Main hlen hk fun h1 h2 => aw_sound (hw h1 h2)
theorem r_machine_Main : Fun.res f_machine_Main = [(.var 2)] := rfl
abbrev g_machine_Main_0 : List Nat := [2, 4, 6, 8, 9]

/-- recycling/graph.Order -/
abbrev n_graph_Order : Nat := 29
def s_graph_Order : S :=
 (.eff false (some 3) (.box 33 (.var 0))
 (.set 1 (.lit (.slice none 0 0))
 (.set 2 (.lit (.int .i64 0))
 (.call false (some 24) 48 (.cn (.u (.lda 2) (.var 3)) .nl)
 (.set 4 (.var 24)
 (.seq
  (.ite (.b (.bin .neq) (.var 4) (.lit (.int .i64 0)))
   (.set 1 (.lit (.slice none 0 0))
   (.set 2 (.var 4)
   .ret))
   .nxt)
 (.eff false (some 10) (.alloc 70 (List.replicate 64 (.int .i64 0)))
 (.set 8 (.u .ld1 (.u (.fld 1) (.var 3)))
 (.set 6 (.u .len (.var 8))
 (.set 5 (.lit (.int .i64 0))
 (.seq
  (.blk 0
   (.loop
    (.set 7 (.b (.bin .lss) (.var 5) (.var 6))
    (.seq
     (.ite (.var 7)
      .nxt
      (.exit 0))
    (.seq
     (.blk 1
      (.chk (.u (.lda 2) (.b (.idx 2) (.var 8) (.var 5)))
      (.eff false (some 9) (.alloc 58 [(.int .i64 0), (.int .i64 0)])
      (.eff false none (.st 2 (.var 9) (.u (.lda 2) (.b (.idx 2) (.var 8) (.var 5))))
      (.eff false none (.st 1 (.b (.idxa 64 1) (.var 10) (.u .ld1 (.u (.fld 1) (.var 9)))) (.b (.bin .add) (.u .ld1 (.b (.idxa 64 1) (.var 10) (.u .ld1 (.u (.fld 1) (.var 9))))) (.lit (.int .i64 1))))
      .nxt)))))
    (.set 5 (.b (.bin .add) (.var 5) (.lit (.int .i64 1)))
    .nxt))))))
 (.call false (some 25) 49 (.cn (.lit (.func (.func 50) #[] #[])) .nl)
 (.set 11 (.var 25)
 (.set 13 (.u .ld1 (.u (.fld 0) (.var 3)))
 (.set 12 (.lit (.int .i64 0))
 (.seq
  (.blk 2
   (.loop
    (.set 14 (.b (.bin .lss) (.var 12) (.var 13))
    (.seq
     (.ite (.var 14)
      .nxt
      (.exit 2))
    (.seq
     (.blk 3
      (.set 15 (.var 12)
      (.ite (.b (.bin .eql) (.u .ld1 (.b (.idxa 64 1) (.var 10) (.var 15))) (.lit (.int .i64 0)))
       (.call false none 51 (.cn (.var 11) (.cn (.var 15) .nl))
       .nxt)
       .nxt)))
    (.set 12 (.b (.bin .add) (.var 12) (.lit (.int .i64 1)))
    .nxt))))))
 (.set 16 (.lit (.slice none 0 0))
 (.seq
  (.blk 4
   (.loop
    (.blk 5
     (.call false (some 26) 52 (.cn (.var 11) .nl)
     (.chk (.u (.ext 0) (.var 26))
     (.chk (.u (.ext 1) (.var 26))
     (.set 17 (.u (.ext 0) (.var 26))
     (.set 18 (.u (.ext 1) (.var 26))
     (.seq
      (.ite (.u (.un .not) (.var 18))
       (.exit 4)
       .nxt)
     (.eff false (some 27) (.lit 3 1 1 [(.int .i64 0)] (.pl 0 1 (.var 17) .nl))
     (.eff false (some 28) (.app 3 1 8 [(.int .i64 0)] (.var 16) (.var 27))
     (.set 16 (.var 28)
     (.set 22 (.u .ld1 (.u (.fld 1) (.var 3)))
     (.set 20 (.u .len (.var 22))
     (.set 19 (.lit (.int .i64 0))
     (.blk 6
      (.loop
       (.set 21 (.b (.bin .lss) (.var 19) (.var 20))
       (.seq
        (.ite (.var 21)
         .nxt
         (.exit 6))
       (.seq
        (.blk 7
         (.chk (.u (.lda 2) (.b (.idx 2) (.var 22) (.var 19)))
         (.eff false (some 23) (.alloc 58 [(.int .i64 0), (.int .i64 0)])
         (.eff false none (.st 2 (.var 23) (.u (.lda 2) (.b (.idx 2) (.var 22) (.var 19))))
         (.seq
          (.ite (.b (.bin .neq) (.u .ld1 (.u (.fld 0) (.var 23))) (.var 17))
           (.exit 7)
           .nxt)
         (.eff false none (.st 1 (.b (.idxa 64 1) (.var 10) (.u .ld1 (.u (.fld 1) (.var 23)))) (.b (.bin .sub) (.u .ld1 (.b (.idxa 64 1) (.var 10) (.u .ld1 (.u (.fld 1) (.var 23))))) (.lit (.int .i64 1))))
         (.ite (.b (.bin .eql) (.u .ld1 (.b (.idxa 64 1) (.var 10) (.u .ld1 (.u (.fld 1) (.var 23))))) (.lit (.int .i64 0)))
          (.call false none 51 (.cn (.var 11) (.cn (.u .ld1 (.u (.fld 1) (.var 23))) .nl))
          .nxt)
          .nxt)))))))
       (.set 19 (.b (.bin .add) (.var 19) (.lit (.int .i64 1)))
       .nxt)))))))))))))))))))))
 (.seq
  (.ite (.b (.bin .lss) (.u .len (.var 16)) (.u .ld1 (.u (.fld 0) (.var 3))))
   (.set 1 (.lit (.slice none 0 0))
   (.set 2 (.lit (.int .i64 11))
   .ret))
   .nxt)
 (.set 1 (.var 16)
 (.set 2 (.lit (.int .i64 0))
 .ret)))))))))))))))))))))
def f_graph_Order : Fun := ⟨s_graph_Order, [(.var 1), (.var 2)]⟩
abbrev v_graph_Order : List Nat := [0, 2, 3, 1, 4, 23, 22, 24, 21, 7, 5, 8, 37, 36, 38, 9, 10, 11, 12, 62, 61, 63, 60, 14, 16, 34, 50, 57, 58]
theorem c_graph_Order : compF P Go.Proofs.Try.f29 v_graph_Order = some f_graph_Order := by kernel_rfl
theorem of_graph_Order {args : List Value} (hn : args.length ≤ 92) {h : Heap} {R : Value → Heap → Prop} (hs : s_graph_Order.wp P (f_graph_Order.post R) (env0 v_graph_Order args) h) : Runs P n_graph_Order args h R := fn_of P_mixed Go.Proofs.Try.func29 c_graph_Order (by rw [Go.Proofs.Try.ntmps29]; exact hn) hs
theorem vr_graph_Order {kp : Bool} {args : List A} {H : List Blk} {R : A → List Blk → Prop} (hlen : args.length ≤ 92) (hk : kp = false ∨ H = []) (hw : (∀ B ∈ H, A.bdL H.length B.cells = true) → A.bdL H.length args = true → s_graph_Order.aw P H.length (postA H.length f_graph_Order R) (envA v_graph_Order args) H) : VR P kp n_graph_Order args H R := VR.of (F := f_graph_Order) (V := v_graph_Order) of_graph_Order hlen hk fun h1 h2 => aw_sound (hw h1 h2)
theorem r_graph_Order : Fun.res f_graph_Order = [(.var 1), (.var 2)] := rfl
abbrev g_graph_Order_0 : List Nat := [5, 7, 9]
abbrev g_graph_Order_1 : List Nat := [12, 14, 15]
abbrev g_graph_Order_2 : List Nat := [16, 17, 18, 19, 20, 21, 22, 23, 26, 27, 28]
abbrev g_graph_Order_3 : List Nat := [19, 21, 23]

/-- recycling/recyclinglaw34.example -/
abbrev n_law34_example : Nat := 30
def s_law34_example : S :=
 (.eff false (some 2) (.alloc 25 [(.int .i64 0), (.slice none 0 0), (.slice none 0 0), (.int .i64 0)])
 (.eff false (some 3) (.lit 3 1 2 [(.int .i64 0)] (.pl 0 1 (.var 0) (.pl 1 1 (.var 1) .nl)))
 (.eff false (some 4) (.lit 53 1 1 [(.slice none 0 0)] (.pl 0 1 (.var 3) .nl))
 (.chk (.bld [(.slice none 0 0)] (.pl 0 1 (.var 4) .nl))
 (.eff false (some 5) (.lit 3 1 0 [(.int .i64 0)] .nl)
 (.eff false (some 6) (.lit 53 1 1 [(.slice none 0 0)] (.pl 0 1 (.var 5) .nl))
 (.chk (.bld [(.slice none 0 0)] (.pl 0 1 (.var 6) .nl))
 (.eff false (some 7) (.lit 48 1 2 [(.slice none 0 0)] (.pl 0 1 (.bld [(.slice none 0 0)] (.pl 0 1 (.var 4) .nl)) (.pl 1 1 (.bld [(.slice none 0 0)] (.pl 0 1 (.var 6) .nl)) .nl)))
 (.chk (.bld [(.int .i64 0), (.int .i64 0), (.int .i64 0), (.int .i64 0)] (.pl 0 1 (.lit (.int .i64 0)) (.pl 1 1 (.lit (.int .i64 0)) (.pl 2 1 (.lit (.int .i64 1)) (.pl 3 1 (.lit (.int .i64 2)) .nl)))))
 (.chk (.bld [(.int .i64 0), (.int .i64 0), (.int .i64 0), (.int .i64 0)] (.pl 0 1 (.lit (.int .i64 0)) (.pl 1 1 (.lit (.int .i64 1)) (.pl 2 1 (.lit (.int .i64 0)) (.pl 3 1 (.lit (.int .i64 3)) .nl)))))
 (.eff false (some 8) (.lit 51 4 2 [(.int .i64 0), (.int .i64 0), (.int .i64 0), (.int .i64 0)] (.pl 0 4 (.bld [(.int .i64 0), (.int .i64 0), (.int .i64 0), (.int .i64 0)] (.pl 0 1 (.lit (.int .i64 0)) (.pl 1 1 (.lit (.int .i64 0)) (.pl 2 1 (.lit (.int .i64 1)) (.pl 3 1 (.lit (.int .i64 2)) .nl))))) (.pl 4 4 (.bld [(.int .i64 0), (.int .i64 0), (.int .i64 0), (.int .i64 0)] (.pl 0 1 (.lit (.int .i64 0)) (.pl 1 1 (.lit (.int .i64 1)) (.pl 2 1 (.lit (.int .i64 0)) (.pl 3 1 (.lit (.int .i64 3)) .nl))))) .nl)))
 (.chk (.bld [(.int .i64 0), (.slice none 0 0), (.slice none 0 0), (.int .i64 0)] (.pl 0 1 (.lit (.int .i64 1)) (.pl 1 1 (.var 7) (.pl 2 1 (.var 8) .nl))))
 (.eff false none (.st 4 (.var 2) (.bld [(.int .i64 0), (.slice none 0 0), (.slice none 0 0), (.int .i64 0)] (.pl 0 1 (.lit (.int .i64 1)) (.pl 1 1 (.var 7) (.pl 2 1 (.var 8) .nl)))))
 .ret)))))))))))))
def f_law34_example : Fun := ⟨s_law34_example, [(.u (.lda 4) (.var 2))]⟩
abbrev v_law34_example : List Nat := [0, 1, 4, 7, 8, 10, 11, 13, 16]
theorem c_law34_example : compF P Go.Proofs.Try.f30 v_law34_example = some f_law34_example := by kernel_rfl
theorem of_law34_example {args : List Value} (hn : args.length ≤ 18) {h : Heap} {R : Value → Heap → Prop} (hs : s_law34_example.wp P (f_law34_example.post R) (env0 v_law34_example args) h) : Runs P n_law34_example args h R := fn_of P_mixed Go.Proofs.Try.func30 c_law34_example (by rw [Go.Proofs.Try.ntmps30]; exact hn) hs
theorem vr_law34_example {kp : Bool} {args : List A} {H : List Blk} {R : A → List Blk → Prop} (hlen : args.length ≤ 18) (hk : kp = false ∨ H = []) (hw : (∀ B ∈ H, A.bdL H.length B.cells = true) → A.bdL H.length args = true → s_law34_example.aw P H.length (postA H.length f_law34_example R) (envA v_law34_example args) H) : VR P kp n_law34_example args H R := VR.of (F := f_law34_example) (V := v_law34_example) of_law34_example hlen hk fun h1 h2 => aw_sound (hw h1 h2)
theorem r_law34_example : Fun.res f_law34_example = [(.u (.lda 4) (.var 2))] := rfl

/-- recycling/machine.Check -/
abbrev n_machine_Check : Nat := 31
def s_machine_Check : S :=
 (.eff false (some 3) (.box 48 (.var 0))
 (.set 2 (.lit (.int .i64 0))
 (.seq
  (.ite (.ite (.b (.bin .lss) (.var 1) (.lit (.int .i64 1))) (.lit (.bool true)) (.b (.bin .gtr) (.var 1) (.lit (.int .i64 16))))
   (.set 2 (.lit (.int .i64 1))
   .ret)
   .nxt)
 (.seq
  (.ite (.b (.bin .neq) (.u .len (.u .ld1 (.u (.fld 0) (.var 3)))) (.var 1))
   (.set 2 (.lit (.int .i64 18))
   .ret)
   .nxt)
 (.set 4 (.lit (.int .i64 0))
 (.set 8 (.u .ld1 (.u (.fld 0) (.var 3)))
 (.set 6 (.u .len (.var 8))
 (.set 5 (.lit (.int .i64 0))
 (.seq
  (.blk 0
   (.loop
    (.set 7 (.b (.bin .lss) (.var 5) (.var 6))
    (.seq
     (.ite (.var 7)
      .nxt
      (.exit 0))
    (.seq
     (.blk 1
      (.set 9 (.u .ld1 (.b (.idx 1) (.var 8) (.var 5)))
      (.set 10 (.lit (.int .i64 0))
      (.seq
       (.ite (.b (.bin .gtr) (.u .len (.var 9)) (.lit (.int .i64 4)))
        (.set 4 (.lit (.int .i64 8))
        (.exit 0))
        .nxt)
      (.seq
       (.ite (.b (.bin .neq) (.u .len (.var 9)) (.u .len (.u .ld1 (.b (.idx 1) (.u .ld1 (.u (.fld 0) (.var 3))) (.lit (.int .i64 0))))))
        (.set 4 (.lit (.int .i64 3))
        (.exit 0))
        .nxt)
      (.set 14 (.var 9)
      (.set 12 (.u .len (.var 14))
      (.set 11 (.lit (.int .i64 0))
      (.seq
       (.blk 2
        (.loop
         (.set 13 (.b (.bin .lss) (.var 11) (.var 12))
         (.seq
          (.ite (.var 13)
           .nxt
           (.exit 2))
         (.seq
          (.blk 3
           (.set 15 (.u .ld1 (.b (.idx 1) (.var 14) (.var 11)))
           (.seq
            (.ite (.ite (.b (.bin .lss) (.var 15) (.lit (.int .i64 0))) (.lit (.bool true)) (.b (.bin .gtr) (.var 15) (.lit (.int .i64 1000))))
             (.set 4 (.lit (.int .i64 1))
             (.exit 0))
             .nxt)
           (.set 10 (.b (.bin .add) (.var 10) (.var 15))
           .nxt))))
         (.set 11 (.b (.bin .add) (.var 11) (.lit (.int .i64 1)))
         .nxt))))))
      (.ite (.ite (.b (.bin .gtr) (.u .len (.var 9)) (.lit (.int .i64 0))) (.b (.bin .neq) (.var 10) (.lit (.int .i64 1000))) (.lit (.bool false)))
       (.set 4 (.lit (.int .i64 17))
       (.exit 0))
       .nxt))))))))))
    (.set 5 (.b (.bin .add) (.var 5) (.lit (.int .i64 1)))
    .nxt))))))
 (.set 2 (.var 4)
 .ret))))))))))
def f_machine_Check : Fun := ⟨s_machine_Check, [(.var 2)]⟩
abbrev v_machine_Check : List Nat := [0, 1, 4, 2, 5, 25, 24, 26, 23, 7, 8, 42, 41, 43, 40, 10]
theorem c_machine_Check : compF P Go.Proofs.Try.f31 v_machine_Check = some f_machine_Check := by kernel_rfl
theorem of_machine_Check {args : List Value} (hn : args.length ≤ 65) {h : Heap} {R : Value → Heap → Prop} (hs : s_machine_Check.wp P (f_machine_Check.post R) (env0 v_machine_Check args) h) : Runs P n_machine_Check args h R := fn_of P_mixed Go.Proofs.Try.func31 c_machine_Check (by rw [Go.Proofs.Try.ntmps31]; exact hn) hs
theorem vr_machine_Check {kp : Bool} {args : List A} {H : List Blk} {R : A → List Blk → Prop} (hlen : args.length ≤ 65) (hk : kp = false ∨ H = []) (hw : (∀ B ∈ H, A.bdL H.length B.cells = true) → A.bdL H.length args = true → s_machine_Check.aw P H.length (postA H.length f_machine_Check R) (envA v_machine_Check args) H) : VR P kp n_machine_Check args H R := VR.of (F := f_machine_Check) (V := v_machine_Check) of_machine_Check hlen hk fun h1 h2 => aw_sound (hw h1 h2)
theorem r_machine_Check : Fun.res f_machine_Check = [(.var 2)] := rfl
abbrev g_machine_Check_0 : List Nat := [4, 5, 7, 9, 10, 11, 12, 13, 14, 15]
abbrev g_machine_Check_1 : List Nat := [4, 10, 11, 13, 15]

/-- recycling/layout.belts -/
abbrev n_layout_belts : Nat := 32
def s_layout_belts : S :=
 (.eff false (some 2) (.box 25 (.var 0))
 (.set 1 (.lit (.int .i64 0))
 (.set 6 (.u .ld1 (.u (.fld 2) (.var 2)))
 (.set 4 (.u .len (.var 6))
 (.set 3 (.lit (.int .i64 0))
 (.seq
  (.blk 0
   (.loop
    (.set 5 (.b (.bin .lss) (.var 3) (.var 4))
    (.seq
     (.ite (.var 5)
      .nxt
      (.exit 0))
    (.seq
     (.blk 1
      (.chk (.u (.lda 4) (.b (.idx 4) (.var 6) (.var 3)))
      (.eff false (some 7) (.alloc 51 [(.int .i64 0), (.int .i64 0), (.int .i64 0), (.int .i64 0)])
      (.eff false none (.st 4 (.var 7) (.u (.lda 4) (.b (.idx 4) (.var 6) (.var 3))))
      (.call false (some 25) 53 (.cn (.u (.lda 4) (.var 2)) (.cn (.u (.lda 4) (.var 7)) .nl))
      (.set 8 (.var 25)
      (.ite (.b (.bin .neq) (.var 8) (.lit (.int .i64 0)))
       (.set 1 (.var 8)
       .ret)
       .nxt)))))))
    (.set 3 (.b (.bin .add) (.var 3) (.lit (.int .i64 1)))
    .nxt))))))
 (.set 12 (.u .ld1 (.u (.fld 2) (.var 2)))
 (.set 10 (.u .len (.var 12))
 (.set 9 (.lit (.int .i64 0))
 (.seq
  (.blk 2
   (.loop
    (.set 11 (.b (.bin .lss) (.var 9) (.var 10))
    (.seq
     (.ite (.var 11)
      .nxt
      (.exit 2))
    (.seq
     (.blk 3
      (.chk (.u (.lda 4) (.b (.idx 4) (.var 12) (.var 9)))
      (.eff false (some 14) (.alloc 51 [(.int .i64 0), (.int .i64 0), (.int .i64 0), (.int .i64 0)])
      (.set 13 (.var 9)
      (.eff false none (.st 4 (.var 14) (.u (.lda 4) (.b (.idx 4) (.var 12) (.var 9))))
      (.call false (some 26) 39 (.cn (.u (.lda 4) (.var 2)) (.cn (.u .ld1 (.u (.fld 0) (.var 14))) (.cn (.u .ld1 (.u (.fld 1) (.var 14))) .nl)))
      (.ite (.b (.bin .neq) (.var 26) (.var 13))
       (.set 1 (.lit (.int .i64 6))
       .ret)
       .nxt)))))))
    (.set 9 (.b (.bin .add) (.var 9) (.lit (.int .i64 1)))
    .nxt))))))
 (.set 18 (.u .ld1 (.u (.fld 1) (.var 2)))
 (.set 16 (.u .len (.var 18))
 (.set 15 (.lit (.int .i64 0))
 (.seq
  (.blk 4
   (.loop
    (.set 17 (.b (.bin .lss) (.var 15) (.var 16))
    (.seq
     (.ite (.var 17)
      .nxt
      (.exit 4))
    (.seq
     (.blk 5
      (.chk (.u (.lda 1) (.b (.idx 1) (.var 18) (.var 15)))
      (.eff false (some 20) (.alloc 48 [(.slice none 0 0)])
      (.set 19 (.var 15)
      (.eff false none (.st 1 (.var 20) (.u (.lda 1) (.b (.idx 1) (.var 18) (.var 15))))
      (.call false (some 22) 27 (.cn (.u (.lda 1) (.var 20)) .nl)
      (.set 21 (.lit (.int .i64 0))
      (.blk 6
       (.loop
        (.set 23 (.b (.bin .lss) (.var 21) (.var 22))
        (.seq
         (.ite (.var 23)
          .nxt
          (.exit 6))
        (.seq
         (.blk 7
          (.set 24 (.var 21)
          (.call false (some 27) 39 (.cn (.u (.lda 4) (.var 2)) (.cn (.var 19) (.cn (.var 24) .nl)))
          (.ite (.b (.bin .lss) (.var 27) (.lit (.int .i64 0)))
           (.set 1 (.lit (.int .i64 3))
           .ret)
           .nxt))))
        (.set 21 (.b (.bin .add) (.var 21) (.lit (.int .i64 1)))
        .nxt)))))))))))))
    (.set 15 (.b (.bin .add) (.var 15) (.lit (.int .i64 1)))
    .nxt))))))
 (.set 1 (.lit (.int .i64 0))
 .ret)))))))))))))))
def f_layout_belts : Fun := ⟨s_layout_belts, [(.var 1)]⟩
abbrev v_layout_belts : List Nat := [0, 2, 1, 14, 13, 15, 12, 4, 5, 28, 27, 29, 26, 6, 7, 45, 44, 46, 43, 8, 9, 52, 51, 53, 10, 20, 38, 58]
theorem c_layout_belts : compF P Go.Proofs.Try.f32 v_layout_belts = some f_layout_belts := by kernel_rfl
theorem of_layout_belts {args : List Value} (hn : args.length ≤ 62) {h : Heap} {R : Value → Heap → Prop} (hs : s_layout_belts.wp P (f_layout_belts.post R) (env0 v_layout_belts args) h) : Runs P n_layout_belts args h R := fn_of P_mixed Go.Proofs.Try.func32 c_layout_belts (by rw [Go.Proofs.Try.ntmps32]; exact hn) hs
theorem vr_layout_belts {kp : Bool} {args : List A} {H : List Blk} {R : A → List Blk → Prop} (hlen : args.length ≤ 62) (hk : kp = false ∨ H = []) (hw : (∀ B ∈ H, A.bdL H.length B.cells = true) → A.bdL H.length args = true → s_layout_belts.aw P H.length (postA H.length f_layout_belts R) (envA v_layout_belts args) H) : VR P kp n_layout_belts args H R := VR.of (F := f_layout_belts) (V := v_layout_belts) of_layout_belts hlen hk fun h1 h2 => aw_sound (hw h1 h2)
theorem r_layout_belts : Fun.res f_layout_belts = [(.var 1)] := rfl
abbrev g_layout_belts_0 : List Nat := [1, 3, 5, 7, 8, 25]
abbrev g_layout_belts_1 : List Nat := [1, 9, 11, 13, 14, 26]
abbrev g_layout_belts_2 : List Nat := [1, 15, 17, 19, 20, 21, 22, 23, 24, 27]
abbrev g_layout_belts_3 : List Nat := [1, 21, 23, 24, 27]

/-- recycling/layout.has -/
abbrev n_layout_has : Nat := 33
def s_layout_has : S :=
 (.eff false (some 3) (.box 25 (.var 0))
 (.set 2 (.lit (.bool false))
 (.set 2 (.ite (.b (.bin .geq) (.var 1) (.lit (.int .i64 0))) (.b (.bin .lss) (.var 1) (.u .len (.u .ld1 (.u (.fld 1) (.var 3))))) (.lit (.bool false)))
 .ret)))
def f_layout_has : Fun := ⟨s_layout_has, [(.var 2)]⟩
abbrev v_layout_has : List Nat := [0, 1, 4, 2]
theorem c_layout_has : compF P Go.Proofs.Try.f33 v_layout_has = some f_layout_has := by kernel_rfl
theorem of_layout_has {args : List Value} (hn : args.length ≤ 14) {h : Heap} {R : Value → Heap → Prop} (hs : s_layout_has.wp P (f_layout_has.post R) (env0 v_layout_has args) h) : Runs P n_layout_has args h R := fn_of P_mixed Go.Proofs.Try.func33 c_layout_has (by rw [Go.Proofs.Try.ntmps33]; exact hn) hs
theorem vr_layout_has {kp : Bool} {args : List A} {H : List Blk} {R : A → List Blk → Prop} (hlen : args.length ≤ 14) (hk : kp = false ∨ H = []) (hw : (∀ B ∈ H, A.bdL H.length B.cells = true) → A.bdL H.length args = true → s_layout_has.aw P H.length (postA H.length f_layout_has R) (envA v_layout_has args) H) : VR P kp n_layout_has args H R := VR.of (F := f_layout_has) (V := v_layout_has) of_layout_has hlen hk fun h1 h2 => aw_sound (hw h1 h2)
theorem r_layout_has : Fun.res f_layout_has = [(.var 2)] := rfl

/-- recycling/layout.bin -/
abbrev n_layout_bin : Nat := 34
def s_layout_bin : S :=
 (.eff false (some 3) (.box 25 (.var 0))
 (.set 2 (.lit (.bool false))
 (.call false (some 4) 27 (.cn (.u (.lda 1) (.b (.idx 1) (.u .ld1 (.u (.fld 1) (.var 3))) (.var 1))) .nl)
 (.set 2 (.b (.bin .eql) (.var 4) (.lit (.int .i64 0)))
 .ret))))
def f_layout_bin : Fun := ⟨s_layout_bin, [(.var 2)]⟩
abbrev v_layout_bin : List Nat := [0, 1, 4, 2, 10]
theorem c_layout_bin : compF P Go.Proofs.Try.f34 v_layout_bin = some f_layout_bin := by kernel_rfl
theorem of_layout_bin {args : List Value} (hn : args.length ≤ 12) {h : Heap} {R : Value → Heap → Prop} (hs : s_layout_bin.wp P (f_layout_bin.post R) (env0 v_layout_bin args) h) : Runs P n_layout_bin args h R := fn_of P_mixed Go.Proofs.Try.func34 c_layout_bin (by rw [Go.Proofs.Try.ntmps34]; exact hn) hs
theorem vr_layout_bin {kp : Bool} {args : List A} {H : List Blk} {R : A → List Blk → Prop} (hlen : args.length ≤ 12) (hk : kp = false ∨ H = []) (hw : (∀ B ∈ H, A.bdL H.length B.cells = true) → A.bdL H.length args = true → s_layout_bin.aw P H.length (postA H.length f_layout_bin R) (envA v_layout_bin args) H) : VR P kp n_layout_bin args H R := VR.of (F := f_layout_bin) (V := v_layout_bin) of_layout_bin hlen hk fun h1 h2 => aw_sound (hw h1 h2)
theorem r_layout_bin : Fun.res f_layout_bin = [(.var 2)] := rfl

/-- recycling/layout.find -/
abbrev n_layout_find : Nat := 39
def s_layout_find : S :=
 (.eff false (some 4) (.box 25 (.var 0))
 (.eff false (some 5) (.box 3 (.var 1))
 (.eff false (some 6) (.box 3 (.var 2))
 (.set 3 (.lit (.int .i64 0))
 (.chk (.u .ld1 (.u (.fld 2) (.var 4)))
 (.chk (.fn 56 (.cn (.var 5) (.cn (.var 6) .nl)))
 (.call false (some 7) 55 (.cn (.u .ld1 (.u (.fld 2) (.var 4))) (.cn (.fn 56 (.cn (.var 5) (.cn (.var 6) .nl))) .nl))
 (.set 3 (.var 7)
 .ret))))))))
def f_layout_find : Fun := ⟨s_layout_find, [(.var 3)]⟩
abbrev v_layout_find : List Nat := [0, 1, 2, 6, 3, 4, 5, 10]
theorem c_layout_find : compF P Go.Proofs.Try.f39 v_layout_find = some f_layout_find := by kernel_rfl
theorem of_layout_find {args : List Value} (hn : args.length ≤ 11) {h : Heap} {R : Value → Heap → Prop} (hs : s_layout_find.wp P (f_layout_find.post R) (env0 v_layout_find args) h) : Runs P n_layout_find args h R := fn_of P_mixed Go.Proofs.Try.func39 c_layout_find (by rw [Go.Proofs.Try.ntmps39]; exact hn) hs
theorem vr_layout_find {kp : Bool} {args : List A} {H : List Blk} {R : A → List Blk → Prop} (hlen : args.length ≤ 11) (hk : kp = false ∨ H = []) (hw : (∀ B ∈ H, A.bdL H.length B.cells = true) → A.bdL H.length args = true → s_layout_find.aw P H.length (postA H.length f_layout_find R) (envA v_layout_find args) H) : VR P kp n_layout_find args H R := VR.of (F := f_layout_find) (V := v_layout_find) of_layout_find hlen hk fun h1 h2 => aw_sound (hw h1 h2)
theorem r_layout_find : Fun.res f_layout_find = [(.var 3)] := rfl

/-- recycling/layout.way -/
abbrev n_layout_way : Nat := 40
def s_layout_way : S :=
 (.eff false (some 7) (.box 25 (.var 0))
 (.set 3 (.lit (.int .i64 0))
 (.set 4 (.lit (.bool false))
 (.eff false (some 8) (.alloc 80 (List.replicate 24 (.bool false)))
 (.set 5 (.var 1)
 (.set 6 (.lit (.int .i64 0))
 (.seq
  (.blk 0
   (.loop
    (.call false (some 10) 34 (.cn (.u (.lda 4) (.var 7)) (.cn (.var 5) .nl))
    (.seq
     (.ite (.u (.un .not) (.var 10))
      .nxt
      (.exit 0))
    (.blk 1
     (.seq
      (.ite (.u .ld1 (.b (.idxa 24 1) (.var 8) (.var 5)))
       (.exit 0)
       .nxt)
     (.eff false none (.st 1 (.b (.idxa 24 1) (.var 8) (.var 5)) (.lit (.bool true)))
     (.seq
      (.both
       (.set 14 (.u .ld1 (.u (.fld 2) (.var 7)))
       (.set 11 (.u (.lda 4) (.var 7))
       (.chk (.u (.lda 1) (.b (.idx 1) (.u .ld1 (.u (.fld 1) (.var 7))) (.var 5)))
       (.chk (.var 2)
       (.eff false (some 9) (.alloc 51 [(.int .i64 0), (.int .i64 0), (.int .i64 0), (.int .i64 0)])
       (.call true (some 12) 28 (.cn (.u (.lda 1) (.b (.idx 1) (.u .ld1 (.u (.fld 1) (.var 7))) (.var 5))) (.cn (.var 2) .nl))
       (.call true (some 15) 39 (.cn (.var 11) (.cn (.var 5) (.cn (.var 12) .nl)))
       (.eff false none (.st 4 (.var 9) (.u (.lda 4) (.b (.idx 4) (.var 14) (.var 15))))
       .nxt))))))))
       (.both
        (.set 14 (.u .ld1 (.u (.fld 2) (.var 7)))
        (.set 11 (.u (.lda 4) (.var 7))
        (.call true (some 12) 28 (.cn (.u (.lda 1) (.b (.idx 1) (.u .ld1 (.u (.fld 1) (.var 7))) (.var 5))) (.cn (.var 2) .nl))
        (.eff false (some 9) (.alloc 51 [(.int .i64 0), (.int .i64 0), (.int .i64 0), (.int .i64 0)])
        (.call true (some 15) 39 (.cn (.var 11) (.cn (.var 5) (.cn (.var 12) .nl)))
        (.eff false none (.st 4 (.var 9) (.u (.lda 4) (.b (.idx 4) (.var 14) (.var 15))))
        .nxt))))))
        (.set 14 (.u .ld1 (.u (.fld 2) (.var 7)))
        (.set 11 (.u (.lda 4) (.var 7))
        (.call true (some 12) 28 (.cn (.u (.lda 1) (.b (.idx 1) (.u .ld1 (.u (.fld 1) (.var 7))) (.var 5))) (.cn (.var 2) .nl))
        (.call true (some 15) 39 (.cn (.var 11) (.cn (.var 5) (.cn (.var 12) .nl)))
        (.chk (.u (.lda 4) (.b (.idx 4) (.var 14) (.var 15)))
        (.eff false (some 9) (.alloc 51 [(.int .i64 0), (.int .i64 0), (.int .i64 0), (.int .i64 0)])
        (.eff false none (.st 4 (.var 9) (.u (.lda 4) (.b (.idx 4) (.var 14) (.var 15))))
        .nxt)))))))))
     (.set 5 (.u .ld1 (.u (.fld 2) (.var 9)))
     (.set 6 (.b (.bin .add) (.var 6) (.u .ld1 (.u (.fld 3) (.var 9))))
     .nxt))))))))))
 (.call false (some 13) 34 (.cn (.u (.lda 4) (.var 7)) (.cn (.var 5) .nl))
 (.seq
  (.ite (.u (.un .not) (.var 13))
   (.set 3 (.lit (.int .i64 0))
   (.set 4 (.lit (.bool false))
   .ret))
   .nxt)
 (.set 3 (.var 6)
 (.set 4 (.lit (.bool true))
 .ret)))))))))))
def f_layout_way : Fun := ⟨s_layout_way, [(.var 3), (.var 4)]⟩
abbrev v_layout_way : List Nat := [0, 1, 2, 6, 7, 9, 10, 3, 8, 11, 15, 24, 32, 44, 23, 33]
theorem c_layout_way : compF P Go.Proofs.Try.f40 v_layout_way = some f_layout_way := by kernel_rfl
theorem of_layout_way {args : List Value} (hn : args.length ≤ 47) {h : Heap} {R : Value → Heap → Prop} (hs : s_layout_way.wp P (f_layout_way.post R) (env0 v_layout_way args) h) : Runs P n_layout_way args h R := fn_of P_mixed Go.Proofs.Try.func40 c_layout_way (by rw [Go.Proofs.Try.ntmps40]; exact hn) hs
theorem vr_layout_way {kp : Bool} {args : List A} {H : List Blk} {R : A → List Blk → Prop} (hlen : args.length ≤ 47) (hk : kp = false ∨ H = []) (hw : (∀ B ∈ H, A.bdL H.length B.cells = true) → A.bdL H.length args = true → s_layout_way.aw P H.length (postA H.length f_layout_way R) (envA v_layout_way args) H) : VR P kp n_layout_way args H R := VR.of (F := f_layout_way) (V := v_layout_way) of_layout_way hlen hk fun h1 h2 => aw_sound (hw h1 h2)
theorem r_layout_way : Fun.res f_layout_way = [(.var 3), (.var 4)] := rfl
abbrev g_layout_way_0 : List Nat := [5, 6, 9, 10, 11, 12, 14, 15]

/-- recycling/graph.Groups -/
abbrev n_graph_Groups : Nat := 42
def s_graph_Groups : S :=
 (.eff false (some 3) (.box 33 (.var 0))
 (.set 1 (.lit (.slice none 0 0))
 (.set 2 (.lit (.int .i64 0))
 (.call false (some 20) 48 (.cn (.u (.lda 2) (.var 3)) .nl)
 (.set 4 (.var 20)
 (.seq
  (.ite (.b (.bin .neq) (.var 4) (.lit (.int .i64 0)))
   (.set 1 (.lit (.slice none 0 0))
   (.set 2 (.var 4)
   .ret))
   .nxt)
 (.set 5 (.lit (.slice none 0 0))
 (.eff false (some 21) (.mk 4 1 1 [(.bool false)] (.u .ld1 (.u (.fld 0) (.var 3))) (.u .ld1 (.u (.fld 0) (.var 3))))
 (.set 6 (.var 21)
 (.set 8 (.u .ld1 (.u (.fld 0) (.var 3)))
 (.set 7 (.lit (.int .i64 0))
 (.seq
  (.blk 0
   (.loop
    (.set 9 (.b (.bin .lss) (.var 7) (.var 8))
    (.seq
     (.ite (.var 9)
      .nxt
      (.exit 0))
    (.seq
     (.blk 1
      (.set 10 (.var 7)
      (.seq
       (.ite (.u .ld1 (.b (.idx 1) (.var 6) (.var 10)))
        (.exit 1)
        .nxt)
      (.call false (some 22) 58 (.cn (.u (.lda 2) (.var 3)) (.cn (.var 10) .nl))
      (.chk (.u (.ext 0) (.var 22))
      (.chk (.u (.ext 1) (.var 22))
      (.set 11 (.u (.ext 0) (.var 22))
      (.set 12 (.u (.ext 1) (.var 22))
      (.call false (some 23) 59 (.cn (.u (.lda 2) (.var 3)) (.cn (.var 10) .nl))
      (.chk (.u (.ext 0) (.var 23))
      (.chk (.u (.ext 1) (.var 23))
      (.set 13 (.u (.ext 0) (.var 23))
      (.set 14 (.u (.ext 1) (.var 23))
      (.set 15 (.lit (.slice none 0 0))
      (.set 17 (.u .ld1 (.u (.fld 0) (.var 3)))
      (.set 16 (.lit (.int .i64 0))
      (.seq
       (.blk 2
        (.loop
         (.set 18 (.b (.bin .lss) (.var 16) (.var 17))
         (.seq
          (.ite (.var 18)
           .nxt
           (.exit 2))
         (.seq
          (.blk 3
           (.set 19 (.var 16)
           (.ite (.ite (.u .ld1 (.b (.idx 1) (.var 11) (.var 19))) (.u .ld1 (.b (.idx 1) (.var 13) (.var 19))) (.lit (.bool false)))
            (.eff false none (.st 1 (.b (.idx 1) (.var 6) (.var 19)) (.lit (.bool true)))
            (.eff false (some 24) (.lit 3 1 1 [(.int .i64 0)] (.pl 0 1 (.var 19) .nl))
            (.eff false (some 26) (.app 3 1 8 [(.int .i64 0)] (.var 15) (.var 24))
            (.set 15 (.var 26)
            .nxt))))
            .nxt)))
         (.set 16 (.b (.bin .add) (.var 16) (.lit (.int .i64 1)))
         .nxt))))))
      (.eff false (some 25) (.lit 53 1 1 [(.slice none 0 0)] (.pl 0 1 (.var 15) .nl))
      (.eff false (some 27) (.app 53 1 24 [(.slice none 0 0)] (.var 5) (.var 25))
      (.set 5 (.var 27)
      .nxt))))))))))))))))))))
    (.set 7 (.b (.bin .add) (.var 7) (.lit (.int .i64 1)))
    .nxt))))))
 (.set 1 (.var 5)
 (.set 2 (.lit (.int .i64 0))
 .ret))))))))))))))
def f_graph_Groups : Fun := ⟨s_graph_Groups, [(.var 1), (.var 2)]⟩
abbrev v_graph_Groups : List Nat := [0, 2, 3, 1, 4, 5, 6, 24, 23, 25, 7, 8, 9, 10, 11, 12, 45, 44, 46, 13, 15, 21, 34, 40, 63, 68, 64, 69]
theorem c_graph_Groups : compF P Go.Proofs.Try.f42 v_graph_Groups = some f_graph_Groups := by kernel_rfl
theorem of_graph_Groups {args : List Value} (hn : args.length ≤ 72) {h : Heap} {R : Value → Heap → Prop} (hs : s_graph_Groups.wp P (f_graph_Groups.post R) (env0 v_graph_Groups args) h) : Runs P n_graph_Groups args h R := fn_of P_mixed Go.Proofs.Try.func42 c_graph_Groups (by rw [Go.Proofs.Try.ntmps42]; exact hn) hs
theorem vr_graph_Groups {kp : Bool} {args : List A} {H : List Blk} {R : A → List Blk → Prop} (hlen : args.length ≤ 72) (hk : kp = false ∨ H = []) (hw : (∀ B ∈ H, A.bdL H.length B.cells = true) → A.bdL H.length args = true → s_graph_Groups.aw P H.length (postA H.length f_graph_Groups R) (envA v_graph_Groups args) H) : VR P kp n_graph_Groups args H R := VR.of (F := f_graph_Groups) (V := v_graph_Groups) of_graph_Groups hlen hk fun h1 h2 => aw_sound (hw h1 h2)
theorem r_graph_Groups : Fun.res f_graph_Groups = [(.var 1), (.var 2)] := rfl
abbrev g_graph_Groups_0 : List Nat := [5, 7, 9, 10, 11, 12, 13, 14, 15, 16, 17, 18, 19, 22, 23, 24, 25, 26, 27]
abbrev g_graph_Groups_1 : List Nat := [15, 16, 18, 19, 24, 26]

/-- slices.DeleteFunc[[][]int,[]int] -/
abbrev n_slices_DeleteFuncint_int : Nat := 43
def s_slices_DeleteFuncint_int : S :=
 (.set 2 (.lit (.slice none 0 0))
 (.call false (some 6) 60 (.cn (.var 0) (.cn (.var 1) .nl))
 (.set 3 (.var 6)
 (.seq
  (.ite (.b (.bin .eql) (.var 3) (.lit (.int .i64 (-1))))
   (.set 2 (.var 0)
   .ret)
   .nxt)
 (.set 4 (.b (.bin .add) (.var 3) (.lit (.int .i64 1)))
 (.seq
  (.blk 0
   (.loop
    (.seq
     (.ite (.b (.bin .lss) (.var 4) (.u .len (.var 0)))
      .nxt
      (.exit 0))
    (.seq
     (.blk 1
      (.set 5 (.u .ld1 (.b (.idx 1) (.var 0) (.var 4)))
      (.callv false (some 7) (.var 1) (.cn (.var 5) .nl)
      (.ite (.u (.un .not) (.var 7))
       (.eff false none (.st 1 (.b (.idx 1) (.var 0) (.var 3)) (.var 5))
       (.set 3 (.b (.bin .add) (.var 3) (.lit (.int .i64 1)))
       .nxt))
       .nxt))))
    (.set 4 (.b (.bin .add) (.var 4) (.lit (.int .i64 1)))
    .nxt)))))
 (.chk (.slc none 1 (.var 0) (.var 3) (.u .len (.var 0)) .nl)
 (.eff false none (.clr [(.slice none 0 0)] (.slc none 1 (.var 0) (.var 3) (.u .len (.var 0)) .nl))
 (.chk (.slc none 1 (.var 0) (.lit (.int .i64 0)) (.var 3) .nl)
 (.set 2 (.slc none 1 (.var 0) (.lit (.int .i64 0)) (.var 3) .nl)
 .ret))))))))))
def f_slices_DeleteFuncint_int : Fun := ⟨s_slices_DeleteFuncint_int, [(.var 2)]⟩
abbrev v_slices_DeleteFuncint_int : List Nat := [0, 1, 4, 5, 6, 7, 10, 28]
theorem c_slices_DeleteFuncint_int : compF P Go.Proofs.Try.f43 v_slices_DeleteFuncint_int = some f_slices_DeleteFuncint_int := by kernel_rfl
theorem of_slices_DeleteFuncint_int {args : List Value} (hn : args.length ≤ 42) {h : Heap} {R : Value → Heap → Prop} (hs : s_slices_DeleteFuncint_int.wp P (f_slices_DeleteFuncint_int.post R) (env0 v_slices_DeleteFuncint_int args) h) : Runs P n_slices_DeleteFuncint_int args h R := fn_of P_mixed Go.Proofs.Try.func43 c_slices_DeleteFuncint_int (by rw [Go.Proofs.Try.ntmps43]; exact hn) hs
theorem vr_slices_DeleteFuncint_int {kp : Bool} {args : List A} {H : List Blk} {R : A → List Blk → Prop} (hlen : args.length ≤ 42) (hk : kp = false ∨ H = []) (hw : (∀ B ∈ H, A.bdL H.length B.cells = true) → A.bdL H.length args = true → s_slices_DeleteFuncint_int.aw P H.length (postA H.length f_slices_DeleteFuncint_int R) (envA v_slices_DeleteFuncint_int args) H) : VR P kp n_slices_DeleteFuncint_int args H R := VR.of (F := f_slices_DeleteFuncint_int) (V := v_slices_DeleteFuncint_int) of_slices_DeleteFuncint_int hlen hk fun h1 h2 => aw_sound (hw h1 h2)
theorem r_slices_DeleteFuncint_int : Fun.res f_slices_DeleteFuncint_int = [(.var 2)] := rfl
abbrev g_slices_DeleteFuncint_int_0 : List Nat := [3, 4, 5, 7]

/-- recycling/layout.Loops$1 -/
abbrev n_layout_Loops_1 : Nat := 44
def s_layout_Loops_1 : S :=
 (.set 2 (.lit (.bool false))
 (.chk (.ite (.b (.bin .eql) (.u .len (.var 0)) (.lit (.int .i64 1))) (.u .ld1 (.u (.fld 1) (.var 1))) (.lit undef))
 (.chk (.ite (.b (.bin .eql) (.u .len (.var 0)) (.lit (.int .i64 1))) (.bld [(.int .i64 0), (.int .i64 0)] (.pl 0 1 (.u .ld1 (.b (.idx 1) (.var 0) (.lit (.int .i64 0)))) (.pl 1 1 (.u .ld1 (.b (.idx 1) (.var 0) (.lit (.int .i64 0)))) .nl))) (.lit undef))
 (.seq
  (.ite (.b (.bin .eql) (.u .len (.var 0)) (.lit (.int .i64 1)))
   (.call false (some 3) 45 (.cn (.u .ld1 (.u (.fld 1) (.var 1))) (.cn (.bld [(.int .i64 0), (.int .i64 0)] (.pl 0 1 (.u .ld1 (.b (.idx 1) (.var 0) (.lit (.int .i64 0)))) (.pl 1 1 (.u .ld1 (.b (.idx 1) (.var 0) (.lit (.int .i64 0)))) .nl))) .nl))
   (.set 2 (.u (.un .not) (.var 3))
   .nxt))
   (.set 3 (.lit undef)
   (.set 2 (.lit (.bool false))
   .nxt)))
 .ret))))
def f_layout_Loops_1 : Fun := ⟨s_layout_Loops_1, [(.var 2)]⟩
abbrev v_layout_Loops_1 : List Nat := [0, 1, 3, 17]
theorem c_layout_Loops_1 : compF P Go.Proofs.Try.f44 v_layout_Loops_1 = some f_layout_Loops_1 := by kernel_rfl
theorem of_layout_Loops_1 {args : List Value} (hn : args.length ≤ 20) {h : Heap} {R : Value → Heap → Prop} (hs : s_layout_Loops_1.wp P (f_layout_Loops_1.post R) (env0 v_layout_Loops_1 args) h) : Runs P n_layout_Loops_1 args h R := fn_of P_mixed Go.Proofs.Try.func44 c_layout_Loops_1 (by rw [Go.Proofs.Try.ntmps44]; exact hn) hs
theorem vr_layout_Loops_1 {kp : Bool} {args : List A} {H : List Blk} {R : A → List Blk → Prop} (hlen : args.length ≤ 20) (hk : kp = false ∨ H = []) (hw : (∀ B ∈ H, A.bdL H.length B.cells = true) → A.bdL H.length args = true → s_layout_Loops_1.aw P H.length (postA H.length f_layout_Loops_1 R) (envA v_layout_Loops_1 args) H) : VR P kp n_layout_Loops_1 args H R := VR.of (F := f_layout_Loops_1) (V := v_layout_Loops_1) of_layout_Loops_1 hlen hk fun h1 h2 => aw_sound (hw h1 h2)
theorem r_layout_Loops_1 : Fun.res f_layout_Loops_1 = [(.var 2)] := rfl

/-- slices.Contains[[]recycling/api.Arc,recycling/api.Arc] -/
abbrev n_slices_Containsapi_Arc_api_Arc : Nat := 45
def s_slices_Containsapi_Arc_api_Arc : S :=
 (.eff false (some 3) (.box 58 (.var 1))
 (.set 2 (.lit (.bool false))
 (.call false (some 4) 61 (.cn (.var 0) (.cn (.u (.lda 2) (.var 3)) .nl))
 (.set 2 (.b (.bin .geq) (.var 4) (.lit (.int .i64 0)))
 .ret))))
def f_slices_Containsapi_Arc_api_Arc : Fun := ⟨s_slices_Containsapi_Arc_api_Arc, [(.var 2)]⟩
abbrev v_slices_Containsapi_Arc_api_Arc : List Nat := [0, 1, 4, 3, 7]
theorem c_slices_Containsapi_Arc_api_Arc : compF P Go.Proofs.Try.f45 v_slices_Containsapi_Arc_api_Arc = some f_slices_Containsapi_Arc_api_Arc := by kernel_rfl
theorem of_slices_Containsapi_Arc_api_Arc {args : List Value} (hn : args.length ≤ 9) {h : Heap} {R : Value → Heap → Prop} (hs : s_slices_Containsapi_Arc_api_Arc.wp P (f_slices_Containsapi_Arc_api_Arc.post R) (env0 v_slices_Containsapi_Arc_api_Arc args) h) : Runs P n_slices_Containsapi_Arc_api_Arc args h R := fn_of P_mixed Go.Proofs.Try.func45 c_slices_Containsapi_Arc_api_Arc (by rw [Go.Proofs.Try.ntmps45]; exact hn) hs
theorem vr_slices_Containsapi_Arc_api_Arc {kp : Bool} {args : List A} {H : List Blk} {R : A → List Blk → Prop} (hlen : args.length ≤ 9) (hk : kp = false ∨ H = []) (hw : (∀ B ∈ H, A.bdL H.length B.cells = true) → A.bdL H.length args = true → s_slices_Containsapi_Arc_api_Arc.aw P H.length (postA H.length f_slices_Containsapi_Arc_api_Arc R) (envA v_slices_Containsapi_Arc_api_Arc args) H) : VR P kp n_slices_Containsapi_Arc_api_Arc args H R := VR.of (F := f_slices_Containsapi_Arc_api_Arc) (V := v_slices_Containsapi_Arc_api_Arc) of_slices_Containsapi_Arc_api_Arc hlen hk fun h1 h2 => aw_sound (hw h1 h2)
theorem r_slices_Containsapi_Arc_api_Arc : Fun.res f_slices_Containsapi_Arc_api_Arc = [(.var 2)] := rfl

/-- recycling/recyclingref09.Ints -/
abbrev n_ref09_Ints : Nat := 47
def s_ref09_Ints : S :=
 (.set 2 (.lit (.bool false))
 (.seq
  (.ite (.b (.bin .neq) (.u .len (.var 0)) (.u .len (.var 1)))
   (.set 2 (.lit (.bool false))
   .ret)
   .nxt)
 (.set 4 (.u .len (.var 0))
 (.set 3 (.lit (.int .i64 0))
 (.seq
  (.blk 0
   (.loop
    (.set 5 (.b (.bin .lss) (.var 3) (.var 4))
    (.seq
     (.ite (.var 5)
      .nxt
      (.exit 0))
    (.seq
     (.blk 1
      (.set 6 (.var 3)
      (.ite (.b (.bin .neq) (.u .ld1 (.b (.idx 1) (.var 0) (.var 6))) (.u .ld1 (.b (.idx 1) (.var 1) (.var 6))))
       (.set 2 (.lit (.bool false))
       .ret)
       .nxt)))
    (.set 3 (.b (.bin .add) (.var 3) (.lit (.int .i64 1)))
    .nxt))))))
 (.set 2 (.lit (.bool true))
 .ret))))))
def f_ref09_Ints : Fun := ⟨s_ref09_Ints, [(.var 2)]⟩
abbrev v_ref09_Ints : List Nat := [0, 1, 4, 13, 12, 14, 5]
theorem c_ref09_Ints : compF P Go.Proofs.Try.f47 v_ref09_Ints = some f_ref09_Ints := by kernel_rfl
theorem of_ref09_Ints {args : List Value} (hn : args.length ≤ 26) {h : Heap} {R : Value → Heap → Prop} (hs : s_ref09_Ints.wp P (f_ref09_Ints.post R) (env0 v_ref09_Ints args) h) : Runs P n_ref09_Ints args h R := fn_of P_mixed Go.Proofs.Try.func47 c_ref09_Ints (by rw [Go.Proofs.Try.ntmps47]; exact hn) hs
theorem vr_ref09_Ints {kp : Bool} {args : List A} {H : List Blk} {R : A → List Blk → Prop} (hlen : args.length ≤ 26) (hk : kp = false ∨ H = []) (hw : (∀ B ∈ H, A.bdL H.length B.cells = true) → A.bdL H.length args = true → s_ref09_Ints.aw P H.length (postA H.length f_ref09_Ints R) (envA v_ref09_Ints args) H) : VR P kp n_ref09_Ints args H R := VR.of (F := f_ref09_Ints) (V := v_ref09_Ints) of_ref09_Ints hlen hk fun h1 h2 => aw_sound (hw h1 h2)
theorem r_ref09_Ints : Fun.res f_ref09_Ints = [(.var 2)] := rfl
abbrev g_ref09_Ints_0 : List Nat := [2, 3, 5, 6]

/-- recycling/graph.Check -/
abbrev n_graph_Check : Nat := 48
def s_graph_Check : S :=
 (.eff false (some 2) (.box 33 (.var 0))
 (.set 1 (.lit (.int .i64 0))
 (.seq
  (.ite (.ite (.b (.bin .lss) (.u .ld1 (.u (.fld 0) (.var 2))) (.lit (.int .i64 0))) (.lit (.bool true)) (.b (.bin .gtr) (.u .ld1 (.u (.fld 0) (.var 2))) (.lit (.int .i64 64))))
   (.set 1 (.lit (.int .i64 1))
   .ret)
   .nxt)
 (.seq
  (.ite (.b (.bin .gtr) (.u .len (.u .ld1 (.u (.fld 1) (.var 2)))) (.lit (.int .i64 512)))
   (.set 1 (.lit (.int .i64 8))
   .ret)
   .nxt)
 (.set 6 (.u .ld1 (.u (.fld 1) (.var 2)))
 (.set 4 (.u .len (.var 6))
 (.set 3 (.lit (.int .i64 0))
 (.seq
  (.blk 0
   (.loop
    (.set 5 (.b (.bin .lss) (.var 3) (.var 4))
    (.seq
     (.ite (.var 5)
      .nxt
      (.exit 0))
    (.seq
     (.blk 1
      (.chk (.u (.lda 2) (.b (.idx 2) (.var 6) (.var 3)))
      (.eff false (some 7) (.alloc 58 [(.int .i64 0), (.int .i64 0)])
      (.eff false none (.st 2 (.var 7) (.u (.lda 2) (.b (.idx 2) (.var 6) (.var 3))))
      (.ite (.ite (.ite (.ite (.b (.bin .lss) (.u .ld1 (.u (.fld 0) (.var 7))) (.lit (.int .i64 0))) (.lit (.bool true)) (.b (.bin .geq) (.u .ld1 (.u (.fld 0) (.var 7))) (.u .ld1 (.u (.fld 0) (.var 2))))) (.lit (.bool true)) (.b (.bin .lss) (.u .ld1 (.u (.fld 1) (.var 7))) (.lit (.int .i64 0)))) (.lit (.bool true)) (.b (.bin .geq) (.u .ld1 (.u (.fld 1) (.var 7))) (.u .ld1 (.u (.fld 0) (.var 2)))))
       (.set 1 (.lit (.int .i64 7))
       .ret)
       .nxt)))))
    (.set 3 (.b (.bin .add) (.var 3) (.lit (.int .i64 1)))
    .nxt))))))
 (.set 1 (.lit (.int .i64 0))
 .ret)))))))))
def f_graph_Check : Fun := ⟨s_graph_Check, [(.var 1)]⟩
abbrev v_graph_Check : List Nat := [0, 2, 1, 20, 19, 21, 18, 4]
theorem c_graph_Check : compF P Go.Proofs.Try.f48 v_graph_Check = some f_graph_Check := by kernel_rfl
theorem of_graph_Check {args : List Value} (hn : args.length ≤ 47) {h : Heap} {R : Value → Heap → Prop} (hs : s_graph_Check.wp P (f_graph_Check.post R) (env0 v_graph_Check args) h) : Runs P n_graph_Check args h R := fn_of P_mixed Go.Proofs.Try.func48 c_graph_Check (by rw [Go.Proofs.Try.ntmps48]; exact hn) hs
theorem vr_graph_Check {kp : Bool} {args : List A} {H : List Blk} {R : A → List Blk → Prop} (hlen : args.length ≤ 47) (hk : kp = false ∨ H = []) (hw : (∀ B ∈ H, A.bdL H.length B.cells = true) → A.bdL H.length args = true → s_graph_Check.aw P H.length (postA H.length f_graph_Check R) (envA v_graph_Check args) H) : VR P kp n_graph_Check args H R := VR.of (F := f_graph_Check) (V := v_graph_Check) of_graph_Check hlen hk fun h1 h2 => aw_sound (hw h1 h2)
theorem r_graph_Check : Fun.res f_graph_Check = [(.var 1)] := rfl
abbrev g_graph_Check_0 : List Nat := [1, 3, 5, 7]

/-- recycling/pqueue.New[int] -/
abbrev n_pqueue_New : Nat := 49
def s_pqueue_New : S :=
 (.set 1 (.lit (.pointer none))
 (.chk (.b (.eqf false) (.var 0) (.lit .nilFunc))
 (.seq
  (.ite (.b (.eqf false) (.var 0) (.lit .nilFunc))
   (.set 1 (.lit (.pointer none))
   .ret)
   .nxt)
 (.chk (.bld [.nilFunc, (.slice none 0 0), (.int .i64 0)] (.pl 0 1 (.var 0) .nl))
 (.eff false (some 2) (.box 88 (.bld [.nilFunc, (.slice none 0 0), (.int .i64 0)] (.pl 0 1 (.var 0) .nl)))
 (.set 1 (.var 2)
 .ret))))))
def f_pqueue_New : Fun := ⟨s_pqueue_New, [(.var 1)]⟩
abbrev v_pqueue_New : List Nat := [0, 2, 7]
theorem c_pqueue_New : compF P Go.Proofs.Try.f49 v_pqueue_New = some f_pqueue_New := by kernel_rfl
theorem of_pqueue_New {args : List Value} (hn : args.length ≤ 8) {h : Heap} {R : Value → Heap → Prop} (hs : s_pqueue_New.wp P (f_pqueue_New.post R) (env0 v_pqueue_New args) h) : Runs P n_pqueue_New args h R := fn_of P_mixed Go.Proofs.Try.func49 c_pqueue_New (by rw [Go.Proofs.Try.ntmps49]; exact hn) hs
theorem vr_pqueue_New {kp : Bool} {args : List A} {H : List Blk} {R : A → List Blk → Prop} (hlen : args.length ≤ 8) (hk : kp = false ∨ H = []) (hw : (∀ B ∈ H, A.bdL H.length B.cells = true) → A.bdL H.length args = true → s_pqueue_New.aw P H.length (postA H.length f_pqueue_New R) (envA v_pqueue_New args) H) : VR P kp n_pqueue_New args H R := VR.of (F := f_pqueue_New) (V := v_pqueue_New) of_pqueue_New hlen hk fun h1 h2 => aw_sound (hw h1 h2)
theorem r_pqueue_New : Fun.res f_pqueue_New = [(.var 1)] := rfl

/-- recycling/graph.Order$1 -/
abbrev n_graph_Order_1 : Nat := 50
def s_graph_Order_1 : S :=
 (.set 2 (.lit (.bool false))
 (.set 2 (.b (.bin .lss) (.var 0) (.var 1))
 .ret))
def f_graph_Order_1 : Fun := ⟨s_graph_Order_1, [(.var 2)]⟩
abbrev v_graph_Order_1 : List Nat := [0, 1, 4]
theorem c_graph_Order_1 : compF P Go.Proofs.Try.f50 v_graph_Order_1 = some f_graph_Order_1 := by kernel_rfl
theorem of_graph_Order_1 {args : List Value} (hn : args.length ≤ 8) {h : Heap} {R : Value → Heap → Prop} (hs : s_graph_Order_1.wp P (f_graph_Order_1.post R) (env0 v_graph_Order_1 args) h) : Runs P n_graph_Order_1 args h R := fn_of P_mixed Go.Proofs.Try.func50 c_graph_Order_1 (by rw [Go.Proofs.Try.ntmps50]; exact hn) hs
theorem vr_graph_Order_1 {kp : Bool} {args : List A} {H : List Blk} {R : A → List Blk → Prop} (hlen : args.length ≤ 8) (hk : kp = false ∨ H = []) (hw : (∀ B ∈ H, A.bdL H.length B.cells = true) → A.bdL H.length args = true → s_graph_Order_1.aw P H.length (postA H.length f_graph_Order_1 R) (envA v_graph_Order_1 args) H) : VR P kp n_graph_Order_1 args H R := VR.of (F := f_graph_Order_1) (V := v_graph_Order_1) of_graph_Order_1 hlen hk fun h1 h2 => aw_sound (hw h1 h2)
theorem r_graph_Order_1 : Fun.res f_graph_Order_1 = [(.var 2)] := rfl

/-- (*recycling/pqueue.Queue[int]).Push -/
abbrev n_pqueue_Queue_Push : Nat := 51
def s_pqueue_Queue_Push : S :=
 (.seq
  (.ite (.b (.eqp false) (.var 0) (.lit (.pointer none)))
   .ret
   .nxt)
 (.chk (.u .ld1 (.u (.fld 1) (.u .nilc (.var 0))))
 (.chk (.bld [(.int .i64 0), (.int .i64 0)] (.pl 0 1 (.var 1) (.pl 1 1 (.u .ld1 (.u (.fld 2) (.u .nilc (.var 0)))) .nl)))
 (.eff false (some 4) (.lit 90 2 1 [(.int .i64 0), (.int .i64 0)] (.pl 0 2 (.bld [(.int .i64 0), (.int .i64 0)] (.pl 0 1 (.var 1) (.pl 1 1 (.u .ld1 (.u (.fld 2) (.u .nilc (.var 0)))) .nl))) .nl))
 (.eff false (some 6) (.app 90 2 16 [(.int .i64 0), (.int .i64 0)] (.u .ld1 (.u (.fld 1) (.u .nilc (.var 0)))) (.var 4))
 (.eff false none (.st 1 (.u (.fld 1) (.u .nilc (.var 0))) (.var 6))
 (.eff false none (.st 1 (.u (.fld 2) (.u .nilc (.var 0))) (.b (.bin .add) (.u .ld1 (.u (.fld 2) (.u .nilc (.var 0)))) (.lit (.int .i64 1))))
 (.set 2 (.b (.bin .sub) (.u .len (.u .ld1 (.u (.fld 1) (.u .nilc (.var 0))))) (.lit (.int .i64 1)))
 (.blk 0
  (.loop
   (.seq
    (.ite (.b (.bin .gtr) (.var 2) (.lit (.int .i64 0)))
     .nxt
     (.exit 0))
   (.blk 1
    (.set 3 (.b (.bin .quo) (.b (.bin .sub) (.var 2) (.lit (.int .i64 1))) (.lit (.int .i64 2)))
    (.call false (some 5) 65 (.cn (.var 0) (.cn (.var 2) (.cn (.var 3) .nl)))
    (.seq
     (.ite (.u (.un .not) (.var 5))
      .ret
      .nxt)
    (.call false none 66 (.cn (.var 0) (.cn (.var 2) (.cn (.var 3) .nl)))
    (.set 2 (.var 3)
    .nxt)))))))))))))))))
def f_pqueue_Queue_Push : Fun := ⟨s_pqueue_Queue_Push, []⟩
abbrev v_pqueue_Queue_Push : List Nat := [0, 1, 4, 5, 19, 44, 20]
theorem c_pqueue_Queue_Push : compF P Go.Proofs.Try.f51 v_pqueue_Queue_Push = some f_pqueue_Queue_Push := by kernel_rfl
theorem of_pqueue_Queue_Push {args : List Value} (hn : args.length ≤ 51) {h : Heap} {R : Value → Heap → Prop} (hs : s_pqueue_Queue_Push.wp P (f_pqueue_Queue_Push.post R) (env0 v_pqueue_Queue_Push args) h) : Runs P n_pqueue_Queue_Push args h R := fn_of P_mixed Go.Proofs.Try.func51 c_pqueue_Queue_Push (by rw [Go.Proofs.Try.ntmps51]; exact hn) hs
theorem vr_pqueue_Queue_Push {kp : Bool} {args : List A} {H : List Blk} {R : A → List Blk → Prop} (hlen : args.length ≤ 51) (hk : kp = false ∨ H = []) (hw : (∀ B ∈ H, A.bdL H.length B.cells = true) → A.bdL H.length args = true → s_pqueue_Queue_Push.aw P H.length (postA H.length f_pqueue_Queue_Push R) (envA v_pqueue_Queue_Push args) H) : VR P kp n_pqueue_Queue_Push args H R := VR.of (F := f_pqueue_Queue_Push) (V := v_pqueue_Queue_Push) of_pqueue_Queue_Push hlen hk fun h1 h2 => aw_sound (hw h1 h2)
theorem r_pqueue_Queue_Push : Fun.res f_pqueue_Queue_Push = [] := rfl
/-- (*recycling/pqueue.Queue[int]).Pop -/
abbrev n_pqueue_Queue_Pop : Nat := 52
def s_pqueue_Queue_Pop : S :=
 (.set 1 (.lit (.int .i64 0))
 (.set 2 (.lit (.bool false))
 (.call false (some 6) 67 (.cn (.var 0) .nl)
 (.chk (.u (.ext 0) (.var 6))
 (.chk (.u (.ext 1) (.var 6))
 (.set 3 (.u (.ext 0) (.var 6))
 (.set 4 (.u (.ext 1) (.var 6))
 (.seq
  (.ite (.u (.un .not) (.var 4))
   (.set 1 (.var 3)
   (.set 2 (.lit (.bool false))
   .ret))
   .nxt)
 (.set 5 (.b (.bin .sub) (.u .len (.u .ld1 (.u (.fld 1) (.u .nilc (.var 0))))) (.lit (.int .i64 1)))
 (.call false none 66 (.cn (.var 0) (.cn (.lit (.int .i64 0)) (.cn (.var 5) .nl)))
 (.chk (.slc none 2 (.u .ld1 (.u (.fld 1) (.u .nilc (.var 0)))) (.var 5) (.u .len (.u .ld1 (.u (.fld 1) (.u .nilc (.var 0))))) .nl)
 (.eff false none (.clr [(.int .i64 0), (.int .i64 0)] (.slc none 2 (.u .ld1 (.u (.fld 1) (.u .nilc (.var 0)))) (.var 5) (.u .len (.u .ld1 (.u (.fld 1) (.u .nilc (.var 0))))) .nl))
 (.chk (.slc none 2 (.u .ld1 (.u (.fld 1) (.u .nilc (.var 0)))) (.lit (.int .i64 0)) (.var 5) .nl)
 (.eff false none (.st 1 (.u (.fld 1) (.u .nilc (.var 0))) (.slc none 2 (.u .ld1 (.u (.fld 1) (.u .nilc (.var 0)))) (.lit (.int .i64 0)) (.var 5) .nl))
 (.call false none 68 (.cn (.var 0) .nl)
 (.set 1 (.var 3)
 (.set 2 (.lit (.bool true))
 .ret)))))))))))))))))
def f_pqueue_Queue_Pop : Fun := ⟨s_pqueue_Queue_Pop, [(.var 1), (.var 2)]⟩
abbrev v_pqueue_Queue_Pop : List Nat := [0, 2, 3, 4, 5, 6, 9]
theorem c_pqueue_Queue_Pop : compF P Go.Proofs.Try.f52 v_pqueue_Queue_Pop = some f_pqueue_Queue_Pop := by kernel_rfl
theorem of_pqueue_Queue_Pop {args : List Value} (hn : args.length ≤ 42) {h : Heap} {R : Value → Heap → Prop} (hs : s_pqueue_Queue_Pop.wp P (f_pqueue_Queue_Pop.post R) (env0 v_pqueue_Queue_Pop args) h) : Runs P n_pqueue_Queue_Pop args h R := fn_of P_mixed Go.Proofs.Try.func52 c_pqueue_Queue_Pop (by rw [Go.Proofs.Try.ntmps52]; exact hn) hs
theorem vr_pqueue_Queue_Pop {kp : Bool} {args : List A} {H : List Blk} {R : A → List Blk → Prop} (hlen : args.length ≤ 42) (hk : kp = false ∨ H = []) (hw : (∀ B ∈ H, A.bdL H.length B.cells = true) → A.bdL H.length args = true → s_pqueue_Queue_Pop.aw P H.length (postA H.length f_pqueue_Queue_Pop R) (envA v_pqueue_Queue_Pop args) H) : VR P kp n_pqueue_Queue_Pop args H R := VR.of (F := f_pqueue_Queue_Pop) (V := v_pqueue_Queue_Pop) of_pqueue_Queue_Pop hlen hk fun h1 h2 => aw_sound (hw h1 h2)
theorem r_pqueue_Queue_Pop : Fun.res f_pqueue_Queue_Pop = [(.var 1), (.var 2)] := rfl

/-- recycling/layout.belt -/
abbrev n_layout_belt : Nat := 53
def s_layout_belt : S :=
 (.eff false (some 3) (.box 25 (.var 0))
 (.eff false (some 4) (.box 51 (.var 1))
 (.set 2 (.lit (.int .i64 0))
 (.seq
  (.blk 0
   (.call false (some 7) 33 (.cn (.u (.lda 4) (.var 3)) (.cn (.u .ld1 (.u (.fld 0) (.var 4))) .nl))
   (.set 8 (.ite (.ite (.u (.un .not) (.var 7)) (.lit (.bool true)) (.b (.bin .lss) (.u .ld1 (.u (.fld 1) (.var 4))) (.lit (.int .i64 0)))) (.lit undef) (.u .ld1 (.u (.fld 1) (.var 4))))
   (.chk (.ite (.ite (.u (.un .not) (.var 7)) (.lit (.bool true)) (.b (.bin .lss) (.u .ld1 (.u (.fld 1) (.var 4))) (.lit (.int .i64 0)))) (.lit undef) (.u (.lda 1) (.b (.idx 1) (.u .ld1 (.u (.fld 1) (.var 3))) (.u .ld1 (.u (.fld 0) (.var 4))))))
   (.seq
    (.ite (.ite (.u (.un .not) (.var 7)) (.lit (.bool true)) (.b (.bin .lss) (.u .ld1 (.u (.fld 1) (.var 4))) (.lit (.int .i64 0))))
     (.set 9 (.lit undef)
     (.set 10 (.lit undef)
     (.set 5 (.lit (.bool true))
     .nxt)))
     (.call true (some 9) 27 (.cn (.u (.lda 1) (.b (.idx 1) (.u .ld1 (.u (.fld 1) (.var 3))) (.u .ld1 (.u (.fld 0) (.var 4))))) .nl)
     (.chk (.ite (.b (.bin .geq) (.var 8) (.var 9)) (.lit undef) (.u (.lda 4) (.var 3)))
     (.chk (.ite (.b (.bin .geq) (.var 8) (.var 9)) (.lit undef) (.u .ld1 (.u (.fld 2) (.var 4))))
     (.ite (.b (.bin .geq) (.var 8) (.var 9))
      (.set 10 (.lit undef)
      (.set 5 (.lit (.bool true))
      .nxt))
      (.call false (some 10) 33 (.cn (.u (.lda 4) (.var 3)) (.cn (.u .ld1 (.u (.fld 2) (.var 4))) .nl))
      (.set 5 (.u (.un .not) (.var 10))
      .nxt)))))))
   (.ite (.var 5)
    (.set 2 (.lit (.int .i64 7))
    .ret)
    (.set 6 (.ite (.b (.bin .lss) (.u .ld1 (.u (.fld 3) (.var 4))) (.lit (.int .i64 1))) (.lit (.bool true)) (.b (.bin .gtr) (.u .ld1 (.u (.fld 3) (.var 4))) (.lit (.int .i64 16))))
    (.ite (.var 6)
     (.set 2 (.lit (.int .i64 1))
     .ret)
     .nxt))))))))
 (.set 2 (.lit (.int .i64 0))
 .ret)))))
def f_layout_belt : Fun := ⟨s_layout_belt, [(.var 2)]⟩
abbrev v_layout_belt : List Nat := [0, 1, 4, 2, 3, 5, 35, 9, 18, 25, 32]
theorem c_layout_belt : compF P Go.Proofs.Try.f53 v_layout_belt = some f_layout_belt := by kernel_rfl
theorem of_layout_belt {args : List Value} (hn : args.length ≤ 44) {h : Heap} {R : Value → Heap → Prop} (hs : s_layout_belt.wp P (f_layout_belt.post R) (env0 v_layout_belt args) h) : Runs P n_layout_belt args h R := fn_of P_mixed Go.Proofs.Try.func53 c_layout_belt (by rw [Go.Proofs.Try.ntmps53]; exact hn) hs
theorem vr_layout_belt {kp : Bool} {args : List A} {H : List Blk} {R : A → List Blk → Prop} (hlen : args.length ≤ 44) (hk : kp = false ∨ H = []) (hw : (∀ B ∈ H, A.bdL H.length B.cells = true) → A.bdL H.length args = true → s_layout_belt.aw P H.length (postA H.length f_layout_belt R) (envA v_layout_belt args) H) : VR P kp n_layout_belt args H R := VR.of (F := f_layout_belt) (V := v_layout_belt) of_layout_belt hlen hk fun h1 h2 => aw_sound (hw h1 h2)
theorem r_layout_belt : Fun.res f_layout_belt = [(.var 2)] := rfl

/-- slices.IndexFunc[[]recycling/api.Belt,recycling/api.Belt] -/
abbrev n_slices_IndexFuncapi_Belt_api_Belt : Nat := 55
def s_slices_IndexFuncapi_Belt_api_Belt : S :=
 (.set 2 (.lit (.int .i64 0))
 (.set 4 (.u .len (.var 0))
 (.set 3 (.lit (.int .i64 0))
 (.seq
  (.blk 0
   (.loop
    (.set 5 (.b (.bin .lss) (.var 3) (.var 4))
    (.seq
     (.ite (.var 5)
      .nxt
      (.exit 0))
    (.seq
     (.blk 1
      (.set 6 (.var 3)
      (.callv false (some 7) (.var 1) (.cn (.u (.lda 4) (.b (.idx 4) (.var 0) (.var 6))) .nl)
      (.ite (.var 7)
       (.set 2 (.var 6)
       .ret)
       .nxt))))
    (.set 3 (.b (.bin .add) (.var 3) (.lit (.int .i64 1)))
    .nxt))))))
 (.set 2 (.lit (.int .i64 (-1)))
 .ret)))))
def f_slices_IndexFuncapi_Belt_api_Belt : Fun := ⟨s_slices_IndexFuncapi_Belt_api_Belt, [(.var 2)]⟩
abbrev v_slices_IndexFuncapi_Belt_api_Belt : List Nat := [0, 1, 4, 8, 7, 9, 5, 16]
theorem c_slices_IndexFuncapi_Belt_api_Belt : compF P Go.Proofs.Try.f55 v_slices_IndexFuncapi_Belt_api_Belt = some f_slices_IndexFuncapi_Belt_api_Belt := by kernel_rfl
theorem of_slices_IndexFuncapi_Belt_api_Belt {args : List Value} (hn : args.length ≤ 19) {h : Heap} {R : Value → Heap → Prop} (hs : s_slices_IndexFuncapi_Belt_api_Belt.wp P (f_slices_IndexFuncapi_Belt_api_Belt.post R) (env0 v_slices_IndexFuncapi_Belt_api_Belt args) h) : Runs P n_slices_IndexFuncapi_Belt_api_Belt args h R := fn_of P_mixed Go.Proofs.Try.func55 c_slices_IndexFuncapi_Belt_api_Belt (by rw [Go.Proofs.Try.ntmps55]; exact hn) hs
theorem vr_slices_IndexFuncapi_Belt_api_Belt {kp : Bool} {args : List A} {H : List Blk} {R : A → List Blk → Prop} (hlen : args.length ≤ 19) (hk : kp = false ∨ H = []) (hw : (∀ B ∈ H, A.bdL H.length B.cells = true) → A.bdL H.length args = true → s_slices_IndexFuncapi_Belt_api_Belt.aw P H.length (postA H.length f_slices_IndexFuncapi_Belt_api_Belt R) (envA v_slices_IndexFuncapi_Belt_api_Belt args) H) : VR P kp n_slices_IndexFuncapi_Belt_api_Belt args H R := VR.of (F := f_slices_IndexFuncapi_Belt_api_Belt) (V := v_slices_IndexFuncapi_Belt_api_Belt) of_slices_IndexFuncapi_Belt_api_Belt hlen hk fun h1 h2 => aw_sound (hw h1 h2)
theorem r_slices_IndexFuncapi_Belt_api_Belt : Fun.res f_slices_IndexFuncapi_Belt_api_Belt = [(.var 2)] := rfl
abbrev g_slices_IndexFuncapi_Belt_api_Belt_0 : List Nat := [2, 3, 5, 6, 7]

/-- recycling/layout.find$1 -/
abbrev n_layout_find_1 : Nat := 56
def s_layout_find_1 : S :=
 (.eff false (some 4) (.box 51 (.var 0))
 (.set 3 (.lit (.bool false))
 (.set 3 (.ite (.b (.bin .eql) (.u .ld1 (.u (.fld 0) (.var 4))) (.u .ld1 (.var 1))) (.b (.bin .eql) (.u .ld1 (.u (.fld 1) (.var 4))) (.u .ld1 (.var 2))) (.lit (.bool false)))
 .ret)))
def f_layout_find_1 : Fun := ⟨s_layout_find_1, [(.var 3)]⟩
abbrev v_layout_find_1 : List Nat := [0, 1, 2, 4, 3]
theorem c_layout_find_1 : compF P Go.Proofs.Try.f56 v_layout_find_1 = some f_layout_find_1 := by kernel_rfl
theorem of_layout_find_1 {args : List Value} (hn : args.length ≤ 15) {h : Heap} {R : Value → Heap → Prop} (hs : s_layout_find_1.wp P (f_layout_find_1.post R) (env0 v_layout_find_1 args) h) : Runs P n_layout_find_1 args h R := fn_of P_mixed Go.Proofs.Try.func56 c_layout_find_1 (by rw [Go.Proofs.Try.ntmps56]; exact hn) hs
theorem vr_layout_find_1 {kp : Bool} {args : List A} {H : List Blk} {R : A → List Blk → Prop} (hlen : args.length ≤ 15) (hk : kp = false ∨ H = []) (hw : (∀ B ∈ H, A.bdL H.length B.cells = true) → A.bdL H.length args = true → s_layout_find_1.aw P H.length (postA H.length f_layout_find_1 R) (envA v_layout_find_1 args) H) : VR P kp n_layout_find_1 args H R := VR.of (F := f_layout_find_1) (V := v_layout_find_1) of_layout_find_1 hlen hk fun h1 h2 => aw_sound (hw h1 h2)
theorem r_layout_find_1 : Fun.res f_layout_find_1 = [(.var 3)] := rfl

/-- recycling/graph.Reach -/
abbrev n_graph_Reach : Nat := 58
def s_graph_Reach : S :=
 (.eff false (some 4) (.box 33 (.var 0))
 (.set 2 (.lit (.slice none 0 0))
 (.set 3 (.lit (.int .i64 0))
 (.call false (some 5) 69 (.cn (.u (.lda 2) (.var 4)) (.cn (.var 1) (.cn (.lit (.func (.func 70) #[] #[])) .nl)))
 (.chk (.u (.ext 0) (.var 5))
 (.chk (.u (.ext 1) (.var 5))
 (.set 2 (.u (.ext 0) (.var 5))
 (.set 3 (.u (.ext 1) (.var 5))
 .ret))))))))
def f_graph_Reach : Fun := ⟨s_graph_Reach, [(.var 2), (.var 3)]⟩
abbrev v_graph_Reach : List Nat := [0, 1, 4, 5, 2, 8]
theorem c_graph_Reach : compF P Go.Proofs.Try.f58 v_graph_Reach = some f_graph_Reach := by kernel_rfl
theorem of_graph_Reach {args : List Value} (hn : args.length ≤ 11) {h : Heap} {R : Value → Heap → Prop} (hs : s_graph_Reach.wp P (f_graph_Reach.post R) (env0 v_graph_Reach args) h) : Runs P n_graph_Reach args h R := fn_of P_mixed Go.Proofs.Try.func58 c_graph_Reach (by rw [Go.Proofs.Try.ntmps58]; exact hn) hs
theorem vr_graph_Reach {kp : Bool} {args : List A} {H : List Blk} {R : A → List Blk → Prop} (hlen : args.length ≤ 11) (hk : kp = false ∨ H = []) (hw : (∀ B ∈ H, A.bdL H.length B.cells = true) → A.bdL H.length args = true → s_graph_Reach.aw P H.length (postA H.length f_graph_Reach R) (envA v_graph_Reach args) H) : VR P kp n_graph_Reach args H R := VR.of (F := f_graph_Reach) (V := v_graph_Reach) of_graph_Reach hlen hk fun h1 h2 => aw_sound (hw h1 h2)
theorem r_graph_Reach : Fun.res f_graph_Reach = [(.var 2), (.var 3)] := rfl

/-- recycling/graph.Back -/
abbrev n_graph_Back : Nat := 59
def s_graph_Back : S :=
 (.eff false (some 4) (.box 33 (.var 0))
 (.set 2 (.lit (.slice none 0 0))
 (.set 3 (.lit (.int .i64 0))
 (.call false (some 5) 69 (.cn (.u (.lda 2) (.var 4)) (.cn (.var 1) (.cn (.lit (.func (.func 71) #[] #[])) .nl)))
 (.chk (.u (.ext 0) (.var 5))
 (.chk (.u (.ext 1) (.var 5))
 (.set 2 (.u (.ext 0) (.var 5))
 (.set 3 (.u (.ext 1) (.var 5))
 .ret))))))))
def f_graph_Back : Fun := ⟨s_graph_Back, [(.var 2), (.var 3)]⟩
abbrev v_graph_Back : List Nat := [0, 1, 4, 5, 2, 8]
theorem c_graph_Back : compF P Go.Proofs.Try.f59 v_graph_Back = some f_graph_Back := by kernel_rfl
theorem of_graph_Back {args : List Value} (hn : args.length ≤ 11) {h : Heap} {R : Value → Heap → Prop} (hs : s_graph_Back.wp P (f_graph_Back.post R) (env0 v_graph_Back args) h) : Runs P n_graph_Back args h R := fn_of P_mixed Go.Proofs.Try.func59 c_graph_Back (by rw [Go.Proofs.Try.ntmps59]; exact hn) hs
theorem vr_graph_Back {kp : Bool} {args : List A} {H : List Blk} {R : A → List Blk → Prop} (hlen : args.length ≤ 11) (hk : kp = false ∨ H = []) (hw : (∀ B ∈ H, A.bdL H.length B.cells = true) → A.bdL H.length args = true → s_graph_Back.aw P H.length (postA H.length f_graph_Back R) (envA v_graph_Back args) H) : VR P kp n_graph_Back args H R := VR.of (F := f_graph_Back) (V := v_graph_Back) of_graph_Back hlen hk fun h1 h2 => aw_sound (hw h1 h2)
theorem r_graph_Back : Fun.res f_graph_Back = [(.var 2), (.var 3)] := rfl

/-- slices.IndexFunc[[][]int,[]int] -/
abbrev n_slices_IndexFuncint_int : Nat := 60
def s_slices_IndexFuncint_int : S :=
 (.set 2 (.lit (.int .i64 0))
 (.set 4 (.u .len (.var 0))
 (.set 3 (.lit (.int .i64 0))
 (.seq
  (.blk 0
   (.loop
    (.set 5 (.b (.bin .lss) (.var 3) (.var 4))
    (.seq
     (.ite (.var 5)
      .nxt
      (.exit 0))
    (.seq
     (.blk 1
      (.set 6 (.var 3)
      (.callv false (some 7) (.var 1) (.cn (.u .ld1 (.b (.idx 1) (.var 0) (.var 6))) .nl)
      (.ite (.var 7)
       (.set 2 (.var 6)
       .ret)
       .nxt))))
    (.set 3 (.b (.bin .add) (.var 3) (.lit (.int .i64 1)))
    .nxt))))))
 (.set 2 (.lit (.int .i64 (-1)))
 .ret)))))
def f_slices_IndexFuncint_int : Fun := ⟨s_slices_IndexFuncint_int, [(.var 2)]⟩
abbrev v_slices_IndexFuncint_int : List Nat := [0, 1, 4, 8, 7, 9, 5, 16]
theorem c_slices_IndexFuncint_int : compF P Go.Proofs.Try.f60 v_slices_IndexFuncint_int = some f_slices_IndexFuncint_int := by kernel_rfl
theorem of_slices_IndexFuncint_int {args : List Value} (hn : args.length ≤ 19) {h : Heap} {R : Value → Heap → Prop} (hs : s_slices_IndexFuncint_int.wp P (f_slices_IndexFuncint_int.post R) (env0 v_slices_IndexFuncint_int args) h) : Runs P n_slices_IndexFuncint_int args h R := fn_of P_mixed Go.Proofs.Try.func60 c_slices_IndexFuncint_int (by rw [Go.Proofs.Try.ntmps60]; exact hn) hs
theorem vr_slices_IndexFuncint_int {kp : Bool} {args : List A} {H : List Blk} {R : A → List Blk → Prop} (hlen : args.length ≤ 19) (hk : kp = false ∨ H = []) (hw : (∀ B ∈ H, A.bdL H.length B.cells = true) → A.bdL H.length args = true → s_slices_IndexFuncint_int.aw P H.length (postA H.length f_slices_IndexFuncint_int R) (envA v_slices_IndexFuncint_int args) H) : VR P kp n_slices_IndexFuncint_int args H R := VR.of (F := f_slices_IndexFuncint_int) (V := v_slices_IndexFuncint_int) of_slices_IndexFuncint_int hlen hk fun h1 h2 => aw_sound (hw h1 h2)
theorem r_slices_IndexFuncint_int : Fun.res f_slices_IndexFuncint_int = [(.var 2)] := rfl
abbrev g_slices_IndexFuncint_int_0 : List Nat := [2, 3, 5, 6, 7]

/-- slices.Index[[]recycling/api.Arc,recycling/api.Arc] -/
abbrev n_slices_Indexapi_Arc_api_Arc : Nat := 61
def s_slices_Indexapi_Arc_api_Arc : S :=
 (.eff false (some 7) (.box 58 (.var 1))
 (.set 2 (.lit (.int .i64 0))
 (.set 4 (.u .len (.var 0))
 (.set 3 (.lit (.int .i64 0))
 (.seq
  (.blk 0
   (.loop
    (.set 5 (.b (.bin .lss) (.var 3) (.var 4))
    (.seq
     (.ite (.var 5)
      .nxt
      (.exit 0))
    (.seq
     (.blk 1
      (.set 6 (.var 3)
      (.ite (.b (.eqi 2 false) (.u (.lda 2) (.var 7)) (.u (.lda 2) (.b (.idx 2) (.var 0) (.var 6))))
       (.set 2 (.var 6)
       .ret)
       .nxt)))
    (.set 3 (.b (.bin .add) (.var 3) (.lit (.int .i64 1)))
    .nxt))))))
 (.set 2 (.lit (.int .i64 (-1)))
 .ret))))))
def f_slices_Indexapi_Arc_api_Arc : Fun := ⟨s_slices_Indexapi_Arc_api_Arc, [(.var 2)]⟩
abbrev v_slices_Indexapi_Arc_api_Arc : List Nat := [0, 1, 4, 8, 7, 9, 5, 3]
theorem c_slices_Indexapi_Arc_api_Arc : compF P Go.Proofs.Try.f61 v_slices_Indexapi_Arc_api_Arc = some f_slices_Indexapi_Arc_api_Arc := by kernel_rfl
theorem of_slices_Indexapi_Arc_api_Arc {args : List Value} (hn : args.length ≤ 19) {h : Heap} {R : Value → Heap → Prop} (hs : s_slices_Indexapi_Arc_api_Arc.wp P (f_slices_Indexapi_Arc_api_Arc.post R) (env0 v_slices_Indexapi_Arc_api_Arc args) h) : Runs P n_slices_Indexapi_Arc_api_Arc args h R := fn_of P_mixed Go.Proofs.Try.func61 c_slices_Indexapi_Arc_api_Arc (by rw [Go.Proofs.Try.ntmps61]; exact hn) hs
theorem vr_slices_Indexapi_Arc_api_Arc {kp : Bool} {args : List A} {H : List Blk} {R : A → List Blk → Prop} (hlen : args.length ≤ 19) (hk : kp = false ∨ H = []) (hw : (∀ B ∈ H, A.bdL H.length B.cells = true) → A.bdL H.length args = true → s_slices_Indexapi_Arc_api_Arc.aw P H.length (postA H.length f_slices_Indexapi_Arc_api_Arc R) (envA v_slices_Indexapi_Arc_api_Arc args) H) : VR P kp n_slices_Indexapi_Arc_api_Arc args H R := VR.of (F := f_slices_Indexapi_Arc_api_Arc) (V := v_slices_Indexapi_Arc_api_Arc) of_slices_Indexapi_Arc_api_Arc hlen hk fun h1 h2 => aw_sound (hw h1 h2)
theorem r_slices_Indexapi_Arc_api_Arc : Fun.res f_slices_Indexapi_Arc_api_Arc = [(.var 2)] := rfl
abbrev g_slices_Indexapi_Arc_api_Arc_0 : List Nat := [2, 3, 5, 6]

/-- (*recycling/pqueue.Queue[int]).before -/
abbrev n_pqueue_Queue_before : Nat := 65
def s_pqueue_Queue_before : S :=
 (.set 3 (.lit (.bool false))
 (.seq
  (.both
   (.both
    (.chk (.u (.lda 2) (.b (.idx 2) (.u .ld1 (.u (.fld 1) (.u .nilc (.var 0)))) (.var 1)))
    (.set 7 (.b (.idx 2) (.u .ld1 (.u (.fld 1) (.u .nilc (.var 0)))) (.var 2))
    (.set 6 (.u (.lda 2) (.var 7))
    (.eff false (some 4) (.alloc 90 [(.int .i64 0), (.int .i64 0)])
    (.eff false (some 5) (.alloc 90 [(.int .i64 0), (.int .i64 0)])
    (.eff false none (.st 2 (.var 4) (.u (.lda 2) (.b (.idx 2) (.u .ld1 (.u (.fld 1) (.u .nilc (.var 0)))) (.var 1))))
    (.eff false none (.st 2 (.var 5) (.var 6))
    .nxt)))))))
    (.chk (.u (.lda 2) (.b (.idx 2) (.u .ld1 (.u (.fld 1) (.u .nilc (.var 0)))) (.var 1)))
    (.set 7 (.b (.idx 2) (.u .ld1 (.u (.fld 1) (.u .nilc (.var 0)))) (.var 2))
    (.eff false (some 4) (.alloc 90 [(.int .i64 0), (.int .i64 0)])
    (.eff false (some 5) (.alloc 90 [(.int .i64 0), (.int .i64 0)])
    (.eff false none (.st 2 (.var 4) (.u (.lda 2) (.b (.idx 2) (.u .ld1 (.u (.fld 1) (.u .nilc (.var 0)))) (.var 1))))
    (.set 6 (.u (.lda 2) (.var 7))
    (.eff false none (.st 2 (.var 5) (.var 6))
    .nxt))))))))
   (.chk (.u (.lda 2) (.b (.idx 2) (.u .ld1 (.u (.fld 1) (.u .nilc (.var 0)))) (.var 1)))
   (.chk (.u (.fld 1) (.u .nilc (.var 0)))
   (.chk (.var 2)
   (.eff false (some 4) (.alloc 90 [(.int .i64 0), (.int .i64 0)])
   (.eff false (some 5) (.alloc 90 [(.int .i64 0), (.int .i64 0)])
   (.eff false none (.st 2 (.var 4) (.u (.lda 2) (.b (.idx 2) (.u .ld1 (.u (.fld 1) (.u .nilc (.var 0)))) (.var 1))))
   (.set 7 (.b (.idx 2) (.u .ld1 (.u (.fld 1) (.u .nilc (.var 0)))) (.var 2))
   (.set 6 (.u (.lda 2) (.var 7))
   (.eff false none (.st 2 (.var 5) (.var 6))
   .nxt))))))))))
 (.callv false (some 8) (.u .ld1 (.u (.fld 0) (.u .nilc (.var 0)))) (.cn (.u .ld1 (.u (.fld 0) (.var 4))) (.cn (.u .ld1 (.u (.fld 0) (.var 5))) .nl))
 (.seq
  (.ite (.var 8)
   (.set 3 (.lit (.bool true))
   .ret)
   .nxt)
 (.chk (.ite (.b (.bin .lss) (.u .ld1 (.u (.fld 1) (.var 4))) (.u .ld1 (.u (.fld 1) (.var 5)))) (.u .ld1 (.u (.fld 0) (.u .nilc (.var 0)))) (.lit undef))
 (.chk (.ite (.b (.bin .lss) (.u .ld1 (.u (.fld 1) (.var 4))) (.u .ld1 (.u (.fld 1) (.var 5)))) (.u .ld1 (.u (.fld 0) (.var 5))) (.lit undef))
 (.chk (.ite (.b (.bin .lss) (.u .ld1 (.u (.fld 1) (.var 4))) (.u .ld1 (.u (.fld 1) (.var 5)))) (.u .ld1 (.u (.fld 0) (.var 4))) (.lit undef))
 (.seq
  (.ite (.b (.bin .lss) (.u .ld1 (.u (.fld 1) (.var 4))) (.u .ld1 (.u (.fld 1) (.var 5))))
   (.callv false (some 9) (.u .ld1 (.u (.fld 0) (.u .nilc (.var 0)))) (.cn (.u .ld1 (.u (.fld 0) (.var 5))) (.cn (.u .ld1 (.u (.fld 0) (.var 4))) .nl))
   (.set 3 (.u (.un .not) (.var 9))
   .nxt))
   (.set 9 (.lit undef)
   (.set 3 (.lit (.bool false))
   .nxt)))
 .ret))))))))
def f_pqueue_Queue_before : Fun := ⟨s_pqueue_Queue_before, [(.var 3)]⟩
abbrev v_pqueue_Queue_before : List Nat := [0, 1, 2, 6, 7, 8, 22, 21, 31, 46]
theorem c_pqueue_Queue_before : compF P Go.Proofs.Try.f65 v_pqueue_Queue_before = some f_pqueue_Queue_before := by kernel_rfl
theorem of_pqueue_Queue_before {args : List Value} (hn : args.length ≤ 49) {h : Heap} {R : Value → Heap → Prop} (hs : s_pqueue_Queue_before.wp P (f_pqueue_Queue_before.post R) (env0 v_pqueue_Queue_before args) h) : Runs P n_pqueue_Queue_before args h R := fn_of P_mixed Go.Proofs.Try.func65 c_pqueue_Queue_before (by rw [Go.Proofs.Try.ntmps65]; exact hn) hs
theorem vr_pqueue_Queue_before {kp : Bool} {args : List A} {H : List Blk} {R : A → List Blk → Prop} (hlen : args.length ≤ 49) (hk : kp = false ∨ H = []) (hw : (∀ B ∈ H, A.bdL H.length B.cells = true) → A.bdL H.length args = true → s_pqueue_Queue_before.aw P H.length (postA H.length f_pqueue_Queue_before R) (envA v_pqueue_Queue_before args) H) : VR P kp n_pqueue_Queue_before args H R := VR.of (F := f_pqueue_Queue_before) (V := v_pqueue_Queue_before) of_pqueue_Queue_before hlen hk fun h1 h2 => aw_sound (hw h1 h2)
theorem r_pqueue_Queue_before : Fun.res f_pqueue_Queue_before = [(.var 3)] := rfl

/-- (*recycling/pqueue.Queue[int]).swap -/
abbrev n_pqueue_Queue_swap : Nat := 66
def s_pqueue_Queue_swap : S :=
 (.set 3 (.u .ld1 (.u (.fld 1) (.u .nilc (.var 0))))
 (.chk (.u (.lda 2) (.b (.idx 2) (.u .ld1 (.u (.fld 1) (.u .nilc (.var 0)))) (.var 2)))
 (.set 4 (.u (.lda 2) (.b (.idx 2) (.u .ld1 (.u (.fld 1) (.u .nilc (.var 0)))) (.var 1)))
 (.eff false none (.st 2 (.b (.idx 2) (.u .ld1 (.u (.fld 1) (.u .nilc (.var 0)))) (.var 1)) (.u (.lda 2) (.b (.idx 2) (.u .ld1 (.u (.fld 1) (.u .nilc (.var 0)))) (.var 2))))
 (.eff false none (.st 2 (.b (.idx 2) (.var 3) (.var 2)) (.var 4))
 .nxt)))))
def f_pqueue_Queue_swap : Fun := ⟨s_pqueue_Queue_swap, []⟩
abbrev v_pqueue_Queue_swap : List Nat := [0, 1, 2, 14, 29]
theorem c_pqueue_Queue_swap : compF P Go.Proofs.Try.f66 v_pqueue_Queue_swap = some f_pqueue_Queue_swap := by kernel_rfl
theorem of_pqueue_Queue_swap {args : List Value} (hn : args.length ≤ 32) {h : Heap} {R : Value → Heap → Prop} (hs : s_pqueue_Queue_swap.wp P (f_pqueue_Queue_swap.post R) (env0 v_pqueue_Queue_swap args) h) : Runs P n_pqueue_Queue_swap args h R := fn_of P_mixed Go.Proofs.Try.func66 c_pqueue_Queue_swap (by rw [Go.Proofs.Try.ntmps66]; exact hn) hs
theorem vr_pqueue_Queue_swap {kp : Bool} {args : List A} {H : List Blk} {R : A → List Blk → Prop} (hlen : args.length ≤ 32) (hk : kp = false ∨ H = []) (hw : (∀ B ∈ H, A.bdL H.length B.cells = true) → A.bdL H.length args = true → s_pqueue_Queue_swap.aw P H.length (postA H.length f_pqueue_Queue_swap R) (envA v_pqueue_Queue_swap args) H) : VR P kp n_pqueue_Queue_swap args H R := VR.of (F := f_pqueue_Queue_swap) (V := v_pqueue_Queue_swap) of_pqueue_Queue_swap hlen hk fun h1 h2 => aw_sound (hw h1 h2)
theorem r_pqueue_Queue_swap : Fun.res f_pqueue_Queue_swap = [] := rfl

/-- (*recycling/pqueue.Queue[int]).Peek -/
abbrev n_pqueue_Queue_Peek : Nat := 67
def s_pqueue_Queue_Peek : S :=
 (.set 1 (.lit (.int .i64 0))
 (.set 2 (.lit (.bool false))
 (.call false (some 4) 73 (.cn (.var 0) .nl)
 (.seq
  (.ite (.b (.bin .eql) (.var 4) (.lit (.int .i64 0)))
   (.set 3 (.lit (.int .i64 0))
   (.set 1 (.var 3)
   (.set 2 (.lit (.bool false))
   .ret)))
   .nxt)
 (.set 1 (.u .ld1 (.u (.fld 0) (.b (.idx 2) (.u .ld1 (.u (.fld 1) (.u .nilc (.var 0)))) (.lit (.int .i64 0)))))
 (.set 2 (.lit (.bool true))
 .ret))))))
def f_pqueue_Queue_Peek : Fun := ⟨s_pqueue_Queue_Peek, [(.var 1), (.var 2)]⟩
abbrev v_pqueue_Queue_Peek : List Nat := [0, 2, 3, 4, 6]
theorem c_pqueue_Queue_Peek : compF P Go.Proofs.Try.f67 v_pqueue_Queue_Peek = some f_pqueue_Queue_Peek := by kernel_rfl
theorem of_pqueue_Queue_Peek {args : List Value} (hn : args.length ≤ 16) {h : Heap} {R : Value → Heap → Prop} (hs : s_pqueue_Queue_Peek.wp P (f_pqueue_Queue_Peek.post R) (env0 v_pqueue_Queue_Peek args) h) : Runs P n_pqueue_Queue_Peek args h R := fn_of P_mixed Go.Proofs.Try.func67 c_pqueue_Queue_Peek (by rw [Go.Proofs.Try.ntmps67]; exact hn) hs
theorem vr_pqueue_Queue_Peek {kp : Bool} {args : List A} {H : List Blk} {R : A → List Blk → Prop} (hlen : args.length ≤ 16) (hk : kp = false ∨ H = []) (hw : (∀ B ∈ H, A.bdL H.length B.cells = true) → A.bdL H.length args = true → s_pqueue_Queue_Peek.aw P H.length (postA H.length f_pqueue_Queue_Peek R) (envA v_pqueue_Queue_Peek args) H) : VR P kp n_pqueue_Queue_Peek args H R := VR.of (F := f_pqueue_Queue_Peek) (V := v_pqueue_Queue_Peek) of_pqueue_Queue_Peek hlen hk fun h1 h2 => aw_sound (hw h1 h2)
theorem r_pqueue_Queue_Peek : Fun.res f_pqueue_Queue_Peek = [(.var 1), (.var 2)] := rfl

/-- (*recycling/pqueue.Queue[int]).sink -/
abbrev n_pqueue_Queue_sink : Nat := 68
def s_pqueue_Queue_sink : S :=
 (.set 1 (.lit (.int .i64 0))
 (.blk 0
  (.loop
   (.blk 1
    (.set 2 (.var 1)
    (.set 3 (.b (.bin .add) (.b (.bin .mul) (.lit (.int .i64 2)) (.var 1)) (.lit (.int .i64 1)))
    (.seq
     (.blk 2
      (.loop
       (.seq
        (.ite (.ite (.b (.bin .leq) (.var 3) (.b (.bin .add) (.b (.bin .mul) (.lit (.int .i64 2)) (.var 1)) (.lit (.int .i64 2)))) (.b (.bin .lss) (.var 3) (.u .len (.u .ld1 (.u (.fld 1) (.u .nilc (.var 0)))))) (.lit (.bool false)))
         .nxt
         (.exit 2))
       (.seq
        (.blk 3
         (.call false (some 4) 65 (.cn (.var 0) (.cn (.var 3) (.cn (.var 2) .nl)))
         (.ite (.var 4)
          (.set 2 (.var 3)
          .nxt)
          .nxt)))
       (.set 3 (.b (.bin .add) (.var 3) (.lit (.int .i64 1)))
       .nxt)))))
    (.seq
     (.ite (.b (.bin .eql) (.var 2) (.var 1))
      .ret
      .nxt)
    (.call false none 66 (.cn (.var 0) (.cn (.var 1) (.cn (.var 2) .nl)))
    (.set 1 (.var 2)
    .nxt))))))))))
def f_pqueue_Queue_sink : Fun := ⟨s_pqueue_Queue_sink, []⟩
abbrev v_pqueue_Queue_sink : List Nat := [0, 2, 3, 4, 28]
theorem c_pqueue_Queue_sink : compF P Go.Proofs.Try.f68 v_pqueue_Queue_sink = some f_pqueue_Queue_sink := by kernel_rfl
theorem of_pqueue_Queue_sink {args : List Value} (hn : args.length ≤ 38) {h : Heap} {R : Value → Heap → Prop} (hs : s_pqueue_Queue_sink.wp P (f_pqueue_Queue_sink.post R) (env0 v_pqueue_Queue_sink args) h) : Runs P n_pqueue_Queue_sink args h R := fn_of P_mixed Go.Proofs.Try.func68 c_pqueue_Queue_sink (by rw [Go.Proofs.Try.ntmps68]; exact hn) hs
theorem vr_pqueue_Queue_sink {kp : Bool} {args : List A} {H : List Blk} {R : A → List Blk → Prop} (hlen : args.length ≤ 38) (hk : kp = false ∨ H = []) (hw : (∀ B ∈ H, A.bdL H.length B.cells = true) → A.bdL H.length args = true → s_pqueue_Queue_sink.aw P H.length (postA H.length f_pqueue_Queue_sink R) (envA v_pqueue_Queue_sink args) H) : VR P kp n_pqueue_Queue_sink args H R := VR.of (F := f_pqueue_Queue_sink) (V := v_pqueue_Queue_sink) of_pqueue_Queue_sink hlen hk fun h1 h2 => aw_sound (hw h1 h2)
theorem r_pqueue_Queue_sink : Fun.res f_pqueue_Queue_sink = [] := rfl
abbrev g_pqueue_Queue_sink_0 : List Nat := [1, 2, 3, 4]
abbrev g_pqueue_Queue_sink_1 : List Nat := [2, 3, 4]

/-- recycling/graph.visit -/
abbrev n_graph_visit : Nat := 69
def s_graph_visit : S :=
 (.eff false (some 5) (.box 33 (.var 0))
 (.eff false (some 8) (.box 93 (.var 2))
 (.set 3 (.lit (.slice none 0 0))
 (.set 4 (.lit (.int .i64 0))
 (.call false (some 10) 48 (.cn (.u (.lda 2) (.var 5)) .nl)
 (.set 6 (.var 10)
 (.seq
  (.ite (.b (.bin .neq) (.var 6) (.lit (.int .i64 0)))
   (.set 3 (.lit (.slice none 0 0))
   (.set 4 (.var 6)
   .ret))
   .nxt)
 (.seq
  (.ite (.ite (.b (.bin .lss) (.var 1) (.lit (.int .i64 0))) (.lit (.bool true)) (.b (.bin .geq) (.var 1) (.u .ld1 (.u (.fld 0) (.var 5)))))
   (.set 3 (.lit (.slice none 0 0))
   (.set 4 (.lit (.int .i64 7))
   .ret))
   .nxt)
 (.eff false (some 11) (.mk 4 1 1 [(.bool false)] (.u .ld1 (.u (.fld 0) (.var 5))) (.u .ld1 (.u (.fld 0) (.var 5))))
 (.eff false (some 7) (.alloc 81 [(.slice none 0 0)])
 (.eff false none (.st 1 (.var 7) (.var 11))
 (.eff false (some 9) (.alloc 74 [.nilFunc])
 (.chk (.fn 74 (.cn (.var 7) (.cn (.var 5) (.cn (.var 8) (.cn (.var 9) .nl)))))
 (.eff false none (.st 1 (.var 9) (.fn 74 (.cn (.var 7) (.cn (.var 5) (.cn (.var 8) (.cn (.var 9) .nl))))))
 (.callv false none (.u .ld1 (.var 9)) (.cn (.var 1) .nl)
 (.set 3 (.u .ld1 (.var 7))
 (.set 4 (.lit (.int .i64 0))
 .ret)))))))))))))))))
def f_graph_visit : Fun := ⟨s_graph_visit, [(.var 3), (.var 4)]⟩
abbrev v_graph_visit : List Nat := [0, 1, 2, 6, 7, 3, 8, 9, 5, 10, 12, 26]
theorem c_graph_visit : compF P Go.Proofs.Try.f69 v_graph_visit = some f_graph_visit := by kernel_rfl
theorem of_graph_visit {args : List Value} (hn : args.length ≤ 32) {h : Heap} {R : Value → Heap → Prop} (hs : s_graph_visit.wp P (f_graph_visit.post R) (env0 v_graph_visit args) h) : Runs P n_graph_visit args h R := fn_of P_mixed Go.Proofs.Try.func69 c_graph_visit (by rw [Go.Proofs.Try.ntmps69]; exact hn) hs
theorem vr_graph_visit {kp : Bool} {args : List A} {H : List Blk} {R : A → List Blk → Prop} (hlen : args.length ≤ 32) (hk : kp = false ∨ H = []) (hw : (∀ B ∈ H, A.bdL H.length B.cells = true) → A.bdL H.length args = true → s_graph_visit.aw P H.length (postA H.length f_graph_visit R) (envA v_graph_visit args) H) : VR P kp n_graph_visit args H R := VR.of (F := f_graph_visit) (V := v_graph_visit) of_graph_visit hlen hk fun h1 h2 => aw_sound (hw h1 h2)
theorem r_graph_visit : Fun.res f_graph_visit = [(.var 3), (.var 4)] := rfl

/-- recycling/graph.Reach$1 -/
abbrev n_graph_Reach_1 : Nat := 70
def s_graph_Reach_1 : S :=
 (.eff false (some 3) (.box 58 (.var 0))
 (.set 1 (.lit (.int .i64 0))
 (.set 2 (.lit (.int .i64 0))
 (.chk (.u .ld1 (.u (.fld 0) (.var 3)))
 (.chk (.u .ld1 (.u (.fld 1) (.var 3)))
 (.set 1 (.u .ld1 (.u (.fld 0) (.var 3)))
 (.set 2 (.u .ld1 (.u (.fld 1) (.var 3)))
 .ret)))))))
def f_graph_Reach_1 : Fun := ⟨s_graph_Reach_1, [(.var 1), (.var 2)]⟩
abbrev v_graph_Reach_1 : List Nat := [0, 2, 3, 1]
theorem c_graph_Reach_1 : compF P Go.Proofs.Try.f70 v_graph_Reach_1 = some f_graph_Reach_1 := by kernel_rfl
theorem of_graph_Reach_1 {args : List Value} (hn : args.length ≤ 8) {h : Heap} {R : Value → Heap → Prop} (hs : s_graph_Reach_1.wp P (f_graph_Reach_1.post R) (env0 v_graph_Reach_1 args) h) : Runs P n_graph_Reach_1 args h R := fn_of P_mixed Go.Proofs.Try.func70 c_graph_Reach_1 (by rw [Go.Proofs.Try.ntmps70]; exact hn) hs
theorem vr_graph_Reach_1 {kp : Bool} {args : List A} {H : List Blk} {R : A → List Blk → Prop} (hlen : args.length ≤ 8) (hk : kp = false ∨ H = []) (hw : (∀ B ∈ H, A.bdL H.length B.cells = true) → A.bdL H.length args = true → s_graph_Reach_1.aw P H.length (postA H.length f_graph_Reach_1 R) (envA v_graph_Reach_1 args) H) : VR P kp n_graph_Reach_1 args H R := VR.of (F := f_graph_Reach_1) (V := v_graph_Reach_1) of_graph_Reach_1 hlen hk fun h1 h2 => aw_sound (hw h1 h2)
theorem r_graph_Reach_1 : Fun.res f_graph_Reach_1 = [(.var 1), (.var 2)] := rfl

/-- recycling/graph.Back$1 -/
abbrev n_graph_Back_1 : Nat := 71
def s_graph_Back_1 : S :=
 (.eff false (some 3) (.box 58 (.var 0))
 (.set 1 (.lit (.int .i64 0))
 (.set 2 (.lit (.int .i64 0))
 (.chk (.u .ld1 (.u (.fld 1) (.var 3)))
 (.chk (.u .ld1 (.u (.fld 0) (.var 3)))
 (.set 1 (.u .ld1 (.u (.fld 1) (.var 3)))
 (.set 2 (.u .ld1 (.u (.fld 0) (.var 3)))
 .ret)))))))
def f_graph_Back_1 : Fun := ⟨s_graph_Back_1, [(.var 1), (.var 2)]⟩
abbrev v_graph_Back_1 : List Nat := [0, 2, 3, 1]
theorem c_graph_Back_1 : compF P Go.Proofs.Try.f71 v_graph_Back_1 = some f_graph_Back_1 := by kernel_rfl
theorem of_graph_Back_1 {args : List Value} (hn : args.length ≤ 8) {h : Heap} {R : Value → Heap → Prop} (hs : s_graph_Back_1.wp P (f_graph_Back_1.post R) (env0 v_graph_Back_1 args) h) : Runs P n_graph_Back_1 args h R := fn_of P_mixed Go.Proofs.Try.func71 c_graph_Back_1 (by rw [Go.Proofs.Try.ntmps71]; exact hn) hs
theorem vr_graph_Back_1 {kp : Bool} {args : List A} {H : List Blk} {R : A → List Blk → Prop} (hlen : args.length ≤ 8) (hk : kp = false ∨ H = []) (hw : (∀ B ∈ H, A.bdL H.length B.cells = true) → A.bdL H.length args = true → s_graph_Back_1.aw P H.length (postA H.length f_graph_Back_1 R) (envA v_graph_Back_1 args) H) : VR P kp n_graph_Back_1 args H R := VR.of (F := f_graph_Back_1) (V := v_graph_Back_1) of_graph_Back_1 hlen hk fun h1 h2 => aw_sound (hw h1 h2)
theorem r_graph_Back_1 : Fun.res f_graph_Back_1 = [(.var 1), (.var 2)] := rfl

/-- (*recycling/pqueue.Queue[int]).Len -/
abbrev n_pqueue_Queue_Len : Nat := 73
def s_pqueue_Queue_Len : S :=
 (.set 1 (.lit (.int .i64 0))
 (.seq
  (.ite (.b (.eqp false) (.var 0) (.lit (.pointer none)))
   (.set 1 (.lit (.int .i64 0))
   .ret)
   .nxt)
 (.set 1 (.u .len (.u .ld1 (.u (.fld 1) (.u .nilc (.var 0)))))
 .ret)))
def f_pqueue_Queue_Len : Fun := ⟨s_pqueue_Queue_Len, [(.var 1)]⟩
abbrev v_pqueue_Queue_Len : List Nat := [0, 2]
theorem c_pqueue_Queue_Len : compF P Go.Proofs.Try.f73 v_pqueue_Queue_Len = some f_pqueue_Queue_Len := by kernel_rfl
theorem of_pqueue_Queue_Len {args : List Value} (hn : args.length ≤ 10) {h : Heap} {R : Value → Heap → Prop} (hs : s_pqueue_Queue_Len.wp P (f_pqueue_Queue_Len.post R) (env0 v_pqueue_Queue_Len args) h) : Runs P n_pqueue_Queue_Len args h R := fn_of P_mixed Go.Proofs.Try.func73 c_pqueue_Queue_Len (by rw [Go.Proofs.Try.ntmps73]; exact hn) hs
theorem vr_pqueue_Queue_Len {kp : Bool} {args : List A} {H : List Blk} {R : A → List Blk → Prop} (hlen : args.length ≤ 10) (hk : kp = false ∨ H = []) (hw : (∀ B ∈ H, A.bdL H.length B.cells = true) → A.bdL H.length args = true → s_pqueue_Queue_Len.aw P H.length (postA H.length f_pqueue_Queue_Len R) (envA v_pqueue_Queue_Len args) H) : VR P kp n_pqueue_Queue_Len args H R := VR.of (F := f_pqueue_Queue_Len) (V := v_pqueue_Queue_Len) of_pqueue_Queue_Len hlen hk fun h1 h2 => aw_sound (hw h1 h2)
theorem r_pqueue_Queue_Len : Fun.res f_pqueue_Queue_Len = [(.var 1)] := rfl

/-- recycling/graph.visit$1 -/
abbrev n_graph_visit_1 : Nat := 74
def s_graph_visit_1 : S :=
 (.seq
  (.ite (.u .ld1 (.b (.idx 1) (.u .ld1 (.var 1)) (.var 0)))
   .ret
   .nxt)
 (.eff false none (.st 1 (.b (.idx 1) (.u .ld1 (.var 1)) (.var 0)) (.lit (.bool true)))
 (.set 8 (.u .ld1 (.u (.fld 1) (.var 2)))
 (.set 6 (.u .len (.var 8))
 (.set 5 (.lit (.int .i64 0))
 (.blk 0
  (.loop
   (.set 7 (.b (.bin .lss) (.var 5) (.var 6))
   (.seq
    (.ite (.var 7)
     .nxt
     (.exit 0))
   (.seq
    (.blk 1
     (.chk (.u (.lda 2) (.b (.idx 2) (.var 8) (.var 5)))
     (.eff false (some 9) (.alloc 58 [(.int .i64 0), (.int .i64 0)])
     (.eff false none (.st 2 (.var 9) (.u (.lda 2) (.b (.idx 2) (.var 8) (.var 5))))
     (.callv false (some 12) (.u .ld1 (.var 3)) (.cn (.u (.lda 2) (.var 9)) .nl)
     (.chk (.u (.ext 0) (.var 12))
     (.chk (.u (.ext 1) (.var 12))
     (.set 10 (.u (.ext 0) (.var 12))
     (.set 11 (.u (.ext 1) (.var 12))
     (.ite (.b (.bin .eql) (.var 10) (.var 0))
      (.callv false none (.u .ld1 (.var 4)) (.cn (.var 11) .nl)
      .nxt)
      .nxt))))))))))
   (.set 5 (.b (.bin .add) (.var 5) (.lit (.int .i64 1)))
   .nxt)))))))))))
def f_graph_visit_1 : Fun := ⟨s_graph_visit_1, []⟩
abbrev v_graph_visit_1 : List Nat := [0, 1, 2, 3, 4, 20, 19, 21, 18, 7, 8, 9, 27]
theorem c_graph_visit_1 : compF P Go.Proofs.Try.f74 v_graph_visit_1 = some f_graph_visit_1 := by kernel_rfl
theorem of_graph_visit_1 {args : List Value} (hn : args.length ≤ 37) {h : Heap} {R : Value → Heap → Prop} (hs : s_graph_visit_1.wp P (f_graph_visit_1.post R) (env0 v_graph_visit_1 args) h) : Runs P n_graph_visit_1 args h R := fn_of P_mixed Go.Proofs.Try.func74 c_graph_visit_1 (by rw [Go.Proofs.Try.ntmps74]; exact hn) hs
theorem vr_graph_visit_1 {kp : Bool} {args : List A} {H : List Blk} {R : A → List Blk → Prop} (hlen : args.length ≤ 37) (hk : kp = false ∨ H = []) (hw : (∀ B ∈ H, A.bdL H.length B.cells = true) → A.bdL H.length args = true → s_graph_visit_1.aw P H.length (postA H.length f_graph_visit_1 R) (envA v_graph_visit_1 args) H) : VR P kp n_graph_visit_1 args H R := VR.of (F := f_graph_visit_1) (V := v_graph_visit_1) of_graph_visit_1 hlen hk fun h1 h2 => aw_sound (hw h1 h2)
theorem r_graph_visit_1 : Fun.res f_graph_visit_1 = [] := rfl
abbrev g_graph_visit_1_0 : List Nat := [5, 7, 9, 10, 11, 12]

end Go.Proofs.Ytjhdedifmhkhbaa
namespace Go.Proofs.Ytjhdedifmhkhbaa
open Go Go.Lft
set_option linter.unusedSimpArgs false
set_option linter.unusedVariables false

/-- The first error in a list. -/
def firstE {α : Type} (f : α → Int) : List α → Int
  | [] => 0
  | x :: r => if f x ≠ 0 then f x else firstE f r
theorem firstE_hit {α : Type} {f : α → Int} (d : α) : ∀ {l : List α} {k : Nat}, k < l.length → (∀ i, i < k → f (l.getD i d) = 0) → f (l.getD k d) ≠ 0 → firstE f l = f (l.getD k d)
  | [], k, hk, _, _ => by simp at hk
  | x :: r, 0, _, _, hn => by simp only [List.getD_cons_zero] at hn ⊢; simp [firstE, hn]
  | x :: r, k + 1, hk, h, hn => by
    have h0 := h 0 (by omega)
    simp only [List.getD_cons_zero] at h0
    simp only [List.getD_cons_succ] at hn ⊢
    rw [← firstE_hit d (by simpa using hk) (fun i hi => by have := h (i + 1) (by omega); simpa using this) hn]
    simp [firstE, h0]
theorem firstE_none {α : Type} {f : α → Int} (d : α) : ∀ {l : List α}, (∀ i, i < l.length → f (l.getD i d) = 0) → firstE f l = 0
  | [], _ => rfl
  | x :: r, h => by
    have h0 := h 0 (by simp)
    simp only [List.getD_cons_zero] at h0
    simp only [firstE, h0]
    exact firstE_none d (l := r) fun i hi => by have := h (i + 1) (by simpa using hi); simpa using this
theorem firstE_all {α : Type} {f : α → Int} : ∀ {l : List α}, firstE f l = 0 → ∀ x ∈ l, f x = 0
  | [], _, x, hx => by simp at hx
  | y :: r, h, x, hx => by
    unfold firstE at h
    split at h
    · contradiction
    · rename_i h0
      rcases List.mem_cons.1 hx with rfl | hx
      · exact Classical.not_not.1 h0
      · exact firstE_all h x hx

/-- The first place at which p holds, or -1. -/
def idxE {α : Type} (p : α → Prop) [DecidablePred p] : List α → Int
  | [] => -1
  | x :: r => if p x then 0 else if idxE p r < 0 then -1 else idxE p r + 1
theorem idxE_ge {α : Type} (p : α → Prop) [DecidablePred p] : ∀ (l : List α), -1 ≤ idxE p l ∧ idxE p l < l.length
  | [] => by simp [idxE]
  | x :: r => by
    have := idxE_ge p r
    simp only [idxE, List.length_cons]
    split
    · omega
    · split <;> omega
theorem idxE_hit {α : Type} {p : α → Prop} [DecidablePred p] (d : α) : ∀ {l : List α} {k : Nat}, k < l.length → (∀ i, i < k → ¬ p (l.getD i d)) → p (l.getD k d) → idxE p l = k
  | [], k, hk, _, _ => by simp at hk
  | x :: r, 0, _, _, hn => by simp only [List.getD_cons_zero] at hn; simp [idxE, hn]
  | x :: r, k + 1, hk, h, hn => by
    have h0 := h 0 (by omega)
    simp only [List.getD_cons_zero] at h0
    simp only [List.getD_cons_succ] at hn
    have := idxE_hit d (p := p) (l := r) (by simpa using hk) (fun i hi => by have := h (i + 1) (by omega); simpa using this) hn
    simp only [idxE, this, h0, if_false]
    rw [if_neg (by omega)]; omega
theorem idxE_none {α : Type} {p : α → Prop} [DecidablePred p] (d : α) : ∀ {l : List α}, (∀ i, i < l.length → ¬ p (l.getD i d)) → idxE p l = -1
  | [], _ => rfl
  | x :: r, h => by
    have h0 := h 0 (by simp)
    simp only [List.getD_cons_zero] at h0
    have := idxE_none d (p := p) (l := r) fun i hi => by have := h (i + 1) (by simpa using hi); simpa using this
    simp [idxE, h0, this]
theorem idxE_at {α : Type} {p : α → Prop} [DecidablePred p] (d : α) : ∀ {l : List α}, 0 ≤ idxE p l → p (l.getD (idxE p l).toNat d)
  | [], h => by simp [idxE] at h
  | x :: r, h => by
    unfold idxE at h ⊢
    by_cases hx : p x
    · simp [hx]
    · simp only [hx, if_false] at h ⊢
      by_cases h2 : idxE p r < 0
      · rw [if_pos h2] at h; omega
      · rw [if_neg h2] at h ⊢
        have := idxE_at d (p := p) (l := r) (by omega)
        rw [show (idxE p r + 1).toNat = (idxE p r).toNat + 1 by omega]
        simpa using this
theorem idxE_lt {α : Type} {p : α → Prop} [DecidablePred p] (d : α) : ∀ {l : List α} {i : Nat}, (i : Int) < idxE p l → ¬ p (l.getD i d)
  | [], i, h => by simp [idxE] at h; omega
  | x :: r, i, h => by
    unfold idxE at h
    by_cases hx : p x
    · simp [hx] at h; omega
    · simp only [hx, if_false] at h
      by_cases h2 : idxE p r < 0
      · rw [if_pos h2] at h; omega
      · rw [if_neg h2] at h
        cases i with
        | zero => simpa using hx
        | succ i => simpa using idxE_lt d (p := p) (l := r) (i := i) (by omega)
theorem idxE_neg {α : Type} {p : α → Prop} [DecidablePred p] {l : List α} (h : idxE p l < 0) : ∀ x ∈ l, ¬ p x := by
  induction l with
  | nil => intro x hx; simp at hx
  | cons y r ih =>
    intro x hx
    unfold idxE at h
    by_cases hy : p y
    · simp [hy] at h
    · simp only [hy, if_false] at h
      by_cases h2 : idxE p r < 0
      · rcases List.mem_cons.1 hx with rfl | hx
        · exact hy
        · exact ih h2 x hx
      · rw [if_neg h2] at h; omega
theorem mem_get {α : Type} (d : α) {l : List α} {k : Nat} (h : k < l.length) : l.getD k d ∈ l := by
  simp [List.getD_eq_getElem?_getD, h]
theorem get_mem {α : Type} (d : α) {l : List α} {x : α} (h : x ∈ l) : ∃ k, k < l.length ∧ l.getD k d = x := by
  obtain ⟨k, hk, rfl⟩ := List.mem_iff_getElem.1 h
  exact ⟨k, hk, by simp [List.getD_eq_getElem?_getD, hk]⟩
theorem take_succ_get' {α : Type} (l : List α) (k : Nat) (d : α) (h : k < l.length) : l.take (k + 1) = l.take k ++ [l.getD k d] := by
  rw [List.take_succ_eq_append_getElem h]; simp [List.getD_eq_getElem?_getD, h]

/-- Sums of the first numbers of a list. -/
def sumT (l : List Int) (k : Nat) : Int := (l.take k).sum
theorem sumT_zero (l : List Int) : sumT l 0 = 0 := by simp [sumT]
theorem sumT_succ (l : List Int) (k : Nat) (h : k < l.length) : sumT l (k + 1) = sumT l k + l.getD k 0 := by
  unfold sumT; rw [take_succ_get' l k 0 h]; simp
theorem sumT_all (l : List Int) : sumT l l.length = l.sum := by simp [sumT]
theorem sumT_bd (l : List Int) (a b : Int) : ∀ (k : Nat), k ≤ l.length → (∀ i, i < k → a ≤ l.getD i 0 ∧ l.getD i 0 ≤ b) → a * k ≤ sumT l k ∧ sumT l k ≤ b * k
  | 0, _, _ => by simp [sumT_zero]
  | k + 1, hk, h => by
    have h1 := sumT_bd l a b k (by omega) fun i hi => h i (by omega)
    have h2 := h k (by omega)
    rw [sumT_succ l k (by omega), show ((k + 1 : Nat) : Int) = (k : Int) + 1 by omega, Int.mul_add, Int.mul_add]
    omega

/-! ### Machines, belts, plants -/
structure Bt where
  fr : Int
  ot : Int
  to : Int
  ln : Int
def b0 : Bt := ⟨0, 0, 0, 0⟩
def btC (b : Bt) : List A := [.v (.int .i64 b.fr), .v (.int .i64 b.ot), .v (.int .i64 b.to), .v (.int .i64 b.ln)]
def btA (b : Bt) : A := .agg (btC b)
def bts (l : List Bt) : List A := l.map btA
abbrev Mc := List (List Int)
def mcC (w : Bool) (m : Mc) : List A := [.fs w (rows w m)]
def mcA (w : Bool) (m : Mc) : A := .agg (mcC w m)
def mcs (w : Bool) (l : List Mc) : List A := l.map (mcA w)
structure Pl where
  mat : Int
  ms : List Mc
  bs : List Bt
  fd : Int
def plC (w v : Bool) (p : Pl) : List A := [.v (.int .i64 p.mat), .fs w (mcs w p.ms), .fs v (bts p.bs), .v (.int .i64 p.fd)]
def plA (w v : Bool) (p : Pl) : A := .agg (plC w v p)

theorem bt_len (l : List Bt) : (bts l).length = l.length := by simp [bts]
theorem bt_idx (w : Bool) (l : List Bt) (kk : IntKind) (j : Int) (h1 : 0 ≤ j) (h2 : j < l.length) : idxA 4 (.fs w (bts l)) (.v (.int kk j)) = some (.fp w [.v (.int .i64 (l.getD j.toNat b0).fr), .v (.int .i64 (l.getD j.toNat b0).ot), .v (.int .i64 (l.getD j.toNat b0).to), .v (.int .i64 (l.getD j.toNat b0).ln)]) :=
  map_idx 4 w l b0 kk j btC (fun _ => rfl) (fun _ => rfl) h1 h2
theorem bt_bd (n : Nat) (l : List Bt) : A.bdL n (bts l) = true := map_bd n l fun _ => rfl
theorem bt_cl (l : List Bt) : A.clL (bts l) = true := map_cl l fun _ => rfl
theorem mc_len (w : Bool) (l : List Mc) : (mcs w l).length = l.length := by simp [mcs]
theorem mc_idx (w v : Bool) (l : List Mc) (kk : IntKind) (j : Int) (h1 : 0 ≤ j) (h2 : j < l.length) : idxA 1 (.fs w (mcs v l)) (.v (.int kk j)) = some (.fp w [.fs v (rows v (l.getD j.toNat []))]) :=
  map_idx 1 w l [] kk j (mcC v) (fun _ => rfl) (fun _ => rfl) h1 h2
theorem mcA_bd (n : Nat) (w : Bool) (m : Mc) : A.bd n (mcA w m) = true := by simp [mcA, mcC, A.bd, A.bdL, r_bd]
theorem mc_bd (n : Nat) (w : Bool) (l : List Mc) : A.bdL n (mcs w l) = true := map_bd n l fun m => mcA_bd n w m
theorem mc_cl (l : List Mc) : A.clL (mcs true l) = true := map_cl l fun m => by simp [mcA, mcC, A.cl, A.clL, r_cl]
theorem plC_bd (n : Nat) (w v : Bool) (p : Pl) : A.bdL n (plC w v p) = true := by simp [plC, A.bdL, A.bd, mc_bd, bt_bd]
theorem plA_bd (n : Nat) (w v : Bool) (p : Pl) : A.bd n (plA w v p) = true := plC_bd n w v p
theorem aM :
    (∀ (l : List Bt), (bts l).length = l.length) ∧
    (∀ (w : Bool) (l : List Bt) (kk : IntKind) (j : Int) (h1 : 0 ≤ j) (h2 : j < l.length), idxA 4 (.fs w (bts l)) (.v (.int kk j)) = some (.fp w [.v (.int .i64 (l.getD j.toNat b0).fr), .v (.int .i64 (l.getD j.toNat b0).ot), .v (.int .i64 (l.getD j.toNat b0).to), .v (.int .i64 (l.getD j.toNat b0).ln)])) ∧
    (∀ (n : Nat) (l : List Bt), A.bdL n (bts l) = true) ∧
    (∀ (l : List Bt), A.clL (bts l) = true) ∧
    (∀ (w : Bool) (l : List Mc), (mcs w l).length = l.length) ∧
    (∀ (w v : Bool) (l : List Mc) (kk : IntKind) (j : Int) (h1 : 0 ≤ j) (h2 : j < l.length), idxA 1 (.fs w (mcs v l)) (.v (.int kk j)) = some (.fp w [.fs v (rows v (l.getD j.toNat []))])) ∧
    (∀ (n : Nat) (w : Bool) (m : Mc), A.bd n (mcA w m) = true) ∧
    (∀ (n : Nat) (w : Bool) (l : List Mc), A.bdL n (mcs w l) = true) ∧
    (∀ (l : List Mc), A.clL (mcs true l) = true) ∧
    (∀ (n : Nat) (w v : Bool) (p : Pl), A.bdL n (plC w v p) = true) ∧
    (∀ (n : Nat) (w v : Bool) (p : Pl), A.bd n (plA w v p) = true) :=
  ⟨@bt_len, @bt_idx, @bt_bd, @bt_cl, @mc_len, @mc_idx, @mcA_bd, @mc_bd, @mc_cl, @plC_bd, @plA_bd⟩

/-! ### What the document says of machines -/
def rangeE (r : Int) : Int := if r < 0 ∨ 1000 < r then 1 else 0
def rowE (outs : Nat) (r : List Int) : Int :=
  if 4 < r.length then 8 else if r.length ≠ outs then 3 else if firstE rangeE r ≠ 0 then firstE rangeE r else if 0 < r.length ∧ r.sum ≠ 1000 then 17 else 0
def outsN (m : Mc) : Nat := (m.getD 0 []).length
def mcheck (m : Mc) (mat : Int) : Int :=
  if mat < 1 ∨ 16 < mat then 1 else if (m.length : Int) ≠ mat then 18 else firstE (rowE (outsN m)) m
def mainN (m : Mc) (mat : Int) : Int := if mat < 0 ∨ (m.length : Int) ≤ mat then -1 else idxE (fun r : Int => 0 < r) (m.getD mat.toNat [])

theorem rangeE_zero {r : Int} (h : rangeE r = 0) : 0 ≤ r ∧ r ≤ 1000 := by unfold rangeE at h; split at h <;> omega
theorem rangeE_bad {r : Int} (h : r < 0 ∨ 1000 < r) : rangeE r = 1 := by unfold rangeE; rw [if_pos h]
theorem rangeE_ok {r : Int} (h : ¬ (r < 0 ∨ 1000 < r)) : rangeE r = 0 := by unfold rangeE; rw [if_neg h]
theorem outsN_le {m : Mc} : outsN m = 0 ∨ 0 < m.length := by
  cases m with
  | nil => exact .inl rfl
  | cons a r => exact .inr (by simp)
/-- What a machine without errors is. -/
structure MOk (m : Mc) (mat : Int) : Prop where
  m1 : 1 ≤ mat
  m2 : mat ≤ 16
  len : (m.length : Int) = mat
  row : ∀ r ∈ m, r.length = outsN m ∧ r.length ≤ 4 ∧ (∀ x ∈ r, 0 ≤ x ∧ x ≤ 1000) ∧ (0 < r.length → r.sum = 1000)
theorem mcheck_ok {m : Mc} {mat : Int} (h : mcheck m mat = 0) : MOk m mat := by
  unfold mcheck at h
  split at h
  · cases h
  rename_i h1
  split at h
  · cases h
  rename_i h2
  refine ⟨by omega, by omega, by omega, fun r hr => ?_⟩
  have hr' := firstE_all h r hr
  unfold rowE at hr'
  split at hr'
  · cases hr'
  rename_i h3
  split at hr'
  · cases hr'
  rename_i h4
  split at hr'
  · contradiction
  rename_i h5
  split at hr'
  · cases hr'
  rename_i h6
  refine ⟨by omega, by omega, fun x hx => rangeE_zero (firstE_all (Classical.not_not.1 h5) x hx), fun h7 => ?_⟩
  apply Classical.byContradiction; intro h8; exact h6 ⟨h7, h8⟩
theorem sum_pos {l : List Int} (h : ∀ x ∈ l, ¬ (0 < x)) : l.sum ≤ 0 := by
  induction l with
  | nil => simp
  | cons a r ih =>
    have h1 := h a (by simp)
    have h2 := ih fun x hx => h x (by simp [hx])
    simp only [List.sum_cons]; omega
/-- The main output is there. -/
theorem mainN_ok {m : Mc} {mat : Int} (h : MOk m mat) (ho : outsN m ≠ 0) {k : Int} (h0 : 0 ≤ k) (h1 : k < mat) : 0 ≤ mainN m k ∧ mainN m k < outsN m ∧ 0 < (m.getD k.toNat []).getD (mainN m k).toNat 0 := by
  have hk : k.toNat < m.length := by have := h.len; omega
  obtain ⟨r1, r2, r3, r4⟩ := h.row _ (mem_get [] hk)
  unfold mainN
  rw [if_neg (by have := h.len; omega)]
  have h3 : 0 ≤ idxE (fun r : Int => 0 < r) (m.getD k.toNat []) := by
    apply Classical.byContradiction; intro hc
    have := sum_pos (idxE_neg (p := fun r : Int => 0 < r) (l := m.getD k.toNat []) (by omega))
    have := r4 (by omega)
    omega
  have h4 := idxE_ge (fun r : Int => 0 < r) (m.getD k.toNat [])
  exact ⟨h3, by rw [r1] at h4; exact h4.2, idxE_at (p := fun r : Int => 0 < r) 0 h3⟩
end Go.Proofs.Ytjhdedifmhkhbaa
