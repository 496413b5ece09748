/- The functions of the program in the small language, written by my own program (wip/bench/gen.py). No statement is claimed here. -/
import Derived.Test.YtggnafgbjnemoaaVj
import Derived.Test.YtggnafgbjnemoaaChecked
import Derived.KernelRfl
namespace Go.Proofs.Ytggnafgbjnemoaa
open Go Go.Lft
set_option maxRecDepth 100000
noncomputable abbrev P : Program := Go.Proofs.Try.prog
theorem P_mixed : P.follows .mixedOrders = true := by kernel_rfl

/-- recycling/recyclinglaw33.MachineChecks -/
abbrev n_law33_MachineChecks : Nat := 3
def s_law33_MachineChecks : S :=
 (.eff false (some 3) (.box 24 (.var 0))
 (.set 2 (.lit (.bool false))
 (.call false (some 4) 10 (.cn (.u (.lda 1) (.var 3)) .nl)
 (.set 6 (.ite (.u (.un .not) (.var 4)) (.lit undef) (.u (.lda 1) (.var 3)))
 (.chk (.ite (.u (.un .not) (.var 4)) (.lit undef) (.var 1))
 (.seq
  (.ite (.u (.un .not) (.var 4))
   (.set 7 (.lit undef)
   (.set 8 (.lit undef)
   (.call false (some 5) 13 .nl
   (.set 2 (.var 5)
   .nxt))))
   (.call true (some 7) 11 (.cn (.u (.lda 1) (.var 3)) (.cn (.var 1) .nl))
   (.call false (some 8) 12 (.cn (.var 6) (.cn (.var 1) .nl))
   (.ite (.b (.bin .eql) (.var 7) (.var 8))
    (.call false (some 5) 13 .nl
    (.set 2 (.var 5)
    .nxt))
    (.set 5 (.lit undef)
    (.set 2 (.lit (.bool false))
    .nxt))))))
 .ret))))))
def f_law33_MachineChecks : Fun := ⟨s_law33_MachineChecks, [(.var 2)]⟩
abbrev v_law33_MachineChecks : List Nat := [0, 1, 4, 2, 6, 18, 12, 11, 14]
theorem c_law33_MachineChecks : compF P Go.Proofs.Try.f3 v_law33_MachineChecks = some f_law33_MachineChecks := by kernel_rfl
theorem of_law33_MachineChecks {args : List Value} (hn : args.length ≤ 20) {h : Heap} {R : Value → Heap → Prop} (hs : s_law33_MachineChecks.wp P (f_law33_MachineChecks.post R) (env0 v_law33_MachineChecks args) h) : Runs P n_law33_MachineChecks args h R := fn_of P_mixed Go.Proofs.Try.func3 c_law33_MachineChecks (by rw [Go.Proofs.Try.ntmps3]; exact hn) hs
theorem vr_law33_MachineChecks {kp : Bool} {args : List A} {H : List Blk} {R : A → List Blk → Prop} (hlen : args.length ≤ 20) (hk : kp = false ∨ H = []) (hw : (∀ B ∈ H, A.bdL H.length B.cells = true) → A.bdL H.length args = true → s_law33_MachineChecks.aw P H.length (postA H.length f_law33_MachineChecks R) (envA v_law33_MachineChecks args) H) : VR P kp n_law33_MachineChecks args H R := VR.of (F := f_law33_MachineChecks) (V := v_law33_MachineChecks) of_law33_MachineChecks hlen hk fun h1 h2 => aw_sound (hw h1 h2)
theorem r_law33_MachineChecks : Fun.res f_law33_MachineChecks = [(.var 2)] := rfl

/-- recycling/recyclinglaw33.MachineMains -/
abbrev n_law33_MachineMains : Nat := 4
def s_law33_MachineMains : S :=
 (.eff false (some 4) (.box 24 (.var 0))
 (.set 3 (.lit (.bool false))
 (.call false (some 9) 10 (.cn (.u (.lda 1) (.var 4)) .nl)
 (.seq
  (.ite (.u (.un .not) (.var 9))
   (.call false (some 10) 13 .nl
   (.set 3 (.var 10)
   .ret))
   .nxt)
 (.call false (some 11) 14 (.cn (.u (.lda 1) (.var 4)) (.cn (.var 1) (.cn (.var 2) .nl)))
 (.chk (.u (.ext 0) (.var 11))
 (.chk (.u (.ext 1) (.var 11))
 (.set 5 (.u (.ext 0) (.var 11))
 (.set 6 (.u (.ext 1) (.var 11))
 (.call false (some 12) 15 (.cn (.u (.lda 1) (.var 4)) (.cn (.var 1) (.cn (.var 2) .nl)))
 (.chk (.u (.ext 0) (.var 12))
 (.chk (.u (.ext 1) (.var 12))
 (.set 7 (.u (.ext 0) (.var 12))
 (.set 8 (.u (.ext 1) (.var 12))
 (.set 13 (.u (.lda 1) (.var 4))
 (.call true (some 14) 16 (.cn (.u (.lda 1) (.var 4)) .nl)
 (.call false (some 15) 17 (.cn (.var 13) .nl)
 (.set 16 (.ite (.b (.bin .eql) (.var 14) (.var 15)) (.u (.lda 1) (.var 4)) (.lit undef))
 (.chk (.ite (.b (.bin .eql) (.var 14) (.var 15)) (.var 1) (.lit undef))
 (.seq
  (.ite (.b (.bin .eql) (.var 14) (.var 15))
   (.call true (some 17) 18 (.cn (.u (.lda 1) (.var 4)) (.cn (.var 1) .nl))
   (.call false (some 18) 19 (.cn (.var 16) (.cn (.var 1) .nl))
   (.ite (.ite (.ite (.b (.bin .eql) (.var 17) (.var 18)) (.b (.bin .eql) (.var 5) (.var 7)) (.lit (.bool false))) (.b (.bin .eql) (.var 6) (.var 8)) (.lit (.bool false)))
    (.call false (some 19) 13 .nl
    (.set 3 (.var 19)
    .nxt))
    (.set 19 (.lit undef)
    (.set 3 (.lit (.bool false))
    .nxt)))))
   (.set 17 (.lit undef)
   (.set 18 (.lit undef)
   (.set 19 (.lit undef)
   (.set 3 (.lit (.bool false))
   .nxt)))))
 .ret))))))))))))))))))))
def f_law33_MachineMains : Fun := ⟨s_law33_MachineMains, [(.var 3)]⟩
abbrev v_law33_MachineMains : List Nat := [0, 1, 2, 6, 3, 7, 8, 9, 10, 12, 14, 19, 26, 31, 30, 32, 38, 37, 40, 54]
theorem c_law33_MachineMains : compF P Go.Proofs.Try.f4 v_law33_MachineMains = some f_law33_MachineMains := by kernel_rfl
theorem of_law33_MachineMains {args : List Value} (hn : args.length ≤ 56) {h : Heap} {R : Value → Heap → Prop} (hs : s_law33_MachineMains.wp P (f_law33_MachineMains.post R) (env0 v_law33_MachineMains args) h) : Runs P n_law33_MachineMains args h R := fn_of P_mixed Go.Proofs.Try.func4 c_law33_MachineMains (by rw [Go.Proofs.Try.ntmps4]; exact hn) hs
theorem vr_law33_MachineMains {kp : Bool} {args : List A} {H : List Blk} {R : A → List Blk → Prop} (hlen : args.length ≤ 56) (hk : kp = false ∨ H = []) (hw : (∀ B ∈ H, A.bdL H.length B.cells = true) → A.bdL H.length args = true → s_law33_MachineMains.aw P H.length (postA H.length f_law33_MachineMains R) (envA v_law33_MachineMains args) H) : VR P kp n_law33_MachineMains args H R := VR.of (F := f_law33_MachineMains) (V := v_law33_MachineMains) of_law33_MachineMains hlen hk fun h1 h2 => aw_sound (hw h1 h2)
theorem r_law33_MachineMains : Fun.res f_law33_MachineMains = [(.var 3)] := rfl

/-- recycling/recyclinglaw33.MachineSplits -/
abbrev n_law33_MachineSplits : Nat := 5
def s_law33_MachineSplits : S :=
 (.eff false (some 3) (.box 24 (.var 0))
 (.set 2 (.lit (.bool false))
 (.call false (some 8) 10 (.cn (.u (.lda 1) (.var 3)) .nl)
 (.seq
  (.ite (.ite (.u (.un .not) (.var 8)) (.lit (.bool true)) (.b (.bin .gtr) (.u .len (.var 1)) (.lit (.int .i64 100))))
   (.call false (some 9) 13 .nl
   (.set 2 (.var 9)
   .ret))
   .nxt)
 (.call false (some 10) 20 (.cn (.u (.lda 1) (.var 3)) (.cn (.var 1) .nl))
 (.chk (.u (.ext 0) (.var 10))
 (.chk (.u (.ext 1) (.var 10))
 (.set 4 (.u (.ext 0) (.var 10))
 (.set 5 (.u (.ext 1) (.var 10))
 (.call false (some 11) 21 (.cn (.u (.lda 1) (.var 3)) (.cn (.var 1) .nl))
 (.chk (.u (.ext 0) (.var 11))
 (.chk (.u (.ext 1) (.var 11))
 (.set 6 (.u (.ext 0) (.var 11))
 (.set 7 (.u (.ext 1) (.var 11))
 (.call false (some 12) 22 (.cn (.var 4) (.cn (.var 6) .nl))
 (.seq
  (.ite (.ite (.var 12) (.b (.bin .eql) (.var 5) (.var 7)) (.lit (.bool false)))
   (.call false (some 13) 13 .nl
   (.set 2 (.var 13)
   .nxt))
   (.set 13 (.lit undef)
   (.set 2 (.lit (.bool false))
   .nxt)))
 .ret))))))))))))))))
def f_law33_MachineSplits : Fun := ⟨s_law33_MachineSplits, [(.var 2)]⟩
abbrev v_law33_MachineSplits : List Nat := [0, 1, 4, 2, 5, 6, 7, 8, 10, 17, 21, 27, 32, 39]
theorem c_law33_MachineSplits : compF P Go.Proofs.Try.f5 v_law33_MachineSplits = some f_law33_MachineSplits := by kernel_rfl
theorem of_law33_MachineSplits {args : List Value} (hn : args.length ≤ 41) {h : Heap} {R : Value → Heap → Prop} (hs : s_law33_MachineSplits.wp P (f_law33_MachineSplits.post R) (env0 v_law33_MachineSplits args) h) : Runs P n_law33_MachineSplits args h R := fn_of P_mixed Go.Proofs.Try.func5 c_law33_MachineSplits (by rw [Go.Proofs.Try.ntmps5]; exact hn) hs
theorem vr_law33_MachineSplits {kp : Bool} {args : List A} {H : List Blk} {R : A → List Blk → Prop} (hlen : args.length ≤ 41) (hk : kp = false ∨ H = []) (hw : (∀ B ∈ H, A.bdL H.length B.cells = true) → A.bdL H.length args = true → s_law33_MachineSplits.aw P H.length (postA H.length f_law33_MachineSplits R) (envA v_law33_MachineSplits args) H) : VR P kp n_law33_MachineSplits args H R := VR.of (F := f_law33_MachineSplits) (V := v_law33_MachineSplits) of_law33_MachineSplits hlen hk fun h1 h2 => aw_sound (hw h1 h2)
theorem r_law33_MachineSplits : Fun.res f_law33_MachineSplits = [(.var 2)] := rfl

/-- recycling/recyclinglaw33.MachineConserves -/
abbrev n_law33_MachineConserves : Nat := 6
def s_law33_MachineConserves : S :=
 (.eff false (some 3) (.box 24 (.var 0))
 (.set 2 (.lit (.bool false))
 (.call false (some 13) 10 (.cn (.u (.lda 1) (.var 3)) .nl)
 (.seq
  (.ite (.ite (.u (.un .not) (.var 13)) (.lit (.bool true)) (.b (.bin .gtr) (.u .len (.var 1)) (.lit (.int .i64 100))))
   (.call false (some 14) 13 .nl
   (.set 2 (.var 14)
   .ret))
   .nxt)
 (.call false (some 15) 20 (.cn (.u (.lda 1) (.var 3)) (.cn (.var 1) .nl))
 (.chk (.u (.ext 0) (.var 15))
 (.chk (.u (.ext 1) (.var 15))
 (.set 4 (.u (.ext 0) (.var 15))
 (.set 5 (.u (.ext 1) (.var 15))
 (.seq
  (.ite (.b (.bin .neq) (.var 5) (.lit (.int .i64 0)))
   (.seq
    (.ite (.b (.bin .eql) (.u .len (.var 4)) (.lit (.int .i64 0)))
     (.call false (some 16) 13 .nl
     (.set 2 (.var 16)
     .nxt))
     (.set 16 (.lit undef)
     (.set 2 (.lit (.bool false))
     .nxt)))
   .ret)
   .nxt)
 (.seq
  (.ite (.ite (.ite (.ite (.b (.bin .neq) (.u .len (.u .ld1 (.u (.fld 0) (.var 3)))) (.u .len (.var 1))) (.lit (.bool true)) (.b (.bin .eql) (.u .len (.var 1)) (.lit (.int .i64 0)))) (.lit (.bool true)) (.b (.bin .neq) (.u .len (.var 4)) (.u .len (.u .ld1 (.b (.idx 1) (.u .ld1 (.u (.fld 0) (.var 3))) (.lit (.int .i64 0))))))) (.lit (.bool true)) (.b (.bin .eql) (.u .len (.var 4)) (.lit (.int .i64 0))))
   (.set 2 (.lit (.bool false))
   .ret)
   .nxt)
 (.set 6 (.lit (.int .i64 0))
 (.seq
  (.blk 0
   (.loop
    (.seq
     (.ite (.b (.bin .lss) (.var 6) (.u .len (.var 1)))
      .nxt
      (.exit 0))
    (.seq
     (.blk 1
      (.seq
       (.ite (.ite (.ite (.b (.bin .neq) (.u .len (.u .ld1 (.b (.idx 1) (.u .ld1 (.u (.fld 0) (.var 3))) (.var 6)))) (.u .len (.var 4))) (.lit (.bool true)) (.b (.bin .lss) (.u .ld1 (.b (.idx 1) (.var 1) (.var 6))) (.lit (.int .i64 0)))) (.lit (.bool true)) (.b (.bin .gtr) (.u .ld1 (.b (.idx 1) (.var 1) (.var 6))) (.lit (.int .i64 1073741824))))
        (.set 2 (.lit (.bool false))
        .ret)
        .nxt)
      (.set 7 (.lit (.int .i64 (-1)))
      (.set 8 (.b (.bin .sub) (.u .len (.var 4)) (.lit (.int .i64 1)))
      (.seq
       (.blk 2
        (.loop
         (.seq
          (.ite (.b (.bin .geq) (.var 8) (.lit (.int .i64 0)))
           .nxt
           (.exit 2))
         (.seq
          (.blk 3
           (.ite (.b (.bin .gtr) (.u .ld1 (.b (.idx 1) (.u .ld1 (.b (.idx 1) (.u .ld1 (.u (.fld 0) (.var 3))) (.var 6))) (.var 8))) (.lit (.int .i64 0)))
            (.set 7 (.var 8)
            .nxt)
            .nxt))
         (.set 8 (.b (.bin .sub) (.var 8) (.lit (.int .i64 1)))
         .nxt)))))
      (.seq
       (.ite (.b (.bin .lss) (.var 7) (.lit (.int .i64 0)))
        (.set 2 (.lit (.bool false))
        .ret)
        .nxt)
      (.set 9 (.lit (.int .i64 2000))
      (.seq
       (.ite (.b (.bin .geq) (.b (.bin .mul) (.u .ld1 (.b (.idx 1) (.var 1) (.var 6))) (.u .ld1 (.b (.idx 1) (.u .ld1 (.b (.idx 1) (.u .ld1 (.u (.fld 0) (.var 3))) (.var 6))) (.var 7)))) (.lit (.int .i64 1000)))
        (.set 9 (.lit (.int .i64 1000))
        .nxt)
        .nxt)
      (.set 10 (.u .ld1 (.b (.idx 1) (.var 1) (.var 6)))
      (.set 11 (.lit (.int .i64 0))
      (.seq
       (.blk 4
        (.loop
         (.seq
          (.ite (.b (.bin .lss) (.var 11) (.u .len (.var 4)))
           .nxt
           (.exit 4))
         (.seq
          (.blk 5
           (.seq
            (.ite (.ite (.ite (.b (.bin .neq) (.u .len (.u .ld1 (.b (.idx 1) (.var 4) (.var 11)))) (.u .len (.var 1))) (.lit (.bool true)) (.b (.bin .lss) (.u .ld1 (.b (.idx 1) (.u .ld1 (.b (.idx 1) (.var 4) (.var 11))) (.var 6))) (.lit (.int .i64 0)))) (.lit (.bool true)) (.b (.bin .gtr) (.u .ld1 (.b (.idx 1) (.u .ld1 (.b (.idx 1) (.var 4) (.var 11))) (.var 6))) (.var 10)))
             (.set 2 (.lit (.bool false))
             .ret)
             .nxt)
           (.set 10 (.b (.bin .sub) (.var 10) (.u .ld1 (.b (.idx 1) (.u .ld1 (.b (.idx 1) (.var 4) (.var 11))) (.var 6))))
           (.set 12 (.b (.bin .sub) (.b (.bin .mul) (.u .ld1 (.b (.idx 1) (.u .ld1 (.b (.idx 1) (.var 4) (.var 11))) (.var 6))) (.lit (.int .i64 1000))) (.b (.bin .mul) (.u .ld1 (.b (.idx 1) (.var 1) (.var 6))) (.u .ld1 (.b (.idx 1) (.u .ld1 (.b (.idx 1) (.u .ld1 (.u (.fld 0) (.var 3))) (.var 6))) (.var 11)))))
           (.ite (.ite (.ite (.b (.bin .geq) (.var 12) (.var 9)) (.lit (.bool true)) (.b (.bin .leq) (.var 12) (.u (.un .neg) (.var 9)))) (.lit (.bool true)) (.ite (.b (.bin .eql) (.u .ld1 (.b (.idx 1) (.u .ld1 (.b (.idx 1) (.u .ld1 (.u (.fld 0) (.var 3))) (.var 6))) (.var 11))) (.lit (.int .i64 0))) (.b (.bin .neq) (.u .ld1 (.b (.idx 1) (.u .ld1 (.b (.idx 1) (.var 4) (.var 11))) (.var 6))) (.lit (.int .i64 0))) (.lit (.bool false))))
            (.set 2 (.lit (.bool false))
            .ret)
            .nxt)))))
         (.set 11 (.b (.bin .add) (.var 11) (.lit (.int .i64 1)))
         .nxt)))))
      (.ite (.ite (.b (.bin .neq) (.var 10) (.lit (.int .i64 0))) (.lit (.bool true)) (.ite (.b (.bin .gtr) (.u .ld1 (.b (.idx 1) (.var 1) (.var 6))) (.lit (.int .i64 0))) (.b (.bin .lss) (.u .ld1 (.b (.idx 1) (.u .ld1 (.b (.idx 1) (.var 4) (.var 7))) (.var 6))) (.lit (.int .i64 1))) (.lit (.bool false))))
       (.set 2 (.lit (.bool false))
       .ret)
       .nxt))))))))))))
    (.set 6 (.b (.bin .add) (.var 6) (.lit (.int .i64 1)))
    .nxt)))))
 (.call false (some 17) 13 .nl
 (.set 2 (.var 17)
 .ret)))))))))))))))
def f_law33_MachineConserves : Fun := ⟨s_law33_MachineConserves, [(.var 2)]⟩
abbrev v_law33_MachineConserves : List Nat := [0, 1, 4, 2, 5, 6, 7, 8, 9, 10, 11, 12, 13, 15, 22, 26, 35, 244]
theorem c_law33_MachineConserves : compF P Go.Proofs.Try.f6 v_law33_MachineConserves = some f_law33_MachineConserves := by kernel_rfl
theorem of_law33_MachineConserves {args : List Value} (hn : args.length ≤ 245) {h : Heap} {R : Value → Heap → Prop} (hs : s_law33_MachineConserves.wp P (f_law33_MachineConserves.post R) (env0 v_law33_MachineConserves args) h) : Runs P n_law33_MachineConserves args h R := fn_of P_mixed Go.Proofs.Try.func6 c_law33_MachineConserves (by rw [Go.Proofs.Try.ntmps6]; exact hn) hs
theorem vr_law33_MachineConserves {kp : Bool} {args : List A} {H : List Blk} {R : A → List Blk → Prop} (hlen : args.length ≤ 245) (hk : kp = false ∨ H = []) (hw : (∀ B ∈ H, A.bdL H.length B.cells = true) → A.bdL H.length args = true → s_law33_MachineConserves.aw P H.length (postA H.length f_law33_MachineConserves R) (envA v_law33_MachineConserves args) H) : VR P kp n_law33_MachineConserves args H R := VR.of (F := f_law33_MachineConserves) (V := v_law33_MachineConserves) of_law33_MachineConserves hlen hk fun h1 h2 => aw_sound (hw h1 h2)
theorem r_law33_MachineConserves : Fun.res f_law33_MachineConserves = [(.var 2)] := rfl
abbrev g_law33_MachineConserves_0 : List Nat := [2, 6, 7, 8, 9, 10, 11, 12]
abbrev g_law33_MachineConserves_1 : List Nat := [7, 8]
abbrev g_law33_MachineConserves_2 : List Nat := [2, 10, 11, 12]

/-- recycling/recyclinglaw33.MachineOwns -/
abbrev n_law33_MachineOwns : Nat := 7
def s_law33_MachineOwns : S :=
 (.eff false (some 3) (.box 24 (.var 0))
 (.set 2 (.lit (.bool false))
 (.call false (some 13) 10 (.cn (.u (.lda 1) (.var 3)) .nl)
 (.seq
  (.ite (.ite (.u (.un .not) (.var 13)) (.lit (.bool true)) (.b (.bin .gtr) (.u .len (.var 1)) (.lit (.int .i64 100))))
   (.call false (some 14) 13 .nl
   (.set 2 (.var 14)
   .ret))
   .nxt)
 (.call false (some 15) 20 (.cn (.u (.lda 1) (.var 3)) (.cn (.var 1) .nl))
 (.chk (.u (.ext 0) (.var 15))
 (.chk (.u (.ext 1) (.var 15))
 (.set 4 (.u (.ext 0) (.var 15))
 (.set 5 (.u (.ext 1) (.var 15))
 (.seq
  (.ite (.ite (.ite (.b (.bin .neq) (.var 5) (.lit (.int .i64 0))) (.lit (.bool true)) (.b (.bin .eql) (.u .len (.var 1)) (.lit (.int .i64 0)))) (.lit (.bool true)) (.b (.bin .eql) (.u .len (.var 4)) (.lit (.int .i64 0))))
   (.seq
    (.ite (.b (.bin .neq) (.var 5) (.lit (.int .i64 0)))
     (.call false (some 16) 13 .nl
     (.set 2 (.var 16)
     .nxt))
     (.set 16 (.lit undef)
     (.set 2 (.lit (.bool false))
     .nxt)))
   .ret)
   .nxt)
 (.set 6 (.lit (.slice none 0 0))
 (.eff false (some 17) (.app 3 1 8 [(.int .i64 0)] (.var 6) (.var 1))
 (.set 6 (.var 17)
 (.call false (some 18) 20 (.cn (.u (.lda 1) (.var 3)) (.cn (.var 1) .nl))
 (.chk (.u (.ext 0) (.var 18))
 (.chk (.u (.ext 1) (.var 18))
 (.set 7 (.u (.ext 0) (.var 18))
 (.set 8 (.u (.ext 1) (.var 18))
 (.set 9 (.lit (.int .i64 0))
 (.seq
  (.blk 0
   (.loop
    (.seq
     (.ite (.b (.bin .lss) (.var 9) (.u .len (.var 4)))
      .nxt
      (.exit 0))
    (.seq
     (.blk 1
      (.chk (.ite (.ite (.b (.bin .neq) (.u .len (.u .ld1 (.b (.idx 1) (.var 4) (.var 9)))) (.u .len (.var 1))) (.lit (.bool true)) (.b (.bin .neq) (.u .len (.var 7)) (.u .len (.var 4)))) (.lit undef) (.u .ld1 (.b (.idx 1) (.var 7) (.var 9))))
      (.chk (.ite (.ite (.b (.bin .neq) (.u .len (.u .ld1 (.b (.idx 1) (.var 4) (.var 9)))) (.u .len (.var 1))) (.lit (.bool true)) (.b (.bin .neq) (.u .len (.var 7)) (.u .len (.var 4)))) (.lit undef) (.u .ld1 (.b (.idx 1) (.var 4) (.var 9))))
      (.seq
       (.ite (.ite (.b (.bin .neq) (.u .len (.u .ld1 (.b (.idx 1) (.var 4) (.var 9)))) (.u .len (.var 1))) (.lit (.bool true)) (.b (.bin .neq) (.u .len (.var 7)) (.u .len (.var 4))))
        (.set 19 (.lit undef)
        (.ite (.lit (.bool true))
         (.set 2 (.lit (.bool false))
         .ret)
         .nxt))
        (.call false (some 19) 23 (.cn (.u .ld1 (.b (.idx 1) (.var 7) (.var 9))) (.cn (.u .ld1 (.b (.idx 1) (.var 4) (.var 9))) .nl))
        (.ite (.u (.un .not) (.var 19))
         (.set 2 (.lit (.bool false))
         .ret)
         .nxt)))
      (.set 10 (.lit (.int .i64 0))
      (.blk 2
       (.loop
        (.seq
         (.ite (.b (.bin .lss) (.var 10) (.u .len (.var 1)))
          .nxt
          (.exit 2))
        (.seq
         (.blk 3
          (.eff false none (.st 1 (.b (.idx 1) (.u .ld1 (.b (.idx 1) (.var 4) (.var 9))) (.var 10)) (.b (.bin .sub) (.lit (.int .i64 (-1))) (.var 9)))
          .nxt))
        (.set 10 (.b (.bin .add) (.var 10) (.lit (.int .i64 1)))
        .nxt))))))))))
    (.set 9 (.b (.bin .add) (.var 9) (.lit (.int .i64 1)))
    .nxt)))))
 (.set 11 (.lit (.int .i64 0))
 (.seq
  (.blk 4
   (.loop
    (.seq
     (.ite (.b (.bin .lss) (.var 11) (.u .len (.var 4)))
      .nxt
      (.exit 4))
    (.seq
     (.blk 5
      (.set 12 (.lit (.int .i64 0))
      (.blk 6
       (.loop
        (.seq
         (.ite (.b (.bin .lss) (.var 12) (.u .len (.var 1)))
          .nxt
          (.exit 6))
        (.seq
         (.blk 7
          (.ite (.ite (.b (.bin .neq) (.u .ld1 (.b (.idx 1) (.u .ld1 (.b (.idx 1) (.var 4) (.var 11))) (.var 12))) (.b (.bin .sub) (.lit (.int .i64 (-1))) (.var 11))) (.lit (.bool true)) (.b (.bin .lss) (.u .ld1 (.b (.idx 1) (.u .ld1 (.b (.idx 1) (.var 7) (.var 11))) (.var 12))) (.lit (.int .i64 0))))
           (.set 2 (.lit (.bool false))
           .ret)
           .nxt))
        (.set 12 (.b (.bin .add) (.var 12) (.lit (.int .i64 1)))
        .nxt)))))))
    (.set 11 (.b (.bin .add) (.var 11) (.lit (.int .i64 1)))
    .nxt)))))
 (.call false (some 20) 23 (.cn (.var 6) (.cn (.var 1) .nl))
 (.seq
  (.ite (.var 20)
   (.call false (some 21) 13 .nl
   (.set 2 (.var 21)
   .nxt))
   (.set 21 (.lit undef)
   (.set 2 (.lit (.bool false))
   .nxt)))
 .ret))))))))))))))))))))))))
def f_law33_MachineOwns : Fun := ⟨s_law33_MachineOwns, [(.var 2)]⟩
abbrev v_law33_MachineOwns : List Nat := [0, 1, 4, 2, 5, 6, 7, 8, 9, 10, 11, 12, 13, 15, 22, 26, 44, 48, 52, 85, 136, 138]
theorem c_law33_MachineOwns : compF P Go.Proofs.Try.f7 v_law33_MachineOwns = some f_law33_MachineOwns := by kernel_rfl
theorem of_law33_MachineOwns {args : List Value} (hn : args.length ≤ 140) {h : Heap} {R : Value → Heap → Prop} (hs : s_law33_MachineOwns.wp P (f_law33_MachineOwns.post R) (env0 v_law33_MachineOwns args) h) : Runs P n_law33_MachineOwns args h R := fn_of P_mixed Go.Proofs.Try.func7 c_law33_MachineOwns (by rw [Go.Proofs.Try.ntmps7]; exact hn) hs
theorem vr_law33_MachineOwns {kp : Bool} {args : List A} {H : List Blk} {R : A → List Blk → Prop} (hlen : args.length ≤ 140) (hk : kp = false ∨ H = []) (hw : (∀ B ∈ H, A.bdL H.length B.cells = true) → A.bdL H.length args = true → s_law33_MachineOwns.aw P H.length (postA H.length f_law33_MachineOwns R) (envA v_law33_MachineOwns args) H) : VR P kp n_law33_MachineOwns args H R := VR.of (F := f_law33_MachineOwns) (V := v_law33_MachineOwns) of_law33_MachineOwns hlen hk fun h1 h2 => aw_sound (hw h1 h2)
theorem r_law33_MachineOwns : Fun.res f_law33_MachineOwns = [(.var 2)] := rfl
abbrev g_law33_MachineOwns_0 : List Nat := [2, 9, 10, 19]
abbrev g_law33_MachineOwns_1 : List Nat := [10]
abbrev g_law33_MachineOwns_2 : List Nat := [2, 11, 12]
abbrev g_law33_MachineOwns_3 : List Nat := [2, 12]

/-- recycling/recyclinglaw33.MachineThousands -/
abbrev n_law33_MachineThousands : Nat := 8
def s_law33_MachineThousands : S :=
 (.eff false (some 3) (.box 24 (.var 0))
 (.set 2 (.lit (.bool false))
 (.call false (some 8) 10 (.cn (.u (.lda 1) (.var 3)) .nl)
 (.seq
  (.ite (.ite (.u (.un .not) (.var 8)) (.lit (.bool true)) (.b (.bin .gtr) (.u .len (.var 1)) (.lit (.int .i64 100))))
   (.call false (some 9) 13 .nl
   (.set 2 (.var 9)
   .ret))
   .nxt)
 (.call false (some 10) 20 (.cn (.u (.lda 1) (.var 3)) (.cn (.var 1) .nl))
 (.chk (.u (.ext 0) (.var 10))
 (.chk (.u (.ext 1) (.var 10))
 (.set 4 (.u (.ext 0) (.var 10))
 (.set 5 (.u (.ext 1) (.var 10))
 (.seq
  (.ite (.b (.bin .neq) (.var 5) (.lit (.int .i64 0)))
   (.seq
    (.ite (.b (.bin .eql) (.u .len (.var 4)) (.lit (.int .i64 0)))
     (.call false (some 11) 13 .nl
     (.set 2 (.var 11)
     .nxt))
     (.set 11 (.lit undef)
     (.set 2 (.lit (.bool false))
     .nxt)))
   .ret)
   .nxt)
 (.set 6 (.lit (.int .i64 0))
 (.seq
  (.blk 0
   (.loop
    (.seq
     (.ite (.b (.bin .lss) (.var 6) (.u .len (.var 1)))
      .nxt
      (.exit 0))
    (.seq
     (.blk 1
      (.seq
       (.ite (.b (.bin .neq) (.b (.bin .rem) (.u .ld1 (.b (.idx 1) (.var 1) (.var 6))) (.lit (.int .i64 1000))) (.lit (.int .i64 0)))
        (.exit 1)
        .nxt)
      (.seq
       (.ite (.ite (.b (.bin .geq) (.var 6) (.u .len (.u .ld1 (.u (.fld 0) (.var 3))))) (.lit (.bool true)) (.b (.bin .neq) (.u .len (.u .ld1 (.b (.idx 1) (.u .ld1 (.u (.fld 0) (.var 3))) (.var 6)))) (.u .len (.var 4))))
        (.set 2 (.lit (.bool false))
        .ret)
        .nxt)
      (.set 7 (.lit (.int .i64 0))
      (.blk 2
       (.loop
        (.seq
         (.ite (.b (.bin .lss) (.var 7) (.u .len (.var 4)))
          .nxt
          (.exit 2))
        (.seq
         (.blk 3
          (.ite (.ite (.b (.bin .neq) (.u .len (.u .ld1 (.b (.idx 1) (.var 4) (.var 7)))) (.u .len (.var 1))) (.lit (.bool true)) (.b (.bin .neq) (.u .ld1 (.b (.idx 1) (.u .ld1 (.b (.idx 1) (.var 4) (.var 7))) (.var 6))) (.b (.bin .mul) (.b (.bin .quo) (.u .ld1 (.b (.idx 1) (.var 1) (.var 6))) (.lit (.int .i64 1000))) (.u .ld1 (.b (.idx 1) (.u .ld1 (.b (.idx 1) (.u .ld1 (.u (.fld 0) (.var 3))) (.var 6))) (.var 7))))))
           (.set 2 (.lit (.bool false))
           .ret)
           .nxt))
        (.set 7 (.b (.bin .add) (.var 7) (.lit (.int .i64 1)))
        .nxt)))))))))
    (.set 6 (.b (.bin .add) (.var 6) (.lit (.int .i64 1)))
    .nxt)))))
 (.call false (some 12) 13 .nl
 (.set 2 (.var 12)
 .ret))))))))))))))
def f_law33_MachineThousands : Fun := ⟨s_law33_MachineThousands, [(.var 2)]⟩
abbrev v_law33_MachineThousands : List Nat := [0, 1, 4, 2, 5, 6, 7, 8, 10, 17, 21, 30, 98]
theorem c_law33_MachineThousands : compF P Go.Proofs.Try.f8 v_law33_MachineThousands = some f_law33_MachineThousands := by kernel_rfl
theorem of_law33_MachineThousands {args : List Value} (hn : args.length ≤ 99) {h : Heap} {R : Value → Heap → Prop} (hs : s_law33_MachineThousands.wp P (f_law33_MachineThousands.post R) (env0 v_law33_MachineThousands args) h) : Runs P n_law33_MachineThousands args h R := fn_of P_mixed Go.Proofs.Try.func8 c_law33_MachineThousands (by rw [Go.Proofs.Try.ntmps8]; exact hn) hs
theorem vr_law33_MachineThousands {kp : Bool} {args : List A} {H : List Blk} {R : A → List Blk → Prop} (hlen : args.length ≤ 99) (hk : kp = false ∨ H = []) (hw : (∀ B ∈ H, A.bdL H.length B.cells = true) → A.bdL H.length args = true → s_law33_MachineThousands.aw P H.length (postA H.length f_law33_MachineThousands R) (envA v_law33_MachineThousands args) H) : VR P kp n_law33_MachineThousands args H R := VR.of (F := f_law33_MachineThousands) (V := v_law33_MachineThousands) of_law33_MachineThousands hlen hk fun h1 h2 => aw_sound (hw h1 h2)
theorem r_law33_MachineThousands : Fun.res f_law33_MachineThousands = [(.var 2)] := rfl
abbrev g_law33_MachineThousands_0 : List Nat := [2, 6, 7]
abbrev g_law33_MachineThousands_1 : List Nat := [2, 7]

/-- recycling/recyclinglaw33.MachineAlone -/
abbrev n_law33_MachineAlone : Nat := 9
def s_law33_MachineAlone : S :=
 (.eff false (some 3) (.box 24 (.var 0))
 (.set 2 (.lit (.bool false))
 (.call false (some 10) 10 (.cn (.u (.lda 1) (.var 3)) .nl)
 (.seq
  (.ite (.ite (.u (.un .not) (.var 10)) (.lit (.bool true)) (.b (.bin .gtr) (.u .len (.var 1)) (.lit (.int .i64 100))))
   (.call false (some 11) 13 .nl
   (.set 2 (.var 11)
   .ret))
   .nxt)
 (.call false (some 12) 20 (.cn (.u (.lda 1) (.var 3)) (.cn (.var 1) .nl))
 (.chk (.u (.ext 0) (.var 12))
 (.chk (.u (.ext 1) (.var 12))
 (.set 4 (.u (.ext 0) (.var 12))
 (.set 5 (.u (.ext 1) (.var 12))
 (.seq
  (.ite (.b (.bin .neq) (.var 5) (.lit (.int .i64 0)))
   (.seq
    (.ite (.b (.bin .eql) (.u .len (.var 4)) (.lit (.int .i64 0)))
     (.call false (some 13) 13 .nl
     (.set 2 (.var 13)
     .nxt))
     (.set 13 (.lit undef)
     (.set 2 (.lit (.bool false))
     .nxt)))
   .ret)
   .nxt)
 (.seq
  (.ite (.b (.bin .neq) (.u .len (.u .ld1 (.u (.fld 0) (.var 3)))) (.u .len (.var 1)))
   (.set 2 (.lit (.bool false))
   .ret)
   .nxt)
 (.set 6 (.lit (.int .i64 0))
 (.seq
  (.blk 0
   (.loop
    (.seq
     (.ite (.b (.bin .lss) (.var 6) (.u .len (.var 1)))
      .nxt
      (.exit 0))
    (.seq
     (.blk 1
      (.chk (.slc none 1 (.u .ld1 (.u (.fld 0) (.var 3))) (.var 6) (.b (.bin .add) (.var 6) (.lit (.int .i64 1))) .nl)
      (.chk (.bld [(.slice none 0 0)] (.pl 0 1 (.slc none 1 (.u .ld1 (.u (.fld 0) (.var 3))) (.var 6) (.b (.bin .add) (.var 6) (.lit (.int .i64 1))) .nl) .nl))
      (.chk (.slc none 1 (.var 1) (.var 6) (.b (.bin .add) (.var 6) (.lit (.int .i64 1))) .nl)
      (.call false (some 14) 20 (.cn (.bld [(.slice none 0 0)] (.pl 0 1 (.slc none 1 (.u .ld1 (.u (.fld 0) (.var 3))) (.var 6) (.b (.bin .add) (.var 6) (.lit (.int .i64 1))) .nl) .nl)) (.cn (.slc none 1 (.var 1) (.var 6) (.b (.bin .add) (.var 6) (.lit (.int .i64 1))) .nl) .nl))
      (.chk (.u (.ext 0) (.var 14))
      (.chk (.u (.ext 1) (.var 14))
      (.set 7 (.u (.ext 0) (.var 14))
      (.set 8 (.u (.ext 1) (.var 14))
      (.seq
       (.ite (.ite (.b (.bin .neq) (.var 8) (.lit (.int .i64 0))) (.lit (.bool true)) (.b (.bin .neq) (.u .len (.var 7)) (.u .len (.var 4))))
        (.set 2 (.lit (.bool false))
        .ret)
        .nxt)
      (.set 9 (.lit (.int .i64 0))
      (.blk 2
       (.loop
        (.seq
         (.ite (.b (.bin .lss) (.var 9) (.u .len (.var 4)))
          .nxt
          (.exit 2))
        (.seq
         (.blk 3
          (.ite (.ite (.ite (.b (.bin .neq) (.u .len (.u .ld1 (.b (.idx 1) (.var 7) (.var 9)))) (.lit (.int .i64 1))) (.lit (.bool true)) (.b (.bin .neq) (.u .len (.u .ld1 (.b (.idx 1) (.var 4) (.var 9)))) (.u .len (.var 1)))) (.lit (.bool true)) (.b (.bin .neq) (.u .ld1 (.b (.idx 1) (.u .ld1 (.b (.idx 1) (.var 7) (.var 9))) (.lit (.int .i64 0)))) (.u .ld1 (.b (.idx 1) (.u .ld1 (.b (.idx 1) (.var 4) (.var 9))) (.var 6)))))
           (.set 2 (.lit (.bool false))
           .ret)
           .nxt))
        (.set 9 (.b (.bin .add) (.var 9) (.lit (.int .i64 1)))
        .nxt))))))))))))))))
    (.set 6 (.b (.bin .add) (.var 6) (.lit (.int .i64 1)))
    .nxt)))))
 (.call false (some 15) 13 .nl
 (.set 2 (.var 15)
 .ret)))))))))))))))
def f_law33_MachineAlone : Fun := ⟨s_law33_MachineAlone, [(.var 2)]⟩
abbrev v_law33_MachineAlone : List Nat := [0, 1, 4, 2, 5, 6, 7, 8, 9, 10, 12, 19, 23, 32, 59, 109]
theorem c_law33_MachineAlone : compF P Go.Proofs.Try.f9 v_law33_MachineAlone = some f_law33_MachineAlone := by kernel_rfl
theorem of_law33_MachineAlone {args : List Value} (hn : args.length ≤ 110) {h : Heap} {R : Value → Heap → Prop} (hs : s_law33_MachineAlone.wp P (f_law33_MachineAlone.post R) (env0 v_law33_MachineAlone args) h) : Runs P n_law33_MachineAlone args h R := fn_of P_mixed Go.Proofs.Try.func9 c_law33_MachineAlone (by rw [Go.Proofs.Try.ntmps9]; exact hn) hs
theorem vr_law33_MachineAlone {kp : Bool} {args : List A} {H : List Blk} {R : A → List Blk → Prop} (hlen : args.length ≤ 110) (hk : kp = false ∨ H = []) (hw : (∀ B ∈ H, A.bdL H.length B.cells = true) → A.bdL H.length args = true → s_law33_MachineAlone.aw P H.length (postA H.length f_law33_MachineAlone R) (envA v_law33_MachineAlone args) H) : VR P kp n_law33_MachineAlone args H R := VR.of (F := f_law33_MachineAlone) (V := v_law33_MachineAlone) of_law33_MachineAlone hlen hk fun h1 h2 => aw_sound (hw h1 h2)
theorem r_law33_MachineAlone : Fun.res f_law33_MachineAlone = [(.var 2)] := rfl
abbrev g_law33_MachineAlone_0 : List Nat := [2, 6, 7, 8, 9, 14]
abbrev g_law33_MachineAlone_1 : List Nat := [2, 9]

/-- recycling/recyclinglaw33.light -/
abbrev n_law33_light : Nat := 10
def s_law33_light : S :=
 (.eff false (some 2) (.box 24 (.var 0))
 (.set 1 (.lit (.bool false))
 (.seq
  (.ite (.b (.bin .gtr) (.u .len (.u .ld1 (.u (.fld 0) (.var 2)))) (.lit (.int .i64 100)))
   (.set 1 (.lit (.bool false))
   .ret)
   .nxt)
 (.set 3 (.lit (.int .i64 0))
 (.seq
  (.blk 0
   (.loop
    (.seq
     (.ite (.b (.bin .lss) (.var 3) (.u .len (.u .ld1 (.u (.fld 0) (.var 2)))))
      .nxt
      (.exit 0))
    (.seq
     (.blk 1
      (.ite (.b (.bin .gtr) (.u .len (.u .ld1 (.b (.idx 1) (.u .ld1 (.u (.fld 0) (.var 2))) (.var 3)))) (.lit (.int .i64 100)))
       (.set 1 (.lit (.bool false))
       .ret)
       .nxt))
    (.set 3 (.b (.bin .add) (.var 3) (.lit (.int .i64 1)))
    .nxt)))))
 (.set 1 (.lit (.bool true))
 .ret))))))
def f_law33_light : Fun := ⟨s_law33_light, [(.var 1)]⟩
abbrev v_law33_light : List Nat := [0, 2, 1, 3]
theorem c_law33_light : compF P Go.Proofs.Try.f10 v_law33_light = some f_law33_light := by kernel_rfl
theorem of_law33_light {args : List Value} (hn : args.length ≤ 22) {h : Heap} {R : Value → Heap → Prop} (hs : s_law33_light.wp P (f_law33_light.post R) (env0 v_law33_light args) h) : Runs P n_law33_light args h R := fn_of P_mixed Go.Proofs.Try.func10 c_law33_light (by rw [Go.Proofs.Try.ntmps10]; exact hn) hs
theorem vr_law33_light {kp : Bool} {args : List A} {H : List Blk} {R : A → List Blk → Prop} (hlen : args.length ≤ 22) (hk : kp = false ∨ H = []) (hw : (∀ B ∈ H, A.bdL H.length B.cells = true) → A.bdL H.length args = true → s_law33_light.aw P H.length (postA H.length f_law33_light R) (envA v_law33_light args) H) : VR P kp n_law33_light args H R := VR.of (F := f_law33_light) (V := v_law33_light) of_law33_light hlen hk fun h1 h2 => aw_sound (hw h1 h2)
theorem r_law33_light : Fun.res f_law33_light = [(.var 1)] := rfl
abbrev g_law33_light_0 : List Nat := [1, 3]

/-- recycling/machine.Check -/
abbrev n_machine_Check : Nat := 11
def s_machine_Check : S :=
 (.eff false (some 3) (.box 24 (.var 0))
 (.set 2 (.lit (.int .i64 0))
 (.seq
  (.ite (.ite (.b (.bin .lss) (.var 1) (.lit (.int .i64 1))) (.lit (.bool true)) (.b (.bin .gtr) (.var 1) (.lit (.int .i64 16))))
   (.set 2 (.lit (.int .i64 1))
   .ret)
   .nxt)
 (.seq
  (.ite (.b (.bin .neq) (.u .len (.u .ld1 (.u (.fld 0) (.var 3)))) (.var 1))
   (.set 2 (.lit (.int .i64 18))
   .ret)
   .nxt)
 (.set 4 (.lit (.int .i64 0))
 (.set 8 (.u .ld1 (.u (.fld 0) (.var 3)))
 (.set 6 (.u .len (.var 8))
 (.set 5 (.lit (.int .i64 0))
 (.seq
  (.blk 0
   (.loop
    (.set 7 (.b (.bin .lss) (.var 5) (.var 6))
    (.seq
     (.ite (.var 7)
      .nxt
      (.exit 0))
    (.seq
     (.blk 1
      (.set 9 (.u .ld1 (.b (.idx 1) (.var 8) (.var 5)))
      (.set 10 (.lit (.int .i64 0))
      (.seq
       (.ite (.b (.bin .gtr) (.u .len (.var 9)) (.lit (.int .i64 4)))
        (.set 4 (.lit (.int .i64 8))
        (.exit 0))
        .nxt)
      (.seq
       (.ite (.b (.bin .neq) (.u .len (.var 9)) (.u .len (.u .ld1 (.b (.idx 1) (.u .ld1 (.u (.fld 0) (.var 3))) (.lit (.int .i64 0))))))
        (.set 4 (.lit (.int .i64 3))
        (.exit 0))
        .nxt)
      (.set 14 (.var 9)
      (.set 12 (.u .len (.var 14))
      (.set 11 (.lit (.int .i64 0))
      (.seq
       (.blk 2
        (.loop
         (.set 13 (.b (.bin .lss) (.var 11) (.var 12))
         (.seq
          (.ite (.var 13)
           .nxt
           (.exit 2))
         (.seq
          (.blk 3
           (.set 15 (.u .ld1 (.b (.idx 1) (.var 14) (.var 11)))
           (.seq
            (.ite (.ite (.b (.bin .lss) (.var 15) (.lit (.int .i64 0))) (.lit (.bool true)) (.b (.bin .gtr) (.var 15) (.lit (.int .i64 1000))))
             (.set 4 (.lit (.int .i64 1))
             (.exit 0))
             .nxt)
           (.set 10 (.b (.bin .add) (.var 10) (.var 15))
           .nxt))))
         (.set 11 (.b (.bin .add) (.var 11) (.lit (.int .i64 1)))
         .nxt))))))
      (.ite (.ite (.b (.bin .gtr) (.u .len (.var 9)) (.lit (.int .i64 0))) (.b (.bin .neq) (.var 10) (.lit (.int .i64 1000))) (.lit (.bool false)))
       (.set 4 (.lit (.int .i64 17))
       (.exit 0))
       .nxt))))))))))
    (.set 5 (.b (.bin .add) (.var 5) (.lit (.int .i64 1)))
    .nxt))))))
 (.set 2 (.var 4)
 .ret))))))))))
def f_machine_Check : Fun := ⟨s_machine_Check, [(.var 2)]⟩
abbrev v_machine_Check : List Nat := [0, 1, 4, 2, 5, 25, 24, 26, 23, 7, 8, 42, 41, 43, 40, 10]
theorem c_machine_Check : compF P Go.Proofs.Try.f11 v_machine_Check = some f_machine_Check := by kernel_rfl
theorem of_machine_Check {args : List Value} (hn : args.length ≤ 65) {h : Heap} {R : Value → Heap → Prop} (hs : s_machine_Check.wp P (f_machine_Check.post R) (env0 v_machine_Check args) h) : Runs P n_machine_Check args h R := fn_of P_mixed Go.Proofs.Try.func11 c_machine_Check (by rw [Go.Proofs.Try.ntmps11]; exact hn) hs
theorem vr_machine_Check {kp : Bool} {args : List A} {H : List Blk} {R : A → List Blk → Prop} (hlen : args.length ≤ 65) (hk : kp = false ∨ H = []) (hw : (∀ B ∈ H, A.bdL H.length B.cells = true) → A.bdL H.length args = true → s_machine_Check.aw P H.length (postA H.length f_machine_Check R) (envA v_machine_Check args) H) : VR P kp n_machine_Check args H R := VR.of (F := f_machine_Check) (V := v_machine_Check) of_machine_Check hlen hk fun h1 h2 => aw_sound (hw h1 h2)
theorem r_machine_Check : Fun.res f_machine_Check = [(.var 2)] := rfl
abbrev g_machine_Check_0 : List Nat := [4, 5, 7, 9, 10, 11, 12, 13, 14, 15]
abbrev g_machine_Check_1 : List Nat := [4, 10, 11, 13, 15]

/-- recycling/recyclingref33.Check -/
abbrev n_ref33_Check : Nat := 12
def s_ref33_Check : S :=
 (.eff false (some 3) (.box 24 (.var 0))
 (.set 2 (.lit (.int .i64 0))
 (.seq
  (.ite (.ite (.b (.bin .lss) (.var 1) (.lit (.int .i64 1))) (.lit (.bool true)) (.b (.bin .gtr) (.var 1) (.lit (.int .i64 16))))
   (.set 2 (.lit (.int .i64 1))
   .ret)
   .nxt)
 (.seq
  (.ite (.b (.bin .neq) (.u .len (.u .ld1 (.u (.fld 0) (.var 3)))) (.var 1))
   (.set 2 (.lit (.int .i64 18))
   .ret)
   .nxt)
 (.set 4 (.lit (.int .i64 0))
 (.seq
  (.blk 0
   (.loop
    (.seq
     (.ite (.b (.bin .lss) (.var 4) (.var 1))
      .nxt
      (.exit 0))
    (.seq
     (.blk 1
      (.call false (some 6) 24 (.cn (.u .ld1 (.b (.idx 1) (.u .ld1 (.u (.fld 0) (.var 3))) (.var 4))) (.cn (.u .len (.u .ld1 (.b (.idx 1) (.u .ld1 (.u (.fld 0) (.var 3))) (.lit (.int .i64 0))))) .nl))
      (.set 5 (.var 6)
      (.ite (.b (.bin .neq) (.var 5) (.lit (.int .i64 0)))
       (.set 2 (.var 5)
       .ret)
       .nxt))))
    (.set 4 (.b (.bin .add) (.var 4) (.lit (.int .i64 1)))
    .nxt)))))
 (.set 2 (.lit (.int .i64 0))
 .ret)))))))
def f_ref33_Check : Fun := ⟨s_ref33_Check, [(.var 2)]⟩
abbrev v_ref33_Check : List Nat := [0, 1, 4, 2, 5, 6, 33]
theorem c_ref33_Check : compF P Go.Proofs.Try.f12 v_ref33_Check = some f_ref33_Check := by kernel_rfl
theorem of_ref33_Check {args : List Value} (hn : args.length ≤ 37) {h : Heap} {R : Value → Heap → Prop} (hs : s_ref33_Check.wp P (f_ref33_Check.post R) (env0 v_ref33_Check args) h) : Runs P n_ref33_Check args h R := fn_of P_mixed Go.Proofs.Try.func12 c_ref33_Check (by rw [Go.Proofs.Try.ntmps12]; exact hn) hs
theorem vr_ref33_Check {kp : Bool} {args : List A} {H : List Blk} {R : A → List Blk → Prop} (hlen : args.length ≤ 37) (hk : kp = false ∨ H = []) (hw : (∀ B ∈ H, A.bdL H.length B.cells = true) → A.bdL H.length args = true → s_ref33_Check.aw P H.length (postA H.length f_ref33_Check R) (envA v_ref33_Check args) H) : VR P kp n_ref33_Check args H R := VR.of (F := f_ref33_Check) (V := v_ref33_Check) of_ref33_Check hlen hk fun h1 h2 => aw_sound (hw h1 h2)
theorem r_ref33_Check : Fun.res f_ref33_Check = [(.var 2)] := rfl
abbrev g_ref33_Check_0 : List Nat := [2, 4, 5, 6]

/-- recycling/recyclinglaw33.awake -/
abbrev n_law33_awake : Nat := 13
def s_law33_awake : S :=
 (.set 0 (.lit (.bool false))
 (.eff false (some 11) (.lit 3 1 2 [(.int .i64 0)] (.pl 0 1 (.lit (.int .i64 300)) (.pl 1 1 (.lit (.int .i64 700)) .nl)))
 (.eff false (some 12) (.lit 3 1 2 [(.int .i64 0)] (.pl 0 1 (.lit (.int .i64 1000)) (.pl 1 1 (.lit (.int .i64 0)) .nl)))
 (.eff false (some 20) (.lit 35 1 2 [(.slice none 0 0)] (.pl 0 1 (.var 11) (.pl 1 1 (.var 12) .nl)))
 (.chk (.bld [(.slice none 0 0)] (.pl 0 1 (.var 20) .nl))
 (.eff false (some 1) (.alloc 24 [(.slice none 0 0)])
 (.eff false none (.st 1 (.var 1) (.bld [(.slice none 0 0)] (.pl 0 1 (.var 20) .nl)))
 (.eff false (some 13) (.lit 3 1 0 [(.int .i64 0)] .nl)
 (.eff false (some 14) (.lit 3 1 0 [(.int .i64 0)] .nl)
 (.eff false (some 21) (.lit 35 1 2 [(.slice none 0 0)] (.pl 0 1 (.var 13) (.pl 1 1 (.var 14) .nl)))
 (.chk (.bld [(.slice none 0 0)] (.pl 0 1 (.var 21) .nl))
 (.eff false (some 6) (.alloc 24 [(.slice none 0 0)])
 (.eff false none (.st 1 (.var 6) (.bld [(.slice none 0 0)] (.pl 0 1 (.var 21) .nl)))
 (.chk (.u (.lda 1) (.var 1))
 (.eff false (some 15) (.lit 3 1 2 [(.int .i64 0)] (.pl 0 1 (.lit (.int .i64 1)) (.pl 1 1 (.lit (.int .i64 4)) .nl)))
 (.call false (some 22) 20 (.cn (.u (.lda 1) (.var 1)) (.cn (.var 15) .nl))
 (.chk (.u (.ext 0) (.var 22))
 (.chk (.u (.ext 1) (.var 22))
 (.set 2 (.u (.ext 0) (.var 22))
 (.set 3 (.u (.ext 1) (.var 22))
 (.chk (.u (.lda 1) (.var 1))
 (.eff false (some 16) (.lit 3 1 2 [(.int .i64 0)] (.pl 0 1 (.lit (.int .i64 10)) (.pl 1 1 (.lit (.int .i64 0)) .nl)))
 (.call false (some 23) 20 (.cn (.u (.lda 1) (.var 1)) (.cn (.var 16) .nl))
 (.chk (.u (.ext 0) (.var 23))
 (.chk (.u (.ext 1) (.var 23))
 (.set 4 (.u (.ext 0) (.var 23))
 (.set 5 (.u (.ext 1) (.var 23))
 (.chk (.u (.lda 1) (.var 6))
 (.eff false (some 17) (.lit 3 1 2 [(.int .i64 0)] (.pl 0 1 (.lit (.int .i64 1)) (.pl 1 1 (.lit (.int .i64 4)) .nl)))
 (.call false (some 24) 20 (.cn (.u (.lda 1) (.var 6)) (.cn (.var 17) .nl))
 (.chk (.u (.ext 0) (.var 24))
 (.chk (.u (.ext 1) (.var 24))
 (.set 7 (.u (.ext 0) (.var 24))
 (.set 8 (.u (.ext 1) (.var 24))
 (.call false (some 18) 14 (.cn (.u (.lda 1) (.var 1)) (.cn (.lit (.int .i64 0)) (.cn (.lit (.int .i64 1)) .nl)))
 (.chk (.u (.ext 0) (.var 18))
 (.chk (.u (.ext 1) (.var 18))
 (.set 9 (.u (.ext 0) (.var 18))
 (.set 10 (.u (.ext 1) (.var 18))
 (.call false (some 19) 11 (.cn (.u (.lda 1) (.var 1)) (.cn (.lit (.int .i64 2)) .nl))
 (.chk (.ite (.b (.bin .eql) (.var 19) (.lit (.int .i64 0))) (.u (.lda 1) (.var 1)) (.lit undef))
 (.seq
  (.ite (.b (.bin .eql) (.var 19) (.lit (.int .i64 0)))
   (.call false (some 25) 11 (.cn (.u (.lda 1) (.var 1)) (.cn (.lit (.int .i64 3)) .nl))
   (.chk (.ite (.b (.bin .eql) (.var 25) (.lit (.int .i64 18))) (.u (.lda 1) (.var 6)) (.lit undef))
   (.ite (.b (.bin .eql) (.var 25) (.lit (.int .i64 18)))
    (.call false (some 26) 11 (.cn (.u (.lda 1) (.var 6)) (.cn (.lit (.int .i64 2)) .nl))
    (.chk (.ite (.b (.bin .eql) (.var 26) (.lit (.int .i64 0))) (.var 2) (.lit undef))
    (.ite (.b (.bin .eql) (.var 26) (.lit (.int .i64 0)))
     (.eff false (some 27) (.lit 3 1 2 [(.int .i64 0)] (.pl 0 1 (.lit (.int .i64 1)) (.pl 1 1 (.lit (.int .i64 4)) .nl)))
     (.eff false (some 28) (.lit 3 1 2 [(.int .i64 0)] (.pl 0 1 (.lit (.int .i64 0)) (.pl 1 1 (.lit (.int .i64 0)) .nl)))
     (.eff false (some 29) (.lit 36 1 2 [(.slice none 0 0)] (.pl 0 1 (.var 27) (.pl 1 1 (.var 28) .nl)))
     (.call false (some 30) 22 (.cn (.var 2) (.cn (.var 29) .nl))
     (.chk (.ite (.ite (.var 30) (.b (.bin .eql) (.var 3) (.lit (.int .i64 0))) (.lit (.bool false))) (.var 4) (.lit undef))
     (.ite (.ite (.var 30) (.b (.bin .eql) (.var 3) (.lit (.int .i64 0))) (.lit (.bool false)))
      (.eff false (some 31) (.lit 3 1 2 [(.int .i64 0)] (.pl 0 1 (.lit (.int .i64 3)) (.pl 1 1 (.lit (.int .i64 0)) .nl)))
      (.eff false (some 32) (.lit 3 1 2 [(.int .i64 0)] (.pl 0 1 (.lit (.int .i64 7)) (.pl 1 1 (.lit (.int .i64 0)) .nl)))
      (.eff false (some 33) (.lit 36 1 2 [(.slice none 0 0)] (.pl 0 1 (.var 31) (.pl 1 1 (.var 32) .nl)))
      (.call false (some 34) 22 (.cn (.var 4) (.cn (.var 33) .nl))
      (.chk (.ite (.ite (.ite (.ite (.ite (.var 34) (.b (.bin .eql) (.var 5) (.lit (.int .i64 0))) (.lit (.bool false))) (.b (.bin .eql) (.var 8) (.lit (.int .i64 13))) (.lit (.bool false))) (.b (.bin .eql) (.var 9) (.lit (.int .i64 700))) (.lit (.bool false))) (.b (.bin .eql) (.var 10) (.lit (.int .i64 0))) (.lit (.bool false))) (.u (.lda 1) (.var 1)) (.lit undef))
      (.ite (.ite (.ite (.ite (.ite (.var 34) (.b (.bin .eql) (.var 5) (.lit (.int .i64 0))) (.lit (.bool false))) (.b (.bin .eql) (.var 8) (.lit (.int .i64 13))) (.lit (.bool false))) (.b (.bin .eql) (.var 9) (.lit (.int .i64 700))) (.lit (.bool false))) (.b (.bin .eql) (.var 10) (.lit (.int .i64 0))) (.lit (.bool false)))
       (.call false (some 35) 16 (.cn (.u (.lda 1) (.var 1)) .nl)
       (.chk (.ite (.b (.bin .eql) (.var 35) (.lit (.int .i64 2))) (.u (.lda 1) (.var 1)) (.lit undef))
       (.ite (.b (.bin .eql) (.var 35) (.lit (.int .i64 2)))
        (.call false (some 36) 18 (.cn (.u (.lda 1) (.var 1)) (.cn (.lit (.int .i64 0)) .nl))
        (.chk (.ite (.b (.bin .eql) (.var 36) (.lit (.int .i64 0))) (.u (.lda 1) (.var 6)) (.lit undef))
        (.ite (.b (.bin .eql) (.var 36) (.lit (.int .i64 0)))
         (.call false (some 37) 18 (.cn (.u (.lda 1) (.var 6)) (.cn (.lit (.int .i64 0)) .nl))
         (.set 0 (.b (.bin .eql) (.var 37) (.lit (.int .i64 (-1))))
         .nxt))
         (.set 37 (.lit undef)
         (.set 0 (.lit (.bool false))
         .nxt)))))
        (.set 36 (.lit undef)
        (.set 37 (.lit undef)
        (.set 0 (.lit (.bool false))
        .nxt))))))
       (.set 35 (.lit undef)
       (.set 36 (.lit undef)
       (.set 37 (.lit undef)
       (.set 0 (.lit (.bool false))
       .nxt))))))))))
      (.set 31 (.lit undef)
      (.set 32 (.lit undef)
      (.set 33 (.lit undef)
      (.set 34 (.lit undef)
      (.set 35 (.lit undef)
      (.set 36 (.lit undef)
      (.set 37 (.lit undef)
      (.set 0 (.lit (.bool false))
      .nxt))))))))))))))
     (.set 27 (.lit undef)
     (.set 28 (.lit undef)
     (.set 29 (.lit undef)
     (.set 30 (.lit undef)
     (.set 31 (.lit undef)
     (.set 32 (.lit undef)
     (.set 33 (.lit undef)
     (.set 34 (.lit undef)
     (.set 35 (.lit undef)
     (.set 36 (.lit undef)
     (.set 37 (.lit undef)
     (.set 0 (.lit (.bool false))
     .nxt)))))))))))))))
    (.set 26 (.lit undef)
    (.set 27 (.lit undef)
    (.set 28 (.lit undef)
    (.set 29 (.lit undef)
    (.set 30 (.lit undef)
    (.set 31 (.lit undef)
    (.set 32 (.lit undef)
    (.set 33 (.lit undef)
    (.set 34 (.lit undef)
    (.set 35 (.lit undef)
    (.set 36 (.lit undef)
    (.set 37 (.lit undef)
    (.set 0 (.lit (.bool false))
    .nxt))))))))))))))))
   (.set 25 (.lit undef)
   (.set 26 (.lit undef)
   (.set 27 (.lit undef)
   (.set 28 (.lit undef)
   (.set 29 (.lit undef)
   (.set 30 (.lit undef)
   (.set 31 (.lit undef)
   (.set 32 (.lit undef)
   (.set 33 (.lit undef)
   (.set 34 (.lit undef)
   (.set 35 (.lit undef)
   (.set 36 (.lit undef)
   (.set 37 (.lit undef)
   (.set 0 (.lit (.bool false))
   .nxt)))))))))))))))
 .ret))))))))))))))))))))))))))))))))))))))))))
def f_law33_awake : Fun := ⟨s_law33_awake, [(.var 0)]⟩
abbrev v_law33_awake : List Nat := [0, 1, 3, 4, 5, 6, 2, 7, 8, 9, 10, 11, 12, 15, 16, 21, 27, 33, 39, 43, 13, 17, 22, 28, 34, 47, 52, 57, 58, 59, 60, 68, 69, 70, 71, 91, 96, 101]
theorem c_law33_awake : compF P Go.Proofs.Try.f13 v_law33_awake = some f_law33_awake := by kernel_rfl
theorem of_law33_awake {args : List Value} (hn : args.length ≤ 104) {h : Heap} {R : Value → Heap → Prop} (hs : s_law33_awake.wp P (f_law33_awake.post R) (env0 v_law33_awake args) h) : Runs P n_law33_awake args h R := fn_of P_mixed Go.Proofs.Try.func13 c_law33_awake (by rw [Go.Proofs.Try.ntmps13]; exact hn) hs
theorem vr_law33_awake {kp : Bool} {args : List A} {H : List Blk} {R : A → List Blk → Prop} (hlen : args.length ≤ 104) (hk : kp = false ∨ H = []) (hw : (∀ B ∈ H, A.bdL H.length B.cells = true) → A.bdL H.length args = true → s_law33_awake.aw P H.length (postA H.length f_law33_awake R) (envA v_law33_awake args) H) : VR P kp n_law33_awake args H R := VR.of (F := f_law33_awake) (V := v_law33_awake) of_law33_awake hlen hk fun h1 h2 => aw_sound (hw h1 h2)
theorem r_law33_awake : Fun.res f_law33_awake = [(.var 0)] := rfl

/-- recycling/machine.Expected -/
abbrev n_machine_Expected : Nat := 14
def s_machine_Expected : S :=
 (.eff false (some 5) (.box 24 (.var 0))
 (.set 3 (.lit (.int .i64 0))
 (.set 4 (.lit (.int .i64 0))
 (.seq
  (.ite (.ite (.ite (.ite (.b (.bin .lss) (.var 1) (.lit (.int .i64 0))) (.lit (.bool true)) (.b (.bin .geq) (.var 1) (.u .len (.u .ld1 (.u (.fld 0) (.var 5)))))) (.lit (.bool true)) (.b (.bin .lss) (.var 2) (.lit (.int .i64 0)))) (.lit (.bool true)) (.b (.bin .geq) (.var 2) (.u .len (.u .ld1 (.b (.idx 1) (.u .ld1 (.u (.fld 0) (.var 5))) (.var 1))))))
   (.set 3 (.lit (.int .i64 0))
   (.set 4 (.lit (.int .i64 7))
   .ret))
   .nxt)
 (.set 3 (.u .ld1 (.b (.idx 1) (.u .ld1 (.b (.idx 1) (.u .ld1 (.u (.fld 0) (.var 5))) (.var 1))) (.var 2)))
 (.set 4 (.lit (.int .i64 0))
 .ret))))))
def f_machine_Expected : Fun := ⟨s_machine_Expected, [(.var 3), (.var 4)]⟩
abbrev v_machine_Expected : List Nat := [0, 1, 2, 6, 7, 3]
theorem c_machine_Expected : compF P Go.Proofs.Try.f14 v_machine_Expected = some f_machine_Expected := by kernel_rfl
theorem of_machine_Expected {args : List Value} (hn : args.length ≤ 39) {h : Heap} {R : Value → Heap → Prop} (hs : s_machine_Expected.wp P (f_machine_Expected.post R) (env0 v_machine_Expected args) h) : Runs P n_machine_Expected args h R := fn_of P_mixed Go.Proofs.Try.func14 c_machine_Expected (by rw [Go.Proofs.Try.ntmps14]; exact hn) hs
theorem vr_machine_Expected {kp : Bool} {args : List A} {H : List Blk} {R : A → List Blk → Prop} (hlen : args.length ≤ 39) (hk : kp = false ∨ H = []) (hw : (∀ B ∈ H, A.bdL H.length B.cells = true) → A.bdL H.length args = true → s_machine_Expected.aw P H.length (postA H.length f_machine_Expected R) (envA v_machine_Expected args) H) : VR P kp n_machine_Expected args H R := VR.of (F := f_machine_Expected) (V := v_machine_Expected) of_machine_Expected hlen hk fun h1 h2 => aw_sound (hw h1 h2)
theorem r_machine_Expected : Fun.res f_machine_Expected = [(.var 3), (.var 4)] := rfl

/-- recycling/recyclingref33.Expected -/
abbrev n_ref33_Expected : Nat := 15
def s_ref33_Expected : S :=
 (.eff false (some 5) (.box 24 (.var 0))
 (.set 3 (.lit (.int .i64 0))
 (.set 4 (.lit (.int .i64 0))
 (.seq
  (.ite (.ite (.ite (.ite (.b (.bin .lss) (.var 1) (.lit (.int .i64 0))) (.lit (.bool true)) (.b (.bin .geq) (.var 1) (.u .len (.u .ld1 (.u (.fld 0) (.var 5)))))) (.lit (.bool true)) (.b (.bin .lss) (.var 2) (.lit (.int .i64 0)))) (.lit (.bool true)) (.b (.bin .geq) (.var 2) (.u .len (.u .ld1 (.b (.idx 1) (.u .ld1 (.u (.fld 0) (.var 5))) (.var 1))))))
   (.set 3 (.lit (.int .i64 0))
   (.set 4 (.lit (.int .i64 7))
   .ret))
   .nxt)
 (.set 3 (.u .ld1 (.b (.idx 1) (.u .ld1 (.b (.idx 1) (.u .ld1 (.u (.fld 0) (.var 5))) (.var 1))) (.var 2)))
 (.set 4 (.lit (.int .i64 0))
 .ret))))))
def f_ref33_Expected : Fun := ⟨s_ref33_Expected, [(.var 3), (.var 4)]⟩
abbrev v_ref33_Expected : List Nat := [0, 1, 2, 6, 7, 3]
theorem c_ref33_Expected : compF P Go.Proofs.Try.f15 v_ref33_Expected = some f_ref33_Expected := by kernel_rfl
theorem of_ref33_Expected {args : List Value} (hn : args.length ≤ 39) {h : Heap} {R : Value → Heap → Prop} (hs : s_ref33_Expected.wp P (f_ref33_Expected.post R) (env0 v_ref33_Expected args) h) : Runs P n_ref33_Expected args h R := fn_of P_mixed Go.Proofs.Try.func15 c_ref33_Expected (by rw [Go.Proofs.Try.ntmps15]; exact hn) hs
theorem vr_ref33_Expected {kp : Bool} {args : List A} {H : List Blk} {R : A → List Blk → Prop} (hlen : args.length ≤ 39) (hk : kp = false ∨ H = []) (hw : (∀ B ∈ H, A.bdL H.length B.cells = true) → A.bdL H.length args = true → s_ref33_Expected.aw P H.length (postA H.length f_ref33_Expected R) (envA v_ref33_Expected args) H) : VR P kp n_ref33_Expected args H R := VR.of (F := f_ref33_Expected) (V := v_ref33_Expected) of_ref33_Expected hlen hk fun h1 h2 => aw_sound (hw h1 h2)
theorem r_ref33_Expected : Fun.res f_ref33_Expected = [(.var 3), (.var 4)] := rfl

/-- recycling/machine.Outs -/
abbrev n_machine_Outs : Nat := 16
def s_machine_Outs : S :=
 (.eff false (some 2) (.box 24 (.var 0))
 (.set 1 (.lit (.int .i64 0))
 (.seq
  (.ite (.b (.bin .eql) (.u .len (.u .ld1 (.u (.fld 0) (.var 2)))) (.lit (.int .i64 0)))
   (.set 1 (.lit (.int .i64 0))
   .ret)
   .nxt)
 (.set 1 (.u .len (.u .ld1 (.b (.idx 1) (.u .ld1 (.u (.fld 0) (.var 2))) (.lit (.int .i64 0)))))
 .ret))))
def f_machine_Outs : Fun := ⟨s_machine_Outs, [(.var 1)]⟩
abbrev v_machine_Outs : List Nat := [0, 2, 1]
theorem c_machine_Outs : compF P Go.Proofs.Try.f16 v_machine_Outs = some f_machine_Outs := by kernel_rfl
theorem of_machine_Outs {args : List Value} (hn : args.length ≤ 12) {h : Heap} {R : Value → Heap → Prop} (hs : s_machine_Outs.wp P (f_machine_Outs.post R) (env0 v_machine_Outs args) h) : Runs P n_machine_Outs args h R := fn_of P_mixed Go.Proofs.Try.func16 c_machine_Outs (by rw [Go.Proofs.Try.ntmps16]; exact hn) hs
theorem vr_machine_Outs {kp : Bool} {args : List A} {H : List Blk} {R : A → List Blk → Prop} (hlen : args.length ≤ 12) (hk : kp = false ∨ H = []) (hw : (∀ B ∈ H, A.bdL H.length B.cells = true) → A.bdL H.length args = true → s_machine_Outs.aw P H.length (postA H.length f_machine_Outs R) (envA v_machine_Outs args) H) : VR P kp n_machine_Outs args H R := VR.of (F := f_machine_Outs) (V := v_machine_Outs) of_machine_Outs hlen hk fun h1 h2 => aw_sound (hw h1 h2)
theorem r_machine_Outs : Fun.res f_machine_Outs = [(.var 1)] := rfl

/-- recycling/recyclingref33.Outs -/
abbrev n_ref33_Outs : Nat := 17
def s_ref33_Outs : S :=
 (.eff false (some 2) (.box 24 (.var 0))
 (.set 1 (.lit (.int .i64 0))
 (.seq
  (.ite (.b (.bin .eql) (.u .len (.u .ld1 (.u (.fld 0) (.var 2)))) (.lit (.int .i64 0)))
   (.set 1 (.lit (.int .i64 0))
   .ret)
   .nxt)
 (.set 1 (.u .len (.u .ld1 (.b (.idx 1) (.u .ld1 (.u (.fld 0) (.var 2))) (.lit (.int .i64 0)))))
 .ret))))
def f_ref33_Outs : Fun := ⟨s_ref33_Outs, [(.var 1)]⟩
abbrev v_ref33_Outs : List Nat := [0, 2, 1]
theorem c_ref33_Outs : compF P Go.Proofs.Try.f17 v_ref33_Outs = some f_ref33_Outs := by kernel_rfl
theorem of_ref33_Outs {args : List Value} (hn : args.length ≤ 12) {h : Heap} {R : Value → Heap → Prop} (hs : s_ref33_Outs.wp P (f_ref33_Outs.post R) (env0 v_ref33_Outs args) h) : Runs P n_ref33_Outs args h R := fn_of P_mixed Go.Proofs.Try.func17 c_ref33_Outs (by rw [Go.Proofs.Try.ntmps17]; exact hn) hs
theorem vr_ref33_Outs {kp : Bool} {args : List A} {H : List Blk} {R : A → List Blk → Prop} (hlen : args.length ≤ 12) (hk : kp = false ∨ H = []) (hw : (∀ B ∈ H, A.bdL H.length B.cells = true) → A.bdL H.length args = true → s_ref33_Outs.aw P H.length (postA H.length f_ref33_Outs R) (envA v_ref33_Outs args) H) : VR P kp n_ref33_Outs args H R := VR.of (F := f_ref33_Outs) (V := v_ref33_Outs) of_ref33_Outs hlen hk fun h1 h2 => aw_sound (hw h1 h2)
theorem r_ref33_Outs : Fun.res f_ref33_Outs = [(.var 1)] := rfl

/-- recycling/machine.Main -/
abbrev n_machine_Main : Nat := 18
def s_machine_Main : S :=
 (.eff false (some 3) (.box 24 (.var 0))
 (.set 2 (.lit (.int .i64 0))
 (.seq
  (.ite (.ite (.b (.bin .lss) (.var 1) (.lit (.int .i64 0))) (.lit (.bool true)) (.b (.bin .geq) (.var 1) (.u .len (.u .ld1 (.u (.fld 0) (.var 3))))))
   (.set 2 (.lit (.int .i64 (-1)))
   .ret)
   .nxt)
 (.set 7 (.u .ld1 (.b (.idx 1) (.u .ld1 (.u (.fld 0) (.var 3))) (.var 1)))
 (.set 5 (.u .len (.var 7))
 (.set 4 (.lit (.int .i64 0))
 (.seq
  (.blk 0
   (.loop
    (.set 6 (.b (.bin .lss) (.var 4) (.var 5))
    (.seq
     (.ite (.var 6)
      .nxt
      (.exit 0))
    (.seq
     (.blk 1
      (.chk (.u .ld1 (.b (.idx 1) (.var 7) (.var 4)))
      (.set 8 (.var 4)
      (.set 9 (.u .ld1 (.b (.idx 1) (.var 7) (.var 4)))
      (.ite (.b (.bin .gtr) (.var 9) (.lit (.int .i64 0)))
       (.set 2 (.var 8)
       .ret)
       .nxt)))))
    (.set 4 (.b (.bin .add) (.var 4) (.lit (.int .i64 1)))
    .nxt))))))
 (.set 2 (.lit (.int .i64 (-1)))
 .ret))))))))
def f_machine_Main : Fun := ⟨s_machine_Main, [(.var 2)]⟩
abbrev v_machine_Main : List Nat := [0, 1, 4, 2, 22, 21, 23, 20, 5, 6]
theorem c_machine_Main : compF P Go.Proofs.Try.f18 v_machine_Main = some f_machine_Main := by kernel_rfl
theorem of_machine_Main {args : List Value} (hn : args.length ≤ 31) {h : Heap} {R : Value → Heap → Prop} (hs : s_machine_Main.wp P (f_machine_Main.post R) (env0 v_machine_Main args) h) : Runs P n_machine_Main args h R := fn_of P_mixed Go.Proofs.Try.func18 c_machine_Main (by rw [Go.Proofs.Try.ntmps18]; exact hn) hs
theorem vr_machine_Main {kp : Bool} {args : List A} {H : List Blk} {R : A → List Blk → Prop} (hlen : args.length ≤ 31) (hk : kp = false ∨ H = []) (hw : (∀ B ∈ H, A.bdL H.length B.cells = true) → A.bdL H.length args = true → s_machine_Main.aw P H.length (postA H.length f_machine_Main R) (envA v_machine_Main args) H) : VR P kp n_machine_Main args H R := VR.of (F := f_machine_Main) (V := v_machine_Main) of_machine_Main hlen hk fun h1 h2 => aw_sound (hw h1 h2)
theorem r_machine_Main : Fun.res f_machine_Main = [(.var 2)] := rfl
abbrev g_machine_Main_0 : List Nat := [2, 4, 6, 8, 9]

/-- recycling/recyclingref33.Main -/
abbrev n_ref33_Main : Nat := 19
def s_ref33_Main : S :=
 (.eff false (some 3) (.box 24 (.var 0))
 (.set 2 (.lit (.int .i64 0))
 (.seq
  (.ite (.ite (.b (.bin .lss) (.var 1) (.lit (.int .i64 0))) (.lit (.bool true)) (.b (.bin .geq) (.var 1) (.u .len (.u .ld1 (.u (.fld 0) (.var 3))))))
   (.set 2 (.lit (.int .i64 (-1)))
   .ret)
   .nxt)
 (.set 4 (.lit (.int .i64 0))
 (.seq
  (.blk 0
   (.loop
    (.seq
     (.ite (.b (.bin .lss) (.var 4) (.u .len (.u .ld1 (.b (.idx 1) (.u .ld1 (.u (.fld 0) (.var 3))) (.var 1)))))
      .nxt
      (.exit 0))
    (.seq
     (.blk 1
      (.ite (.b (.bin .gtr) (.u .ld1 (.b (.idx 1) (.u .ld1 (.b (.idx 1) (.u .ld1 (.u (.fld 0) (.var 3))) (.var 1))) (.var 4))) (.lit (.int .i64 0)))
       (.set 2 (.var 4)
       .ret)
       .nxt))
    (.set 4 (.b (.bin .add) (.var 4) (.lit (.int .i64 1)))
    .nxt)))))
 (.set 2 (.lit (.int .i64 (-1)))
 .ret))))))
def f_ref33_Main : Fun := ⟨s_ref33_Main, [(.var 2)]⟩
abbrev v_ref33_Main : List Nat := [0, 1, 4, 2, 5]
theorem c_ref33_Main : compF P Go.Proofs.Try.f19 v_ref33_Main = some f_ref33_Main := by kernel_rfl
theorem of_ref33_Main {args : List Value} (hn : args.length ≤ 35) {h : Heap} {R : Value → Heap → Prop} (hs : s_ref33_Main.wp P (f_ref33_Main.post R) (env0 v_ref33_Main args) h) : Runs P n_ref33_Main args h R := fn_of P_mixed Go.Proofs.Try.func19 c_ref33_Main (by rw [Go.Proofs.Try.ntmps19]; exact hn) hs
theorem vr_ref33_Main {kp : Bool} {args : List A} {H : List Blk} {R : A → List Blk → Prop} (hlen : args.length ≤ 35) (hk : kp = false ∨ H = []) (hw : (∀ B ∈ H, A.bdL H.length B.cells = true) → A.bdL H.length args = true → s_ref33_Main.aw P H.length (postA H.length f_ref33_Main R) (envA v_ref33_Main args) H) : VR P kp n_ref33_Main args H R := VR.of (F := f_ref33_Main) (V := v_ref33_Main) of_ref33_Main hlen hk fun h1 h2 => aw_sound (hw h1 h2)
theorem r_ref33_Main : Fun.res f_ref33_Main = [(.var 2)] := rfl
abbrev g_ref33_Main_0 : List Nat := [2, 4]

/-- recycling/machine.Split -/
abbrev n_machine_Split : Nat := 20
def s_machine_Split : S :=
 (.eff false (some 4) (.box 24 (.var 0))
 (.set 2 (.lit (.slice none 0 0))
 (.set 3 (.lit (.int .i64 0))
 (.call false (some 29) 11 (.cn (.u (.lda 1) (.var 4)) (.cn (.u .len (.var 1)) .nl))
 (.set 5 (.var 29)
 (.seq
  (.ite (.b (.bin .neq) (.var 5) (.lit (.int .i64 0)))
   (.set 2 (.lit (.slice none 0 0))
   (.set 3 (.var 5)
   .ret))
   .nxt)
 (.set 9 (.var 1)
 (.set 7 (.u .len (.var 9))
 (.set 6 (.lit (.int .i64 0))
 (.seq
  (.blk 0
   (.loop
    (.set 8 (.b (.bin .lss) (.var 6) (.var 7))
    (.seq
     (.ite (.var 8)
      .nxt
      (.exit 0))
    (.seq
     (.blk 1
      (.set 10 (.u .ld1 (.b (.idx 1) (.var 9) (.var 6)))
      (.ite (.ite (.b (.bin .lss) (.var 10) (.lit (.int .i64 0))) (.lit (.bool true)) (.b (.bin .gtr) (.var 10) (.lit (.int .i64 1073741824))))
       (.set 2 (.lit (.slice none 0 0))
       (.set 3 (.lit (.int .i64 18))
       .ret))
       .nxt)))
    (.set 6 (.b (.bin .add) (.var 6) (.lit (.int .i64 1)))
    .nxt))))))
 (.call false (some 30) 16 (.cn (.u (.lda 1) (.var 4)) .nl)
 (.set 11 (.var 30)
 (.seq
  (.ite (.b (.bin .eql) (.var 11) (.lit (.int .i64 0)))
   (.set 2 (.lit (.slice none 0 0))
   (.set 3 (.lit (.int .i64 13))
   .ret))
   .nxt)
 (.eff false (some 31) (.mk 36 1 24 [(.slice none 0 0)] (.var 11) (.var 11))
 (.set 12 (.var 31)
 (.set 14 (.u .len (.var 12))
 (.set 13 (.lit (.int .i64 0))
 (.seq
  (.blk 2
   (.loop
    (.set 15 (.b (.bin .lss) (.var 13) (.var 14))
    (.seq
     (.ite (.var 15)
      .nxt
      (.exit 2))
    (.seq
     (.blk 3
      (.set 16 (.var 13)
      (.eff false (some 32) (.mk 3 1 8 [(.int .i64 0)] (.u .len (.var 1)) (.u .len (.var 1)))
      (.eff false none (.st 1 (.b (.idx 1) (.var 12) (.var 16)) (.var 32))
      .nxt))))
    (.set 13 (.b (.bin .add) (.var 13) (.lit (.int .i64 1)))
    .nxt))))))
 (.set 20 (.var 1)
 (.set 18 (.u .len (.var 20))
 (.set 17 (.lit (.int .i64 0))
 (.seq
  (.blk 4
   (.loop
    (.set 19 (.b (.bin .lss) (.var 17) (.var 18))
    (.seq
     (.ite (.var 19)
      .nxt
      (.exit 4))
    (.seq
     (.blk 5
      (.chk (.u .ld1 (.b (.idx 1) (.var 20) (.var 17)))
      (.set 21 (.var 17)
      (.set 22 (.u .ld1 (.b (.idx 1) (.var 20) (.var 17)))
      (.call false (some 26) 25 (.cn (.u (.lda 1) (.var 4)) (.cn (.var 21) (.cn (.var 22) .nl)))
      (.set 24 (.u .len (.var 26))
      (.set 23 (.lit (.int .i64 0))
      (.blk 6
       (.loop
        (.set 25 (.b (.bin .lss) (.var 23) (.var 24))
        (.seq
         (.ite (.var 25)
          .nxt
          (.exit 6))
        (.seq
         (.blk 7
          (.chk (.u .ld1 (.b (.idx 1) (.var 26) (.var 23)))
          (.set 27 (.var 23)
          (.set 28 (.u .ld1 (.b (.idx 1) (.var 26) (.var 23)))
          (.eff false none (.st 1 (.b (.idx 1) (.u .ld1 (.b (.idx 1) (.var 12) (.var 27))) (.var 21)) (.var 28))
          .nxt)))))
        (.set 23 (.b (.bin .add) (.var 23) (.lit (.int .i64 1)))
        .nxt)))))))))))))
    (.set 17 (.b (.bin .add) (.var 17) (.lit (.int .i64 1)))
    .nxt))))))
 (.set 2 (.var 12)
 (.set 3 (.lit (.int .i64 0))
 .ret))))))))))))))))))))))))
def f_machine_Split : Fun := ⟨s_machine_Split, [(.var 2), (.var 3)]⟩
abbrev v_machine_Split : List Nat := [0, 1, 4, 5, 2, 6, 25, 24, 26, 23, 8, 9, 10, 44, 43, 45, 11, 56, 55, 57, 54, 12, 13, 66, 65, 67, 64, 14, 15, 19, 37, 41, 51]
theorem c_machine_Split : compF P Go.Proofs.Try.f20 v_machine_Split = some f_machine_Split := by kernel_rfl
theorem of_machine_Split {args : List Value} (hn : args.length ≤ 81) {h : Heap} {R : Value → Heap → Prop} (hs : s_machine_Split.wp P (f_machine_Split.post R) (env0 v_machine_Split args) h) : Runs P n_machine_Split args h R := fn_of P_mixed Go.Proofs.Try.func20 c_machine_Split (by rw [Go.Proofs.Try.ntmps20]; exact hn) hs
theorem vr_machine_Split {kp : Bool} {args : List A} {H : List Blk} {R : A → List Blk → Prop} (hlen : args.length ≤ 81) (hk : kp = false ∨ H = []) (hw : (∀ B ∈ H, A.bdL H.length B.cells = true) → A.bdL H.length args = true → s_machine_Split.aw P H.length (postA H.length f_machine_Split R) (envA v_machine_Split args) H) : VR P kp n_machine_Split args H R := VR.of (F := f_machine_Split) (V := v_machine_Split) of_machine_Split hlen hk fun h1 h2 => aw_sound (hw h1 h2)
theorem r_machine_Split : Fun.res f_machine_Split = [(.var 2), (.var 3)] := rfl
abbrev g_machine_Split_0 : List Nat := [2, 3, 6, 8, 10]
abbrev g_machine_Split_1 : List Nat := [13, 15, 16, 32]
abbrev g_machine_Split_2 : List Nat := [17, 19, 21, 22, 23, 24, 25, 26, 27, 28]
abbrev g_machine_Split_3 : List Nat := [23, 25, 27, 28]

/-- recycling/recyclingref33.Split -/
abbrev n_ref33_Split : Nat := 21
def s_ref33_Split : S :=
 (.eff false (some 4) (.box 24 (.var 0))
 (.set 2 (.lit (.slice none 0 0))
 (.set 3 (.lit (.int .i64 0))
 (.call false (some 12) 12 (.cn (.u (.lda 1) (.var 4)) (.cn (.u .len (.var 1)) .nl))
 (.set 5 (.var 12)
 (.seq
  (.ite (.b (.bin .neq) (.var 5) (.lit (.int .i64 0)))
   (.set 2 (.lit (.slice none 0 0))
   (.set 3 (.var 5)
   .ret))
   .nxt)
 (.set 6 (.lit (.int .i64 0))
 (.seq
  (.blk 0
   (.loop
    (.seq
     (.ite (.b (.bin .lss) (.var 6) (.u .len (.var 1)))
      .nxt
      (.exit 0))
    (.seq
     (.blk 1
      (.ite (.ite (.b (.bin .lss) (.u .ld1 (.b (.idx 1) (.var 1) (.var 6))) (.lit (.int .i64 0))) (.lit (.bool true)) (.b (.bin .gtr) (.u .ld1 (.b (.idx 1) (.var 1) (.var 6))) (.lit (.int .i64 1073741824))))
       (.set 2 (.lit (.slice none 0 0))
       (.set 3 (.lit (.int .i64 18))
       .ret))
       .nxt))
    (.set 6 (.b (.bin .add) (.var 6) (.lit (.int .i64 1)))
    .nxt)))))
 (.call false (some 13) 17 (.cn (.u (.lda 1) (.var 4)) .nl)
 (.seq
  (.ite (.b (.bin .eql) (.var 13) (.lit (.int .i64 0)))
   (.set 2 (.lit (.slice none 0 0))
   (.set 3 (.lit (.int .i64 13))
   .ret))
   .nxt)
 (.set 7 (.lit (.slice none 0 0))
 (.set 8 (.lit (.int .i64 0))
 (.seq
  (.blk 2
   (.loop
    (.call false (some 14) 17 (.cn (.u (.lda 1) (.var 4)) .nl)
    (.seq
     (.ite (.b (.bin .lss) (.var 8) (.var 14))
      .nxt
      (.exit 2))
    (.seq
     (.blk 3
      (.eff false (some 15) (.mk 3 1 8 [(.int .i64 0)] (.u .len (.var 1)) (.u .len (.var 1)))
      (.eff false (some 17) (.lit 36 1 1 [(.slice none 0 0)] (.pl 0 1 (.var 15) .nl))
      (.eff false (some 18) (.app 36 1 24 [(.slice none 0 0)] (.var 7) (.var 17))
      (.set 7 (.var 18)
      .nxt)))))
    (.set 8 (.b (.bin .add) (.var 8) (.lit (.int .i64 1)))
    .nxt))))))
 (.set 9 (.lit (.int .i64 0))
 (.seq
  (.blk 4
   (.loop
    (.seq
     (.ite (.b (.bin .lss) (.var 9) (.u .len (.var 1)))
      .nxt
      (.exit 4))
    (.seq
     (.blk 5
      (.call false (some 16) 26 (.cn (.u (.lda 1) (.var 4)) (.cn (.var 9) (.cn (.u .ld1 (.b (.idx 1) (.var 1) (.var 9))) .nl)))
      (.set 10 (.var 16)
      (.set 11 (.lit (.int .i64 0))
      (.blk 6
       (.loop
        (.seq
         (.ite (.b (.bin .lss) (.var 11) (.u .len (.var 7)))
          .nxt
          (.exit 6))
        (.seq
         (.blk 7
          (.eff false none (.st 1 (.b (.idx 1) (.u .ld1 (.b (.idx 1) (.var 7) (.var 11))) (.var 9)) (.u .ld1 (.b (.idx 1) (.var 10) (.var 11))))
          .nxt))
        (.set 11 (.b (.bin .add) (.var 11) (.lit (.int .i64 1)))
        .nxt)))))))))
    (.set 9 (.b (.bin .add) (.var 9) (.lit (.int .i64 1)))
    .nxt)))))
 (.set 2 (.var 7)
 (.set 3 (.lit (.int .i64 0))
 .ret)))))))))))))))))
def f_ref33_Split : Fun := ⟨s_ref33_Split, [(.var 2), (.var 3)]⟩
abbrev v_ref33_Split : List Nat := [0, 1, 4, 5, 2, 6, 7, 8, 9, 10, 11, 12, 16, 39, 43, 50, 65, 51, 52]
theorem c_ref33_Split : compF P Go.Proofs.Try.f21 v_ref33_Split = some f_ref33_Split := by kernel_rfl
theorem of_ref33_Split {args : List Value} (hn : args.length ≤ 83) {h : Heap} {R : Value → Heap → Prop} (hs : s_ref33_Split.wp P (f_ref33_Split.post R) (env0 v_ref33_Split args) h) : Runs P n_ref33_Split args h R := fn_of P_mixed Go.Proofs.Try.func21 c_ref33_Split (by rw [Go.Proofs.Try.ntmps21]; exact hn) hs
theorem vr_ref33_Split {kp : Bool} {args : List A} {H : List Blk} {R : A → List Blk → Prop} (hlen : args.length ≤ 83) (hk : kp = false ∨ H = []) (hw : (∀ B ∈ H, A.bdL H.length B.cells = true) → A.bdL H.length args = true → s_ref33_Split.aw P H.length (postA H.length f_ref33_Split R) (envA v_ref33_Split args) H) : VR P kp n_ref33_Split args H R := VR.of (F := f_ref33_Split) (V := v_ref33_Split) of_ref33_Split hlen hk fun h1 h2 => aw_sound (hw h1 h2)
theorem r_ref33_Split : Fun.res f_ref33_Split = [(.var 2), (.var 3)] := rfl
abbrev g_ref33_Split_0 : List Nat := [2, 3, 6]
abbrev g_ref33_Split_1 : List Nat := [7, 8, 14, 15, 17, 18]
abbrev g_ref33_Split_2 : List Nat := [9, 10, 11, 16]
abbrev g_ref33_Split_3 : List Nat := [11]

/-- recycling/recyclingref30.SameList -/
abbrev n_ref30_SameList : Nat := 22
def s_ref30_SameList : S :=
 (.set 2 (.lit (.bool false))
 (.seq
  (.ite (.b (.bin .neq) (.u .len (.var 0)) (.u .len (.var 1)))
   (.set 2 (.lit (.bool false))
   .ret)
   .nxt)
 (.set 3 (.lit (.int .i64 0))
 (.seq
  (.blk 0
   (.loop
    (.seq
     (.ite (.b (.bin .lss) (.var 3) (.u .len (.var 0)))
      .nxt
      (.exit 0))
    (.seq
     (.blk 1
      (.call false (some 4) 23 (.cn (.u .ld1 (.b (.idx 1) (.var 0) (.var 3))) (.cn (.u .ld1 (.b (.idx 1) (.var 1) (.var 3))) .nl))
      (.ite (.u (.un .not) (.var 4))
       (.set 2 (.lit (.bool false))
       .ret)
       .nxt)))
    (.set 3 (.b (.bin .add) (.var 3) (.lit (.int .i64 1)))
    .nxt)))))
 (.set 2 (.lit (.bool true))
 .ret)))))
def f_ref30_SameList : Fun := ⟨s_ref30_SameList, [(.var 2)]⟩
abbrev v_ref30_SameList : List Nat := [0, 1, 4, 5, 25]
theorem c_ref30_SameList : compF P Go.Proofs.Try.f22 v_ref30_SameList = some f_ref30_SameList := by kernel_rfl
theorem of_ref30_SameList {args : List Value} (hn : args.length ≤ 27) {h : Heap} {R : Value → Heap → Prop} (hs : s_ref30_SameList.wp P (f_ref30_SameList.post R) (env0 v_ref30_SameList args) h) : Runs P n_ref30_SameList args h R := fn_of P_mixed Go.Proofs.Try.func22 c_ref30_SameList (by rw [Go.Proofs.Try.ntmps22]; exact hn) hs
theorem vr_ref30_SameList {kp : Bool} {args : List A} {H : List Blk} {R : A → List Blk → Prop} (hlen : args.length ≤ 27) (hk : kp = false ∨ H = []) (hw : (∀ B ∈ H, A.bdL H.length B.cells = true) → A.bdL H.length args = true → s_ref30_SameList.aw P H.length (postA H.length f_ref30_SameList R) (envA v_ref30_SameList args) H) : VR P kp n_ref30_SameList args H R := VR.of (F := f_ref30_SameList) (V := v_ref30_SameList) of_ref30_SameList hlen hk fun h1 h2 => aw_sound (hw h1 h2)
theorem r_ref30_SameList : Fun.res f_ref30_SameList = [(.var 2)] := rfl
abbrev g_ref30_SameList_0 : List Nat := [2, 3, 4]

/-- recycling/recyclingref30.Same -/
abbrev n_ref30_Same : Nat := 23
def s_ref30_Same : S :=
 (.set 2 (.lit (.bool false))
 (.seq
  (.ite (.b (.bin .neq) (.u .len (.var 0)) (.u .len (.var 1)))
   (.set 2 (.lit (.bool false))
   .ret)
   .nxt)
 (.set 3 (.lit (.int .i64 0))
 (.seq
  (.blk 0
   (.loop
    (.seq
     (.ite (.b (.bin .lss) (.var 3) (.u .len (.var 0)))
      .nxt
      (.exit 0))
    (.seq
     (.blk 1
      (.ite (.b (.bin .neq) (.u .ld1 (.b (.idx 1) (.var 0) (.var 3))) (.u .ld1 (.b (.idx 1) (.var 1) (.var 3))))
       (.set 2 (.lit (.bool false))
       .ret)
       .nxt))
    (.set 3 (.b (.bin .add) (.var 3) (.lit (.int .i64 1)))
    .nxt)))))
 (.set 2 (.lit (.bool true))
 .ret)))))
def f_ref30_Same : Fun := ⟨s_ref30_Same, [(.var 2)]⟩
abbrev v_ref30_Same : List Nat := [0, 1, 4, 5]
theorem c_ref30_Same : compF P Go.Proofs.Try.f23 v_ref30_Same = some f_ref30_Same := by kernel_rfl
theorem of_ref30_Same {args : List Value} (hn : args.length ≤ 26) {h : Heap} {R : Value → Heap → Prop} (hs : s_ref30_Same.wp P (f_ref30_Same.post R) (env0 v_ref30_Same args) h) : Runs P n_ref30_Same args h R := fn_of P_mixed Go.Proofs.Try.func23 c_ref30_Same (by rw [Go.Proofs.Try.ntmps23]; exact hn) hs
theorem vr_ref30_Same {kp : Bool} {args : List A} {H : List Blk} {R : A → List Blk → Prop} (hlen : args.length ≤ 26) (hk : kp = false ∨ H = []) (hw : (∀ B ∈ H, A.bdL H.length B.cells = true) → A.bdL H.length args = true → s_ref30_Same.aw P H.length (postA H.length f_ref30_Same R) (envA v_ref30_Same args) H) : VR P kp n_ref30_Same args H R := VR.of (F := f_ref30_Same) (V := v_ref30_Same) of_ref30_Same hlen hk fun h1 h2 => aw_sound (hw h1 h2)
theorem r_ref30_Same : Fun.res f_ref30_Same = [(.var 2)] := rfl
abbrev g_ref30_Same_0 : List Nat := [2, 3]

/-- recycling/recyclingref33.row -/
abbrev n_ref33_row : Nat := 24
def s_ref33_row : S :=
 (.set 2 (.lit (.int .i64 0))
 (.seq
  (.ite (.b (.bin .gtr) (.u .len (.var 0)) (.lit (.int .i64 4)))
   (.set 2 (.lit (.int .i64 8))
   .ret)
   .nxt)
 (.seq
  (.ite (.b (.bin .neq) (.u .len (.var 0)) (.var 1))
   (.set 2 (.lit (.int .i64 3))
   .ret)
   .nxt)
 (.set 3 (.lit (.int .i64 0))
 (.set 4 (.lit (.int .i64 0))
 (.seq
  (.blk 0
   (.loop
    (.seq
     (.ite (.b (.bin .lss) (.var 4) (.u .len (.var 0)))
      .nxt
      (.exit 0))
    (.seq
     (.blk 1
      (.seq
       (.ite (.ite (.b (.bin .lss) (.u .ld1 (.b (.idx 1) (.var 0) (.var 4))) (.lit (.int .i64 0))) (.lit (.bool true)) (.b (.bin .gtr) (.u .ld1 (.b (.idx 1) (.var 0) (.var 4))) (.lit (.int .i64 1000))))
        (.set 2 (.lit (.int .i64 1))
        .ret)
        .nxt)
      (.set 3 (.b (.bin .add) (.var 3) (.u .ld1 (.b (.idx 1) (.var 0) (.var 4))))
      .nxt)))
    (.set 4 (.b (.bin .add) (.var 4) (.lit (.int .i64 1)))
    .nxt)))))
 (.seq
  (.ite (.ite (.b (.bin .gtr) (.var 1) (.lit (.int .i64 0))) (.b (.bin .neq) (.var 3) (.lit (.int .i64 1000))) (.lit (.bool false)))
   (.set 2 (.lit (.int .i64 17))
   .ret)
   .nxt)
 (.set 2 (.lit (.int .i64 0))
 .ret))))))))
def f_ref33_row : Fun := ⟨s_ref33_row, [(.var 2)]⟩
abbrev v_ref33_row : List Nat := [0, 1, 4, 5, 6]
theorem c_ref33_row : compF P Go.Proofs.Try.f24 v_ref33_row = some f_ref33_row := by kernel_rfl
theorem of_ref33_row {args : List Value} (hn : args.length ≤ 44) {h : Heap} {R : Value → Heap → Prop} (hs : s_ref33_row.wp P (f_ref33_row.post R) (env0 v_ref33_row args) h) : Runs P n_ref33_row args h R := fn_of P_mixed Go.Proofs.Try.func24 c_ref33_row (by rw [Go.Proofs.Try.ntmps24]; exact hn) hs
theorem vr_ref33_row {kp : Bool} {args : List A} {H : List Blk} {R : A → List Blk → Prop} (hlen : args.length ≤ 44) (hk : kp = false ∨ H = []) (hw : (∀ B ∈ H, A.bdL H.length B.cells = true) → A.bdL H.length args = true → s_ref33_row.aw P H.length (postA H.length f_ref33_row R) (envA v_ref33_row args) H) : VR P kp n_ref33_row args H R := VR.of (F := f_ref33_row) (V := v_ref33_row) of_ref33_row hlen hk fun h1 h2 => aw_sound (hw h1 h2)
theorem r_ref33_row : Fun.res f_ref33_row = [(.var 2)] := rfl
abbrev g_ref33_row_0 : List Nat := [2, 3, 4]

/-- recycling/machine.divided -/
abbrev n_machine_divided : Nat := 25
def s_machine_divided : S :=
 (.eff false (some 4) (.box 24 (.var 0))
 (.set 3 (.lit (.slice none 0 0))
 (.call false (some 8) 27 (.cn (.var 2) (.cn (.u .ld1 (.b (.idx 1) (.u .ld1 (.u (.fld 0) (.var 4))) (.var 1))) .nl))
 (.chk (.u (.ext 0) (.var 8))
 (.chk (.u (.ext 1) (.var 8))
 (.set 5 (.u (.ext 0) (.var 8))
 (.set 6 (.u (.ext 1) (.var 8))
 (.call false (some 9) 18 (.cn (.u (.lda 1) (.var 4)) (.cn (.var 1) .nl))
 (.set 7 (.var 9)
 (.seq
  (.ite (.ite (.b (.bin .gtr) (.var 2) (.lit (.int .i64 0))) (.b (.bin .eql) (.u .ld1 (.b (.idx 1) (.var 5) (.var 7))) (.lit (.int .i64 0))) (.lit (.bool false)))
   (.call false (some 10) 28 (.cn (.var 5) .nl)
   (.eff false none (.st 1 (.b (.idx 1) (.var 5) (.var 10)) (.b (.bin .sub) (.u .ld1 (.b (.idx 1) (.var 5) (.var 10))) (.lit (.int .i64 1))))
   (.eff false none (.st 1 (.b (.idx 1) (.var 5) (.var 7)) (.b (.bin .add) (.u .ld1 (.b (.idx 1) (.var 5) (.var 7))) (.lit (.int .i64 1))))
   .nxt)))
   .nxt)
 (.set 3 (.var 5)
 .ret)))))))))))
def f_machine_divided : Fun := ⟨s_machine_divided, [(.var 3)]⟩
abbrev v_machine_divided : List Nat := [0, 1, 2, 6, 3, 7, 8, 9, 17, 22, 34]
theorem c_machine_divided : compF P Go.Proofs.Try.f25 v_machine_divided = some f_machine_divided := by kernel_rfl
theorem of_machine_divided {args : List Value} (hn : args.length ≤ 46) {h : Heap} {R : Value → Heap → Prop} (hs : s_machine_divided.wp P (f_machine_divided.post R) (env0 v_machine_divided args) h) : Runs P n_machine_divided args h R := fn_of P_mixed Go.Proofs.Try.func25 c_machine_divided (by rw [Go.Proofs.Try.ntmps25]; exact hn) hs
theorem vr_machine_divided {kp : Bool} {args : List A} {H : List Blk} {R : A → List Blk → Prop} (hlen : args.length ≤ 46) (hk : kp = false ∨ H = []) (hw : (∀ B ∈ H, A.bdL H.length B.cells = true) → A.bdL H.length args = true → s_machine_divided.aw P H.length (postA H.length f_machine_divided R) (envA v_machine_divided args) H) : VR P kp n_machine_divided args H R := VR.of (F := f_machine_divided) (V := v_machine_divided) of_machine_divided hlen hk fun h1 h2 => aw_sound (hw h1 h2)
theorem r_machine_divided : Fun.res f_machine_divided = [(.var 3)] := rfl

/-- recycling/recyclingref33.parts -/
abbrev n_ref33_parts : Nat := 26
def s_ref33_parts : S :=
 (.eff false (some 4) (.box 24 (.var 0))
 (.set 3 (.lit (.slice none 0 0))
 (.call false (some 10) 29 (.cn (.var 2) (.cn (.u .ld1 (.b (.idx 1) (.u .ld1 (.u (.fld 0) (.var 4))) (.var 1))) .nl))
 (.chk (.u (.ext 0) (.var 10))
 (.chk (.u (.ext 1) (.var 10))
 (.set 5 (.u (.ext 0) (.var 10))
 (.set 6 (.u (.ext 1) (.var 10))
 (.call false (some 11) 19 (.cn (.u (.lda 1) (.var 4)) (.cn (.var 1) .nl))
 (.set 7 (.var 11)
 (.seq
  (.ite (.ite (.b (.bin .eql) (.var 2) (.lit (.int .i64 0))) (.lit (.bool true)) (.b (.bin .gtr) (.u .ld1 (.b (.idx 1) (.var 5) (.var 7))) (.lit (.int .i64 0))))
   (.set 3 (.var 5)
   .ret)
   .nxt)
 (.set 8 (.lit (.int .i64 0))
 (.set 9 (.lit (.int .i64 0))
 (.seq
  (.blk 0
   (.loop
    (.seq
     (.ite (.b (.bin .lss) (.var 9) (.u .len (.var 5)))
      .nxt
      (.exit 0))
    (.seq
     (.blk 1
      (.ite (.b (.bin .gtr) (.u .ld1 (.b (.idx 1) (.var 5) (.var 9))) (.u .ld1 (.b (.idx 1) (.var 5) (.var 8))))
       (.set 8 (.var 9)
       .nxt)
       .nxt))
    (.set 9 (.b (.bin .add) (.var 9) (.lit (.int .i64 1)))
    .nxt)))))
 (.eff false none (.st 1 (.b (.idx 1) (.var 5) (.var 8)) (.b (.bin .sub) (.u .ld1 (.b (.idx 1) (.var 5) (.var 8))) (.lit (.int .i64 1))))
 (.eff false none (.st 1 (.b (.idx 1) (.var 5) (.var 7)) (.lit (.int .i64 1)))
 (.set 3 (.var 5)
 .ret))))))))))))))))
def f_ref33_parts : Fun := ⟨s_ref33_parts, [(.var 3)]⟩
abbrev v_ref33_parts : List Nat := [0, 1, 2, 6, 3, 7, 8, 9, 10, 11, 19, 24]
theorem c_ref33_parts : compF P Go.Proofs.Try.f26 v_ref33_parts = some f_ref33_parts := by kernel_rfl
theorem of_ref33_parts {args : List Value} (hn : args.length ≤ 63) {h : Heap} {R : Value → Heap → Prop} (hs : s_ref33_parts.wp P (f_ref33_parts.post R) (env0 v_ref33_parts args) h) : Runs P n_ref33_parts args h R := fn_of P_mixed Go.Proofs.Try.func26 c_ref33_parts (by rw [Go.Proofs.Try.ntmps26]; exact hn) hs
theorem vr_ref33_parts {kp : Bool} {args : List A} {H : List Blk} {R : A → List Blk → Prop} (hlen : args.length ≤ 63) (hk : kp = false ∨ H = []) (hw : (∀ B ∈ H, A.bdL H.length B.cells = true) → A.bdL H.length args = true → s_ref33_parts.aw P H.length (postA H.length f_ref33_parts R) (envA v_ref33_parts args) H) : VR P kp n_ref33_parts args H R := VR.of (F := f_ref33_parts) (V := v_ref33_parts) of_ref33_parts hlen hk fun h1 h2 => aw_sound (hw h1 h2)
theorem r_ref33_parts : Fun.res f_ref33_parts = [(.var 3)] := rfl
abbrev g_ref33_parts_0 : List Nat := [8, 9]

/-- recycling/share.Split -/
abbrev n_share_Split : Nat := 27
def s_share_Split : S :=
 (.set 2 (.lit (.slice none 0 0))
 (.set 3 (.lit (.int .i64 0))
 (.seq
  (.ite (.ite (.b (.bin .lss) (.var 0) (.lit (.int .i64 0))) (.lit (.bool true)) (.b (.bin .gtr) (.var 0) (.lit (.int .i64 70368744177664))))
   (.set 2 (.lit (.slice none 0 0))
   (.set 3 (.lit (.int .i64 1))
   .ret))
   .nxt)
 (.call false (some 25) 30 (.cn (.var 1) .nl)
 (.chk (.u (.ext 0) (.var 25))
 (.chk (.u (.ext 1) (.var 25))
 (.set 4 (.u (.ext 0) (.var 25))
 (.set 5 (.u (.ext 1) (.var 25))
 (.seq
  (.ite (.b (.bin .neq) (.var 5) (.lit (.int .i64 0)))
   (.set 2 (.lit (.slice none 0 0))
   (.set 3 (.var 5)
   .ret))
   .nxt)
 (.seq
  (.ite (.ite (.b (.bin .eql) (.var 4) (.lit (.int .i64 0))) (.b (.bin .gtr) (.var 0) (.lit (.int .i64 0))) (.lit (.bool false)))
   (.set 2 (.lit (.slice none 0 0))
   (.set 3 (.lit (.int .i64 10))
   .ret))
   .nxt)
 (.eff false (some 26) (.mk 3 1 8 [(.int .i64 0)] (.u .len (.var 1)) (.u .len (.var 1)))
 (.eff false (some 30) (.mk 3 1 8 [(.int .i64 0)] (.u .len (.var 1)) (.u .len (.var 1)))
 (.eff false (some 31) (.mk 3 1 8 [(.int .i64 0)] (.u .len (.var 1)) (.u .len (.var 1)))
 (.eff false (some 19) (.alloc 35 [(.slice none 0 0)])
 (.set 6 (.var 26)
 (.eff false none (.st 1 (.var 19) (.var 30))
 (.set 7 (.var 31)
 (.set 8 (.var 0)
 (.set 12 (.var 1)
 (.set 10 (.u .len (.var 12))
 (.set 9 (.lit (.int .i64 0))
 (.seq
  (.blk 0
   (.loop
    (.set 11 (.b (.bin .lss) (.var 9) (.var 10))
    (.seq
     (.ite (.var 11)
      .nxt
      (.exit 0))
    (.seq
     (.blk 1
      (.chk (.u .ld1 (.b (.idx 1) (.var 12) (.var 9)))
      (.set 13 (.var 9)
      (.set 14 (.u .ld1 (.b (.idx 1) (.var 12) (.var 9)))
      (.eff false none (.st 1 (.b (.idx 1) (.var 7) (.var 13)) (.var 13))
      (.seq
       (.ite (.b (.bin .gtr) (.var 4) (.lit (.int .i64 0)))
        (.call false (some 27) 31 (.cn (.u (.conv .u64) (.var 0)) (.cn (.u (.conv .u64) (.var 14)) .nl))
        (.chk (.u (.ext 0) (.var 27))
        (.chk (.u (.ext 1) (.var 27))
        (.set 15 (.u (.ext 0) (.var 27))
        (.set 16 (.u (.ext 1) (.var 27))
        (.call false (some 28) 32 (.cn (.var 15) (.cn (.var 16) (.cn (.u (.conv .u64) (.var 4)) .nl)))
        (.chk (.u (.ext 0) (.var 28))
        (.chk (.u (.ext 1) (.var 28))
        (.set 17 (.u (.ext 0) (.var 28))
        (.set 18 (.u (.ext 1) (.var 28))
        (.both
         (.set 29 (.u .ld1 (.var 19))
         (.chk (.u (.conv .i64) (.var 17))
         (.chk (.u (.conv .i64) (.var 18))
         (.eff false none (.st 1 (.b (.idx 1) (.var 6) (.var 13)) (.u (.conv .i64) (.var 17)))
         (.eff false none (.st 1 (.b (.idx 1) (.var 29) (.var 13)) (.u (.conv .i64) (.var 18)))
         .nxt)))))
         (.chk (.u (.conv .i64) (.var 17))
         (.chk (.u (.conv .i64) (.var 18))
         (.eff false none (.st 1 (.b (.idx 1) (.var 6) (.var 13)) (.u (.conv .i64) (.var 17)))
         (.set 29 (.u .ld1 (.var 19))
         (.eff false none (.st 1 (.b (.idx 1) (.var 29) (.var 13)) (.u (.conv .i64) (.var 18)))
         .nxt))))))))))))))))
        .nxt)
      (.set 8 (.b (.bin .sub) (.var 8) (.u .ld1 (.b (.idx 1) (.var 6) (.var 13))))
      .nxt)))))))
    (.set 9 (.b (.bin .add) (.var 9) (.lit (.int .i64 1)))
    .nxt))))))
 (.chk (.fn 34 (.cn (.var 19) .nl))
 (.call false none 33 (.cn (.var 7) (.cn (.fn 34 (.cn (.var 19) .nl)) .nl))
 (.set 23 (.slc none 1 (.var 7) (.lit (.int .i64 0)) (.var 8) .nl)
 (.set 21 (.u .len (.var 23))
 (.set 20 (.lit (.int .i64 0))
 (.seq
  (.blk 2
   (.loop
    (.set 22 (.b (.bin .lss) (.var 20) (.var 21))
    (.seq
     (.ite (.var 22)
      .nxt
      (.exit 2))
    (.seq
     (.blk 3
      (.set 24 (.u .ld1 (.b (.idx 1) (.var 23) (.var 20)))
      (.eff false none (.st 1 (.b (.idx 1) (.var 6) (.var 24)) (.b (.bin .add) (.u .ld1 (.b (.idx 1) (.var 6) (.var 24))) (.lit (.int .i64 1))))
      .nxt)))
    (.set 20 (.b (.bin .add) (.var 20) (.lit (.int .i64 1)))
    .nxt))))))
 (.set 2 (.var 6)
 (.set 3 (.lit (.int .i64 0))
 .ret))))))))))))))))))))))))))))))
def f_share_Split : Fun := ⟨s_share_Split, [(.var 2), (.var 3)]⟩
abbrev v_share_Split : List Nat := [0, 1, 4, 5, 6, 7, 8, 10, 11, 52, 51, 53, 50, 12, 13, 14, 15, 16, 17, 9, 103, 102, 104, 101, 19, 28, 42, 68, 76, 81, 45, 48]
theorem c_share_Split : compF P Go.Proofs.Try.f27 v_share_Split = some f_share_Split := by kernel_rfl
theorem of_share_Split {args : List Value} (hn : args.length ≤ 115) {h : Heap} {R : Value → Heap → Prop} (hs : s_share_Split.wp P (f_share_Split.post R) (env0 v_share_Split args) h) : Runs P n_share_Split args h R := fn_of P_mixed Go.Proofs.Try.func27 c_share_Split (by rw [Go.Proofs.Try.ntmps27]; exact hn) hs
theorem vr_share_Split {kp : Bool} {args : List A} {H : List Blk} {R : A → List Blk → Prop} (hlen : args.length ≤ 115) (hk : kp = false ∨ H = []) (hw : (∀ B ∈ H, A.bdL H.length B.cells = true) → A.bdL H.length args = true → s_share_Split.aw P H.length (postA H.length f_share_Split R) (envA v_share_Split args) H) : VR P kp n_share_Split args H R := VR.of (F := f_share_Split) (V := v_share_Split) of_share_Split hlen hk fun h1 h2 => aw_sound (hw h1 h2)
theorem r_share_Split : Fun.res f_share_Split = [(.var 2), (.var 3)] := rfl
abbrev g_share_Split_0 : List Nat := [8, 9, 11, 13, 14, 15, 16, 17, 18, 27, 28, 29]
abbrev g_share_Split_1 : List Nat := [20, 22, 24]

/-- recycling/machine.greatest -/
abbrev n_machine_greatest : Nat := 28
def s_machine_greatest : S :=
 (.set 1 (.lit (.int .i64 0))
 (.set 2 (.lit (.int .i64 0))
 (.set 6 (.var 0)
 (.set 4 (.u .len (.var 6))
 (.set 3 (.lit (.int .i64 0))
 (.seq
  (.blk 0
   (.loop
    (.set 5 (.b (.bin .lss) (.var 3) (.var 4))
    (.seq
     (.ite (.var 5)
      .nxt
      (.exit 0))
    (.seq
     (.blk 1
      (.chk (.u .ld1 (.b (.idx 1) (.var 6) (.var 3)))
      (.set 7 (.var 3)
      (.set 8 (.u .ld1 (.b (.idx 1) (.var 6) (.var 3)))
      (.ite (.b (.bin .gtr) (.var 8) (.u .ld1 (.b (.idx 1) (.var 0) (.var 2))))
       (.set 2 (.var 7)
       .nxt)
       .nxt)))))
    (.set 3 (.b (.bin .add) (.var 3) (.lit (.int .i64 1)))
    .nxt))))))
 (.set 1 (.var 2)
 .ret)))))))
def f_machine_greatest : Fun := ⟨s_machine_greatest, [(.var 1)]⟩
abbrev v_machine_greatest : List Nat := [0, 2, 3, 8, 7, 9, 6, 4, 5]
theorem c_machine_greatest : compF P Go.Proofs.Try.f28 v_machine_greatest = some f_machine_greatest := by kernel_rfl
theorem of_machine_greatest {args : List Value} (hn : args.length ≤ 22) {h : Heap} {R : Value → Heap → Prop} (hs : s_machine_greatest.wp P (f_machine_greatest.post R) (env0 v_machine_greatest args) h) : Runs P n_machine_greatest args h R := fn_of P_mixed Go.Proofs.Try.func28 c_machine_greatest (by rw [Go.Proofs.Try.ntmps28]; exact hn) hs
theorem vr_machine_greatest {kp : Bool} {args : List A} {H : List Blk} {R : A → List Blk → Prop} (hlen : args.length ≤ 22) (hk : kp = false ∨ H = []) (hw : (∀ B ∈ H, A.bdL H.length B.cells = true) → A.bdL H.length args = true → s_machine_greatest.aw P H.length (postA H.length f_machine_greatest R) (envA v_machine_greatest args) H) : VR P kp n_machine_greatest args H R := VR.of (F := f_machine_greatest) (V := v_machine_greatest) of_machine_greatest hlen hk fun h1 h2 => aw_sound (hw h1 h2)
theorem r_machine_greatest : Fun.res f_machine_greatest = [(.var 1)] := rfl
abbrev g_machine_greatest_0 : List Nat := [2, 3, 5, 7, 8]

/-- recycling/recyclingref11.Split -/
abbrev n_ref11_Split : Nat := 29
def s_ref11_Split : S :=
 (.set 2 (.lit (.slice none 0 0))
 (.set 3 (.lit (.int .i64 0))
 (.seq
  (.ite (.ite (.b (.bin .lss) (.var 0) (.lit (.int .i64 0))) (.lit (.bool true)) (.b (.bin .gtr) (.var 0) (.lit (.int .i64 70368744177664))))
   (.set 2 (.lit (.slice none 0 0))
   (.set 3 (.lit (.int .i64 1))
   .ret))
   .nxt)
 (.call false (some 14) 35 (.cn (.var 1) .nl)
 (.chk (.u (.ext 0) (.var 14))
 (.chk (.u (.ext 1) (.var 14))
 (.set 4 (.u (.ext 0) (.var 14))
 (.set 5 (.u (.ext 1) (.var 14))
 (.seq
  (.ite (.b (.bin .neq) (.var 5) (.lit (.int .i64 0)))
   (.set 2 (.lit (.slice none 0 0))
   (.set 3 (.var 5)
   .ret))
   .nxt)
 (.seq
  (.ite (.ite (.b (.bin .eql) (.var 4) (.lit (.int .i64 0))) (.b (.bin .gtr) (.var 0) (.lit (.int .i64 0))) (.lit (.bool false)))
   (.set 2 (.lit (.slice none 0 0))
   (.set 3 (.lit (.int .i64 10))
   .ret))
   .nxt)
 (.eff false (some 15) (.lit 3 1 0 [(.int .i64 0)] .nl)
 (.set 6 (.var 15)
 (.eff false (some 16) (.lit 3 1 0 [(.int .i64 0)] .nl)
 (.set 7 (.var 16)
 (.set 8 (.var 0)
 (.set 9 (.lit (.int .i64 0))
 (.seq
  (.blk 0
   (.loop
    (.seq
     (.ite (.b (.bin .lss) (.var 9) (.u .len (.var 1)))
      .nxt
      (.exit 0))
    (.seq
     (.blk 1
      (.set 10 (.lit (.int .i64 0))
      (.set 11 (.lit (.int .i64 0))
      (.seq
       (.ite (.b (.bin .gtr) (.var 4) (.lit (.int .i64 0)))
        (.call false (some 17) 36 (.cn (.var 0) (.cn (.u .ld1 (.b (.idx 1) (.var 1) (.var 9))) (.cn (.var 4) .nl)))
        (.chk (.u (.ext 0) (.var 17))
        (.chk (.u (.ext 1) (.var 17))
        (.set 10 (.u (.ext 0) (.var 17))
        (.set 11 (.u (.ext 1) (.var 17))
        .nxt)))))
        .nxt)
      (.eff false (some 18) (.lit 3 1 1 [(.int .i64 0)] (.pl 0 1 (.var 10) .nl))
      (.eff false (some 20) (.app 3 1 8 [(.int .i64 0)] (.var 6) (.var 18))
      (.set 6 (.var 20)
      (.eff false (some 19) (.lit 3 1 1 [(.int .i64 0)] (.pl 0 1 (.var 11) .nl))
      (.eff false (some 21) (.app 3 1 8 [(.int .i64 0)] (.var 7) (.var 19))
      (.set 7 (.var 21)
      (.set 8 (.b (.bin .sub) (.var 8) (.var 10))
      .nxt)))))))))))
    (.set 9 (.b (.bin .add) (.var 9) (.lit (.int .i64 1)))
    .nxt)))))
 (.seq
  (.blk 2
   (.loop
    (.seq
     (.ite (.b (.bin .gtr) (.var 8) (.lit (.int .i64 0)))
      .nxt
      (.exit 2))
    (.blk 3
     (.set 12 (.lit (.int .i64 0))
     (.set 13 (.lit (.int .i64 1))
     (.seq
      (.blk 4
       (.loop
        (.seq
         (.ite (.b (.bin .lss) (.var 13) (.u .len (.var 7)))
          .nxt
          (.exit 4))
        (.seq
         (.blk 5
          (.ite (.b (.bin .gtr) (.u .ld1 (.b (.idx 1) (.var 7) (.var 13))) (.u .ld1 (.b (.idx 1) (.var 7) (.var 12))))
           (.set 12 (.var 13)
           .nxt)
           .nxt))
        (.set 13 (.b (.bin .add) (.var 13) (.lit (.int .i64 1)))
        .nxt)))))
     (.eff false none (.st 1 (.b (.idx 1) (.var 6) (.var 12)) (.b (.bin .add) (.u .ld1 (.b (.idx 1) (.var 6) (.var 12))) (.lit (.int .i64 1))))
     (.eff false none (.st 1 (.b (.idx 1) (.var 7) (.var 12)) (.lit (.int .i64 (-1))))
     (.set 8 (.b (.bin .sub) (.var 8) (.lit (.int .i64 1)))
     .nxt))))))))))
 (.set 2 (.var 6)
 (.set 3 (.lit (.int .i64 0))
 .ret))))))))))))))))))))
def f_ref11_Split : Fun := ⟨s_ref11_Split, [(.var 2), (.var 3)]⟩
abbrev v_ref11_Split : List Nat := [0, 1, 4, 5, 6, 7, 8, 9, 10, 11, 12, 13, 14, 15, 24, 36, 37, 54, 59, 63, 60, 64]
theorem c_ref11_Split : compF P Go.Proofs.Try.f29 v_ref11_Split = some f_ref11_Split := by kernel_rfl
theorem of_ref11_Split {args : List Value} (hn : args.length ≤ 100) {h : Heap} {R : Value → Heap → Prop} (hs : s_ref11_Split.wp P (f_ref11_Split.post R) (env0 v_ref11_Split args) h) : Runs P n_ref11_Split args h R := fn_of P_mixed Go.Proofs.Try.func29 c_ref11_Split (by rw [Go.Proofs.Try.ntmps29]; exact hn) hs
theorem vr_ref11_Split {kp : Bool} {args : List A} {H : List Blk} {R : A → List Blk → Prop} (hlen : args.length ≤ 100) (hk : kp = false ∨ H = []) (hw : (∀ B ∈ H, A.bdL H.length B.cells = true) → A.bdL H.length args = true → s_ref11_Split.aw P H.length (postA H.length f_ref11_Split R) (envA v_ref11_Split args) H) : VR P kp n_ref11_Split args H R := VR.of (F := f_ref11_Split) (V := v_ref11_Split) of_ref11_Split hlen hk fun h1 h2 => aw_sound (hw h1 h2)
theorem r_ref11_Split : Fun.res f_ref11_Split = [(.var 2), (.var 3)] := rfl
abbrev g_ref11_Split_0 : List Nat := [6, 7, 8, 9, 10, 11, 17, 18, 19, 20, 21]
abbrev g_ref11_Split_1 : List Nat := [8, 12, 13]
abbrev g_ref11_Split_2 : List Nat := [12, 13]

/-- recycling/share.weighed -/
abbrev n_share_weighed : Nat := 30
def s_share_weighed : S :=
 (.set 1 (.lit (.int .i64 0))
 (.set 2 (.lit (.int .i64 0))
 (.seq
  (.ite (.ite (.b (.bin .lss) (.u .len (.var 0)) (.lit (.int .i64 1))) (.lit (.bool true)) (.b (.bin .gtr) (.u .len (.var 0)) (.lit (.int .i64 512))))
   (.set 1 (.lit (.int .i64 0))
   (.set 2 (.lit (.int .i64 1))
   .ret))
   .nxt)
 (.set 6 (.var 0)
 (.set 4 (.u .len (.var 6))
 (.set 3 (.lit (.int .i64 0))
 (.seq
  (.blk 0
   (.loop
    (.set 5 (.b (.bin .lss) (.var 3) (.var 4))
    (.seq
     (.ite (.var 5)
      .nxt
      (.exit 0))
    (.seq
     (.blk 1
      (.set 7 (.u .ld1 (.b (.idx 1) (.var 6) (.var 3)))
      (.ite (.ite (.b (.bin .lss) (.var 7) (.lit (.int .i64 0))) (.lit (.bool true)) (.b (.bin .gtr) (.var 7) (.lit (.int .i64 1125899906842624))))
       (.set 1 (.lit (.int .i64 0))
       (.set 2 (.lit (.int .i64 1))
       .ret))
       .nxt)))
    (.set 3 (.b (.bin .add) (.var 3) (.lit (.int .i64 1)))
    .nxt))))))
 (.call false (some 8) 37 (.cn (.var 0) .nl)
 (.chk (.u (.ext 0) (.var 8))
 (.chk (.u (.ext 1) (.var 8))
 (.set 1 (.u (.ext 0) (.var 8))
 (.set 2 (.u (.ext 1) (.var 8))
 .ret))))))))))))
def f_share_weighed : Fun := ⟨s_share_weighed, [(.var 1), (.var 2)]⟩
abbrev v_share_weighed : List Nat := [0, 2, 3, 16, 15, 17, 14, 5, 28]
theorem c_share_weighed : compF P Go.Proofs.Try.f30 v_share_weighed = some f_share_weighed := by kernel_rfl
theorem of_share_weighed {args : List Value} (hn : args.length ≤ 31) {h : Heap} {R : Value → Heap → Prop} (hs : s_share_weighed.wp P (f_share_weighed.post R) (env0 v_share_weighed args) h) : Runs P n_share_weighed args h R := fn_of P_mixed Go.Proofs.Try.func30 c_share_weighed (by rw [Go.Proofs.Try.ntmps30]; exact hn) hs
theorem vr_share_weighed {kp : Bool} {args : List A} {H : List Blk} {R : A → List Blk → Prop} (hlen : args.length ≤ 31) (hk : kp = false ∨ H = []) (hw : (∀ B ∈ H, A.bdL H.length B.cells = true) → A.bdL H.length args = true → s_share_weighed.aw P H.length (postA H.length f_share_weighed R) (envA v_share_weighed args) H) : VR P kp n_share_weighed args H R := VR.of (F := f_share_weighed) (V := v_share_weighed) of_share_weighed hlen hk fun h1 h2 => aw_sound (hw h1 h2)
theorem r_share_weighed : Fun.res f_share_weighed = [(.var 1), (.var 2)] := rfl
abbrev g_share_weighed_0 : List Nat := [1, 2, 3, 5, 7]

/-- math/bits.Mul64 -/
abbrev n_bits_Mul64 : Nat := 31
def s_bits_Mul64 : S :=
 (.set 2 (.lit (.int .u64 0))
 (.set 3 (.lit (.int .u64 0))
 (.set 4 (.b (.bin .and) (.var 0) (.lit (.int .u64 4294967295)))
 (.set 5 (.b (.bin .shr) (.var 0) (.lit (.int .u64 32)))
 (.set 6 (.b (.bin .and) (.var 1) (.lit (.int .u64 4294967295)))
 (.set 7 (.b (.bin .shr) (.var 1) (.lit (.int .u64 32)))
 (.set 8 (.b (.bin .mul) (.var 4) (.var 6))
 (.set 9 (.b (.bin .add) (.b (.bin .mul) (.var 5) (.var 6)) (.b (.bin .shr) (.var 8) (.lit (.int .u64 32))))
 (.set 10 (.b (.bin .and) (.var 9) (.lit (.int .u64 4294967295)))
 (.set 11 (.b (.bin .shr) (.var 9) (.lit (.int .u64 32)))
 (.set 10 (.b (.bin .add) (.var 10) (.b (.bin .mul) (.var 4) (.var 7)))
 (.set 2 (.b (.bin .add) (.b (.bin .add) (.b (.bin .mul) (.var 5) (.var 7)) (.var 11)) (.b (.bin .shr) (.var 10) (.lit (.int .u64 32))))
 (.set 3 (.b (.bin .mul) (.var 0) (.var 1))
 .ret)))))))))))))
def f_bits_Mul64 : Fun := ⟨s_bits_Mul64, [(.var 2), (.var 3)]⟩
abbrev v_bits_Mul64 : List Nat := [0, 1, 4, 5, 6, 7, 8, 9, 10, 11, 12, 13]
theorem c_bits_Mul64 : compF P Go.Proofs.Try.f31 v_bits_Mul64 = some f_bits_Mul64 := by kernel_rfl
theorem of_bits_Mul64 {args : List Value} (hn : args.length ≤ 51) {h : Heap} {R : Value → Heap → Prop} (hs : s_bits_Mul64.wp P (f_bits_Mul64.post R) (env0 v_bits_Mul64 args) h) : Runs P n_bits_Mul64 args h R := fn_of P_mixed Go.Proofs.Try.func31 c_bits_Mul64 (by rw [Go.Proofs.Try.ntmps31]; exact hn) hs
theorem vr_bits_Mul64 {kp : Bool} {args : List A} {H : List Blk} {R : A → List Blk → Prop} (hlen : args.length ≤ 51) (hk : kp = false ∨ H = []) (hw : (∀ B ∈ H, A.bdL H.length B.cells = true) → A.bdL H.length args = true → s_bits_Mul64.aw P H.length (postA H.length f_bits_Mul64 R) (envA v_bits_Mul64 args) H) : VR P kp n_bits_Mul64 args H R := VR.of (F := f_bits_Mul64) (V := v_bits_Mul64) of_bits_Mul64 hlen hk fun h1 h2 => aw_sound (hw h1 h2)
theorem r_bits_Mul64 : Fun.res f_bits_Mul64 = [(.var 2), (.var 3)] := rfl

/-- math/bits.Div64 -/
abbrev n_bits_Div64 : Nat := 32
def s_bits_Div64 : S :=
 (.set 3 (.lit (.int .u64 0))
 (.set 4 (.lit (.int .u64 0))
 (.seq
  (.ite (.b (.bin .eql) (.var 2) (.lit (.int .u64 0)))
   (.chk (.u .ld1 (.lit (.pointer (some ⟨0, 0, none⟩))))
   .stop)
   .nxt)
 (.seq
  (.ite (.b (.bin .leq) (.var 2) (.var 0))
   (.chk (.u .ld1 (.lit (.pointer (some ⟨1, 0, none⟩))))
   .stop)
   .nxt)
 (.seq
  (.ite (.b (.bin .eql) (.var 0) (.lit (.int .u64 0)))
   (.chk (.b (.bin .quo) (.var 1) (.var 2))
   (.chk (.b (.bin .rem) (.var 1) (.var 2))
   (.set 3 (.b (.bin .quo) (.var 1) (.var 2))
   (.set 4 (.b (.bin .rem) (.var 1) (.var 2))
   .ret))))
   .nxt)
 (.call false (some 16) 38 (.cn (.var 2) .nl)
 (.set 5 (.u (.conv .u64) (.var 16))
 (.set 2 (.b (.bin .shl) (.var 2) (.var 5))
 (.set 6 (.b (.bin .shr) (.var 2) (.lit (.int .u64 32)))
 (.set 7 (.b (.bin .and) (.var 2) (.lit (.int .u64 4294967295)))
 (.set 8 (.b (.bin .or) (.b (.bin .shl) (.var 0) (.var 5)) (.b (.bin .shr) (.var 1) (.b (.bin .sub) (.lit (.int .u64 64)) (.var 5))))
 (.set 9 (.b (.bin .shl) (.var 1) (.var 5))
 (.set 10 (.b (.bin .shr) (.var 9) (.lit (.int .u64 32)))
 (.set 11 (.b (.bin .and) (.var 9) (.lit (.int .u64 4294967295)))
 (.set 12 (.b (.bin .quo) (.var 8) (.var 6))
 (.set 13 (.b (.bin .sub) (.var 8) (.b (.bin .mul) (.var 12) (.var 6)))
 (.seq
  (.blk 0
   (.loop
    (.seq
     (.ite (.ite (.b (.bin .geq) (.var 12) (.lit (.int .u64 4294967296))) (.lit (.bool true)) (.b (.bin .gtr) (.b (.bin .mul) (.var 12) (.var 7)) (.b (.bin .add) (.b (.bin .mul) (.lit (.int .u64 4294967296)) (.var 13)) (.var 10))))
      .nxt
      (.exit 0))
    (.blk 1
     (.set 12 (.b (.bin .sub) (.var 12) (.lit (.int .u64 1)))
     (.set 13 (.b (.bin .add) (.var 13) (.var 6))
     (.ite (.b (.bin .geq) (.var 13) (.lit (.int .u64 4294967296)))
      (.exit 0)
      .nxt)))))))
 (.set 14 (.b (.bin .sub) (.b (.bin .add) (.b (.bin .mul) (.var 8) (.lit (.int .u64 4294967296))) (.var 10)) (.b (.bin .mul) (.var 12) (.var 2)))
 (.set 15 (.b (.bin .quo) (.var 14) (.var 6))
 (.set 13 (.b (.bin .sub) (.var 14) (.b (.bin .mul) (.var 15) (.var 6)))
 (.seq
  (.blk 2
   (.loop
    (.seq
     (.ite (.ite (.b (.bin .geq) (.var 15) (.lit (.int .u64 4294967296))) (.lit (.bool true)) (.b (.bin .gtr) (.b (.bin .mul) (.var 15) (.var 7)) (.b (.bin .add) (.b (.bin .mul) (.lit (.int .u64 4294967296)) (.var 13)) (.var 11))))
      .nxt
      (.exit 2))
    (.blk 3
     (.set 15 (.b (.bin .sub) (.var 15) (.lit (.int .u64 1)))
     (.set 13 (.b (.bin .add) (.var 13) (.var 6))
     (.ite (.b (.bin .geq) (.var 13) (.lit (.int .u64 4294967296)))
      (.exit 2)
      .nxt)))))))
 (.chk (.b (.bin .add) (.b (.bin .mul) (.var 12) (.lit (.int .u64 4294967296))) (.var 15))
 (.chk (.b (.bin .shr) (.b (.bin .sub) (.b (.bin .add) (.b (.bin .mul) (.var 14) (.lit (.int .u64 4294967296))) (.var 11)) (.b (.bin .mul) (.var 15) (.var 2))) (.var 5))
 (.set 3 (.b (.bin .add) (.b (.bin .mul) (.var 12) (.lit (.int .u64 4294967296))) (.var 15))
 (.set 4 (.b (.bin .shr) (.b (.bin .sub) (.b (.bin .add) (.b (.bin .mul) (.var 14) (.lit (.int .u64 4294967296))) (.var 11)) (.b (.bin .mul) (.var 15) (.var 2))) (.var 5))
 .ret)))))))))))))))))))))))))
def f_bits_Div64 : Fun := ⟨s_bits_Div64, [(.var 3), (.var 4)]⟩
abbrev v_bits_Div64 : List Nat := [0, 1, 2, 6, 7, 8, 9, 10, 11, 12, 13, 14, 15, 16, 17, 18, 35]
theorem c_bits_Div64 : compF P Go.Proofs.Try.f32 v_bits_Div64 = some f_bits_Div64 := by kernel_rfl
theorem of_bits_Div64 {args : List Value} (hn : args.length ≤ 135) {h : Heap} {R : Value → Heap → Prop} (hs : s_bits_Div64.wp P (f_bits_Div64.post R) (env0 v_bits_Div64 args) h) : Runs P n_bits_Div64 args h R := fn_of P_mixed Go.Proofs.Try.func32 c_bits_Div64 (by rw [Go.Proofs.Try.ntmps32]; exact hn) hs
theorem vr_bits_Div64 {kp : Bool} {args : List A} {H : List Blk} {R : A → List Blk → Prop} (hlen : args.length ≤ 135) (hk : kp = false ∨ H = []) (hw : (∀ B ∈ H, A.bdL H.length B.cells = true) → A.bdL H.length args = true → s_bits_Div64.aw P H.length (postA H.length f_bits_Div64 R) (envA v_bits_Div64 args) H) : VR P kp n_bits_Div64 args H R := VR.of (F := f_bits_Div64) (V := v_bits_Div64) of_bits_Div64 hlen hk fun h1 h2 => aw_sound (hw h1 h2)
theorem r_bits_Div64 : Fun.res f_bits_Div64 = [(.var 3), (.var 4)] := rfl
abbrev g_bits_Div64_0 : List Nat := [12, 13]
abbrev g_bits_Div64_1 : List Nat := [13, 15]

/-- slices.SortStableFunc[[]int,int] -/
abbrev n_slices_SortStableFuncint_int : Nat := 33
def s_slices_SortStableFuncint_int : S :=
 (.call false none 39 (.cn (.var 0) (.cn (.u .len (.var 0)) (.cn (.var 1) .nl)))
 .nxt)
def f_slices_SortStableFuncint_int : Fun := ⟨s_slices_SortStableFuncint_int, []⟩
abbrev v_slices_SortStableFuncint_int : List Nat := [0, 1]
theorem c_slices_SortStableFuncint_int : compF P Go.Proofs.Try.f33 v_slices_SortStableFuncint_int = some f_slices_SortStableFuncint_int := by kernel_rfl
theorem of_slices_SortStableFuncint_int {args : List Value} (hn : args.length ≤ 9) {h : Heap} {R : Value → Heap → Prop} (hs : s_slices_SortStableFuncint_int.wp P (f_slices_SortStableFuncint_int.post R) (env0 v_slices_SortStableFuncint_int args) h) : Runs P n_slices_SortStableFuncint_int args h R := fn_of P_mixed Go.Proofs.Try.func33 c_slices_SortStableFuncint_int (by rw [Go.Proofs.Try.ntmps33]; exact hn) hs
theorem vr_slices_SortStableFuncint_int {kp : Bool} {args : List A} {H : List Blk} {R : A → List Blk → Prop} (hlen : args.length ≤ 9) (hk : kp = false ∨ H = []) (hw : (∀ B ∈ H, A.bdL H.length B.cells = true) → A.bdL H.length args = true → s_slices_SortStableFuncint_int.aw P H.length (postA H.length f_slices_SortStableFuncint_int R) (envA v_slices_SortStableFuncint_int args) H) : VR P kp n_slices_SortStableFuncint_int args H R := VR.of (F := f_slices_SortStableFuncint_int) (V := v_slices_SortStableFuncint_int) of_slices_SortStableFuncint_int hlen hk fun h1 h2 => aw_sound (hw h1 h2)
theorem r_slices_SortStableFuncint_int : Fun.res f_slices_SortStableFuncint_int = [] := rfl

/-- recycling/share.Split$1 -/
abbrev n_share_Split_1 : Nat := 34
def s_share_Split_1 : S :=
 (.set 3 (.lit (.int .i64 0))
 (.set 3 (.b (.bin .sub) (.u .ld1 (.b (.idx 1) (.u .ld1 (.var 2)) (.var 1))) (.u .ld1 (.b (.idx 1) (.u .ld1 (.var 2)) (.var 0))))
 .ret))
def f_share_Split_1 : Fun := ⟨s_share_Split_1, [(.var 3)]⟩
abbrev v_share_Split_1 : List Nat := [0, 1, 2, 5]
theorem c_share_Split_1 : compF P Go.Proofs.Try.f34 v_share_Split_1 = some f_share_Split_1 := by kernel_rfl
theorem of_share_Split_1 {args : List Value} (hn : args.length ≤ 15) {h : Heap} {R : Value → Heap → Prop} (hs : s_share_Split_1.wp P (f_share_Split_1.post R) (env0 v_share_Split_1 args) h) : Runs P n_share_Split_1 args h R := fn_of P_mixed Go.Proofs.Try.func34 c_share_Split_1 (by rw [Go.Proofs.Try.ntmps34]; exact hn) hs
theorem vr_share_Split_1 {kp : Bool} {args : List A} {H : List Blk} {R : A → List Blk → Prop} (hlen : args.length ≤ 15) (hk : kp = false ∨ H = []) (hw : (∀ B ∈ H, A.bdL H.length B.cells = true) → A.bdL H.length args = true → s_share_Split_1.aw P H.length (postA H.length f_share_Split_1 R) (envA v_share_Split_1 args) H) : VR P kp n_share_Split_1 args H R := VR.of (F := f_share_Split_1) (V := v_share_Split_1) of_share_Split_1 hlen hk fun h1 h2 => aw_sound (hw h1 h2)
theorem r_share_Split_1 : Fun.res f_share_Split_1 = [(.var 3)] := rfl

/-- recycling/recyclingref11.sum -/
abbrev n_ref11_sum : Nat := 35
def s_ref11_sum : S :=
 (.set 1 (.lit (.int .i64 0))
 (.set 2 (.lit (.int .i64 0))
 (.seq
  (.ite (.ite (.b (.bin .lss) (.u .len (.var 0)) (.lit (.int .i64 1))) (.lit (.bool true)) (.b (.bin .gtr) (.u .len (.var 0)) (.lit (.int .i64 512))))
   (.set 1 (.lit (.int .i64 0))
   (.set 2 (.lit (.int .i64 1))
   .ret))
   .nxt)
 (.set 3 (.lit (.int .i64 0))
 (.seq
  (.blk 0
   (.loop
    (.seq
     (.ite (.b (.bin .lss) (.var 3) (.u .len (.var 0)))
      .nxt
      (.exit 0))
    (.seq
     (.blk 1
      (.ite (.ite (.b (.bin .lss) (.u .ld1 (.b (.idx 1) (.var 0) (.var 3))) (.lit (.int .i64 0))) (.lit (.bool true)) (.b (.bin .gtr) (.u .ld1 (.b (.idx 1) (.var 0) (.var 3))) (.lit (.int .i64 1125899906842624))))
       (.set 1 (.lit (.int .i64 0))
       (.set 2 (.lit (.int .i64 1))
       .ret))
       .nxt))
    (.set 3 (.b (.bin .add) (.var 3) (.lit (.int .i64 1)))
    .nxt)))))
 (.set 4 (.lit (.int .i64 0))
 (.set 5 (.lit (.int .i64 0))
 (.seq
  (.blk 2
   (.loop
    (.seq
     (.ite (.b (.bin .lss) (.var 5) (.u .len (.var 0)))
      .nxt
      (.exit 2))
    (.seq
     (.blk 3
      (.set 4 (.b (.bin .add) (.var 4) (.u .ld1 (.b (.idx 1) (.var 0) (.var 5))))
      (.ite (.b (.bin .gtr) (.var 4) (.lit (.int .i64 1125899906842624)))
       (.set 1 (.lit (.int .i64 0))
       (.set 2 (.lit (.int .i64 2))
       .ret))
       .nxt)))
    (.set 5 (.b (.bin .add) (.var 5) (.lit (.int .i64 1)))
    .nxt)))))
 (.set 1 (.var 4)
 (.set 2 (.lit (.int .i64 0))
 .ret))))))))))
def f_ref11_sum : Fun := ⟨s_ref11_sum, [(.var 1), (.var 2)]⟩
abbrev v_ref11_sum : List Nat := [0, 2, 3, 4, 5, 6]
theorem c_ref11_sum : compF P Go.Proofs.Try.f35 v_ref11_sum = some f_ref11_sum := by kernel_rfl
theorem of_ref11_sum {args : List Value} (hn : args.length ≤ 48) {h : Heap} {R : Value → Heap → Prop} (hs : s_ref11_sum.wp P (f_ref11_sum.post R) (env0 v_ref11_sum args) h) : Runs P n_ref11_sum args h R := fn_of P_mixed Go.Proofs.Try.func35 c_ref11_sum (by rw [Go.Proofs.Try.ntmps35]; exact hn) hs
theorem vr_ref11_sum {kp : Bool} {args : List A} {H : List Blk} {R : A → List Blk → Prop} (hlen : args.length ≤ 48) (hk : kp = false ∨ H = []) (hw : (∀ B ∈ H, A.bdL H.length B.cells = true) → A.bdL H.length args = true → s_ref11_sum.aw P H.length (postA H.length f_ref11_sum R) (envA v_ref11_sum args) H) : VR P kp n_ref11_sum args H R := VR.of (F := f_ref11_sum) (V := v_ref11_sum) of_ref11_sum hlen hk fun h1 h2 => aw_sound (hw h1 h2)
theorem r_ref11_sum : Fun.res f_ref11_sum = [(.var 1), (.var 2)] := rfl
abbrev g_ref11_sum_0 : List Nat := [1, 2, 3]
abbrev g_ref11_sum_1 : List Nat := [1, 2, 4, 5]

/-- recycling/recyclingref11.divide -/
abbrev n_ref11_divide : Nat := 36
def s_ref11_divide : S :=
 (.set 3 (.lit (.int .i64 0))
 (.set 4 (.lit (.int .i64 0))
 (.set 5 (.lit (.int .i64 0))
 (.set 6 (.lit (.int .i64 0))
 (.set 7 (.lit (.int .i64 50))
 (.seq
  (.blk 0
   (.loop
    (.seq
     (.ite (.b (.bin .geq) (.var 7) (.lit (.int .i64 0)))
      .nxt
      (.exit 0))
    (.seq
     (.blk 1
      (.set 5 (.b (.bin .mul) (.lit (.int .i64 2)) (.var 5))
      (.set 6 (.b (.bin .mul) (.lit (.int .i64 2)) (.var 6))
      (.seq
       (.ite (.b (.bin .eql) (.b (.bin .and) (.b (.bin .shr) (.var 0) (.u (.conv .u64) (.var 7))) (.lit (.int .i64 1))) (.lit (.int .i64 1)))
        (.set 6 (.b (.bin .add) (.var 6) (.var 1))
        .nxt)
        .nxt)
      (.blk 2
       (.loop
        (.seq
         (.ite (.b (.bin .geq) (.var 6) (.var 2))
          .nxt
          (.exit 2))
        (.blk 3
         (.set 6 (.b (.bin .sub) (.var 6) (.var 2))
         (.set 5 (.b (.bin .add) (.var 5) (.lit (.int .i64 1)))
         .nxt))))))))))
    (.set 7 (.b (.bin .sub) (.var 7) (.lit (.int .i64 1)))
    .nxt)))))
 (.set 3 (.var 5)
 (.set 4 (.var 6)
 .ret))))))))
def f_ref11_divide : Fun := ⟨s_ref11_divide, [(.var 3), (.var 4)]⟩
abbrev v_ref11_divide : List Nat := [0, 1, 2, 6, 7, 8, 9, 10]
theorem c_ref11_divide : compF P Go.Proofs.Try.f36 v_ref11_divide = some f_ref11_divide := by kernel_rfl
theorem of_ref11_divide {args : List Value} (hn : args.length ≤ 38) {h : Heap} {R : Value → Heap → Prop} (hs : s_ref11_divide.wp P (f_ref11_divide.post R) (env0 v_ref11_divide args) h) : Runs P n_ref11_divide args h R := fn_of P_mixed Go.Proofs.Try.func36 c_ref11_divide (by rw [Go.Proofs.Try.ntmps36]; exact hn) hs
theorem vr_ref11_divide {kp : Bool} {args : List A} {H : List Blk} {R : A → List Blk → Prop} (hlen : args.length ≤ 38) (hk : kp = false ∨ H = []) (hw : (∀ B ∈ H, A.bdL H.length B.cells = true) → A.bdL H.length args = true → s_ref11_divide.aw P H.length (postA H.length f_ref11_divide R) (envA v_ref11_divide args) H) : VR P kp n_ref11_divide args H R := VR.of (F := f_ref11_divide) (V := v_ref11_divide) of_ref11_divide hlen hk fun h1 h2 => aw_sound (hw h1 h2)
theorem r_ref11_divide : Fun.res f_ref11_divide = [(.var 3), (.var 4)] := rfl
abbrev g_ref11_divide_0 : List Nat := [5, 6, 7]
abbrev g_ref11_divide_1 : List Nat := [5, 6]

/-- recycling/num.Sum -/
abbrev n_num_Sum : Nat := 37
def s_num_Sum : S :=
 (.set 1 (.lit (.int .i64 0))
 (.set 2 (.lit (.int .i64 0))
 (.set 3 (.lit (.int .i64 0))
 (.set 4 (.lit (.int .i64 0))
 (.set 8 (.var 0)
 (.set 6 (.u .len (.var 8))
 (.set 5 (.lit (.int .i64 0))
 (.seq
  (.blk 0
   (.loop
    (.set 7 (.b (.bin .lss) (.var 5) (.var 6))
    (.seq
     (.ite (.var 7)
      .nxt
      (.exit 0))
    (.seq
     (.blk 1
      (.set 9 (.u .ld1 (.b (.idx 1) (.var 8) (.var 5)))
      (.eff false (some 10) (.lit 3 1 1 [(.int .i64 0)] (.pl 0 1 (.var 9) .nl))
      (.call false (some 12) 40 (.cn (.var 10) .nl)
      (.seq
       (.ite (.u (.un .not) (.var 12))
        (.set 1 (.lit (.int .i64 0))
        (.set 2 (.lit (.int .i64 1))
        .ret))
        .nxt)
      (.set 3 (.b (.bin .add) (.var 3) (.b (.bin .shr) (.var 9) (.lit (.int .u64 25))))
      (.set 4 (.b (.bin .add) (.var 4) (.b (.bin .and) (.var 9) (.lit (.int .i64 33554431))))
      .nxt)))))))
    (.set 5 (.b (.bin .add) (.var 5) (.lit (.int .i64 1)))
    .nxt))))))
 (.set 3 (.b (.bin .add) (.var 3) (.b (.bin .shr) (.var 4) (.lit (.int .u64 25))))
 (.seq
  (.ite (.ite (.b (.bin .lss) (.var 3) (.lit (.int .i64 (-67108864)))) (.lit (.bool true)) (.b (.bin .gtr) (.var 3) (.lit (.int .i64 67108864))))
   (.set 1 (.lit (.int .i64 0))
   (.set 2 (.lit (.int .i64 2))
   .ret))
   .nxt)
 (.call false (some 11) 41 (.cn (.b (.bin .add) (.b (.bin .shl) (.var 3) (.lit (.int .u64 25))) (.b (.bin .and) (.var 4) (.lit (.int .i64 33554431)))) .nl)
 (.chk (.u (.ext 0) (.var 11))
 (.chk (.u (.ext 1) (.var 11))
 (.set 1 (.u (.ext 0) (.var 11))
 (.set 2 (.u (.ext 1) (.var 11))
 .ret)))))))))))))))
def f_num_Sum : Fun := ⟨s_num_Sum, [(.var 1), (.var 2)]⟩
abbrev v_num_Sum : List Nat := [0, 2, 3, 4, 5, 10, 9, 11, 8, 7, 15, 42, 16]
theorem c_num_Sum : compF P Go.Proofs.Try.f37 v_num_Sum = some f_num_Sum := by kernel_rfl
theorem of_num_Sum {args : List Value} (hn : args.length ≤ 45) {h : Heap} {R : Value → Heap → Prop} (hs : s_num_Sum.wp P (f_num_Sum.post R) (env0 v_num_Sum args) h) : Runs P n_num_Sum args h R := fn_of P_mixed Go.Proofs.Try.func37 c_num_Sum (by rw [Go.Proofs.Try.ntmps37]; exact hn) hs
theorem vr_num_Sum {kp : Bool} {args : List A} {H : List Blk} {R : A → List Blk → Prop} (hlen : args.length ≤ 45) (hk : kp = false ∨ H = []) (hw : (∀ B ∈ H, A.bdL H.length B.cells = true) → A.bdL H.length args = true → s_num_Sum.aw P H.length (postA H.length f_num_Sum R) (envA v_num_Sum args) H) : VR P kp n_num_Sum args H R := VR.of (F := f_num_Sum) (V := v_num_Sum) of_num_Sum hlen hk fun h1 h2 => aw_sound (hw h1 h2)
theorem r_num_Sum : Fun.res f_num_Sum = [(.var 1), (.var 2)] := rfl
abbrev g_num_Sum_0 : List Nat := [1, 2, 3, 4, 5, 7, 9, 10, 12]

/-- math/bits.LeadingZeros64 -/
abbrev n_bits_LeadingZeros64 : Nat := 38
def s_bits_LeadingZeros64 : S :=
 (.set 1 (.lit (.int .i64 0))
 (.call false (some 2) 42 (.cn (.var 0) .nl)
 (.set 1 (.b (.bin .sub) (.lit (.int .i64 64)) (.var 2))
 .ret)))
def f_bits_LeadingZeros64 : Fun := ⟨s_bits_LeadingZeros64, [(.var 1)]⟩
abbrev v_bits_LeadingZeros64 : List Nat := [0, 2, 4]
theorem c_bits_LeadingZeros64 : compF P Go.Proofs.Try.f38 v_bits_LeadingZeros64 = some f_bits_LeadingZeros64 := by kernel_rfl
theorem of_bits_LeadingZeros64 {args : List Value} (hn : args.length ≤ 6) {h : Heap} {R : Value → Heap → Prop} (hs : s_bits_LeadingZeros64.wp P (f_bits_LeadingZeros64.post R) (env0 v_bits_LeadingZeros64 args) h) : Runs P n_bits_LeadingZeros64 args h R := fn_of P_mixed Go.Proofs.Try.func38 c_bits_LeadingZeros64 (by rw [Go.Proofs.Try.ntmps38]; exact hn) hs
theorem vr_bits_LeadingZeros64 {kp : Bool} {args : List A} {H : List Blk} {R : A → List Blk → Prop} (hlen : args.length ≤ 6) (hk : kp = false ∨ H = []) (hw : (∀ B ∈ H, A.bdL H.length B.cells = true) → A.bdL H.length args = true → s_bits_LeadingZeros64.aw P H.length (postA H.length f_bits_LeadingZeros64 R) (envA v_bits_LeadingZeros64 args) H) : VR P kp n_bits_LeadingZeros64 args H R := VR.of (F := f_bits_LeadingZeros64) (V := v_bits_LeadingZeros64) of_bits_LeadingZeros64 hlen hk fun h1 h2 => aw_sound (hw h1 h2)
theorem r_bits_LeadingZeros64 : Fun.res f_bits_LeadingZeros64 = [(.var 1)] := rfl

/-- slices.stableCmpFunc[int] -/
abbrev n_slices_stableCmpFunc : Nat := 39
def s_slices_stableCmpFunc : S :=
 (.set 3 (.lit (.int .i64 20))
 (.set 4 (.lit (.int .i64 0))
 (.set 5 (.var 3)
 (.seq
  (.blk 0
   (.loop
    (.seq
     (.ite (.b (.bin .leq) (.var 5) (.var 1))
      .nxt
      (.exit 0))
    (.blk 1
     (.call false none 43 (.cn (.var 0) (.cn (.var 4) (.cn (.var 5) (.cn (.var 2) .nl))))
     (.set 4 (.var 5)
     (.set 5 (.b (.bin .add) (.var 5) (.var 3))
     .nxt)))))))
 (.call false none 43 (.cn (.var 0) (.cn (.var 4) (.cn (.var 1) (.cn (.var 2) .nl))))
 (.blk 2
  (.loop
   (.seq
    (.ite (.b (.bin .lss) (.var 3) (.var 1))
     .nxt
     (.exit 2))
   (.blk 3
    (.chk (.b (.bin .mul) (.lit (.int .i64 2)) (.var 3))
    (.set 4 (.lit (.int .i64 0))
    (.set 5 (.b (.bin .mul) (.lit (.int .i64 2)) (.var 3))
    (.seq
     (.blk 4
      (.loop
       (.seq
        (.ite (.b (.bin .leq) (.var 5) (.var 1))
         .nxt
         (.exit 4))
       (.blk 5
        (.call false none 44 (.cn (.var 0) (.cn (.var 4) (.cn (.b (.bin .add) (.var 4) (.var 3)) (.cn (.var 5) (.cn (.var 2) .nl)))))
        (.set 4 (.var 5)
        (.set 5 (.b (.bin .add) (.var 5) (.b (.bin .mul) (.lit (.int .i64 2)) (.var 3)))
        .nxt)))))))
    (.set 6 (.b (.bin .add) (.var 4) (.var 3))
    (.seq
     (.ite (.b (.bin .lss) (.var 6) (.var 1))
      (.call false none 44 (.cn (.var 0) (.cn (.var 4) (.cn (.var 6) (.cn (.var 1) (.cn (.var 2) .nl)))))
      .nxt)
      .nxt)
    (.set 3 (.b (.bin .mul) (.var 3) (.lit (.int .i64 2)))
    .nxt))))))))))))))))
def f_slices_stableCmpFunc : Fun := ⟨s_slices_stableCmpFunc, []⟩
abbrev v_slices_stableCmpFunc : List Nat := [0, 1, 2, 6, 7, 8, 9]
theorem c_slices_stableCmpFunc : compF P Go.Proofs.Try.f39 v_slices_stableCmpFunc = some f_slices_stableCmpFunc := by kernel_rfl
theorem of_slices_stableCmpFunc {args : List Value} (hn : args.length ≤ 63) {h : Heap} {R : Value → Heap → Prop} (hs : s_slices_stableCmpFunc.wp P (f_slices_stableCmpFunc.post R) (env0 v_slices_stableCmpFunc args) h) : Runs P n_slices_stableCmpFunc args h R := fn_of P_mixed Go.Proofs.Try.func39 c_slices_stableCmpFunc (by rw [Go.Proofs.Try.ntmps39]; exact hn) hs
theorem vr_slices_stableCmpFunc {kp : Bool} {args : List A} {H : List Blk} {R : A → List Blk → Prop} (hlen : args.length ≤ 63) (hk : kp = false ∨ H = []) (hw : (∀ B ∈ H, A.bdL H.length B.cells = true) → A.bdL H.length args = true → s_slices_stableCmpFunc.aw P H.length (postA H.length f_slices_stableCmpFunc R) (envA v_slices_stableCmpFunc args) H) : VR P kp n_slices_stableCmpFunc args H R := VR.of (F := f_slices_stableCmpFunc) (V := v_slices_stableCmpFunc) of_slices_stableCmpFunc hlen hk fun h1 h2 => aw_sound (hw h1 h2)
theorem r_slices_stableCmpFunc : Fun.res f_slices_stableCmpFunc = [] := rfl
abbrev g_slices_stableCmpFunc_0 : List Nat := [4, 5]
abbrev g_slices_stableCmpFunc_1 : List Nat := [3, 4, 5, 6]
abbrev g_slices_stableCmpFunc_2 : List Nat := [4, 5]

/-- recycling/num.in -/
abbrev n_num_in : Nat := 40
def s_num_in : S :=
 (.set 1 (.lit (.bool false))
 (.set 5 (.var 0)
 (.set 3 (.u .len (.var 5))
 (.set 2 (.lit (.int .i64 0))
 (.seq
  (.blk 0
   (.loop
    (.set 4 (.b (.bin .lss) (.var 2) (.var 3))
    (.seq
     (.ite (.var 4)
      .nxt
      (.exit 0))
    (.seq
     (.blk 1
      (.set 6 (.u .ld1 (.b (.idx 1) (.var 5) (.var 2)))
      (.ite (.ite (.b (.bin .lss) (.var 6) (.lit (.int .i64 (-1125899906842624)))) (.lit (.bool true)) (.b (.bin .gtr) (.var 6) (.lit (.int .i64 1125899906842624))))
       (.set 1 (.lit (.bool false))
       .ret)
       .nxt)))
    (.set 2 (.b (.bin .add) (.var 2) (.lit (.int .i64 1)))
    .nxt))))))
 (.set 1 (.lit (.bool true))
 .ret))))))
def f_num_in : Fun := ⟨s_num_in, [(.var 1)]⟩
abbrev v_num_in : List Nat := [0, 2, 7, 6, 8, 5, 4]
theorem c_num_in : compF P Go.Proofs.Try.f40 v_num_in = some f_num_in := by kernel_rfl
theorem of_num_in {args : List Value} (hn : args.length ≤ 18) {h : Heap} {R : Value → Heap → Prop} (hs : s_num_in.wp P (f_num_in.post R) (env0 v_num_in args) h) : Runs P n_num_in args h R := fn_of P_mixed Go.Proofs.Try.func40 c_num_in (by rw [Go.Proofs.Try.ntmps40]; exact hn) hs
theorem vr_num_in {kp : Bool} {args : List A} {H : List Blk} {R : A → List Blk → Prop} (hlen : args.length ≤ 18) (hk : kp = false ∨ H = []) (hw : (∀ B ∈ H, A.bdL H.length B.cells = true) → A.bdL H.length args = true → s_num_in.aw P H.length (postA H.length f_num_in R) (envA v_num_in args) H) : VR P kp n_num_in args H R := VR.of (F := f_num_in) (V := v_num_in) of_num_in hlen hk fun h1 h2 => aw_sound (hw h1 h2)
theorem r_num_in : Fun.res f_num_in = [(.var 1)] := rfl
abbrev g_num_in_0 : List Nat := [1, 2, 4, 6]

/-- recycling/num.checked -/
abbrev n_num_checked : Nat := 41
def s_num_checked : S :=
 (.set 1 (.lit (.int .i64 0))
 (.set 2 (.lit (.int .i64 0))
 (.eff false (some 3) (.lit 3 1 1 [(.int .i64 0)] (.pl 0 1 (.var 0) .nl))
 (.call false (some 4) 40 (.cn (.var 3) .nl)
 (.seq
  (.ite (.u (.un .not) (.var 4))
   (.set 1 (.lit (.int .i64 0))
   (.set 2 (.lit (.int .i64 2))
   .ret))
   .nxt)
 (.set 1 (.var 0)
 (.set 2 (.lit (.int .i64 0))
 .ret)))))))
def f_num_checked : Fun := ⟨s_num_checked, [(.var 1), (.var 2)]⟩
abbrev v_num_checked : List Nat := [0, 2, 3, 5, 6]
theorem c_num_checked : compF P Go.Proofs.Try.f41 v_num_checked = some f_num_checked := by kernel_rfl
theorem of_num_checked {args : List Value} (hn : args.length ≤ 9) {h : Heap} {R : Value → Heap → Prop} (hs : s_num_checked.wp P (f_num_checked.post R) (env0 v_num_checked args) h) : Runs P n_num_checked args h R := fn_of P_mixed Go.Proofs.Try.func41 c_num_checked (by rw [Go.Proofs.Try.ntmps41]; exact hn) hs
theorem vr_num_checked {kp : Bool} {args : List A} {H : List Blk} {R : A → List Blk → Prop} (hlen : args.length ≤ 9) (hk : kp = false ∨ H = []) (hw : (∀ B ∈ H, A.bdL H.length B.cells = true) → A.bdL H.length args = true → s_num_checked.aw P H.length (postA H.length f_num_checked R) (envA v_num_checked args) H) : VR P kp n_num_checked args H R := VR.of (F := f_num_checked) (V := v_num_checked) of_num_checked hlen hk fun h1 h2 => aw_sound (hw h1 h2)
theorem r_num_checked : Fun.res f_num_checked = [(.var 1), (.var 2)] := rfl

/-- math/bits.Len64 -/
abbrev n_bits_Len64 : Nat := 42
def s_bits_Len64 : S :=
 (.set 1 (.lit (.int .i64 0))
 (.seq
  (.ite (.b (.bin .geq) (.var 0) (.lit (.int .u64 4294967296)))
   (.set 0 (.b (.bin .shr) (.var 0) (.lit (.int .u64 32)))
   (.set 1 (.lit (.int .i64 32))
   .nxt))
   .nxt)
 (.seq
  (.ite (.b (.bin .geq) (.var 0) (.lit (.int .u64 65536)))
   (.set 0 (.b (.bin .shr) (.var 0) (.lit (.int .u64 16)))
   (.set 1 (.b (.bin .add) (.var 1) (.lit (.int .i64 16)))
   .nxt))
   .nxt)
 (.seq
  (.ite (.b (.bin .geq) (.var 0) (.lit (.int .u64 256)))
   (.set 0 (.b (.bin .shr) (.var 0) (.lit (.int .u64 8)))
   (.set 1 (.b (.bin .add) (.var 1) (.lit (.int .i64 8)))
   .nxt))
   .nxt)
 (.chk (.b .ixs (.lit (.string ⟨#[0, 1, 2, 2, 3, 3, 3, 3, 4, 4, 4, 4, 4, 4, 4, 4, 5, 5, 5, 5, 5, 5, 5, 5, 5, 5, 5, 5, 5, 5, 5, 5, 6, 6, 6, 6, 6, 6, 6, 6, 6, 6, 6, 6, 6, 6, 6, 6, 6, 6, 6, 6, 6, 6, 6, 6, 6, 6, 6, 6, 6, 6, 6, 6, 7, 7, 7, 7, 7, 7, 7, 7, 7, 7, 7, 7, 7, 7, 7, 7, 7, 7, 7, 7, 7, 7, 7, 7, 7, 7, 7, 7, 7, 7, 7, 7, 7, 7, 7, 7, 7, 7, 7, 7, 7, 7, 7, 7, 7, 7, 7, 7, 7, 7, 7, 7, 7, 7, 7, 7, 7, 7, 7, 7, 7, 7, 7, 7, 8, 8, 8, 8, 8, 8, 8, 8, 8, 8, 8, 8, 8, 8, 8, 8, 8, 8, 8, 8, 8, 8, 8, 8, 8, 8, 8, 8, 8, 8, 8, 8, 8, 8, 8, 8, 8, 8, 8, 8, 8, 8, 8, 8, 8, 8, 8, 8, 8, 8, 8, 8, 8, 8, 8, 8, 8, 8, 8, 8, 8, 8, 8, 8, 8, 8, 8, 8, 8, 8, 8, 8, 8, 8, 8, 8, 8, 8, 8, 8, 8, 8, 8, 8, 8, 8, 8, 8, 8, 8, 8, 8, 8, 8, 8, 8, 8, 8, 8, 8, 8, 8, 8, 8, 8, 8, 8, 8, 8, 8, 8, 8, 8, 8, 8, 8, 8, 8, 8, 8, 8, 8, 8, 8, 8, 8, 8, 8]⟩)) (.u (.conv .u8) (.var 0)))
 (.chk (.u (.conv .i64) (.b .ixs (.lit (.string ⟨#[0, 1, 2, 2, 3, 3, 3, 3, 4, 4, 4, 4, 4, 4, 4, 4, 5, 5, 5, 5, 5, 5, 5, 5, 5, 5, 5, 5, 5, 5, 5, 5, 6, 6, 6, 6, 6, 6, 6, 6, 6, 6, 6, 6, 6, 6, 6, 6, 6, 6, 6, 6, 6, 6, 6, 6, 6, 6, 6, 6, 6, 6, 6, 6, 7, 7, 7, 7, 7, 7, 7, 7, 7, 7, 7, 7, 7, 7, 7, 7, 7, 7, 7, 7, 7, 7, 7, 7, 7, 7, 7, 7, 7, 7, 7, 7, 7, 7, 7, 7, 7, 7, 7, 7, 7, 7, 7, 7, 7, 7, 7, 7, 7, 7, 7, 7, 7, 7, 7, 7, 7, 7, 7, 7, 7, 7, 7, 7, 8, 8, 8, 8, 8, 8, 8, 8, 8, 8, 8, 8, 8, 8, 8, 8, 8, 8, 8, 8, 8, 8, 8, 8, 8, 8, 8, 8, 8, 8, 8, 8, 8, 8, 8, 8, 8, 8, 8, 8, 8, 8, 8, 8, 8, 8, 8, 8, 8, 8, 8, 8, 8, 8, 8, 8, 8, 8, 8, 8, 8, 8, 8, 8, 8, 8, 8, 8, 8, 8, 8, 8, 8, 8, 8, 8, 8, 8, 8, 8, 8, 8, 8, 8, 8, 8, 8, 8, 8, 8, 8, 8, 8, 8, 8, 8, 8, 8, 8, 8, 8, 8, 8, 8, 8, 8, 8, 8, 8, 8, 8, 8, 8, 8, 8, 8, 8, 8, 8, 8, 8, 8, 8, 8, 8, 8, 8, 8]⟩)) (.u (.conv .u8) (.var 0))))
 (.chk (.b (.bin .add) (.var 1) (.u (.conv .i64) (.b .ixs (.lit (.string ⟨#[0, 1, 2, 2, 3, 3, 3, 3, 4, 4, 4, 4, 4, 4, 4, 4, 5, 5, 5, 5, 5, 5, 5, 5, 5, 5, 5, 5, 5, 5, 5, 5, 6, 6, 6, 6, 6, 6, 6, 6, 6, 6, 6, 6, 6, 6, 6, 6, 6, 6, 6, 6, 6, 6, 6, 6, 6, 6, 6, 6, 6, 6, 6, 6, 7, 7, 7, 7, 7, 7, 7, 7, 7, 7, 7, 7, 7, 7, 7, 7, 7, 7, 7, 7, 7, 7, 7, 7, 7, 7, 7, 7, 7, 7, 7, 7, 7, 7, 7, 7, 7, 7, 7, 7, 7, 7, 7, 7, 7, 7, 7, 7, 7, 7, 7, 7, 7, 7, 7, 7, 7, 7, 7, 7, 7, 7, 7, 7, 8, 8, 8, 8, 8, 8, 8, 8, 8, 8, 8, 8, 8, 8, 8, 8, 8, 8, 8, 8, 8, 8, 8, 8, 8, 8, 8, 8, 8, 8, 8, 8, 8, 8, 8, 8, 8, 8, 8, 8, 8, 8, 8, 8, 8, 8, 8, 8, 8, 8, 8, 8, 8, 8, 8, 8, 8, 8, 8, 8, 8, 8, 8, 8, 8, 8, 8, 8, 8, 8, 8, 8, 8, 8, 8, 8, 8, 8, 8, 8, 8, 8, 8, 8, 8, 8, 8, 8, 8, 8, 8, 8, 8, 8, 8, 8, 8, 8, 8, 8, 8, 8, 8, 8, 8, 8, 8, 8, 8, 8, 8, 8, 8, 8, 8, 8, 8, 8, 8, 8, 8, 8, 8, 8, 8, 8, 8, 8]⟩)) (.u (.conv .u8) (.var 0)))))
 (.set 1 (.b (.bin .add) (.var 1) (.u (.conv .i64) (.b .ixs (.lit (.string ⟨#[0, 1, 2, 2, 3, 3, 3, 3, 4, 4, 4, 4, 4, 4, 4, 4, 5, 5, 5, 5, 5, 5, 5, 5, 5, 5, 5, 5, 5, 5, 5, 5, 6, 6, 6, 6, 6, 6, 6, 6, 6, 6, 6, 6, 6, 6, 6, 6, 6, 6, 6, 6, 6, 6, 6, 6, 6, 6, 6, 6, 6, 6, 6, 6, 7, 7, 7, 7, 7, 7, 7, 7, 7, 7, 7, 7, 7, 7, 7, 7, 7, 7, 7, 7, 7, 7, 7, 7, 7, 7, 7, 7, 7, 7, 7, 7, 7, 7, 7, 7, 7, 7, 7, 7, 7, 7, 7, 7, 7, 7, 7, 7, 7, 7, 7, 7, 7, 7, 7, 7, 7, 7, 7, 7, 7, 7, 7, 7, 8, 8, 8, 8, 8, 8, 8, 8, 8, 8, 8, 8, 8, 8, 8, 8, 8, 8, 8, 8, 8, 8, 8, 8, 8, 8, 8, 8, 8, 8, 8, 8, 8, 8, 8, 8, 8, 8, 8, 8, 8, 8, 8, 8, 8, 8, 8, 8, 8, 8, 8, 8, 8, 8, 8, 8, 8, 8, 8, 8, 8, 8, 8, 8, 8, 8, 8, 8, 8, 8, 8, 8, 8, 8, 8, 8, 8, 8, 8, 8, 8, 8, 8, 8, 8, 8, 8, 8, 8, 8, 8, 8, 8, 8, 8, 8, 8, 8, 8, 8, 8, 8, 8, 8, 8, 8, 8, 8, 8, 8, 8, 8, 8, 8, 8, 8, 8, 8, 8, 8, 8, 8, 8, 8, 8, 8, 8, 8]⟩)) (.u (.conv .u8) (.var 0)))))
 .ret))))))))
def f_bits_Len64 : Fun := ⟨s_bits_Len64, [(.var 1)]⟩
abbrev v_bits_Len64 : List Nat := [0, 2]
theorem c_bits_Len64 : compF P Go.Proofs.Try.f42 v_bits_Len64 = some f_bits_Len64 := by kernel_rfl
theorem of_bits_Len64 {args : List Value} (hn : args.length ≤ 25) {h : Heap} {R : Value → Heap → Prop} (hs : s_bits_Len64.wp P (f_bits_Len64.post R) (env0 v_bits_Len64 args) h) : Runs P n_bits_Len64 args h R := fn_of P_mixed Go.Proofs.Try.func42 c_bits_Len64 (by rw [Go.Proofs.Try.ntmps42]; exact hn) hs
theorem vr_bits_Len64 {kp : Bool} {args : List A} {H : List Blk} {R : A → List Blk → Prop} (hlen : args.length ≤ 25) (hk : kp = false ∨ H = []) (hw : (∀ B ∈ H, A.bdL H.length B.cells = true) → A.bdL H.length args = true → s_bits_Len64.aw P H.length (postA H.length f_bits_Len64 R) (envA v_bits_Len64 args) H) : VR P kp n_bits_Len64 args H R := VR.of (F := f_bits_Len64) (V := v_bits_Len64) of_bits_Len64 hlen hk fun h1 h2 => aw_sound (hw h1 h2)
theorem r_bits_Len64 : Fun.res f_bits_Len64 = [(.var 1)] := rfl

/-- slices.insertionSortCmpFunc[int] -/
abbrev n_slices_insertionSortCmpFunc : Nat := 43
def s_slices_insertionSortCmpFunc : S :=
 (.set 4 (.b (.bin .add) (.var 1) (.lit (.int .i64 1)))
 (.blk 0
  (.loop
   (.seq
    (.ite (.b (.bin .lss) (.var 4) (.var 2))
     .nxt
     (.exit 0))
   (.seq
    (.blk 1
     (.set 5 (.var 4)
     (.blk 2
      (.loop
       (.chk (.ite (.b (.bin .gtr) (.var 5) (.var 1)) (.u .ld1 (.b (.idx 1) (.var 0) (.var 5))) (.lit undef))
       (.chk (.ite (.b (.bin .gtr) (.var 5) (.var 1)) (.u .ld1 (.b (.idx 1) (.var 0) (.b (.bin .sub) (.var 5) (.lit (.int .i64 1))))) (.lit undef))
       (.seq
        (.ite (.b (.bin .gtr) (.var 5) (.var 1))
         (.callv false (some 6) (.var 3) (.cn (.u .ld1 (.b (.idx 1) (.var 0) (.var 5))) (.cn (.u .ld1 (.b (.idx 1) (.var 0) (.b (.bin .sub) (.var 5) (.lit (.int .i64 1))))) .nl))
         (.ite (.b (.bin .lss) (.var 6) (.lit (.int .i64 0)))
          .nxt
          (.exit 2)))
         (.set 6 (.lit undef)
         (.ite (.lit (.bool false))
          .nxt
          (.exit 2))))
       (.seq
        (.blk 3
         (.chk (.u .ld1 (.b (.idx 1) (.var 0) (.b (.bin .sub) (.var 5) (.lit (.int .i64 1)))))
         (.set 7 (.u .ld1 (.b (.idx 1) (.var 0) (.var 5)))
         (.eff false none (.st 1 (.b (.idx 1) (.var 0) (.var 5)) (.u .ld1 (.b (.idx 1) (.var 0) (.b (.bin .sub) (.var 5) (.lit (.int .i64 1))))))
         (.eff false none (.st 1 (.b (.idx 1) (.var 0) (.b (.bin .sub) (.var 5) (.lit (.int .i64 1)))) (.var 7))
         .nxt)))))
       (.set 5 (.b (.bin .sub) (.var 5) (.lit (.int .i64 1)))
       .nxt)))))))))
   (.set 4 (.b (.bin .add) (.var 4) (.lit (.int .i64 1)))
   .nxt))))))
def f_slices_insertionSortCmpFunc : Fun := ⟨s_slices_insertionSortCmpFunc, []⟩
abbrev v_slices_insertionSortCmpFunc : List Nat := [0, 1, 2, 3, 8, 9, 32, 50]
theorem c_slices_insertionSortCmpFunc : compF P Go.Proofs.Try.f43 v_slices_insertionSortCmpFunc = some f_slices_insertionSortCmpFunc := by kernel_rfl
theorem of_slices_insertionSortCmpFunc {args : List Value} (hn : args.length ≤ 53) {h : Heap} {R : Value → Heap → Prop} (hs : s_slices_insertionSortCmpFunc.wp P (f_slices_insertionSortCmpFunc.post R) (env0 v_slices_insertionSortCmpFunc args) h) : Runs P n_slices_insertionSortCmpFunc args h R := fn_of P_mixed Go.Proofs.Try.func43 c_slices_insertionSortCmpFunc (by rw [Go.Proofs.Try.ntmps43]; exact hn) hs
theorem vr_slices_insertionSortCmpFunc {kp : Bool} {args : List A} {H : List Blk} {R : A → List Blk → Prop} (hlen : args.length ≤ 53) (hk : kp = false ∨ H = []) (hw : (∀ B ∈ H, A.bdL H.length B.cells = true) → A.bdL H.length args = true → s_slices_insertionSortCmpFunc.aw P H.length (postA H.length f_slices_insertionSortCmpFunc R) (envA v_slices_insertionSortCmpFunc args) H) : VR P kp n_slices_insertionSortCmpFunc args H R := VR.of (F := f_slices_insertionSortCmpFunc) (V := v_slices_insertionSortCmpFunc) of_slices_insertionSortCmpFunc hlen hk fun h1 h2 => aw_sound (hw h1 h2)
theorem r_slices_insertionSortCmpFunc : Fun.res f_slices_insertionSortCmpFunc = [] := rfl
abbrev g_slices_insertionSortCmpFunc_0 : List Nat := [4, 5, 6, 7]
abbrev g_slices_insertionSortCmpFunc_1 : List Nat := [5, 6, 7]

/-- slices.symMergeCmpFunc[int] -/
abbrev n_slices_symMergeCmpFunc : Nat := 44
def s_slices_symMergeCmpFunc : S :=
 (.seq
  (.ite (.b (.bin .eql) (.b (.bin .sub) (.var 2) (.var 1)) (.lit (.int .i64 1)))
   (.set 5 (.var 2)
   (.set 6 (.var 3)
   (.seq
    (.blk 0
     (.loop
      (.seq
       (.ite (.b (.bin .lss) (.var 5) (.var 6))
        .nxt
        (.exit 0))
      (.blk 1
       (.set 7 (.u (.conv .i64) (.b (.bin .shr) (.u (.conv .u64) (.b (.bin .add) (.var 5) (.var 6))) (.lit (.int .u64 1))))
       (.callv false (some 20) (.var 4) (.cn (.u .ld1 (.b (.idx 1) (.var 0) (.var 7))) (.cn (.u .ld1 (.b (.idx 1) (.var 0) (.var 1))) .nl))
       (.ite (.b (.bin .lss) (.var 20) (.lit (.int .i64 0)))
        (.set 5 (.b (.bin .add) (.var 7) (.lit (.int .i64 1)))
        .nxt)
        (.set 6 (.var 7)
        .nxt))))))))
   (.set 8 (.var 1)
   (.seq
    (.blk 2
     (.loop
      (.seq
       (.ite (.b (.bin .lss) (.var 8) (.b (.bin .sub) (.var 5) (.lit (.int .i64 1))))
        .nxt
        (.exit 2))
      (.seq
       (.blk 3
        (.chk (.u .ld1 (.b (.idx 1) (.var 0) (.b (.bin .add) (.var 8) (.lit (.int .i64 1)))))
        (.set 21 (.u .ld1 (.b (.idx 1) (.var 0) (.var 8)))
        (.eff false none (.st 1 (.b (.idx 1) (.var 0) (.var 8)) (.u .ld1 (.b (.idx 1) (.var 0) (.b (.bin .add) (.var 8) (.lit (.int .i64 1))))))
        (.eff false none (.st 1 (.b (.idx 1) (.var 0) (.b (.bin .add) (.var 8) (.lit (.int .i64 1)))) (.var 21))
        .nxt)))))
      (.set 8 (.b (.bin .add) (.var 8) (.lit (.int .i64 1)))
      .nxt)))))
   .ret)))))
   .nxt)
 (.seq
  (.ite (.b (.bin .eql) (.b (.bin .sub) (.var 3) (.var 2)) (.lit (.int .i64 1)))
   (.set 9 (.var 1)
   (.set 10 (.var 2)
   (.seq
    (.blk 4
     (.loop
      (.seq
       (.ite (.b (.bin .lss) (.var 9) (.var 10))
        .nxt
        (.exit 4))
      (.blk 5
       (.set 11 (.u (.conv .i64) (.b (.bin .shr) (.u (.conv .u64) (.b (.bin .add) (.var 9) (.var 10))) (.lit (.int .u64 1))))
       (.callv false (some 22) (.var 4) (.cn (.u .ld1 (.b (.idx 1) (.var 0) (.var 2))) (.cn (.u .ld1 (.b (.idx 1) (.var 0) (.var 11))) .nl))
       (.ite (.u (.un .not) (.b (.bin .lss) (.var 22) (.lit (.int .i64 0))))
        (.set 9 (.b (.bin .add) (.var 11) (.lit (.int .i64 1)))
        .nxt)
        (.set 10 (.var 11)
        .nxt))))))))
   (.set 12 (.var 2)
   (.seq
    (.blk 6
     (.loop
      (.seq
       (.ite (.b (.bin .gtr) (.var 12) (.var 9))
        .nxt
        (.exit 6))
      (.seq
       (.blk 7
        (.chk (.u .ld1 (.b (.idx 1) (.var 0) (.b (.bin .sub) (.var 12) (.lit (.int .i64 1)))))
        (.set 23 (.u .ld1 (.b (.idx 1) (.var 0) (.var 12)))
        (.eff false none (.st 1 (.b (.idx 1) (.var 0) (.var 12)) (.u .ld1 (.b (.idx 1) (.var 0) (.b (.bin .sub) (.var 12) (.lit (.int .i64 1))))))
        (.eff false none (.st 1 (.b (.idx 1) (.var 0) (.b (.bin .sub) (.var 12) (.lit (.int .i64 1)))) (.var 23))
        .nxt)))))
      (.set 12 (.b (.bin .sub) (.var 12) (.lit (.int .i64 1)))
      .nxt)))))
   .ret)))))
   .nxt)
 (.set 13 (.u (.conv .i64) (.b (.bin .shr) (.u (.conv .u64) (.b (.bin .add) (.var 1) (.var 3))) (.lit (.int .u64 1))))
 (.set 14 (.b (.bin .add) (.var 13) (.var 2))
 (.set 15 (.lit (.int .i64 0))
 (.set 16 (.lit (.int .i64 0))
 (.seq
  (.ite (.b (.bin .gtr) (.var 2) (.var 13))
   (.set 15 (.b (.bin .sub) (.var 14) (.var 3))
   (.set 16 (.var 13)
   .nxt))
   (.set 15 (.var 1)
   (.set 16 (.var 2)
   .nxt)))
 (.set 17 (.b (.bin .sub) (.var 14) (.lit (.int .i64 1)))
 (.seq
  (.blk 8
   (.loop
    (.seq
     (.ite (.b (.bin .lss) (.var 15) (.var 16))
      .nxt
      (.exit 8))
    (.blk 9
     (.set 18 (.u (.conv .i64) (.b (.bin .shr) (.u (.conv .u64) (.b (.bin .add) (.var 15) (.var 16))) (.lit (.int .u64 1))))
     (.callv false (some 24) (.var 4) (.cn (.u .ld1 (.b (.idx 1) (.var 0) (.b (.bin .sub) (.var 17) (.var 18)))) (.cn (.u .ld1 (.b (.idx 1) (.var 0) (.var 18))) .nl))
     (.ite (.u (.un .not) (.b (.bin .lss) (.var 24) (.lit (.int .i64 0))))
      (.set 15 (.b (.bin .add) (.var 18) (.lit (.int .i64 1)))
      .nxt)
      (.set 16 (.var 18)
      .nxt))))))))
 (.set 19 (.b (.bin .sub) (.var 14) (.var 15))
 (.seq
  (.ite (.ite (.b (.bin .lss) (.var 15) (.var 2)) (.b (.bin .lss) (.var 2) (.var 19)) (.lit (.bool false)))
   (.call false none 45 (.cn (.var 0) (.cn (.var 15) (.cn (.var 2) (.cn (.var 19) (.cn (.var 4) .nl)))))
   .nxt)
   .nxt)
 (.seq
  (.ite (.ite (.b (.bin .lss) (.var 1) (.var 15)) (.b (.bin .lss) (.var 15) (.var 13)) (.lit (.bool false)))
   (.call false none 44 (.cn (.var 0) (.cn (.var 1) (.cn (.var 15) (.cn (.var 13) (.cn (.var 4) .nl)))))
   .nxt)
   .nxt)
 (.ite (.ite (.b (.bin .lss) (.var 13) (.var 19)) (.b (.bin .lss) (.var 19) (.var 3)) (.lit (.bool false)))
  (.call false none 44 (.cn (.var 0) (.cn (.var 13) (.cn (.var 19) (.cn (.var 3) (.cn (.var 4) .nl)))))
  .nxt)
  .nxt)))))))))))))
def f_slices_symMergeCmpFunc : Fun := ⟨s_slices_symMergeCmpFunc, []⟩
abbrev v_slices_symMergeCmpFunc : List Nat := [0, 1, 2, 3, 4, 10, 11, 12, 13, 14, 15, 16, 17, 18, 19, 20, 21, 22, 23, 24, 49, 74, 101, 126, 169]
theorem c_slices_symMergeCmpFunc : compF P Go.Proofs.Try.f44 v_slices_symMergeCmpFunc = some f_slices_symMergeCmpFunc := by kernel_rfl
theorem of_slices_symMergeCmpFunc {args : List Value} (hn : args.length ≤ 220) {h : Heap} {R : Value → Heap → Prop} (hs : s_slices_symMergeCmpFunc.wp P (f_slices_symMergeCmpFunc.post R) (env0 v_slices_symMergeCmpFunc args) h) : Runs P n_slices_symMergeCmpFunc args h R := fn_of P_mixed Go.Proofs.Try.func44 c_slices_symMergeCmpFunc (by rw [Go.Proofs.Try.ntmps44]; exact hn) hs
theorem vr_slices_symMergeCmpFunc {kp : Bool} {args : List A} {H : List Blk} {R : A → List Blk → Prop} (hlen : args.length ≤ 220) (hk : kp = false ∨ H = []) (hw : (∀ B ∈ H, A.bdL H.length B.cells = true) → A.bdL H.length args = true → s_slices_symMergeCmpFunc.aw P H.length (postA H.length f_slices_symMergeCmpFunc R) (envA v_slices_symMergeCmpFunc args) H) : VR P kp n_slices_symMergeCmpFunc args H R := VR.of (F := f_slices_symMergeCmpFunc) (V := v_slices_symMergeCmpFunc) of_slices_symMergeCmpFunc hlen hk fun h1 h2 => aw_sound (hw h1 h2)
theorem r_slices_symMergeCmpFunc : Fun.res f_slices_symMergeCmpFunc = [] := rfl
abbrev g_slices_symMergeCmpFunc_0 : List Nat := [5, 6, 7, 20]
abbrev g_slices_symMergeCmpFunc_1 : List Nat := [8, 21]
abbrev g_slices_symMergeCmpFunc_2 : List Nat := [9, 10, 11, 22]
abbrev g_slices_symMergeCmpFunc_3 : List Nat := [12, 23]
abbrev g_slices_symMergeCmpFunc_4 : List Nat := [15, 16, 18, 24]

/-- slices.rotateCmpFunc[int] -/
abbrev n_slices_rotateCmpFunc : Nat := 45
def s_slices_rotateCmpFunc : S :=
 (.set 5 (.b (.bin .sub) (.var 2) (.var 1))
 (.set 6 (.b (.bin .sub) (.var 3) (.var 2))
 (.seq
  (.blk 0
   (.loop
    (.seq
     (.ite (.b (.bin .neq) (.var 5) (.var 6))
      .nxt
      (.exit 0))
    (.blk 1
     (.ite (.b (.bin .gtr) (.var 5) (.var 6))
      (.call false none 46 (.cn (.var 0) (.cn (.b (.bin .sub) (.var 2) (.var 5)) (.cn (.var 2) (.cn (.var 6) (.cn (.var 4) .nl)))))
      (.set 5 (.b (.bin .sub) (.var 5) (.var 6))
      .nxt))
      (.call false none 46 (.cn (.var 0) (.cn (.b (.bin .sub) (.var 2) (.var 5)) (.cn (.b (.bin .sub) (.b (.bin .add) (.var 2) (.var 6)) (.var 5)) (.cn (.var 5) (.cn (.var 4) .nl)))))
      (.set 6 (.b (.bin .sub) (.var 6) (.var 5))
      .nxt)))))))
 (.call false none 46 (.cn (.var 0) (.cn (.b (.bin .sub) (.var 2) (.var 5)) (.cn (.var 2) (.cn (.var 5) (.cn (.var 4) .nl)))))
 .nxt))))
def f_slices_rotateCmpFunc : Fun := ⟨s_slices_rotateCmpFunc, []⟩
abbrev v_slices_rotateCmpFunc : List Nat := [0, 1, 2, 3, 4, 10, 11]
theorem c_slices_rotateCmpFunc : compF P Go.Proofs.Try.f45 v_slices_rotateCmpFunc = some f_slices_rotateCmpFunc := by kernel_rfl
theorem of_slices_rotateCmpFunc {args : List Value} (hn : args.length ≤ 58) {h : Heap} {R : Value → Heap → Prop} (hs : s_slices_rotateCmpFunc.wp P (f_slices_rotateCmpFunc.post R) (env0 v_slices_rotateCmpFunc args) h) : Runs P n_slices_rotateCmpFunc args h R := fn_of P_mixed Go.Proofs.Try.func45 c_slices_rotateCmpFunc (by rw [Go.Proofs.Try.ntmps45]; exact hn) hs
theorem vr_slices_rotateCmpFunc {kp : Bool} {args : List A} {H : List Blk} {R : A → List Blk → Prop} (hlen : args.length ≤ 58) (hk : kp = false ∨ H = []) (hw : (∀ B ∈ H, A.bdL H.length B.cells = true) → A.bdL H.length args = true → s_slices_rotateCmpFunc.aw P H.length (postA H.length f_slices_rotateCmpFunc R) (envA v_slices_rotateCmpFunc args) H) : VR P kp n_slices_rotateCmpFunc args H R := VR.of (F := f_slices_rotateCmpFunc) (V := v_slices_rotateCmpFunc) of_slices_rotateCmpFunc hlen hk fun h1 h2 => aw_sound (hw h1 h2)
theorem r_slices_rotateCmpFunc : Fun.res f_slices_rotateCmpFunc = [] := rfl
abbrev g_slices_rotateCmpFunc_0 : List Nat := [5, 6]

/-- slices.swapRangeCmpFunc[int] -/
abbrev n_slices_swapRangeCmpFunc : Nat := 46
def s_slices_swapRangeCmpFunc : S :=
 (.set 5 (.lit (.int .i64 0))
 (.blk 0
  (.loop
   (.seq
    (.ite (.b (.bin .lss) (.var 5) (.var 3))
     .nxt
     (.exit 0))
   (.seq
    (.blk 1
     (.chk (.b (.bin .add) (.var 1) (.var 5))
     (.chk (.u .ld1 (.b (.idx 1) (.var 0) (.b (.bin .add) (.var 2) (.var 5))))
     (.set 6 (.u .ld1 (.b (.idx 1) (.var 0) (.b (.bin .add) (.var 1) (.var 5))))
     (.eff false none (.st 1 (.b (.idx 1) (.var 0) (.b (.bin .add) (.var 1) (.var 5))) (.u .ld1 (.b (.idx 1) (.var 0) (.b (.bin .add) (.var 2) (.var 5)))))
     (.eff false none (.st 1 (.b (.idx 1) (.var 0) (.b (.bin .add) (.var 2) (.var 5))) (.var 6))
     .nxt))))))
   (.set 5 (.b (.bin .add) (.var 5) (.lit (.int .i64 1)))
   .nxt))))))
def f_slices_swapRangeCmpFunc : Fun := ⟨s_slices_swapRangeCmpFunc, []⟩
abbrev v_slices_swapRangeCmpFunc : List Nat := [0, 1, 2, 3, 4, 10, 35]
theorem c_slices_swapRangeCmpFunc : compF P Go.Proofs.Try.f46 v_slices_swapRangeCmpFunc = some f_slices_swapRangeCmpFunc := by kernel_rfl
theorem of_slices_swapRangeCmpFunc {args : List Value} (hn : args.length ≤ 38) {h : Heap} {R : Value → Heap → Prop} (hs : s_slices_swapRangeCmpFunc.wp P (f_slices_swapRangeCmpFunc.post R) (env0 v_slices_swapRangeCmpFunc args) h) : Runs P n_slices_swapRangeCmpFunc args h R := fn_of P_mixed Go.Proofs.Try.func46 c_slices_swapRangeCmpFunc (by rw [Go.Proofs.Try.ntmps46]; exact hn) hs
theorem vr_slices_swapRangeCmpFunc {kp : Bool} {args : List A} {H : List Blk} {R : A → List Blk → Prop} (hlen : args.length ≤ 38) (hk : kp = false ∨ H = []) (hw : (∀ B ∈ H, A.bdL H.length B.cells = true) → A.bdL H.length args = true → s_slices_swapRangeCmpFunc.aw P H.length (postA H.length f_slices_swapRangeCmpFunc R) (envA v_slices_swapRangeCmpFunc args) H) : VR P kp n_slices_swapRangeCmpFunc args H R := VR.of (F := f_slices_swapRangeCmpFunc) (V := v_slices_swapRangeCmpFunc) of_slices_swapRangeCmpFunc hlen hk fun h1 h2 => aw_sound (hw h1 h2)
theorem r_slices_swapRangeCmpFunc : Fun.res f_slices_swapRangeCmpFunc = [] := rfl
abbrev g_slices_swapRangeCmpFunc_0 : List Nat := [5, 6]

end Go.Proofs.Ytggnafgbjnemoaa
