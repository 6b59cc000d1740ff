/- Texts of this repository put together: Bf, ShS1, ShQ3, ShQ4, ShQ5, ShQ6, ShQ7, ShQ8, ShS2, ShS3, ShS4, ShC3, ShC5, ShT1, ShQ9, Bg. -/
import Derived.Test.YtegcjkhebecgbaaProg
import Derived.Test.YtegcjkhebecgbaaKPumpa
import Derived.Test.YtegcjkhebecgbaaKPumpb

set_option linter.unusedVariables false
set_option maxRecDepth 100000
namespace Go.Proofs.Ytegcjkhebecgbaa
open Go Go.Sh

def pl120 : Plans := fun i => match i with
  | 1 => ⟨true, [31], .step 0 .held (.step 1 .any (.step 2 .one (.step 3 .any (.step 4 .any (.step 5 .any (.step 6 .any (.step 7 .any (.step 8 .one (.step 9 .any (.step 10 .any (.step 11 .any (.step 12 .any (.step 13 .any (.step 14 .held (.step 15 .any (.step 16 .any (.step 17 .held (.step 18 .any (.step 19 .any (.step 20 .any (.step 21 .any (.step 22 .held (.step 23 .any (.step 24 .any (.step 25 .held (.step 26 .any (.step 27 .any (.step 28 .any (.step 29 .any (.step 30 .any (.step 31 .last (.step 32 .any (.step 33 .any (.nil))))))))))))))))))))))))))))))))))⟩
  | _ => ⟨false, [], .nil⟩
def S120 (v0 v1 v2 v3 : Value) (k : Value → World → Prop) (w : World) : Prop :=
 Do Try.prog (sBox 26 v0) (fun t1 w2 =>
 ∃ U3 : World → Prop, ∃ h4 : U3 w2.drew,
 Rd Try.prog ⟨U3, w2.drew, h4⟩ (zc_ 26 t1) fun t5 =>
 CallK Try.prog 128 [t5, v1] (fun t6 w7 =>
 U3 w7 ∧ Rd Try.prog WS.any (sUn .not t6) fun t8 =>
 za_ t8 false (fun k w' => k v2 w') (fun t9 w10 =>
 za_ t8 false (fun k w' => k v1 w') (fun t11 w12 =>
 za_ t8 false (fun k w' => Rd Try.prog WS.any (ze_ .len #[27] 3 [false] [t11]) fun v => k v w') (fun t13 w14 =>
 za_ t8 false (fun k w' => CallK Try.prog 231 [t9, t13] k w') (fun t15 w16 =>
 U3 w16 ∧ za_ t8 false (fun k w' => Rd Try.prog WS.any (sUn .not t15) fun v => k v w') (fun t17 w18 =>
 Rd Try.prog WS.any (zw_ t8 (.bool true) t17) fun t19 =>
 za_ t19 false (fun k w' => k v2 w') (fun t20 w21 =>
 za_ t19 false (fun k w' => Rd Try.prog WS.any (zd_ 27 t20 (.int .i64 0)) fun v => k v w') (fun t22 w23 =>
 za_ t19 false (fun k w' => Rd Try.prog ⟨U3, w2.drew, h4⟩ (zc_ 3 t22) fun v => k v w') (fun t24 w25 =>
 za_ t19 false (fun k w' => k v2 w') (fun t26 w27 =>
 za_ t19 false (fun k w' => Rd Try.prog WS.any (zd_ 27 t26 (.int .i64 1)) fun v => k v w') (fun t28 w29 =>
 za_ t19 false (fun k w' => Rd Try.prog ⟨U3, w2.drew, h4⟩ (zc_ 3 t28) fun v => k v w') (fun t30 w31 =>
 za_ t19 false (fun k w' => Rd Try.prog WS.any (sBin .eql 3 false t24 t30) fun v => k v w') (fun t32 w33 =>
 za_ t19 false (fun k w' => k t32 w') (fun t34 w35 =>
 za_ t34 true (fun k w' => k v2 w') (fun t36 w37 =>
 za_ t34 true (fun k w' => Rd Try.prog WS.any (zd_ 27 t36 (.int .i64 2)) fun v => k v w') (fun t38 w39 =>
 za_ t34 true (fun k w' => Rd Try.prog ⟨U3, w2.drew, h4⟩ (zc_ 3 t38) fun v => k v w') (fun t40 w41 =>
 za_ t34 true (fun k w' => k v2 w') (fun t42 w43 =>
 za_ t34 true (fun k w' => Rd Try.prog WS.any (zd_ 27 t42 (.int .i64 3)) fun v => k v w') (fun t44 w45 =>
 za_ t34 true (fun k w' => Rd Try.prog ⟨U3, w2.drew, h4⟩ (zc_ 3 t44) fun v => k v w') (fun t46 w47 =>
 za_ t34 true (fun k w' => Rd Try.prog WS.any (sBin .eql 3 false t40 t46) fun v => k v w') (fun t48 w49 =>
 za_ t19 false (fun k w' => Rd Try.prog WS.any (zw_ t34 t48 (.bool false)) fun v => k v w') (fun t50 w51 =>
 Rd Try.prog WS.any (zw_ t19 (.bool true) t50) fun t52 =>
 za_ t52 false (fun k w' => k v3 w') (fun t53 w54 =>
 za_ t52 false (fun k w' => CallK Try.prog 152 [t53, (.int .i64 0), (.int .i64 4)] k w') (fun t55 w56 =>
 za_ t52 false (fun k w' => Rd Try.prog WS.any (sUn .not t55) fun v => k v w') (fun t57 w58 =>
 Rd Try.prog WS.any (zw_ t52 (.bool true) t57) fun t59 =>
 zi_ t59
  (k (.tuple #[(.bool false), (.bool false)]) w58)
  (zfb_ [48, 49, 50, 54, 55, 56, 57, 53, 58, 59, 12, 13, 60, 61, 62, 63, 64, 65, 66, 8, 9, 67, 68, 69, 70, 71, 72, 10, 51, 52, 11] (fun Q60 f61 w62 =>
   Rd Try.prog (WS.at w62) (sBin .leq 3 false (f61 11) (f61 3)) fun t63 =>
   zi_ t63
    (CallK Try.prog 117 [(f61 1), (f61 2), (f61 11)] (fun t64 w65 =>
    Rd Try.prog (WS.at w65) (zk_ t64 0) fun t66 =>
    Rd Try.prog (WS.at w65) (zk_ t64 1) fun t67 =>
    Rd Try.prog (WS.at w65) (sUn .not t67) fun t68 =>
    za_ t68 false (fun k w' => k t66 w') (fun t69 w70 =>
    za_ t68 false (fun k w' => Rd Try.prog (WS.at w70) (ze_ .len #[27] 3 [false] [t69]) fun v => k v w') (fun t71 w72 =>
    za_ t68 false (fun k w' => Rd Try.prog (WS.at w72) (sBin .gtr 3 true t71 (.int .i64 10)) fun v => k v w') (fun t73 w74 =>
    Rd Try.prog (WS.at w74) (zw_ t68 (.bool true) t73) fun t75 =>
    zi_ t75
     (Q60 .ret (F.upd (F.upd (F.upd (F.upd (F.upd (F.upd (F.upd (F.upd (F.upd (F.upd (F.upd (F.upd (F.upd (F.upd (F.upd (F.upd (F.upd (F.upd (F.upd (F.upd (F.upd f61 48 (f61 11)) 49 (f61 3)) 50 t63) 54 (f61 1)) 55 (f61 2)) 56 (f61 11)) 57 t64) 53 t64) 58 t66) 59 t67) 12 t66) 13 t67) 60 t67) 61 t68) 62 t68) 63 t69) 64 t71) 65 t73) 66 t75) 8 (.bool false)) 9 (.bool false)) w74)
     (za_ (f61 10) true (fun k w' => Rd Try.prog (WS.at w74) (zc_ 26 (f61 4)) fun v => k v w') (fun t76 w77 =>
     za_ (f61 10) true (fun k w' => k t66 w') (fun t78 w79 =>
     za_ (f61 10) true (fun k w' => CallK Try.prog 153 [t76, (.int .i64 0), t78] k w') (fun t80 w81 =>
     Rd Try.prog (WS.at w81) (zw_ (f61 10) t80 (.bool false)) fun t82 =>
     Rd Try.prog (WS.at w81) (sBin .add 3 true (f61 11) (.int .i64 1)) fun t83 =>
     Q60 .normal (F.upd (F.upd (F.upd (F.upd (F.upd (F.upd (F.upd (F.upd (F.upd (F.upd (F.upd (F.upd (F.upd (F.upd (F.upd (F.upd (F.upd (F.upd (F.upd (F.upd (F.upd (F.upd (F.upd (F.upd (F.upd (F.upd (F.upd (F.upd (F.upd f61 48 (f61 11)) 49 (f61 3)) 50 t63) 54 (f61 1)) 55 (f61 2)) 56 (f61 11)) 57 t64) 53 t64) 58 t66) 59 t67) 12 t66) 13 t67) 60 t67) 61 t68) 62 t68) 63 t69) 64 t71) 65 t73) 66 t75) 67 (f61 10)) 68 (f61 10)) 69 t76) 70 t78) 71 t80) 72 t82) 10 t82) 51 (f61 11)) 52 t83) 11 t83) w81) w79) w77) w74)) w72) w70) w65) w62)
    (Q60 (.exit 0) (F.upd (F.upd (F.upd f61 48 (f61 11)) 49 (f61 3)) 50 t63) w62))
   (zt_ 0 (seqQ (fun f84 w85 =>
  k (.tuple #[(f84 10), (.bool true)]) w85) (zr_ Try.prog [.tmp 8, .tmp 9] k)))
   (F.upd (F.upd (F.upd (F.upd (F.upd (F.upd (F.upd (F.upd (F.upd (F.upd (F.upd (F.upd (F.upd (F.upd (F.upd (F.upd (F.upd (F.upd (F.upd (F.upd (F.upd (F.upd (F.upd (F.upd (F.upd (F.upd (F.upd (F.upd (F.upd (F.upd (F.upd (F.upd (F.upd (F.upd (F.upd (F.upd (F.upd (F.upd (F.upd (zm_ [v0, v1, v2, v3]) 4 t1) 8 (.bool false)) 9 (.bool false)) 14 t5) 15 v1) 16 t6) 17 t8) 18 t8) 19 t9) 20 t11) 21 t13) 22 t15) 23 t17) 24 t19) 25 t19) 26 t20) 27 t22) 28 t24) 29 t26) 30 t28) 31 t30) 32 t32) 33 t34) 34 t36) 35 t38) 36 t40) 37 t42) 38 t44) 39 t46) 40 t48) 41 t50) 42 t52) 43 t52) 44 t53) 45 t55) 46 t57) 47 t59) 10 (.bool true)) 11 (.int .i64 0)) w58)) w56) w54) w51) w49) w47) w45) w43) w41) w39) w37) w35) w33) w31) w29) w27) w25) w23) w21) w18) w16) w14) w12) w10) w7) w2.drew) w
theorem body120 : Try.f120.body = some (zg_ Try.f120) := by kernel_rfl
theorem same120 (v0 v1 v2 v3 : Value) (k : Value → World → Prop) (w : World) : wpF Try.prog pl120 (zg_ Try.f120) (zr_ Try.prog Try.f120.results.toList k) (zm_ [v0, v1, v2, v3]) w = S120 v0 v1 v2 v3 k w := by kernel_rfl
theorem enter120 {v0 v1 v2 v3 : Value} {k : Value → World → Prop} {w : World} (h : S120 v0 v1 v2 v3 k w) : CallK Try.prog 120 [v0, v1, v2, v3] k w :=
  call_of_wpF (pl := pl120) zab_ Try.func120 body120 (by kernel_rfl) (of_decide_eq_true (by kernel_rfl)) (by kernel_rfl) (by kernel_rfl) (Eq.mpr (same120 v0 v1 v2 v3 k w) h)

def pl119 : Plans := fun i => match i with
  | 1 => ⟨true, [35], .step 0 .held (.step 1 .one (.step 2 .any (.step 3 .any (.step 4 .any (.step 5 .held (.step 6 .any (.step 7 .one (.step 8 .any (.step 9 .any (.step 10 .any (.step 11 .any (.step 12 .any (.step 13 .any (.step 14 .any (.step 15 .any (.step 16 .any (.step 17 .any (.step 18 .held (.step 19 .any (.step 20 .any (.step 21 .held (.step 22 .any (.step 23 .any (.step 24 .any (.step 25 .any (.step 26 .held (.step 27 .any (.step 28 .any (.step 29 .held (.step 30 .any (.step 31 .any (.step 32 .any (.step 33 .any (.step 34 .any (.step 35 .last (.step 36 .any (.step 37 .any (.nil))))))))))))))))))))))))))))))))))))))⟩
  | _ => ⟨false, [], .nil⟩
def S119 (v0 v1 v2 v3 : Value) (k : Value → World → Prop) (w : World) : Prop :=
 Do Try.prog (sBox 26 v0) (fun t1 w2 =>
 ∃ U3 : World → Prop, ∃ h4 : U3 w2.drew,
 Rd Try.prog ⟨U3, w2.drew, h4⟩ (zc_ 26 t1) fun t5 =>
 CallK Try.prog 148 [t5] (fun t6 w7 =>
 U3 w7 ∧ Rd Try.prog WS.any (sUn .not t6) fun t8 =>
 za_ t8 false (fun k w' => Rd Try.prog WS.any (zb_ 26 t1 1) fun v => k v w') (fun t9 w10 =>
 za_ t8 false (fun k w' => Rd Try.prog ⟨U3, w2.drew, h4⟩ (zc_ 3 t9) fun v => k v w') (fun t11 w12 =>
 za_ t8 false (fun k w' => k v1 w') (fun t13 w14 =>
 za_ t8 false (fun k w' => CallK Try.prog 150 [t11, t13] k w') (fun t15 w16 =>
 U3 w16 ∧ za_ t8 false (fun k w' => Rd Try.prog WS.any (sUn .not t15) fun v => k v w') (fun t17 w18 =>
 Rd Try.prog WS.any (zw_ t8 (.bool true) t17) fun t19 =>
 za_ t19 false (fun k w' => k v2 w') (fun t20 w21 =>
 za_ t19 false (fun k w' => Rd Try.prog WS.any (ze_ .len #[27] 3 [false] [t20]) fun v => k v w') (fun t22 w23 =>
 za_ t19 false (fun k w' => Rd Try.prog WS.any (sBin .neq 3 true t22 (.int .i64 4)) fun v => k v w') (fun t24 w25 =>
 Rd Try.prog WS.any (zw_ t19 (.bool true) t24) fun t26 =>
 za_ t26 false (fun k w' => k v2 w') (fun t27 w28 =>
 za_ t26 false (fun k w' => Rd Try.prog WS.any (zd_ 27 t27 (.int .i64 0)) fun v => k v w') (fun t29 w30 =>
 za_ t26 false (fun k w' => Rd Try.prog ⟨U3, w2.drew, h4⟩ (zc_ 3 t29) fun v => k v w') (fun t31 w32 =>
 za_ t26 false (fun k w' => k v2 w') (fun t33 w34 =>
 za_ t26 false (fun k w' => Rd Try.prog WS.any (zd_ 27 t33 (.int .i64 1)) fun v => k v w') (fun t35 w36 =>
 za_ t26 false (fun k w' => Rd Try.prog ⟨U3, w2.drew, h4⟩ (zc_ 3 t35) fun v => k v w') (fun t37 w38 =>
 za_ t26 false (fun k w' => Rd Try.prog WS.any (sBin .geq 3 false t31 t37) fun v => k v w') (fun t39 w40 =>
 za_ t26 false (fun k w' => k t39 w') (fun t41 w42 =>
 za_ t41 true (fun k w' => k v2 w') (fun t43 w44 =>
 za_ t41 true (fun k w' => Rd Try.prog WS.any (zd_ 27 t43 (.int .i64 2)) fun v => k v w') (fun t45 w46 =>
 za_ t41 true (fun k w' => Rd Try.prog ⟨U3, w2.drew, h4⟩ (zc_ 3 t45) fun v => k v w') (fun t47 w48 =>
 za_ t41 true (fun k w' => k v2 w') (fun t49 w50 =>
 za_ t41 true (fun k w' => Rd Try.prog WS.any (zd_ 27 t49 (.int .i64 3)) fun v => k v w') (fun t51 w52 =>
 za_ t41 true (fun k w' => Rd Try.prog ⟨U3, w2.drew, h4⟩ (zc_ 3 t51) fun v => k v w') (fun t53 w54 =>
 za_ t41 true (fun k w' => Rd Try.prog WS.any (sBin .geq 3 false t47 t53) fun v => k v w') (fun t55 w56 =>
 za_ t26 false (fun k w' => Rd Try.prog WS.any (zw_ t41 t55 (.bool false)) fun v => k v w') (fun t57 w58 =>
 Rd Try.prog WS.any (zw_ t26 (.bool true) t57) fun t59 =>
 za_ t59 false (fun k w' => k v3 w') (fun t60 w61 =>
 za_ t59 false (fun k w' => CallK Try.prog 149 [t60, (.int .i64 0), (.int .i64 4)] k w') (fun t62 w63 =>
 za_ t59 false (fun k w' => Rd Try.prog WS.any (sUn .not t62) fun v => k v w') (fun t64 w65 =>
 Rd Try.prog WS.any (zw_ t59 (.bool true) t64) fun t66 =>
 zi_ t66
  (k (.tuple #[(.bool false), (.bool false)]) w65)
  (Rd Try.prog (WS.at w65) (sBin .add 3 true v3 (.int .i64 1)) fun t67 =>
  zfb_ [55, 56, 11, 58, 59, 60, 61, 57, 62, 63, 12, 13, 64, 65, 66, 67, 68, 69, 70, 8, 9, 71, 72, 73, 74, 75, 76, 77, 78, 79, 80, 81, 82, 83, 84, 10, 85, 54] (fun Q68 f69 w70 =>
   Rd Try.prog (WS.at w70) (sBin .lss 3 false (f69 54) (f69 53)) fun t71 =>
   zi_ t71
    (CallK Try.prog 228 [(f69 1), (f69 2), (f69 54)] (fun t72 w73 =>
    Rd Try.prog (WS.at w73) (zk_ t72 0) fun t74 =>
    Rd Try.prog (WS.at w73) (zk_ t72 1) fun t75 =>
    Rd Try.prog (WS.at w73) (sUn .not t75) fun t76 =>
    za_ t76 false (fun k w' => k t74 w') (fun t77 w78 =>
    za_ t76 false (fun k w' => Rd Try.prog (WS.at w78) (ze_ .len #[27] 3 [false] [t77]) fun v => k v w') (fun t79 w80 =>
    za_ t76 false (fun k w' => Rd Try.prog (WS.at w80) (sBin .gtr 3 true t79 (.int .i64 10)) fun v => k v w') (fun t81 w82 =>
    Rd Try.prog (WS.at w82) (zw_ t76 (.bool true) t81) fun t83 =>
    zi_ t83
     (Q68 .ret (F.upd (F.upd (F.upd (F.upd (F.upd (F.upd (F.upd (F.upd (F.upd (F.upd (F.upd (F.upd (F.upd (F.upd (F.upd (F.upd (F.upd (F.upd (F.upd (F.upd (F.upd f69 55 t71) 56 (f69 54)) 11 (f69 54)) 58 (f69 1)) 59 (f69 2)) 60 (f69 54)) 61 t72) 57 t72) 62 t74) 63 t75) 12 t74) 13 t75) 64 t75) 65 t76) 66 t76) 67 t77) 68 t79) 69 t81) 70 t83) 8 (.bool false)) 9 (.bool false)) w82)
     (za_ (f69 10) true (fun k w' => Rd Try.prog (WS.at w82) (zc_ 26 (f69 4)) fun v => k v w') (fun t84 w85 =>
     za_ (f69 10) true (fun k w' => k t74 w') (fun t86 w87 =>
     za_ (f69 10) true (fun k w' => CallK Try.prog 151 [t84, t86] k w') (fun t88 w89 =>
     za_ (f69 10) true (fun k w' => k t74 w') (fun t90 w91 =>
     za_ (f69 10) true (fun k w' => Rd Try.prog (WS.at w91) (ze_ .len #[27] 3 [false] [t90]) fun v => k v w') (fun t92 w93 =>
     za_ (f69 10) true (fun k w' => Rd Try.prog (WS.at w93) (zu_ t88) fun v => k v w') (fun t94 w95 =>
     za_ (f69 10) true (fun k w' => Rd Try.prog (WS.at w95) (zb_ 124 t94 1) fun v => k v w') (fun t96 w97 =>
     za_ (f69 10) true (fun k w' => Rd Try.prog (WS.at w97) (zd_ 122 t96 (.int .i64 0)) fun v => k v w') (fun t98 w99 =>
     za_ (f69 10) true (fun k w' => Rd Try.prog (WS.at w99) (zd_ 121 t98 (.int .i64 0)) fun v => k v w') (fun t100 w101 =>
     za_ (f69 10) true (fun k w' => Rd Try.prog (WS.at w101) (zd_ 120 t100 t92) fun v => k v w') (fun t102 w103 =>
     za_ (f69 10) true (fun k w' => Rd Try.prog (WS.at w103) (zc_ 4 t102) fun v => k v w') (fun t104 w105 =>
     Rd Try.prog (WS.at w105) (zw_ (f69 10) t104 (.bool false)) fun t106 =>
     Rd Try.prog (WS.at w105) (sBin .add 3 true (f69 54) (.int .i64 1)) fun t107 =>
     Q68 .normal (F.upd (F.upd (F.upd (F.upd (F.upd (F.upd (F.upd (F.upd (F.upd (F.upd (F.upd (F.upd (F.upd (F.upd (F.upd (F.upd (F.upd (F.upd (F.upd (F.upd (F.upd (F.upd (F.upd (F.upd (F.upd (F.upd (F.upd (F.upd (F.upd (F.upd (F.upd (F.upd (F.upd (F.upd (F.upd (F.upd f69 55 t71) 56 (f69 54)) 11 (f69 54)) 58 (f69 1)) 59 (f69 2)) 60 (f69 54)) 61 t72) 57 t72) 62 t74) 63 t75) 12 t74) 13 t75) 64 t75) 65 t76) 66 t76) 67 t77) 68 t79) 69 t81) 70 t83) 71 (f69 10)) 72 (f69 10)) 73 t84) 74 t86) 75 t88) 76 t90) 77 t92) 78 t94) 79 t96) 80 t98) 81 t100) 82 t102) 83 t104) 84 t106) 10 t106) 85 t107) 54 t107) w105) w103) w101) w99) w97) w95) w93) w91) w89) w87) w85) w82)) w80) w78) w73) w70)
    (Q68 (.exit 0) (F.upd f69 55 t71) w70))
   (zt_ 0 (seqQ (fun f108 w109 =>
  k (.tuple #[(f108 10), (.bool true)]) w109) (zr_ Try.prog [.tmp 8, .tmp 9] k)))
   (F.upd (F.upd (F.upd (F.upd (F.upd (F.upd (F.upd (F.upd (F.upd (F.upd (F.upd (F.upd (F.upd (F.upd (F.upd (F.upd (F.upd (F.upd (F.upd (F.upd (F.upd (F.upd (F.upd (F.upd (F.upd (F.upd (F.upd (F.upd (F.upd (F.upd (F.upd (F.upd (F.upd (F.upd (F.upd (F.upd (F.upd (F.upd (F.upd (F.upd (F.upd (F.upd (F.upd (F.upd (F.upd (zm_ [v0, v1, v2, v3]) 4 t1) 8 (.bool false)) 9 (.bool false)) 14 t5) 15 t6) 16 t8) 17 t8) 18 t9) 19 t11) 20 t13) 21 t15) 22 t17) 23 t19) 24 t19) 25 t20) 26 t22) 27 t24) 28 t26) 29 t26) 30 t27) 31 t29) 32 t31) 33 t33) 34 t35) 35 t37) 36 t39) 37 t41) 38 t43) 39 t45) 40 t47) 41 t49) 42 t51) 43 t53) 44 t55) 45 t57) 46 t59) 47 t59) 48 t60) 49 t62) 50 t64) 51 t66) 10 (.bool true)) 52 v3) 53 t67) 54 (.int .i64 0)) w65)) w63) w61) w58) w56) w54) w52) w50) w48) w46) w44) w42) w40) w38) w36) w34) w32) w30) w28) w25) w23) w21) w18) w16) w14) w12) w10) w7) w2.drew) w
theorem body119 : Try.f119.body = some (zg_ Try.f119) := by kernel_rfl
theorem same119 (v0 v1 v2 v3 : Value) (k : Value → World → Prop) (w : World) : wpF Try.prog pl119 (zg_ Try.f119) (zr_ Try.prog Try.f119.results.toList k) (zm_ [v0, v1, v2, v3]) w = S119 v0 v1 v2 v3 k w := by kernel_rfl
theorem enter119 {v0 v1 v2 v3 : Value} {k : Value → World → Prop} {w : World} (h : S119 v0 v1 v2 v3 k w) : CallK Try.prog 119 [v0, v1, v2, v3] k w :=
  call_of_wpF (pl := pl119) zab_ Try.func119 body119 (by kernel_rfl) (of_decide_eq_true (by kernel_rfl)) (by kernel_rfl) (by kernel_rfl) (Eq.mpr (same119 v0 v1 v2 v3 k w) h)

def pl150 : Plans := fun _ => ⟨false, [], .nil⟩
def S150 (v0 v1 : Value) (k : Value → World → Prop) (w : World) : Prop :=
 Do Try.prog (sBox 3 v0) (fun t1 w2 =>
 Rd Try.prog (WS.at w2) (ze_ .len #[27] 3 [false] [v1]) fun t3 =>
 Rd Try.prog (WS.at w2) (sBin .leq 3 true t3 (.int .i64 10)) fun t4 =>
 za_ t4 true (fun k w' => k v1 w') (fun t5 w6 =>
 za_ t4 true (fun k w' => Rd Try.prog (WS.at w6) (zfg_ (.func 251) [] [t1]) fun v => k v w') (fun t7 w8 =>
 za_ t4 true (fun k w' => CallK Try.prog 250 [t5, t7] k w') (fun t9 w10 =>
 za_ t4 true (fun k w' => Rd Try.prog (WS.at w10) (sUn .not t9) fun v => k v w') (fun t11 w12 =>
 Rd Try.prog (WS.at w12) (zw_ t4 t11 (.bool false)) fun t13 =>
 k t13 w12) w10) w8) w6) w2) w
theorem body150 : Try.f150.body = some (zg_ Try.f150) := by kernel_rfl
theorem same150 (v0 v1 : Value) (k : Value → World → Prop) (w : World) : wpF Try.prog pl150 (zg_ Try.f150) (zr_ Try.prog Try.f150.results.toList k) (zm_ [v0, v1]) w = S150 v0 v1 k w := by kernel_rfl
theorem enter150 {v0 v1 : Value} {k : Value → World → Prop} {w : World} (h : S150 v0 v1 k w) : CallK Try.prog 150 [v0, v1] k w :=
  call_of_wpF (pl := pl150) zab_ Try.func150 body150 (by kernel_rfl) (of_decide_eq_true (by kernel_rfl)) (by kernel_rfl) (by kernel_rfl) (Eq.mpr (same150 v0 v1 k w) h)

def pl128 : Plans := fun _ => ⟨false, [], .nil⟩
def S128 (v0 v1 : Value) (k : Value → World → Prop) (w : World) : Prop :=
 Do Try.prog (sBox 26 v0) (fun t1 w2 =>
 Rd Try.prog (WS.at w2) (zc_ 26 t1) fun t3 =>
 CallK Try.prog 127 [t3] (fun t4 w5 =>
 za_ t4 true (fun k w' => Rd Try.prog (WS.at w5) (zc_ 26 t1) fun v => k v w') (fun t6 w7 =>
 za_ t4 true (fun k w' => k v1 w') (fun t8 w9 =>
 za_ t4 true (fun k w' => CallK Try.prog 240 [t6, t8] k w') (fun t10 w11 =>
 Rd Try.prog (WS.at w11) (zw_ t4 t10 (.bool false)) fun t12 =>
 k t12 w11) w9) w7) w5) w2) w
theorem body128 : Try.f128.body = some (zg_ Try.f128) := by kernel_rfl
theorem same128 (v0 v1 : Value) (k : Value → World → Prop) (w : World) : wpF Try.prog pl128 (zg_ Try.f128) (zr_ Try.prog Try.f128.results.toList k) (zm_ [v0, v1]) w = S128 v0 v1 k w := by kernel_rfl
theorem enter128 {v0 v1 : Value} {k : Value → World → Prop} {w : World} (h : S128 v0 v1 k w) : CallK Try.prog 128 [v0, v1] k w :=
  call_of_wpF (pl := pl128) zab_ Try.func128 body128 (by kernel_rfl) (of_decide_eq_true (by kernel_rfl)) (by kernel_rfl) (by kernel_rfl) (Eq.mpr (same128 v0 v1 k w) h)

def pl153 : Plans := fun _ => ⟨false, [], .nil⟩
def S153 (v0 v1 v2 : Value) (k : Value → World → Prop) (w : World) : Prop :=
 Do Try.prog (sBox 26 v0) (fun t1 w2 =>
 Rd Try.prog (WS.at w2) (zc_ 26 t1) fun t3 =>
 CallK Try.prog 162 [t3, v2] (fun t4 w5 =>
 Rd Try.prog (WS.at w5) (zd_ 134 t4 v1) fun t6 =>
 Rd Try.prog (WS.at w5) (zc_ 136 t6) fun t7 =>
 Rd Try.prog (WS.at w5) (ze_ .len #[27] 3 [false] [v2]) fun t8 =>
 Rd Try.prog (WS.at w5) (zd_ 136 t7 t8) fun t9 =>
 Rd Try.prog (WS.at w5) (zc_ 4 t9) fun t10 =>
 k t10 w5) w2) w
theorem body153 : Try.f153.body = some (zg_ Try.f153) := by kernel_rfl
theorem same153 (v0 v1 v2 : Value) (k : Value → World → Prop) (w : World) : wpF Try.prog pl153 (zg_ Try.f153) (zr_ Try.prog Try.f153.results.toList k) (zm_ [v0, v1, v2]) w = S153 v0 v1 v2 k w := by kernel_rfl
theorem enter153 {v0 v1 v2 : Value} {k : Value → World → Prop} {w : World} (h : S153 v0 v1 v2 k w) : CallK Try.prog 153 [v0, v1, v2] k w :=
  call_of_wpF (pl := pl153) zab_ Try.func153 body153 (by kernel_rfl) (of_decide_eq_true (by kernel_rfl)) (by kernel_rfl) (by kernel_rfl) (Eq.mpr (same153 v0 v1 v2 k w) h)

def pl151 : Plans := fun i => match i with
  | 14 => ⟨false, [18], .step 0 .any (.step 1 .any (.step 2 .held (.step 3 .any (.step 4 .any (.step 5 .any (.step 6 .any (.step 7 .any (.step 8 .any (.step 9 .any (.step 10 .held (.step 11 .any (.step 12 .any (.step 13 .any (.step 14 .any (.step 15 .held (.step 16 .any (.step 17 .any (.step 18 .last (.step 19 .any (.nil))))))))))))))))))))⟩
  | 15 => ⟨false, [10], .step 0 .any (.step 1 .any (.step 2 .held (.step 3 .any (.step 4 .any (.step 5 .any (.step 6 .any (.step 7 .any (.step 8 .any (.step 9 .any (.step 10 .last (.nil)))))))))))⟩
  | _ => ⟨false, [], .nil⟩
def S151 (v0 v1 : Value) (k : Value → World → Prop) (w : World) : Prop :=
 Do Try.prog (sBox 26 v0) (fun t1 w2 =>
 Rd Try.prog (WS.at w2) (zeb_ 124 [(0, v1)]) fun t3 =>
 Do Try.prog (sBox 124 t3) (fun t4 w5 =>
 zfb_ [14, 6, 15, 16, 17, 18, 19, 20, 21, 8, 22, 23, 24, 25, 26, 27, 9, 28, 10, 29, 30, 31, 32, 35, 36, 37, 38, 39, 40, 41, 42, 43, 44, 45, 46, 47, 48, 49, 50, 51, 52, 53, 54, 55, 56, 57, 58, 59, 60, 61, 62, 63, 64, 6, 33, 34, 10, 65, 25, 66, 18] (fun Q6 f7 w8 =>
  zi_ (f7 6)
   (Rd Try.prog (WS.at w8) (zb_ 26 (f7 2) 2) fun t9 =>
   Rd Try.prog (WS.at w8) (zc_ 24 t9) fun t10 =>
   Rd Try.prog (WS.at w8) (ze_ .len #[24] 3 [false] [t10]) fun t11 =>
   zfb_ [19, 20, 21, 8, 22, 23, 24, 25, 26, 27, 9, 28, 10, 29, 30, 31, 32, 35, 36, 37, 38, 39, 40, 41, 42, 43, 44, 45, 46, 47, 48, 49, 50, 51, 52, 53, 54, 55, 56, 57, 58, 59, 60, 61, 62, 63, 64, 6, 33, 34, 10, 65, 25, 66, 18] (fun Q12 f13 w14 =>
    Rd Try.prog (WS.at w14) (sBin .lss 3 false (f13 18) (f13 17)) fun t15 =>
    zi_ t15
     (Rd Try.prog (WS.at w14) (zd_ 24 (f13 16) (f13 18)) fun t16 =>
     Rd Try.prog (WS.at w14) (zc_ 33 t16) fun t17 =>
     Do Try.prog (zvb_ 33) (fun t18 w19 =>
     Do Try.prog (zx_ 33 t18 t17) (fun _ w20 =>
     Rd Try.prog (WS.at w20) (ze_ .len #[27] 3 [false] [(f13 1)]) fun t21 =>
     Rd Try.prog (WS.at w20) (sBin .add 3 true t21 (.int .i64 1)) fun t22 =>
     zfb_ [26, 27, 9, 28, 10, 29, 30, 31, 32, 35, 36, 37, 38, 39, 40, 41, 42, 43, 44, 45, 46, 47, 48, 49, 50, 51, 52, 53, 54, 55, 56, 57, 58, 59, 60, 61, 62, 63, 64, 6, 33, 34, 10, 65, 25] (fun Q23 f24 w25 =>
      Rd Try.prog (WS.at w25) (sBin .lss 3 false (f24 25) (f24 24)) fun t26 =>
      zi_ t26
       (zfb_ [29, 30, 31, 32, 35, 36, 37, 38, 39, 40, 41, 42, 43, 44, 45, 46, 47, 48, 49, 50, 51, 52, 53, 54, 55, 56, 57, 58, 59, 60, 61, 62, 63, 64, 6, 33, 34, 10] (fun Q27 f28 w29 =>
        Rd Try.prog (WS.at w29) (ze_ .len #[27] 3 [false] [(f28 1)]) fun t30 =>
        Rd Try.prog (WS.at w29) (sBin .leq 3 false (f28 10) t30) fun t31 =>
        zi_ t31
         (Join (fun K32 =>
         Rd Try.prog WS.any (zb_ 33 (f28 8) 0) fun t35 =>
         Rd Try.prog (WS.at w29.drew) (zc_ 3 t35) fun t36 =>
         Rd Try.prog WS.any (zu_ (f28 5)) fun t37 =>
         Rd Try.prog WS.any (zb_ 124 t37 1) fun t38 =>
         Rd Try.prog WS.any (zd_ 122 t38 t36) fun t39 =>
         Rd Try.prog WS.any (zd_ 121 t39 (f28 9)) fun t40 =>
         Rd Try.prog WS.any (zd_ 120 t40 (f28 10)) fun t41 =>
         Rd Try.prog (WS.at w29.drew) (zc_ 4 t41) fun t42 =>
         Rd Try.prog WS.any (sUn .not t42) fun t43 =>
         za_ t43 true (fun k w' => k (f28 5) w') (fun t44 w45 =>
         za_ t43 true (fun k w' => Rd Try.prog WS.any (zb_ 33 (f28 8) 1) fun v => k v w') (fun t46 w47 =>
         za_ t43 true (fun k w' => Rd Try.prog (WS.at w29.drew) (zc_ 27 t46) fun v => k v w') (fun t48 w49 =>
         za_ t43 true (fun k w' => k (f28 9) w') (fun t50 w51 =>
         za_ t43 true (fun k w' => k (f28 10) w') (fun t52 w53 =>
         za_ t43 true (fun k w' => CallK Try.prog 155 [t44, t48, t50, t52] k w') (fun t54 w55 =>
         Rd Try.prog WS.any (zw_ t43 t54 (.bool false)) fun t56 =>
         zi_ t56
          (Rd Try.prog WS.any (zb_ 33 (f28 8) 0) fun t57 =>
          Rd Try.prog (WS.at w55.drew) (zc_ 3 t57) fun t58 =>
          Rd Try.prog WS.any (zu_ (f28 5)) fun t59 =>
          Rd Try.prog WS.any (zb_ 124 t59 1) fun t60 =>
          Rd Try.prog WS.any (zd_ 122 t60 t58) fun t61 =>
          Rd Try.prog WS.any (zd_ 121 t61 (f28 9)) fun t62 =>
          Rd Try.prog WS.any (zd_ 120 t62 (f28 10)) fun t63 =>
          Do Try.prog (zx_ 4 t63 (.bool true)) (fun _ w64 =>
          K32 (F.upd (F.upd (F.upd (F.upd (F.upd (F.upd (F.upd (F.upd (F.upd (F.upd (F.upd (F.upd (F.upd (F.upd (F.upd (F.upd (F.upd (F.upd (F.upd (F.upd (F.upd (F.upd (F.upd (F.upd (F.upd (F.upd (F.upd (F.upd (F.upd (F.upd (F.upd (F.upd (F.upd (F.upd (F.upd f28 29 (f28 10)) 30 (f28 1)) 31 t30) 32 t31) 35 (f28 5)) 36 t35) 37 t36) 38 (f28 9)) 39 (f28 10)) 40 t37) 41 t38) 42 t39) 43 t40) 44 t41) 45 t42) 46 t43) 47 t43) 48 t44) 49 t46) 50 t48) 51 t50) 52 t52) 53 t54) 54 t56) 55 (f28 5)) 56 t57) 57 t58) 58 (f28 9)) 59 (f28 10)) 60 t59) 61 t60) 62 t61) 63 t62) 64 t63) 6 (.bool true)) w64) w55.drew)
          (K32 (F.upd (F.upd (F.upd (F.upd (F.upd (F.upd (F.upd (F.upd (F.upd (F.upd (F.upd (F.upd (F.upd (F.upd (F.upd (F.upd (F.upd (F.upd (F.upd (F.upd (F.upd (F.upd (F.upd (F.upd f28 29 (f28 10)) 30 (f28 1)) 31 t30) 32 t31) 35 (f28 5)) 36 t35) 37 t36) 38 (f28 9)) 39 (f28 10)) 40 t37) 41 t38) 42 t39) 43 t40) 44 t41) 45 t42) 46 t43) 47 t43) 48 t44) 49 t46) 50 t48) 51 t50) 52 t52) 53 t54) 54 t56) w55)) w53) w51) w49) w47) w45) w29.drew) (fun f33 w34 =>
         Rd Try.prog (WS.at w34) (sBin .add 3 true (f33 10) (.int .i64 1)) fun t65 =>
         Q27 .normal (F.upd (F.upd (F.upd f33 33 (f33 10)) 34 t65) 10 t65) w34))
         (Q27 (.exit 6) (F.upd (F.upd (F.upd (F.upd f28 29 (f28 10)) 30 (f28 1)) 31 t30) 32 t31) w29))
        (zt_ 6 (zt_ 5 (seqQ (fun f66 w67 =>
       Rd Try.prog (WS.at w67) (sBin .add 3 true (f66 25) (.int .i64 1)) fun t68 =>
       Q23 .normal (F.upd (F.upd f66 65 t68) 25 t68) w67) Q23)))
        (F.upd (F.upd (F.upd (F.upd (F.upd f24 26 t26) 27 (f24 25)) 9 (f24 25)) 28 (f24 25)) 10 (f24 25)) w25)
       (Q23 (.exit 4) (F.upd f24 26 t26) w25))
      (zt_ 4 (zt_ 3 (seqQ (fun f69 w70 =>
     Rd Try.prog (WS.at w70) (sBin .add 3 true (f69 18) (.int .i64 1)) fun t71 =>
     Q12 .normal (F.upd (F.upd f69 66 t71) 18 t71) w70) Q12)))
      (F.upd (F.upd (F.upd (F.upd (F.upd (F.upd (F.upd (F.upd f13 19 t15) 20 t16) 21 t17) 8 t18) 22 (f13 1)) 23 t21) 24 t22) 25 (.int .i64 0)) w20) w19) w14)
     (Q12 (.exit 2) (F.upd f13 19 t15) w14))
    (zt_ 2 (zt_ 1 Q6))
    (F.upd (F.upd (F.upd (F.upd (F.upd (F.upd f7 14 (f7 6)) 6 (.bool false)) 15 t9) 16 t10) 17 t11) 18 (.int .i64 0)) w8)
   (Q6 (.exit 0) (F.upd f7 14 (f7 6)) w8))
  (zt_ 0 (seqQ (fun f72 w73 =>
 k (f72 5) w73) (zr_ Try.prog [.tmp 4] k)))
  (F.upd (F.upd (F.upd (F.upd (F.upd (F.upd (F.upd (zm_ [v0, v1]) 2 t1) 4 (.pointer none)) 11 v1) 12 t3) 13 t4) 5 t4) 6 (.bool true)) w5) w2) w
theorem body151 : Try.f151.body = some (zg_ Try.f151) := by kernel_rfl
theorem same151 (v0 v1 : Value) (k : Value → World → Prop) (w : World) : wpF Try.prog pl151 (zg_ Try.f151) (zr_ Try.prog Try.f151.results.toList k) (zm_ [v0, v1]) w = S151 v0 v1 k w := by kernel_rfl
theorem enter151 {v0 v1 : Value} {k : Value → World → Prop} {w : World} (h : S151 v0 v1 k w) : CallK Try.prog 151 [v0, v1] k w :=
  call_of_wpF (pl := pl151) zab_ Try.func151 body151 (by kernel_rfl) (of_decide_eq_true (by kernel_rfl)) (by kernel_rfl) (by kernel_rfl) (Eq.mpr (same151 v0 v1 k w) h)

def pl240 : Plans := fun _ => ⟨false, [], .nil⟩
def S240 (v0 v1 : Value) (k : Value → World → Prop) (w : World) : Prop :=
 Do Try.prog (sBox 26 v0) (fun t1 w2 =>
 Rd Try.prog (WS.at w2) (ze_ .len #[27] 3 [false] [v1]) fun t3 =>
 Rd Try.prog (WS.at w2) (sBin .leq 3 true t3 (.int .i64 10)) fun t4 =>
 za_ t4 true (fun k w' => k v1 w') (fun t5 w6 =>
 za_ t4 true (fun k w' => Rd Try.prog (WS.at w6) (zb_ 26 t1 1) fun v => k v w') (fun t7 w8 =>
 za_ t4 true (fun k w' => Rd Try.prog (WS.at w8) (zc_ 3 t7) fun v => k v w') (fun t9 w10 =>
 za_ t4 true (fun k w' => Rd Try.prog (WS.at w10) (sBin .sub 3 true t9 (.int .i64 1)) fun v => k v w') (fun t11 w12 =>
 za_ t4 true (fun k w' => CallK Try.prog 230 [t5, (.int .i64 0), t11] k w') (fun t13 w14 =>
 Rd Try.prog (WS.at w14) (zw_ t4 t13 (.bool false)) fun t15 =>
 k t15 w14) w12) w10) w8) w6) w2) w
theorem body240 : Try.f240.body = some (zg_ Try.f240) := by kernel_rfl
theorem same240 (v0 v1 : Value) (k : Value → World → Prop) (w : World) : wpF Try.prog pl240 (zg_ Try.f240) (zr_ Try.prog Try.f240.results.toList k) (zm_ [v0, v1]) w = S240 v0 v1 k w := by kernel_rfl
theorem enter240 {v0 v1 : Value} {k : Value → World → Prop} {w : World} (h : S240 v0 v1 k w) : CallK Try.prog 240 [v0, v1] k w :=
  call_of_wpF (pl := pl240) zab_ Try.func240 body240 (by kernel_rfl) (of_decide_eq_true (by kernel_rfl)) (by kernel_rfl) (by kernel_rfl) (Eq.mpr (same240 v0 v1 k w) h)

def pl251 : Plans := fun _ => ⟨false, [], .nil⟩
def S251 (v0 v1 : Value) (k : Value → World → Prop) (w : World) : Prop :=
 Rd Try.prog (WS.at w) (zc_ 3 v1) fun t1 =>
 Rd Try.prog (WS.at w) (sBin .sub 3 true t1 (.int .i64 1)) fun t2 =>
 CallK Try.prog 149 [v0, (.int .i64 0), t2] (fun t3 w4 =>
 Rd Try.prog (WS.at w4) (sUn .not t3) fun t5 =>
 k t5 w4) w
theorem body251 : Try.f251.body = some (zg_ Try.f251) := by kernel_rfl
theorem same251 (v0 v1 : Value) (k : Value → World → Prop) (w : World) : wpF Try.prog pl251 (zg_ Try.f251) (zr_ Try.prog Try.f251.results.toList k) (zm_ [v0, v1]) w = S251 v0 v1 k w := by kernel_rfl
theorem enter251 {v0 v1 : Value} {k : Value → World → Prop} {w : World} (h : S251 v0 v1 k w) : CallK Try.prog 251 [v0, v1] k w :=
  call_of_wpF (pl := pl251) zab_ Try.func251 body251 (by kernel_rfl) (of_decide_eq_true (by kernel_rfl)) (by kernel_rfl) (by kernel_rfl) (Eq.mpr (same251 v0 v1 k w) h)

def pl162 : Plans := fun _ => ⟨false, [], .nil⟩
def S162 (v0 v1 : Value) (k : Value → World → Prop) (w : World) : Prop :=
 Do Try.prog (sBox 26 v0) (fun t1 w2 =>
 Rd Try.prog (WS.at w2) (ze_ .len #[27] 3 [false] [v1]) fun t3 =>
 Rd Try.prog (WS.at w2) (sBin .add 3 true t3 (.int .i64 1)) fun t4 =>
 Rd Try.prog (WS.at w2) (zb_ 26 t1 0) fun t5 =>
 Rd Try.prog (WS.at w2) (zc_ 3 t5) fun t6 =>
 Do Try.prog (zvc_ 134 t6 t6) (fun t7 w8 =>
 Rd Try.prog (WS.at w8) (ze_ .len #[134] 3 [false] [t7]) fun t9 =>
 zfb_ [22, 23, 7, 24, 25, 26, 27, 28, 29, 30, 31, 21] (fun Q10 f11 w12 =>
  Rd Try.prog (WS.at w12) (sBin .lss 3 false (f11 21) (f11 20)) fun t13 =>
  zi_ t13
   (Rd Try.prog (WS.at w12) (sBin .mul 3 false (f11 5) (f11 5)) fun t14 =>
   Do Try.prog (zvc_ 136 t14 t14) (fun t15 w16 =>
   Rd Try.prog (WS.at w16) (zd_ 134 (f11 6) (f11 21)) fun t17 =>
   Do Try.prog (zx_ 136 t17 t15) (fun _ w18 =>
   Rd Try.prog (WS.at w18) (sBin .add 3 true (f11 21) (.int .i64 1)) fun t19 =>
   Q10 .normal (F.upd (F.upd (F.upd (F.upd (F.upd (F.upd (F.upd (F.upd (F.upd (F.upd (F.upd (F.upd f11 22 t13) 23 (f11 21)) 7 (f11 21)) 24 (f11 6)) 25 (f11 21)) 26 (f11 5)) 27 (f11 5)) 28 t14) 29 t15) 30 t17) 31 t19) 21 t19) w18) w16) w12)
   (Q10 (.exit 0) (F.upd f11 22 t13) w12))
  (zt_ 0 (seqQ (fun f20 w21 =>
 zfb_ [32, 8, 33, 34, 35, 36, 37, 38, 39, 10, 11, 40, 41, 42, 45, 12, 46, 47, 48, 51, 52, 53, 54, 55, 56, 57, 58, 59, 60, 61, 62, 63, 64, 65, 66, 67, 68, 69, 70, 71, 72, 73, 74, 75, 76, 77, 78, 79, 80, 81, 82, 83, 8, 49, 50, 12, 43, 44, 11, 84, 36] (fun Q22 f23 w24 =>
  zi_ (f23 8)
   (Rd Try.prog (WS.at w24) (zb_ 26 (f23 2) 2) fun t25 =>
   Rd Try.prog (WS.at w24) (zc_ 24 t25) fun t26 =>
   Rd Try.prog (WS.at w24) (ze_ .len #[24] 3 [false] [t26]) fun t27 =>
   zfb_ [37, 38, 39, 10, 11, 40, 41, 42, 45, 12, 46, 47, 48, 51, 52, 53, 54, 55, 56, 57, 58, 59, 60, 61, 62, 63, 64, 65, 66, 67, 68, 69, 70, 71, 72, 73, 74, 75, 76, 77, 78, 79, 80, 81, 82, 83, 8, 49, 50, 12, 43, 44, 11, 84, 36] (fun Q28 f29 w30 =>
    Rd Try.prog (WS.at w30) (sBin .lss 3 false (f29 36) (f29 35)) fun t31 =>
    zi_ t31
     (Rd Try.prog (WS.at w30) (zd_ 24 (f29 34) (f29 36)) fun t32 =>
     Rd Try.prog (WS.at w30) (zc_ 33 t32) fun t33 =>
     Do Try.prog (zvb_ 33) (fun t34 w35 =>
     Do Try.prog (zx_ 33 t34 t33) (fun _ w36 =>
     zfb_ [40, 41, 42, 45, 12, 46, 47, 48, 51, 52, 53, 54, 55, 56, 57, 58, 59, 60, 61, 62, 63, 64, 65, 66, 67, 68, 69, 70, 71, 72, 73, 74, 75, 76, 77, 78, 79, 80, 81, 82, 83, 8, 49, 50, 12, 43, 44, 11] (fun Q37 f38 w39 =>
      Rd Try.prog (WS.at w39) (sBin .lss 3 false (f38 11) (f38 5)) fun t40 =>
      zi_ t40
       (zfb_ [46, 47, 48, 51, 52, 53, 54, 55, 56, 57, 58, 59, 60, 61, 62, 63, 64, 65, 66, 67, 68, 69, 70, 71, 72, 73, 74, 75, 76, 77, 78, 79, 80, 81, 82, 83, 8, 49, 50, 12] (fun Q41 f42 w43 =>
        Rd Try.prog (WS.at w43) (sBin .lss 3 false (f42 12) (f42 5)) fun t44 =>
        zi_ t44
         (Join (fun K45 =>
         Rd Try.prog (WS.at w43) (zb_ 33 (f42 10) 0) fun t48 =>
         Rd Try.prog (WS.at w43) (zc_ 3 t48) fun t49 =>
         Rd Try.prog (WS.at w43) (zd_ 134 (f42 6) t49) fun t50 =>
         Rd Try.prog (WS.at w43) (zc_ 136 t50) fun t51 =>
         Rd Try.prog (WS.at w43) (sBin .mul 3 false (f42 11) (f42 5)) fun t52 =>
         Rd Try.prog (WS.at w43) (sBin .add 3 false t52 (f42 12)) fun t53 =>
         Rd Try.prog (WS.at w43) (zd_ 136 t51 t53) fun t54 =>
         Rd Try.prog (WS.at w43) (zc_ 4 t54) fun t55 =>
         Rd Try.prog (WS.at w43) (sUn .not t55) fun t56 =>
         za_ t56 true (fun k w' => k (f42 6) w') (fun t57 w58 =>
         za_ t56 true (fun k w' => k (f42 1) w') (fun t59 w60 =>
         za_ t56 true (fun k w' => Rd Try.prog (WS.at w60) (zb_ 33 (f42 10) 1) fun v => k v w') (fun t61 w62 =>
         za_ t56 true (fun k w' => Rd Try.prog (WS.at w62) (zc_ 27 t61) fun v => k v w') (fun t63 w64 =>
         za_ t56 true (fun k w' => k (f42 11) w') (fun t65 w66 =>
         za_ t56 true (fun k w' => k (f42 12) w') (fun t67 w68 =>
         za_ t56 true (fun k w' => CallK Try.prog 161 [t57, t59, t63, t65, t67] k w') (fun t69 w70 =>
         Rd Try.prog (WS.at w70) (zw_ t56 t69 (.bool false)) fun t71 =>
         zi_ t71
          (Rd Try.prog (WS.at w70) (zb_ 33 (f42 10) 0) fun t72 =>
          Rd Try.prog (WS.at w70) (zc_ 3 t72) fun t73 =>
          Rd Try.prog (WS.at w70) (zd_ 134 (f42 6) t73) fun t74 =>
          Rd Try.prog (WS.at w70) (zc_ 136 t74) fun t75 =>
          Rd Try.prog (WS.at w70) (sBin .mul 3 false (f42 11) (f42 5)) fun t76 =>
          Rd Try.prog (WS.at w70) (sBin .add 3 false t76 (f42 12)) fun t77 =>
          Rd Try.prog (WS.at w70) (zd_ 136 t75 t77) fun t78 =>
          Do Try.prog (zx_ 4 t78 (.bool true)) (fun _ w79 =>
          K45 (F.upd (F.upd (F.upd (F.upd (F.upd (F.upd (F.upd (F.upd (F.upd (F.upd (F.upd (F.upd (F.upd (F.upd (F.upd (F.upd (F.upd (F.upd (F.upd (F.upd (F.upd (F.upd (F.upd (F.upd (F.upd (F.upd (F.upd (F.upd (F.upd (F.upd (F.upd (F.upd (F.upd (F.upd (F.upd (F.upd (F.upd f42 46 (f42 12)) 47 (f42 5)) 48 t44) 51 (f42 6)) 52 t48) 53 t49) 54 t50) 55 t51) 56 (f42 11)) 57 (f42 5)) 58 t52) 59 (f42 12)) 60 t53) 61 t54) 62 t55) 63 t56) 64 t56) 65 t57) 66 t59) 67 t61) 68 t63) 69 t65) 70 t67) 71 t69) 72 t71) 73 (f42 6)) 74 t72) 75 t73) 76 t74) 77 t75) 78 (f42 11)) 79 (f42 5)) 80 t76) 81 (f42 12)) 82 t77) 83 t78) 8 (.bool true)) w79) w70)
          (K45 (F.upd (F.upd (F.upd (F.upd (F.upd (F.upd (F.upd (F.upd (F.upd (F.upd (F.upd (F.upd (F.upd (F.upd (F.upd (F.upd (F.upd (F.upd (F.upd (F.upd (F.upd (F.upd (F.upd (F.upd (F.upd f42 46 (f42 12)) 47 (f42 5)) 48 t44) 51 (f42 6)) 52 t48) 53 t49) 54 t50) 55 t51) 56 (f42 11)) 57 (f42 5)) 58 t52) 59 (f42 12)) 60 t53) 61 t54) 62 t55) 63 t56) 64 t56) 65 t57) 66 t59) 67 t61) 68 t63) 69 t65) 70 t67) 71 t69) 72 t71) w70)) w68) w66) w64) w62) w60) w58) w43) (fun f46 w47 =>
         Rd Try.prog (WS.at w47) (sBin .add 3 true (f46 12) (.int .i64 1)) fun t80 =>
         Q41 .normal (F.upd (F.upd (F.upd f46 49 (f46 12)) 50 t80) 12 t80) w47))
         (Q41 (.exit 8) (F.upd (F.upd (F.upd f42 46 (f42 12)) 47 (f42 5)) 48 t44) w43))
        (zt_ 8 (zt_ 7 (seqQ (fun f81 w82 =>
       Rd Try.prog (WS.at w82) (sBin .add 3 true (f81 11) (.int .i64 1)) fun t83 =>
       Q37 .normal (F.upd (F.upd (F.upd f81 43 (f81 11)) 44 t83) 11 t83) w82) Q37)))
        (F.upd (F.upd (F.upd (F.upd (F.upd f38 40 (f38 11)) 41 (f38 5)) 42 t40) 45 (f38 11)) 12 (f38 11)) w39)
       (Q37 (.exit 6) (F.upd (F.upd (F.upd f38 40 (f38 11)) 41 (f38 5)) 42 t40) w39))
      (zt_ 6 (zt_ 5 (seqQ (fun f84 w85 =>
     Rd Try.prog (WS.at w85) (sBin .add 3 true (f84 36) (.int .i64 1)) fun t86 =>
     Q28 .normal (F.upd (F.upd f84 84 t86) 36 t86) w85) Q28)))
      (F.upd (F.upd (F.upd (F.upd (F.upd f29 37 t31) 38 t32) 39 t33) 10 t34) 11 (.int .i64 0)) w36) w35) w30)
     (Q28 (.exit 4) (F.upd f29 37 t31) w30))
    (zt_ 4 (zt_ 3 Q22))
    (F.upd (F.upd (F.upd (F.upd (F.upd (F.upd f23 32 (f23 8)) 8 (.bool false)) 33 t25) 34 t26) 35 t27) 36 (.int .i64 0)) w24)
   (Q22 (.exit 2) (F.upd f23 32 (f23 8)) w24))
  (zt_ 2 (seqQ (fun f87 w88 =>
 k (f87 6) w88) (zr_ Try.prog [.tmp 4] k)))
  (F.upd f20 8 (.bool true)) w21) (zr_ Try.prog [.tmp 4] k)))
  (F.upd (F.upd (F.upd (F.upd (F.upd (F.upd (F.upd (F.upd (F.upd (F.upd (F.upd (F.upd (F.upd (zm_ [v0, v1]) 2 t1) 4 (.slice none 0 0)) 13 v1) 14 t3) 15 t4) 5 t4) 16 t5) 17 t6) 18 t7) 6 t7) 19 t7) 20 t9) 21 (.int .i64 0)) w8) w2) w
theorem body162 : Try.f162.body = some (zg_ Try.f162) := by kernel_rfl
theorem same162 (v0 v1 : Value) (k : Value → World → Prop) (w : World) : wpF Try.prog pl162 (zg_ Try.f162) (zr_ Try.prog Try.f162.results.toList k) (zm_ [v0, v1]) w = S162 v0 v1 k w := by kernel_rfl
theorem enter162 {v0 v1 : Value} {k : Value → World → Prop} {w : World} (h : S162 v0 v1 k w) : CallK Try.prog 162 [v0, v1] k w :=
  call_of_wpF (pl := pl162) zab_ Try.func162 body162 (by kernel_rfl) (of_decide_eq_true (by kernel_rfl)) (by kernel_rfl) (by kernel_rfl) (Eq.mpr (same162 v0 v1 k w) h)

def pl155 : Plans := fun _ => ⟨false, [], .nil⟩
def S155 (v0 v1 v2 v3 : Value) (k : Value → World → Prop) (w : World) : Prop :=
 Rd Try.prog (WS.at w) (ze_ .len #[27] 3 [false] [v1]) fun t1 =>
 Rd Try.prog (WS.at w) (sBin .eql 3 true t1 (.int .i64 0)) fun t2 =>
 zi_ t2
  (Rd Try.prog (WS.at w) (sBin .eql 3 false v2 v3) fun t3 =>
  k t3 w)
  (Rd Try.prog (WS.at w) (zd_ 27 v1 (.int .i64 0)) fun t4 =>
  Rd Try.prog (WS.at w) (zc_ 3 t4) fun t5 =>
  Rd Try.prog (WS.at w) (sBin .lss 3 true t5 (.int .i64 0)) fun t6 =>
  zi_ t6
   (Rd Try.prog (WS.at w) (sBin .lss 3 false v2 v3) fun t7 =>
   za_ t7 true (fun k w' => k v0 w') (fun t8 w9 =>
   za_ t7 true (fun k w' => Rd Try.prog (WS.at w9) (zu_ t8) fun v => k v w') (fun t10 w11 =>
   za_ t7 true (fun k w' => Rd Try.prog (WS.at w11) (zb_ 124 t10 0) fun v => k v w') (fun t12 w13 =>
   za_ t7 true (fun k w' => Rd Try.prog (WS.at w13) (zc_ 27 t12) fun v => k v w') (fun t14 w15 =>
   za_ t7 true (fun k w' => k v2 w') (fun t16 w17 =>
   za_ t7 true (fun k w' => Rd Try.prog (WS.at w17) (zd_ 27 t14 t16) fun v => k v w') (fun t18 w19 =>
   za_ t7 true (fun k w' => Rd Try.prog (WS.at w19) (zc_ 3 t18) fun v => k v w') (fun t20 w21 =>
   za_ t7 true (fun k w' => CallK Try.prog 254 [t20] k w') (fun t22 w23 =>
   za_ t7 true (fun k w' => k t5 w') (fun t24 w25 =>
   za_ t7 true (fun k w' => Rd Try.prog (WS.at w25) (sBin .eql 3 false t22 t24) fun v => k v w') (fun t26 w27 =>
   Rd Try.prog (WS.at w27) (zw_ t7 t26 (.bool false)) fun t28 =>
   za_ t28 true (fun k w' => k v0 w') (fun t29 w30 =>
   za_ t28 true (fun k w' => k v1 w') (fun t31 w32 =>
   za_ t28 true (fun k w' => Rd Try.prog (WS.at w32) (zrb_ 27 t31 (some (.int .i64 1)) none none) fun v => k v w') (fun t33 w34 =>
   za_ t28 true (fun k w' => k v2 w') (fun t35 w36 =>
   za_ t28 true (fun k w' => Rd Try.prog (WS.at w36) (sBin .add 3 true t35 (.int .i64 1)) fun v => k v w') (fun t37 w38 =>
   za_ t28 true (fun k w' => k v3 w') (fun t39 w40 =>
   za_ t28 true (fun k w' => CallK Try.prog 155 [t29, t33, t37, t39] k w') (fun t41 w42 =>
   Rd Try.prog (WS.at w42) (zw_ t28 t41 (.bool false)) fun t43 =>
   k t43 w42) w40) w38) w36) w34) w32) w30) w27) w25) w23) w21) w19) w17) w15) w13) w11) w9) w)
   (zfb_ [47, 48, 49, 52, 53, 54, 55, 56, 57, 58, 59, 60, 61, 62, 63, 64, 65, 66, 67, 68, 69, 8, 50, 51, 10] (fun Q44 f45 w46 =>
    Rd Try.prog (WS.at w46) (sBin .leq 3 false (f45 10) (f45 3)) fun t47 =>
    zi_ t47
     (Rd Try.prog (WS.at w46) (zu_ (f45 0)) fun t48 =>
     Rd Try.prog (WS.at w46) (zb_ 124 t48 1) fun t49 =>
     Rd Try.prog (WS.at w46) (zd_ 122 t49 (f45 9)) fun t50 =>
     Rd Try.prog (WS.at w46) (zd_ 121 t50 (f45 2)) fun t51 =>
     Rd Try.prog (WS.at w46) (zd_ 120 t51 (f45 10)) fun t52 =>
     Rd Try.prog (WS.at w46) (zc_ 4 t52) fun t53 =>
     za_ t53 true (fun k w' => k (f45 0) w') (fun t54 w55 =>
     za_ t53 true (fun k w' => k (f45 1) w') (fun t56 w57 =>
     za_ t53 true (fun k w' => Rd Try.prog (WS.at w57) (zrb_ 27 t56 (some (.int .i64 1)) none none) fun v => k v w') (fun t58 w59 =>
     za_ t53 true (fun k w' => k (f45 10) w') (fun t60 w61 =>
     za_ t53 true (fun k w' => k (f45 3) w') (fun t62 w63 =>
     za_ t53 true (fun k w' => CallK Try.prog 155 [t54, t58, t60, t62] k w') (fun t64 w65 =>
     Rd Try.prog (WS.at w65) (zw_ t53 t64 (.bool false)) fun t66 =>
     zi_ t66
      (Q44 .ret (F.upd (F.upd (F.upd (F.upd (F.upd (F.upd (F.upd (F.upd (F.upd (F.upd (F.upd (F.upd (F.upd (F.upd (F.upd (F.upd (F.upd (F.upd (F.upd (F.upd (F.upd (F.upd f45 47 (f45 10)) 48 (f45 3)) 49 t47) 52 (f45 0)) 53 (f45 9)) 54 (f45 2)) 55 (f45 10)) 56 t48) 57 t49) 58 t50) 59 t51) 60 t52) 61 t53) 62 t53) 63 t54) 64 t56) 65 t58) 66 t60) 67 t62) 68 t64) 69 t66) 8 (.bool true)) w65)
      (Rd Try.prog (WS.at w65) (sBin .add 3 true (f45 10) (.int .i64 1)) fun t67 =>
      Q44 .normal (F.upd (F.upd (F.upd (F.upd (F.upd (F.upd (F.upd (F.upd (F.upd (F.upd (F.upd (F.upd (F.upd (F.upd (F.upd (F.upd (F.upd (F.upd (F.upd (F.upd (F.upd (F.upd (F.upd (F.upd f45 47 (f45 10)) 48 (f45 3)) 49 t47) 52 (f45 0)) 53 (f45 9)) 54 (f45 2)) 55 (f45 10)) 56 t48) 57 t49) 58 t50) 59 t51) 60 t52) 61 t53) 62 t53) 63 t54) 64 t56) 65 t58) 66 t60) 67 t62) 68 t64) 69 t66) 50 (f45 10)) 51 t67) 10 t67) w65)) w63) w61) w59) w57) w55) w46)
     (Q44 (.exit 0) (F.upd (F.upd (F.upd f45 47 (f45 10)) 48 (f45 3)) 49 t47) w46))
    (zt_ 0 (seqQ (fun f68 w69 =>
   k (.bool false) w69) (zr_ Try.prog [.tmp 8] k)))
    (F.upd (F.upd (F.upd (F.upd (F.upd (F.upd (F.upd (F.upd (F.upd (F.upd (F.upd (F.upd (zm_ [v0, v1, v2, v3]) 8 (.bool false)) 11 v1) 12 t1) 13 t2) 17 v1) 18 t4) 19 t5) 9 t5) 20 t5) 21 t6) 46 v2) 10 v2) w))
theorem body155 : Try.f155.body = some (zg_ Try.f155) := by kernel_rfl
theorem same155 (v0 v1 v2 v3 : Value) (k : Value → World → Prop) (w : World) : wpF Try.prog pl155 (zg_ Try.f155) (zr_ Try.prog Try.f155.results.toList k) (zm_ [v0, v1, v2, v3]) w = S155 v0 v1 v2 v3 k w := by kernel_rfl
theorem enter155 {v0 v1 v2 v3 : Value} {k : Value → World → Prop} {w : World} (h : S155 v0 v1 v2 v3 k w) : CallK Try.prog 155 [v0, v1, v2, v3] k w :=
  call_of_wpF (pl := pl155) zab_ Try.func155 body155 (by kernel_rfl) (of_decide_eq_true (by kernel_rfl)) (by kernel_rfl) (by kernel_rfl) (Eq.mpr (same155 v0 v1 v2 v3 k w) h)

def pl161 : Plans := fun _ => ⟨false, [], .nil⟩
def S161 (v0 v1 v2 v3 v4 : Value) (k : Value → World → Prop) (w : World) : Prop :=
 Rd Try.prog (WS.at w) (ze_ .len #[27] 3 [false] [v2]) fun t1 =>
 Rd Try.prog (WS.at w) (sBin .eql 3 true t1 (.int .i64 0)) fun t2 =>
 zi_ t2
  (Rd Try.prog (WS.at w) (sBin .eql 3 false v3 v4) fun t3 =>
  k t3 w)
  (zfb_ [19, 20, 21, 24, 25, 26, 27, 28, 29, 30, 31, 32, 33, 34, 35, 36, 37, 38, 39, 40, 10, 22, 23, 11] (fun Q4 f5 w6 =>
   Rd Try.prog (WS.at w6) (sBin .leq 3 false (f5 11) (f5 4)) fun t7 =>
   zi_ t7
    (Rd Try.prog (WS.at w6) (zd_ 27 (f5 2) (.int .i64 0)) fun t8 =>
    Rd Try.prog (WS.at w6) (zc_ 3 t8) fun t9 =>
    CallK Try.prog 255 [(f5 0), (f5 1), t9, (f5 3), (f5 11)] (fun t10 w11 =>
    za_ t10 true (fun k w' => k (f5 0) w') (fun t12 w13 =>
    za_ t10 true (fun k w' => k (f5 1) w') (fun t14 w15 =>
    za_ t10 true (fun k w' => k (f5 2) w') (fun t16 w17 =>
    za_ t10 true (fun k w' => Rd Try.prog (WS.at w17) (zrb_ 27 t16 (some (.int .i64 1)) none none) fun v => k v w') (fun t18 w19 =>
    za_ t10 true (fun k w' => k (f5 11) w') (fun t20 w21 =>
    za_ t10 true (fun k w' => k (f5 4) w') (fun t22 w23 =>
    za_ t10 true (fun k w' => CallK Try.prog 161 [t12, t14, t18, t20, t22] k w') (fun t24 w25 =>
    Rd Try.prog (WS.at w25) (zw_ t10 t24 (.bool false)) fun t26 =>
    zi_ t26
     (Q4 .ret (F.upd (F.upd (F.upd (F.upd (F.upd (F.upd (F.upd (F.upd (F.upd (F.upd (F.upd (F.upd (F.upd (F.upd (F.upd (F.upd (F.upd (F.upd (F.upd (F.upd (F.upd f5 19 (f5 11)) 20 (f5 4)) 21 t7) 24 (f5 0)) 25 (f5 1)) 26 (f5 2)) 27 t8) 28 t9) 29 (f5 3)) 30 (f5 11)) 31 t10) 32 t10) 33 t12) 34 t14) 35 t16) 36 t18) 37 t20) 38 t22) 39 t24) 40 t26) 10 (.bool true)) w25)
     (Rd Try.prog (WS.at w25) (sBin .add 3 true (f5 11) (.int .i64 1)) fun t27 =>
     Q4 .normal (F.upd (F.upd (F.upd (F.upd (F.upd (F.upd (F.upd (F.upd (F.upd (F.upd (F.upd (F.upd (F.upd (F.upd (F.upd (F.upd (F.upd (F.upd (F.upd (F.upd (F.upd (F.upd (F.upd f5 19 (f5 11)) 20 (f5 4)) 21 t7) 24 (f5 0)) 25 (f5 1)) 26 (f5 2)) 27 t8) 28 t9) 29 (f5 3)) 30 (f5 11)) 31 t10) 32 t10) 33 t12) 34 t14) 35 t16) 36 t18) 37 t20) 38 t22) 39 t24) 40 t26) 22 (f5 11)) 23 t27) 11 t27) w25)) w23) w21) w19) w17) w15) w13) w11) w6)
    (Q4 (.exit 0) (F.upd (F.upd (F.upd f5 19 (f5 11)) 20 (f5 4)) 21 t7) w6))
   (zt_ 0 (seqQ (fun f28 w29 =>
  k (.bool false) w29) (zr_ Try.prog [.tmp 10] k)))
   (F.upd (F.upd (F.upd (F.upd (F.upd (F.upd (zm_ [v0, v1, v2, v3, v4]) 10 (.bool false)) 12 v2) 13 t1) 14 t2) 18 v3) 11 v3) w)
theorem body161 : Try.f161.body = some (zg_ Try.f161) := by kernel_rfl
theorem same161 (v0 v1 v2 v3 v4 : Value) (k : Value → World → Prop) (w : World) : wpF Try.prog pl161 (zg_ Try.f161) (zr_ Try.prog Try.f161.results.toList k) (zm_ [v0, v1, v2, v3, v4]) w = S161 v0 v1 v2 v3 v4 k w := by kernel_rfl
theorem enter161 {v0 v1 v2 v3 v4 : Value} {k : Value → World → Prop} {w : World} (h : S161 v0 v1 v2 v3 v4 k w) : CallK Try.prog 161 [v0, v1, v2, v3, v4] k w :=
  call_of_wpF (pl := pl161) zab_ Try.func161 body161 (by kernel_rfl) (of_decide_eq_true (by kernel_rfl)) (by kernel_rfl) (by kernel_rfl) (Eq.mpr (same161 v0 v1 v2 v3 v4 k w) h)

def pl255 : Plans := fun _ => ⟨false, [], .nil⟩
def S255 (v0 v1 v2 v3 v4 : Value) (k : Value → World → Prop) (w : World) : Prop :=
 Rd Try.prog (WS.at w) (sBin .lss 3 true v2 (.int .i64 0)) fun t1 =>
 zi_ t1
  (Rd Try.prog (WS.at w) (sBin .add 3 true v3 (.int .i64 1)) fun t2 =>
  Rd Try.prog (WS.at w) (sBin .eql 3 false v4 t2) fun t3 =>
  za_ t3 true (fun k w' => k v1 w') (fun t4 w5 =>
  za_ t3 true (fun k w' => k v3 w') (fun t6 w7 =>
  za_ t3 true (fun k w' => Rd Try.prog (WS.at w7) (zd_ 27 t4 t6) fun v => k v w') (fun t8 w9 =>
  za_ t3 true (fun k w' => Rd Try.prog (WS.at w9) (zc_ 3 t8) fun v => k v w') (fun t10 w11 =>
  za_ t3 true (fun k w' => k v2 w') (fun t12 w13 =>
  za_ t3 true (fun k w' => Rd Try.prog (WS.at w13) (sBin .sub 3 true (.int .i64 (-1)) t12) fun v => k v w') (fun t14 w15 =>
  za_ t3 true (fun k w' => Rd Try.prog (WS.at w15) (sBin .eql 3 false t10 t14) fun v => k v w') (fun t16 w17 =>
  Rd Try.prog (WS.at w17) (zw_ t3 t16 (.bool false)) fun t18 =>
  k t18 w17) w15) w13) w11) w9) w7) w5) w)
  (Rd Try.prog (WS.at w) (zd_ 134 v0 v2) fun t19 =>
  Rd Try.prog (WS.at w) (zc_ 136 t19) fun t20 =>
  Rd Try.prog (WS.at w) (ze_ .len #[27] 3 [false] [v1]) fun t21 =>
  Rd Try.prog (WS.at w) (sBin .add 3 true t21 (.int .i64 1)) fun t22 =>
  Rd Try.prog (WS.at w) (sBin .mul 3 false v3 t22) fun t23 =>
  Rd Try.prog (WS.at w) (sBin .add 3 false t23 v4) fun t24 =>
  Rd Try.prog (WS.at w) (zd_ 136 t20 t24) fun t25 =>
  Rd Try.prog (WS.at w) (zc_ 4 t25) fun t26 =>
  k t26 w)
theorem body255 : Try.f255.body = some (zg_ Try.f255) := by kernel_rfl
theorem same255 (v0 v1 v2 v3 v4 : Value) (k : Value → World → Prop) (w : World) : wpF Try.prog pl255 (zg_ Try.f255) (zr_ Try.prog Try.f255.results.toList k) (zm_ [v0, v1, v2, v3, v4]) w = S255 v0 v1 v2 v3 v4 k w := by kernel_rfl
theorem enter255 {v0 v1 v2 v3 v4 : Value} {k : Value → World → Prop} {w : World} (h : S255 v0 v1 v2 v3 v4 k w) : CallK Try.prog 255 [v0, v1, v2, v3, v4] k w :=
  call_of_wpF (pl := pl255) zab_ Try.func255 body255 (by kernel_rfl) (of_decide_eq_true (by kernel_rfl)) (by kernel_rfl) (by kernel_rfl) (Eq.mpr (same255 v0 v1 v2 v3 v4 k w) h)

end Go.Proofs.Ytegcjkhebecgbaa

set_option linter.unusedSimpArgs false
namespace Go.Sh
open Go
structure TabS (w : World) (U : Option Addr) (nons n : Nat) (T : Tab) : Prop where
  ptr : 0 < nons → U = some (ad U)
  row : ∀ x, x < nons → ∃ R c, w.cell? ((ad U).add x) = some (.slice R (n * n) c) ∧ R = some (ad R) ∧ ∀ i j, i < n → j < n → w.cell? ((ad R).add (i * n + j)) = some (.bool (T x i j))
theorem TabS.gr {w w' : World} {U : Option Addr} {nons n : Nat} {T : Tab} (h : TabS w U nons n T) (g : Gr w w') : TabS w' U nons n T := ⟨h.ptr, fun x hx => by
  obtain ⟨R, c, h1, h2, h3⟩ := h.row x hx
  exact ⟨R, c, g.cell h1, h2, fun i j hi hj => g.cell (h3 i j hi hj)⟩⟩
def rowB (T : Tab) (n x : Nat) : List Value := (List.range (n * n)).map fun p => .bool (T x (p / n) (p % n))
def zfe_ (T : Tab) (nons n : Nat) : List (List Value) := (List.range nons).map (rowB T n)
theorem zcg_ (T : Tab) (n x : Nat) : (rowB T n x).length = n * n := by simp [rowB]
theorem zyd_ (T : Tab) (nons n : Nat) : (zfe_ T nons n).length = nons := by simp [zfe_]
theorem zgj_ {T : Tab} {nons n x : Nat} (h : x < nons) : vls (zfe_ T nons n) x = rowB T n x := by
  rw [vls_eq (by rw [zyd_]; exact h)]
  simp [zfe_]
theorem zff_ {n i j : Nat} (hi : i < n) (hj : j < n) : i * n + j < n * n := by
  have : (i + 1) * n ≤ n * n := Nat.mul_le_mul_right n hi
  rw [Nat.add_mul] at this
  omega
theorem rowB_at {T : Tab} {n x i j : Nat} (hi : i < n) (hj : j < n) : (rowB T n x)[i * n + j]? = some (.bool (T x i j)) := by
  have hn : 0 < n := by omega
  have e1 : (i * n + j) / n = i := by rw [Nat.mul_comm, Nat.mul_add_div hn, Nat.div_eq_of_lt hj, Nat.add_zero]
  have e2 : (i * n + j) % n = j := by rw [Nat.mul_comm, Nat.mul_add_mod, Nat.mod_eq_of_lt hj]
  simp [rowB, zff_ hi hj, e1, e2]
theorem rowB_put {T : Tab} {n x i j : Nat} (hi : i < n) (hj : j < n) : (rowB T n x).set (i * n + j) (.bool true) = rowB (T.put x i j) n x := by
  have hn : 0 < n := by omega
  refine List.ext_getElem? fun p => ?_
  rw [List.getElem?_set]
  by_cases hp : i * n + j = p
  · subst hp
    rw [if_pos rfl, if_pos (by rw [zcg_]; exact zff_ hi hj), rowB_at hi hj]
    simp [Tab.put]
  · rw [if_neg hp]
    simp only [rowB, List.getElem?_map, List.getElem?_range']
    by_cases hlt : p < n * n
    · simp only [List.getElem?_range hlt, Option.map_some, Tab.put]
      have : ¬ (x = x ∧ p / n = i ∧ p % n = j) := by
        rintro ⟨_, h1, h2⟩
        apply hp
        have := Nat.div_add_mod p n
        rw [h1, h2, Nat.mul_comm] at this
        exact this
      rw [if_neg (fun h => this ⟨rfl, h.2⟩)]
    · rw [List.getElem?_eq_none (by simp; omega)]
      rfl
theorem rowB_other {T : Tab} {n x y i j : Nat} (h : y ≠ x) : rowB (T.put x i j) n y = rowB T n y := by
  simp [rowB, Tab.put, h]
theorem rowsB_put {T : Tab} {nons n x i j : Nat} (hx : x < nons) (hi : i < n) (hj : j < n) : (zfe_ T nons n).set x ((vls (zfe_ T nons n) x).set (i * n + j) (.bool true)) = zfe_ (T.put x i j) nons n := by
  rw [zgj_ hx, rowB_put hi hj]
  refine List.ext_getElem? fun p => ?_
  rw [List.getElem?_set]
  by_cases hp : x = p
  · subst hp
    rw [if_pos rfl, if_pos (by rw [zyd_]; exact hx)]
    simp [zfe_, hx]
  · rw [if_neg hp]
    by_cases hlt : p < nons
    · simp [zfe_, hlt, rowB_other (fun e => hp e.symm)]
    · rw [List.getElem?_eq_none (by rw [zyd_]; omega), List.getElem?_eq_none (by rw [zyd_]; omega)]
theorem OwnV.tab {e1 e2 : Nat} {w : World} {B c nons n : Nat} {X : Option Addr} {T : Tab} {ps : Nat → Option Addr × Nat} (h : OwnV e1 e2 w B X c (zfe_ T nons n) ps) (hn : 0 < n) : TabS w X nons n T := by
  refine ⟨fun hp => h.ptr (by rw [zyd_]; exact hp), fun x hx => ?_⟩
  have hx' : x < (zfe_ T nons n).length := by rw [zyd_]; exact hx
  have hc := h.cell hx'
  have ho := h.own x hx'
  rw [zgj_ hx, zcg_] at hc ho
  refine ⟨_, _, hc, ho.ptr (Nat.mul_pos hn hn), fun i j hi hj => ho.src.cell _ _ (rowB_at hi hj)⟩
theorem zxm_ {α : Type} (f : α → Nat → α) (s : α) (n : Nat) : (List.range (n + 1)).foldl f s = f ((List.range n).foldl f s) n := by
  rw [List.range_succ, List.foldl_append]
  rfl
theorem zwk_ {α : Type} (f : α → Nat → α) (s : α) (a n : Nat) : (List.range' a (n + 1)).foldl f s = f ((List.range' a n).foldl f s) (a + n) := by
  rw [List.range'_concat, List.foldl_append]
  simp
theorem zvr_ {α : Type} (f : α → RuleL → α) (s : α) (rs : List RuleL) {n : Nat} (h : n < rs.length) : (rs.take (n + 1)).foldl f s = f ((rs.take n).foldl f s) (rul rs n) := by
  rw [List.take_succ_eq_append_getElem h, List.foldl_append, zpf_ h]
  rfl
end Go.Sh
namespace Go.Proofs.Ytegcjkhebecgbaa
open Go Go.Sh Go.RowKit

theorem l4Symbol_c {w : World} {U X : Option Addr} {cu cx nons : Nat} {T : Tab} {ws : List Int} {x : Int} {i j : Nat} (hT : TabS w U nons (ws.length + 1) T) (hX : Ints w X ws) (hl : ws.length ≤ 10) (hx : x < nons) (hx0 : -100 ≤ x) (hi : i ≤ j) (hj : j ≤ ws.length) {k : Value → World → Prop} (hk : k (.bool (symT T ws x i j)) w) :
    CallK Try.prog 255 [.slice U nons cu, .slice X ws.length cx, .int .i64 x, .int .i64 i, .int .i64 j] k w := by
  refine enter255 ?_
  unfold S255
  simp only [go_sem, Nat.reduceEqDiff]
  by_cases hneg : x < 0
  · simp only [hneg, decide_true, go_sem, Nat.reduceEqDiff]
    rw [zj_ (n := (i : Int) + 1) (by omega) (by omega)]
    unfold symT at hk
    rw [if_pos hneg] at hk
    by_cases he : j = i + 1
    · subst he
      simp only [show (((i + 1 : Nat) : Int) = (i : Int) + 1) from rfl, decide_true, go_sem, Nat.reduceEqDiff]
      rw [zub_ hX.ptr (by omega), ld3 (hX.cell i (by omega))]
      simp only [go_sem, Nat.reduceEqDiff]
      rw [zj_ (by omega) (by omega)]
      simpa only [decide_true, Bool.true_and] using hk
    · simp only [show ¬ ((j : Int) = (i : Int) + 1) from by omega, decide_false, go_sem, Nat.reduceEqDiff]
      simpa only [he, decide_false, Bool.false_and] using hk
  · simp only [hneg, decide_false, go_sem, Nat.reduceEqDiff]
    unfold symT at hk
    rw [if_neg hneg] at hk
    obtain ⟨x, rfl⟩ : ∃ x' : Nat, x = x' := ⟨x.toNat, by omega⟩
    rw [Int.toNat_natCast] at hk
    obtain ⟨R, c, h1, h2, h3⟩ := hT.row x (by omega)
    have hm : (i : Int) * ((ws.length : Int) + 1) = ((i * (ws.length + 1) : Nat) : Int) := by push_cast; rfl
    have hb := zff_ (n := ws.length + 1) (show i < ws.length + 1 by omega) (show j < ws.length + 1 by omega)
    have hnn : (ws.length + 1) * (ws.length + 1) ≤ 11 * 11 := Nat.mul_le_mul (by omega) (by omega)
    rw [ixn134 (fun h => hT.ptr h) (by omega), ld136 h1, zj_ (n := (ws.length : Int) + 1) (by omega) (by omega), hm, zj_ (n := ((i * (ws.length + 1) : Nat) : Int)) (by omega) (by omega), zj_ (by omega) (by omega)]
    rw [show (((i * (ws.length + 1) : Nat) : Int) + (j : Int)) = ((i * (ws.length + 1) + j : Nat) : Int) from by push_cast; rfl]
    rw [ixn136 (fun _ => h2) hb, ld4 (h3 i j (by omega) (by omega))]
    exact hk
theorem l4Fits_c {ws : List Int} (hl : ws.length ≤ 10) {nons : Nat} : ∀ (right : List Int) {w : World} {U X Y : Option Addr} {cu cx cy : Nat} {T : Tab} {i j : Nat} {k : Value → World → Prop}, TabS w U nons (ws.length + 1) T → Ints w X ws → Ints w Y right → right.length ≤ cy → (∀ x ∈ right, x < nons ∧ -100 ≤ x) → i ≤ j → j ≤ ws.length → k (.bool (zbd_ T ws right i j)) w →
    CallK Try.prog 161 [.slice U nons cu, .slice X ws.length cx, .slice Y right.length cy, .int .i64 i, .int .i64 j] k w := by
  intro right
  induction right with
  | nil =>
    intro w U X Y cu cx cy T i j k hT hX hY hcy hr hi hj hk
    refine enter161 ?_
    unfold S161
    simp only [go_sem, List.length_nil]
    simp only [Int.natCast_zero, decide_true, go_sem, Nat.reduceEqDiff, Int.natCast_inj]
    exact hk
  | cons x right ih =>
    intro w U X Y cu cx cy T i j k hT hX hY hcy hr hi hj hk
    refine enter161 ?_
    unfold S161
    simp only [go_sem, List.length_cons]
    simp only [show ¬ (((right.length + 1 : Nat) : Int) = 0) from by omega, decide_false, go_sem, Nat.reduceEqDiff]
    have hfs : zbd_ T ws (x :: right) i j = (List.range' i (j + 1 - i)).any fun m => symT T ws x i m && zbd_ T ws right m j := rfl
    rw [hfs] at hk
    have hx := hr x (List.mem_cons_self ..)
    have hr' : ∀ y ∈ right, y < nons ∧ -100 ≤ y := fun y hy => hr y (List.mem_cons_of_mem _ hy)
    have hYl := hY.le
    simp only [List.length_cons] at hYl hcy
    have hY' : Ints w (sub Y 1 cy 1) right := by
      have := hY.sub (l := 1) (c := cy) (by simp) (by simp; omega) (right.length)
      simpa using this
    refine zhb_ (j + 1) i (fun m f w' => i ≤ m ∧ m ≤ j + 1 ∧ f 11 = .int .i64 m ∧ (∀ m', i ≤ m' → m' < m → (symT T ws x i m' && zbd_ T ws right m' j) = false) ∧ w' = w) ⟨Nat.le_refl _, by omega, rfl, fun m' h1 h2 => by omega, rfl⟩ ?_
    rintro m f w' N hag ⟨hm1, hm2, h11, hno, rfl⟩ hN
    have f0 : f 0 = .slice U nons cu := hag 0 (by decide)
    have f1 : f 1 = .slice X ws.length cx := hag 1 (by decide)
    have f2 : f 2 = .slice Y (right.length + 1) cy := hag 2 (by decide)
    have f3 : f 3 = .int .i64 i := hag 3 (by decide)
    have f4 : f 4 = .int .i64 j := hag 4 (by decide)
    simp only [f0, f1, f2, f3, f4, h11, go_sem, Nat.reduceEqDiff]
    by_cases hle : m ≤ j
    case neg =>
      simp only [show ¬ ((m : Int) ≤ j) from by omega, decide_false, go_sem, Nat.reduceEqDiff]
      rw [any_upto (fun m' h1 h2 => hno m' h1 (by omega))] at hk
      exact hk
    simp only [show ((m : Int) ≤ j) from by omega, decide_true, go_sem, Nat.reduceEqDiff]
    rw [zvd_ (fun _ => hY.ptr (by simp)) (by omega), ld3 (hY.cell 0 (by simp))]
    simp only [List.getD_cons_zero]
    refine l4Symbol_c hT hX hl hx.1 hx.2 hm1 (by omega) ?_
    cases hs : symT T ws x i m
    · simp only [go_sem, Nat.reduceEqDiff]
      rw [zj_ (by omega) (by omega)]
      exact hN _ _ (by omega) ⟨by omega, by omega, rfl, fun m' h1 h2 => by
        by_cases e : m' = m
        · rw [e, hs, Bool.false_and]
        · exact hno m' h1 (by omega), rfl⟩
    · simp only [go_sem, Nat.reduceEqDiff]
      rw [sll27 (by decide) (by omega)]
      rw [show (1 : Int).toNat = 1 from rfl, Nat.add_sub_cancel]
      refine ih hT hX hY' (by omega) hr' (by omega) hj ?_
      cases hf : zbd_ T ws right m j
      · simp only [go_sem, Nat.reduceEqDiff]
        rw [zj_ (by omega) (by omega)]
        exact hN _ _ (by omega) ⟨by omega, by omega, rfl, fun m' h1 h2 => by
          by_cases e : m' = m
          · rw [e, hf, Bool.and_false]
          · exact hno m' h1 (by omega), rfl⟩
      · simp only [go_sem, Nat.reduceEqDiff]
        rw [any_at hm1 hle (by rw [hs, hf]; rfl)] at hk
        exact hk
end Go.Proofs.Ytegcjkhebecgbaa

namespace Go.Sh
open Go
def zhf_ (ps : List PT) : List (List Int) := ps.map PT.row
theorem zxk_ (ps qs : List PT) : zhf_ (ps ++ qs) = zhf_ ps ++ zhf_ qs := List.map_append
theorem zuc_ (ps : List PT) : (zhf_ ps).length = ps.length := List.length_map _
theorem zyk_ {R : List Int} {i : Nat} (h : i < R.length) : R.drop i = R.getD i 0 :: R.drop (i + 1) := by
  rw [List.drop_eq_getElem_cons h]
  simp [List.getD_eq_getElem?_getD, h]
theorem rdG_aggC {P : Program} {k : Value → Prop} {w : World} {h : Gr w w} {t n : Nat} {a : Addr} {cs : List Value} (ht : agg P t) (hs : szOf P t n) (hn : cs.length = n) (hc : ∀ j (h : j < cs.length), w.cell? (a.add j) = some cs[j]) : Rd P ⟨fun w' => Gr w w', w, h⟩ (zc_ t (.pointer (some a))) k = k (.agg cs.toArray) :=
  zhh_ ht hs hn fun w' hw j hj => Gr.cell hw (hc j hj)
end Go.Sh
namespace Go.Proofs.Ytegcjkhebecgbaa
open Go Go.Sh Go.RowKit

theorem zfk_ {gm : Gram} {tree : List Int} {X : Option Addr} {c : Nat} (hg : zy_ gm = true) (ht : tree.length ≤ 1000) : ∀ (fu : Nat) {F : Nat → Prop} {w : World} {v : Value} {non : Int} {a : Nat} {ws ws' : List Int} {p : PT} {k : Value → World → Prop}, GramV F w v gm → Ints w X tree → ztb_ gm.rules tree fu non a ws = some (p, ws') → ws'.length ≤ 1000000 →
    (∀ w' Y d ps, Gr w w' → OwnSS 27 3 w' w.heap.size Y d (zhf_ p.parts) ps → k (.tuple #[.slice Y (zhf_ p.parts).length d, .int .i64 ws'.length]) w') →
    CallK Try.prog 225 [v, .slice X tree.length c, .int .i64 a, .int .i64 ws.length] k w := by
  have hr16 := zhg_ hg
  intro fu
  induction fu with
  | zero => intro F w v non a ws ws' p k hv hx hr; cases hr
  | succ fu ih =>
    intro F w v non a ws ws' p k hv hx hr hW hk
    obtain ⟨Y, cy, rfl, hc, hy⟩ := hv
    have hfin := zpp_ hr
    obtain ⟨hlaid, hfe, _⟩ := zdf_ _ _ _ _ _ _ _ _ hr
    have hmono := (zbg_ (zwd_ hg) _ _ _ _ _ _ hr).1
    obtain ⟨q, ks', e', hlt, hqe, hq, hnon, hR, rfl⟩ := zmr_ hr
    simp only [PT.parts, List.length_cons, PT.fin] at hfe hfin
    obtain ⟨Z, cz, h1, h2, h3, h4⟩ := hy.row q hq
    refine enter225 ?_
    unfold S225
    have H := Apt.nil w
    refine boxH H fun b1 w1 H => ?_
    have H := H.drew
    refine ⟨fun w' => Gr w1.drew w', Gr.refl _, ?_⟩
    simp only [go_sem, Nat.reduceEqDiff]
    rw [rdG one24 (H.box 0 rfl) rfl, zub_ hx.ptr hlt, ldS3 (fun w' hw' => Gr.cell hw' ((hx.gr H.gr).cell a hlt)), hqe, zwe_ hy.ptr hq]
    have G := H.gr
    rw [rdG_aggC zbe_ sz33 (cs := [.int .i64 (rul gm.rules q).1, .slice Z (rul gm.rules q).2.length cz]) rfl (fun j hj => by
      match j, hj with
      | 0, _ => rw [zhc_, Nat.add_zero]; exact G.cell h1
      | 1, _ => rw [zhc_]; exact G.cell h2)]
    refine zag_ zhd_ fun b2 w2 g2 hb2 hB2 => ?_
    refine ⟨g2, ?_⟩
    have H := H.addBox g2 hb2 hB2
    refine zyb_ H 1 rfl sz33 rfl rfl rfl fun w3 H => ?_
    simp only [go_sem, Nat.reduceEqDiff]
    rw [ldB3 (H.box 1 rfl) rfl]
    refine zjd_ H u27 inf3 [.int .i64 (rul gm.rules q).1, .int .i64 0, .int .i64 ws.length, .int .i64 0] (by decide) (by decide) (by simp [Instr.fill, madeCells, Value.cells, rng4]) rfl fun b3 w4 H => ?_
    refine zjd_ H u35 zgf_ [.slice (some ⟨b3, 0, none⟩) 4 4] (by decide) (by decide) (by simp [Instr.fill, madeCells, Value.cells, rng1]) rfl fun b4 w5 H => ?_
    have H := H.single (i := 3) (j := 2) (by decide) (ys := [(rul gm.rules q).1, 0, (ws.length : Int), 0]) rfl rfl
    have H := H.erase 2
    rw [hnon] at H
    rw [zrd_ (H.box 1 rfl) rfl]
    simp only [go_sem, Nat.reduceEqDiff]
    simp only [List.nil_append, List.cons_append, List.set_cons_zero, List.set_cons_succ, List.eraseIdx_cons_zero, List.eraseIdx_cons_succ] at H
    clear h1 h2
    have hmono' := hmono
    generalize (rul gm.rules q).2 = R at *
    refine zhb_ R.length 0 (fun i f w' => i ≤ R.length ∧ f 34 = .int .i64 i ∧ ∃ (ks : List PT) (cur : List Int) (U : Option Addr) (d : Nat) (ps : Nat → Option Addr × Nat), f 12 = .int .i64 cur.length ∧ f 11 = .slice U (1 + (PT.partsL ks).length) d ∧ Laid (PT.partsL ks) (a + 1) ∧ zxb_ (ztb_ gm.rules tree fu) (R.drop i) (a + 1 + (PT.partsL ks).length) cur ks = some (ks', e', ws') ∧
      Apt w w' [bx b1 [.int .i64 gm.nons, .int .i64 gm.toks, .slice Y gm.rules.length cy] 26, bx b2 [.int .i64 non, .slice Z R.length cz] 33, lss U d ([non, 0, (ws.length : Int), 0] :: zhf_ (PT.partsL ks)) ps])
      ⟨Nat.zero_le _, rfl, [], ws, _, _, _, rfl, rfl, fun i hi => by simp [PT.partsL] at hi, by simpa [PT.partsL] using hR, H⟩ ?_
    rintro i f w6 N hag ⟨hi, h34, ks, cur, U, d, ps, h12, h11, hL, hE, H⟩ hN
    have f32 : f 32 = .slice Z R.length cz := hag 32 (by decide)
    have f33 : f 33 = .int .i64 R.length := hag 33 (by decide)
    have f4 : f 4 = .pointer (some ⟨b1, 0, none⟩) := hag 4 (by decide)
    have f1 : f 1 = .slice X tree.length c := hag 1 (by decide)
    have f2 : f 2 = .int .i64 a := hag 2 (by decide)
    simp only [f32, f33, f4, f1, f2, h34, h12, h11, go_sem, Nat.reduceEqDiff]
    have hcur := zdi_ (zbg_ (zwd_ hg) fu) _ _ _ _ hE
    have hlk := readR_grow _ _ _ _ hE
    by_cases hlt2 : i < R.length
    · simp only [show (i : Int) < R.length from by omega, decide_true, go_sem, Nat.reduceEqDiff]
      rw [zyk_ hlt2] at hE
      have hRl := h4.is.le
      rw [zub_ h4.is.ptr hlt2, ld3 ((h4.is.gr H.gr).cell i hlt2)]
      by_cases hneg : R.getD i 0 < 0
      · simp only [hneg, decide_true, go_sem, Nat.reduceEqDiff]
        rw [zru_ hneg] at hE
        have hcur' := zdi_ (zbg_ (zwd_ hg) fu) _ _ _ _ hE
        rw [List.length_append] at hcur'
        simp only [List.length_cons, List.length_nil] at hcur'
        rw [zj_ (by omega) (by omega), zj_ (by omega) (by omega)]
        exact hN _ _ hlt2 ⟨hlt2, rfl, ks, cur ++ [-1 - R.getD i 0], U, d, ps, by simp; rfl, h11, hL, hE, H⟩
      · simp only [hneg, decide_false, go_sem, Nat.reduceEqDiff]
        obtain ⟨kid, w7, hz, hE'⟩ := readR_non hneg hE
        have hkw := (zdi_ (zbg_ (zwd_ hg) fu) _ _ _ _ hE').1
        obtain ⟨hkl, hkf, _⟩ := zdf_ _ _ _ _ _ _ _ _ hz
        have hkle := zpp_ hz
        rw [zv_ zdb_ sz26 rfl (H.box 0 rfl)]
        rw [zj_ (n := (a : Int) + _) (by omega) (by omega)]
        rw [show ((a : Int) + ((1 + (PT.partsL ks).length : Nat) : Int)) = ((a + 1 + (PT.partsL ks).length : Nat) : Int) from by omega]
        refine ih (non := R.getD i 0) ⟨Y, cy, rfl, hc, hy.gr H.gr⟩ (hx.gr H.gr) hz (by omega) fun w8 V d' ps' g8 o8 => ?_
        have H := H.addLss g8 o8
        simp only [go_sem, Nat.reduceEqDiff]
        refine zpu_ H 2 3 (by decide) rfl rfl (by simp [zuc_]; omega) rfl (by simp only [List.length_cons, zuc_]; omega) fun U' d' w9 ps'' H => ?_
        have H := H.erase 3
        rw [zj_ (by omega) (by omega)]
        refine hN _ _ hlt2 ⟨hlt2, rfl, ks ++ [kid], w7, U', d', ps'', rfl, ?_, ?_, ?_, ?_⟩
        · simp only [List.cons_append, List.length_cons, List.length_append, zuc_, zcc_, PT.partsL, List.append_nil]
          rw [show (PT.partsL ks).length + kid.parts.length + 1 = 1 + ((PT.partsL ks).length + kid.parts.length) from by omega]
          rfl
        · rw [zcc_]
          exact hL.append (by simpa [PT.partsL] using hkl)
        · rw [zcc_]
          simp only [PT.partsL, List.append_nil, List.length_append]
          rw [show a + 1 + ((PT.partsL ks).length + kid.parts.length) = kid.fin from by omega]
          exact hE'
        · rw [zcc_, zxk_]
          simp only [PT.partsL, List.append_nil]
          exact H
    · simp only [show ¬ (i : Int) < R.length from by omega, decide_false, go_sem, Nat.reduceEqDiff]
      rw [List.drop_eq_nil_of_le (by omega), zxb_] at hE
      simp only [Option.some.injEq, Prod.mk.injEq] at hE
      obtain ⟨rfl, rfl, rfl⟩ := hE
      have o := H.lssi 2 rfl
      have hU := o.ptr (by simp)
      have hi0 := (o.own 0 (by simp)).ptr (show 0 < 4 by decide)
      refine rdi (ix35_0 (fun _ => hU) (by omega)) (rdi (ld27 (o.cell (j := 0) (by simp))) (rdi (zmf_ (fun _ => hi0) (show 1 < 4 by decide)) ?_))
      rw [zj_ (by omega) (by omega)]
      refine putSSH H 2 0 (m := 1) rfl (by simp) (show 1 < 4 by decide) fun w7 H => ?_
      simp only [List.set_cons_zero, List.set_cons_succ, rgt, List.getD_cons_zero] at H
      have o := H.lssi 2 rfl
      have hi0 := (o.own 0 (by simp)).ptr (show 0 < 4 by decide)
      refine rdi (ix35_0 (fun _ => hU) (by omega)) (rdi (ld27 (o.cell (j := 0) (by simp))) (rdi (zye_ (fun _ => hi0) (show 3 < 4 by decide)) ?_))
      refine putSSH H 2 0 (m := 3) rfl (by simp) (show 3 < 4 by decide) fun w8 H => ?_
      simp only [List.set_cons_zero, List.set_cons_succ, rgt, List.getD_cons_zero] at H
      have o := H.lssi 2 rfl
      have e1 : ((a : Int) + ((1 + (PT.partsL ks).length : Nat) : Int)) = ((a + 1 + (PT.partsL ks).length : Nat) : Int) := by omega
      rw [e1] at o
      have e2 : (zhf_ (PT.mk non q a (a + 1 + (PT.partsL ks).length) ws.length cur.length ks).parts).length = 1 + (PT.partsL ks).length := by
        simp only [zuc_, PT.parts, List.length_cons]
        omega
      have := hk w8 U d ps H.gr (by simp only [PT.parts]; exact o)
      rwa [e2] at this
end Go.Proofs.Ytegcjkhebecgbaa

namespace Go.Sh
open Go
theorem zym_ {ks : List PT} {i : Nat} (h : i < ks.length) : PT.partsL (ks.take (i + 1)) = PT.partsL (ks.take i) ++ (ptn ks i).parts := by
  rw [List.take_succ_eq_append_getElem h, zcc_, zxd_ h]
  simp [PT.partsL]
theorem zwt_ {ks : List PT} (i : Nat) : (PT.partsL (ks.take i)).length ≤ (PT.partsL ks).length := by
  have e : PT.partsL ks = PT.partsL (ks.take i) ++ PT.partsL (ks.drop i) := by rw [← zcc_, List.take_append_drop]
  rw [e, List.length_append]
  omega
theorem ptrs_one (bs : List Nat) : ∀ v ∈ bs.map ptrv, v.oneCell' = true := by
  intro v hv
  obtain ⟨b, _, rfl⟩ := List.mem_map.1 hv
  rfl
theorem ptrs_at {bs : List Nat} {i : Nat} (h : i < bs.length) : (bs.map ptrv)[i]? = some (ptrv (bs.getD i 0)) := by simp [List.getD_eq_getElem?_getD, h]
theorem ptn_drop {ps : List PT} {i n j : Nat} (hj : j < n) : ptn ((ps.drop i).take n) j = ptn ps (i + j) := by
  simp [ptn, List.getD_eq_getElem?_getD, List.getElem?_take, hj]
theorem kids_le (ks : List PT) : ks.length ≤ (PT.partsL ks).length := by
  induction ks with
  | nil => simp [PT.partsL]
  | cons k ks ih =>
    rw [PT.partsL, zkg_]
    simp
    omega
theorem zuv_ {P : Program} {t e : TypeId} {a : Option Addr} (ht : P.underlying t = some (.pointer e)) (d : Nat) (w : World) : (Op.equalIn (d + 1) t (.pointer a) (.pointer none)).run P w = .ok a.isNone w := by
  cases a <;> simp [Op.equalIn, run_underlying ht]
theorem zei_ {P : Program} {S : WS} {k : Value → Prop} {t e : TypeId} {c : Bool} {a : Option Addr} (ht : P.underlying t = some (.pointer e)) : Rd P S (sBin .eql t c (.pointer a) (.pointer none)) k = k (.bool a.isNone) := zgc_ fun w _ => by
  have e1 : (eqGuard .eql t (if c then .const undef else .tmp 0) (.tmp 0) (.pointer a) (.pointer none)).run P w = .ok () w := rfl
  have e2 : (binOp .eql t (.pointer a) (.pointer none)).run P w = .ok (.bool a.isNone) w := by
    show Sem.run P (do pure (Value.bool (← Op.equalIn (9999 + 1) t (.pointer a) (.pointer none)))) w = _
    simp only [Sem.run_bind, zuv_ ht 9999 w, Result.andThen]
    rfl
  simp only [sBin, Sem.run_bind, e1, Result.andThen, e2]
  rfl
end Go.Sh
namespace Go.Proofs.Ytegcjkhebecgbaa
open Go Go.Sh Go.RowKit

theorem parts_c : ∀ (n : Nat) {F : Nat → Prop} {w : World} {p : PT} {b : Nat} {k : Value → World → Prop}, p.parts.length ≤ n → n ≤ 1000 → (∀ q, F q → q < w.heap.size) → PartAt F w p b →
    (∀ w' U d bs, Gr w w' → Row w' w.heap.size 151 1 U (List.length bs) d (bs.map ptrv) → AllPt F w' p.parts bs → k (.slice U (List.length bs) d) w') → CallK Try.prog 227 [ptrv b] k w := by
  intro n
  induction n with
  | zero =>
    intro F w p b k hn
    rw [zkg_] at hn
    simp at hn
  | succ n ih =>
    intro F w p b k hn hn1 hF hp hk
    obtain ⟨X, c, hb, hX, hc, hks⟩ := hp.box
    refine enter227 ?_
    unfold S227
    rw [zkg_] at hn hk
    simp only [List.length_cons] at hn
    have hkl := kids_le p.kids
    have H := Apt.nil w
    refine zjd_ H u154 inf151 [ptrv b] (by decide) (by decide) (by simp [Instr.fill, madeCells, Value.cells, rng1]) rfl fun b1 w1 H => ?_
    simp only [go_sem, Nat.reduceEqDiff]
    rw [ldB154 (hb.gr H.gr) rfl]
    simp only [go_sem, Nat.reduceEqDiff]
    refine zhb_ p.kids.length 0 (fun i f w' => i ≤ p.kids.length ∧ f 13 = .int .i64 i ∧ ∃ (U : Option Addr) (d : Nat) (bs : List Nat), f 3 = .slice U bs.length d ∧ AllPt F w' (p :: PT.partsL (p.kids.take i)) bs ∧ Apt w w' [rwi 151 1 U bs.length d (bs.map ptrv)])
      ⟨Nat.zero_le _, rfl, _, _, [b], rfl, by simpa [PT.partsL] using AllPt.one (hp.gr H.gr), H⟩ ?_
    rintro i f w2 N hag ⟨hi, h13, U, d, bs, h3, hA, H⟩ hN
    have f11 : f 11 = .slice X p.kids.length c := hag 11 (by decide)
    have f12 : f 12 = .int .i64 p.kids.length := hag 12 (by decide)
    simp only [f11, f12, h13, h3, go_sem, Nat.reduceEqDiff]
    by_cases hlt : i < p.kids.length
    · simp only [show (i : Int) < p.kids.length from by omega, decide_true, go_sem, Nat.reduceEqDiff]
      obtain ⟨bk, hcell, hpart⟩ := hks.get hlt
      rw [Nat.zero_add] at hcell
      have hle := zwt_ (ks := p.kids) (i + 1)
      rw [zym_ hlt, List.length_append] at hle
      have hAl := hA.1
      simp only [List.length_cons] at hAl
      rw [ixn154 hX hlt, ld151 (H.gr.cell hcell)]
      have G2 := H.gr
      refine ih (by omega) (by omega) (fun q hq => Nat.lt_of_lt_of_le (hF q hq) H.gr.size) (hpart.gr H.gr) fun w3 V d' cs g3 r3 a3 => ?_
      have H := H.addRow g3 r3
      have hal := a3.1
      refine zuh_ H 0 rfl u154 inf151 rfl (by decide) (Row.src (H.row 1 rfl)) (by simp) (ptrs_one cs) (by omega) (by omega) fun X' c' w4 H => ?_
      have H := H.erase 1
      have hA' := (hA.append (a3.across hF (zf_ G2 g3) G2)).across hF G2 H.gr
      rw [zj_ (by omega) (by omega)]
      refine hN _ _ hlt ⟨hlt, rfl, X', c', bs ++ cs, by rw [List.length_append]; rfl, ?_, ?_⟩
      · rw [zym_ hlt]
        exact hA'
      · rw [List.map_append, List.length_append]
        exact H
    · simp only [show ¬ (i : Int) < p.kids.length from by omega, decide_false, go_sem, Nat.reduceEqDiff]
      rw [List.take_of_length_le (by omega)] at hA
      exact hk _ U d bs H.gr (H.row 0 rfl) hA
end Go.Proofs.Ytegcjkhebecgbaa

namespace Go.Sh
open Go
theorem zhj_ {ps : List PT} {i : Nat} (h : i < ps.length) : rgt (zhf_ ps) i = (ptn ps i).row := by
  simp [rgt, zhf_, ptn, List.getD_eq_getElem?_getD, h]
theorem zij_ {w : World} {Y : Option Addr} {p : PT} (h : Ints w Y p.row) : Y = some (ad Y) ∧ w.cell? ((ad Y).add 0) = some (.int .i64 p.non) ∧ w.cell? ((ad Y).add 1) = some (.int .i64 p.fin) ∧ w.cell? ((ad Y).add 2) = some (.int .i64 p.fr) ∧ w.cell? ((ad Y).add 3) = some (.int .i64 p.to) :=
  ⟨h.ptr (by simp [PT.row]), h.cell 0 (by simp [PT.row]), h.cell 1 (by simp [PT.row]), h.cell 2 (by simp [PT.row]), h.cell 3 (by simp [PT.row])⟩
def pumpR (ps : List PT) (i j : Nat) : List Int := [i, j, (ptn ps i).fr, (ptn ps j).fr, (ptn ps j).to, (ptn ps i).to]
theorem zwp_ {ps : List PT} {p q : Nat} (h : Dry ps p q) (hf : zee_ (ptn ps p) (ptn ps q) = false) : Dry ps p (q + 1) := fun q' h1 h2 => by
  by_cases e : q' = q
  · rw [e]; exact hf
  · exact h q' h1 (by omega)
structure Whole (gm : Gram) (tree : List Int) (p : PT) (ws : List Int) : Prop where
  good : zy_ gm = true
  le : tree.length ≤ 60
  read : ztb_ gm.rules tree tree.length 0 0 [] = some (p, ws)
  fin : p.fin = tree.length
theorem Whole.laid {gm : Gram} {tree : List Int} {p : PT} {ws : List Int} (h : Whole gm tree p ws) : Laid p.parts 0 := (zdf_ _ _ _ _ _ _ _ _ h.read).1
theorem Whole.len {gm : Gram} {tree : List Int} {p : PT} {ws : List Int} (h : Whole gm tree p ws) : p.parts.length = tree.length := by
  have := (zdf_ _ _ _ _ _ _ _ _ h.read).2.1
  have := h.fin
  omega
theorem Whole.words {gm : Gram} {tree : List Int} {p : PT} {ws : List Int} (h : Whole gm tree p ws) : ws.length ≤ 240 := by
  have := (zbg_ (zwd_ h.good) _ _ _ _ _ _ h.read).2
  have := h.len
  have := h.le
  simp at *
  omega
theorem asked_whole {gm : Gram} {tree : List Int} : (zdc_ gm tree = true → ∃ p ws, Whole gm tree p ws) ∧ (zdc_ gm tree = false → ∀ p ws, ¬ Whole gm tree p ws) := by
  have he := endT_eq gm.rules tree tree.length 0 0 []
  constructor
  · intro h
    simp only [zdc_, isT, Bool.and_eq_true, decide_eq_true_eq] at h
    rw [h.2.2] at he
    cases hz : ztb_ gm.rules tree tree.length 0 0 [] with
    | none => rw [hz] at he; cases he
    | some z =>
      rw [hz] at he
      exact ⟨z.1, z.2, h.1.1, h.1.2, hz, by simpa using he.symm⟩
  · intro h p ws hw
    have h1 : zdc_ gm tree = true := by
      simp only [zdc_, isT, Bool.and_eq_true, decide_eq_true_eq]
      refine ⟨⟨hw.good, hw.le⟩, ?_, ?_⟩
      · have := hw.len
        rw [zkg_] at this
        simp at this
        omega
      · rw [he, hw.read]
        simp [hw.fin]
    rw [h] at h1
    cases h1
end Go.Sh
namespace Go.Proofs.Ytegcjkhebecgbaa
open Go Go.Sh Go.RowKit

theorem zvu_ {F : Nat → Prop} {w : World} {v : Value} {gm : Gram} {tree : List Int} {X : Option Addr} {n c : Nat} {p : PT} {ws : List Int} (hW : Whole gm tree p ws) (hv : GramV F w v gm) (hx : Ints w X tree) (hn : n = tree.length) {k : Value → World → Prop}
    (hk0 : zvf_ p.parts = none → ∀ w', Gr w w' → k (.slice none 0 0) w') (hk1 : ∀ i j, zvf_ p.parts = some (i, j) → ∀ w' U d, Gr w w' → Own 3 w' w.heap.size U d (pumpR p.parts i j) → k (.slice U 6 d) w') :
    CallK Try.prog 224 [v, .slice X n c] k w := by
  subst hn
  obtain ⟨Y, cy, rfl, hc, hy⟩ := hv
  have hlen := hW.len
  have h60 := hW.le
  have hlaid := hW.laid
  refine enter224 ?_
  unfold S224
  have H := Apt.nil w
  refine boxH H fun b1 w1 H => ?_
  rw [zv_ zdb_ sz26 rfl (H.box 0 rfl)]
  refine zfk_ hW.good (by omega) tree.length (a := 0) (ws := []) ⟨Y, cy, rfl, hc, hy.gr H.gr⟩ (hx.gr H.gr) hW.read (by have := hW.words; omega) fun w2 U d ps g2 o2 => ?_
  have H := H.step g2
  have hss := o2.read
  simp only [go_sem, Nat.reduceEqDiff]
  rw [zuc_]
  generalize hP : p.parts = P at *
  refine zhb_ P.length 0 (fun i f w' => i ≤ P.length ∧ f 19 = .int .i64 i ∧ (∀ p', p' < i → Dry P p' (ptn P p').fin) ∧ Gr w2 w' ∧ Apt w w' [bx b1 [.int .i64 gm.nons, .int .i64 gm.toks, .slice Y gm.rules.length cy] 26]) ⟨Nat.zero_le _, rfl, fun p' h => absurd h (Nat.not_lt_zero _), Gr.refl _, H⟩ ?_
  rintro i f w3 N hag ⟨hi, h19, hdry, G, H⟩ hN
  have f17 : f 17 = .slice U P.length d := hag 17 (by decide)
  have f18 : f 18 = .int .i64 P.length := hag 18 (by decide)
  have f5 : f 5 = .slice U P.length d := hag 5 (by decide)
  simp only [f17, f18, f5, h19, go_sem, Nat.reduceEqDiff]
  by_cases hlt : i < P.length
  case neg =>
    simp only [show ¬ (i : Int) < P.length from by omega, decide_false, go_sem, Nat.reduceEqDiff]
    obtain rfl : i = P.length := by omega
    exact hk0 (ztr_ hdry) _ H.gr
  simp only [show (i : Int) < P.length from by omega, decide_true, go_sem, Nat.reduceEqDiff]
  obtain ⟨V, cV, hv1, hv2, hv3⟩ := hss.row i (by rw [zuc_]; exact hlt)
  rw [zhj_ hlt] at hv1 hv2 hv3
  obtain ⟨x0, x1, x2, x3, x4⟩ := zij_ hv3
  have hU : 0 < P.length → U = some (ad U) := fun h => hss.ptr (by rw [zuc_]; exact h)
  rw [zce_ hU hlt, ld27 (G.cell hv1)]
  rw [zj_ (by omega) (by omega)]
  obtain ⟨l1, l2, l3, l4⟩ := hlaid i hlt
  rw [← zxd_ hlt] at l1 l2 l3 l4
  refine zhb_ (ptn P i).fin (i + 1) (fun j f' w' => i + 1 ≤ j ∧ j ≤ (ptn P i).fin ∧ f' 9 = .int .i64 j ∧ Dry P i j ∧ Gr w2 w' ∧ Apt w w' [bx b1 [.int .i64 gm.nons, .int .i64 gm.toks, .slice Y gm.rules.length cy] 26]) ⟨Nat.le_refl _, by omega, rfl, fun q' h1 h2 => by omega, G, H⟩ ?_
  rintro j f' w4 N' hag' ⟨hj1, hj2, h9, hd, G, H⟩ hN'
  have f8 : f' 8 = .slice V 4 cV := hag' 8 (by decide)
  have f5' : f' 5 = .slice U P.length d := (hag' 5 (by decide)).trans f5
  have f7 : f' 7 = .int .i64 i := hag' 7 (by decide)
  have f19 : f' 19 = .int .i64 i := (hag' 19 (by decide)).trans h19
  simp only [f8, f5', f7, f19, h9, go_sem, Nat.reduceEqDiff]
  rw [zmf_ (fun _ => x0) (by decide), ld3 (G.cell x2)]
  simp only [go_sem, Nat.reduceEqDiff]
  by_cases hltj : j < (ptn P i).fin
  case neg =>
    simp only [show ¬ (j : Int) < (ptn P i).fin from by omega, decide_false, go_sem, Nat.reduceEqDiff]
    obtain rfl : j = (ptn P i).fin := by omega
    rw [zj_ (by omega) (by omega)]
    refine hN _ _ hlt ⟨hlt, rfl, fun p' hp' => ?_, G, H⟩
    by_cases e : p' = i
    · rw [e]; exact hd
    · exact hdry p' (by omega)
  simp only [show (j : Int) < (ptn P i).fin from by omega, decide_true, go_sem, Nat.reduceEqDiff]
  have hjl : j < P.length := by omega
  obtain ⟨V2, cV2, hw1, hw2, hw3⟩ := hss.row j (by rw [zuc_]; exact hjl)
  rw [zhj_ hjl] at hw1 hw2 hw3
  replace hw1 : w2.cell? ((ad U).add j) = some (.slice V2 4 cV2) := hw1
  obtain ⟨y0, y1, y2, y3, y4⟩ := zij_ hw3
  rw [zce_ hU hjl, ld27 (G.cell hw1)]
  have Gd := zf_ G (zcb_ w4)
  have Hd := H.drew
  rw [zvd_ (fun _ => x0) (by decide), ld3 (Gd.cell x1), zvd_ (fun _ => y0) (show 0 < 4 by decide), ld3 (Gd.cell y1)]
  simp only [go_sem, Nat.reduceEqDiff]
  by_cases hnon : (ptn P i).non = (ptn P j).non
  case neg =>
    simp only [hnon, decide_false, go_sem, Nat.reduceEqDiff]
    rw [zj_ (by omega) (by omega)]
    exact hN' _ _ hltj ⟨by omega, hltj, rfl, zwp_ hd (by simp [zee_, hnon]), Gd, Hd⟩
  simp only [hnon, decide_true, go_sem, Nat.reduceEqDiff]
  rw [zxe_ (fun _ => x0) (by decide), ld3 (Gd.cell x3), zxe_ (fun _ => y0) (show 2 < 4 by decide), ld3 (Gd.cell y3)]
  simp only [Int.natCast_inj, go_sem, Nat.reduceEqDiff]
  have found : zee_ (ptn P i) (ptn P j) = true → N' = N' → ∀ (w5 : World), Apt w w5 [bx b1 [.int .i64 gm.nons, .int .i64 gm.toks, .slice Y gm.rules.length cy] 26] → ∀ U d, Own 3 w5 w.heap.size U d (pumpR P i j) → k (.slice U 6 d) w5 := fun hp _ w5 H5 U d o =>
    hk1 i j (zrr_ hlt (by omega) hltj hp hd hdry) w5 U d H5.gr o
  have Gd2 := zf_ Gd (zcb_ _)
  have Hd2 := Hd.drew
  by_cases hfr : (ptn P i).fr = (ptn P j).fr
  case neg =>
    simp only [hfr, decide_false, Bool.not_false, go_sem, Nat.reduceEqDiff]
    rw [zxe_ (fun _ => x0) (by decide), ld3 (Gd2.cell x3), zxe_ (fun _ => y0) (show 2 < 4 by decide), ld3 (Gd2.cell y3), zye_ (fun _ => y0) (show 3 < 4 by decide), ld3 (Gd2.cell y4), zye_ (fun _ => x0) (by decide), ld3 (Gd2.cell x4)]
    refine zjd_ Hd2 u27 inf3 (ints (pumpR P i j)) (by decide) (by decide) (by simp [Instr.fill, madeCells, Value.cells, rng6, ints, pumpR]) rfl fun b5 w5 H5 => ?_
    exact found (by simp [zee_, hnon, hfr]) rfl w5 (H5.take 1) _ _ (H5.row 1 rfl)
  simp only [hfr, decide_true, Bool.not_true, go_sem, Nat.reduceEqDiff]
  rw [zye_ (fun _ => x0) (by decide), ld3 (Gd.cell x4), zye_ (fun _ => y0) (show 3 < 4 by decide), ld3 (Gd.cell y4)]
  simp only [Int.natCast_inj, go_sem, Nat.reduceEqDiff]
  by_cases hto : (ptn P i).to = (ptn P j).to
  case pos =>
    simp only [hto, decide_true, Bool.not_true, go_sem, Nat.reduceEqDiff]
    rw [zj_ (by omega) (by omega)]
    exact hN' _ _ hltj ⟨by omega, hltj, rfl, zwp_ hd (by simp [zee_, hfr, hto]), Gd, Hd⟩
  simp only [hto, decide_false, Bool.not_false, go_sem, Nat.reduceEqDiff]
  rw [zxe_ (fun _ => x0) (by decide), ld3 (Gd2.cell x3), zxe_ (fun _ => y0) (show 2 < 4 by decide), ld3 (Gd2.cell y3), zye_ (fun _ => y0) (show 3 < 4 by decide), ld3 (Gd2.cell y4), zye_ (fun _ => x0) (by decide), ld3 (Gd2.cell x4)]
  refine zjd_ Hd2 u27 inf3 (ints (pumpR P i j)) (by decide) (by decide) (by simp [Instr.fill, madeCells, Value.cells, rng6, ints, pumpR]) rfl fun b5 w5 H5 => ?_
  exact found (by simp [zee_, hnon, hto]) rfl w5 (H5.take 1) _ _ (H5.row 1 rfl)
end Go.Proofs.Ytegcjkhebecgbaa

namespace Go.Sh
open Go
def zaj_ (gm : Gram) (tree : List Int) : Option PT := if zdc_ gm tree = true then (ztb_ gm.rules tree tree.length 0 0 []).map fun z => z.1 else none
theorem zyh_ {gm : Gram} {tree : List Int} (h : zdc_ gm tree = false) : zaj_ gm tree = none := by
  unfold zaj_
  rw [h]
  rfl
theorem Whole.eq {gm : Gram} {tree : List Int} {p : PT} {ws : List Int} (h : Whole gm tree p ws) : zaj_ gm tree = some p := by
  have ha : zdc_ gm tree = true := by
    cases e : zdc_ gm tree with
    | true => rfl
    | false => exact absurd h (asked_whole.2 e p ws)
  unfold zaj_
  rw [if_pos ha, h.read]
  rfl
def zrc_ (gm : Gram) (tree : List Int) : List Int × Bool := match zaj_ gm tree with
  | none => ([], false)
  | some p => match zvf_ p.parts with
    | none => ([], false)
    | some (i, j) => (pumpR p.parts i j, true)
def zje_ (gm : Gram) (tree : List Int) : List (List Int) × Bool := match zaj_ gm tree with
  | none => ([], false)
  | some p => (zhf_ p.parts, true)
def zwc_ (ps : List PT) (i j : Nat) : List Int := [i, j, (ptn ps j).fin, (ptn ps i).fin]
def zed_ (gm : Gram) (tree : List Int) (m : Int) : List Int × Bool := match zaj_ gm tree with
  | none => ([], false)
  | some p => if inB m 0 4 = true then match zvf_ p.parts with
      | none => ([], false)
      | some (i, j) => if (zwb_ tree (zwc_ p.parts i j) m.toNat).length ≤ 60 then (zwb_ tree (zwc_ p.parts i j) m.toNat, true) else ([], false)
    else ([], false)
def Good1 (q : PT) : Prop := Laid q.parts q.at_ ∧ q.fin = q.at_ + q.parts.length
theorem readR_each {rec : Int → Nat → List Int → Option (PT × List Int)} (h : ∀ x a w p w', rec x a w = some (p, w') → ∀ q ∈ p.parts, Good1 q) : ∀ (xs : List Int) (e : Nat) (w : List Int) (ks : List PT) {ks' : List PT} {e' : Nat} {w' : List Int}, zxb_ rec xs e w ks = some (ks', e', w') → (∀ q ∈ PT.partsL ks, Good1 q) → ∀ q ∈ PT.partsL ks', Good1 q := by
  intro xs
  induction xs with
  | nil =>
    intro e w ks ks' e' w' hr hq
    simp only [zxb_, Option.some.injEq, Prod.mk.injEq] at hr
    obtain ⟨rfl, rfl, rfl⟩ := hr
    exact hq
  | cons x xs ih =>
    intro e w ks ks' e' w' hr hq
    unfold zxb_ at hr
    split at hr
    · exact ih _ _ _ hr hq
    · split at hr
      · cases hr
      · rename_i k w1 hz
        refine ih _ _ _ hr fun q hm => ?_
        rw [zcc_] at hm
        rcases List.mem_append.1 hm with hm | hm
        · exact hq q hm
        · simp only [PT.partsL, List.append_nil] at hm
          exact h _ _ _ _ _ hz q hm
theorem readT_each {rs : List RuleL} {tree : List Int} : ∀ (f : Nat) (non : Int) (a : Nat) (w : List Int) (p : PT) (w' : List Int), ztb_ rs tree f non a w = some (p, w') → ∀ q ∈ p.parts, Good1 q := by
  intro f
  induction f with
  | zero => intro non a w p w' h; cases h
  | succ f ih =>
    intro non a w p w' h q hq
    obtain ⟨h1, h2, h3, _⟩ := zdf_ _ _ _ _ _ _ _ _ h
    rw [zkg_] at hq
    rcases List.mem_cons.1 hq with rfl | hq
    · exact ⟨by rw [h3]; exact h1, by rw [h3]; exact h2⟩
    · obtain ⟨_, ks, e, _, _, _, _, hR, rfl⟩ := zmr_ h
      exact readR_each (fun x a w p w' hh => ih x a w p w' hh) _ _ _ _ hR (fun q hm => by simp [PT.partsL] at hm) q hq
theorem Whole.nest {gm : Gram} {tree : List Int} {p : PT} {ws : List Int} (hW : Whole gm tree p ws) {i j : Nat} (hi : i < p.parts.length) (hij : i ≤ j) (hj : j < (ptn p.parts i).fin) : (ptn p.parts j).fin ≤ (ptn p.parts i).fin := by
  obtain ⟨l1, l2, l3, l4⟩ := hW.laid i hi
  have hg := readT_each _ _ _ _ _ _ hW.read (ptn p.parts i) (by rw [zxd_ hi]; exact List.getElem_mem hi)
  rw [← zxd_ hi] at l1 l2 l3 l4
  obtain ⟨g1, g2⟩ := hg
  have hd : j - i < (ptn p.parts i).parts.length := by omega
  have := (g1 (j - i) hd).2.1
  rw [← zxd_ hd, l4, ptn_drop (by omega), show i + (j - i) = j from by omega, ← l4] at this
  omega
end Go.Sh
namespace Go.Proofs.Ytegcjkhebecgbaa
open Go Go.Sh Go.RowKit

theorem zam_ {F : Nat → Prop} {w : World} {v : Value} {gm : Gram} {tree : List Int} {X : Option Addr} {n c : Nat} (hv : GramV F w v gm) (hx : Ints w X tree) (hn : n = tree.length) {k : Value → World → Prop}
    (hk : ∀ w' U d, Gr w w' → Own 3 w' w.heap.size U d (zrc_ gm tree).1 → k (.tuple #[.slice U (zrc_ gm tree).1.length d, .bool (zrc_ gm tree).2]) w') :
    CallK Try.prog 111 [v, .slice X n c] k w := by
  subst hn
  obtain ⟨Y, cy, rfl, hc, hy⟩ := hv
  refine enter111 ?_
  unfold S111
  have H := Apt.nil w
  refine boxH H fun b1 w1 H => ?_
  rw [zv_ zdb_ sz26 rfl (H.box 0 rfl)]
  refine zek_ (gm := gm) (tree := tree) ⟨Y, cy, rfl, hc, hy.gr H.gr⟩ (hx.gr H.gr) rfl fun w2 g2 => ?_
  have H := H.step g2
  unfold zrc_ at hk
  cases ha : zdc_ gm tree
  · simp only [Bool.not_false, go_sem, Nat.reduceEqDiff]
    rw [zyh_ ha] at hk
    exact hk _ none 0 H.gr (Row.nil _ _ _ _)
  obtain ⟨p, ws, hW⟩ := asked_whole.1 ha
  rw [hW.eq] at hk
  simp only [Bool.not_true, go_sem, Nat.reduceEqDiff]
  rw [zv_ zdb_ sz26 rfl (H.box 0 rfl)]
  refine zvu_ hW ⟨Y, cy, rfl, hc, hy.gr H.gr⟩ (hx.gr H.gr) rfl (fun he w3 g3 => ?_) fun i j he w3 U d g3 o3 => ?_
  · have H := H.step g3
    simp only [go_sem, Nat.reduceEqDiff]
    simp only [he] at hk
    exact hk _ none 0 H.gr (Row.nil _ _ _ _)
  · have G := H.gr
    have H := H.step g3
    simp only [go_sem, Nat.reduceEqDiff]
    simp only [he] at hk
    exact hk _ U d H.gr (Row.mono o3 G.size)
theorem zgw_ {F : Nat → Prop} {w : World} {v : Value} {gm : Gram} {tree : List Int} {X : Option Addr} {n c : Nat} (hv : GramV F w v gm) (hx : Ints w X tree) (hn : n = tree.length) {k : Value → World → Prop}
    (hk : ∀ w' U d ps, Gr w w' → OwnSS 27 3 w' w.heap.size U d (zje_ gm tree).1 ps → k (.tuple #[.slice U (zje_ gm tree).1.length d, .bool (zje_ gm tree).2]) w') :
    CallK Try.prog 113 [v, .slice X n c] k w := by
  subst hn
  obtain ⟨Y, cy, rfl, hc, hy⟩ := hv
  refine enter113 ?_
  unfold S113
  have H := Apt.nil w
  refine boxH H fun b1 w1 H => ?_
  rw [zv_ zdb_ sz26 rfl (H.box 0 rfl)]
  refine zek_ (gm := gm) (tree := tree) ⟨Y, cy, rfl, hc, hy.gr H.gr⟩ (hx.gr H.gr) rfl fun w2 g2 => ?_
  have H := H.step g2
  unfold zje_ at hk
  cases ha : zdc_ gm tree
  · simp only [Bool.not_false, go_sem, Nat.reduceEqDiff]
    rw [zyh_ ha] at hk
    exact hk _ none 0 (fun _ => (none, 0)) H.gr (OwnSS.nil _ _ _ _ _)
  obtain ⟨p, ws, hW⟩ := asked_whole.1 ha
  rw [hW.eq] at hk
  simp only [Bool.not_true, go_sem, Nat.reduceEqDiff]
  rw [zv_ zdb_ sz26 rfl (H.box 0 rfl)]
  have h60 := hW.le
  refine zfk_ hW.good (by omega) tree.length (a := 0) (ws := []) ⟨Y, cy, rfl, hc, hy.gr H.gr⟩ (hx.gr H.gr) hW.read (by have := hW.words; omega) fun w3 U d ps g3 o3 => ?_
  simp only [go_sem, Nat.reduceEqDiff]
  exact hk _ U d ps (zf_ H.gr g3) (OwnSS.mono o3 H.gr.size)
theorem zrm_ {p : PT} {gm : Gram} {tree : List Int} {ws : List Int} (hW : Whole gm tree p ws) {i j : Nat} (he : zvf_ p.parts = some (i, j)) : i < p.parts.length ∧ i < j ∧ j < (ptn p.parts i).fin ∧ j < p.parts.length ∧ Cuts (zwc_ p.parts i j) tree.length := by
  have hlen := hW.len
  have hlaid := hW.laid
  have key : i < p.parts.length ∧ i < j ∧ j < (ptn p.parts i).fin := by
    unfold zvf_ at he
    obtain ⟨a, ha, h1⟩ := List.exists_of_findSome?_eq_some he
    obtain ⟨b, hb, h2⟩ := List.exists_of_findSome?_eq_some h1
    rw [List.mem_range] at ha
    rw [List.mem_range'_1] at hb
    split at h2
    · simp only [Option.some.injEq, Prod.mk.injEq] at h2
      obtain ⟨rfl, rfl⟩ := h2
      exact ⟨ha, by omega, by omega⟩
    · cases h2
  obtain ⟨h1, h2, h3⟩ := key
  obtain ⟨l1, l2, l3, l4⟩ := hlaid i h1
  rw [← zxd_ h1] at l1 l2 l3 l4
  have hj : j < p.parts.length := by omega
  have hsub := hW.nest h1 (by omega) h3
  obtain ⟨m1, m2, m3, m4⟩ := hlaid j hj
  rw [← zxd_ hj] at m1 m2 m3 m4
  refine ⟨h1, h2, h3, hj, rfl, ?_, ?_, ?_, ?_, ?_⟩ <;> simp only [zwc_, List.getD_cons_zero, List.getD_cons_succ] <;> omega
theorem zxt_ {F : Nat → Prop} {w : World} {v : Value} {gm : Gram} {tree : List Int} {X : Option Addr} {n c : Nat} {m : Int} (hv : GramV F w v gm) (hx : Ints w X tree) (hn : n = tree.length) (hcap : tree.length ≤ c) {k : Value → World → Prop}
    (hk : ∀ w' U d, Gr w w' → Own 3 w' w.heap.size U d (zed_ gm tree m).1 → k (.tuple #[.slice U (zed_ gm tree m).1.length d, .bool (zed_ gm tree m).2]) w') :
    CallK Try.prog 109 [v, .slice X n c, .int .i64 m] k w := by
  subst hn
  obtain ⟨Y, cy, rfl, hc, hy⟩ := hv
  refine enter109 ?_
  unfold S109
  have H := Apt.nil w
  refine boxH H fun b1 w1 H => ?_
  rw [zv_ zdb_ sz26 rfl (H.box 0 rfl)]
  refine zek_ (gm := gm) (tree := tree) ⟨Y, cy, rfl, hc, hy.gr H.gr⟩ (hx.gr H.gr) rfl fun w2 g2 => ?_
  have H := H.step g2
  unfold zed_ at hk
  cases ha : zdc_ gm tree
  · simp only [Bool.not_false, go_sem, Nat.reduceEqDiff]
    rw [zyh_ ha] at hk
    exact hk _ none 0 H.gr (Row.nil _ _ _ _)
  obtain ⟨p, ws, hW⟩ := asked_whole.1 ha
  rw [hW.eq] at hk
  simp only [Bool.not_true, go_sem, Nat.reduceEqDiff]
  refine zaf_ ?_
  cases hm : inB m 0 4
  · simp only [Bool.not_false, go_sem, Nat.reduceEqDiff]
    simp only [hm, Bool.false_eq_true, if_false] at hk
    exact hk _ none 0 H.gr (Row.nil _ _ _ _)
  simp only [hm, if_true] at hk
  obtain ⟨m, rfl⟩ : ∃ m' : Nat, m = m' := by
    simp only [inB, Bool.and_eq_true, decide_eq_true_eq] at hm
    exact ⟨m.toNat, by omega⟩
  have hm4 : m ≤ 4 := by
    simp only [inB, Bool.and_eq_true, decide_eq_true_eq] at hm
    omega
  rw [Int.toNat_natCast] at hk
  simp only [Bool.not_true, go_sem, Nat.reduceEqDiff]
  rw [zv_ zdb_ sz26 rfl (H.box 0 rfl)]
  have h60 := hW.le
  refine zvu_ hW ⟨Y, cy, rfl, hc, hy.gr H.gr⟩ (hx.gr H.gr) rfl (fun he w3 g3 => ?_) fun i j he w3 U d g3 o3 => ?_
  · have H := H.step g3
    simp only [go_sem, Nat.reduceEqDiff]
    simp only [he] at hk
    exact hk _ none 0 H.gr (Row.nil _ _ _ _)
  simp only [he] at hk
  obtain ⟨hi, hij, hjf, hj, hcuts⟩ := zrm_ hW he
  have H := H.addOwn g3 o3
  simp only [show ¬ (((6 : Nat) : Int) = 0) from by decide, decide_false, go_sem, Nat.reduceEqDiff]
  rw [zv_ zdb_ sz26 rfl (H.box 0 rfl)]
  refine zfk_ hW.good (by omega) tree.length (a := 0) (ws := []) ⟨Y, cy, rfl, hc, hy.gr H.gr⟩ (hx.gr H.gr) hW.read (by have := hW.words; omega) fun w4 V d4 ps g4 o4 => ?_
  have H := ((H.step g4).drew).drew
  have hss := o4.read.gr (zf_ (zcb_ _) (zcb_ _))
  have hUi := H.ints 1 rfl
  have hU0 : U = some (ad U) := hUi.ptr (by simp [pumpR])
  simp only [go_sem, Nat.reduceEqDiff]
  have hrl := zuc_ p.parts
  obtain ⟨V1, c1, a1, a2, a3⟩ := hss.row j (by omega)
  obtain ⟨V2, c2, b1', b2', b3'⟩ := hss.row i (by omega)
  rw [zhj_ hj] at a1 a2 a3
  rw [zhj_ hi] at b1' b2' b3'
  obtain ⟨x0, x1, x2, x3, x4⟩ := zij_ a3
  obtain ⟨y0, y1, y2, y3, y4⟩ := zij_ b3'
  have hU2 := o3.ints.gr g4
  have hV : 0 < (zhf_ p.parts).length → V = some (ad V) := fun h => hss.ptr h
  replace a1 : World.cell? _ _ = some (.slice V1 4 c1) := a1
  replace b1' : World.cell? _ _ = some (.slice V2 4 c2) := b1'
  refine rdi (zvd_ (fun _ => hU0) (show 0 < 6 by decide)) (rdi (ld3 ((hU2.gr (zcb_ _)).cell 0 (by simp [pumpR]))) (rdi (zmf_ (fun _ => hU0) (show 1 < 6 by decide)) (rdi (ld3 ((hU2.gr (zcb_ _)).cell 1 (by simp [pumpR]))) ?_)))
  refine rdi (zce_ (i := j) hV (by omega)) (rdi (ld27 a1) (rdi (zmf_ (fun _ => x0) (show 1 < 4 by decide)) (rdi (ld3 x2) ?_)))
  refine rdi (zce_ (i := i) hV (by omega)) (rdi (ld27 b1') (rdi (zmf_ (fun _ => y0) (show 1 < 4 by decide)) (rdi (ld3 y2) ?_)))
  refine zjd_ H u27 inf3 (ints (zwc_ p.parts i j)) (by decide) (by decide) (by simp [Instr.fill, madeCells, Value.cells, rng4, ints, zwc_, pumpR]) rfl fun b5 w5 H => ?_
  refine zju_ (cs := zwc_ p.parts i j) (hx.gr H.gr) hcap (Own.ints (show Own 3 w5 w.heap.size _ 4 (zwc_ p.parts i j) from H.row 2 rfl)) hcuts (by omega) hm4 fun U6 d6 w6 g6 o6 => ?_
  have G := H.gr.size
  have H := H.step g6
  simp only [go_sem, Nat.reduceEqDiff]
  by_cases h60' : (zwb_ tree (zwc_ p.parts i j) m).length ≤ 60
  · simp only [show ¬ ((60 : Int) < (zwb_ tree (zwc_ p.parts i j) m).length) from by omega, decide_false, go_sem, Nat.reduceEqDiff]
    simp only [if_pos h60'] at hk
    exact hk _ U6 d6 H.gr (Row.mono o6 G)
  · simp only [show ((60 : Int) < (zwb_ tree (zwc_ p.parts i j) m).length) from by omega, decide_true, go_sem, Nat.reduceEqDiff]
    simp only [if_neg h60'] at hk
    exact hk _ none 0 H.gr (Row.nil _ _ _ _)

theorem pump_c {gm : Gram} {tree : List Int} {p : PT} {ws : List Int} (hW : Whole gm tree p ws) {F : Nat → Prop} {w : World} {b : Nat} (hF : ∀ q, F q → q < w.heap.size) (hp : PartAt F w p b) {k : Value → World → Prop}
    (hk0 : zvf_ p.parts = none → ∀ w', Gr w w' → k (.tuple #[.pointer none, .pointer none]) w')
    (hk1 : ∀ i j, zvf_ p.parts = some (i, j) → ∀ w' b1 b2, Gr w w' → PartAt F w' (ptn p.parts i) b1 → PartAt F w' (ptn p.parts j) b2 → k (.tuple #[ptrv b1, ptrv b2]) w') :
    CallK Try.prog 222 [ptrv b] k w := by
  have hlen := hW.len
  have h60 := hW.le
  have hlaid := hW.laid
  refine enter222 ?_
  unfold S222
  have H := Apt.nil w
  refine parts_c p.parts.length (Nat.le_refl _) (by omega) hF hp fun w1 U d bs g1 r1 a1 => ?_
  have H := H.addRow g1 r1
  generalize hP : p.parts = P at *
  have hbl := a1.1
  simp only [go_sem, Nat.reduceEqDiff]
  refine zhb_ P.length 0 (fun i f w' => i ≤ P.length ∧ f 11 = .int .i64 i ∧ (∀ p', p' < i → Dry P p' (ptn P p').fin) ∧ Apt w w' [rwi 151 1 U bs.length d (bs.map ptrv)]) ⟨Nat.zero_le _, rfl, fun p' h => absurd h (Nat.not_lt_zero _), H⟩ ?_
  have g1' := g1
  rintro i f w3 N hag ⟨hi, h11, hdry, H⟩ hN
  have f9 : f 9 = .slice U bs.length d := hag 9 (by decide)
  have f10 : f 10 = .int .i64 bs.length := hag 10 (by decide)
  simp only [f9, f10, h11, go_sem, Nat.reduceEqDiff]
  by_cases hlt : i < P.length
  case neg =>
    simp only [show ¬ (i : Int) < bs.length from by omega, decide_false, go_sem, Nat.reduceEqDiff]
    obtain rfl : i = P.length := by omega
    exact hk0 (ztr_ hdry) _ H.gr
  simp only [show (i : Int) < bs.length from by omega, decide_true, go_sem, Nat.reduceEqDiff]
  obtain ⟨l1, l2, l3, l4⟩ := hlaid i hlt
  rw [← zxd_ hlt] at l1 l2 l3 l4
  have hpi := (a1.2 i hlt).across hF g1 H.gr
  have G3 := H.gr
  rw [ixn154 (Row.ptr (H.row 0 rfl)) (by omega), ld151 ((H.row 0 rfl).src.cell i _ (ptrs_at (by omega)))]
  have hF3 : ∀ q, F q → q < w3.heap.size := fun q hq => Nat.lt_of_lt_of_le (hF q hq) H.gr.size
  have hni : (ptn P i).parts.length = (ptn P i).fin - i := by
    rw [l4, List.length_take, List.length_drop]
    omega
  refine parts_c (ptn P i).parts.length (Nat.le_refl _) (by omega) hF3 hpi fun w4 V e cs g4 r4 a4 => ?_
  have g34 := zf_ H.gr g4
  have H := H.addRow g4 r4
  have hcl := a4.1
  rw [sll154 (by decide) (by omega)]
  simp only [go_sem, Nat.reduceEqDiff]
  refine zhb_ (cs.length - 1) 0 (fun j f' w' => j ≤ cs.length - 1 ∧ f' 19 = .int .i64 j ∧ Dry P i (i + 1 + j) ∧ Apt w w' [rwi 151 1 U bs.length d (bs.map ptrv), rwi 151 1 V cs.length e (cs.map ptrv)]) ⟨Nat.zero_le _, rfl, fun q' h1 h2 => by omega, H⟩ ?_
  rintro j f' w5 N' hag' ⟨hj1, h19, hd, H⟩ hN'
  have f17 : f' 17 = .slice (sub V (Int.toNat 1) e 1) (cs.length - Int.toNat 1) (e - Int.toNat 1) := hag' 17 (by decide)
  have f18 : f' 18 = .int .i64 ((cs.length - Int.toNat 1 : Nat) : Int) := hag' 18 (by decide)
  have f5 : f' 5 = ptrv (bs.getD i 0) := hag' 5 (by decide)
  have f11 : f' 11 = .int .i64 i := (hag' 11 (by decide)).trans h11
  simp only [f17, f18, f5, f11, h19, go_sem, Nat.reduceEqDiff]
  rw [show (1 : Int).toNat = 1 from rfl] at *
  by_cases hltj : j < cs.length - 1
  case neg =>
    simp only [show ¬ (j : Int) < (cs.length - 1 : Nat) from by omega, decide_false, go_sem, Nat.reduceEqDiff]
    rw [zj_ (by omega) (by omega)]
    refine hN _ _ hlt ⟨hlt, rfl, fun p' hp' => ?_, H.take 1⟩
    by_cases e : p' = i
    · rw [e]
      rw [show (ptn P i).fin = i + 1 + j from by omega]
      exact hd
    · exact hdry p' (by omega)
  simp only [show (j : Int) < (cs.length - 1 : Nat) from by omega, decide_true, go_sem, Nat.reduceEqDiff]
  have hsrc := (Row.src (H.row 1 rfl)).sub (l := 1) (c := e) (sz := 1) (by simp; omega) (by have := (H.row 1 rfl).cap; simp; omega) cs.length
  have hcell : (((cs.map ptrv).drop (1 * 1)).take cs.length)[j]? = some (ptrv (cs.getD (1 + j) 0)) := by
    rw [List.getElem?_take_of_lt (by omega), List.getElem?_drop, Nat.one_mul]
    exact ptrs_at (by omega)
  have hyi := a4.2 (1 + j) (by omega)
  have hq : ptn (ptn P i).parts (1 + j) = ptn P (i + 1 + j) := by
    rw [l4, ptn_drop (by omega)]
    congr 1
    omega
  rw [hq] at hyi
  have Hd := H.drew
  have hx5 : PartAt F w5.drew (ptn P i) (bs.getD i 0) := hpi.across hF G3 Hd.gr
  have hy5 : PartAt F w5.drew (ptn P (i + 1 + j)) (cs.getD (1 + j) 0) := hyi.across hF g34 Hd.gr
  obtain ⟨Xx, cx, bx, _, _, _⟩ := hx5.box
  obtain ⟨Xy, cy, by_, _, _, _⟩ := hy5.box
  have hj9 : i + 1 + j < (ptn P i).fin := by omega
  have found : zee_ (ptn P i) (ptn P (i + 1 + j)) = true → k (.tuple #[ptrv (bs.getD i 0), ptrv (cs.getD (1 + j) 0)]) w5.drew := fun hp =>
    hk1 i (i + 1 + j) (zrr_ hlt (by omega) hj9 hp hd hdry) _ _ _ Hd.gr hx5 hy5
  have next : zee_ (ptn P i) (ptn P (i + 1 + j)) = false → Dry P i (i + 1 + (j + 1)) := fun hp => zwp_ hd hp
  rw [ixn154 (fun _ => hsrc.ptr (by
    intro e0
    rw [e0] at hcell
    simp at hcell)) hltj, ld151 (hsrc.cell j _ hcell)]
  simp only [go_sem, Nat.reduceEqDiff]
  rw [ldB3 bx rfl, ldB3 by_ rfl]
  simp only [go_sem, Nat.reduceEqDiff]
  by_cases hnon : (ptn P i).non = (ptn P (i + 1 + j)).non
  case neg =>
    simp only [hnon, decide_false, go_sem, Nat.reduceEqDiff]
    rw [zj_ (by omega) (by omega)]
    exact hN' _ _ hltj ⟨hltj, rfl, next (by simp [zee_, hnon]), Hd⟩
  simp only [hnon, decide_true, go_sem, Nat.reduceEqDiff]
  rw [ldB3 bx rfl, ldB3 by_ rfl]
  simp only [Int.natCast_inj, go_sem, Nat.reduceEqDiff]
  by_cases hfr : (ptn P i).fr = (ptn P (i + 1 + j)).fr
  case neg =>
    simp only [hfr, decide_false, Bool.not_false, go_sem, Nat.reduceEqDiff]
    exact found (by simp [zee_, hnon, hfr])
  simp only [hfr, decide_true, Bool.not_true, go_sem, Nat.reduceEqDiff]
  rw [ldB3 bx rfl, ldB3 by_ rfl]
  simp only [Int.natCast_inj, go_sem, Nat.reduceEqDiff]
  by_cases hto : (ptn P i).to = (ptn P (i + 1 + j)).to
  case pos =>
    simp only [hto, decide_true, Bool.not_true, go_sem, Nat.reduceEqDiff]
    rw [zj_ (by omega) (by omega)]
    exact hN' _ _ hltj ⟨hltj, rfl, next (by simp [zee_, hfr, hto]), Hd⟩
  simp only [hto, decide_false, Bool.not_false, go_sem, Nat.reduceEqDiff]
  exact found (by simp [zee_, hnon, hto])
end Go.Proofs.Ytegcjkhebecgbaa

namespace Go.Sh
open Go
def pti (F : Nat → Prop) (p : PT) (b : Nat) : Thing := ⟨fun w => PartAt F w p b, F⟩
def ptsi (F : Nat → Prop) (ks : List PT) (bs : List Nat) : Thing := ⟨fun w => AllPt F w ks bs, F⟩
theorem AllPt.same {F : Nat → Prop} {w w' : World} {ps : List PT} {bs : List Nat} (h : AllPt F w ps bs) (hs : ∀ q, F q → w'.heap[q]? = w.heap[q]?) : AllPt F w' ps bs := ⟨h.1, fun i hi => PartAt.same hs _ _ (h.2 i hi)⟩
theorem AllPt.mono {F E : Nat → Prop} {w : World} {ps : List PT} {bs : List Nat} (h : AllPt F w ps bs) (he : ∀ q, F q → E q) : AllPt E w ps bs := ⟨h.1, fun i hi => PartAt.mono he _ _ (h.2 i hi)⟩
theorem KidsAt.of_all {F E : Nat → Prop} {w : World} {X : Option Addr} (he : ∀ q, F q → E q) : ∀ {ks : List PT} {bs : List Nat} {j : Nat}, (∀ i, i < bs.length → w.cell? ((ad X).add (j + i)) = some (ptrv (bs.getD i 0))) → AllPt F w ks bs → KidsAt E w ks X j := by
  intro ks
  induction ks with
  | nil => intro bs j _ _; simp only [KidsAt]
  | cons k ks ih =>
    intro bs j hc ha
    cases bs with
    | nil => have := ha.1; simp at this
    | cons b bs =>
      simp only [KidsAt]
      refine ⟨⟨b, by simpa using hc 0 (by simp), PartAt.mono he _ _ (by simpa [ptn] using ha.2 0 (by simp))⟩, ih (bs := bs) (fun i hi => ?_) ⟨by have := ha.1; simpa using this, fun i hi => ?_⟩⟩
      · have := hc (i + 1) (by simpa using hi)
        rw [show j + 1 + i = j + (i + 1) from by omega]
        simpa using this
      · have := ha.2 (i + 1) (by simpa using hi)
        simpa [ptn] using this
theorem zwu_ {g : Gram} (hg : zy_ g = true) {q : Nat} (hq : q < g.rules.length) {i : Nat} (hi : i < (rul g.rules q).2.length) : -4 ≤ (rul g.rules q).2.getD i 0 ∧ (rul g.rules q).2.getD i 0 ≤ 5 ∧ -g.toks ≤ (rul g.rules q).2.getD i 0 ∧ (rul g.rules q).2.getD i 0 ≤ g.nons - 1 := by
  have hn := ztc_ hg
  have ht := zie_ hg
  simp only [zy_, Bool.and_eq_true, List.all_eq_true] at hg
  have h1 := hg.2 q (List.mem_range.2 hq)
  simp only [zde_, Bool.and_eq_true, List.all_eq_true] at h1
  have h2 := h1.1.2 _ (zth_ hi)
  simp only [symB, inB, Bool.and_eq_true, decide_eq_true_eq] at h2
  omega
theorem tree_of {w : World} {F : Nat → Prop} {b c : Nat} {K : Option Addr} {ks : List PT} {bs : List Nat} {non : Int} {rule a e f t : Nat} (hb : Box w b [.int .i64 non, .int .i64 rule, .int .i64 a, .int .i64 e, .int .i64 f, .int .i64 t, .slice K ks.length c] 156) (hr : Row w 0 151 1 K bs.length c (bs.map ptrv)) (ha : AllPt F w ks bs) :
    PartAt (fun q => q = b ∨ (blk K = some q ∨ F q)) w (.mk non rule a e f t ks) b := by
  have hl := ha.1
  simp only [PartAt]
  refine ⟨by simp, K, c, hb, fun hp => ⟨hr.ptr (by omega), ?_⟩, by have := hr.cap; omega, KidsAt.of_all (fun q hq => .inr (.inr hq)) (fun i hi => ?_) ha⟩
  · have := hr.ptr (show 0 < bs.length by omega)
    exact .inr (.inl (by rw [this]; rfl))
  · rw [Nat.zero_add]
    exact hr.src.cell i _ (by simp [List.getD_eq_getElem?_getD, hi])
end Go.Sh
namespace Go.Proofs.Ytegcjkhebecgbaa
open Go Go.Sh Go.RowKit
theorem zwr_ {x : Int} {w : World} {k : Value → World → Prop} (hk : k (.int .i64 (IntKind.i64.wrap (-1 - x))) w) : CallK Try.prog 254 [.int .i64 x] k w := by
  refine enter254 ?_
  unfold S254
  simp only [go_sem, Nat.reduceEqDiff]
  exact hk
abbrev readF (bR bG bW bF : Nat) : Value := .func (.func 260) #[] #[ptrv bR, ptrv bG, ptrv bW, ptrv bF]
abbrev held4 (gm : Gram) (tree : List Int) (X Y : Option Addr) (c cy bR bG bW bF : Nat) (W : Option Addr) (cw : Nat) (ws : List Int) : List Thing :=
  [bx bR [.slice X tree.length c] 27, bx bG [.int .i64 gm.nons, .int .i64 gm.toks, .slice Y gm.rules.length cy] 26, bx bW [.slice W ws.length cw] 27, bx bF [readF bR bG bW bF] 220, ows W cw ws]

theorem read_c {gm : Gram} {tree : List Int} {X Y : Option Addr} {c cy bR bG bW bF : Nat} (hg : zy_ gm = true) (ht : tree.length ≤ 60) {F : Nat → Prop} {w0 : World} (hx : Ints w0 X tree) (hy : RulesF F w0 Y gm.rules) :
    ∀ (fu : Nat) {w : World} {M : List Thing} {W : Option Addr} {cw : Nat} {ws : List Int} {non : Int} {a : Nat} {k : Value → World → Prop}, Apt w0 w (held4 gm tree X Y c cy bR bG bW bF W cw ws ++ M) → tree.length - a ≤ fu → ws.length + 4 * (tree.length - a) ≤ 1000 →
    (ztb_ gm.rules tree fu non a ws = none → ∀ w' v W' cw' ws', Apt w0 w' (held4 gm tree X Y c cy bR bG bW bF W' cw' ws' ++ M) → k (.tuple #[v, .bool false]) w') →
    (∀ p ws', ztb_ gm.rules tree fu non a ws = some (p, ws') → ∀ w' b E W' cw', Apt w0 w' (held4 gm tree X Y c cy bR bG bW bF W' cw' ws' ++ pti E p b :: M) → k (.tuple #[ptrv b, .bool true]) w') →
    CallK Try.prog 260 [.int .i64 non, .int .i64 a, ptrv bR, ptrv bG, ptrv bW, ptrv bF] k w := by
  have hr16 := zhg_ hg
  have hxl := hx.le
  intro fu
  induction fu with
  | zero =>
    intro w M W cw ws non a k H hf hb hn hs
    refine enter260 ?_
    unfold S260
    have H := H.drew
    refine ⟨fun w' => Gr w.drew w', Gr.refl _, ?_⟩
    rw [rdG one27 (H.box 0 rfl) rfl]
    simp only [go_sem, Nat.reduceEqDiff]
    simp only [show (tree.length : Int) ≤ a from by omega, decide_true, go_sem, Nat.reduceEqDiff]
    exact ⟨Gr.refl _, hn rfl _ _ _ _ _ H⟩
  | succ fu ih =>
    intro w M W cw ws non a k H hf hb hn hs
    refine enter260 ?_
    unfold S260
    have H := H.drew
    refine ⟨fun w' => Gr w.drew w', Gr.refl _, ?_⟩
    rw [rdG one27 (H.box 0 rfl) rfl]
    simp only [go_sem, Nat.reduceEqDiff]
    by_cases hlt : a < tree.length
    case neg =>
      simp only [show (tree.length : Int) ≤ a from by omega, decide_true, go_sem, Nat.reduceEqDiff]
      exact ⟨Gr.refl _, hn (zrp_ (okT_lt hlt)) _ _ _ _ _ H⟩
    simp only [show ¬ ((tree.length : Int) ≤ a) from by omega, decide_false, go_sem, Nat.reduceEqDiff]
    rw [rdG one27 (H.box 0 rfl) rfl, zub_ hx.ptr hlt, ldS3 (fun w' hw' => Gr.cell hw' ((hx.gr H.gr).cell a hlt))]
    rw [rdG one24 (H.box 1 rfl) rfl]
    simp only [go_sem, Nat.reduceEqDiff]
    rw [zj_ (by omega) (by omega)]
    refine in_c ?_
    refine ⟨Gr.refl _, ?_⟩
    by_cases hin : inB (tree.getD a 0) 0 ((gm.rules.length : Int) - 1) = true
    case neg =>
      have hin := Bool.eq_false_iff.2 hin
      simp only [hin, Bool.not_false, go_sem, Nat.reduceEqDiff]
      exact hn (zrp_ (okT_in hin)) _ _ _ _ _ H
    obtain ⟨q, hqe, hq⟩ : ∃ q : Nat, tree.getD a 0 = q ∧ q < gm.rules.length := by
      simp only [inB, Bool.and_eq_true, decide_eq_true_eq] at hin
      exact ⟨(tree.getD a 0).toNat, by omega, by omega⟩
    simp only [hin, Bool.not_true, go_sem, Nat.reduceEqDiff]
    obtain ⟨Z, cz, h1, h2, h3, h4⟩ := hy.row q hq
    rw [rdG one24 (H.box 1 rfl) rfl, rdG one27 (H.box 0 rfl) rfl, zub_ hx.ptr hlt, ldS3 (fun w' hw' => Gr.cell hw' ((hx.gr H.gr).cell a hlt)), hqe, zwe_ hy.ptr hq, fa33_0, zq35, ldS3 (fun w' hw' => Gr.cell hw' (H.gr.cell h1))]
    simp only [go_sem, Nat.reduceEqDiff]
    by_cases hne : (rul gm.rules q).1 = non
    case neg =>
      simp only [hne, decide_false, Bool.not_false, go_sem, Nat.reduceEqDiff]
      exact hn (zrp_ (okT_ne hqe hne)) _ _ _ _ _ H
    simp only [hne, decide_true, Bool.not_true, go_sem, Nat.reduceEqDiff]
    have H := H.drew
    rw [zrd_ (H.box 0 rfl) rfl, zub_ hx.ptr hlt, ld3 ((hx.gr H.gr).cell a hlt), hqe, zrd_ (H.box 2 rfl) rfl]
    simp only [go_sem, Nat.reduceEqDiff]
    rw [zj_ (by omega) (by omega), bd156 (cells := #[.int .i64 non, .int .i64 q, .int .i64 a, .int .i64 ((a : Int) + 1), .int .i64 ws.length, .int .i64 0, .slice none 0 0]) rfl]
    refine boxH H fun bN w1 H => ?_
    have H := ((H.insert 5).addNil 151 1).insert 6
    have H := (H.add (Gr.refl _) (ptsi (fun _ => False) [] []) (fun q h => h.elim) (fun q h => h.elim) fun _ _ => ⟨rfl, fun i hi => by simp at hi⟩).insert 7
    simp only [List.nil_append, List.cons_append, List.take_succ_cons, List.drop_succ_cons, List.take_zero, List.drop_zero, List.take_nil, List.drop_nil] at H
    have H := H.drew
    rw [zuf_ (H.box 1 rfl) rfl]
    simp only [go_sem, Nat.reduceEqDiff]
    rw [ldB3 (H.box 5 rfl) rfl, zwe_ hy.ptr hq, fa33_1, zhc_, ld27 (H.gr.cell h2)]
    simp only [go_sem, Nat.reduceEqDiff]
    have hread := fun w => readT_of (f := fu) (w := w) (okT_of hlt hin hqe hne) hqe
    have hsym := fun i => @zwu_ gm hg q hq i
    have hR4 := zwd_ hg q hq
    rw [hread ws] at hn hs
    clear h1 h2 hread hne
    generalize (rul gm.rules q).2 = R at *
    refine zhb_ R.length 0 (fun i f w' => i ≤ R.length ∧ f 66 = .int .i64 i ∧ ∃ (ks : List PT) (cur : List Int) (W : Option Addr) (cw : Nat) (K : Option Addr) (ck : Nat) (kbs : List Nat) (E : Nat → Prop) (e : Nat), e = a + 1 + (PT.partsL ks).length ∧ e ≤ tree.length ∧ cur.length ≤ ws.length + i + 4 * (PT.partsL ks).length ∧ zxb_ (ztb_ gm.rules tree fu) (R.drop i) e cur ks = zxb_ (ztb_ gm.rules tree fu) R (a + 1) ws [] ∧
      Apt w0 w' (held4 gm tree X Y c cy bR bG bW bF W cw cur ++ bx bN [.int .i64 non, .int .i64 q, .int .i64 a, .int .i64 e, .int .i64 ws.length, .int .i64 0, .slice K ks.length ck] 156 :: rwi 151 1 K ks.length ck (kbs.map ptrv) :: ptsi E ks kbs :: M))
      ⟨Nat.zero_le _, rfl, [], ws, W, cw, none, 0, [], fun _ => False, a + 1, by simp [PT.partsL], hlt, by simp, rfl, H⟩ ?_
    rintro i f w2 N hag ⟨hi, h66, ks, cur, W2, cw2, K, ck, kbs, E, e, he, hel, hcl, hE, H⟩ hN
    have f64 : f 64 = .slice Z R.length cz := hag 64 (by decide)
    have f65 : f 65 = .int .i64 R.length := hag 65 (by decide)
    have f4 : f 4 = ptrv bW := hag 4 (by decide)
    have f5 : f 5 = ptrv bF := hag 5 (by decide)
    have f10 : f 10 = ptrv bN := hag 10 (by decide)
    simp only [f64, f65, f4, f5, f10, h66, go_sem, Nat.reduceEqDiff]
    have hkbl : kbs.length = ks.length := (show AllPt E w2 ks kbs from H.get 7 rfl).1
    have hkl := kids_le ks
    by_cases hlt2 : i < R.length
    case neg =>
      simp only [show ¬ (i : Int) < R.length from by omega, decide_false, go_sem, Nat.reduceEqDiff]
      rw [List.drop_eq_nil_of_le (by omega), zxb_] at hE
      rw [← hE] at hs
      rw [zrd_ (H.box 2 rfl) rfl]
      simp only [go_sem, Nat.reduceEqDiff]
      refine zyb_ H 5 rfl sz3 rfl rfl rfl fun w3 H => ?_
      have H := H.both 6 7 (by decide) rfl rfl
      have H := H.both 5 6 (by decide) rfl rfl
      have H := H.weaken 5 (b := pti (fun q => q = bN ∨ (blk K = some q ∨ E q)) (.mk non q a e ws.length cur.length ks) bN) rfl (fun q hq => hq) (fun w' _ hp => tree_of hp.1 (by rw [hkbl]; exact hp.2.1) hp.2.2) (fun w' w'' hh hp => PartAt.same hh _ _ hp)
      exact hs _ _ rfl _ _ _ _ _ H
    simp only [show (i : Int) < R.length from by omega, decide_true, go_sem, Nat.reduceEqDiff]
    rw [zyk_ hlt2] at hE
    have hRl := h4.is.le
    rw [zub_ h4.is.ptr hlt2, ld3 ((h4.is.gr H.gr).cell i hlt2)]
    obtain ⟨s1, s2, _⟩ := hsym i hlt2
    by_cases hneg : R.getD i 0 < 0
    · simp only [hneg, decide_true, go_sem, Nat.reduceEqDiff]
      rw [zru_ hneg] at hE
      have H := H.drew
      refine ⟨fun w' => Gr w2.drew w', Gr.refl _, ?_⟩
      rw [rdG one27 (H.box 2 rfl) rfl]
      refine zwr_ ?_
      refine ⟨Gr.refl _, ?_⟩
      rw [zj_ (by omega) (by omega)]
      refine bs27 [.int .i64 (-1 - R.getD i 0)] (by decide) (by simp [Instr.fill, madeCells, Value.cells, rng1]) rfl fun b3 w3 hb3 hb3' g3 hB3 hr3 => ?_
      refine ⟨g3, ?_⟩
      have H := H.step g3
      refine apH H 4 rfl (ys := [-1 - R.getD i 0]) (Own.ints (show Own 3 w3 w2.drew.heap.size (some ⟨b3, 0, none⟩) 1 [-1 - R.getD i 0] from hr3 _ (Nat.le_refl _))) rfl rfl (by simp; omega) fun X' c' w4 H => ?_
      refine zyb_ H 2 rfl sz27 rfl rfl rfl fun w5 H => ?_
      rw [zj_ (by omega) (by omega)]
      exact hN _ _ hlt2 ⟨hlt2, rfl, ks, cur ++ [-1 - R.getD i 0], X', c', K, ck, kbs, E, e, he, hel, by simp; omega, hE, H⟩
    · simp only [hneg, decide_false, go_sem, Nat.reduceEqDiff]
      have H := H.drew
      rw [ldB220 (H.box 3 rfl) rfl, ldB3 (H.box 5 rfl) rfl]
      refine callVc (caps := [ptrv bR, ptrv bG, ptrv bW, ptrv bF]) ?_
      refine ih H (by omega) (by omega) (fun hz w3 v W3 cw3 ws3 H => ?_) fun kid ws3 hz w3 b E' W3 cw3 H => ?_
      · simp only [go_sem, Nat.reduceEqDiff]
        have hnone : zxb_ (ztb_ gm.rules tree fu) R (a + 1) ws [] = none := by
          rw [← hE, zxb_, if_neg hneg, hz]
        rw [hnone] at hn
        exact hn rfl _ _ _ _ _ (((H.erase 5).erase 5).erase 5)
      · simp only [go_sem, Nat.reduceEqDiff]
        have hkl2 := zdf_ _ _ _ _ _ _ _ _ hz
        have hkw := zbg_ (zwd_ hg) _ _ _ _ _ _ hz
        have hkf := zpp_ hz
        rw [ldB154 (H.box 6 rfl) rfl]
        refine bs154 [ptrv b] (by decide) (by simp [Instr.fill, madeCells, Value.cells, rng1]) rfl fun b4 w4 hb4 hb4' g4 hB4 hr4 => ?_
        have H := H.step g4
        refine zuh_ H 7 rfl u154 inf151 rfl (by decide) (Row.src (hr4 _ (Nat.le_refl _))) rfl (ptrs_one [b]) (by omega) (by omega) fun X' c' w5 H => ?_
        refine zyb_ H 6 rfl sz154 rfl rfl rfl fun w6 H => ?_
        obtain ⟨Xk, ck', hbk, _⟩ := (show PartAt E' w6 kid b from H.get 5 rfl).box
        rw [ldB3 hbk rfl]
        refine zyb_ H 6 rfl sz3 rfl rfl rfl fun w7 H => ?_
        have H := H.both 8 5 (by decide) rfl rfl
        have H := H.weaken 7 (b := ptsi (fun q => E q ∨ E' q) (ks ++ [kid]) (kbs ++ [b])) rfl (fun q hq => hq) (fun w' _ hp => (AllPt.mono hp.1 fun q h => .inl h).append (AllPt.one (PartAt.mono (fun q h => .inr h) _ _ hp.2))) (fun w' w'' hh hp => AllPt.same hp hh)
        rw [zj_ (by omega) (by omega)]
        refine hN _ _ hlt2 ⟨hlt2, rfl, ks ++ [kid], ws3, W3, cw3, X', c', kbs ++ [b], fun q => E q ∨ E' q, kid.fin, ?_, hkf, ?_, ?_, ?_⟩
        · rw [zcc_]
          simp only [PT.partsL, List.append_nil, List.length_append]
          omega
        · rw [zcc_]
          simp only [PT.partsL, List.append_nil, List.length_append]
          omega
        · rw [← hE, zxb_, if_neg hneg, hz]
        · rw [List.map_append, List.length_append]
          exact H
end Go.Proofs.Ytegcjkhebecgbaa

namespace Go.Sh
open Go
def zkd_ (T : Tab) : List Value := (List.range 726).map fun p => .bool (cellT T p)
theorem zki_ (T : Tab) : (zkd_ T).length = 726 := by simp [zkd_]
theorem cellT_at {T : Tab} {x i j : Nat} (hi : i < 11) (hj : j < 11) : cellT T (x * 121 + i * 11 + j) = T x i j := by
  have e1 : (x * 121 + i * 11 + j) / 121 = x := by omega
  have e2 : (x * 121 + i * 11 + j) / 11 % 11 = i := by omega
  have e3 : (x * 121 + i * 11 + j) % 11 = j := by omega
  simp [cellT, e1, e2, e3]
theorem zii_ {T : Tab} {v : Value} {x i j : Nat} (hx : x < 6) (hi : i < 11) (hj : j < 11) : (v :: zkd_ T)[x * 121 + i * 11 + j + 1]? = some (.bool (T x i j)) := by
  rw [List.getElem?_cons_succ]
  simp only [zkd_, List.getElem?_map]
  rw [List.getElem?_range (by omega)]
  simp only [Option.map_some, cellT_at hi hj]
theorem cellsT_put {T : Tab} {v : Value} {x i j : Nat} (hx : x < 6) (hi : i < 11) (hj : j < 11) : (v :: zkd_ T).set (x * 121 + i * 11 + j + 1) (.bool true) = v :: zkd_ (T.put x i j) := by
  rw [List.set_cons_succ]
  congr 1
  refine List.ext_getElem? fun p => ?_
  rw [List.getElem?_set]
  by_cases hp : x * 121 + i * 11 + j = p
  · subst hp
    rw [if_pos rfl, if_pos (by rw [zki_]; omega)]
    simp only [zkd_, List.getElem?_map]
    rw [List.getElem?_range (by omega)]
    simp only [Option.map_some, cellT_at hi hj]
    simp [Tab.put]
  · rw [if_neg hp]
    simp only [zkd_, List.getElem?_map]
    by_cases hlt : p < 726
    · rw [List.getElem?_range hlt]
      simp only [Option.map_some, cellT, Tab.put]
      have : ¬ (p / 121 = x ∧ p / 11 % 11 = i ∧ p % 11 = j) := by omega
      rw [if_neg this]
    · rw [List.getElem?_eq_none (by simp; omega)]
      rfl
theorem zvv_ {l : List Value} {m : Nat} {v : Value} (h : m < l.length) : l.take m ++ [v] ++ l.drop (m + 1) = l.set m v := by
  rw [List.set_eq_take_append_cons_drop, if_pos h]
  simp
end Go.Sh
namespace Go.Proofs.Ytegcjkhebecgbaa
open Go Go.Sh Go.RowKit

theorem sequence_c {ws : List Int} (hl : ws.length ≤ 10) (hw : ∀ t ∈ ws, 0 ≤ t ∧ t ≤ 100) : ∀ (right : List Int) {w : World} {b : Nat} {X Y : Option Addr} {cx cy : Nat} {T : Tab} {i j : Nat} {k : Value → World → Prop}, Box w b (.slice X ws.length cx :: zkd_ T) 124 → Ints w X ws → Ints w Y right → right.length ≤ cy → (∀ x ∈ right, x < 6 ∧ -100 ≤ x) → i ≤ j → j ≤ ws.length → k (.bool (zbd_ T ws right i j)) w →
    CallK Try.prog 155 [ptrv b, .slice Y right.length cy, .int .i64 i, .int .i64 j] k w := by
  intro right
  induction right with
  | nil =>
    intro w b X Y cx cy T i j k hB hX hY hcy hr hi hj hk
    refine enter155 ?_
    unfold S155
    simp only [go_sem, List.length_nil]
    simp only [Int.natCast_zero, decide_true, go_sem, Nat.reduceEqDiff, Int.natCast_inj]
    exact hk
  | cons x right ih =>
    intro w b X Y cx cy T i j k hB hX hY hcy hr hi hj hk
    refine enter155 ?_
    unfold S155
    simp only [go_sem, List.length_cons]
    simp only [show ¬ (((right.length + 1 : Nat) : Int) = 0) from by omega, decide_false, go_sem, Nat.reduceEqDiff]
    have hx := hr x (List.mem_cons_self ..)
    have hr' : ∀ y ∈ right, y < 6 ∧ -100 ≤ y := fun y hy => hr y (List.mem_cons_of_mem _ hy)
    simp only [List.length_cons] at hcy
    have hY' : Ints w (sub Y 1 cy 1) right := by
      have := hY.sub (l := 1) (c := cy) (by simp) (by simp; omega) (right.length)
      simpa using this
    rw [zvd_ (fun _ => hY.ptr (by simp)) (by omega), ld3 (hY.cell 0 (by simp))]
    simp only [List.getD_cons_zero, go_sem, Nat.reduceEqDiff]
    by_cases hneg : x < 0
    · simp only [hneg, decide_true, go_sem, Nat.reduceEqDiff]
      rw [zup_ hneg] at hk
      by_cases hij : i < j
      case neg =>
        simp only [show ¬ ((i : Int) < j) from by omega, decide_false, go_sem, Nat.reduceEqDiff]
        simpa only [hij, decide_false, Bool.false_and] using hk
      simp only [show ((i : Int) < j) from by omega, decide_true, go_sem, Nat.reduceEqDiff]
      rw [decide_eq_true hij, Bool.true_and] at hk
      rw [zrd_ hB rfl, zub_ hX.ptr (by omega), ld3 (hX.cell i (by omega))]
      refine zwr_ ?_
      have hwi := hw _ (zth_ (show i < ws.length by omega))
      rw [zj_ (by omega) (by omega)]
      simp only [go_sem, Nat.reduceEqDiff]
      by_cases he : ws.getD i 0 = -1 - x
      case neg =>
        simp only [show ¬ (-1 - ws.getD i 0 = x) from by omega, decide_false, go_sem, Nat.reduceEqDiff]
        simpa only [he, decide_false, Bool.false_and] using hk
      simp only [show (-1 - ws.getD i 0 = x) from by omega, decide_true, go_sem, Nat.reduceEqDiff]
      rw [decide_eq_true he, Bool.true_and] at hk
      rw [sll27 (by decide) (by omega), zj_ (by omega) (by omega)]
      rw [show (1 : Int).toNat = 1 from rfl, Nat.add_sub_cancel]
      refine ih (i := i + 1) hB hX hY' (by omega) hr' (by omega) hj ?_
      exact hk
    · simp only [hneg, decide_false, go_sem, Nat.reduceEqDiff]
      rw [zvp_ hneg] at hk
      obtain ⟨x, rfl⟩ : ∃ x' : Nat, x = x' := ⟨x.toNat, by omega⟩
      rw [Int.toNat_natCast] at hk
      refine zhb_ (j + 1) i (fun m f w' => i ≤ m ∧ m ≤ j + 1 ∧ f 10 = .int .i64 m ∧ (∀ m', i ≤ m' → m' < m → (T x i m' && zbd_ T ws right m' j) = false) ∧ w' = w) ⟨Nat.le_refl _, by omega, rfl, fun m' h1 h2 => by omega, rfl⟩ ?_
      rintro m f w' N hag ⟨hm1, hm2, h10, hno, rfl⟩ hN
      have f0 : f 0 = ptrv b := hag 0 (by decide)
      have f1 : f 1 = .slice Y (right.length + 1) cy := hag 1 (by decide)
      have f2 : f 2 = .int .i64 i := hag 2 (by decide)
      have f3 : f 3 = .int .i64 j := hag 3 (by decide)
      have f9 : f 9 = .int .i64 (x : Nat) := hag 9 (by decide)
      simp only [f0, f1, f2, f3, f9, h10, go_sem, Nat.reduceEqDiff]
      by_cases hle : m ≤ j
      case neg =>
        simp only [show ¬ ((m : Int) ≤ j) from by omega, decide_false, go_sem, Nat.reduceEqDiff]
        rw [any_upto (fun m' h1 h2 => hno m' h1 (by omega))] at hk
        exact hk
      simp only [show ((m : Int) ≤ j) from by omega, decide_true, go_sem, Nat.reduceEqDiff]
      rw [ixa122 (by omega) (by omega), ixa121 (by omega) (by omega), ixa120 (by omega) (by omega)]
      simp only [Int.toNat_natCast, go_sem, Nat.reduceEqDiff]
      rw [ldB4 (off := 0 + 1 + x * 121 + i * 11 + m) hB (by rw [show 0 + 1 + x * 121 + i * 11 + m = x * 121 + i * 11 + m + 1 from by omega]; exact zii_ (by omega) (by omega) (by omega))]
      cases hs : T x i m
      · simp only [go_sem, Nat.reduceEqDiff]
        rw [zj_ (by omega) (by omega)]
        exact hN _ _ (by omega) ⟨by omega, by omega, rfl, fun m' h1 h2 => by
          by_cases e : m' = m
          · rw [e, hs, Bool.false_and]
          · exact hno m' h1 (by omega), rfl⟩
      · simp only [go_sem, Nat.reduceEqDiff]
        rw [sll27 (by decide) (by omega)]
        rw [show (1 : Int).toNat = 1 from rfl, Nat.add_sub_cancel]
        refine ih hB hX hY' (by omega) hr' (by omega) hj ?_
        cases hf : zbd_ T ws right m j
        · simp only [go_sem, Nat.reduceEqDiff]
          rw [zj_ (by omega) (by omega)]
          exact hN _ _ (by omega) ⟨by omega, by omega, rfl, fun m' h1 h2 => by
            by_cases e : m' = m
            · rw [e, hf, Bool.and_false]
            · exact hno m' h1 (by omega), rfl⟩
        · simp only [go_sem, Nat.reduceEqDiff]
          rw [any_at hm1 hle (by rw [hs, hf]; rfl)] at hk
          exact hk
end Go.Proofs.Ytegcjkhebecgbaa

namespace Go.Sh
open Go
theorem zyf_ (v : Value) (n : Nat) : (madeCells #[v] (n * 1)).toList = List.replicate n v := by
  rw [Nat.mul_one]
  refine List.ext_getElem? fun i => ?_
  unfold madeCells
  by_cases h : i < n
  · simp [h, Nat.mod_one]
  · rw [List.getElem?_eq_none (by simp; omega), List.getElem?_eq_none (by simp; omega)]
theorem rowB_none (n x : Nat) : rowB noTab n x = List.replicate (n * n) (.bool false) := by
  refine List.ext_getElem? fun i => ?_
  by_cases h : i < n * n
  · simp [rowB, h, noTab]
  · rw [List.getElem?_eq_none (by rw [zcg_]; omega), List.getElem?_eq_none (by simp; omega)]
theorem set_td {α : Type} {xs ys : List α} {i : Nat} {a : α} (h : i < ys.length) (hl : xs.length = ys.length) (ha : xs[i]? = some a) : (xs.take i ++ ys.drop i).set i a = xs.take (i + 1) ++ ys.drop (i + 1) := by
  have hi : i < xs.length := by omega
  obtain rfl : xs[i] = a := by simpa [hi] using ha
  rw [List.take_succ_eq_append_getElem hi, List.set_append_right _ _ (by simp; omega)]
  rw [show i - (xs.take i).length = 0 from by simp; omega, List.drop_eq_getElem_cons h, List.set_cons_zero, List.append_assoc]
  rfl
def tabSt (rs : List RuleL) (ws : List Int) (s : Tab × Bool) : Prop := if s.2 = true then ∀ U, Span rs ws s.1 U → Span rs ws noTab U else Span rs ws noTab s.1
theorem zxr_ {rs : List RuleL} {ws : List Int} {T : Tab} (h : tabSt rs ws (T, true)) : tabSt rs ws (zeg_ rs ws (T, false)) := by
  unfold tabSt at h ⊢
  rw [if_pos rfl] at h
  cases hc : (zeg_ rs ws (T, false)).2
  · rw [if_neg (by decide)]
    exact h _ (.done hc)
  · rw [if_pos rfl]
    exact fun U hU => h U (.more hc hU)
theorem zmi_ {g : Gram} (hg : zy_ g = true) {q : Nat} (hq : q < g.rules.length) : ∀ x ∈ (rul g.rules q).2, x < g.nons ∧ -100 ≤ x := fun x hx => by
  obtain ⟨i, hi, rfl⟩ := List.getElem_of_mem hx
  have := zwu_ hg hq hi
  rw [List.getD_eq_getElem?_getD, List.getElem?_eq_getElem hi] at this
  simp only [Option.getD_some] at this
  omega
theorem zig_ {g : Gram} (hg : zy_ g = true) {q : Nat} (hq : q < g.rules.length) : 0 ≤ (rul g.rules q).1 ∧ (rul g.rules q).1 ≤ g.nons - 1 := by
  simp only [zy_, Bool.and_eq_true, List.all_eq_true] at hg
  have h1 := hg.2 q (List.mem_range.2 hq)
  simp only [zde_, Bool.and_eq_true, inB, decide_eq_true_eq] at h1
  exact h1.1.1.1
theorem zpi_ {g : Gram} (hg : zy_ g = true) : ∀ r ∈ g.rules, r.1.toNat < 6 := fun r hr => by
  obtain ⟨i, hi, rfl⟩ := List.getElem_of_mem hr
  have := zig_ hg hi
  have := ztc_ hg
  rw [zpf_ hi] at *
  omega
end Go.Sh
namespace Go.Proofs.Ytegcjkhebecgbaa
open Go Go.Sh Go.RowKit
theorem inf4' : Inf Try.prog 4 (.bool false) 1 1 := zkf_ (by kernel_rfl)

theorem l4Table_c {F : Nat → Prop} {w : World} {v : Value} {gm : Gram} {X : Option Addr} {cx n0 : Nat} {ws : List Int} (hv : GramV F w v gm) (hg : zy_ gm = true) (hX : Ints w X ws) (hn : n0 = ws.length) (hl : ws.length ≤ 10) {k : Value → World → Prop}
    (hk : ∀ w' U c nons, Gr w w' → gm.nons = (nons : Nat) → TabS w' U nons (ws.length + 1) (spanT gm.rules ws) → k (.slice U nons c) w') :
    CallK Try.prog 162 [v, .slice X n0 cx] k w := by
  subst hn
  obtain ⟨Y, cy, rfl, hc, hy⟩ := hv
  have hn6 := ztc_ hg
  have hr16 := zhg_ hg
  have hleft6 := zpi_ hg
  obtain ⟨nons, hnn⟩ : ∃ n : Nat, gm.nons = n := ⟨gm.nons.toNat, by omega⟩
  refine enter162 ?_
  unfold S162
  have H := Apt.nil w
  refine boxH H fun b1 w1 H => ?_
  rw [hnn] at H
  simp only [go_sem, Nat.reduceEqDiff]
  rw [ldB3 (H.box 0 rfl) rfl]
  rw [zj_ (by omega) (by omega)]
  refine makeH H u134 inf136 (by omega) (by omega) fun b2 w2 H => ?_
  rw [show (Value.slice none 0 0).cells = #[.slice none 0 0] from rfl, zyf_] at H
  have H := H.nilVV 1 4 rfl
  simp only [List.nil_append, List.cons_append, List.set_cons_zero, List.set_cons_succ] at H
  simp only [go_sem, Nat.reduceEqDiff]
  generalize hN : ws.length + 1 = n at *
  have hNi : ((ws.length : Int) + 1) = (n : Int) := by omega
  rw [hNi]
  have hnn11 : n * n ≤ 11 * 11 := Nat.mul_le_mul (by omega) (by omega)
  have hrl : (zfe_ noTab nons n).length = nons := zyd_ _ _ _
  refine zhb_ nons 0 (fun i f w' => i ≤ nons ∧ f 21 = .int .i64 i ∧ ∃ (ps : Nat → Option Addr × Nat), Apt w w' [bx b1 [.int .i64 nons, .int .i64 gm.toks, .slice Y gm.rules.length cy] 26, vvi 136 4 (some ⟨b2, 0, none⟩) nons ((zfe_ noTab nons n).take i ++ (List.replicate nons []).drop i) ps])
    ⟨Nat.zero_le _, rfl, _, by rw [List.take_zero, List.drop_zero, List.nil_append]; exact H⟩ ?_
  rintro i f w3 N hag ⟨hi, h21, ps, H⟩ hN'
  have f20 : f 20 = .int .i64 nons := hag 20 (by decide)
  have f5 : f 5 = .int .i64 n := hag 5 (by decide)
  have f6 : f 6 = .slice (some ⟨b2, 0, none⟩) nons nons := hag 6 (by decide)
  have f2 : f 2 = ptrv b1 := hag 2 (by decide)
  have f1 : f 1 = .slice X ws.length cx := hag 1 (by decide)
  simp only [f20, f5, f6, h21, go_sem, Nat.reduceEqDiff]
  by_cases hlt : i < nons
  · simp only [show (i : Int) < nons from by omega, decide_true, go_sem, Nat.reduceEqDiff]
    rw [show (n : Int) * (n : Int) = ((n * n : Nat) : Int) from by push_cast; rfl, zj_ (by omega) (by omega)]
    refine makeH H (n := n * n) u136 inf4' (by omega) (by omega) fun b3 w4 H => ?_
    rw [show (Value.bool false).cells = #[.bool false] from rfl, zyf_, ← rowB_none n i] at H
    rw [ixn134 (fun _ => rfl) hlt]
    refine setRowVV H 1 2 i (by decide) rfl rfl (by rw [zcg_]) (by decide) sz136 (by simp; omega) fun w5 ps' H => ?_
    have H := H.erase 2
    rw [set_td (by simp; omega) (by simp [hrl]) (by simp [zfe_, hlt])] at H
    rw [zj_ (by omega) (by omega)]
    exact hN' _ _ hlt ⟨hlt, rfl, ps', H⟩
  have hin : i = nons := by omega
  simp only [show ¬ ((i : Int) < nons) from by omega, decide_false, go_sem, Nat.reduceEqDiff]
  rw [hin, List.drop_eq_nil_of_le (by simp), List.append_nil, List.take_of_length_le (by rw [hrl]; exact Nat.le_refl _)] at H
  clear hN' hin h21 hi hlt
  refine zbf_ (fun (s : Tab × Bool) f w' => tabSt gm.rules ws s ∧ f 8 = .bool s.2 ∧ ∃ (ps : Nat → Option Addr × Nat), Apt w w' [bx b1 [.int .i64 nons, .int .i64 gm.toks, .slice Y gm.rules.length cy] 26, vvi 136 4 (some ⟨b2, 0, none⟩) nons (zfe_ s.1 nons n) ps]) (fun s => if s.2 = true then openT s.1 + 1 else 0) (noTab, true)
    ⟨by unfold tabSt; rw [if_pos rfl]; exact fun U h => h, rfl, ps, H⟩ ?_
  rintro ⟨T, more⟩ f7 w6 N2 hag2 ⟨hst, h8, ps, H⟩ hN2
  have f2' : f7 2 = ptrv b1 := (hag2 2 (by decide)).trans f2
  have f6' : f7 6 = .slice (some ⟨b2, 0, none⟩) nons nons := (hag2 6 (by decide)).trans f6
  have f5' : f7 5 = .int .i64 n := (hag2 5 (by decide)).trans f5
  have f1' : f7 1 = .slice X ws.length cx := (hag2 1 (by decide)).trans f1
  simp only [h8, f2', go_sem, Nat.reduceEqDiff]
  cases more
  · simp only [go_sem, Nat.reduceEqDiff]
    rw [f6']
    have hsp : T = spanT gm.rules ws := by
      unfold tabSt at hst
      rw [if_neg Bool.false_ne_true] at hst
      exact hst.eq
    rw [← hsp] at hk
    exact hk _ _ nons _ H.gr hnn ((H.vv 1 rfl).tab (by omega))
  simp only [go_sem, Nat.reduceEqDiff]
  rw [zuf_ (H.box 0 rfl) rfl]
  simp only [go_sem, Nat.reduceEqDiff]
  refine zhb_ gm.rules.length 0 (fun q f w' => q ≤ gm.rules.length ∧ f 36 = .int .i64 q ∧ f 8 = .bool ((gm.rules.take q).foldl (ruleT ws) (T, false)).2 ∧ ∃ (ps : Nat → Option Addr × Nat), Apt w w' [bx b1 [.int .i64 nons, .int .i64 gm.toks, .slice Y gm.rules.length cy] 26, vvi 136 4 (some ⟨b2, 0, none⟩) nons (zfe_ ((gm.rules.take q).foldl (ruleT ws) (T, false)).1 nons n) ps])
    ⟨Nat.zero_le _, rfl, rfl, ps, H⟩ ?_
  rintro q g1 w7 N3 hag3 ⟨hq, h36, h8', ps, H⟩ hN3
  have e34 : g1 34 = .slice Y gm.rules.length cy := hag3 34 (by decide)
  have e35 : g1 35 = .int .i64 gm.rules.length := hag3 35 (by decide)
  have e5 : g1 5 = .int .i64 n := (hag3 5 (by decide)).trans f5'
  have e6 : g1 6 = .slice (some ⟨b2, 0, none⟩) nons nons := (hag3 6 (by decide)).trans f6'
  have e1 : g1 1 = .slice X ws.length cx := (hag3 1 (by decide)).trans f1'
  simp only [e34, e35, h36, go_sem, Nat.reduceEqDiff]
  by_cases hlq : q < gm.rules.length
  case neg =>
    simp only [show ¬ ((q : Int) < gm.rules.length) from by omega, decide_false, go_sem, Nat.reduceEqDiff]
    rw [List.take_of_length_le (by omega)] at h8' H
    have hinc := zhi_ hleft6 hl (T, false)
    refine hN2 (zeg_ gm.rules ws (T, false)) _ _ ⟨zxr_ hst, h8', ps, H⟩ ?_
    rw [if_pos rfl]
    rcases hinc with he | ⟨h1, h2⟩
    · rw [he, if_neg Bool.false_ne_true]
      omega
    · rw [if_pos h1]
      dsimp only at h2 ⊢
      omega
  simp only [show ((q : Int) < gm.rules.length) from by omega, decide_true, go_sem, Nat.reduceEqDiff]
  obtain ⟨Z, cz, t1, t2, t3, t4⟩ := hy.row q hlq
  have hleft := zig_ hg hlq
  have hright := zmi_ hg hlq
  have hR4 := zwd_ hg q hlq
  generalize hr : rul gm.rules q = r at *
  obtain ⟨xl, hxl⟩ : ∃ x : Nat, r.1 = x := ⟨r.1.toNat, by omega⟩
  rw [hxl] at t1 hleft
  rw [zwe_ hy.ptr hlq, zfi_ zbe_ sz33 (cs := [.int .i64 xl, .slice Z r.2.length cz]) rfl (fun j hj => by
    match j, hj with
    | 0, _ => rw [zhc_, Nat.add_zero]; exact H.gr.cell t1
    | 1, _ => rw [zhc_]; exact H.gr.cell t2)]
  refine zid_ H zhd_ fun b3 w8 H => ?_
  refine zyb_ H 2 rfl sz33 rfl rfl rfl fun w9 H => ?_
  simp only [List.nil_append, List.cons_append, List.set_cons_zero, List.set_cons_succ] at H
  generalize hs0 : (gm.rules.take q).foldl (ruleT ws) (T, false) = s0 at *
  refine zhb_ n 0 (fun a f w' => a ≤ n ∧ f 11 = .int .i64 a ∧ f 8 = .bool ((List.range a).foldl (rowT ws r) s0).2 ∧ ∃ (ps : Nat → Option Addr × Nat), Apt w w' [bx b1 [.int .i64 nons, .int .i64 gm.toks, .slice Y gm.rules.length cy] 26, vvi 136 4 (some ⟨b2, 0, none⟩) nons (zfe_ ((List.range a).foldl (rowT ws r) s0).1 nons n) ps, bx b3 [.int .i64 xl, .slice Z r.2.length cz] 33])
    ⟨Nat.zero_le _, rfl, h8', ps, H⟩ ?_
  rintro a g2 w10 N4 hag4 ⟨ha, h11, h8a, ps, H⟩ hN4
  have k5 : g2 5 = .int .i64 n := (hag4 5 (by decide)).trans e5
  have k6 : g2 6 = .slice (some ⟨b2, 0, none⟩) nons nons := (hag4 6 (by decide)).trans e6
  have k1 : g2 1 = .slice X ws.length cx := (hag4 1 (by decide)).trans e1
  have k10 : g2 10 = ptrv b3 := hag4 10 (by decide)
  have k36 : g2 36 = .int .i64 q := (hag4 36 (by decide)).trans h36
  simp only [k5, h11, k36, go_sem, Nat.reduceEqDiff]
  by_cases hla : a < n
  case neg =>
    simp only [show ¬ ((a : Int) < n) from by omega, decide_false, go_sem, Nat.reduceEqDiff]
    rw [zj_ (by omega) (by omega)]
    have han : a = n := by omega
    rw [han] at h8a H
    have hstep : (gm.rules.take (q + 1)).foldl (ruleT ws) (T, false) = (List.range n).foldl (rowT ws r) s0 := by
      rw [zvr_ _ _ _ hlq, hs0, hr, ← hN]
      rfl
    refine hN3 _ _ hlq ⟨hlq, rfl, ?_, ps, ?_⟩
    · rw [hstep]
      exact h8a
    · rw [hstep]
      exact H.take 2
  simp only [show ((a : Int) < n) from by omega, decide_true, go_sem, Nat.reduceEqDiff]
  generalize hs1 : (List.range a).foldl (rowT ws r) s0 = s1 at *
  refine zhb_ n a (fun b f w' => a ≤ b ∧ b ≤ n ∧ f 12 = .int .i64 b ∧ f 8 = .bool ((List.range' a (b - a)).foldl (Sh.stepT ws r a) s1).2 ∧ ∃ (ps : Nat → Option Addr × Nat), Apt w w' [bx b1 [.int .i64 nons, .int .i64 gm.toks, .slice Y gm.rules.length cy] 26, vvi 136 4 (some ⟨b2, 0, none⟩) nons (zfe_ ((List.range' a (b - a)).foldl (Sh.stepT ws r a) s1).1 nons n) ps, bx b3 [.int .i64 xl, .slice Z r.2.length cz] 33])
    ⟨Nat.le_refl _, by omega, rfl, by rw [Nat.sub_self]; exact h8a, ps, by rw [Nat.sub_self]; exact H⟩ ?_
  rintro b g3 w11 N5 hag5 ⟨hb1, hb2, h12, h8b, ps, H⟩ hN5
  have m5 : g3 5 = .int .i64 n := (hag5 5 (by decide)).trans k5
  have m6 : g3 6 = .slice (some ⟨b2, 0, none⟩) nons nons := (hag5 6 (by decide)).trans k6
  have m1 : g3 1 = .slice X ws.length cx := (hag5 1 (by decide)).trans k1
  have m10 : g3 10 = ptrv b3 := (hag5 10 (by decide)).trans k10
  have m11 : g3 11 = .int .i64 a := (hag5 11 (by decide)).trans h11
  simp only [m5, m6, m1, m10, m11, h12, go_sem, Nat.reduceEqDiff]
  by_cases hlb : b < n
  case neg =>
    simp only [show ¬ ((b : Int) < n) from by omega, decide_false, go_sem, Nat.reduceEqDiff]
    rw [zj_ (by omega) (by omega)]
    have hbn : b = n := by omega
    rw [hbn] at h8b H
    have hstep : (List.range (a + 1)).foldl (rowT ws r) s0 = (List.range' a (n - a)).foldl (Sh.stepT ws r a) s1 := by
      rw [zxm_, hs1, ← hN]
      rfl
    refine hN4 _ _ hla ⟨hla, rfl, ?_, ps, ?_⟩
    · rw [hstep]
      exact h8b
    · rw [hstep]
      exact H
  simp only [show ((b : Int) < n) from by omega, decide_true, go_sem, Nat.reduceEqDiff]
  have hstep : (List.range' a (b + 1 - a)).foldl (Sh.stepT ws r a) s1 = Sh.stepT ws r a ((List.range' a (b - a)).foldl (Sh.stepT ws r a) s1) b := by
    rw [show b + 1 - a = b - a + 1 from by omega, zwk_, show a + (b - a) = b from by omega]
  generalize hs2 : (List.range' a (b - a)).foldl (Sh.stepT ws r a) s1 = s2 at *
  have hxn : xl < nons := by omega
  have hab := zff_ (n := n) (show a < n by omega) hlb
  have hT := (H.vv 1 rfl).tab (by omega)
  have hxr : xl < (zfe_ s2.1 nons n).length := by rw [zyd_]; exact hxn
  have hcell := (H.vv 1 rfl).cell hxr
  have hown := (H.vv 1 rfl).own xl hxr
  rw [zgj_ hxn, zcg_] at hcell hown
  have hR0 : (ps xl).1 = some (ad (ps xl).1) := hown.ptr (by omega)
  have hab' : (a : Int) * (n : Int) = ((a * n : Nat) : Int) := by push_cast; rfl
  have hidx : IntKind.i64.wrap (IntKind.i64.wrap ((a : Int) * (n : Int)) + (b : Int)) = ((a * n + b : Nat) : Int) := by
    rw [hab', zj_ (n := ((a * n : Nat) : Int)) (by omega) (by omega), zj_ (by omega) (by omega)]
    rfl
  rw [hidx, ldB3 (H.box 2 rfl) rfl]
  refine rdi (ixn134 (fun _ => rfl) hxn) (rdi (ld136 hcell) (rdi (ixn136 (fun _ => hR0) hab) (rdi (ld4 (hown.src.cell _ _ (rowB_at hla hlb))) ?_)))
  simp only [go_sem, Nat.reduceEqDiff]
  have hstepT : Sh.stepT ws r a s2 b = if (!s2.1 xl a b && zbd_ s2.1 ws r.2 a b) = true then (s2.1.put xl a b, true) else s2 := by
    unfold Sh.stepT
    rw [hxl, Int.toNat_natCast]
  have stay : Sh.stepT ws r a s2 b = s2 → ∀ f', f' 12 = .int .i64 (b + 1 : Nat) → f' 8 = .bool s2.2 → N5 f' w11 := fun he f' q12 q8 => hN5 f' w11 hlb ⟨by omega, hlb, q12, by rw [hstep, he]; exact q8, ps, by rw [hstep, he]; exact H⟩
  cases hc0 : s2.1 xl a b
  case true =>
    simp only [Bool.not_true, go_sem, Nat.reduceEqDiff]
    rw [zj_ (n := (b : Int) + 1) (by omega) (by omega)]
    exact stay (by rw [hstepT, hc0]; rfl) _ rfl h8b
  simp only [Bool.not_false, go_sem, Nat.reduceEqDiff]
  rw [zrd_ (H.box 2 rfl) rfl]
  rw [← hN] at hT
  refine l4Fits_c hl r.2 hT (hX.gr H.gr) (t4.is.gr H.gr) t3 (fun x hx => by have := hright x hx; omega) hb1 (by omega) ?_
  cases hft : zbd_ s2.1 ws r.2 a b
  · simp only [go_sem, Nat.reduceEqDiff]
    rw [zj_ (n := (b : Int) + 1) (by omega) (by omega)]
    exact stay (by rw [hstepT, hc0, hft]; rfl) _ rfl h8b
  simp only [go_sem, Nat.reduceEqDiff]
  rw [ldB3 (H.box 2 rfl) rfl]
  refine rdi (ixn134 (fun _ => rfl) hxn) (rdi (ld136 hcell) (rdi (ixn136 (fun _ => hR0) hab) ?_))
  refine storeVV H 1 xl (m := a * n + b) rfl (by decide) sz4 rfl rfl hxr (by rw [zgj_ hxn, zcg_]; exact hab) fun w12 H => ?_
  rw [rowsB_put hxn hla hlb] at H
  rw [zj_ (n := (b : Int) + 1) (by omega) (by omega)]
  refine hN5 _ _ hlb ⟨by omega, hlb, rfl, ?_, ps, ?_⟩
  · rw [hstep, hstepT, hc0, hft]
    rfl
  · rw [hstep, hstepT, hc0, hft]
    exact H
theorem l4In_c {F : Nat → Prop} {w : World} {v : Value} {gm : Gram} {X : Option Addr} {cx n0 : Nat} {ws : List Int} (hv : GramV F w v gm) (hg : zy_ gm = true) (hX : Ints w X ws) (hn : n0 = ws.length) (hl : ws.length ≤ 10) {k : Value → World → Prop}
    (hk : ∀ w', Gr w w' → k (.bool (inL gm.rules ws)) w') : CallK Try.prog 153 [v, .int .i64 0, .slice X n0 cx] k w := by
  subst hn
  obtain ⟨Y, cy, rfl, hc, hy⟩ := hv
  have hn6 := ztc_ hg
  refine enter153 ?_
  unfold S153
  have H := Apt.nil w
  refine boxH H fun b1 w1 H => ?_
  rw [zv_ zdb_ sz26 rfl (H.box 0 rfl)]
  refine l4Table_c (gm := gm) ⟨Y, cy, rfl, hc, hy.gr H.gr⟩ hg (hX.gr H.gr) rfl hl fun w2 U c nons g2 hnn hT => ?_
  have hns : 0 < nons := by omega
  obtain ⟨R, cr, h1, h2, h3⟩ := hT.row 0 hns
  have := h3 0 ws.length (by omega) (by omega)
  rw [Nat.zero_mul, Nat.zero_add] at this
  rw [ix134_0 hT.ptr hns, ld136 h1]
  simp only [go_sem, Nat.reduceEqDiff]
  rw [ixn136 (fun _ => h2) (Nat.lt_of_lt_of_le (Nat.lt_succ_self _) (Nat.le_mul_of_pos_left _ (by omega))), ld4 this]
  exact hk _ (zf_ H.gr g2)
end Go.Proofs.Ytegcjkhebecgbaa

namespace Go.Sh
open Go
theorem zyr_ (n : Nat) (v : Value) : (List.range n).map (fun _ => v) = List.replicate n v := by
  rw [List.map_const', List.length_range]
theorem cellsT_none : zkd_ noTab = List.replicate 726 (.bool false) := zyr_ 726 (.bool false)
theorem fill_one {place : Nat → Option (Nat × Nat)} {cells : Array Value} {v : Value} (hp : place 0 = some (0, 1)) (hv : v.cells = #[v]) (h0 : 0 < cells.size) : Instr.fill place cells [(0, v)] = some (cells.setIfInBounds 0 v) := by
  simp only [Instr.fill, hp, hv]
  have e : (decide ((#[v] : Array Value).size ≠ 1) || decide (0 + (#[v] : Array Value).size > cells.size)) = false := by
    rw [Bool.or_eq_false_iff]
    exact ⟨by simp, decide_eq_false (by show ¬ (0 + 1 > cells.size); omega)⟩
  rw [if_neg (by rw [e]; exact Bool.false_ne_true)]
  simp
theorem set_head {a v : Value} {R : Array Value} : (#[a] ++ R).setIfInBounds 0 v = #[v] ++ R := by
  apply Array.ext'
  simp
theorem agg_pos (v : Value) (R : Array Value) : 0 < (Value.agg (#[v] ++ R)).cells.size := by
  show 0 < (#[v] ++ R).size
  simp
  omega
theorem agg_list (v : Value) (R : Array Value) : (Value.agg (#[v] ++ R)).cells.toList = v :: R.toList := by
  show (#[v] ++ R).toList = _
  simp
theorem rep_list (n : Nat) (v : Value) : (Array.replicate n v).toList = List.replicate n v := Array.toList_replicate
end Go.Sh
namespace Go.Proofs.Ytegcjkhebecgbaa
open Go Go.Sh Go.RowKit
theorem inf124' : Inf Try.prog 124 (.agg (#[.slice none 0 0] ++ Array.replicate 726 (.bool false))) 727 752 := zkf_ (by kernel_rfl)
theorem sz122' : szOf Try.prog 122 726 := zxc_ (by kernel_rfl)
theorem bd124 (X : Option Addr) (n c : Nat) : ∃ z : Value, (∀ (S : WS) (k : Value → Prop), Rd Try.prog S (zeb_ 124 [(0, .slice X n c)]) k = k z) ∧ z.cells.toList = .slice X n c :: zkd_ noTab := by
  refine ⟨.agg (#[.slice X n c] ++ Array.replicate 726 (.bool false)), fun S k => ?_, ?_⟩
  · refine zvk_ (ps := [(0, 1), (1, 726)]) Try.underlying124 inf124' ⟨⟨rfl, sz27⟩, ⟨rfl, sz122'⟩, trivial⟩ ((fill_one rfl rfl ?_).trans (congrArg some set_head))
    exact agg_pos _ _
  · rw [agg_list, cellsT_none]
    exact congrArg _ (rep_list _ _)

theorem spans_c {F : Nat → Prop} {w : World} {v : Value} {gm : Gram} {X : Option Addr} {cx n0 : Nat} {ws : List Int} (hv : GramV F w v gm) (hg : zy_ gm = true) (hX : Ints w X ws) (hn : n0 = ws.length) (hl : ws.length ≤ 10) (hw : ∀ t ∈ ws, 0 ≤ t ∧ t ≤ 100) {k : Value → World → Prop}
    (hk : ∀ w' b, Apt w w' [bx b (.slice X ws.length cx :: zkd_ (spanT gm.rules ws)) 124] → k (ptrv b) w') :
    CallK Try.prog 151 [v, .slice X n0 cx] k w := by
  subst hn
  obtain ⟨Y, cy, rfl, hc, hy⟩ := hv
  have hn6 := ztc_ hg
  have hr16 := zhg_ hg
  have hleft6 := zpi_ hg
  refine enter151 ?_
  unfold S151
  have H := Apt.nil w
  refine boxH H fun b1 w1 H => ?_
  obtain ⟨z, hz1, hz2⟩ := bd124 X ws.length cx
  refine rdi (hz1 _ _) ?_
  refine boxH H fun b2 w2 H => ?_
  rw [hz2] at H
  simp only [List.nil_append, List.cons_append] at H
  refine zbf_ (fun (s : Tab × Bool) f w' => tabSt gm.rules ws s ∧ f 6 = .bool s.2 ∧ Apt w w' [bx b1 [.int .i64 gm.nons, .int .i64 gm.toks, .slice Y gm.rules.length cy] 26, bx b2 (.slice X ws.length cx :: zkd_ s.1) 124]) (fun s => if s.2 = true then openT s.1 + 1 else 0) (noTab, true)
    ⟨by unfold tabSt; rw [if_pos rfl]; exact fun U h => h, rfl, H⟩ ?_
  rintro ⟨T, more⟩ f7 w6 N2 hag2 ⟨hst, h8, H⟩ hN2
  have f2' : f7 2 = ptrv b1 := hag2 2 (by decide)
  have f5' : f7 5 = ptrv b2 := hag2 5 (by decide)
  have f1' : f7 1 = .slice X ws.length cx := hag2 1 (by decide)
  simp only [h8, f2', go_sem, Nat.reduceEqDiff]
  cases more
  · simp only [go_sem, Nat.reduceEqDiff]
    rw [f5']
    have hsp : T = spanT gm.rules ws := by
      unfold tabSt at hst
      rw [if_neg Bool.false_ne_true] at hst
      exact hst.eq
    rw [← hsp] at hk
    exact hk _ b2 (H.erase 0)
  simp only [go_sem, Nat.reduceEqDiff]
  rw [zuf_ (H.box 0 rfl) rfl]
  simp only [go_sem, Nat.reduceEqDiff]
  refine zhb_ gm.rules.length 0 (fun q f w' => q ≤ gm.rules.length ∧ f 18 = .int .i64 q ∧ f 6 = .bool ((gm.rules.take q).foldl (ruleT ws) (T, false)).2 ∧ Apt w w' [bx b1 [.int .i64 gm.nons, .int .i64 gm.toks, .slice Y gm.rules.length cy] 26, bx b2 (.slice X ws.length cx :: zkd_ ((gm.rules.take q).foldl (ruleT ws) (T, false)).1) 124])
    ⟨Nat.zero_le _, rfl, rfl, H⟩ ?_
  rintro q g1 w7 N3 hag3 ⟨hq, h36, h8', H⟩ hN3
  have e34 : g1 16 = .slice Y gm.rules.length cy := hag3 16 (by decide)
  have e35 : g1 17 = .int .i64 gm.rules.length := hag3 17 (by decide)
  have e5 : g1 5 = ptrv b2 := (hag3 5 (by decide)).trans f5'
  have e1 : g1 1 = .slice X ws.length cx := (hag3 1 (by decide)).trans f1'
  simp only [e34, e35, e1, h36, go_sem, Nat.reduceEqDiff]
  by_cases hlq : q < gm.rules.length
  case neg =>
    simp only [show ¬ ((q : Int) < gm.rules.length) from by omega, decide_false, go_sem, Nat.reduceEqDiff]
    rw [List.take_of_length_le (by omega)] at h8' H
    have hinc := zhi_ hleft6 hl (T, false)
    refine hN2 (zeg_ gm.rules ws (T, false)) _ _ ⟨zxr_ hst, h8', H⟩ ?_
    rw [if_pos rfl]
    rcases hinc with he | ⟨h1, h2⟩
    · rw [he, if_neg Bool.false_ne_true]
      omega
    · rw [if_pos h1]
      dsimp only at h2 ⊢
      omega
  simp only [show ((q : Int) < gm.rules.length) from by omega, decide_true, go_sem, Nat.reduceEqDiff]
  obtain ⟨Z, cz, t1, t2, t3, t4⟩ := hy.row q hlq
  have hleft := zig_ hg hlq
  have hright := zmi_ hg hlq
  have hR4 := zwd_ hg q hlq
  generalize hr : rul gm.rules q = r at *
  obtain ⟨xl, hxl⟩ : ∃ x : Nat, r.1 = x := ⟨r.1.toNat, by omega⟩
  rw [hxl] at t1 hleft
  rw [zwe_ hy.ptr hlq, zfi_ zbe_ sz33 (cs := [.int .i64 xl, .slice Z r.2.length cz]) rfl (fun j hj => by
    match j, hj with
    | 0, _ => rw [zhc_, Nat.add_zero]; exact H.gr.cell t1
    | 1, _ => rw [zhc_]; exact H.gr.cell t2)]
  refine zid_ H zhd_ fun b3 w8 H => ?_
  refine zyb_ H 2 rfl sz33 rfl rfl rfl fun w9 H => ?_
  simp only [List.nil_append, List.cons_append, List.set_cons_zero, List.set_cons_succ] at H
  generalize hN : ws.length + 1 = n at *
  have hNi : ((ws.length : Int) + 1) = (n : Int) := by omega
  rw [hNi, zj_ (n := (n : Int)) (by omega) (by omega)]
  generalize hs0 : (gm.rules.take q).foldl (ruleT ws) (T, false) = s0 at *
  refine zhb_ n 0 (fun a f w' => a ≤ n ∧ f 25 = .int .i64 a ∧ f 6 = .bool ((List.range a).foldl (rowT ws r) s0).2 ∧ Apt w w' [bx b1 [.int .i64 gm.nons, .int .i64 gm.toks, .slice Y gm.rules.length cy] 26, bx b2 (.slice X ws.length cx :: zkd_ ((List.range a).foldl (rowT ws r) s0).1) 124, bx b3 [.int .i64 xl, .slice Z r.2.length cz] 33])
    ⟨Nat.zero_le _, rfl, h8', H⟩ ?_
  rintro a g2 w10 N4 hag4 ⟨ha, h11, h8a, H⟩ hN4
  have k24 : g2 24 = .int .i64 n := hag4 24 (by decide)
  have k5 : g2 5 = ptrv b2 := (hag4 5 (by decide)).trans e5
  have k1 : g2 1 = .slice X ws.length cx := (hag4 1 (by decide)).trans e1
  have k8 : g2 8 = ptrv b3 := hag4 8 (by decide)
  have k18 : g2 18 = .int .i64 q := (hag4 18 (by decide)).trans h36
  simp only [k24, h11, k18, go_sem, Nat.reduceEqDiff]
  by_cases hla : a < n
  case neg =>
    simp only [show ¬ ((a : Int) < n) from by omega, decide_false, go_sem, Nat.reduceEqDiff]
    rw [zj_ (by omega) (by omega)]
    have han : a = n := by omega
    rw [han] at h8a H
    have hstep : (gm.rules.take (q + 1)).foldl (ruleT ws) (T, false) = (List.range n).foldl (rowT ws r) s0 := by
      rw [zvr_ _ _ _ hlq, hs0, hr, ← hN]
      rfl
    refine hN3 _ _ hlq ⟨hlq, rfl, ?_, ?_⟩
    · rw [hstep]
      exact h8a
    · rw [hstep]
      exact H.take 2
  simp only [show ((a : Int) < n) from by omega, decide_true, go_sem, Nat.reduceEqDiff]
  generalize hs1 : (List.range a).foldl (rowT ws r) s0 = s1 at *
  refine zhb_ n a (fun b f w' => a ≤ b ∧ b ≤ n ∧ f 10 = .int .i64 b ∧ f 6 = .bool ((List.range' a (b - a)).foldl (Sh.stepT ws r a) s1).2 ∧ Apt w w' [bx b1 [.int .i64 gm.nons, .int .i64 gm.toks, .slice Y gm.rules.length cy] 26, bx b2 (.slice X ws.length cx :: zkd_ ((List.range' a (b - a)).foldl (Sh.stepT ws r a) s1).1) 124, bx b3 [.int .i64 xl, .slice Z r.2.length cz] 33])
    ⟨Nat.le_refl _, by omega, rfl, by rw [Nat.sub_self]; exact h8a, by rw [Nat.sub_self]; exact H⟩ ?_
  rintro b g3 w11 N5 hag5 ⟨hb1, hb2, h12, h8b, H⟩ hN5
  have m5 : g3 5 = ptrv b2 := (hag5 5 (by decide)).trans k5
  have m1 : g3 1 = .slice X ws.length cx := (hag5 1 (by decide)).trans k1
  have m8 : g3 8 = ptrv b3 := (hag5 8 (by decide)).trans k8
  have m9 : g3 9 = .int .i64 a := hag5 9 (by decide)
  have m25 : g3 25 = .int .i64 a := (hag5 25 (by decide)).trans h11
  simp only [m5, m1, m8, m9, m25, h12, go_sem, Nat.reduceEqDiff]
  by_cases hlb : b < n
  case neg =>
    simp only [show ¬ ((b : Int) ≤ ws.length) from by omega, decide_false, go_sem, Nat.reduceEqDiff]
    rw [zj_ (by omega) (by omega)]
    have hbn : b = n := by omega
    rw [hbn] at h8b H
    have hstep : (List.range (a + 1)).foldl (rowT ws r) s0 = (List.range' a (n - a)).foldl (Sh.stepT ws r a) s1 := by
      rw [zxm_, hs1, ← hN]
      rfl
    refine hN4 _ _ hla ⟨hla, rfl, ?_, ?_⟩
    · rw [hstep]
      exact h8b
    · rw [hstep]
      exact H
  simp only [show ((b : Int) ≤ ws.length) from by omega, decide_true, go_sem, Nat.reduceEqDiff]
  have hstep : (List.range' a (b + 1 - a)).foldl (Sh.stepT ws r a) s1 = Sh.stepT ws r a ((List.range' a (b - a)).foldl (Sh.stepT ws r a) s1) b := by
    rw [show b + 1 - a = b - a + 1 from by omega, zwk_, show a + (b - a) = b from by omega]
  generalize hs2 : (List.range' a (b - a)).foldl (Sh.stepT ws r a) s1 = s2 at *
  have hxn : xl < 6 := by omega
  have hstepT : Sh.stepT ws r a s2 b = if (!s2.1 xl a b && zbd_ s2.1 ws r.2 a b) = true then (s2.1.put xl a b, true) else s2 := by
    unfold Sh.stepT
    rw [hxl, Int.toNat_natCast]
  have H := H.drew
  have stay : Sh.stepT ws r a s2 b = s2 → ∀ f', f' 10 = .int .i64 (b + 1 : Nat) → f' 6 = .bool s2.2 → N5 f' w11.drew := fun he f' q12 q8 => hN5 f' w11.drew hlb ⟨by omega, hlb, q12, by rw [hstep, he]; exact q8, by rw [hstep, he]; exact H⟩
  rw [ldB3 (H.box 2 rfl) rfl]
  rw [ixa122 (by omega) (by omega), ixa121 (by omega) (by omega), ixa120 (by omega) (by omega)]
  simp only [Int.toNat_natCast, go_sem, Nat.reduceEqDiff]
  have hoff : 0 + 1 + xl * 121 + a * 11 + b = xl * 121 + a * 11 + b + 1 := by omega
  rw [hoff, ldB4 (H.box 1 rfl) (zii_ hxn (by omega) (by omega))]
  simp only [go_sem, Nat.reduceEqDiff]
  cases hc0 : s2.1 xl a b
  case true =>
    simp only [Bool.not_true, go_sem, Nat.reduceEqDiff]
    rw [zj_ (n := (b : Int) + 1) (by omega) (by omega)]
    exact stay (by rw [hstepT, hc0]; rfl) _ rfl h8b
  simp only [Bool.not_false, go_sem, Nat.reduceEqDiff]
  rw [zrd_ (H.box 2 rfl) rfl]
  refine sequence_c hl hw r.2 (H.box 1 rfl) (hX.gr H.gr) (t4.is.gr H.gr) t3 (fun x hx => by have := hright x hx; omega) hb1 (by omega) ?_
  cases hft : zbd_ s2.1 ws r.2 a b
  · simp only [go_sem, Nat.reduceEqDiff]
    rw [zj_ (n := (b : Int) + 1) (by omega) (by omega)]
    exact stay (by rw [hstepT, hc0, hft]; rfl) _ rfl h8b
  simp only [go_sem, Nat.reduceEqDiff]
  have H := H.drew
  rw [ldB3 (H.box 2 rfl) rfl]
  rw [ixa122 (by omega) (by omega), ixa121 (by omega) (by omega), ixa120 (by omega) (by omega)]
  simp only [Int.toNat_natCast, go_sem, Nat.reduceEqDiff]
  rw [hoff]
  refine zyb_ H 1 rfl sz4 rfl rfl (by rw [Nat.ble_eq, List.length_cons, zki_]; omega) fun w12 H => ?_
  have hset : List.take (xl * 121 + a * 11 + b + 1) (.slice X ws.length cx :: zkd_ s2.1) ++ (Value.bool true).cells.toList ++ List.drop (xl * 121 + a * 11 + b + 1 + 1) (.slice X ws.length cx :: zkd_ s2.1) = .slice X ws.length cx :: zkd_ (s2.1.put xl a b) := by
    rw [show (Value.bool true).cells.toList = [.bool true] from rfl, zvv_ (by rw [List.length_cons, zki_]; omega)]
    exact cellsT_put hxn (by omega) (by omega)
  rw [hset] at H
  rw [zj_ (n := (b : Int) + 1) (by omega) (by omega)]
  refine hN5 _ _ hlb ⟨by omega, hlb, rfl, ?_, ?_⟩
  · rw [hstep, hstepT, hc0, hft]
    rfl
  · rw [hstep, hstepT, hc0, hft]
    exact H
end Go.Proofs.Ytegcjkhebecgbaa

namespace Go.Sh
open Go
theorem inB_iff {n lo hi : Int} : inB n lo hi = true ↔ lo ≤ n ∧ n ≤ hi := by simp [inB]
end Go.Sh
namespace Go.Proofs.Ytegcjkhebecgbaa
open Go Go.Sh Go.RowKit

theorem pumpWord1_p {w : World} : Pred 4 (.func (.func 296) [].toArray [].toArray) (fun x => !inB x 0 1000000) w :=
  fun w1 g1 x k hk => callV0 (pumpWord1_c (hk w1 (Gr.refl w1)))
theorem zai_ {w : World} {X Y : Option Addr} {c d : Nat} {xs cs : List Int} {many : Int} (hx : Ints w X xs) (hc : xs.length ≤ c) (hy : Ints w Y cs) {k : Value → World → Prop}
    (hk : ∀ X' c' w', Gr w w' → match zbc_ xs cs many with
      | some l => Own 3 w' w.heap.size X' c' l → k (.tuple #[.slice X' l.length c', .bool true]) w'
      | none => k (.tuple #[.slice none 0 0, .bool false]) w') :
    CallK Try.prog 228 [.slice X xs.length c, .slice Y cs.length d, .int .i64 many] k w := by
  refine enter228 ?_
  unfold S228
  have hno : ∀ w', Gr w w' → zbc_ xs cs many = none → k (.tuple #[.slice none 0 0, .bool false]) w' := fun w' g e => by
    have := hk none 0 w' g
    rwa [e] at this
  simp only [go_sem, Nat.reduceEqDiff]
  by_cases h60 : (60 : Int) < xs.length
  · simp only [h60, decide_true, go_sem, Nat.reduceEqDiff]
    exact hno w (Gr.refl w) (if_neg fun h => by omega)
  simp only [h60, decide_false, go_sem, Nat.reduceEqDiff]
  by_cases h4' : cs.length = 4
  rotate_left
  · have h4 : ¬ (cs.length : Int) = 4 := by omega
    simp only [h4, decide_false, Bool.not_false, go_sem, Nat.reduceEqDiff]
    exact hno w (Gr.refl w) (if_neg fun h => h4' h.2.2.1.len)
  have h4 : (cs.length : Int) = 4 := by omega
  simp only [h4, decide_true, Bool.not_true, go_sem, Nat.reduceEqDiff]
  refine in_c ?_
  simp only [go_sem, Nat.reduceEqDiff]
  cases hm : inB many 0 4
  · simp only [Bool.not_false, go_sem, Nat.reduceEqDiff]
    exact hno w (Gr.refl w) (if_neg fun h => by rw [hm] at h; exact absurd h.2.2.2 (by decide))
  simp only [Bool.not_true, go_sem, Nat.reduceEqDiff]
  refine zwh_ (p := fun x => !inB x 0 1000000) hx pumpWord1_p fun w1 g1 => ?_
  have hany : xs.any (fun x => !inB x 0 1000000) = !allB xs 0 1000000 := by
    unfold allB
    rw [List.not_all_eq_any_not]
  rw [hany]
  cases ha : allB xs 0 1000000
  · simp only [Bool.not_false, go_sem, Nat.reduceEqDiff]
    exact hno w1 g1 (if_neg fun h => by rw [ha] at h; exact absurd h.2.1 (by decide))
  simp only [Bool.not_true, go_sem, Nat.reduceEqDiff]
  refine ⟨fun f w' => ∃ i : Nat, i ≤ 4 ∧ f 31 = .int .i64 i ∧ f 8 = .int .i64 (if i = 0 then 0 else cs.getD (i - 1) 0) ∧ Gr w w' ∧ (∀ j, j < i → (if j = 0 then 0 else cs.getD (j - 1) 0) ≤ cs.getD j 0 ∧ cs.getD j 0 ≤ xs.length), fun f _ => 4 - (intOf (f 31)).toNat,
    ⟨0, by omega, rfl, rfl, g1, fun j hj => absurd hj (Nat.not_lt_zero j)⟩, ?_⟩
  rintro f w2 hag ⟨i, hi, h31, h8, g2, hpre⟩
  have f0 : f 0 = .slice X xs.length c := hag 0 (by decide)
  have f1 : f 1 = .slice Y cs.length d := hag 1 (by decide)
  have f2 : f 2 = .int .i64 many := hag 2 (by decide)
  have f29 : f 29 = .slice Y cs.length d := hag 29 (by decide)
  have f30 : f 30 = .int .i64 4 := hag 30 (by decide)
  simp only [f0, f1, f2, f29, f30, h31, h8, go_sem, Nat.reduceEqDiff]
  by_cases hlt : i < 4
  · have hlt' : (i : Int) < 4 := by omega
    simp only [hlt', decide_true, go_sem, Nat.reduceEqDiff]
    rw [zub_ hy.ptr (by omega), ld3 ((hy.gr g2).cell i (by omega))]
    refine in_c ?_
    simp only [go_sem, Nat.reduceEqDiff]
    cases hb : inB (cs.getD i 0) (if i = 0 then 0 else cs.getD (i - 1) 0) xs.length
    · simp only [Bool.not_false, go_sem, Nat.reduceEqDiff]
      refine hno w2 g2 (if_neg fun h => ?_)
      obtain ⟨_, c0, c1, c2, c3, c4⟩ := h.2.2.1
      have : inB (cs.getD i 0) (if i = 0 then 0 else cs.getD (i - 1) 0) xs.length = true := inB_iff.2 (by
        rcases (show i = 0 ∨ i = 1 ∨ i = 2 ∨ i = 3 by omega) with rfl | rfl | rfl | rfl
        · exact ⟨c0, by omega⟩
        · exact ⟨c1, by omega⟩
        · exact ⟨c2, by omega⟩
        · exact ⟨c3, by omega⟩)
      rw [hb] at this
      cases this
    · simp only [Bool.not_true, go_sem, Nat.reduceEqDiff]
      rw [zj_ (by omega) (by omega)]
      have hb' := inB_iff.1 hb
      refine ⟨⟨i + 1, hlt, rfl, by rw [if_neg (by omega)]; rfl, g2, fun j hj => ?_⟩, ?_⟩
      · rcases Nat.lt_succ_iff_lt_or_eq.1 hj with h | rfl
        · exact hpre j h
        · exact hb'
      · simp only [intOf]
        omega
  have hi4 : i = 4 := by omega
  subst hi4
  have e0 := hpre 0 (by omega)
  have e1 := hpre 1 (by omega)
  have e2 := hpre 2 (by omega)
  have e3 := hpre 3 (by omega)
  simp only [if_true, Nat.one_ne_zero, if_false, show (2 : Nat) ≠ 0 by decide, show (3 : Nat) ≠ 0 by decide, Nat.sub_self, show (2 - 1 : Nat) = 1 from rfl, show (3 - 1 : Nat) = 2 from rfl] at e0 e1 e2 e3
  have hcs : Cuts cs xs.length := ⟨h4', e0.1, e1.1, e2.1, e3.1, e3.2⟩
  have hm' := inB_iff.1 hm
  obtain ⟨m, rfl⟩ := Int.eq_ofNat_of_zero_le hm'.1
  have e : zbc_ xs cs m = if (zwb_ xs cs m).length ≤ 60 then some (zwb_ xs cs m) else none := if_pos ⟨by omega, ha, hcs, hm⟩
  obtain ⟨_, c0, c1, c2, c3, c4⟩ := hcs
  simp only [show ¬ ((4 : Nat) : Int) < 4 by decide, decide_false, go_sem, Nat.reduceEqDiff]
  obtain ⟨p0, l0⟩ := zdd_ hx hc (Int.le_refl 0) c0 (by omega)
  obtain ⟨p1, l1⟩ := zdd_ hx hc c0 c1 (by omega)
  obtain ⟨p2, l2⟩ := zdd_ hx hc (by omega) c2 (by omega)
  obtain ⟨p3, l3⟩ := zdd_ hx hc (by omega) c3 (by omega)
  obtain ⟨p4, l4⟩ := zdd_ hx hc (a := cs.getD 3 0) (b := xs.length) (by omega) c4 (Int.le_refl _)
  refine bs27 [] (by decide) (by simp [Instr.fill, madeCells]) rfl fun b w3 hb1 hb2 g3 hbox hrow => ?_
  have g3' := zf_ g2 g3
  rw [zvd_ hy.ptr (by omega), ld3 ((hy.gr g3').cell 0 (by omega)), slh27 c0 (by omega)]
  refine apI (xs := []) (hrow w.heap.size g2.size) (p0.gr g3') rfl (by rw [l0]; simp) (by rw [l0, List.length_nil]; omega) g3'.size fun X1 d1 w4 o1 g4 => ?_
  rw [List.nil_append] at o1
  have g4' := zxf_ g3' g4 fun q hq => by simp [blk] at hq; have := g2.size; omega
  have hl : xs.length ≤ 100 := by omega
  have hm4 : m ≤ 4 := by omega
  clear hag hpre e0 e1 e2 e3 h31 h8 f29 f30 hno
  have hb1 : (seg xs 0 (cs.getD 0 0)).length ≤ 100 := by omega
  refine ⟨fun f w' => ∃ (i : Nat) (X' : Option Addr) (c' : Nat), i ≤ m ∧ f 51 = .int .i64 i ∧ f 11 = .slice X' (seg xs 0 (cs.getD 0 0) ++ rep i (seg xs (cs.getD 0 0) (cs.getD 1 0))).length c' ∧ Gr w w' ∧ Own 3 w' w.heap.size X' c' (seg xs 0 (cs.getD 0 0) ++ rep i (seg xs (cs.getD 0 0) (cs.getD 1 0))), fun f _ => m - (intOf (f 51)).toNat,
    ⟨0, X1, d1, Nat.zero_le _, rfl, by simp [rep]; rfl, g4', by simpa [rep] using o1⟩, ?_⟩
  rintro f w2 hag ⟨i, X2, d2, him, h8, h7, g2, o2⟩
  have f0 : f 0 = .slice X xs.length c := (hag 0 (by decide)).trans f0
  have f1 : f 1 = .slice Y cs.length d := (hag 1 (by decide)).trans f1
  have f50 : f 50 = .int .i64 m := (hag 50 (by decide)).trans (by simp only [zq33, Nat.reduceEqDiff, ite_T, ite_F, f2])
  have f2 : f 2 = .int .i64 m := (hag 2 (by decide)).trans f2
  simp only [f0, f1, f2, f50, h7, h8, go_sem, Nat.reduceEqDiff]
  by_cases hlt : i < m
  · have hlt' : (i : Int) < m := by omega
    have gd := zf_ g2 (zcb_ w2)
    simp only [hlt', decide_true, go_sem, Nat.reduceEqDiff]
    rw [zvd_ hy.ptr (by omega), ld3 ((hy.gr gd).cell 0 (by omega)), zmf_ hy.ptr (by omega), ld3 ((hy.gr gd).cell 1 (by omega)), sl27 c0 c1 (by omega)]
    have hlen : (seg xs 0 (cs.getD 0 0) ++ rep i (seg xs (cs.getD 0 0) (cs.getD 1 0))).length ≤ 100 + 4 * 100 := by
      rw [List.length_append, zcf_]
      have := Nat.mul_le_mul (show i ≤ 4 by omega) (show (seg xs (cs.getD 0 0) (cs.getD 1 0)).length ≤ 100 by omega)
      omega
    refine apI (o2.gr (zcb_ w2)) (p1.gr gd) rfl (by rw [l1]) (by omega) gd.size fun X3 d3 w3 o3 g3 => ?_
    rw [zj_ (by omega) (by omega)]
    have g3' := zxf_ gd g3 fun q hq => (Row.ge o2 hq).1
    rw [List.append_assoc, ← zcd_] at o3
    refine ⟨⟨i + 1, X3, d3, hlt, rfl, by rw [List.append_assoc, ← zcd_], g3', o3⟩, ?_⟩
    simp only [intOf]
    omega
  · have him' : i = m := by omega
    subst him'
    simp only [show ¬ (i : Int) < i from by omega, decide_false, go_sem, Nat.reduceEqDiff]
    have gd := zf_ g2 (zcb_ w2)
    rw [zmf_ hy.ptr (by omega), ld3 ((hy.gr gd).cell 1 (by omega)), zxe_ hy.ptr (by omega), ld3 ((hy.gr gd).cell 2 (by omega)), sl27 (by omega) c2 (by omega)]
    have hlen : (seg xs 0 (cs.getD 0 0) ++ rep i (seg xs (cs.getD 0 0) (cs.getD 1 0))).length ≤ 100 + 4 * 100 := by
      rw [List.length_append, zcf_]
      have := Nat.mul_le_mul (show i ≤ 4 by omega) (show (seg xs (cs.getD 0 0) (cs.getD 1 0)).length ≤ 100 by omega)
      omega
    refine apI (o2.gr (zcb_ w2)) (p2.gr gd) rfl (by rw [l2]) (by omega) gd.size fun X3 d3 w3 o3 g3 => ?_
    have g3' := zxf_ gd g3 fun q hq => (Row.ge o2 hq).1
    have hlen3 : (seg xs 0 (cs.getD 0 0) ++ rep i (seg xs (cs.getD 0 0) (cs.getD 1 0)) ++ seg xs (cs.getD 1 0) (cs.getD 2 0)).length ≤ 600 := by
      rw [List.length_append]
      omega
    refine ⟨fun f w' => ∃ (j : Nat) (X' : Option Addr) (c' : Nat), j ≤ i ∧ f 75 = .int .i64 j ∧ f 11 = .slice X' (seg xs 0 (cs.getD 0 0) ++ rep i (seg xs (cs.getD 0 0) (cs.getD 1 0)) ++ seg xs (cs.getD 1 0) (cs.getD 2 0) ++ rep j (seg xs (cs.getD 2 0) (cs.getD 3 0))).length c' ∧ Gr w w' ∧ Own 3 w' w.heap.size X' c' (seg xs 0 (cs.getD 0 0) ++ rep i (seg xs (cs.getD 0 0) (cs.getD 1 0)) ++ seg xs (cs.getD 1 0) (cs.getD 2 0) ++ rep j (seg xs (cs.getD 2 0) (cs.getD 3 0))), fun f _ => i - (intOf (f 75)).toNat,
      ⟨0, X3, d3, Nat.zero_le _, rfl, by simp [rep]; rfl, g3', by simpa [rep] using o3⟩, ?_⟩
    rintro f' w4 hag' ⟨j, X4, d4, hji, h9, h7', g4, o4⟩
    have f0' : f' 0 = .slice X xs.length c := (hag' 0 (by decide)).trans f0
    have f1' : f' 1 = .slice Y cs.length d := (hag' 1 (by decide)).trans f1
    have f74' : f' 74 = .int .i64 i := (hag' 74 (by decide)).trans (by simp only [zq33, Nat.reduceEqDiff, ite_T, ite_F, f2])
    simp only [f0', f1', f74', h7', h9, go_sem, Nat.reduceEqDiff]
    have hlen4 : (seg xs 0 (cs.getD 0 0) ++ rep i (seg xs (cs.getD 0 0) (cs.getD 1 0)) ++ seg xs (cs.getD 1 0) (cs.getD 2 0) ++ rep j (seg xs (cs.getD 2 0) (cs.getD 3 0))).length ≤ 600 + 4 * 100 := by
      rw [List.length_append, zcf_ j]
      have := Nat.mul_le_mul (show j ≤ 4 by omega) (show (seg xs (cs.getD 2 0) (cs.getD 3 0)).length ≤ 100 by omega)
      omega
    by_cases hlt2 : j < i
    · have hlt' : (j : Int) < i := by omega
      have gd4 := zf_ g4 (zcb_ w4)
      simp only [hlt', decide_true, go_sem, Nat.reduceEqDiff]
      rw [zxe_ hy.ptr (by omega), ld3 ((hy.gr gd4).cell 2 (by omega)), zye_ hy.ptr (by omega), ld3 ((hy.gr gd4).cell 3 (by omega)), sl27 (by omega) c3 (by omega)]
      refine apI (o4.gr (zcb_ w4)) (p3.gr gd4) rfl (by rw [l3]) (by omega) gd4.size fun X5 d5 w5 o5 g5 => ?_
      rw [zj_ (by omega) (by omega)]
      have g5' := zxf_ gd4 g5 fun q hq => (Row.ge o4 hq).1
      rw [List.append_assoc, ← zcd_] at o5
      refine ⟨⟨j + 1, X5, d5, hlt2, rfl, by rw [List.append_assoc, ← zcd_], g5', o5⟩, ?_⟩
      simp only [intOf]
      omega
    · have hji' : j = i := by omega
      subst hji'
      simp only [show ¬ (j : Int) < j from by omega, decide_false, go_sem, Nat.reduceEqDiff]
      rw [zye_ hy.ptr (by omega), ld3 ((hy.gr g4).cell 3 (by omega)), sll27 (by omega) c4]
      refine apI o4 (p4.gr g4) rfl (by rw [l4]; simp) (by omega) g4.size fun X5 d5 w5 o5 g5 => ?_
      have g5' := zxf_ g4 g5 fun q hq => (Row.ge o4 hq).1
      have hk' := hk X5 d5 w5 g5'
      rw [e] at hk'
      simp only [go_sem, Nat.reduceEqDiff]
      change zi_ (.bool (decide ((60 : Int) < (zwb_ xs cs j).length))) (k (.tuple #[.slice none 0 0, .bool false]) w5) (k (.tuple #[.slice X5 (zwb_ xs cs j).length d5, .bool true]) w5)
      by_cases hl' : (zwb_ xs cs j).length ≤ 60
      · simp only [show (Int.ofNat j).toNat = j from rfl, hl', if_true] at hk'
        have := hk' o5
        simp only [show ¬ (60 : Int) < (zwb_ xs cs j).length by omega, decide_false, go_sem, Nat.reduceEqDiff]
        exact this
      · rw [if_neg hl'] at hk'
        simp only [show (60 : Int) < (zwb_ xs cs j).length by omega, decide_true, go_sem, Nat.reduceEqDiff]
        exact hk'

theorem zyt_ {w : World} {X Y : Option Addr} {c d : Nat} {xs cs : List Int} {many : Int} (hx : Ints w X xs) (hc : xs.length ≤ c) (hy : Ints w Y cs) {k : Value → World → Prop}
    (hk : ∀ X' c' w', Gr w w' → match zbc_ xs cs many with
      | some l => Own 3 w' w.heap.size X' c' l → k (.tuple #[.slice X' l.length c', .bool true]) w'
      | none => k (.tuple #[.slice none 0 0, .bool false]) w') :
    CallK Try.prog 115 [.slice X xs.length c, .slice Y cs.length d, .int .i64 many] k w := by
  refine enter115 ?_
  unfold S115
  refine zai_ hx hc hy fun X' c' w' g => ?_
  have := hk X' c' w' g
  cases e : zbc_ xs cs many with
  | none =>
    rw [e] at this
    simp only [go_sem, Nat.reduceEqDiff]
    exact this
  | some l =>
    rw [e] at this
    simp only [go_sem, Nat.reduceEqDiff]
    exact this

theorem zau_ {w : World} {X Y : Option Addr} {c d : Nat} {xs cs : List Int} {many : Int} (hx : Ints w X xs) (hc : xs.length ≤ c) (hy : Ints w Y cs) {k : Value → World → Prop}
    (hk : ∀ X' c' w', Gr w w' → Own 3 w' w.heap.size X' c' ((zbc_ xs cs many).getD []) → k (.tuple #[.slice X' ((zbc_ xs cs many).getD []).length c', .bool (zbc_ xs cs many).isSome]) w') :
    CallK Try.prog 117 [.slice X xs.length c, .slice Y cs.length d, .int .i64 many] k w := by
  refine zvh_ hx hc hy fun X' c' w' g => ?_
  cases h : zbc_ xs cs many with
  | none =>
    rw [h] at hk
    exact hk none 0 w' g (Row.nil _ _ _ _)
  | some l =>
    intro ho
    rw [h] at hk
    exact hk X' c' w' g ho
theorem zbu_ {w : World} {X Y : Option Addr} {c d : Nat} {xs cs : List Int} {many : Int} (hx : Ints w X xs) (hc : xs.length ≤ c) (hy : Ints w Y cs) {k : Value → World → Prop}
    (hk : ∀ X' c' w', Gr w w' → Own 3 w' w.heap.size X' c' ((zbc_ xs cs many).getD []) → k (.tuple #[.slice X' ((zbc_ xs cs many).getD []).length c', .bool (zbc_ xs cs many).isSome]) w') :
    CallK Try.prog 115 [.slice X xs.length c, .slice Y cs.length d, .int .i64 many] k w := by
  refine zyt_ hx hc hy fun X' c' w' g => ?_
  cases h : zbc_ xs cs many with
  | none =>
    rw [h] at hk
    exact hk none 0 w' g (Row.nil _ _ _ _)
  | some l =>
    intro ho
    rw [h] at hk
    exact hk X' c' w' g ho
end Go.Proofs.Ytegcjkhebecgbaa

namespace Go.Sh
open Go
def zpc_ (toks : Int) (ws : List Int) : Bool := decide (ws.length ≤ 10) && allB ws 0 (toks - 1)
theorem zxu_ {toks : Int} {ws : List Int} (h : zpc_ toks ws = true) : ws.length ≤ 10 := by
  simp only [zpc_, Bool.and_eq_true, decide_eq_true_eq] at h
  exact h.1
theorem zyu_ {toks : Int} {ws : List Int} (h : zpc_ toks ws = true) (ht : toks ≤ 4) : ∀ t ∈ ws, 0 ≤ t ∧ t ≤ 100 := fun t hm => by
  simp only [zpc_, Bool.and_eq_true, decide_eq_true_eq, allB, List.all_eq_true, inB] at h
  have := h.2 t hm
  omega
theorem zwj_ {xs : List Int} {a b x : Int} (h : x ∈ seg xs a b) : x ∈ xs := List.mem_of_mem_drop (List.mem_of_mem_take h)
theorem mem_rep {m : Nat} {l : List Int} {x : Int} (h : x ∈ rep m l) : x ∈ l := by
  unfold rep at h
  rw [List.mem_flatten] at h
  obtain ⟨l', h1, h2⟩ := h
  rw [List.eq_of_mem_replicate h1] at h2
  exact h2
theorem zav_ {xs cs : List Int} {m : Nat} {x : Int} (h : x ∈ zwb_ xs cs m) : x ∈ xs := by
  unfold zwb_ at h
  rcases List.mem_append.1 h with h | h
  · rcases List.mem_append.1 h with h | h
    · rcases List.mem_append.1 h with h | h
      · rcases List.mem_append.1 h with h | h
        · exact zwj_ h
        · exact zwj_ (mem_rep h)
      · exact zwj_ h
    · exact zwj_ (mem_rep h)
  · exact zwj_ h
def zec_ (ws cs : List Int) (k : Nat) : Bool := match zbc_ ws cs k with
  | some x => decide (x.length ≤ 10)
  | none => false
noncomputable def isPumpV (gm : Gram) (ws cs : List Int) (m : Int) : Bool × Bool :=
  if (zy_ gm && zpc_ gm.toks ws) = true ∧ Cuts cs ws.length ∧ ¬ (cs.getD 0 0 = cs.getD 1 0 ∧ cs.getD 2 0 = cs.getD 3 0) ∧ inB m 0 4 = true then
    (if (List.range (m.toNat + 1)).all (zec_ ws cs) = true then ((List.range (m.toNat + 1)).all (fun k => inL gm.rules (zwb_ ws cs k)), true) else (false, false))
  else (false, false)
theorem zbj_ {xs cs : List Int} {m : Int} {x : List Int} (h : zbc_ xs cs m = some x) : x = zwb_ xs cs m.toNat := by
  unfold zbc_ at h
  split at h
  · split at h
    · exact (Option.some.inj h).symm
    · cases h
  · cases h
theorem zfd_ {p : Nat → Bool} {n : Nat} : (List.range (n + 1)).all p = ((List.range n).all p && p n) := by
  rw [List.range_succ, List.all_append]
  simp
theorem zat_ {ws cs : List Int} {k : Nat} (h : zec_ ws cs k = true) : Cuts cs ws.length := by
  unfold zec_ at h
  cases hp : zbc_ ws cs k with
  | none => rw [hp] at h; cases h
  | some x =>
    unfold zbc_ at hp
    split at hp
    · rename_i hh
      exact hh.2.2.1
    · cases hp
theorem zvg_ {p : Nat → Bool} {n i : Nat} (hi : i < n) (h : p i = false) : (List.range n).all p = false := by
  rw [List.all_eq_false]
  exact ⟨i, List.mem_range.2 hi, by rw [h]; decide⟩
end Go.Sh
namespace Go.Proofs.Ytegcjkhebecgbaa
open Go Go.Sh Go.RowKit

theorem l1Word_c {F : Nat → Prop} {w : World} {v : Value} {gm : Gram} {X : Option Addr} {n cx : Nat} {ws : List Int} (hv : GramV F w v gm) (hg : zy_ gm = true) (hX : Ints w X ws) (hn : n = ws.length) {k : Value → World → Prop} (hk : ∀ w', Gr w w' → k (.bool (zpc_ gm.toks ws)) w') :
    CallK Try.prog 240 [v, .slice X n cx] k w := by
  subst hn
  obtain ⟨Y, cy, rfl, hc, hy⟩ := hv
  have ht := zie_ hg
  refine enter240 ?_
  unfold S240
  have H := Apt.nil w
  refine boxH H fun b1 w1 H => ?_
  simp only [go_sem, Nat.reduceEqDiff]
  unfold zpc_ at hk
  by_cases hl : ws.length ≤ 10
  case neg =>
    simp only [show ¬ ((ws.length : Int) ≤ 10) from by omega, decide_false, go_sem, Nat.reduceEqDiff]
    simpa only [hl, decide_false, Bool.false_and] using hk _ H.gr
  simp only [show ((ws.length : Int) ≤ 10) from by omega, decide_true, go_sem, Nat.reduceEqDiff]
  rw [ldB3 (H.box 0 rfl) rfl]
  simp only [go_sem, Nat.reduceEqDiff]
  rw [zj_ (by omega) (by omega)]
  refine l1All_c (hX.gr H.gr) fun w2 g2 => ?_
  have H := H.step g2
  simpa only [hl, decide_true, Bool.true_and] using hk _ H.gr
theorem zbt_ {F : Nat → Prop} {w : World} {v : Value} {gm : Gram} {X : Option Addr} {n cx : Nat} {ws : List Int} (hv : GramV F w v gm) (hX : Ints w X ws) (hn : n = ws.length) {k : Value → World → Prop} (hk : ∀ w', Gr w w' → k (.bool (zy_ gm && zpc_ gm.toks ws)) w') :
    CallK Try.prog 128 [v, .slice X n cx] k w := by
  subst hn
  obtain ⟨Y, cy, rfl, hc, hy⟩ := hv
  refine enter128 ?_
  unfold S128
  have H := Apt.nil w
  refine boxH H fun b1 w1 H => ?_
  rw [zv_ zdb_ sz26 rfl (H.box 0 rfl)]
  refine zji_ (gm := gm) ⟨Y, cy, rfl, hc, hy.gr H.gr⟩ fun w2 g2 => ?_
  have H := H.step g2
  cases hg : zy_ gm
  · simp only [go_sem, Nat.reduceEqDiff]
    simpa only [hg, Bool.false_and] using hk _ H.gr
  simp only [go_sem, Nat.reduceEqDiff]
  rw [zv_ zdb_ sz26 rfl (H.box 0 rfl)]
  refine l1Word_c (gm := gm) ⟨Y, cy, rfl, hc, hy.gr H.gr⟩ hg (hX.gr H.gr) rfl fun w3 g3 => ?_
  have H := H.step g3
  simpa only [hg, Bool.true_and] using hk _ H.gr
theorem isWord1_c {x toks : Int} {w : World} {b t : Nat} (hB : Box w b [.int .i64 toks] t) (h1 : 1 ≤ toks) (h4 : toks ≤ 4) {k : Value → World → Prop} (hk : k (.bool (!inB x 0 (toks - 1))) w) : CallK Try.prog 251 [.int .i64 x, ptrv b] k w := by
  refine enter251 ?_
  unfold S251
  rw [ldB3 hB rfl]
  simp only [go_sem, Nat.reduceEqDiff]
  rw [zj_ (by omega) (by omega)]
  refine in_c ?_
  simp only [go_sem, Nat.reduceEqDiff]
  exact hk
theorem zxp_ {w : World} {X : Option Addr} {n cx : Nat} {toks : Int} {ws : List Int} (hX : Ints w X ws) (hn : n = ws.length) (h1 : 1 ≤ toks) (h4 : toks ≤ 4) {k : Value → World → Prop} (hk : ∀ w', Gr w w' → k (.bool (zpc_ toks ws)) w') :
    CallK Try.prog 150 [.int .i64 toks, .slice X n cx] k w := by
  subst hn
  refine enter150 ?_
  unfold S150
  have H := Apt.nil w
  refine boxH H fun b1 w1 H => ?_
  simp only [go_sem, Nat.reduceEqDiff]
  unfold zpc_ at hk
  by_cases hl : ws.length ≤ 10
  case neg =>
    simp only [show ¬ ((ws.length : Int) ≤ 10) from by omega, decide_false, go_sem, Nat.reduceEqDiff]
    simpa only [hl, decide_false, Bool.false_and] using hk _ H.gr
  simp only [show ((ws.length : Int) ≤ 10) from by omega, decide_true, go_sem, Nat.reduceEqDiff]
  have hb : Box w1 b1 [.int .i64 toks] 3 := H.box 0 rfl
  have hp : Pred 4 (.func (.func 251) [].toArray [ptrv b1].toArray) (fun x => !inB x 0 (toks - 1)) w1 := fun w3 g3 x k hk =>
    callVc (isWord1_c (hb.gr g3) h1 h4 (hk w3 (Gr.refl w3)))
  refine zwh_ (hX.gr H.gr) hp fun w3 g3 => ?_
  have H := H.step g3
  simp only [go_sem, Nat.reduceEqDiff]
  have := hk _ H.gr
  simp only [hl, decide_true, Bool.true_and] at this
  rwa [show allB ws 0 (toks - 1) = !ws.any (fun x => !inB x 0 (toks - 1)) from by simp [allB, List.not_any_eq_all_not]] at this
theorem zhw_ {F : Nat → Prop} {w : World} {v : Value} {gm : Gram} {X C : Option Addr} {n cx nc cc : Nat} {ws cs : List Int} {m : Int} (hv : GramV F w v gm) (hX : Ints w X ws) (hn : n = ws.length) (hcx : ws.length ≤ cx) (hC : Ints w C cs) (hnc : nc = cs.length) {k : Value → World → Prop}
    (hk : ∀ w', Gr w w' → k (.tuple #[.bool (isPumpV gm ws cs m).1, .bool (isPumpV gm ws cs m).2]) w') : CallK Try.prog 120 [v, .slice X n cx, .slice C nc cc, .int .i64 m] k w := by
  subst hn hnc
  obtain ⟨Y, cy, rfl, hc, hy⟩ := hv
  refine enter120 ?_
  unfold S120
  have H := Apt.nil w
  refine boxH H fun b1 w1 H => ?_
  have H := H.drew
  refine ⟨fun w' => Gr w1.drew w', Gr.refl _, ?_⟩
  rw [zmm_ zdb_ sz26 rfl (H.box 0 rfl)]
  have G0 := H.gr
  refine zbt_ (gm := gm) ⟨Y, cy, rfl, hc, hy.gr H.gr⟩ (hX.gr H.gr) rfl fun w2 g2 => ?_
  refine ⟨g2, ?_⟩
  have H := H.step g2
  have no : ¬ ((zy_ gm && zpc_ gm.toks ws) = true ∧ Cuts cs ws.length ∧ ¬ (cs.getD 0 0 = cs.getD 1 0 ∧ cs.getD 2 0 = cs.getD 3 0) ∧ inB m 0 4 = true) → ∀ w', Gr w w' → k (.tuple #[.bool false, .bool false]) w' := fun h w' g => by
    have := hk w' g
    rwa [isPumpV, if_neg h] at this
  cases hgw : zy_ gm && zpc_ gm.toks ws
  · simp only [Bool.not_false, go_sem, Nat.reduceEqDiff]
    exact ⟨g2, no (fun h => by rw [hgw] at h; exact absurd h.1 Bool.false_ne_true) _ H.gr⟩
  simp only [Bool.not_true, go_sem, Nat.reduceEqDiff]
  refine zku_ (hC.gr H.gr) fun w3 g3 => ?_
  refine ⟨zf_ g2 g3, ?_⟩
  have H := H.step g3
  by_cases hcuts : Cuts cs ws.length
  case neg =>
    simp only [hcuts, decide_false, Bool.not_false, go_sem, Nat.reduceEqDiff]
    exact no (fun h => hcuts h.2.1) _ H.gr
  simp only [hcuts, decide_true, Bool.not_true, go_sem, Nat.reduceEqDiff]
  have hc4 := hcuts.len
  have hCp : C = some (ad C) := hC.ptr (by omega)
  have rdc : ∀ (j : Nat), j < 4 → ∀ w', Gr w1.drew w' → w'.cell? ((ad C).add j) = some (.int .i64 (cs.getD j 0)) := fun j hj w' g' => (hC.gr (zf_ G0 g')).cell j (by omega)
  rw [zvd_ (fun _ => hCp) (by omega), ldS3 (fun w' g' => rdc 0 (by decide) w' g'), zmf_ (fun _ => hCp) (by omega), ldS3 (fun w' g' => rdc 1 (by decide) w' g')]
  simp only [go_sem, Nat.reduceEqDiff]
  have hg1 : zy_ gm = true := by
    simp only [Bool.and_eq_true] at hgw
    exact hgw.1
  by_cases h01 : cs.getD 0 0 = cs.getD 1 0
  · simp only [h01, decide_true, go_sem, Nat.reduceEqDiff]
    rw [zxe_ (fun _ => hCp) (by omega), ldS3 (fun w' g' => rdc 2 (by decide) w' g'), zye_ (fun _ => hCp) (by omega), ldS3 (fun w' g' => rdc 3 (by decide) w' g')]
    simp only [go_sem, Nat.reduceEqDiff]
    by_cases h23 : cs.getD 2 0 = cs.getD 3 0
    · simp only [h23, decide_true, go_sem, Nat.reduceEqDiff]
      exact no (fun h => h.2.2.1 ⟨h01, h23⟩) _ H.gr
    simp only [h23, decide_false, go_sem, Nat.reduceEqDiff]
    have hd : ¬ (cs.getD 0 0 = cs.getD 1 0 ∧ cs.getD 2 0 = cs.getD 3 0) := fun h => h23 h.2
    refine zaf_ ?_
    cases hm : inB m 0 4
    · simp only [Bool.not_false, go_sem, Nat.reduceEqDiff]
      exact no (fun h => by rw [hm] at h; exact absurd h.2.2.2 Bool.false_ne_true) _ H.gr
    have hV : isPumpV gm ws cs m = (if (List.range (m.toNat + 1)).all (zec_ ws cs) = true then ((List.range (m.toNat + 1)).all (fun k => inL gm.rules (zwb_ ws cs k)), true) else (false, false)) := by
      rw [isPumpV, if_pos ⟨hgw, hcuts, hd, hm⟩]
    rw [hV] at hk
    obtain ⟨m, rfl⟩ : ∃ m' : Nat, m = m' := by
      simp only [inB, Bool.and_eq_true, decide_eq_true_eq] at hm
      exact ⟨m.toNat, by omega⟩
    have hm4 : m ≤ 4 := by
      simp only [inB, Bool.and_eq_true, decide_eq_true_eq] at hm
      omega
    rw [Int.toNat_natCast] at hk
    simp only [Bool.not_true, go_sem, Nat.reduceEqDiff]
    refine zhb_ (m + 1) 0 (fun r f w' => r ≤ m + 1 ∧ f 11 = .int .i64 r ∧ (∀ r', r' < r → zec_ ws cs r' = true) ∧ f 10 = .bool ((List.range r).all (fun k => inL gm.rules (zwb_ ws cs k))) ∧ Apt w w' [bx b1 [.int .i64 gm.nons, .int .i64 gm.toks, .slice Y gm.rules.length cy] 26]) ⟨Nat.zero_le _, rfl, fun r' h => absurd h (Nat.not_lt_zero _), rfl, H⟩ ?_
    rintro r f w5 N hag ⟨hr, h11, hfine, h10, H⟩ hN
    have f1 : f 1 = .slice X ws.length cx := hag 1 (by decide)
    have f2 : f 2 = .slice C cs.length cc := hag 2 (by decide)
    have f3 : f 3 = .int .i64 m := hag 3 (by decide)
    have f4 : f 4 = ptrv b1 := hag 4 (by decide)
    simp only [f1, f2, f3, f4, h11, h10, go_sem, Nat.reduceEqDiff]
    by_cases hlt : r ≤ m
    case neg =>
      simp only [show ¬ ((r : Int) ≤ m) from by omega, decide_false, go_sem, Nat.reduceEqDiff]
      obtain rfl : r = m + 1 := by omega
      rw [if_pos (zch_ fun j hj => hfine j hj)] at hk
      exact hk _ H.gr
    simp only [show ((r : Int) ≤ m) from by omega, decide_true, go_sem, Nat.reduceEqDiff]
    have bad : zec_ ws cs r = false → ∀ w', Gr w w' → k (.tuple #[.bool false, .bool false]) w' := fun hf w' g => by
      have := hk w' g
      rwa [if_neg (by rw [zvg_ (i := r) (by omega) hf]; exact Bool.false_ne_true)] at this
    have G5 := H.gr
    refine zvh_ (hX.gr H.gr) hcx (hC.gr H.gr) fun X' c' w6 g6 => ?_
    have H := H.step g6
    cases hp : zbc_ ws cs r with
    | none =>
      simp only [Bool.not_false, go_sem, Nat.reduceEqDiff]
      exact bad (by simp only [zec_, hp]) _ H.gr
    | some x =>
      dsimp only
      intro o
      simp only [Bool.not_true, go_sem, Nat.reduceEqDiff]
      have hxe := zbj_ hp
      rw [Int.toNat_natCast] at hxe
      by_cases hx10 : x.length ≤ 10
      case neg =>
        simp only [show ((10 : Int) < x.length) from by omega, decide_true, go_sem, Nat.reduceEqDiff]
        exact bad (by simp only [zec_, hp, hx10, decide_false]) _ H.gr
      simp only [show ¬ ((10 : Int) < x.length) from by omega, decide_false, go_sem, Nat.reduceEqDiff]
      have hf : zec_ ws cs r = true := by simp only [zec_, hp, hx10, decide_true]
      have hfine' : ∀ r', r' < r + 1 → zec_ ws cs r' = true := fun r' h => by
        by_cases e : r' = r
        · rw [e]; exact hf
        · exact hfine r' (by omega)
      cases hacc : (List.range r).all (fun k => inL gm.rules (zwb_ ws cs k))
      · simp only [go_sem, Nat.reduceEqDiff]
        rw [zj_ (by omega) (by omega)]
        exact hN _ _ (by omega) ⟨by omega, rfl, hfine', by rw [zfd_, hacc]; rfl, H⟩
      · simp only [go_sem, Nat.reduceEqDiff]
        rw [zv_ zdb_ sz26 rfl (H.box 0 rfl)]
        refine l4In_c (gm := gm) ⟨Y, cy, rfl, hc, hy.gr H.gr⟩ hg1 (Own.ints o) rfl hx10 fun w7 g7 => ?_
        have H := H.step g7
        rw [zj_ (by omega) (by omega)]
        exact hN _ _ (by omega) ⟨by omega, rfl, hfine', by rw [zfd_, hacc, ← hxe]; rfl, H⟩

  · simp only [h01, decide_false, go_sem, Nat.reduceEqDiff]
    have hd : ¬ (cs.getD 0 0 = cs.getD 1 0 ∧ cs.getD 2 0 = cs.getD 3 0) := fun h => h01 h.1
    refine zaf_ ?_
    cases hm : inB m 0 4
    · simp only [Bool.not_false, go_sem, Nat.reduceEqDiff]
      exact no (fun h => by rw [hm] at h; exact absurd h.2.2.2 Bool.false_ne_true) _ H.gr
    have hV : isPumpV gm ws cs m = (if (List.range (m.toNat + 1)).all (zec_ ws cs) = true then ((List.range (m.toNat + 1)).all (fun k => inL gm.rules (zwb_ ws cs k)), true) else (false, false)) := by
      rw [isPumpV, if_pos ⟨hgw, hcuts, hd, hm⟩]
    rw [hV] at hk
    obtain ⟨m, rfl⟩ : ∃ m' : Nat, m = m' := by
      simp only [inB, Bool.and_eq_true, decide_eq_true_eq] at hm
      exact ⟨m.toNat, by omega⟩
    have hm4 : m ≤ 4 := by
      simp only [inB, Bool.and_eq_true, decide_eq_true_eq] at hm
      omega
    rw [Int.toNat_natCast] at hk
    simp only [Bool.not_true, go_sem, Nat.reduceEqDiff]
    refine zhb_ (m + 1) 0 (fun r f w' => r ≤ m + 1 ∧ f 11 = .int .i64 r ∧ (∀ r', r' < r → zec_ ws cs r' = true) ∧ f 10 = .bool ((List.range r).all (fun k => inL gm.rules (zwb_ ws cs k))) ∧ Apt w w' [bx b1 [.int .i64 gm.nons, .int .i64 gm.toks, .slice Y gm.rules.length cy] 26]) ⟨Nat.zero_le _, rfl, fun r' h => absurd h (Nat.not_lt_zero _), rfl, H⟩ ?_
    rintro r f w5 N hag ⟨hr, h11, hfine, h10, H⟩ hN
    have f1 : f 1 = .slice X ws.length cx := hag 1 (by decide)
    have f2 : f 2 = .slice C cs.length cc := hag 2 (by decide)
    have f3 : f 3 = .int .i64 m := hag 3 (by decide)
    have f4 : f 4 = ptrv b1 := hag 4 (by decide)
    simp only [f1, f2, f3, f4, h11, h10, go_sem, Nat.reduceEqDiff]
    by_cases hlt : r ≤ m
    case neg =>
      simp only [show ¬ ((r : Int) ≤ m) from by omega, decide_false, go_sem, Nat.reduceEqDiff]
      obtain rfl : r = m + 1 := by omega
      rw [if_pos (zch_ fun j hj => hfine j hj)] at hk
      exact hk _ H.gr
    simp only [show ((r : Int) ≤ m) from by omega, decide_true, go_sem, Nat.reduceEqDiff]
    have bad : zec_ ws cs r = false → ∀ w', Gr w w' → k (.tuple #[.bool false, .bool false]) w' := fun hf w' g => by
      have := hk w' g
      rwa [if_neg (by rw [zvg_ (i := r) (by omega) hf]; exact Bool.false_ne_true)] at this
    have G5 := H.gr
    refine zvh_ (hX.gr H.gr) hcx (hC.gr H.gr) fun X' c' w6 g6 => ?_
    have H := H.step g6
    cases hp : zbc_ ws cs r with
    | none =>
      simp only [Bool.not_false, go_sem, Nat.reduceEqDiff]
      exact bad (by simp only [zec_, hp]) _ H.gr
    | some x =>
      dsimp only
      intro o
      simp only [Bool.not_true, go_sem, Nat.reduceEqDiff]
      have hxe := zbj_ hp
      rw [Int.toNat_natCast] at hxe
      by_cases hx10 : x.length ≤ 10
      case neg =>
        simp only [show ((10 : Int) < x.length) from by omega, decide_true, go_sem, Nat.reduceEqDiff]
        exact bad (by simp only [zec_, hp, hx10, decide_false]) _ H.gr
      simp only [show ¬ ((10 : Int) < x.length) from by omega, decide_false, go_sem, Nat.reduceEqDiff]
      have hf : zec_ ws cs r = true := by simp only [zec_, hp, hx10, decide_true]
      have hfine' : ∀ r', r' < r + 1 → zec_ ws cs r' = true := fun r' h => by
        by_cases e : r' = r
        · rw [e]; exact hf
        · exact hfine r' (by omega)
      cases hacc : (List.range r).all (fun k => inL gm.rules (zwb_ ws cs k))
      · simp only [go_sem, Nat.reduceEqDiff]
        rw [zj_ (by omega) (by omega)]
        exact hN _ _ (by omega) ⟨by omega, rfl, hfine', by rw [zfd_, hacc]; rfl, H⟩
      · simp only [go_sem, Nat.reduceEqDiff]
        rw [zv_ zdb_ sz26 rfl (H.box 0 rfl)]
        refine l4In_c (gm := gm) ⟨Y, cy, rfl, hc, hy.gr H.gr⟩ hg1 (Own.ints o) rfl hx10 fun w7 g7 => ?_
        have H := H.step g7
        rw [zj_ (by omega) (by omega)]
        exact hN _ _ (by omega) ⟨by omega, rfl, hfine', by rw [zfd_, hacc, ← hxe]; rfl, H⟩

theorem ziw_ {F : Nat → Prop} {w : World} {v : Value} {gm : Gram} {X C : Option Addr} {n cx nc cc : Nat} {ws cs : List Int} {m : Int} (hv : GramV F w v gm) (hX : Ints w X ws) (hn : n = ws.length) (hcx : ws.length ≤ cx) (hC : Ints w C cs) (hnc : nc = cs.length) {k : Value → World → Prop}
    (hk : ∀ w', Gr w w' → k (.tuple #[.bool (isPumpV gm ws cs m).1, .bool (isPumpV gm ws cs m).2]) w') : CallK Try.prog 119 [v, .slice X n cx, .slice C nc cc, .int .i64 m] k w := by
  subst hn hnc
  obtain ⟨Y, cy, rfl, hc, hy⟩ := hv
  refine enter119 ?_
  unfold S119
  have H := Apt.nil w
  refine boxH H fun b1 w1 H => ?_
  have H := H.drew
  refine ⟨fun w' => Gr w1.drew w', Gr.refl _, ?_⟩
  rw [zmm_ zdb_ sz26 rfl (H.box 0 rfl)]
  have G0 := H.gr
  have hb1 : Box w1.drew b1 [.int .i64 gm.nons, .int .i64 gm.toks, .slice Y gm.rules.length cy] 26 := H.box 0 rfl
  refine zug_ (gm := gm) ⟨Y, cy, rfl, hc, hy.gr H.gr⟩ fun w2 g2 => ?_
  refine ⟨g2, ?_⟩
  have H := H.step g2
  have no : ¬ ((zy_ gm && zpc_ gm.toks ws) = true ∧ Cuts cs ws.length ∧ ¬ (cs.getD 0 0 = cs.getD 1 0 ∧ cs.getD 2 0 = cs.getD 3 0) ∧ inB m 0 4 = true) → ∀ w', Gr w w' → k (.tuple #[.bool false, .bool false]) w' := fun h w' g => by
    have := hk w' g
    rwa [isPumpV, if_neg h] at this
  cases hg1 : zy_ gm
  · simp only [Bool.not_false, go_sem, Nat.reduceEqDiff]
    exact ⟨g2, no (fun h => by rw [hg1, Bool.false_and] at h; exact absurd h.1 Bool.false_ne_true) _ H.gr⟩
  simp only [Bool.not_true, go_sem, Nat.reduceEqDiff]
  have ht := zie_ hg1
  rw [rdG one3 hb1 rfl]
  refine zxp_ (hX.gr H.gr) rfl ht.1 ht.2 fun w3 g3 => ?_
  refine ⟨zf_ g2 g3, ?_⟩
  have H := H.step g3
  cases hw1 : zpc_ gm.toks ws
  · simp only [Bool.not_false, go_sem, Nat.reduceEqDiff]
    exact no (fun h => by rw [hw1, Bool.and_false] at h; exact absurd h.1 Bool.false_ne_true) _ H.gr
  have hgw : (zy_ gm && zpc_ gm.toks ws) = true := by rw [hg1, hw1]; rfl
  have hlen := zxu_ hw1
  have htok := zyu_ hw1 ht.2
  simp only [Bool.not_true, go_sem, Nat.reduceEqDiff]
  by_cases hc4 : cs.length = 4
  case neg =>
    simp only [show ¬ ((cs.length : Int) = 4) from by omega, decide_false, Bool.not_false, go_sem, Nat.reduceEqDiff]
    exact no (fun h => hc4 h.2.1.len) _ H.gr
  simp only [show ((cs.length : Int) = 4) from by omega, decide_true, Bool.not_true, go_sem, Nat.reduceEqDiff]
  have hCp : C = some (ad C) := hC.ptr (by omega)
  have rdc : ∀ (j : Nat), j < 4 → ∀ w', Gr w1.drew w' → w'.cell? ((ad C).add j) = some (.int .i64 (cs.getD j 0)) := fun j hj w' g' => (hC.gr (zf_ G0 g')).cell j (by omega)
  rw [zvd_ (fun _ => hCp) (by omega), ldS3 (fun w' g' => rdc 0 (by decide) w' g'), zmf_ (fun _ => hCp) (by omega), ldS3 (fun w' g' => rdc 1 (by decide) w' g')]
  simp only [go_sem, Nat.reduceEqDiff]
  by_cases h01 : cs.getD 1 0 ≤ cs.getD 0 0
  · simp only [h01, decide_true, go_sem, Nat.reduceEqDiff]
    rw [zxe_ (fun _ => hCp) (by omega), ldS3 (fun w' g' => rdc 2 (by decide) w' g'), zye_ (fun _ => hCp) (by omega), ldS3 (fun w' g' => rdc 3 (by decide) w' g')]
    simp only [go_sem, Nat.reduceEqDiff]
    by_cases h23 : cs.getD 3 0 ≤ cs.getD 2 0
    · simp only [h23, decide_true, go_sem, Nat.reduceEqDiff]
      exact no (fun h => h.2.2.1 ⟨by have := h.2.1.h01; omega, by have := h.2.1.h23; omega⟩) _ H.gr
    simp only [h23, decide_false, go_sem, Nat.reduceEqDiff]
    have hd : Cuts cs ws.length → ¬ (cs.getD 0 0 = cs.getD 1 0 ∧ cs.getD 2 0 = cs.getD 3 0) := fun hcu h => by omega
    refine in_c ?_
    cases hm : inB m 0 4
    · simp only [Bool.not_false, go_sem, Nat.reduceEqDiff]
      exact no (fun h => by rw [hm] at h; exact absurd h.2.2.2 Bool.false_ne_true) _ H.gr
    obtain ⟨m, rfl⟩ : ∃ m' : Nat, m = m' := by
      simp only [inB, Bool.and_eq_true, decide_eq_true_eq] at hm
      exact ⟨m.toNat, by omega⟩
    have hm4 : m ≤ 4 := by
      simp only [inB, Bool.and_eq_true, decide_eq_true_eq] at hm
      omega
    have hV : Cuts cs ws.length → isPumpV gm ws cs (m : Nat) = (if (List.range (m + 1)).all (zec_ ws cs) = true then ((List.range (m + 1)).all (fun k => inL gm.rules (zwb_ ws cs k)), true) else (false, false)) := fun hcuts => by
      rw [isPumpV, if_pos ⟨hgw, hcuts, hd hcuts, hm⟩, Int.toNat_natCast]
    simp only [Bool.not_true, go_sem, Nat.reduceEqDiff]
    rw [zj_ (by omega) (by omega)]
    refine zhb_ (m + 1) 0 (fun r f w' => r ≤ m + 1 ∧ f 54 = .int .i64 r ∧ (∀ r', r' < r → zec_ ws cs r' = true) ∧ f 10 = .bool ((List.range r).all (fun k => inL gm.rules (zwb_ ws cs k))) ∧ Apt w w' [bx b1 [.int .i64 gm.nons, .int .i64 gm.toks, .slice Y gm.rules.length cy] 26]) ⟨Nat.zero_le _, rfl, fun r' h => absurd h (Nat.not_lt_zero _), rfl, H⟩ ?_
    rintro r f w5 N hag ⟨hr, h11, hfine, h10, H⟩ hN
    have f1 : f 1 = .slice X ws.length cx := hag 1 (by decide)
    have f2 : f 2 = .slice C cs.length cc := hag 2 (by decide)
    have f53 : f 53 = .int .i64 ((m : Int) + 1) := hag 53 (by decide)
    have f4 : f 4 = ptrv b1 := hag 4 (by decide)
    simp only [f1, f2, f53, f4, h11, h10, go_sem, Nat.reduceEqDiff]
    by_cases hlt : r ≤ m
    case neg =>
      simp only [show ¬ ((r : Int) < (m : Int) + 1) from by omega, decide_false, go_sem, Nat.reduceEqDiff]
      obtain rfl : r = m + 1 := by omega
      have hcuts : Cuts cs ws.length := zat_ (hfine 0 (by omega))
      rw [hV hcuts, if_pos (zch_ fun j hj => hfine j hj)] at hk
      exact hk _ H.gr
    simp only [show ((r : Int) < (m : Int) + 1) from by omega, decide_true, go_sem, Nat.reduceEqDiff]
    have bad : zec_ ws cs r = false → ∀ w', Gr w w' → k (.tuple #[.bool false, .bool false]) w' := fun hf w' g => by
      by_cases hcuts : Cuts cs ws.length
      · have := hk w' g
        rwa [hV hcuts, if_neg (by rw [zvg_ (i := r) (by omega) hf]; exact Bool.false_ne_true)] at this
      · exact no (fun h => hcuts h.2.1) w' g
    have G5 := H.gr
    refine zai_ (hX.gr H.gr) hcx (hC.gr H.gr) fun X' c' w6 g6 => ?_
    have H := H.step g6
    cases hp : zbc_ ws cs r with
    | none =>
      simp only [Bool.not_false, go_sem, Nat.reduceEqDiff]
      exact bad (by simp only [zec_, hp]) _ H.gr
    | some x =>
      dsimp only
      intro o
      simp only [Bool.not_true, go_sem, Nat.reduceEqDiff]
      have hxe := zbj_ hp
      rw [Int.toNat_natCast] at hxe
      by_cases hx10 : x.length ≤ 10
      case neg =>
        simp only [show ((10 : Int) < x.length) from by omega, decide_true, go_sem, Nat.reduceEqDiff]
        exact bad (by simp only [zec_, hp, hx10, decide_false]) _ H.gr
      simp only [show ¬ ((10 : Int) < x.length) from by omega, decide_false, go_sem, Nat.reduceEqDiff]
      have hf : zec_ ws cs r = true := by simp only [zec_, hp, hx10, decide_true]
      have hfine' : ∀ r', r' < r + 1 → zec_ ws cs r' = true := fun r' h => by
        by_cases e : r' = r
        · rw [e]; exact hf
        · exact hfine r' (by omega)
      cases hacc : (List.range r).all (fun k => inL gm.rules (zwb_ ws cs k))
      · simp only [go_sem, Nat.reduceEqDiff]
        rw [zj_ (by omega) (by omega)]
        exact hN _ _ (by omega) ⟨by omega, rfl, hfine', by rw [zfd_, hacc]; rfl, H⟩
      · simp only [go_sem, Nat.reduceEqDiff]
        rw [zv_ zdb_ sz26 rfl (H.box 0 rfl)]
        have hxt : ∀ t ∈ x, 0 ≤ t ∧ t ≤ 100 := fun t hmem => htok t (zav_ (hxe ▸ hmem))
        refine spans_c (gm := gm) ⟨Y, cy, rfl, hc, hy.gr H.gr⟩ hg1 (Own.ints o) rfl hx10 hxt fun w7 bT HT => ?_
        have G6 := H.gr
        simp only [go_sem, Nat.reduceEqDiff]
        rw [ixa122 (by decide) (by decide), ixa121 (by decide) (by decide), ixa120 (by omega) (by omega)]
        simp only [Int.toNat_natCast, go_sem, Nat.reduceEqDiff]
        have hoff : 0 + (0 + 1) + Int.toNat 0 * 121 + Int.toNat 0 * 11 + x.length = 0 * 121 + 0 * 11 + x.length + 1 := by
          rw [show Int.toNat 0 = 0 from rfl]
          omega
        rw [hoff, ldB4 (HT.box 0 rfl) (zii_ (by decide) (by decide) (by omega))]
        have H := H.step HT.gr
        rw [zj_ (by omega) (by omega)]
        refine hN _ _ (by omega) ⟨by omega, rfl, hfine', ?_, H⟩
        rw [zfd_, hacc, ← hxe]
        rfl

  · simp only [h01, decide_false, go_sem, Nat.reduceEqDiff]
    have hd : Cuts cs ws.length → ¬ (cs.getD 0 0 = cs.getD 1 0 ∧ cs.getD 2 0 = cs.getD 3 0) := fun hcu h => by omega
    refine in_c ?_
    cases hm : inB m 0 4
    · simp only [Bool.not_false, go_sem, Nat.reduceEqDiff]
      exact no (fun h => by rw [hm] at h; exact absurd h.2.2.2 Bool.false_ne_true) _ H.gr
    obtain ⟨m, rfl⟩ : ∃ m' : Nat, m = m' := by
      simp only [inB, Bool.and_eq_true, decide_eq_true_eq] at hm
      exact ⟨m.toNat, by omega⟩
    have hm4 : m ≤ 4 := by
      simp only [inB, Bool.and_eq_true, decide_eq_true_eq] at hm
      omega
    have hV : Cuts cs ws.length → isPumpV gm ws cs (m : Nat) = (if (List.range (m + 1)).all (zec_ ws cs) = true then ((List.range (m + 1)).all (fun k => inL gm.rules (zwb_ ws cs k)), true) else (false, false)) := fun hcuts => by
      rw [isPumpV, if_pos ⟨hgw, hcuts, hd hcuts, hm⟩, Int.toNat_natCast]
    simp only [Bool.not_true, go_sem, Nat.reduceEqDiff]
    rw [zj_ (by omega) (by omega)]
    refine zhb_ (m + 1) 0 (fun r f w' => r ≤ m + 1 ∧ f 54 = .int .i64 r ∧ (∀ r', r' < r → zec_ ws cs r' = true) ∧ f 10 = .bool ((List.range r).all (fun k => inL gm.rules (zwb_ ws cs k))) ∧ Apt w w' [bx b1 [.int .i64 gm.nons, .int .i64 gm.toks, .slice Y gm.rules.length cy] 26]) ⟨Nat.zero_le _, rfl, fun r' h => absurd h (Nat.not_lt_zero _), rfl, H⟩ ?_
    rintro r f w5 N hag ⟨hr, h11, hfine, h10, H⟩ hN
    have f1 : f 1 = .slice X ws.length cx := hag 1 (by decide)
    have f2 : f 2 = .slice C cs.length cc := hag 2 (by decide)
    have f53 : f 53 = .int .i64 ((m : Int) + 1) := hag 53 (by decide)
    have f4 : f 4 = ptrv b1 := hag 4 (by decide)
    simp only [f1, f2, f53, f4, h11, h10, go_sem, Nat.reduceEqDiff]
    by_cases hlt : r ≤ m
    case neg =>
      simp only [show ¬ ((r : Int) < (m : Int) + 1) from by omega, decide_false, go_sem, Nat.reduceEqDiff]
      obtain rfl : r = m + 1 := by omega
      have hcuts : Cuts cs ws.length := zat_ (hfine 0 (by omega))
      rw [hV hcuts, if_pos (zch_ fun j hj => hfine j hj)] at hk
      exact hk _ H.gr
    simp only [show ((r : Int) < (m : Int) + 1) from by omega, decide_true, go_sem, Nat.reduceEqDiff]
    have bad : zec_ ws cs r = false → ∀ w', Gr w w' → k (.tuple #[.bool false, .bool false]) w' := fun hf w' g => by
      by_cases hcuts : Cuts cs ws.length
      · have := hk w' g
        rwa [hV hcuts, if_neg (by rw [zvg_ (i := r) (by omega) hf]; exact Bool.false_ne_true)] at this
      · exact no (fun h => hcuts h.2.1) w' g
    have G5 := H.gr
    refine zai_ (hX.gr H.gr) hcx (hC.gr H.gr) fun X' c' w6 g6 => ?_
    have H := H.step g6
    cases hp : zbc_ ws cs r with
    | none =>
      simp only [Bool.not_false, go_sem, Nat.reduceEqDiff]
      exact bad (by simp only [zec_, hp]) _ H.gr
    | some x =>
      dsimp only
      intro o
      simp only [Bool.not_true, go_sem, Nat.reduceEqDiff]
      have hxe := zbj_ hp
      rw [Int.toNat_natCast] at hxe
      by_cases hx10 : x.length ≤ 10
      case neg =>
        simp only [show ((10 : Int) < x.length) from by omega, decide_true, go_sem, Nat.reduceEqDiff]
        exact bad (by simp only [zec_, hp, hx10, decide_false]) _ H.gr
      simp only [show ¬ ((10 : Int) < x.length) from by omega, decide_false, go_sem, Nat.reduceEqDiff]
      have hf : zec_ ws cs r = true := by simp only [zec_, hp, hx10, decide_true]
      have hfine' : ∀ r', r' < r + 1 → zec_ ws cs r' = true := fun r' h => by
        by_cases e : r' = r
        · rw [e]; exact hf
        · exact hfine r' (by omega)
      cases hacc : (List.range r).all (fun k => inL gm.rules (zwb_ ws cs k))
      · simp only [go_sem, Nat.reduceEqDiff]
        rw [zj_ (by omega) (by omega)]
        exact hN _ _ (by omega) ⟨by omega, rfl, hfine', by rw [zfd_, hacc]; rfl, H⟩
      · simp only [go_sem, Nat.reduceEqDiff]
        rw [zv_ zdb_ sz26 rfl (H.box 0 rfl)]
        have hxt : ∀ t ∈ x, 0 ≤ t ∧ t ≤ 100 := fun t hmem => htok t (zav_ (hxe ▸ hmem))
        refine spans_c (gm := gm) ⟨Y, cy, rfl, hc, hy.gr H.gr⟩ hg1 (Own.ints o) rfl hx10 hxt fun w7 bT HT => ?_
        have G6 := H.gr
        simp only [go_sem, Nat.reduceEqDiff]
        rw [ixa122 (by decide) (by decide), ixa121 (by decide) (by decide), ixa120 (by omega) (by omega)]
        simp only [Int.toNat_natCast, go_sem, Nat.reduceEqDiff]
        have hoff : 0 + (0 + 1) + Int.toNat 0 * 121 + Int.toNat 0 * 11 + x.length = 0 * 121 + 0 * 11 + x.length + 1 := by
          rw [show Int.toNat 0 = 0 from rfl]
          omega
        rw [hoff, ldB4 (HT.box 0 rfl) (zii_ (by decide) (by decide) (by omega))]
        have H := H.step HT.gr
        rw [zj_ (by omega) (by omega)]
        refine hN _ _ (by omega) ⟨by omega, rfl, hfine', ?_, H⟩
        rw [zfd_, hacc, ← hxe]
        rfl

end Go.Proofs.Ytegcjkhebecgbaa

namespace Go.Sh
open Go
theorem Apt.emptySS {w0 w : World} {L : List Thing} (H : Apt w0 w L) (i : Nat) {e1 e2 c : Nat} {X : Option Addr} (ps : Nat → Option Addr × Nat) (hi : L[i]? = some (rwi e1 1 X 0 c [])) : Apt w0 w (L.set i (Sh.lssi e1 e2 X c [] ps)) := by
  have hr := H.row i hi
  have o : OwnSS e1 e2 w w0.heap.size X c [] ps := ⟨⟨[], hr, fun j hj => by simp at hj⟩, fun j hj => by simp at hj, fun i j hi => by simp at hi⟩
  refine H.set hi (Gx.refl _ w) (fun q hq => ?_) (fun q hq => (o.foot hq).2) (zdh_ o)
  rcases hq with hq | ⟨l, hl, _⟩
  · exact .inl hq
  · simp at hl
end Go.Sh
namespace Go.Proofs.Ytegcjkhebecgbaa
open Go Go.Sh Go.RowKit

theorem inf220 : Inf Try.prog 220 .nilFunc 1 8 := zkf_ (by kernel_rfl)
theorem tree_c {gm : Gram} {tree : List Int} {X : Option Addr} {n c : Nat} (hg : zy_ gm = true) (ht : tree.length ≤ 60) {F : Nat → Prop} {w : World} {v : Value} (hv : GramV F w v gm) (hx : Ints w X tree) (hn : n = tree.length) {k : Value → World → Prop}
    (hk0 : ztb_ gm.rules tree tree.length 0 0 [] = none → ∀ w' v1 v2, Gr w w' → k (.tuple #[v1, v2, .bool false]) w')
    (hk1 : ∀ p ws, ztb_ gm.rules tree tree.length 0 0 [] = some (p, ws) → ∀ w' b E W cw, Apt w w' [ows W cw ws, pti E p b] → k (.tuple #[ptrv b, .slice W ws.length cw, .bool true]) w') :
    CallK Try.prog 179 [v, .int .i64 0, .slice X n c] k w := by
  subst hn
  obtain ⟨Y, cy, rfl, hc, hy⟩ := hv
  refine enter179 ?_
  unfold S179
  have H := Apt.nil w
  refine boxH H fun bG w1 H => ?_
  refine boxH H fun bR w2 H => ?_
  refine zjd_ H u27 inf3 [] (by decide) (by decide) (by simp [Instr.fill, madeCells]) rfl fun b0 w3 H => ?_
  refine zid_ H zgf_ fun bW w4 H => ?_
  refine zyb_ H 3 rfl sz27 rfl rfl rfl fun w5 H => ?_
  refine zid_ H inf220 fun bF w6 H => ?_
  simp only [go_sem, Nat.reduceEqDiff]
  refine zyb_ H 4 rfl sz220 rfl rfl rfl fun w7 H => ?_
  simp only [List.nil_append, List.cons_append, List.set_cons_zero, List.set_cons_succ] at H
  have H := H.pick (L' := held4 gm tree X Y c cy bR bG bW bF (some ⟨b0, 0, none⟩) 0 []) (fun i => [1, 0, 3, 4, 2].getD i 0) (fun i a ha => by
    match i, ha with
    | 0, ha => exact ha
    | 1, ha => exact ha
    | 2, ha => exact ha
    | 3, ha => exact ha
    | 4, ha => exact ha
    | i + 5, ha => simp [held4] at ha) (fun i j hi hj e => by
    simp only [held4, List.length_cons, List.length_nil] at hi hj
    match i, j, hi, hj, e with
    | 0, 0, _, _, _ | 1, 1, _, _, _ | 2, 2, _, _, _ | 3, 3, _, _, _ | 4, 4, _, _, _ => rfl
    | 0, 1, _, _, e | 0, 2, _, _, e | 0, 3, _, _, e | 0, 4, _, _, e | 1, 0, _, _, e | 1, 2, _, _, e | 1, 3, _, _, e | 1, 4, _, _, e | 2, 0, _, _, e | 2, 1, _, _, e | 2, 3, _, _, e | 2, 4, _, _, e | 3, 0, _, _, e | 3, 1, _, _, e | 3, 2, _, _, e | 3, 4, _, _, e | 4, 0, _, _, e | 4, 1, _, _, e | 4, 2, _, _, e | 4, 3, _, _, e => exact absurd e (by decide)
    | i + 5, _, h, _, _ => omega
    | _, j + 5, _, h, _ => omega)
  rw [ldB220 (H.box 3 rfl) rfl]
  refine callVc (caps := [ptrv bR, ptrv bG, ptrv bW, ptrv bF]) ?_
  refine read_c hg ht hx hy tree.length (M := []) (a := 0) H (by omega) (by simp; omega) (fun hz w8 v W cw ws H => ?_) fun p ws hz w8 b E W cw H => ?_
  · simp only [go_sem, Nat.reduceEqDiff]
    have H := H.drew
    rw [zrd_ (H.box 2 rfl) rfl]
    exact hk0 hz _ _ _ H.gr
  · simp only [go_sem, Nat.reduceEqDiff]
    have H := H.drew
    rw [zrd_ (H.box 2 rfl) rfl]
    exact hk1 p ws hz _ _ _ _ _ ((((H.erase 0).erase 0).erase 0).erase 0)
theorem whole_c {gm : Gram} {tree : List Int} {X : Option Addr} {n c : Nat} {F : Nat → Prop} {w : World} {v : Value} (hv : GramV F w v gm) (hx : Ints w X tree) (hn : n = tree.length) {k : Value → World → Prop}
    (hk0 : zdc_ gm tree = false → ∀ w' v1 v2, Gr w w' → k (.tuple #[v1, v2, .bool false]) w')
    (hk1 : ∀ p ws, Whole gm tree p ws → ∀ w' b E W cw, Apt w w' [ows W cw ws, pti E p b] → k (.tuple #[ptrv b, .slice W ws.length cw, .bool true]) w') :
    CallK Try.prog 221 [v, .slice X n c] k w := by
  subst hn
  obtain ⟨Y, cy, rfl, hc, hy⟩ := hv
  refine enter221 ?_
  unfold S221
  have H := Apt.nil w
  refine boxH H fun b1 w1 H => ?_
  rw [zv_ zdb_ sz26 rfl (H.box 0 rfl)]
  refine zug_ (gm := gm) ⟨Y, cy, rfl, hc, hy.gr H.gr⟩ fun w2 g2 => ?_
  have H := H.step g2
  cases hg : zy_ gm
  · simp only [Bool.not_false, go_sem, Nat.reduceEqDiff]
    exact hk0 (by simp [zdc_, hg]) _ _ _ H.gr
  simp only [Bool.not_true, go_sem, Nat.reduceEqDiff]
  by_cases hl : tree.length ≤ 60
  case neg =>
    simp only [show (60 : Int) < tree.length from by omega, decide_true, go_sem, Nat.reduceEqDiff]
    exact hk0 (by simp [zdc_, hl]) _ _ _ H.gr
  simp only [show ¬ (60 : Int) < tree.length from by omega, decide_false, go_sem, Nat.reduceEqDiff]
  rw [zv_ zdb_ sz26 rfl (H.box 0 rfl)]
  have G := H.gr
  refine tree_c hg hl ⟨Y, cy, rfl, hc, hy.gr H.gr⟩ (hx.gr H.gr) rfl (fun hz w3 v1 v2 g3 => ?_) fun p ws hz w3 b E W cw H3 => ?_
  · simp only [go_sem, Nat.reduceEqDiff]
    refine hk0 ?_ _ _ _ (zf_ (zf_ G g3) (zcb_ _))
    cases ha : zdc_ gm tree with
    | false => rfl
    | true =>
      obtain ⟨p, ws, hW⟩ := asked_whole.1 ha
      rw [hW.read] at hz
      cases hz
  · simp only [go_sem, Nat.reduceEqDiff]
    have H3 := H3.drew
    obtain ⟨Xp, cp, hb, _⟩ := (show PartAt E w3.drew p b from H3.get 1 rfl).box
    rw [ldB3 hb rfl]
    simp only [go_sem, Int.natCast_inj]
    have H4 := Apt.append (Apt.nil w |>.step G) H3
    by_cases hf : p.fin = tree.length
    · simp only [hf, decide_true]
      exact hk1 p ws ⟨hg, hl, hz, hf⟩ _ _ _ _ _ H4
    · simp only [hf, decide_false]
      refine hk0 ?_ _ _ _ H4.gr
      cases ha : zdc_ gm tree with
      | false => rfl
      | true =>
        obtain ⟨p', ws', hW⟩ := asked_whole.1 ha
        have := hW.read
        rw [hz] at this
        simp only [Option.some.injEq, Prod.mk.injEq] at this
        exact absurd (this.1 ▸ hW.fin) hf
theorem pti_lt {w w' : World} {L : List Thing} {i b : Nat} {E : Nat → Prop} {p : PT} (H : Apt w w' L) (hi : L[i]? = some (pti E p b)) : ∀ q, E q → q < w'.heap.size := fun q hq => (H.ok i _ hi).hi q hq
theorem zjw_ {F : Nat → Prop} {w : World} {v : Value} {gm : Gram} {tree : List Int} {X : Option Addr} {n c : Nat} (hv : GramV F w v gm) (hx : Ints w X tree) (hn : n = tree.length) {k : Value → World → Prop}
    (hk : ∀ w' U d, Gr w w' → Own 3 w' w.heap.size U d (zrc_ gm tree).1 → k (.tuple #[.slice U (zrc_ gm tree).1.length d, .bool (zrc_ gm tree).2]) w') :
    CallK Try.prog 110 [v, .slice X n c] k w := by
  subst hn
  obtain ⟨Y, cy, rfl, hc, hy⟩ := hv
  refine enter110 ?_
  unfold S110
  have H := Apt.nil w
  refine boxH H fun b1 w1 H => ?_
  rw [zv_ zdb_ sz26 rfl (H.box 0 rfl)]
  unfold zrc_ at hk
  have G1 := H.gr
  refine whole_c (gm := gm) (tree := tree) ⟨Y, cy, rfl, hc, hy.gr H.gr⟩ (hx.gr H.gr) rfl (fun ha w2 v1 v2 g2 => ?_) fun p ws hW w2 b E W cw H2 => ?_
  · simp only [go_sem, Bool.not_false]
    rw [zyh_ ha] at hk
    exact hk _ none 0 (zf_ G1 g2) (Row.nil _ _ _ _)
  rw [hW.eq] at hk
  simp only [go_sem, Bool.not_true]
  have H := H.append H2
  refine pump_c hW (pti_lt H (i := 2) rfl) (H.get 2 rfl) (fun he w3 g3 => ?_) fun i j he w3 bi bj g3 pi pj => ?_
  · have H := H.step g3
    simp only [he] at hk
    simp only [go_sem, Nat.reduceEqDiff]
    rw [zei_ Try.underlying151]
    simp only [Option.isNone_none, go_sem, Nat.reduceEqDiff]
    exact hk _ none 0 H.gr (Row.nil _ _ _ _)
  · have H := (H.step g3).drew
    simp only [he] at hk
    simp only [go_sem, Nat.reduceEqDiff]
    rw [zei_ Try.underlying151]
    simp only [Option.isNone_some, go_sem, Nat.reduceEqDiff]
    obtain ⟨hi, hij, hjf, hj, _⟩ := zrm_ hW he
    have lai := (hW.laid i hi).1
    have laj := (hW.laid j hj).1
    rw [← zxd_ hi] at lai
    rw [← zxd_ hj] at laj
    obtain ⟨Xi, ci, bxi, _⟩ := (PartAt.gr (zcb_ w3) _ _ pi).box
    obtain ⟨Xj, cj, bxj, _⟩ := (PartAt.gr (zcb_ w3) _ _ pj).box
    rw [ldB3 bxi rfl, ldB3 bxj rfl, ldB3 bxi rfl, ldB3 bxj rfl, ldB3 bxj rfl, ldB3 bxi rfl]
    rw [lai, laj, Nat.zero_add, Nat.zero_add]
    refine zjd_ H u27 inf3 (ints (pumpR p.parts i j)) (by decide) (by decide) (by simp [Instr.fill, madeCells, Value.cells, rng6, ints, pumpR]) rfl fun b5 w5 H => ?_
    exact hk _ _ 6 H.gr (H.row 3 rfl)
theorem zkw_ {F : Nat → Prop} {w : World} {v : Value} {gm : Gram} {tree : List Int} {X : Option Addr} {n c : Nat} (hv : GramV F w v gm) (hx : Ints w X tree) (hn : n = tree.length) {k : Value → World → Prop}
    (hk : ∀ w' U d ps, Gr w w' → OwnSS 27 3 w' w.heap.size U d (zje_ gm tree).1 ps → k (.tuple #[.slice U (zje_ gm tree).1.length d, .bool (zje_ gm tree).2]) w') :
    CallK Try.prog 112 [v, .slice X n c] k w := by
  subst hn
  obtain ⟨Y, cy, rfl, hc, hy⟩ := hv
  refine enter112 ?_
  unfold S112
  have H := Apt.nil w
  refine boxH H fun b1 w1 H => ?_
  rw [zv_ zdb_ sz26 rfl (H.box 0 rfl)]
  unfold zje_ at hk
  have G1 := H.gr
  refine whole_c (gm := gm) (tree := tree) ⟨Y, cy, rfl, hc, hy.gr H.gr⟩ (hx.gr H.gr) rfl (fun ha w2 v1 v2 g2 => ?_) fun p ws hW w2 b E W cw H2 => ?_
  · simp only [go_sem, Bool.not_false]
    rw [zyh_ ha] at hk
    exact hk _ none 0 (fun _ => (none, 0)) (zf_ G1 g2) (OwnSS.nil _ _ _ _ _)
  rw [hW.eq] at hk
  dsimp only at hk
  simp only [go_sem, Bool.not_true]
  have H := H.append H2
  have hlen := hW.len
  have h60 := hW.le
  refine zjd_ H u35 zgf_ [] (by decide) (by decide) (by simp [Instr.fill, madeCells]) rfl fun b2 w3 H => ?_
  have H := H.emptySS 3 (e2 := 3) (fun _ => (none, 0)) rfl
  refine parts_c p.parts.length (Nat.le_refl _) (by omega) (pti_lt H (i := 2) rfl) (H.get 2 rfl) fun w4 U d bs g4 r4 a4 => ?_
  have H := H.addRow g4 r4
  simp only [List.nil_append, List.cons_append, List.set_cons_zero, List.set_cons_succ] at H
  have hbl := a4.1
  simp only [go_sem, Nat.reduceEqDiff]
  have H := H.weaken 2 (b := ptsi E p.parts bs) rfl (fun q h => h) (fun w' hs _ => a4.same hs) (fun w' w'' hh hp => hp.same hh)
  simp only [List.set_cons_zero, List.set_cons_succ] at H
  have G4 := H.gr
  generalize hP : p.parts = P at *
  refine zhb_ P.length 0 (fun i f w' => i ≤ P.length ∧ f 25 = .int .i64 i ∧ ∃ (V : Option Addr) (e : Nat) (ps : Nat → Option Addr × Nat), f 9 = .slice V (zhf_ (P.take i)).length e ∧ Apt w w' [bx b1 [.int .i64 gm.nons, .int .i64 gm.toks, .slice Y gm.rules.length cy] 26, ows W cw ws, ptsi E P bs, lss V e (zhf_ (P.take i)) ps, rwi 151 1 U bs.length d (bs.map ptrv)])
    ⟨Nat.zero_le _, rfl, _, _, _, rfl, H⟩ ?_
  rintro i f w5 N hag ⟨hi, h25, V, e, ps, h9, H⟩ hN
  have hA : AllPt E w5 P bs := H.get 2 rfl
  have f23 : f 23 = .slice U bs.length d := hag 23 (by decide)
  have f24 : f 24 = .int .i64 bs.length := hag 24 (by decide)
  simp only [f23, f24, h25, h9, go_sem, Nat.reduceEqDiff]
  by_cases hlt : i < P.length
  case neg =>
    simp only [show ¬ (i : Int) < bs.length from by omega, decide_false, go_sem, Nat.reduceEqDiff]
    obtain rfl : i = P.length := by omega
    rw [List.take_length] at H
    rw [List.take_length]
    exact hk _ V e ps H.gr (H.lssi 3 rfl)
  simp only [show (i : Int) < bs.length from by omega, decide_true, go_sem, Nat.reduceEqDiff]
  have hpt := hA.2 i hlt
  rw [ixn154 (Row.ptr (H.row 4 rfl)) (by omega), ld151 ((H.row 4 rfl).src.cell i _ (ptrs_at (by omega)))]
  have H := H.drew
  obtain ⟨Xp, cp, hb, _⟩ := (PartAt.gr (zcb_ w5) _ _ hpt).box
  simp only [go_sem, Nat.reduceEqDiff]
  rw [ldB3 hb rfl, ldB3 hb rfl, ldB3 hb rfl, ldB3 hb rfl]
  refine zbb_ u27 inf3 (cells := ints (ptn P i).row) (by decide) (by decide) (by simp [Instr.fill, madeCells, Value.cells, rng4, ints, PT.row]) rfl fun b6 w6 hb6 hb6' g6 hB6 hr6 => ?_
  have H := H.addRow g6 (hr6 _ (Nat.le_refl _))
  refine zvj_ H 3 5 (by decide) (m := 4) (ys := (ptn P i).row) rfl rfl rfl rfl (by rw [zuc_, List.length_take]; omega) fun _ V' e' w7 ps' H => ?_
  have H := H.erase 5
  rw [zj_ (by omega) (by omega)]
  have hrow : zhf_ (P.take (i + 1)) = zhf_ (P.take i) ++ [(ptn P i).row] := by
    rw [List.take_succ_eq_append_getElem hlt, zxk_, zxd_ hlt]
    rfl
  refine hN _ _ hlt ⟨hlt, rfl, V', e', ps', by rw [hrow]; rfl, ?_⟩
  rw [hrow]
  exact H
open Go Go.Sh

def pl24 : Plans := fun _ => ⟨false, [], .nil⟩
def S24 (v0 v1 : Value) (k : Value → World → Prop) (w : World) : Prop :=
 Do Try.prog (sBox 26 v0) (fun t1 w2 =>
 Rd Try.prog (WS.at w2) (zc_ 26 t1) fun t3 =>
 CallK Try.prog 127 [t3] (fun t4 w5 =>
 Rd Try.prog (WS.at w5) (sUn .not t4) fun t6 =>
 za_ t6 false (fun k w' => k v1 w') (fun t7 w8 =>
 za_ t6 false (fun k w' => CallK Try.prog 152 [t7, (.int .i64 0), (.int .i64 4)] k w') (fun t9 w10 =>
 za_ t6 false (fun k w' => Rd Try.prog (WS.at w10) (sUn .not t9) fun v => k v w') (fun t11 w12 =>
 Rd Try.prog (WS.at w12) (zw_ t6 (.bool true) t11) fun t13 =>
 zi_ t13
  (k (.tuple #[(.slice none 0 0), (.bool false)]) w12)
  (Do Try.prog (zh_ 35 1 [(0, (.slice none 0 0))]) (fun t14 w15 =>
  zfb_ [22, 23, 24, 9, 27, 28, 29, 30, 31, 32, 11, 33, 34, 35, 36, 37, 38, 39, 40, 6, 12, 41, 42, 43, 44, 47, 48, 49, 50, 51, 52, 53, 54, 9, 45, 46, 12, 55, 29, 56, 7, 25, 26, 8] (fun Q16 f17 w18 =>
   Rd Try.prog (WS.at w18) (sBin .leq 3 false (f17 8) (f17 1)) fun t19 =>
   zi_ t19
    (Rd Try.prog (WS.at w18) (ze_ .len #[35] 3 [false] [(f17 7)]) fun t20 =>
    zfb_ [30, 31, 32, 11, 33, 34, 35, 36, 37, 38, 39, 40, 6, 12, 41, 42, 43, 44, 47, 48, 49, 50, 51, 52, 53, 54, 9, 45, 46, 12, 55, 29] (fun Q21 f22 w23 =>
     Rd Try.prog (WS.at w23) (sBin .lss 3 false (f22 29) (f22 28)) fun t24 =>
     zi_ t24
      (Join (fun K25 =>
      Rd Try.prog (WS.at w23) (zd_ 35 (f22 27) (f22 29)) fun t28 =>
      Rd Try.prog (WS.at w23) (zc_ 27 t28) fun t29 =>
      Join (fun K30 =>
      Rd Try.prog (WS.at w23) (zc_ 26 (f22 2)) fun t33 =>
      CallK Try.prog 153 [t33, (.int .i64 0), t29] (fun t34 w35 =>
      zi_ t34
       (CallK Try.prog 158 [t29] (fun t36 w37 =>
       Do Try.prog (zh_ 35 1 [(0, t36)]) (fun t38 w39 =>
       Do Try.prog (ze_ .append #[35, 35] 35 [false, false] [(f22 6), t38]) (fun t40 w41 =>
       K30 (F.upd (F.upd (F.upd (F.upd (F.upd (F.upd (F.upd (F.upd (F.upd (F.upd (F.upd (F.upd (F.upd f22 30 t24) 31 t28) 32 t29) 11 t29) 33 t33) 34 t29) 35 t34) 36 (f22 6)) 37 t29) 38 t36) 39 t38) 40 t40) 6 t40) w41) w39) w37) w35)
       (K30 (F.upd (F.upd (F.upd (F.upd (F.upd (F.upd (F.upd f22 30 t24) 31 t28) 32 t29) 11 t29) 33 t33) 34 t29) 35 t34) w35)) w23) (fun f31 w32 =>
      zfb_ [41, 42, 43, 44, 47, 48, 49, 50, 51, 52, 53, 54, 9, 45, 46, 12] (fun Q42 f43 w44 =>
       Rd Try.prog (WS.at w44) (zb_ 26 (f43 2) 1) fun t45 =>
       Rd Try.prog (WS.at w44) (zc_ 3 t45) fun t46 =>
       Rd Try.prog (WS.at w44) (sBin .lss 3 false (f43 12) t46) fun t47 =>
       zi_ t47
        (CallK Try.prog 158 [(f43 11)] (fun t48 w49 =>
        Do Try.prog (zh_ 27 1 [(0, (f43 12))]) (fun t50 w51 =>
        Do Try.prog (ze_ .append #[27, 27] 27 [false, false] [t48, t50]) (fun t52 w53 =>
        Do Try.prog (zh_ 35 1 [(0, t52)]) (fun t54 w55 =>
        Do Try.prog (ze_ .append #[35, 35] 35 [false, false] [(f43 9), t54]) (fun t56 w57 =>
        Rd Try.prog (WS.at w57) (sBin .add 3 true (f43 12) (.int .i64 1)) fun t58 =>
        Q42 .normal (F.upd (F.upd (F.upd (F.upd (F.upd (F.upd (F.upd (F.upd (F.upd (F.upd (F.upd (F.upd (F.upd (F.upd (F.upd (F.upd f43 41 (f43 12)) 42 t45) 43 t46) 44 t47) 47 (f43 9)) 48 (f43 11)) 49 t48) 50 (f43 12)) 51 t50) 52 t52) 53 t54) 54 t56) 9 t56) 45 (f43 12)) 46 t58) 12 t58) w57) w55) w53) w51) w49) w44)
        (Q42 (.exit 4) (F.upd (F.upd (F.upd (F.upd f43 41 (f43 12)) 42 t45) 43 t46) 44 t47) w44))
       (zt_ 4 (zt_ 3 (seqQ K25 Q21)))
       (F.upd f31 12 (.int .i64 0)) w32)) (fun f26 w27 =>
      Rd Try.prog (WS.at w27) (sBin .add 3 true (f26 29) (.int .i64 1)) fun t61 =>
      Q21 .normal (F.upd (F.upd f26 55 t61) 29 t61) w27))
      (Q21 (.exit 2) (F.upd f22 30 t24) w23))
     (zt_ 2 (seqQ (fun f62 w63 =>
    Rd Try.prog (WS.at w63) (sBin .add 3 true (f62 8) (.int .i64 1)) fun t64 =>
    Q16 .normal (F.upd (F.upd (F.upd (F.upd (F.upd f62 56 (f62 9)) 7 (f62 9)) 25 (f62 8)) 26 t64) 8 t64) w63) (zt_ 1 (seqQ (fun f65 w66 =>
    Rd Try.prog (WS.at w66) (sBin .add 3 true (f65 8) (.int .i64 1)) fun t67 =>
    Q16 .normal (F.upd (F.upd (F.upd f65 25 (f65 8)) 26 t67) 8 t67) w66) Q16))))
     (F.upd (F.upd (F.upd (F.upd (F.upd (F.upd (F.upd f17 22 (f17 8)) 23 (f17 1)) 24 t19) 9 (.slice none 0 0)) 27 (f17 7)) 28 t20) 29 (.int .i64 0)) w18)
    (Q16 (.exit 0) (F.upd (F.upd (F.upd f17 22 (f17 8)) 23 (f17 1)) 24 t19) w18))
   (zt_ 0 (seqQ (fun f68 w69 =>
  k (.tuple #[(f68 6), (.bool true)]) w69) (zr_ Try.prog [.tmp 4, .tmp 5] k)))
   (F.upd (F.upd (F.upd (F.upd (F.upd (F.upd (F.upd (F.upd (F.upd (F.upd (F.upd (F.upd (F.upd (F.upd (F.upd (zm_ [v0, v1]) 2 t1) 4 (.slice none 0 0)) 5 (.bool false)) 13 t3) 14 t4) 15 t6) 16 t6) 17 t7) 18 t9) 19 t11) 20 t13) 6 (.slice none 0 0)) 21 t14) 7 t14) 8 (.int .i64 0)) w15) w12)) w10) w8) w5) w2) w
theorem body24 : Try.f24.body = some (zg_ Try.f24) := by kernel_rfl
theorem same24 (v0 v1 : Value) (k : Value → World → Prop) (w : World) : wpF Try.prog pl24 (zg_ Try.f24) (zr_ Try.prog Try.f24.results.toList k) (zm_ [v0, v1]) w = S24 v0 v1 k w := by kernel_rfl
theorem enter24 {v0 v1 : Value} {k : Value → World → Prop} {w : World} (h : S24 v0 v1 k w) : CallK Try.prog 24 [v0, v1] k w :=
  call_of_wpF (pl := pl24) zab_ Try.func24 body24 (by kernel_rfl) (of_decide_eq_true (by kernel_rfl)) (by kernel_rfl) (by kernel_rfl) (Eq.mpr (same24 v0 v1 k w) h)

def pl292 : Plans := fun _ => ⟨false, [], .nil⟩
def S292 (v0 v1 : Value) (k : Value → World → Prop) (w : World) : Prop :=
 Rd Try.prog (WS.at w) (sBin .lss 3 false v0 v1) fun t1 =>
 zi_ t1
  (k v0 w)
  (k v1 w)
theorem body292 : Try.f292.body = some (zg_ Try.f292) := by kernel_rfl
theorem same292 (v0 v1 : Value) (k : Value → World → Prop) (w : World) : wpF Try.prog pl292 (zg_ Try.f292) (zr_ Try.prog Try.f292.results.toList k) (zm_ [v0, v1]) w = S292 v0 v1 k w := by kernel_rfl
theorem enter292 {v0 v1 : Value} {k : Value → World → Prop} {w : World} (h : S292 v0 v1 k w) : CallK Try.prog 292 [v0, v1] k w :=
  call_of_wpF (pl := pl292) zab_ Try.func292 body292 (by kernel_rfl) (of_decide_eq_true (by kernel_rfl)) (by kernel_rfl) (by kernel_rfl) (Eq.mpr (same292 v0 v1 k w) h)

end Go.Proofs.Ytegcjkhebecgbaa
