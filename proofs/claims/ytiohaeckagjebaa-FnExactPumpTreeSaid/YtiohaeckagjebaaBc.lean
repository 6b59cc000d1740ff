/- Bc: bodies of functions as terms of the frame calculus, printed by shgen.py of this repository. -/
import Derived.Test.YtiohaeckagjebaaProg
import Derived.Test.YtiohaeckagjebaaSh1
import Derived.Test.YtiohaeckagjebaaShA
set_option linter.unusedVariables false
set_option maxRecDepth 100000
namespace Go.Proofs.Ytiohaeckagjebaa
open Go Go.Sh

/-! loop.example/g00758/laws.FnExactStarOf -/
def pl5 : Plans := fun i => match i with
  | 10 => ⟨true, [3], .step 0 .held (.step 1 .held (.step 2 .one (.step 3 .last (.step 4 .any (.nil)))))⟩
  | _ => ⟨false, [], .nil⟩
def S5 (v0 : Value) (k : Value → World → Prop) (w : World) : Prop :=
 Do Try.prog (sBox 31 v0) (fun t1 w2 =>
 Rd Try.prog (WS.at w2) (sLoad 31 t1) fun t3 =>
 CallK Try.prog 29 [t3, (.int .i64 1048576)] (fun t4 w5 =>
 Rd Try.prog (WS.at w5) (sBin .lss 3 true t4 (.int .i64 0)) fun t6 =>
 CondK t6
  (k (.bool true) w5)
  (Rd Try.prog (WS.at w5) (sLoad 31 t1) fun t7 =>
  CallK Try.prog 31 [t7] (fun t8 w9 =>
  CallK Try.prog 34 [t8] (fun t10 w11 =>
  Rd Try.prog (WS.at w11) (sExtract t10 0) fun t12 =>
  Rd Try.prog (WS.at w11) (sExtract t10 1) fun t13 =>
  Do Try.prog (sAlloc 37) (fun t14 w15 =>
  Do Try.prog (sStore 37 t14 t12) (fun _ w16 =>
  Rd Try.prog (WS.at w16) (sLoad 31 t1) fun t17 =>
  CallK Try.prog 31 [t17] (fun t18 w19 =>
  Do Try.prog (sAlloc 37) (fun t20 w21 =>
  Do Try.prog (sStore 37 t20 t18) (fun _ w22 =>
  Rd Try.prog (WS.at w22) (sLoad 37 t20) fun t23 =>
  CallK Try.prog 35 [t23] (fun t24 w25 =>
  Rd Try.prog (WS.at w25) (sExtract t24 0) fun t26 =>
  Rd Try.prog (WS.at w25) (sExtract t24 1) fun t27 =>
  Do Try.prog (sAlloc 37) (fun t28 w29 =>
  Do Try.prog (sStore 37 t28 t26) (fun _ w30 =>
  Rd Try.prog (WS.at w30) (sLoad 37 t28) fun t31 =>
  Rd Try.prog (WS.at w30) (sLoad 37 t14) fun t32 =>
  CallK Try.prog 33 [t31, t32] (fun t33 w34 =>
  Rd Try.prog (WS.at w34) (sUn .not t33) fun t35 =>
  GuardK t35 false (fun k w' => k t27 w') (fun t36 w37 =>
  GuardK t35 false (fun k w' => k t13 w') (fun t38 w39 =>
  GuardK t35 false (fun k w' => Rd Try.prog (WS.at w39) (sBin .neq 4 false t36 t38) fun v => k v w') (fun t40 w41 =>
  Rd Try.prog (WS.at w41) (sPick t35 (.bool true) t40) fun t42 =>
  CondK t42
   (k (.bool false) w41)
   (∃ S43 : World → Prop, ∃ h44 : S43 w41.drew,
   Rd Try.prog ⟨S43, w41.drew, h44⟩ (sLoad 37 t20) fun t45 =>
   Rd Try.prog ⟨S43, w41.drew, h44⟩ (sLoad 31 t1) fun t46 =>
   CallK Try.prog 31 [t46] (fun t47 w48 =>
   S43 w48 ∧ CallK Try.prog 33 [t45, t47] (fun t49 w50 =>
   Rd Try.prog WS.any (sUn .not t49) fun t51 =>
   CondK t51
    (k (.bool false) w50)
    (Rd Try.prog (WS.at w50) (sLoad 37 t20) fun t52 =>
    CallK Try.prog 36 [t52, (.int .i64 1)] (fun t53 w54 =>
    Rd Try.prog (WS.at w54) (sBin .lss 3 true t53 (.int .i64 0)) fun t55 =>
    GuardK t55 false (fun k w' => Rd Try.prog (WS.at w54) (sLoad 37 t28) fun v => k v w') (fun t56 w57 =>
    GuardK t55 false (fun k w' => Rd Try.prog (WS.at w57) (sLoad 37 t14) fun v => k v w') (fun t58 w59 =>
    GuardK t55 false (fun k w' => CallK Try.prog 33 [t56, t58] k w') (fun t60 w61 =>
    GuardK t55 false (fun k w' => Rd Try.prog (WS.at w61) (sUn .not t60) fun v => k v w') (fun t62 w63 =>
    Rd Try.prog (WS.at w63) (sPick t55 (.bool true) t62) fun t64 =>
    GuardK t64 false (fun k w' => k t27 w') (fun t65 w66 =>
    GuardK t64 false (fun k w' => k t13 w') (fun t67 w68 =>
    GuardK t64 false (fun k w' => Rd Try.prog (WS.at w68) (sBin .neq 4 false t65 t67) fun v => k v w') (fun t69 w70 =>
    Rd Try.prog (WS.at w70) (sPick t64 (.bool true) t69) fun t71 =>
    CondK t71
     (k (.bool false) w70)
     (Rd Try.prog (WS.at w70) (sLoad 37 t28) fun t72 =>
     CallK Try.prog 36 [t72, (.int .i64 1)] (fun t73 w74 =>
     Rd Try.prog (WS.at w74) (sLoad 37 t28) fun t75 =>
     CallK Try.prog 37 [t75, (.int .i64 1)] (fun t76 w77 =>
     Rd Try.prog (WS.at w77) (sBin .lss 3 true t76 (.int .i64 0)) fun t78 =>
     CondK t78
      (k (.bool false) w77)
      (Rd Try.prog (WS.at w77) (sBin .neq 3 false t76 t73) fun t79 =>
      CondK t79
       (k (.bool false) w77)
       (Rd Try.prog (WS.at w77) (sLoad 31 t1) fun t80 =>
       CallK Try.prog 31 [t80] (fun t81 w82 =>
       CallK Try.prog 35 [t81] (fun t83 w84 =>
       Rd Try.prog (WS.at w84) (sExtract t83 0) fun t85 =>
       Rd Try.prog (WS.at w84) (sExtract t83 1) fun t86 =>
       Do Try.prog (sAlloc 37) (fun t87 w88 =>
       Do Try.prog (sStore 37 t87 t85) (fun _ w89 =>
       Rd Try.prog (WS.at w89) (sLoad 37 t87) fun t90 =>
       Rd Try.prog (WS.at w89) (sLoad 37 t14) fun t91 =>
       CallK Try.prog 33 [t90, t91] (fun t92 w93 =>
       Rd Try.prog (WS.at w93) (sUn .not t92) fun t94 =>
       GuardK t94 false (fun k w' => k t86 w') (fun t95 w96 =>
       GuardK t94 false (fun k w' => k t13 w') (fun t97 w98 =>
       GuardK t94 false (fun k w' => Rd Try.prog (WS.at w98) (sBin .neq 4 false t95 t97) fun v => k v w') (fun t99 w100 =>
       Rd Try.prog (WS.at w100) (sPick t94 (.bool true) t99) fun t101 =>
       CondK t101
        (k (.bool false) w100)
        (Rd Try.prog (WS.at w100) (sLoad 37 t28) fun t102 =>
        CallK Try.prog 37 [t102, (.int .i64 1)] (fun t103 w104 =>
        Rd Try.prog (WS.at w104) (sBin .lss 3 true t103 (.int .i64 0)) fun t105 =>
        CondK t105
         (k (.bool false) w104)
         (Rd Try.prog (WS.at w104) (sBin .neq 3 false t103 t73) fun t106 =>
         CondK t106
          (k (.bool false) w104)
          (k (.bool true) w104))) w100)) w98) w96) w93) w89) w88) w84) w82) w77))) w74) w70)) w68) w66) w63) w61) w59) w57) w54) w50)) w48) w41.drew)) w39) w37) w34) w30) w29) w25) w22) w21) w19) w16) w15) w11) w9) w5)) w2) w
theorem body5 : Try.f5.body = some (bodyOf Try.f5) := by kernel_rfl
theorem same5 (v0 : Value) (k : Value → World → Prop) (w : World) : wpF Try.prog pl5 (bodyOf Try.f5) (bodyQ Try.prog Try.f5.results.toList k) (initF [v0]) w = S5 v0 k w := by kernel_rfl
theorem enter5 {v0 : Value} {k : Value → World → Prop} {w : World} (h : S5 v0 k w) : CallK Try.prog 5 [v0] k w :=
  call_of_wpF (pl := pl5) mixed Try.func5 body5 (by kernel_rfl) (of_decide_eq_true (by kernel_rfl)) (by kernel_rfl) (by kernel_rfl) (same5 v0 k w ▸ h)

/-! loop.example/g00758/spec.StarOf -/
def pl34 : Plans := fun _ => ⟨false, [], .nil⟩
def S34 (v0 : Value) (k : Value → World → Prop) (w : World) : Prop :=
 Do Try.prog (sBox 37 v0) (fun t1 w2 =>
 Do Try.prog (sAlloc 37) (fun t3 w4 =>
 Rd Try.prog (WS.at w4) (sLoad 37 t1) fun t5 =>
 CallK Try.prog 81 [t5] (fun t6 w7 =>
 Rd Try.prog (WS.at w7) (sUn .not t6) fun t8 =>
 CondK t8
  (Rd Try.prog (WS.at w7) (sBuild 37 []) fun t9 =>
  Do Try.prog (sStore 37 t3 t9) (fun _ w10 =>
  Rd Try.prog (WS.at w10) (sLoadVar 37 t3) fun t11 => k (.tuple #[t11, (.bool false)]) w10) w7)
  (Rd Try.prog (WS.at w7) (sFieldAddr 37 t1 0) fun t12 =>
  Rd Try.prog (WS.at w7) (sLoad 3 t12) fun t13 =>
  Rd Try.prog (WS.at w7) (sBin .add 3 true (.int .i64 1) t13) fun t14 =>
  Rd Try.prog (WS.at w7) (sFieldAddr 37 t1 1) fun t15 =>
  Rd Try.prog (WS.at w7) (sLoad 3 t15) fun t16 =>
  Rd Try.prog (WS.at w7) (sBuild 77 []) fun t17 =>
  Do Try.prog (sBuildSlice 22 2 [(0, (.int .i64 1)), (1, (.int .i64 0))]) (fun t18 w19 =>
  Rd Try.prog (WS.at w19) (sBuild 77 [(1, t18)]) fun t20 =>
  Do Try.prog (sBuildSlice 35 2 [(0, t17), (1, t20)]) (fun t21 w22 =>
  Rd Try.prog (WS.at w22) (sLoad 37 t1) fun t23 =>
  Do Try.prog (sBuildSlice 154 1 [(0, t23)]) (fun t24 w25 =>
  CallK Try.prog 86 [t14, t16, t21, t24] (fun t26 w27 =>
  Rd Try.prog (WS.at w27) (sExtract t26 0) fun t28 =>
  Rd Try.prog (WS.at w27) (sExtract t26 1) fun t29 =>
  Do Try.prog (sStore 37 t3 t28) (fun _ w30 =>
  Rd Try.prog (WS.at w30) (sLoadVar 37 t3) fun t31 => k (.tuple #[t31, t29]) w30) w27) w25) w22) w19) w7)) w4) w2) w
theorem body34 : Try.f34.body = some (bodyOf Try.f34) := by kernel_rfl
theorem same34 (v0 : Value) (k : Value → World → Prop) (w : World) : wpF Try.prog pl34 (bodyOf Try.f34) (bodyQ Try.prog Try.f34.results.toList k) (initF [v0]) w = S34 v0 k w := by kernel_rfl
theorem enter34 {v0 : Value} {k : Value → World → Prop} {w : World} (h : S34 v0 k w) : CallK Try.prog 34 [v0] k w :=
  call_of_wpF (pl := pl34) mixed Try.func34 body34 (by kernel_rfl) (of_decide_eq_true (by kernel_rfl)) (by kernel_rfl) (by kernel_rfl) (same34 v0 k w ▸ h)

/-! loop.example/g00758/impl.StarOf -/
def pl35 : Plans := fun _ => ⟨false, [], .nil⟩
def S35 (v0 : Value) (k : Value → World → Prop) (w : World) : Prop :=
 Do Try.prog (sBox 37 v0) (fun t1 w2 =>
 Do Try.prog (sAlloc 37) (fun t3 w4 =>
 Rd Try.prog (WS.at w4) (sLoad 37 t1) fun t5 =>
 CallK Try.prog 84 [t5] (fun t6 w7 =>
 Rd Try.prog (WS.at w7) (sUn .not t6) fun t8 =>
 CondK t8
  (Rd Try.prog (WS.at w7) (sBuild 37 []) fun t9 =>
  Do Try.prog (sStore 37 t3 t9) (fun _ w10 =>
  Rd Try.prog (WS.at w10) (sLoadVar 37 t3) fun t11 => k (.tuple #[t11, (.bool false)]) w10) w7)
  (Do Try.prog (sBuildSlice 22 0 []) (fun t12 w13 =>
  Do Try.prog (sBuildSlice 22 2 [(0, (.int .i64 1)), (1, (.int .i64 0))]) (fun t14 w15 =>
  Do Try.prog (sBuildSlice 48 2 [(0, t12), (1, t14)]) (fun t16 w17 =>
  Rd Try.prog (WS.at w17) (sLoad 37 t1) fun t18 =>
  Do Try.prog (sBuildSlice 154 1 [(0, t18)]) (fun t19 w20 =>
  CallK Try.prog 87 [t16, t19] (fun t21 w22 =>
  Rd Try.prog (WS.at w22) (sExtract t21 0) fun t23 =>
  Rd Try.prog (WS.at w22) (sExtract t21 1) fun t24 =>
  Do Try.prog (sStore 37 t3 t23) (fun _ w25 =>
  Rd Try.prog (WS.at w25) (sLoadVar 37 t3) fun t26 => k (.tuple #[t26, t24]) w25) w22) w20) w17) w15) w13) w7)) w4) w2) w
theorem body35 : Try.f35.body = some (bodyOf Try.f35) := by kernel_rfl
theorem same35 (v0 : Value) (k : Value → World → Prop) (w : World) : wpF Try.prog pl35 (bodyOf Try.f35) (bodyQ Try.prog Try.f35.results.toList k) (initF [v0]) w = S35 v0 k w := by kernel_rfl
theorem enter35 {v0 : Value} {k : Value → World → Prop} {w : World} (h : S35 v0 k w) : CallK Try.prog 35 [v0] k w :=
  call_of_wpF (pl := pl35) mixed Try.func35 body35 (by kernel_rfl) (of_decide_eq_true (by kernel_rfl)) (by kernel_rfl) (by kernel_rfl) (same35 v0 k w ▸ h)

/-! loop.example/g00758/laws.markGrammar -/
def pl36 : Plans := fun _ => ⟨false, [], .nil⟩
def S36 (v0 v1 : Value) (k : Value → World → Prop) (w : World) : Prop :=
 Do Try.prog (sBox 37 v0) (fun t1 w2 =>
 Rd Try.prog (WS.at w2) (sFieldAddr 37 t1 2) fun t3 =>
 Rd Try.prog (WS.at w2) (sLoad 35 t3) fun t4 =>
 CallK Try.prog 88 [t4, v1] (fun t5 w6 =>
 k t5 w6) w2) w
theorem body36 : Try.f36.body = some (bodyOf Try.f36) := by kernel_rfl
theorem same36 (v0 v1 : Value) (k : Value → World → Prop) (w : World) : wpF Try.prog pl36 (bodyOf Try.f36) (bodyQ Try.prog Try.f36.results.toList k) (initF [v0, v1]) w = S36 v0 v1 k w := by kernel_rfl
theorem enter36 {v0 v1 : Value} {k : Value → World → Prop} {w : World} (h : S36 v0 v1 k w) : CallK Try.prog 36 [v0, v1] k w :=
  call_of_wpF (pl := pl36) mixed Try.func36 body36 (by kernel_rfl) (of_decide_eq_true (by kernel_rfl)) (by kernel_rfl) (by kernel_rfl) (same36 v0 v1 k w ▸ h)

/-! loop.example/g00758/laws.heldGrammar -/
def pl37 : Plans := fun _ => ⟨false, [], .nil⟩
def S37 (v0 v1 : Value) (k : Value → World → Prop) (w : World) : Prop :=
 Do Try.prog (sBox 37 v0) (fun t1 w2 =>
 Rd Try.prog (WS.at w2) (sFieldAddr 37 t1 2) fun t3 =>
 Rd Try.prog (WS.at w2) (sLoad 35 t3) fun t4 =>
 CallK Try.prog 89 [t4, v1] (fun t5 w6 =>
 Rd Try.prog (WS.at w6) (sBin .lss 3 true t5 (.int .i64 0)) fun t7 =>
 CondK t7
  (k (.int .i64 (-1)) w6)
  (k t5 w6)) w2) w
theorem body37 : Try.f37.body = some (bodyOf Try.f37) := by kernel_rfl
theorem same37 (v0 v1 : Value) (k : Value → World → Prop) (w : World) : wpF Try.prog pl37 (bodyOf Try.f37) (bodyQ Try.prog Try.f37.results.toList k) (initF [v0, v1]) w = S37 v0 v1 k w := by kernel_rfl
theorem enter37 {v0 v1 : Value} {k : Value → World → Prop} {w : World} (h : S37 v0 v1 k w) : CallK Try.prog 37 [v0, v1] k w :=
  call_of_wpF (pl := pl37) mixed Try.func37 body37 (by kernel_rfl) (of_decide_eq_true (by kernel_rfl)) (by kernel_rfl) (by kernel_rfl) (same37 v0 v1 k w ▸ h)

/-! loop.example/g00758/spec.l20Made -/
def pl86 : Plans := fun i => match i with
  | 6 => ⟨true, [5, 7], .step 0 .any (.step 1 .held (.step 2 .held (.step 3 .any (.step 4 .one (.step 5 .last (.step 6 .any (.step 7 .last (.nil))))))))⟩
  | _ => ⟨false, [], .nil⟩
def S86 (v0 v1 v2 v3 : Value) (k : Value → World → Prop) (w : World) : Prop :=
 Do Try.prog (sAlloc 37) (fun t1 w2 =>
 Rd Try.prog (WS.at w2) (sBuild 37 [(0, v0), (1, v1), (2, v2)]) fun t3 =>
 Do Try.prog (sAlloc 37) (fun t4 w5 =>
 Do Try.prog (sStore 37 t4 t3) (fun _ w6 =>
 Rd Try.prog (WS.at w6) (sBuiltin .len #[154] 3 [false] [v3]) fun t7 =>
 LoopF [21, 22, 23, 13, 24, 25, 26, 27, 28, 29, 30, 31, 32, 33, 34, 11, 35, 20] (fun Q8 f9 w10 =>
  Rd Try.prog (WS.at w10) (sBin .lss 3 false (f9 20) (f9 19)) fun t11 =>
  CondK t11
   (Rd Try.prog (WS.at w10) (sIndexAddr 154 (f9 18) (f9 20)) fun t12 =>
   Rd Try.prog (WS.at w10) (sLoad 37 t12) fun t13 =>
   Do Try.prog (sAlloc 37) (fun t14 w15 =>
   Do Try.prog (sStore 37 t14 t13) (fun _ w16 =>
   ∃ S17 : World → Prop, ∃ h18 : S17 w16.drew,
   Rd Try.prog WS.any (sFieldAddr 37 (f9 10) 2) fun t19 =>
   Rd Try.prog ⟨S17, w16.drew, h18⟩ (sLoad 35 t19) fun t20 =>
   Rd Try.prog ⟨S17, w16.drew, h18⟩ (sLoad 37 t14) fun t21 =>
   CallK Try.prog 140 [t21, (f9 11)] (fun t22 w23 =>
   S17 w23 ∧ Do Try.prog (sBuiltin .append #[35, 35] 35 [false, false] [t20, t22]) (fun t24 w25 =>
   Rd Try.prog WS.any (sFieldAddr 37 (f9 10) 2) fun t26 =>
   Do Try.prog (sStore 35 t26 t24) (fun _ w27 =>
   Rd Try.prog (WS.at w27) (sFieldAddr 37 t14 0) fun t28 =>
   Rd Try.prog (WS.at w27) (sLoad 3 t28) fun t29 =>
   Rd Try.prog (WS.at w27) (sBin .add 3 false (f9 11) t29) fun t30 =>
   Rd Try.prog (WS.at w27) (sBin .add 3 true (f9 20) (.int .i64 1)) fun t31 =>
   Q8 .normal (F.upd (F.upd (F.upd (F.upd (F.upd (F.upd (F.upd (F.upd (F.upd (F.upd (F.upd (F.upd (F.upd (F.upd (F.upd (F.upd (F.upd (F.upd f9 21 t11) 22 t12) 23 t13) 13 t14) 24 t19) 25 t20) 26 t21) 27 (f9 11)) 28 t22) 29 t24) 30 t26) 31 (f9 11)) 32 t28) 33 t29) 34 t30) 11 t30) 35 t31) 20 t31) w27) w25) w23) w16.drew) w15) w10)
   (Q8 (.exit 0) (F.upd f9 21 t11) w10))
  (blockQ 0 (seqQ (fun f32 w33 =>
 Rd Try.prog (WS.at w33) (sLoad 37 (f32 10)) fun t34 =>
 CallK Try.prog 81 [t34] (fun t35 w36 =>
 Rd Try.prog (WS.at w36) (sUn .not t35) fun t37 =>
 CondK t37
  (Rd Try.prog (WS.at w36) (sBuild 37 []) fun t38 =>
  Do Try.prog (sStore 37 (f32 8) t38) (fun _ w39 =>
  Rd Try.prog (WS.at w39) (sLoadVar 37 (f32 8)) fun t40 => k (.tuple #[t40, (.bool false)]) w39) w36)
  (Rd Try.prog (WS.at w36) (sLoad 37 (f32 10)) fun t41 =>
  Do Try.prog (sStore 37 (f32 8) t41) (fun _ w42 =>
  Rd Try.prog (WS.at w42) (sLoadVar 37 (f32 8)) fun t43 => k (.tuple #[t43, (.bool true)]) w42) w36)) w33) (bodyQ Try.prog [.cell 8 37, .tmp 9] k)))
  (F.upd (F.upd (F.upd (F.upd (F.upd (F.upd (F.upd (F.upd (F.upd (F.upd (F.upd (initF [v0, v1, v2, v3]) 8 t1) 9 (.bool false)) 14 v0) 15 v1) 16 v2) 17 t3) 10 t4) 11 (.int .i64 1)) 18 v3) 19 t7) 20 (.int .i64 0)) w6) w5) w2) w
theorem body86 : Try.f86.body = some (bodyOf Try.f86) := by kernel_rfl
theorem same86 (v0 v1 v2 v3 : Value) (k : Value → World → Prop) (w : World) : wpF Try.prog pl86 (bodyOf Try.f86) (bodyQ Try.prog Try.f86.results.toList k) (initF [v0, v1, v2, v3]) w = S86 v0 v1 v2 v3 k w := by kernel_rfl
theorem enter86 {v0 v1 v2 v3 : Value} {k : Value → World → Prop} {w : World} (h : S86 v0 v1 v2 v3 k w) : CallK Try.prog 86 [v0, v1, v2, v3] k w :=
  call_of_wpF (pl := pl86) mixed Try.func86 body86 (by kernel_rfl) (of_decide_eq_true (by kernel_rfl)) (by kernel_rfl) (by kernel_rfl) (same86 v0 v1 v2 v3 k w ▸ h)

/-! loop.example/g00758/impl.beside -/
def pl87 : Plans := fun i => match i with
  | 5 => ⟨true, [7, 9], .step 0 .any (.step 1 .held (.step 3 .any (.step 2 .one (.step 4 .one (.step 5 .any (.step 6 .one (.step 7 .last (.step 8 .any (.step 9 .last (.nil))))))))))⟩
  | _ => ⟨false, [], .nil⟩
def S87 (v0 v1 : Value) (k : Value → World → Prop) (w : World) : Prop :=
 Do Try.prog (sAlloc 37) (fun t1 w2 =>
 Rd Try.prog (WS.at w2) (sIndexAddr 154 v1 (.int .i64 0)) fun t3 =>
 Rd Try.prog (WS.at w2) (sFieldAddr 37 t3 1) fun t4 =>
 Rd Try.prog (WS.at w2) (sLoad 3 t4) fun t5 =>
 Rd Try.prog (WS.at w2) (sBuild 37 [(0, (.int .i64 1)), (1, t5)]) fun t6 =>
 Do Try.prog (sAlloc 37) (fun t7 w8 =>
 Do Try.prog (sStore 37 t7 t6) (fun _ w9 =>
 Rd Try.prog (WS.at w9) (sBuiltin .len #[48] 3 [false] [v0]) fun t10 =>
 LoopF [23, 24, 25, 8, 26, 27, 28, 29, 30, 31, 32, 33, 34, 35, 22] (fun Q11 f12 w13 =>
  Rd Try.prog (WS.at w13) (sBin .lss 3 false (f12 22) (f12 21)) fun t14 =>
  CondK t14
   (Rd Try.prog (WS.at w13) (sIndexAddr 48 (f12 20) (f12 22)) fun t15 =>
   Rd Try.prog (WS.at w13) (sLoad 22 t15) fun t16 =>
   ∃ S17 : World → Prop, ∃ h18 : S17 w13.drew,
   Rd Try.prog WS.any (sFieldAddr 37 (f12 6) 2) fun t19 =>
   Rd Try.prog ⟨S17, w13.drew, h18⟩ (sLoad 35 t19) fun t20 =>
   Do Try.prog (sBuildSlice 22 0 []) (fun t21 w22 =>
   S17 w22 ∧ Do Try.prog (sBuiltin .append #[22, 22] 22 [false, false] [t21, t16]) (fun t23 w24 =>
   S17 w24 ∧ Rd Try.prog WS.any (sBuild 77 [(1, t23)]) fun t25 =>
   Do Try.prog (sBuildSlice 35 1 [(0, t25)]) (fun t26 w27 =>
   S17 w27 ∧ Do Try.prog (sBuiltin .append #[35, 35] 35 [false, false] [t20, t26]) (fun t28 w29 =>
   Rd Try.prog WS.any (sFieldAddr 37 (f12 6) 2) fun t30 =>
   Do Try.prog (sStore 35 t30 t28) (fun _ w31 =>
   Rd Try.prog (WS.at w31) (sBin .add 3 true (f12 22) (.int .i64 1)) fun t32 =>
   Q11 .normal (F.upd (F.upd (F.upd (F.upd (F.upd (F.upd (F.upd (F.upd (F.upd (F.upd (F.upd (F.upd (F.upd (F.upd (F.upd f12 23 t14) 24 t15) 25 t16) 8 t16) 26 t19) 27 t20) 29 t16) 28 t21) 30 t23) 31 t25) 32 t26) 33 t28) 34 t30) 35 t32) 22 t32) w31) w29) w27) w24) w22) w13.drew)
   (Q11 (.exit 0) (F.upd f12 23 t14) w13))
  (blockQ 0 (seqQ (fun f33 w34 =>
 Rd Try.prog (WS.at w34) (sBuiltin .len #[154] 3 [false] [(f33 1)]) fun t35 =>
 LoopF [39, 40, 41, 10, 42, 43, 44, 45, 46, 47, 48, 49, 12, 50, 51, 52, 53, 54, 55, 56, 57, 58, 59, 60, 61, 62, 63, 13, 14, 64, 65, 66, 67, 68, 69, 70, 71, 72, 73, 74, 59, 75, 76, 77, 78, 79, 80, 81, 46, 82, 83, 84, 85, 86, 87, 88, 38] (fun Q36 f37 w38 =>
  Rd Try.prog (WS.at w38) (sBin .lss 3 false (f37 38) (f37 37)) fun t39 =>
  CondK t39
   (Rd Try.prog (WS.at w38) (sIndexAddr 154 (f37 36) (f37 38)) fun t40 =>
   Rd Try.prog (WS.at w38) (sLoad 37 t40) fun t41 =>
   Do Try.prog (sAlloc 37) (fun t42 w43 =>
   Do Try.prog (sStore 37 t42 t41) (fun _ w44 =>
   Rd Try.prog (WS.at w44) (sLoad 37 t42) fun t45 =>
   CallK Try.prog 141 [t45] (fun t46 w47 =>
   Rd Try.prog (WS.at w47) (sField 37 t46 2) fun t48 =>
   Rd Try.prog (WS.at w47) (sBuiltin .len #[35] 3 [false] [t48]) fun t49 =>
   LoopF [47, 48, 49, 12, 50, 51, 52, 53, 54, 55, 56, 57, 58, 59, 60, 61, 62, 63, 13, 14, 64, 65, 66, 67, 68, 69, 70, 71, 72, 73, 74, 59, 75, 76, 77, 78, 79, 80, 81, 46] (fun Q50 f51 w52 =>
    Rd Try.prog (WS.at w52) (sBin .lss 3 false (f51 46) (f51 45)) fun t53 =>
    CondK t53
     (Rd Try.prog (WS.at w52) (sIndexAddr 35 (f51 44) (f51 46)) fun t54 =>
     Rd Try.prog (WS.at w52) (sLoad 77 t54) fun t55 =>
     Do Try.prog (sAlloc 77) (fun t56 w57 =>
     Do Try.prog (sStore 77 t56 t55) (fun _ w58 =>
     Rd Try.prog (WS.at w58) (sFieldAddr 77 t56 0) fun t59 =>
     Rd Try.prog (WS.at w58) (sLoad 3 t59) fun t60 =>
     Rd Try.prog (WS.at w58) (sFieldAddr 37 (f51 6) 0) fun t61 =>
     Rd Try.prog (WS.at w58) (sLoad 3 t61) fun t62 =>
     Rd Try.prog (WS.at w58) (sBin .add 3 false t60 t62) fun t63 =>
     Rd Try.prog (WS.at w58) (sFieldAddr 77 t56 0) fun t64 =>
     Do Try.prog (sStore 3 t64 t63) (fun _ w65 =>
     Rd Try.prog (WS.at w65) (sFieldAddr 77 t56 1) fun t66 =>
     Rd Try.prog (WS.at w65) (sLoad 22 t66) fun t67 =>
     Rd Try.prog (WS.at w65) (sBuiltin .len #[22] 3 [false] [t67]) fun t68 =>
     LoopF [60, 61, 62, 63, 13, 14, 64, 65, 66, 67, 68, 69, 70, 71, 72, 73, 74, 59] (fun Q69 f70 w71 =>
      Rd Try.prog (WS.at w71) (sBin .lss 3 false (f70 59) (f70 58)) fun t72 =>
      CondK t72
       (Join (fun K73 =>
       Rd Try.prog (WS.at w71) (sIndexAddr 22 (f70 57) (f70 59)) fun t76 =>
       Rd Try.prog (WS.at w71) (sLoad 3 t76) fun t77 =>
       Rd Try.prog (WS.at w71) (sBin .geq 3 true t77 (.int .i64 0)) fun t78 =>
       CondK t78
        (Rd Try.prog (WS.at w71) (sFieldAddr 77 (f70 12) 1) fun t79 =>
        Rd Try.prog (WS.at w71) (sLoad 22 t79) fun t80 =>
        Rd Try.prog (WS.at w71) (sFieldAddr 37 (f70 6) 0) fun t81 =>
        Rd Try.prog (WS.at w71) (sLoad 3 t81) fun t82 =>
        Rd Try.prog (WS.at w71) (sBin .add 3 false t77 t82) fun t83 =>
        Rd Try.prog (WS.at w71) (sIndexAddr 22 t80 (f70 59)) fun t84 =>
        Do Try.prog (sStore 3 t84 t83) (fun _ w85 =>
        K73 (F.upd (F.upd (F.upd (F.upd (F.upd (F.upd (F.upd (F.upd (F.upd (F.upd (F.upd (F.upd (F.upd (F.upd (F.upd (F.upd f70 60 t72) 61 (f70 59)) 62 t76) 63 t77) 13 (f70 59)) 14 t77) 64 t77) 65 t78) 66 t79) 67 t80) 68 (f70 59)) 69 t77) 70 t81) 71 t82) 72 t83) 73 t84) w85) w71)
        (K73 (F.upd (F.upd (F.upd (F.upd (F.upd (F.upd (F.upd (F.upd f70 60 t72) 61 (f70 59)) 62 t76) 63 t77) 13 (f70 59)) 14 t77) 64 t77) 65 t78) w71)) (fun f74 w75 =>
       Rd Try.prog (WS.at w75) (sBin .add 3 true (f74 59) (.int .i64 1)) fun t86 =>
       Q69 .normal (F.upd (F.upd f74 74 t86) 59 t86) w75))
       (Q69 (.exit 6) (F.upd f70 60 t72) w71))
      (blockQ 6 (seqQ (fun f87 w88 =>
     Rd Try.prog (WS.at w88) (sFieldAddr 37 (f87 6) 2) fun t89 =>
     Rd Try.prog (WS.at w88) (sLoad 35 t89) fun t90 =>
     Rd Try.prog (WS.at w88) (sLoad 77 (f87 12)) fun t91 =>
     Do Try.prog (sBuildSlice 35 1 [(0, t91)]) (fun t92 w93 =>
     Do Try.prog (sBuiltin .append #[35, 35] 35 [false, false] [t90, t92]) (fun t94 w95 =>
     Rd Try.prog (WS.at w95) (sFieldAddr 37 (f87 6) 2) fun t96 =>
     Do Try.prog (sStore 35 t96 t94) (fun _ w97 =>
     Rd Try.prog (WS.at w97) (sBin .add 3 true (f87 46) (.int .i64 1)) fun t98 =>
     Q50 .normal (F.upd (F.upd (F.upd (F.upd (F.upd (F.upd (F.upd (F.upd f87 75 t89) 76 t90) 77 t91) 78 t92) 79 t94) 80 t96) 81 t98) 46 t98) w97) w95) w93) w88) (blockQ 5 (seqQ (fun f99 w100 =>
     Rd Try.prog (WS.at w100) (sBin .add 3 true (f99 46) (.int .i64 1)) fun t101 =>
     Q50 .normal (F.upd (F.upd f99 81 t101) 46 t101) w100) Q50))))
      (F.upd (F.upd (F.upd (F.upd (F.upd (F.upd (F.upd (F.upd (F.upd (F.upd (F.upd (F.upd (F.upd (F.upd f51 47 t53) 48 t54) 49 t55) 12 t56) 50 t59) 51 t60) 52 t61) 53 t62) 54 t63) 55 t64) 56 t66) 57 t67) 58 t68) 59 (.int .i64 0)) w65) w58) w57) w52)
     (Q50 (.exit 4) (F.upd f51 47 t53) w52))
    (blockQ 4 (seqQ (fun f102 w103 =>
   Rd Try.prog (WS.at w103) (sFieldAddr 37 (f102 6) 0) fun t104 =>
   Rd Try.prog (WS.at w103) (sLoad 3 t104) fun t105 =>
   Rd Try.prog (WS.at w103) (sFieldAddr 37 (f102 10) 0) fun t106 =>
   Rd Try.prog (WS.at w103) (sLoad 3 t106) fun t107 =>
   Rd Try.prog (WS.at w103) (sBin .add 3 false t105 t107) fun t108 =>
   Rd Try.prog (WS.at w103) (sFieldAddr 37 (f102 6) 0) fun t109 =>
   Do Try.prog (sStore 3 t109 t108) (fun _ w110 =>
   Rd Try.prog (WS.at w110) (sBin .add 3 true (f102 38) (.int .i64 1)) fun t111 =>
   Q36 .normal (F.upd (F.upd (F.upd (F.upd (F.upd (F.upd (F.upd (F.upd f102 82 t104) 83 t105) 84 t106) 85 t107) 86 t108) 87 t109) 88 t111) 38 t111) w110) w103) (blockQ 3 (seqQ (fun f112 w113 =>
   Rd Try.prog (WS.at w113) (sBin .add 3 true (f112 38) (.int .i64 1)) fun t114 =>
   Q36 .normal (F.upd (F.upd f112 88 t114) 38 t114) w113) Q36))))
    (F.upd (F.upd (F.upd (F.upd (F.upd (F.upd (F.upd (F.upd (F.upd f37 39 t39) 40 t40) 41 t41) 10 t42) 42 t45) 43 t46) 44 t48) 45 t49) 46 (.int .i64 0)) w47) w44) w43) w38)
   (Q36 (.exit 2) (F.upd f37 39 t39) w38))
  (blockQ 2 (seqQ (fun f115 w116 =>
 Rd Try.prog (WS.at w116) (sLoad 37 (f115 6)) fun t117 =>
 CallK Try.prog 84 [t117] (fun t118 w119 =>
 Rd Try.prog (WS.at w119) (sUn .not t118) fun t120 =>
 CondK t120
  (Rd Try.prog (WS.at w119) (sBuild 37 []) fun t121 =>
  Do Try.prog (sStore 37 (f115 4) t121) (fun _ w122 =>
  Rd Try.prog (WS.at w122) (sLoadVar 37 (f115 4)) fun t123 => k (.tuple #[t123, (.bool false)]) w122) w119)
  (Rd Try.prog (WS.at w119) (sLoad 37 (f115 6)) fun t124 =>
  Do Try.prog (sStore 37 (f115 4) t124) (fun _ w125 =>
  Rd Try.prog (WS.at w125) (sLoadVar 37 (f115 4)) fun t126 => k (.tuple #[t126, (.bool true)]) w125) w119)) w116) (bodyQ Try.prog [.cell 4 37, .tmp 5] k)))
  (F.upd (F.upd (F.upd f33 36 (f33 1)) 37 t35) 38 (.int .i64 0)) w34) (bodyQ Try.prog [.cell 4 37, .tmp 5] k)))
  (F.upd (F.upd (F.upd (F.upd (F.upd (F.upd (F.upd (F.upd (F.upd (F.upd (F.upd (initF [v0, v1]) 4 t1) 5 (.bool false)) 15 v1) 16 t3) 17 t4) 18 t5) 19 t6) 6 t7) 20 v0) 21 t10) 22 (.int .i64 0)) w9) w8) w2) w
theorem body87 : Try.f87.body = some (bodyOf Try.f87) := by kernel_rfl
theorem same87 (v0 v1 : Value) (k : Value → World → Prop) (w : World) : wpF Try.prog pl87 (bodyOf Try.f87) (bodyQ Try.prog Try.f87.results.toList k) (initF [v0, v1]) w = S87 v0 v1 k w := by kernel_rfl
theorem enter87 {v0 v1 : Value} {k : Value → World → Prop} {w : World} (h : S87 v0 v1 k w) : CallK Try.prog 87 [v0, v1] k w :=
  call_of_wpF (pl := pl87) mixed Try.func87 body87 (by kernel_rfl) (of_decide_eq_true (by kernel_rfl)) (by kernel_rfl) (by kernel_rfl) (same87 v0 v1 k w ▸ h)

/-! loop.example/g00758/laws.markRuleS -/
def pl88 : Plans := fun _ => ⟨false, [], .nil⟩
def S88 (v0 v1 : Value) (k : Value → World → Prop) (w : World) : Prop :=
 LoopF [6, 7, 8, 9, 12, 13, 14, 15, 16, 17, 18, 1, 19, 20, 21, 22, 23, 24, 25, 1, 10, 11, 5] (fun Q1 f2 w3 =>
  Rd Try.prog (WS.at w3) (sBuiltin .len #[35] 3 [false] [(f2 0)]) fun t4 =>
  Rd Try.prog (WS.at w3) (sBin .lss 3 false (f2 5) t4) fun t5 =>
  CondK t5
   (Rd Try.prog (WS.at w3) (sIndexAddr 35 (f2 0) (f2 5)) fun t6 =>
   Rd Try.prog (WS.at w3) (sFieldAddr 77 t6 0) fun t7 =>
   Do Try.prog (sStore 3 t7 (f2 1)) (fun _ w8 =>
   Rd Try.prog (WS.at w8) (sBin .add 3 true (f2 1) (.int .i64 1)) fun t9 =>
   Rd Try.prog (WS.at w8) (sIndexAddr 35 (f2 0) (f2 5)) fun t10 =>
   Rd Try.prog (WS.at w8) (sFieldAddr 77 t10 1) fun t11 =>
   Rd Try.prog (WS.at w8) (sLoad 22 t11) fun t12 =>
   CallK Try.prog 27 [t12, t9] (fun t13 w14 =>
   Rd Try.prog (WS.at w14) (sBin .add 3 true (f2 5) (.int .i64 1)) fun t15 =>
   Q1 .normal (F.upd (F.upd (F.upd (F.upd (F.upd (F.upd (F.upd (F.upd (F.upd (F.upd (F.upd (F.upd (F.upd (F.upd (F.upd (F.upd (F.upd (F.upd (F.upd (F.upd (F.upd (F.upd (F.upd f2 6 (f2 5)) 7 (f2 0)) 8 t4) 9 t5) 12 (f2 0)) 13 (f2 5)) 14 (f2 1)) 15 t6) 16 t7) 17 (f2 1)) 18 t9) 1 t9) 19 (f2 0)) 20 (f2 5)) 21 t10) 22 t11) 23 t12) 24 t9) 25 t13) 1 t13) 10 (f2 5)) 11 t15) 5 t15) w14) w8) w3)
   (Q1 (.exit 0) (F.upd (F.upd (F.upd (F.upd f2 6 (f2 5)) 7 (f2 0)) 8 t4) 9 t5) w3))
  (blockQ 0 (seqQ (fun f16 w17 =>
 k (f16 1) w17) (bodyQ Try.prog [.tmp 4] k)))
  (F.upd (F.upd (initF [v0, v1]) 4 (.int .i64 0)) 5 (.int .i64 0)) w
theorem body88 : Try.f88.body = some (bodyOf Try.f88) := by kernel_rfl
theorem same88 (v0 v1 : Value) (k : Value → World → Prop) (w : World) : wpF Try.prog pl88 (bodyOf Try.f88) (bodyQ Try.prog Try.f88.results.toList k) (initF [v0, v1]) w = S88 v0 v1 k w := by kernel_rfl
theorem enter88 {v0 v1 : Value} {k : Value → World → Prop} {w : World} (h : S88 v0 v1 k w) : CallK Try.prog 88 [v0, v1] k w :=
  call_of_wpF (pl := pl88) mixed Try.func88 body88 (by kernel_rfl) (of_decide_eq_true (by kernel_rfl)) (by kernel_rfl) (by kernel_rfl) (same88 v0 v1 k w ▸ h)

/-! loop.example/g00758/laws.heldRuleS -/
def pl89 : Plans := fun _ => ⟨false, [], .nil⟩
def S89 (v0 v1 : Value) (k : Value → World → Prop) (w : World) : Prop :=
 LoopF [6, 7, 8, 9, 12, 13, 14, 15, 16, 17, 18, 4, 19, 20, 1, 21, 22, 23, 24, 25, 26, 27, 1, 28, 29, 4, 10, 11, 5] (fun Q1 f2 w3 =>
  Rd Try.prog (WS.at w3) (sBuiltin .len #[35] 3 [false] [(f2 0)]) fun t4 =>
  Rd Try.prog (WS.at w3) (sBin .lss 3 false (f2 5) t4) fun t5 =>
  CondK t5
   (Rd Try.prog (WS.at w3) (sIndexAddr 35 (f2 0) (f2 5)) fun t6 =>
   Rd Try.prog (WS.at w3) (sFieldAddr 77 t6 0) fun t7 =>
   Rd Try.prog (WS.at w3) (sLoad 3 t7) fun t8 =>
   Rd Try.prog (WS.at w3) (sBin .neq 3 false t8 (f2 1)) fun t9 =>
   CondK t9
    (Q1 .ret (F.upd (F.upd (F.upd (F.upd (F.upd (F.upd (F.upd (F.upd (F.upd (F.upd (F.upd (F.upd f2 6 (f2 5)) 7 (f2 0)) 8 t4) 9 t5) 12 (f2 0)) 13 (f2 5)) 14 t6) 15 t7) 16 t8) 17 (f2 1)) 18 t9) 4 (.int .i64 (-1))) w3)
    (Rd Try.prog (WS.at w3) (sBin .add 3 true (f2 1) (.int .i64 1)) fun t10 =>
    Rd Try.prog (WS.at w3) (sIndexAddr 35 (f2 0) (f2 5)) fun t11 =>
    Rd Try.prog (WS.at w3) (sFieldAddr 77 t11 1) fun t12 =>
    Rd Try.prog (WS.at w3) (sLoad 22 t12) fun t13 =>
    CallK Try.prog 28 [t13, t10] (fun t14 w15 =>
    Rd Try.prog (WS.at w15) (sBin .lss 3 true t14 (.int .i64 0)) fun t16 =>
    CondK t16
     (Q1 .ret (F.upd (F.upd (F.upd (F.upd (F.upd (F.upd (F.upd (F.upd (F.upd (F.upd (F.upd (F.upd (F.upd (F.upd (F.upd (F.upd (F.upd (F.upd (F.upd (F.upd (F.upd (F.upd (F.upd (F.upd (F.upd f2 6 (f2 5)) 7 (f2 0)) 8 t4) 9 t5) 12 (f2 0)) 13 (f2 5)) 14 t6) 15 t7) 16 t8) 17 (f2 1)) 18 t9) 19 (f2 1)) 20 t10) 1 t10) 21 (f2 0)) 22 (f2 5)) 23 t11) 24 t12) 25 t13) 26 t10) 27 t14) 1 t14) 28 t14) 29 t16) 4 (.int .i64 (-1))) w15)
     (Rd Try.prog (WS.at w15) (sBin .add 3 true (f2 5) (.int .i64 1)) fun t17 =>
     Q1 .normal (F.upd (F.upd (F.upd (F.upd (F.upd (F.upd (F.upd (F.upd (F.upd (F.upd (F.upd (F.upd (F.upd (F.upd (F.upd (F.upd (F.upd (F.upd (F.upd (F.upd (F.upd (F.upd (F.upd (F.upd (F.upd (F.upd (F.upd f2 6 (f2 5)) 7 (f2 0)) 8 t4) 9 t5) 12 (f2 0)) 13 (f2 5)) 14 t6) 15 t7) 16 t8) 17 (f2 1)) 18 t9) 19 (f2 1)) 20 t10) 1 t10) 21 (f2 0)) 22 (f2 5)) 23 t11) 24 t12) 25 t13) 26 t10) 27 t14) 1 t14) 28 t14) 29 t16) 10 (f2 5)) 11 t17) 5 t17) w15)) w3))
   (Q1 (.exit 0) (F.upd (F.upd (F.upd (F.upd f2 6 (f2 5)) 7 (f2 0)) 8 t4) 9 t5) w3))
  (blockQ 0 (seqQ (fun f18 w19 =>
 k (f18 1) w19) (bodyQ Try.prog [.tmp 4] k)))
  (F.upd (F.upd (initF [v0, v1]) 4 (.int .i64 0)) 5 (.int .i64 0)) w
theorem body89 : Try.f89.body = some (bodyOf Try.f89) := by kernel_rfl
theorem same89 (v0 v1 : Value) (k : Value → World → Prop) (w : World) : wpF Try.prog pl89 (bodyOf Try.f89) (bodyQ Try.prog Try.f89.results.toList k) (initF [v0, v1]) w = S89 v0 v1 k w := by kernel_rfl
theorem enter89 {v0 v1 : Value} {k : Value → World → Prop} {w : World} (h : S89 v0 v1 k w) : CallK Try.prog 89 [v0, v1] k w :=
  call_of_wpF (pl := pl89) mixed Try.func89 body89 (by kernel_rfl) (of_decide_eq_true (by kernel_rfl)) (by kernel_rfl) (by kernel_rfl) (same89 v0 v1 k w ▸ h)

/-! loop.example/g00758/spec.l20Shift -/
def pl140 : Plans := fun _ => ⟨false, [], .nil⟩
def S140 (v0 v1 : Value) (k : Value → World → Prop) (w : World) : Prop :=
 Do Try.prog (sBox 37 v0) (fun t1 w2 =>
 Rd Try.prog (WS.at w2) (sFieldAddr 37 t1 2) fun t3 =>
 Rd Try.prog (WS.at w2) (sLoad 35 t3) fun t4 =>
 Rd Try.prog (WS.at w2) (sBuiltin .len #[35] 3 [false] [t4]) fun t5 =>
 LoopF [15, 16, 17, 7, 18, 19, 20, 21, 22, 8, 23, 24, 25, 26, 27, 28, 29, 10, 30, 31, 32, 33, 34, 10, 35, 36, 37, 38, 39, 40, 41, 26, 42, 43, 44, 45, 5, 46, 14] (fun Q6 f7 w8 =>
  Rd Try.prog (WS.at w8) (sBin .lss 3 false (f7 14) (f7 13)) fun t9 =>
  CondK t9
   (Rd Try.prog (WS.at w8) (sIndexAddr 35 (f7 12) (f7 14)) fun t10 =>
   Rd Try.prog (WS.at w8) (sLoad 77 t10) fun t11 =>
   Do Try.prog (sAlloc 77) (fun t12 w13 =>
   Do Try.prog (sStore 77 t12 t11) (fun _ w14 =>
   Rd Try.prog (WS.at w14) (sFieldAddr 77 t12 0) fun t15 =>
   Rd Try.prog (WS.at w14) (sLoad 3 t15) fun t16 =>
   Rd Try.prog (WS.at w14) (sBin .add 3 false t16 (f7 1)) fun t17 =>
   Rd Try.prog (WS.at w14) (sBuild 77 [(0, t17)]) fun t18 =>
   Do Try.prog (sAlloc 77) (fun t19 w20 =>
   Do Try.prog (sStore 77 t19 t18) (fun _ w21 =>
   Rd Try.prog (WS.at w21) (sFieldAddr 77 t12 1) fun t22 =>
   Rd Try.prog (WS.at w21) (sLoad 22 t22) fun t23 =>
   Rd Try.prog (WS.at w21) (sBuiltin .len #[22] 3 [false] [t23]) fun t24 =>
   LoopF [27, 28, 29, 10, 30, 31, 32, 33, 34, 10, 35, 36, 37, 38, 39, 40, 41, 26] (fun Q25 f26 w27 =>
    Rd Try.prog (WS.at w27) (sBin .lss 3 false (f26 26) (f26 25)) fun t28 =>
    CondK t28
     (Join (fun K29 =>
     Rd Try.prog (WS.at w27) (sIndexAddr 22 (f26 24) (f26 26)) fun t32 =>
     Rd Try.prog (WS.at w27) (sLoad 3 t32) fun t33 =>
     Join (fun K34 =>
     Rd Try.prog (WS.at w27) (sBin .geq 3 true t33 (.int .i64 0)) fun t37 =>
     CondK t37
      (Rd Try.prog (WS.at w27) (sBin .add 3 false t33 (f26 1)) fun t38 =>
      K34 (F.upd (F.upd (F.upd (F.upd (F.upd (F.upd (F.upd (F.upd (F.upd (F.upd f26 27 t28) 28 t32) 29 t33) 10 t33) 30 t33) 31 t37) 32 t33) 33 (f26 1)) 34 t38) 10 t38) w27)
      (K34 (F.upd (F.upd (F.upd (F.upd (F.upd (F.upd f26 27 t28) 28 t32) 29 t33) 10 t33) 30 t33) 31 t37) w27)) (fun f35 w36 =>
     Rd Try.prog (WS.at w36) (sFieldAddr 77 (f35 8) 1) fun t39 =>
     Rd Try.prog (WS.at w36) (sLoad 22 t39) fun t40 =>
     Do Try.prog (sBuildSlice 22 1 [(0, (f35 10))]) (fun t41 w42 =>
     Do Try.prog (sBuiltin .append #[22, 22] 22 [false, false] [t40, t41]) (fun t43 w44 =>
     Rd Try.prog (WS.at w44) (sFieldAddr 77 (f35 8) 1) fun t45 =>
     Do Try.prog (sStore 22 t45 t43) (fun _ w46 =>
     K29 (F.upd (F.upd (F.upd (F.upd (F.upd (F.upd f35 35 t39) 36 t40) 37 (f35 10)) 38 t41) 39 t43) 40 t45) w46) w44) w42) w36)) (fun f30 w31 =>
     Rd Try.prog (WS.at w31) (sBin .add 3 true (f30 26) (.int .i64 1)) fun t47 =>
     Q25 .normal (F.upd (F.upd f30 41 t47) 26 t47) w31))
     (Q25 (.exit 2) (F.upd f26 27 t28) w27))
    (blockQ 2 (seqQ (fun f48 w49 =>
   Rd Try.prog (WS.at w49) (sLoad 77 (f48 8)) fun t50 =>
   Do Try.prog (sBuildSlice 35 1 [(0, t50)]) (fun t51 w52 =>
   Do Try.prog (sBuiltin .append #[35, 35] 35 [false, false] [(f48 5), t51]) (fun t53 w54 =>
   Rd Try.prog (WS.at w54) (sBin .add 3 true (f48 14) (.int .i64 1)) fun t55 =>
   Q6 .normal (F.upd (F.upd (F.upd (F.upd (F.upd (F.upd (F.upd f48 42 (f48 5)) 43 t50) 44 t51) 45 t53) 5 t53) 46 t55) 14 t55) w54) w52) w49) (blockQ 1 (seqQ (fun f56 w57 =>
   Rd Try.prog (WS.at w57) (sBin .add 3 true (f56 14) (.int .i64 1)) fun t58 =>
   Q6 .normal (F.upd (F.upd f56 46 t58) 14 t58) w57) Q6))))
    (F.upd (F.upd (F.upd (F.upd (F.upd (F.upd (F.upd (F.upd (F.upd (F.upd (F.upd (F.upd (F.upd (F.upd f7 15 t9) 16 t10) 17 t11) 7 t12) 18 t15) 19 t16) 20 (f7 1)) 21 t17) 22 t18) 8 t19) 23 t22) 24 t23) 25 t24) 26 (.int .i64 0)) w21) w20) w14) w13) w8)
   (Q6 (.exit 0) (F.upd f7 15 t9) w8))
  (blockQ 0 (seqQ (fun f59 w60 =>
 k (f59 5) w60) (bodyQ Try.prog [.tmp 4] k)))
  (F.upd (F.upd (F.upd (F.upd (F.upd (F.upd (F.upd (initF [v0, v1]) 2 t1) 4 (.slice none 0 0)) 5 (.slice none 0 0)) 11 t3) 12 t4) 13 t5) 14 (.int .i64 0)) w2) w
theorem body140 : Try.f140.body = some (bodyOf Try.f140) := by kernel_rfl
theorem same140 (v0 v1 : Value) (k : Value → World → Prop) (w : World) : wpF Try.prog pl140 (bodyOf Try.f140) (bodyQ Try.prog Try.f140.results.toList k) (initF [v0, v1]) w = S140 v0 v1 k w := by kernel_rfl
theorem enter140 {v0 v1 : Value} {k : Value → World → Prop} {w : World} (h : S140 v0 v1 k w) : CallK Try.prog 140 [v0, v1] k w :=
  call_of_wpF (pl := pl140) mixed Try.func140 body140 (by kernel_rfl) (of_decide_eq_true (by kernel_rfl)) (by kernel_rfl) (by kernel_rfl) (same140 v0 v1 k w ▸ h)

/-! loop.example/g00758/impl.copyGrammar -/
def pl141 : Plans := fun i => match i with
  | 5 => ⟨true, [10, 12], .step 0 .any (.step 1 .held (.step 2 .any (.step 3 .held (.step 5 .any (.step 6 .held (.step 4 .one (.step 7 .one (.step 8 .any (.step 9 .one (.step 10 .last (.step 11 .any (.step 12 .last (.nil)))))))))))))⟩
  | _ => ⟨false, [], .nil⟩
def S141 (v0 : Value) (k : Value → World → Prop) (w : World) : Prop :=
 Do Try.prog (sBox 37 v0) (fun t1 w2 =>
 Do Try.prog (sAlloc 37) (fun t3 w4 =>
 Rd Try.prog (WS.at w4) (sFieldAddr 37 t1 0) fun t5 =>
 Rd Try.prog (WS.at w4) (sLoad 3 t5) fun t6 =>
 Rd Try.prog (WS.at w4) (sFieldAddr 37 t1 1) fun t7 =>
 Rd Try.prog (WS.at w4) (sLoad 3 t7) fun t8 =>
 Rd Try.prog (WS.at w4) (sBuild 37 [(0, t6), (1, t8)]) fun t9 =>
 Do Try.prog (sAlloc 37) (fun t10 w11 =>
 Do Try.prog (sStore 37 t10 t9) (fun _ w12 =>
 Rd Try.prog (WS.at w12) (sFieldAddr 37 t1 2) fun t13 =>
 Rd Try.prog (WS.at w12) (sLoad 35 t13) fun t14 =>
 Rd Try.prog (WS.at w12) (sBuiltin .len #[35] 3 [false] [t14]) fun t15 =>
 LoopF [15, 16, 17, 5, 18, 19, 20, 21, 22, 23, 24, 25, 26, 27, 28, 29, 30, 14] (fun Q16 f17 w18 =>
  Rd Try.prog (WS.at w18) (sBin .lss 3 false (f17 14) (f17 13)) fun t19 =>
  CondK t19
   (Rd Try.prog (WS.at w18) (sIndexAddr 35 (f17 12) (f17 14)) fun t20 =>
   Rd Try.prog (WS.at w18) (sLoad 77 t20) fun t21 =>
   Do Try.prog (sAlloc 77) (fun t22 w23 =>
   Do Try.prog (sStore 77 t22 t21) (fun _ w24 =>
   ∃ S25 : World → Prop, ∃ h26 : S25 w24.drew,
   Rd Try.prog WS.any (sFieldAddr 37 (f17 3) 2) fun t27 =>
   Rd Try.prog ⟨S25, w24.drew, h26⟩ (sLoad 35 t27) fun t28 =>
   Rd Try.prog WS.any (sFieldAddr 77 t22 0) fun t29 =>
   Rd Try.prog ⟨S25, w24.drew, h26⟩ (sLoad 3 t29) fun t30 =>
   Rd Try.prog WS.any (sFieldAddr 77 t22 1) fun t31 =>
   Rd Try.prog ⟨S25, w24.drew, h26⟩ (sLoad 22 t31) fun t32 =>
   Do Try.prog (sBuildSlice 22 0 []) (fun t33 w34 =>
   S25 w34 ∧ Do Try.prog (sBuiltin .append #[22, 22] 22 [false, false] [t33, t32]) (fun t35 w36 =>
   S25 w36 ∧ Rd Try.prog WS.any (sBuild 77 [(0, t30), (1, t35)]) fun t37 =>
   Do Try.prog (sBuildSlice 35 1 [(0, t37)]) (fun t38 w39 =>
   S25 w39 ∧ Do Try.prog (sBuiltin .append #[35, 35] 35 [false, false] [t28, t38]) (fun t40 w41 =>
   Rd Try.prog WS.any (sFieldAddr 37 (f17 3) 2) fun t42 =>
   Do Try.prog (sStore 35 t42 t40) (fun _ w43 =>
   Rd Try.prog (WS.at w43) (sBin .add 3 true (f17 14) (.int .i64 1)) fun t44 =>
   Q16 .normal (F.upd (F.upd (F.upd (F.upd (F.upd (F.upd (F.upd (F.upd (F.upd (F.upd (F.upd (F.upd (F.upd (F.upd (F.upd (F.upd (F.upd (F.upd f17 15 t19) 16 t20) 17 t21) 5 t22) 18 t27) 19 t28) 20 t29) 21 t30) 23 t31) 24 t32) 22 t33) 25 t35) 26 t37) 27 t38) 28 t40) 29 t42) 30 t44) 14 t44) w43) w41) w39) w36) w34) w24.drew) w23) w18)
   (Q16 (.exit 0) (F.upd f17 15 t19) w18))
  (blockQ 0 (seqQ (fun f45 w46 =>
 Rd Try.prog (WS.at w46) (sLoad 37 (f45 3)) fun t47 =>
 Do Try.prog (sStore 37 (f45 2) t47) (fun _ w48 =>
 Rd Try.prog (WS.at w48) (sLoadVar 37 (f45 2)) fun t49 => k t49 w48) w46) (bodyQ Try.prog [.cell 2 37] k)))
  (F.upd (F.upd (F.upd (F.upd (F.upd (F.upd (F.upd (F.upd (F.upd (F.upd (F.upd (F.upd (initF [v0]) 1 t1) 2 t3) 6 t5) 7 t6) 8 t7) 9 t8) 10 t9) 3 t10) 11 t13) 12 t14) 13 t15) 14 (.int .i64 0)) w12) w11) w4) w2) w
theorem body141 : Try.f141.body = some (bodyOf Try.f141) := by kernel_rfl
theorem same141 (v0 : Value) (k : Value → World → Prop) (w : World) : wpF Try.prog pl141 (bodyOf Try.f141) (bodyQ Try.prog Try.f141.results.toList k) (initF [v0]) w = S141 v0 k w := by kernel_rfl
theorem enter141 {v0 : Value} {k : Value → World → Prop} {w : World} (h : S141 v0 k w) : CallK Try.prog 141 [v0] k w :=
  call_of_wpF (pl := pl141) mixed Try.func141 body141 (by kernel_rfl) (of_decide_eq_true (by kernel_rfl)) (by kernel_rfl) (by kernel_rfl) (same141 v0 k w ▸ h)

end Go.Proofs.Ytiohaeckagjebaa
