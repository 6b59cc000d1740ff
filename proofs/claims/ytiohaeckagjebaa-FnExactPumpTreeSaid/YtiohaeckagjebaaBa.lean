/- Ba: bodies of functions as terms of the frame calculus, printed by shgen.py of this repository. -/
import Derived.Test.YtiohaeckagjebaaProg
import Derived.Test.YtiohaeckagjebaaSh1
import Derived.Test.YtiohaeckagjebaaShA
set_option linter.unusedVariables false
set_option maxRecDepth 100000
namespace Go.Proofs.Ytiohaeckagjebaa
open Go Go.Sh

/-! loop.example/g00758/laws.FnExactPumpWord -/
def pl3 : Plans := fun _ => ⟨false, [], .nil⟩
def S3 (v0 v1 v2 : Value) (k : Value → World → Prop) (w : World) : Prop :=
 Rd Try.prog (WS.at w) (sBuiltin .len #[22] 3 [false] [v0]) fun t1 =>
 Rd Try.prog (WS.at w) (sBin .gtr 3 true t1 (.int .i64 1048576)) fun t2 =>
 CondK t2
  (k (.bool true) w)
  (Rd Try.prog (WS.at w) (sBuiltin .len #[22] 3 [false] [v1]) fun t3 =>
  Rd Try.prog (WS.at w) (sBin .gtr 3 true t3 (.int .i64 1048576)) fun t4 =>
  CondK t4
   (k (.bool true) w)
   (CallK Try.prog 24 [v0] (fun t5 w6 =>
   CallK Try.prog 24 [v1] (fun t7 w8 =>
   CallK Try.prog 23 [t5, t7, v2] (fun t9 w10 =>
   Rd Try.prog (WS.at w10) (sExtract t9 0) fun t11 =>
   Rd Try.prog (WS.at w10) (sExtract t9 1) fun t12 =>
   CallK Try.prog 24 [v0] (fun t13 w14 =>
   CallK Try.prog 24 [v1] (fun t15 w16 =>
   CallK Try.prog 25 [t13, t15, v2] (fun t17 w18 =>
   Rd Try.prog (WS.at w18) (sExtract t17 0) fun t19 =>
   Rd Try.prog (WS.at w18) (sExtract t17 1) fun t20 =>
   CallK Try.prog 26 [t19, t11] (fun t21 w22 =>
   Rd Try.prog (WS.at w22) (sUn .not t21) fun t23 =>
   GuardK t23 false (fun k w' => k t20 w') (fun t24 w25 =>
   GuardK t23 false (fun k w' => k t12 w') (fun t26 w27 =>
   GuardK t23 false (fun k w' => Rd Try.prog (WS.at w27) (sBin .neq 4 false t24 t26) fun v => k v w') (fun t28 w29 =>
   Rd Try.prog (WS.at w29) (sPick t23 (.bool true) t28) fun t30 =>
   CondK t30
    (k (.bool false) w29)
    (CallK Try.prog 24 [v0] (fun t31 w32 =>
    CallK Try.prog 26 [t13, t31] (fun t33 w34 =>
    Rd Try.prog (WS.at w34) (sUn .not t33) fun t35 =>
    CondK t35
     (k (.bool false) w34)
     (CallK Try.prog 24 [v1] (fun t36 w37 =>
     CallK Try.prog 26 [t15, t36] (fun t38 w39 =>
     Rd Try.prog (WS.at w39) (sUn .not t38) fun t40 =>
     CondK t40
      (k (.bool false) w39)
      (CallK Try.prog 27 [t13, (.int .i64 1)] (fun t41 w42 =>
      CallK Try.prog 27 [t15, t41] (fun t43 w44 =>
      Rd Try.prog (WS.at w44) (sBin .lss 3 true t43 (.int .i64 0)) fun t45 =>
      GuardK t45 false (fun k w' => k t19 w') (fun t46 w47 =>
      GuardK t45 false (fun k w' => k t11 w') (fun t48 w49 =>
      GuardK t45 false (fun k w' => CallK Try.prog 26 [t46, t48] k w') (fun t50 w51 =>
      GuardK t45 false (fun k w' => Rd Try.prog (WS.at w51) (sUn .not t50) fun v => k v w') (fun t52 w53 =>
      Rd Try.prog (WS.at w53) (sPick t45 (.bool true) t52) fun t54 =>
      GuardK t54 false (fun k w' => k t20 w') (fun t55 w56 =>
      GuardK t54 false (fun k w' => k t12 w') (fun t57 w58 =>
      GuardK t54 false (fun k w' => Rd Try.prog (WS.at w58) (sBin .neq 4 false t55 t57) fun v => k v w') (fun t59 w60 =>
      Rd Try.prog (WS.at w60) (sPick t54 (.bool true) t59) fun t61 =>
      CondK t61
       (k (.bool false) w60)
       (CallK Try.prog 27 [t19, (.int .i64 1)] (fun t62 w63 =>
       CallK Try.prog 28 [t19, (.int .i64 1)] (fun t64 w65 =>
       Rd Try.prog (WS.at w65) (sBin .lss 3 true t64 (.int .i64 0)) fun t66 =>
       CondK t66
        (k (.bool false) w65)
        (Rd Try.prog (WS.at w65) (sBin .neq 3 false t64 t62) fun t67 =>
        CondK t67
         (k (.bool false) w65)
         (CallK Try.prog 24 [v0] (fun t68 w69 =>
         CallK Try.prog 24 [v1] (fun t70 w71 =>
         CallK Try.prog 25 [t68, t70, v2] (fun t72 w73 =>
         Rd Try.prog (WS.at w73) (sExtract t72 0) fun t74 =>
         Rd Try.prog (WS.at w73) (sExtract t72 1) fun t75 =>
         CallK Try.prog 26 [t74, t11] (fun t76 w77 =>
         Rd Try.prog (WS.at w77) (sUn .not t76) fun t78 =>
         GuardK t78 false (fun k w' => k t75 w') (fun t79 w80 =>
         GuardK t78 false (fun k w' => k t12 w') (fun t81 w82 =>
         GuardK t78 false (fun k w' => Rd Try.prog (WS.at w82) (sBin .neq 4 false t79 t81) fun v => k v w') (fun t83 w84 =>
         Rd Try.prog (WS.at w84) (sPick t78 (.bool true) t83) fun t85 =>
         CondK t85
          (k (.bool false) w84)
          (CallK Try.prog 28 [t19, (.int .i64 1)] (fun t86 w87 =>
          Rd Try.prog (WS.at w87) (sBin .lss 3 true t86 (.int .i64 0)) fun t88 =>
          CondK t88
           (k (.bool false) w87)
           (Rd Try.prog (WS.at w87) (sBin .neq 3 false t86 t62) fun t89 =>
           CondK t89
            (k (.bool false) w87)
            (k (.bool true) w87))) w84)) w82) w80) w77) w73) w71) w69) w65))) w63) w60)) w58) w56) w53) w51) w49) w47) w44) w42) w39)) w37) w34)) w32) w29)) w27) w25) w22) w18) w16) w14) w10) w8) w6) w))
theorem body3 : Try.f3.body = some (bodyOf Try.f3) := by kernel_rfl
theorem same3 (v0 v1 v2 : Value) (k : Value → World → Prop) (w : World) : wpF Try.prog pl3 (bodyOf Try.f3) (bodyQ Try.prog Try.f3.results.toList k) (initF [v0, v1, v2]) w = S3 v0 v1 v2 k w := by kernel_rfl
theorem enter3 {v0 v1 v2 : Value} {k : Value → World → Prop} {w : World} (h : S3 v0 v1 v2 k w) : CallK Try.prog 3 [v0, v1, v2] k w :=
  call_of_wpF (pl := pl3) mixed Try.func3 body3 (by kernel_rfl) (of_decide_eq_true (by kernel_rfl)) (by kernel_rfl) (by kernel_rfl) (same3 v0 v1 v2 k w ▸ h)

/-! loop.example/g00758/spec.PumpWord -/
def pl23 : Plans := fun _ => ⟨false, [], .nil⟩
def S23 (v0 v1 v2 : Value) (k : Value → World → Prop) (w : World) : Prop :=
 Rd Try.prog (WS.at w) (sBuiltin .len #[22] 3 [false] [v0]) fun t1 =>
 Rd Try.prog (WS.at w) (sBin .gtr 3 true t1 (.int .i64 60)) fun t2 =>
 GuardK t2 false (fun k w' => k v0 w') (fun t3 w4 =>
 GuardK t2 false (fun k w' => CallK Try.prog 75 [t3, (.int .i64 0), (.int .i64 1000000)] k w') (fun t5 w6 =>
 GuardK t2 false (fun k w' => Rd Try.prog (WS.at w6) (sUn .not t5) fun v => k v w') (fun t7 w8 =>
 Rd Try.prog (WS.at w8) (sPick t2 (.bool true) t7) fun t9 =>
 GuardK t9 false (fun k w' => k v1 w') (fun t10 w11 =>
 GuardK t9 false (fun k w' => k v0 w') (fun t12 w13 =>
 GuardK t9 false (fun k w' => Rd Try.prog (WS.at w13) (sBuiltin .len #[22] 3 [false] [t12]) fun v => k v w') (fun t14 w15 =>
 GuardK t9 false (fun k w' => CallK Try.prog 76 [t10, t14] k w') (fun t16 w17 =>
 GuardK t9 false (fun k w' => Rd Try.prog (WS.at w17) (sUn .not t16) fun v => k v w') (fun t18 w19 =>
 Rd Try.prog (WS.at w19) (sPick t9 (.bool true) t18) fun t20 =>
 GuardK t20 false (fun k w' => k v2 w') (fun t21 w22 =>
 GuardK t20 false (fun k w' => CallK Try.prog 77 [t21, (.int .i64 0), (.int .i64 4)] k w') (fun t23 w24 =>
 GuardK t20 false (fun k w' => Rd Try.prog (WS.at w24) (sUn .not t23) fun v => k v w') (fun t25 w26 =>
 Rd Try.prog (WS.at w26) (sPick t20 (.bool true) t25) fun t27 =>
 CondK t27
  (k (.tuple #[(.slice none 0 0), (.bool false)]) w26)
  (CallK Try.prog 78 [v0, v1, v2] (fun t28 w29 =>
  Rd Try.prog (WS.at w29) (sBuiltin .len #[22] 3 [false] [t28]) fun t30 =>
  Rd Try.prog (WS.at w29) (sBin .gtr 3 true t30 (.int .i64 60)) fun t31 =>
  CondK t31
   (k (.tuple #[(.slice none 0 0), (.bool false)]) w29)
   (k (.tuple #[t28, (.bool true)]) w29)) w26)) w24) w22) w19) w17) w15) w13) w11) w8) w6) w4) w
theorem body23 : Try.f23.body = some (bodyOf Try.f23) := by kernel_rfl
theorem same23 (v0 v1 v2 : Value) (k : Value → World → Prop) (w : World) : wpF Try.prog pl23 (bodyOf Try.f23) (bodyQ Try.prog Try.f23.results.toList k) (initF [v0, v1, v2]) w = S23 v0 v1 v2 k w := by kernel_rfl
theorem enter23 {v0 v1 v2 : Value} {k : Value → World → Prop} {w : World} (h : S23 v0 v1 v2 k w) : CallK Try.prog 23 [v0, v1, v2] k w :=
  call_of_wpF (pl := pl23) mixed Try.func23 body23 (by kernel_rfl) (of_decide_eq_true (by kernel_rfl)) (by kernel_rfl) (by kernel_rfl) (same23 v0 v1 v2 k w ▸ h)

/-! loop.example/g00758/laws.toIntS -/
def pl24 : Plans := fun _ => ⟨false, [], .nil⟩
def S24 (v0 : Value) (k : Value → World → Prop) (w : World) : Prop :=
 Rd Try.prog (WS.at w) (sBuiltin .len #[22] 3 [false] [v0]) fun t1 =>
 Do Try.prog (sMakeSlice 22 t1 t1) (fun t2 w3 =>
 LoopF [8, 9, 10, 11, 14, 15, 16, 17, 18, 19, 20, 12, 13, 4] (fun Q4 f5 w6 =>
  Rd Try.prog (WS.at w6) (sBuiltin .len #[22] 3 [false] [(f5 0)]) fun t7 =>
  Rd Try.prog (WS.at w6) (sBin .lss 3 false (f5 4) t7) fun t8 =>
  CondK t8
   (Rd Try.prog (WS.at w6) (sIndexAddr 22 (f5 0) (f5 4)) fun t9 =>
   Rd Try.prog (WS.at w6) (sLoad 3 t9) fun t10 =>
   Rd Try.prog (WS.at w6) (sIndexAddr 22 (f5 3) (f5 4)) fun t11 =>
   Do Try.prog (sStore 3 t11 t10) (fun _ w12 =>
   Rd Try.prog (WS.at w12) (sBin .add 3 true (f5 4) (.int .i64 1)) fun t13 =>
   Q4 .normal (F.upd (F.upd (F.upd (F.upd (F.upd (F.upd (F.upd (F.upd (F.upd (F.upd (F.upd (F.upd (F.upd (F.upd f5 8 (f5 4)) 9 (f5 0)) 10 t7) 11 t8) 14 (f5 3)) 15 (f5 4)) 16 (f5 0)) 17 (f5 4)) 18 t9) 19 t10) 20 t11) 12 (f5 4)) 13 t13) 4 t13) w12) w6)
   (Q4 (.exit 0) (F.upd (F.upd (F.upd (F.upd f5 8 (f5 4)) 9 (f5 0)) 10 t7) 11 t8) w6))
  (blockQ 0 (seqQ (fun f14 w15 =>
 k (f14 3) w15) (bodyQ Try.prog [.tmp 2] k)))
  (F.upd (F.upd (F.upd (F.upd (F.upd (F.upd (initF [v0]) 2 (.slice none 0 0)) 5 v0) 6 t1) 7 t2) 3 t2) 4 (.int .i64 0)) w3) w
theorem body24 : Try.f24.body = some (bodyOf Try.f24) := by kernel_rfl
theorem same24 (v0 : Value) (k : Value → World → Prop) (w : World) : wpF Try.prog pl24 (bodyOf Try.f24) (bodyQ Try.prog Try.f24.results.toList k) (initF [v0]) w = S24 v0 k w := by kernel_rfl
theorem enter24 {v0 : Value} {k : Value → World → Prop} {w : World} (h : S24 v0 k w) : CallK Try.prog 24 [v0] k w :=
  call_of_wpF (pl := pl24) mixed Try.func24 body24 (by kernel_rfl) (of_decide_eq_true (by kernel_rfl)) (by kernel_rfl) (by kernel_rfl) (same24 v0 k w ▸ h)

/-! loop.example/g00758/impl.PumpWord -/
def pl25 : Plans := fun _ => ⟨false, [], .nil⟩
def S25 (v0 v1 v2 : Value) (k : Value → World → Prop) (w : World) : Prop :=
 CallK Try.prog 79 [v0, v1, v2] (fun t1 w2 =>
 Rd Try.prog (WS.at w2) (sExtract t1 0) fun t3 =>
 Rd Try.prog (WS.at w2) (sExtract t1 1) fun t4 =>
 k (.tuple #[t3, t4]) w2) w
theorem body25 : Try.f25.body = some (bodyOf Try.f25) := by kernel_rfl
theorem same25 (v0 v1 v2 : Value) (k : Value → World → Prop) (w : World) : wpF Try.prog pl25 (bodyOf Try.f25) (bodyQ Try.prog Try.f25.results.toList k) (initF [v0, v1, v2]) w = S25 v0 v1 v2 k w := by kernel_rfl
theorem enter25 {v0 v1 v2 : Value} {k : Value → World → Prop} {w : World} (h : S25 v0 v1 v2 k w) : CallK Try.prog 25 [v0, v1, v2] k w :=
  call_of_wpF (pl := pl25) mixed Try.func25 body25 (by kernel_rfl) (of_decide_eq_true (by kernel_rfl)) (by kernel_rfl) (by kernel_rfl) (same25 v0 v1 v2 k w ▸ h)

/-! loop.example/g00758/laws.eqIntS -/
def pl26 : Plans := fun i => match i with
  | 6 => ⟨false, [], .step 0 .any (.step 1 .any (.step 2 .any (.step 3 .held (.step 4 .any (.step 5 .any (.step 6 .any (.step 7 .held (.step 8 .any (.nil)))))))))⟩
  | _ => ⟨false, [], .nil⟩
def S26 (v0 v1 : Value) (k : Value → World → Prop) (w : World) : Prop :=
 Rd Try.prog (WS.at w) (sBuiltin .len #[22] 3 [false] [v0]) fun t1 =>
 Rd Try.prog (WS.at w) (sBuiltin .len #[22] 3 [false] [v1]) fun t2 =>
 Rd Try.prog (WS.at w) (sBin .neq 3 false t1 t2) fun t3 =>
 CondK t3
  (k (.bool false) w)
  (LoopF [11, 12, 13, 14, 17, 18, 19, 20, 21, 22, 23, 24, 25, 4, 15, 16, 5] (fun Q4 f5 w6 =>
   Rd Try.prog (WS.at w6) (sBuiltin .len #[22] 3 [false] [(f5 0)]) fun t7 =>
   Rd Try.prog (WS.at w6) (sBin .lss 3 false (f5 5) t7) fun t8 =>
   CondK t8
    (Rd Try.prog WS.any (sIndexAddr 22 (f5 0) (f5 5)) fun t9 =>
    Rd Try.prog (WS.at w6.drew) (sLoad 3 t9) fun t10 =>
    Rd Try.prog WS.any (sIndexAddr 22 (f5 1) (f5 5)) fun t11 =>
    Rd Try.prog (WS.at w6.drew) (sLoad 3 t11) fun t12 =>
    Rd Try.prog WS.any (sBin .neq 3 false t10 t12) fun t13 =>
    CondK t13
     (Q4 .ret (F.upd (F.upd (F.upd (F.upd (F.upd (F.upd (F.upd (F.upd (F.upd (F.upd (F.upd (F.upd (F.upd (F.upd f5 11 (f5 5)) 12 (f5 0)) 13 t7) 14 t8) 17 (f5 0)) 18 (f5 5)) 19 t9) 20 t10) 21 (f5 1)) 22 (f5 5)) 23 t11) 24 t12) 25 t13) 4 (.bool false)) w6.drew)
     (Rd Try.prog (WS.at w6.drew) (sBin .add 3 true (f5 5) (.int .i64 1)) fun t14 =>
     Q4 .normal (F.upd (F.upd (F.upd (F.upd (F.upd (F.upd (F.upd (F.upd (F.upd (F.upd (F.upd (F.upd (F.upd (F.upd (F.upd (F.upd f5 11 (f5 5)) 12 (f5 0)) 13 t7) 14 t8) 17 (f5 0)) 18 (f5 5)) 19 t9) 20 t10) 21 (f5 1)) 22 (f5 5)) 23 t11) 24 t12) 25 t13) 15 (f5 5)) 16 t14) 5 t14) w6.drew))
    (Q4 (.exit 0) (F.upd (F.upd (F.upd (F.upd f5 11 (f5 5)) 12 (f5 0)) 13 t7) 14 t8) w6))
   (blockQ 0 (seqQ (fun f15 w16 =>
  k (.bool true) w16) (bodyQ Try.prog [.tmp 4] k)))
   (F.upd (F.upd (F.upd (F.upd (F.upd (F.upd (F.upd (initF [v0, v1]) 4 (.bool false)) 6 v0) 7 t1) 8 v1) 9 t2) 10 t3) 5 (.int .i64 0)) w)
theorem body26 : Try.f26.body = some (bodyOf Try.f26) := by kernel_rfl
theorem same26 (v0 v1 : Value) (k : Value → World → Prop) (w : World) : wpF Try.prog pl26 (bodyOf Try.f26) (bodyQ Try.prog Try.f26.results.toList k) (initF [v0, v1]) w = S26 v0 v1 k w := by kernel_rfl
theorem enter26 {v0 v1 : Value} {k : Value → World → Prop} {w : World} (h : S26 v0 v1 k w) : CallK Try.prog 26 [v0, v1] k w :=
  call_of_wpF (pl := pl26) mixed Try.func26 body26 (by kernel_rfl) (of_decide_eq_true (by kernel_rfl)) (by kernel_rfl) (by kernel_rfl) (same26 v0 v1 k w ▸ h)

/-! loop.example/g00758/laws.markIntS -/
def pl27 : Plans := fun _ => ⟨false, [], .nil⟩
def S27 (v0 v1 : Value) (k : Value → World → Prop) (w : World) : Prop :=
 LoopF [6, 7, 8, 9, 12, 13, 14, 15, 16, 17, 1, 10, 11, 5] (fun Q1 f2 w3 =>
  Rd Try.prog (WS.at w3) (sBuiltin .len #[22] 3 [false] [(f2 0)]) fun t4 =>
  Rd Try.prog (WS.at w3) (sBin .lss 3 false (f2 5) t4) fun t5 =>
  CondK t5
   (Rd Try.prog (WS.at w3) (sIndexAddr 22 (f2 0) (f2 5)) fun t6 =>
   Do Try.prog (sStore 3 t6 (f2 1)) (fun _ w7 =>
   Rd Try.prog (WS.at w7) (sBin .add 3 true (f2 1) (.int .i64 1)) fun t8 =>
   Rd Try.prog (WS.at w7) (sBin .add 3 true (f2 5) (.int .i64 1)) fun t9 =>
   Q1 .normal (F.upd (F.upd (F.upd (F.upd (F.upd (F.upd (F.upd (F.upd (F.upd (F.upd (F.upd (F.upd (F.upd (F.upd f2 6 (f2 5)) 7 (f2 0)) 8 t4) 9 t5) 12 (f2 0)) 13 (f2 5)) 14 (f2 1)) 15 t6) 16 (f2 1)) 17 t8) 1 t8) 10 (f2 5)) 11 t9) 5 t9) w7) w3)
   (Q1 (.exit 0) (F.upd (F.upd (F.upd (F.upd f2 6 (f2 5)) 7 (f2 0)) 8 t4) 9 t5) w3))
  (blockQ 0 (seqQ (fun f10 w11 =>
 k (f10 1) w11) (bodyQ Try.prog [.tmp 4] k)))
  (F.upd (F.upd (initF [v0, v1]) 4 (.int .i64 0)) 5 (.int .i64 0)) w
theorem body27 : Try.f27.body = some (bodyOf Try.f27) := by kernel_rfl
theorem same27 (v0 v1 : Value) (k : Value → World → Prop) (w : World) : wpF Try.prog pl27 (bodyOf Try.f27) (bodyQ Try.prog Try.f27.results.toList k) (initF [v0, v1]) w = S27 v0 v1 k w := by kernel_rfl
theorem enter27 {v0 v1 : Value} {k : Value → World → Prop} {w : World} (h : S27 v0 v1 k w) : CallK Try.prog 27 [v0, v1] k w :=
  call_of_wpF (pl := pl27) mixed Try.func27 body27 (by kernel_rfl) (of_decide_eq_true (by kernel_rfl)) (by kernel_rfl) (by kernel_rfl) (same27 v0 v1 k w ▸ h)

/-! loop.example/g00758/laws.heldIntS -/
def pl28 : Plans := fun _ => ⟨false, [], .nil⟩
def S28 (v0 v1 : Value) (k : Value → World → Prop) (w : World) : Prop :=
 LoopF [6, 7, 8, 9, 12, 13, 14, 15, 16, 17, 4, 18, 19, 1, 10, 11, 5] (fun Q1 f2 w3 =>
  Rd Try.prog (WS.at w3) (sBuiltin .len #[22] 3 [false] [(f2 0)]) fun t4 =>
  Rd Try.prog (WS.at w3) (sBin .lss 3 false (f2 5) t4) fun t5 =>
  CondK t5
   (Rd Try.prog (WS.at w3) (sIndexAddr 22 (f2 0) (f2 5)) fun t6 =>
   Rd Try.prog (WS.at w3) (sLoad 3 t6) fun t7 =>
   Rd Try.prog (WS.at w3) (sBin .neq 3 false t7 (f2 1)) fun t8 =>
   CondK t8
    (Q1 .ret (F.upd (F.upd (F.upd (F.upd (F.upd (F.upd (F.upd (F.upd (F.upd (F.upd (F.upd f2 6 (f2 5)) 7 (f2 0)) 8 t4) 9 t5) 12 (f2 0)) 13 (f2 5)) 14 t6) 15 t7) 16 (f2 1)) 17 t8) 4 (.int .i64 (-1))) w3)
    (Rd Try.prog (WS.at w3) (sBin .add 3 true (f2 1) (.int .i64 1)) fun t9 =>
    Rd Try.prog (WS.at w3) (sBin .add 3 true (f2 5) (.int .i64 1)) fun t10 =>
    Q1 .normal (F.upd (F.upd (F.upd (F.upd (F.upd (F.upd (F.upd (F.upd (F.upd (F.upd (F.upd (F.upd (F.upd (F.upd (F.upd (F.upd f2 6 (f2 5)) 7 (f2 0)) 8 t4) 9 t5) 12 (f2 0)) 13 (f2 5)) 14 t6) 15 t7) 16 (f2 1)) 17 t8) 18 (f2 1)) 19 t9) 1 t9) 10 (f2 5)) 11 t10) 5 t10) w3))
   (Q1 (.exit 0) (F.upd (F.upd (F.upd (F.upd f2 6 (f2 5)) 7 (f2 0)) 8 t4) 9 t5) w3))
  (blockQ 0 (seqQ (fun f11 w12 =>
 k (f11 1) w12) (bodyQ Try.prog [.tmp 4] k)))
  (F.upd (F.upd (initF [v0, v1]) 4 (.int .i64 0)) 5 (.int .i64 0)) w
theorem body28 : Try.f28.body = some (bodyOf Try.f28) := by kernel_rfl
theorem same28 (v0 v1 : Value) (k : Value → World → Prop) (w : World) : wpF Try.prog pl28 (bodyOf Try.f28) (bodyQ Try.prog Try.f28.results.toList k) (initF [v0, v1]) w = S28 v0 v1 k w := by kernel_rfl
theorem enter28 {v0 v1 : Value} {k : Value → World → Prop} {w : World} (h : S28 v0 v1 k w) : CallK Try.prog 28 [v0, v1] k w :=
  call_of_wpF (pl := pl28) mixed Try.func28 body28 (by kernel_rfl) (of_decide_eq_true (by kernel_rfl)) (by kernel_rfl) (by kernel_rfl) (same28 v0 v1 k w ▸ h)

/-! loop.example/g00758/spec.l1All -/
def pl75 : Plans := fun _ => ⟨false, [], .nil⟩
def S75 (v0 v1 v2 : Value) (k : Value → World → Prop) (w : World) : Prop :=
 Rd Try.prog (WS.at w) (sBuiltin .len #[22] 3 [false] [v0]) fun t1 =>
 LoopF [12, 13, 14, 8, 15, 16, 17, 18, 19, 6, 20, 11] (fun Q2 f3 w4 =>
  Rd Try.prog (WS.at w4) (sBin .lss 3 false (f3 11) (f3 10)) fun t5 =>
  CondK t5
   (Rd Try.prog (WS.at w4) (sIndexAddr 22 (f3 9) (f3 11)) fun t6 =>
   Rd Try.prog (WS.at w4) (sLoad 3 t6) fun t7 =>
   CallK Try.prog 77 [t7, (f3 1), (f3 2)] (fun t8 w9 =>
   Rd Try.prog (WS.at w9) (sUn .not t8) fun t10 =>
   CondK t10
    (Q2 .ret (F.upd (F.upd (F.upd (F.upd (F.upd (F.upd (F.upd (F.upd (F.upd (F.upd f3 12 t5) 13 t6) 14 t7) 8 t7) 15 t7) 16 (f3 1)) 17 (f3 2)) 18 t8) 19 t10) 6 (.bool false)) w9)
    (Rd Try.prog (WS.at w9) (sBin .add 3 true (f3 11) (.int .i64 1)) fun t11 =>
    Q2 .normal (F.upd (F.upd (F.upd (F.upd (F.upd (F.upd (F.upd (F.upd (F.upd (F.upd (F.upd f3 12 t5) 13 t6) 14 t7) 8 t7) 15 t7) 16 (f3 1)) 17 (f3 2)) 18 t8) 19 t10) 20 t11) 11 t11) w9)) w4)
   (Q2 (.exit 0) (F.upd f3 12 t5) w4))
  (blockQ 0 (seqQ (fun f12 w13 =>
 k (.bool true) w13) (bodyQ Try.prog [.tmp 6] k)))
  (F.upd (F.upd (F.upd (F.upd (initF [v0, v1, v2]) 6 (.bool false)) 9 v0) 10 t1) 11 (.int .i64 0)) w
theorem body75 : Try.f75.body = some (bodyOf Try.f75) := by kernel_rfl
theorem same75 (v0 v1 v2 : Value) (k : Value → World → Prop) (w : World) : wpF Try.prog pl75 (bodyOf Try.f75) (bodyQ Try.prog Try.f75.results.toList k) (initF [v0, v1, v2]) w = S75 v0 v1 v2 k w := by kernel_rfl
theorem enter75 {v0 v1 v2 : Value} {k : Value → World → Prop} {w : World} (h : S75 v0 v1 v2 k w) : CallK Try.prog 75 [v0, v1, v2] k w :=
  call_of_wpF (pl := pl75) mixed Try.func75 body75 (by kernel_rfl) (of_decide_eq_true (by kernel_rfl)) (by kernel_rfl) (by kernel_rfl) (same75 v0 v1 v2 k w ▸ h)

/-! loop.example/g00758/spec.l18Cuts -/
def pl76 : Plans := fun i => match i with
  | 3 => ⟨false, [], .step 0 .any (.step 1 .any (.step 2 .held (.step 3 .any (.step 4 .any (.step 5 .held (.step 6 .any (.step 7 .any (.step 8 .any (.step 9 .any (.step 10 .held (.step 11 .any (.step 12 .any (.step 13 .held (.step 14 .any (.step 15 .any (.step 16 .any (.step 17 .any (.step 18 .any (.step 19 .held (.step 20 .any (.step 21 .any (.step 22 .held (.step 23 .any (.step 24 .any (.step 25 .any (.nil))))))))))))))))))))))))))⟩
  | _ => ⟨false, [], .nil⟩
def S76 (v0 v1 : Value) (k : Value → World → Prop) (w : World) : Prop :=
 Rd Try.prog (WS.at w) (sBuiltin .len #[22] 3 [false] [v0]) fun t1 =>
 Rd Try.prog (WS.at w) (sBin .neq 3 true t1 (.int .i64 4)) fun t2 =>
 GuardK t2 false (fun k w' => k v0 w') (fun t3 w4 =>
 GuardK t2 false (fun k w' => k v1 w') (fun t5 w6 =>
 GuardK t2 false (fun k w' => CallK Try.prog 75 [t3, (.int .i64 0), t5] k w') (fun t7 w8 =>
 GuardK t2 false (fun k w' => Rd Try.prog (WS.at w8) (sUn .not t7) fun v => k v w') (fun t9 w10 =>
 Rd Try.prog (WS.at w10) (sPick t2 (.bool true) t9) fun t11 =>
 CondK t11
  (k (.bool false) w10)
  (Rd Try.prog WS.any (sIndexAddr 22 v0 (.int .i64 0)) fun t12 =>
  Rd Try.prog (WS.at w10.drew) (sLoad 3 t12) fun t13 =>
  Rd Try.prog WS.any (sIndexAddr 22 v0 (.int .i64 1)) fun t14 =>
  Rd Try.prog (WS.at w10.drew) (sLoad 3 t14) fun t15 =>
  Rd Try.prog WS.any (sBin .leq 3 false t13 t15) fun t16 =>
  GuardK t16 true (fun k w' => k v0 w') (fun t17 w18 =>
  GuardK t16 true (fun k w' => Rd Try.prog WS.any (sIndexAddr 22 t17 (.int .i64 1)) fun v => k v w') (fun t19 w20 =>
  GuardK t16 true (fun k w' => Rd Try.prog (WS.at w10.drew) (sLoad 3 t19) fun v => k v w') (fun t21 w22 =>
  GuardK t16 true (fun k w' => k v0 w') (fun t23 w24 =>
  GuardK t16 true (fun k w' => Rd Try.prog WS.any (sIndexAddr 22 t23 (.int .i64 2)) fun v => k v w') (fun t25 w26 =>
  GuardK t16 true (fun k w' => Rd Try.prog (WS.at w10.drew) (sLoad 3 t25) fun v => k v w') (fun t27 w28 =>
  GuardK t16 true (fun k w' => Rd Try.prog WS.any (sBin .leq 3 false t21 t27) fun v => k v w') (fun t29 w30 =>
  Rd Try.prog WS.any (sPick t16 t29 (.bool false)) fun t31 =>
  GuardK t31 true (fun k w' => k v0 w') (fun t32 w33 =>
  GuardK t31 true (fun k w' => Rd Try.prog WS.any (sIndexAddr 22 t32 (.int .i64 2)) fun v => k v w') (fun t34 w35 =>
  GuardK t31 true (fun k w' => Rd Try.prog (WS.at w10.drew) (sLoad 3 t34) fun v => k v w') (fun t36 w37 =>
  GuardK t31 true (fun k w' => k v0 w') (fun t38 w39 =>
  GuardK t31 true (fun k w' => Rd Try.prog WS.any (sIndexAddr 22 t38 (.int .i64 3)) fun v => k v w') (fun t40 w41 =>
  GuardK t31 true (fun k w' => Rd Try.prog (WS.at w10.drew) (sLoad 3 t40) fun v => k v w') (fun t42 w43 =>
  GuardK t31 true (fun k w' => Rd Try.prog WS.any (sBin .leq 3 false t36 t42) fun v => k v w') (fun t44 w45 =>
  Rd Try.prog WS.any (sPick t31 t44 (.bool false)) fun t46 =>
  k t46 w45) w43) w41) w39) w37) w35) w33) w30) w28) w26) w24) w22) w20) w18) w10.drew)) w8) w6) w4) w
theorem body76 : Try.f76.body = some (bodyOf Try.f76) := by kernel_rfl
theorem same76 (v0 v1 : Value) (k : Value → World → Prop) (w : World) : wpF Try.prog pl76 (bodyOf Try.f76) (bodyQ Try.prog Try.f76.results.toList k) (initF [v0, v1]) w = S76 v0 v1 k w := by kernel_rfl
theorem enter76 {v0 v1 : Value} {k : Value → World → Prop} {w : World} (h : S76 v0 v1 k w) : CallK Try.prog 76 [v0, v1] k w :=
  call_of_wpF (pl := pl76) mixed Try.func76 body76 (by kernel_rfl) (of_decide_eq_true (by kernel_rfl)) (by kernel_rfl) (by kernel_rfl) (same76 v0 v1 k w ▸ h)

/-! loop.example/g00758/spec.l1In -/
def pl77 : Plans := fun _ => ⟨false, [], .nil⟩
def S77 (v0 v1 v2 : Value) (k : Value → World → Prop) (w : World) : Prop :=
 Rd Try.prog (WS.at w) (sBin .geq 3 false v0 v1) fun t1 =>
 GuardK t1 true (fun k w' => k v0 w') (fun t2 w3 =>
 GuardK t1 true (fun k w' => k v2 w') (fun t4 w5 =>
 GuardK t1 true (fun k w' => Rd Try.prog (WS.at w5) (sBin .leq 3 false t2 t4) fun v => k v w') (fun t6 w7 =>
 Rd Try.prog (WS.at w7) (sPick t1 t6 (.bool false)) fun t8 =>
 k t8 w7) w5) w3) w
theorem body77 : Try.f77.body = some (bodyOf Try.f77) := by kernel_rfl
theorem same77 (v0 v1 v2 : Value) (k : Value → World → Prop) (w : World) : wpF Try.prog pl77 (bodyOf Try.f77) (bodyQ Try.prog Try.f77.results.toList k) (initF [v0, v1, v2]) w = S77 v0 v1 v2 k w := by kernel_rfl
theorem enter77 {v0 v1 v2 : Value} {k : Value → World → Prop} {w : World} (h : S77 v0 v1 v2 k w) : CallK Try.prog 77 [v0, v1, v2] k w :=
  call_of_wpF (pl := pl77) mixed Try.func77 body77 (by kernel_rfl) (of_decide_eq_true (by kernel_rfl)) (by kernel_rfl) (by kernel_rfl) (same77 v0 v1 v2 k w ▸ h)

/-! loop.example/g00758/spec.l18Word -/
def pl78 : Plans := fun i => match i with
  | 5 => ⟨false, [9], .step 0 .any (.step 1 .any (.step 2 .any (.step 3 .any (.step 4 .held (.step 5 .any (.step 6 .any (.step 7 .held (.step 8 .any (.step 9 .last (.step 10 .any (.nil)))))))))))⟩
  | 6 => ⟨false, [9], .step 0 .any (.step 1 .any (.step 2 .any (.step 3 .any (.step 4 .held (.step 5 .any (.step 6 .any (.step 7 .held (.step 8 .any (.step 9 .last (.step 10 .any (.nil)))))))))))⟩
  | 10 => ⟨false, [9], .step 0 .any (.step 1 .any (.step 2 .any (.step 3 .any (.step 4 .held (.step 5 .any (.step 6 .any (.step 7 .held (.step 8 .any (.step 9 .last (.step 10 .any (.nil)))))))))))⟩
  | _ => ⟨false, [], .nil⟩
def S78 (v0 v1 v2 : Value) (k : Value → World → Prop) (w : World) : Prop :=
 Rd Try.prog (WS.at w) (sIndexAddr 22 v1 (.int .i64 0)) fun t1 =>
 Rd Try.prog (WS.at w) (sLoad 3 t1) fun t2 =>
 Rd Try.prog (WS.at w) (sSlice 22 v0 none (some t2) none) fun t3 =>
 CallK Try.prog 116 [t3] (fun t4 w5 =>
 LoopF [16, 17, 18, 21, 22, 23, 24, 25, 26, 27, 28, 29, 30, 7, 19, 20, 8] (fun Q6 f7 w8 =>
  Rd Try.prog (WS.at w8) (sBin .lss 3 false (f7 8) (f7 2)) fun t9 =>
  CondK t9
   (Rd Try.prog WS.any (sIndexAddr 22 (f7 1) (.int .i64 0)) fun t10 =>
   Rd Try.prog (WS.at w8.drew) (sLoad 3 t10) fun t11 =>
   Rd Try.prog WS.any (sIndexAddr 22 (f7 1) (.int .i64 1)) fun t12 =>
   Rd Try.prog (WS.at w8.drew) (sLoad 3 t12) fun t13 =>
   Rd Try.prog WS.any (sSlice 22 (f7 0) (some t11) (some t13) none) fun t14 =>
   Do Try.prog (sBuiltin .append #[22, 22] 22 [false, false] [(f7 7), t14]) (fun t15 w16 =>
   Rd Try.prog (WS.at w16) (sBin .add 3 true (f7 8) (.int .i64 1)) fun t17 =>
   Q6 .normal (F.upd (F.upd (F.upd (F.upd (F.upd (F.upd (F.upd (F.upd (F.upd (F.upd (F.upd (F.upd (F.upd (F.upd (F.upd (F.upd (F.upd f7 16 (f7 8)) 17 (f7 2)) 18 t9) 21 (f7 7)) 22 (f7 0)) 23 (f7 1)) 24 t10) 25 t11) 26 (f7 1)) 27 t12) 28 t13) 29 t14) 30 t15) 7 t15) 19 (f7 8)) 20 t17) 8 t17) w16) w8.drew)
   (Q6 (.exit 0) (F.upd (F.upd (F.upd f7 16 (f7 8)) 17 (f7 2)) 18 t9) w8))
  (blockQ 0 (seqQ (fun f18 w19 =>
 Rd Try.prog WS.any (sIndexAddr 22 (f18 1) (.int .i64 1)) fun t20 =>
 Rd Try.prog (WS.at w19.drew) (sLoad 3 t20) fun t21 =>
 Rd Try.prog WS.any (sIndexAddr 22 (f18 1) (.int .i64 2)) fun t22 =>
 Rd Try.prog (WS.at w19.drew) (sLoad 3 t22) fun t23 =>
 Rd Try.prog WS.any (sSlice 22 (f18 0) (some t21) (some t23) none) fun t24 =>
 Do Try.prog (sBuiltin .append #[22, 22] 22 [false, false] [(f18 7), t24]) (fun t25 w26 =>
 LoopF [41, 42, 43, 46, 47, 48, 49, 50, 51, 52, 53, 54, 55, 7, 44, 45, 9] (fun Q27 f28 w29 =>
  Rd Try.prog (WS.at w29) (sBin .lss 3 false (f28 9) (f28 2)) fun t30 =>
  CondK t30
   (Rd Try.prog WS.any (sIndexAddr 22 (f28 1) (.int .i64 2)) fun t31 =>
   Rd Try.prog (WS.at w29.drew) (sLoad 3 t31) fun t32 =>
   Rd Try.prog WS.any (sIndexAddr 22 (f28 1) (.int .i64 3)) fun t33 =>
   Rd Try.prog (WS.at w29.drew) (sLoad 3 t33) fun t34 =>
   Rd Try.prog WS.any (sSlice 22 (f28 0) (some t32) (some t34) none) fun t35 =>
   Do Try.prog (sBuiltin .append #[22, 22] 22 [false, false] [(f28 7), t35]) (fun t36 w37 =>
   Rd Try.prog (WS.at w37) (sBin .add 3 true (f28 9) (.int .i64 1)) fun t38 =>
   Q27 .normal (F.upd (F.upd (F.upd (F.upd (F.upd (F.upd (F.upd (F.upd (F.upd (F.upd (F.upd (F.upd (F.upd (F.upd (F.upd (F.upd (F.upd f28 41 (f28 9)) 42 (f28 2)) 43 t30) 46 (f28 7)) 47 (f28 0)) 48 (f28 1)) 49 t31) 50 t32) 51 (f28 1)) 52 t33) 53 t34) 54 t35) 55 t36) 7 t36) 44 (f28 9)) 45 t38) 9 t38) w37) w29.drew)
   (Q27 (.exit 2) (F.upd (F.upd (F.upd f28 41 (f28 9)) 42 (f28 2)) 43 t30) w29))
  (blockQ 2 (seqQ (fun f39 w40 =>
 Rd Try.prog (WS.at w40) (sIndexAddr 22 (f39 1) (.int .i64 3)) fun t41 =>
 Rd Try.prog (WS.at w40) (sLoad 3 t41) fun t42 =>
 Rd Try.prog (WS.at w40) (sSlice 22 (f39 0) (some t42) none none) fun t43 =>
 Do Try.prog (sBuiltin .append #[22, 22] 22 [false, false] [(f39 7), t43]) (fun t44 w45 =>
 k t44 w45) w40) (bodyQ Try.prog [.tmp 6] k)))
  (F.upd (F.upd (F.upd (F.upd (F.upd (F.upd (F.upd (F.upd (F.upd (F.upd (F.upd (F.upd f18 31 (f18 7)) 32 (f18 0)) 33 (f18 1)) 34 t20) 35 t21) 36 (f18 1)) 37 t22) 38 t23) 39 t24) 40 t25) 7 t25) 9 (.int .i64 0)) w26) w19.drew) (bodyQ Try.prog [.tmp 6] k)))
  (F.upd (F.upd (F.upd (F.upd (F.upd (F.upd (F.upd (F.upd (F.upd (initF [v0, v1, v2]) 6 (.slice none 0 0)) 10 v0) 11 v1) 12 t1) 13 t2) 14 t3) 15 t4) 7 t4) 8 (.int .i64 0)) w5) w
theorem body78 : Try.f78.body = some (bodyOf Try.f78) := by kernel_rfl
theorem same78 (v0 v1 v2 : Value) (k : Value → World → Prop) (w : World) : wpF Try.prog pl78 (bodyOf Try.f78) (bodyQ Try.prog Try.f78.results.toList k) (initF [v0, v1, v2]) w = S78 v0 v1 v2 k w := by kernel_rfl
theorem enter78 {v0 v1 v2 : Value} {k : Value → World → Prop} {w : World} (h : S78 v0 v1 v2 k w) : CallK Try.prog 78 [v0, v1, v2] k w :=
  call_of_wpF (pl := pl78) mixed Try.func78 body78 (by kernel_rfl) (of_decide_eq_true (by kernel_rfl)) (by kernel_rfl) (by kernel_rfl) (same78 v0 v1 v2 k w ▸ h)

/-! loop.example/g00758/impl.pumpWord -/
def pl79 : Plans := fun i => match i with
  | 14 => ⟨false, [9], .step 0 .any (.step 1 .any (.step 2 .any (.step 3 .any (.step 4 .held (.step 5 .any (.step 6 .any (.step 7 .held (.step 8 .any (.step 9 .last (.step 10 .any (.nil)))))))))))⟩
  | 16 => ⟨false, [9], .step 0 .any (.step 1 .any (.step 2 .any (.step 3 .any (.step 4 .held (.step 5 .any (.step 6 .any (.step 7 .held (.step 8 .any (.step 9 .last (.step 10 .any (.nil)))))))))))⟩
  | 19 => ⟨false, [9], .step 0 .any (.step 1 .any (.step 2 .any (.step 3 .any (.step 4 .held (.step 5 .any (.step 6 .any (.step 7 .held (.step 8 .any (.step 9 .last (.step 10 .any (.nil)))))))))))⟩
  | _ => ⟨false, [], .nil⟩
def S79 (v0 v1 v2 : Value) (k : Value → World → Prop) (w : World) : Prop :=
 Rd Try.prog (WS.at w) (sBuiltin .len #[22] 3 [false] [v0]) fun t1 =>
 Rd Try.prog (WS.at w) (sBin .gtr 3 true t1 (.int .i64 60)) fun t2 =>
 GuardK t2 false (fun k w' => k v1 w') (fun t3 w4 =>
 GuardK t2 false (fun k w' => Rd Try.prog (WS.at w4) (sBuiltin .len #[22] 3 [false] [t3]) fun v => k v w') (fun t5 w6 =>
 GuardK t2 false (fun k w' => Rd Try.prog (WS.at w6) (sBin .neq 3 true t5 (.int .i64 4)) fun v => k v w') (fun t7 w8 =>
 Rd Try.prog (WS.at w8) (sPick t2 (.bool true) t7) fun t9 =>
 GuardK t9 false (fun k w' => k v2 w') (fun t10 w11 =>
 GuardK t9 false (fun k w' => CallK Try.prog 103 [t10, (.int .i64 0), (.int .i64 4)] k w') (fun t12 w13 =>
 GuardK t9 false (fun k w' => Rd Try.prog (WS.at w13) (sUn .not t12) fun v => k v w') (fun t14 w15 =>
 Rd Try.prog (WS.at w15) (sPick t9 (.bool true) t14) fun t16 =>
 GuardK t16 false (fun k w' => k v0 w') (fun t17 w18 =>
 GuardK t16 false (fun k w' => CallK Try.prog 129 [t17, (.func (.func 130) #[] #[])] k w') (fun t19 w20 =>
 Rd Try.prog (WS.at w20) (sPick t16 (.bool true) t19) fun t21 =>
 CondK t21
  (k (.tuple #[(.slice none 0 0), (.bool false)]) w20)
  (Rd Try.prog (WS.at w20) (sBuiltin .len #[22] 3 [false] [v1]) fun t22 =>
  LoopF [32, 33, 34, 10, 35, 36, 37, 38, 39, 40, 6, 7, 41, 8, 42, 31] (fun Q23 f24 w25 =>
   Rd Try.prog (WS.at w25) (sBin .lss 3 false (f24 31) (f24 30)) fun t26 =>
   CondK t26
    (Rd Try.prog (WS.at w25) (sIndexAddr 22 (f24 29) (f24 31)) fun t27 =>
    Rd Try.prog (WS.at w25) (sLoad 3 t27) fun t28 =>
    Rd Try.prog (WS.at w25) (sBuiltin .len #[22] 3 [false] [(f24 0)]) fun t29 =>
    CallK Try.prog 103 [t28, (f24 8), t29] (fun t30 w31 =>
    Rd Try.prog (WS.at w31) (sUn .not t30) fun t32 =>
    CondK t32
     (Q23 .ret (F.upd (F.upd (F.upd (F.upd (F.upd (F.upd (F.upd (F.upd (F.upd (F.upd (F.upd (F.upd f24 32 t26) 33 t27) 34 t28) 10 t28) 35 t28) 36 (f24 8)) 37 (f24 0)) 38 t29) 39 t30) 40 t32) 6 (.slice none 0 0)) 7 (.bool false)) w31)
     (Rd Try.prog (WS.at w31) (sBin .add 3 true (f24 31) (.int .i64 1)) fun t33 =>
     Q23 .normal (F.upd (F.upd (F.upd (F.upd (F.upd (F.upd (F.upd (F.upd (F.upd (F.upd (F.upd (F.upd (F.upd (F.upd f24 32 t26) 33 t27) 34 t28) 10 t28) 35 t28) 36 (f24 8)) 37 (f24 0)) 38 t29) 39 t30) 40 t32) 41 t28) 8 t28) 42 t33) 31 t33) w31)) w25)
    (Q23 (.exit 0) (F.upd f24 32 t26) w25))
   (blockQ 0 (seqQ (fun f34 w35 =>
  Do Try.prog (sBuildSlice 22 0 []) (fun t36 w37 =>
  Rd Try.prog (WS.at w37) (sIndexAddr 22 (f34 1) (.int .i64 0)) fun t38 =>
  Rd Try.prog (WS.at w37) (sLoad 3 t38) fun t39 =>
  Rd Try.prog (WS.at w37) (sSlice 22 (f34 0) none (some t39) none) fun t40 =>
  Do Try.prog (sBuiltin .append #[22, 22] 22 [false, false] [t36, t40]) (fun t41 w42 =>
  LoopF [52, 53, 54, 55, 56, 57, 58, 59, 60, 61, 62, 11, 63, 51] (fun Q43 f44 w45 =>
   Rd Try.prog (WS.at w45) (sBin .lss 3 false (f44 51) (f44 50)) fun t46 =>
   CondK t46
    (Rd Try.prog WS.any (sIndexAddr 22 (f44 1) (.int .i64 0)) fun t47 =>
    Rd Try.prog (WS.at w45.drew) (sLoad 3 t47) fun t48 =>
    Rd Try.prog WS.any (sIndexAddr 22 (f44 1) (.int .i64 1)) fun t49 =>
    Rd Try.prog (WS.at w45.drew) (sLoad 3 t49) fun t50 =>
    Rd Try.prog WS.any (sSlice 22 (f44 0) (some t48) (some t50) none) fun t51 =>
    Do Try.prog (sBuiltin .append #[22, 22] 22 [false, false] [(f44 11), t51]) (fun t52 w53 =>
    Rd Try.prog (WS.at w53) (sBin .add 3 true (f44 51) (.int .i64 1)) fun t54 =>
    Q43 .normal (F.upd (F.upd (F.upd (F.upd (F.upd (F.upd (F.upd (F.upd (F.upd (F.upd (F.upd (F.upd (F.upd (F.upd f44 52 t46) 53 (f44 11)) 54 (f44 0)) 55 (f44 1)) 56 t47) 57 t48) 58 (f44 1)) 59 t49) 60 t50) 61 t51) 62 t52) 11 t52) 63 t54) 51 t54) w53) w45.drew)
    (Q43 (.exit 2) (F.upd f44 52 t46) w45))
   (blockQ 2 (seqQ (fun f55 w56 =>
  Rd Try.prog WS.any (sIndexAddr 22 (f55 1) (.int .i64 1)) fun t57 =>
  Rd Try.prog (WS.at w56.drew) (sLoad 3 t57) fun t58 =>
  Rd Try.prog WS.any (sIndexAddr 22 (f55 1) (.int .i64 2)) fun t59 =>
  Rd Try.prog (WS.at w56.drew) (sLoad 3 t59) fun t60 =>
  Rd Try.prog WS.any (sSlice 22 (f55 0) (some t58) (some t60) none) fun t61 =>
  Do Try.prog (sBuiltin .append #[22, 22] 22 [false, false] [(f55 11), t61]) (fun t62 w63 =>
  LoopF [76, 77, 78, 79, 80, 81, 82, 83, 84, 85, 86, 11, 87, 75] (fun Q64 f65 w66 =>
   Rd Try.prog (WS.at w66) (sBin .lss 3 false (f65 75) (f65 74)) fun t67 =>
   CondK t67
    (Rd Try.prog WS.any (sIndexAddr 22 (f65 1) (.int .i64 2)) fun t68 =>
    Rd Try.prog (WS.at w66.drew) (sLoad 3 t68) fun t69 =>
    Rd Try.prog WS.any (sIndexAddr 22 (f65 1) (.int .i64 3)) fun t70 =>
    Rd Try.prog (WS.at w66.drew) (sLoad 3 t70) fun t71 =>
    Rd Try.prog WS.any (sSlice 22 (f65 0) (some t69) (some t71) none) fun t72 =>
    Do Try.prog (sBuiltin .append #[22, 22] 22 [false, false] [(f65 11), t72]) (fun t73 w74 =>
    Rd Try.prog (WS.at w74) (sBin .add 3 true (f65 75) (.int .i64 1)) fun t75 =>
    Q64 .normal (F.upd (F.upd (F.upd (F.upd (F.upd (F.upd (F.upd (F.upd (F.upd (F.upd (F.upd (F.upd (F.upd (F.upd f65 76 t67) 77 (f65 11)) 78 (f65 0)) 79 (f65 1)) 80 t68) 81 t69) 82 (f65 1)) 83 t70) 84 t71) 85 t72) 86 t73) 11 t73) 87 t75) 75 t75) w74) w66.drew)
    (Q64 (.exit 4) (F.upd f65 76 t67) w66))
   (blockQ 4 (seqQ (fun f76 w77 =>
  Rd Try.prog (WS.at w77) (sIndexAddr 22 (f76 1) (.int .i64 3)) fun t78 =>
  Rd Try.prog (WS.at w77) (sLoad 3 t78) fun t79 =>
  Rd Try.prog (WS.at w77) (sSlice 22 (f76 0) (some t79) none none) fun t80 =>
  Do Try.prog (sBuiltin .append #[22, 22] 22 [false, false] [(f76 11), t80]) (fun t81 w82 =>
  Rd Try.prog (WS.at w82) (sBuiltin .len #[22] 3 [false] [t81]) fun t83 =>
  Rd Try.prog (WS.at w82) (sBin .gtr 3 true t83 (.int .i64 60)) fun t84 =>
  CondK t84
   (k (.tuple #[(.slice none 0 0), (.bool false)]) w82)
   (k (.tuple #[t81, (.bool true)]) w82)) w77) (bodyQ Try.prog [.tmp 6, .tmp 7] k)))
   (F.upd (F.upd (F.upd (F.upd (F.upd (F.upd (F.upd (F.upd (F.upd (F.upd (F.upd (F.upd (F.upd f55 64 (f55 11)) 65 (f55 0)) 66 (f55 1)) 67 t57) 68 t58) 69 (f55 1)) 70 t59) 71 t60) 72 t61) 73 t62) 11 t62) 74 (f55 2)) 75 (.int .i64 0)) w63) w56.drew) (bodyQ Try.prog [.tmp 6, .tmp 7] k)))
   (F.upd (F.upd (F.upd (F.upd (F.upd (F.upd (F.upd (F.upd (F.upd (F.upd f34 43 t36) 44 (f34 0)) 45 (f34 1)) 46 t38) 47 t39) 48 t40) 49 t41) 11 t41) 50 (f34 2)) 51 (.int .i64 0)) w42) w37) w35) (bodyQ Try.prog [.tmp 6, .tmp 7] k)))
   (F.upd (F.upd (F.upd (F.upd (F.upd (F.upd (F.upd (F.upd (F.upd (F.upd (F.upd (F.upd (F.upd (F.upd (F.upd (F.upd (F.upd (F.upd (F.upd (F.upd (F.upd (F.upd (F.upd (initF [v0, v1, v2]) 6 (.slice none 0 0)) 7 (.bool false)) 12 v0) 13 t1) 14 t2) 15 t2) 16 t3) 17 t5) 18 t7) 19 t9) 20 t9) 21 t10) 22 t12) 23 t14) 24 t16) 25 t16) 26 t17) 27 t19) 28 t21) 8 (.int .i64 0)) 29 v1) 30 t22) 31 (.int .i64 0)) w20)) w18) w15) w13) w11) w8) w6) w4) w
theorem body79 : Try.f79.body = some (bodyOf Try.f79) := by kernel_rfl
theorem same79 (v0 v1 v2 : Value) (k : Value → World → Prop) (w : World) : wpF Try.prog pl79 (bodyOf Try.f79) (bodyQ Try.prog Try.f79.results.toList k) (initF [v0, v1, v2]) w = S79 v0 v1 v2 k w := by kernel_rfl
theorem enter79 {v0 v1 v2 : Value} {k : Value → World → Prop} {w : World} (h : S79 v0 v1 v2 k w) : CallK Try.prog 79 [v0, v1, v2] k w :=
  call_of_wpF (pl := pl79) mixed Try.func79 body79 (by kernel_rfl) (of_decide_eq_true (by kernel_rfl)) (by kernel_rfl) (by kernel_rfl) (same79 v0 v1 v2 k w ▸ h)

/-! loop.example/g00758/impl.in -/
def pl103 : Plans := fun _ => ⟨false, [], .nil⟩
def S103 (v0 v1 v2 : Value) (k : Value → World → Prop) (w : World) : Prop :=
 Rd Try.prog (WS.at w) (sBin .geq 3 false v0 v1) fun t1 =>
 GuardK t1 true (fun k w' => k v0 w') (fun t2 w3 =>
 GuardK t1 true (fun k w' => k v2 w') (fun t4 w5 =>
 GuardK t1 true (fun k w' => Rd Try.prog (WS.at w5) (sBin .leq 3 false t2 t4) fun v => k v w') (fun t6 w7 =>
 Rd Try.prog (WS.at w7) (sPick t1 t6 (.bool false)) fun t8 =>
 k t8 w7) w5) w3) w
theorem body103 : Try.f103.body = some (bodyOf Try.f103) := by kernel_rfl
theorem same103 (v0 v1 v2 : Value) (k : Value → World → Prop) (w : World) : wpF Try.prog pl103 (bodyOf Try.f103) (bodyQ Try.prog Try.f103.results.toList k) (initF [v0, v1, v2]) w = S103 v0 v1 v2 k w := by kernel_rfl
theorem enter103 {v0 v1 v2 : Value} {k : Value → World → Prop} {w : World} (h : S103 v0 v1 v2 k w) : CallK Try.prog 103 [v0, v1, v2] k w :=
  call_of_wpF (pl := pl103) mixed Try.func103 body103 (by kernel_rfl) (of_decide_eq_true (by kernel_rfl)) (by kernel_rfl) (by kernel_rfl) (same103 v0 v1 v2 k w ▸ h)

/-! loop.example/g00758/spec.l1Own -/
def pl116 : Plans := fun _ => ⟨false, [], .nil⟩
def S116 (v0 : Value) (k : Value → World → Prop) (w : World) : Prop :=
 Do Try.prog (sBuildSlice 22 0 []) (fun t1 w2 =>
 Do Try.prog (sBuiltin .append #[22, 22] 22 [false, false] [t1, v0]) (fun t3 w4 =>
 k t3 w4) w2) w
theorem body116 : Try.f116.body = some (bodyOf Try.f116) := by kernel_rfl
theorem same116 (v0 : Value) (k : Value → World → Prop) (w : World) : wpF Try.prog pl116 (bodyOf Try.f116) (bodyQ Try.prog Try.f116.results.toList k) (initF [v0]) w = S116 v0 k w := by kernel_rfl
theorem enter116 {v0 : Value} {k : Value → World → Prop} {w : World} (h : S116 v0 k w) : CallK Try.prog 116 [v0] k w :=
  call_of_wpF (pl := pl116) mixed Try.func116 body116 (by kernel_rfl) (of_decide_eq_true (by kernel_rfl)) (by kernel_rfl) (by kernel_rfl) (same116 v0 k w ▸ h)

/-! slices.ContainsFunc[[]int,int] -/
def pl129 : Plans := fun _ => ⟨false, [], .nil⟩
def S129 (v0 v1 : Value) (k : Value → World → Prop) (w : World) : Prop :=
 CallK Try.prog 171 [v0, v1] (fun t1 w2 =>
 Rd Try.prog (WS.at w2) (sBin .geq 3 true t1 (.int .i64 0)) fun t3 =>
 k t3 w2) w
theorem body129 : Try.f129.body = some (bodyOf Try.f129) := by kernel_rfl
theorem same129 (v0 v1 : Value) (k : Value → World → Prop) (w : World) : wpF Try.prog pl129 (bodyOf Try.f129) (bodyQ Try.prog Try.f129.results.toList k) (initF [v0, v1]) w = S129 v0 v1 k w := by kernel_rfl
theorem enter129 {v0 v1 : Value} {k : Value → World → Prop} {w : World} (h : S129 v0 v1 k w) : CallK Try.prog 129 [v0, v1] k w :=
  call_of_wpF (pl := pl129) mixed Try.func129 body129 (by kernel_rfl) (of_decide_eq_true (by kernel_rfl)) (by kernel_rfl) (by kernel_rfl) (same129 v0 v1 k w ▸ h)

/-! loop.example/g00758/impl.pumpWord$1 -/
def pl130 : Plans := fun _ => ⟨false, [], .nil⟩
def S130 (v0 : Value) (k : Value → World → Prop) (w : World) : Prop :=
 CallK Try.prog 103 [v0, (.int .i64 0), (.int .i64 1000000)] (fun t1 w2 =>
 Rd Try.prog (WS.at w2) (sUn .not t1) fun t3 =>
 k t3 w2) w
theorem body130 : Try.f130.body = some (bodyOf Try.f130) := by kernel_rfl
theorem same130 (v0 : Value) (k : Value → World → Prop) (w : World) : wpF Try.prog pl130 (bodyOf Try.f130) (bodyQ Try.prog Try.f130.results.toList k) (initF [v0]) w = S130 v0 k w := by kernel_rfl
theorem enter130 {v0 : Value} {k : Value → World → Prop} {w : World} (h : S130 v0 k w) : CallK Try.prog 130 [v0] k w :=
  call_of_wpF (pl := pl130) mixed Try.func130 body130 (by kernel_rfl) (of_decide_eq_true (by kernel_rfl)) (by kernel_rfl) (by kernel_rfl) (same130 v0 k w ▸ h)

/-! slices.IndexFunc[[]int,int] -/
def pl171 : Plans := fun _ => ⟨false, [], .nil⟩
def S171 (v0 v1 : Value) (k : Value → World → Prop) (w : World) : Prop :=
 Rd Try.prog (WS.at w) (sBuiltin .len #[22] 3 [false] [v0]) fun t1 =>
 LoopF [9, 10, 5, 11, 12, 13, 14, 15, 16, 17, 4, 18, 8] (fun Q2 f3 w4 =>
  Rd Try.prog (WS.at w4) (sBin .lss 3 false (f3 8) (f3 7)) fun t5 =>
  CondK t5
   (Rd Try.prog (WS.at w4) (sIndexAddr 22 (f3 0) (f3 8)) fun t6 =>
   Rd Try.prog (WS.at w4) (sLoad 3 t6) fun t7 =>
   Do Try.prog (sCallV (f3 1) [t7] 4) (fun t8 w9 =>
   CondK t8
    (Q2 .ret (F.upd (F.upd (F.upd (F.upd (F.upd (F.upd (F.upd (F.upd (F.upd (F.upd (F.upd f3 9 t5) 10 (f3 8)) 5 (f3 8)) 11 (f3 1)) 12 (f3 0)) 13 (f3 8)) 14 t6) 15 t7) 16 t8) 17 (f3 8)) 4 (f3 8)) w9)
    (Rd Try.prog (WS.at w9) (sBin .add 3 true (f3 8) (.int .i64 1)) fun t10 =>
    Q2 .normal (F.upd (F.upd (F.upd (F.upd (F.upd (F.upd (F.upd (F.upd (F.upd (F.upd (F.upd f3 9 t5) 10 (f3 8)) 5 (f3 8)) 11 (f3 1)) 12 (f3 0)) 13 (f3 8)) 14 t6) 15 t7) 16 t8) 18 t10) 8 t10) w9)) w4)
   (Q2 (.exit 0) (F.upd f3 9 t5) w4))
  (blockQ 0 (seqQ (fun f11 w12 =>
 k (.int .i64 (-1)) w12) (bodyQ Try.prog [.tmp 4] k)))
  (F.upd (F.upd (F.upd (F.upd (initF [v0, v1]) 4 (.int .i64 0)) 6 v0) 7 t1) 8 (.int .i64 0)) w
theorem body171 : Try.f171.body = some (bodyOf Try.f171) := by kernel_rfl
theorem same171 (v0 v1 : Value) (k : Value → World → Prop) (w : World) : wpF Try.prog pl171 (bodyOf Try.f171) (bodyQ Try.prog Try.f171.results.toList k) (initF [v0, v1]) w = S171 v0 v1 k w := by kernel_rfl
theorem enter171 {v0 v1 : Value} {k : Value → World → Prop} {w : World} (h : S171 v0 v1 k w) : CallK Try.prog 171 [v0, v1] k w :=
  call_of_wpF (pl := pl171) mixed Try.func171 body171 (by kernel_rfl) (of_decide_eq_true (by kernel_rfl)) (by kernel_rfl) (by kernel_rfl) (same171 v0 v1 k w ▸ h)

end Go.Proofs.Ytiohaeckagjebaa
