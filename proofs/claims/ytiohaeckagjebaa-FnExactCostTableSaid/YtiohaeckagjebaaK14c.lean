/- Texts of this repository put together: Bj, ShN1, Bh, ShM6, ShM7, ShN2, ShM8, ShS4, ShM9, ShX2, Bg, Bk, ShX4, ShX6, ShX7, ShX8, ShC3, ShC5, ShT1, ShX9, ShX3, ShX5, ShXA, ShXB, ShN3, ShMA. -/
import Derived.Test.YtiohaeckagjebaaProg
import Derived.Test.YtiohaeckagjebaaK14a
import Derived.Test.YtiohaeckagjebaaK14b
import Derived.WideKeyArr
import Derived.WideMake

/- Bj: bodies of functions as terms of the frame calculus, printed by shgen.py of this repository. -/
set_option linter.unusedVariables false
set_option maxRecDepth 100000
namespace Go.Proofs.Ytiohaeckagjebaa
open Go Go.Sh

/-! loop.example/g00758/laws.FnExactCostTable -/
def pl14 : Plans := fun i => match i with
  | 16 => ⟨true, [3], .step 0 .held (.step 1 .held (.step 2 .one (.step 3 .last (.step 4 .any (.nil)))))⟩
  | _ => ⟨false, [], .nil⟩
def S14 (v0 v1 v2 : Value) (k : Value → World → Prop) (w : World) : Prop :=
 Do Try.prog (sBox 31 v0) (fun t1 w2 =>
 Rd Try.prog (WS.at w2) (sBuiltin .len #[22] 3 [false] [v1]) fun t3 =>
 Rd Try.prog (WS.at w2) (sBin .gtr 3 true t3 (.int .i64 1048576)) fun t4 =>
 CondK t4
  (k (.bool true) w2)
  (Rd Try.prog (WS.at w2) (sBuiltin .len #[22] 3 [false] [v2]) fun t5 =>
  Rd Try.prog (WS.at w2) (sBin .gtr 3 true t5 (.int .i64 1048576)) fun t6 =>
  CondK t6
   (k (.bool true) w2)
   (Rd Try.prog (WS.at w2) (sLoad 31 t1) fun t7 =>
   CallK Try.prog 29 [t7, (.int .i64 1048576)] (fun t8 w9 =>
   Rd Try.prog (WS.at w9) (sBin .lss 3 true t8 (.int .i64 0)) fun t10 =>
   CondK t10
    (k (.bool true) w9)
    (Rd Try.prog (WS.at w9) (sLoad 31 t1) fun t11 =>
    CallK Try.prog 31 [t11] (fun t12 w13 =>
    CallK Try.prog 24 [v1] (fun t14 w15 =>
    CallK Try.prog 24 [v2] (fun t16 w17 =>
    CallK Try.prog 57 [t12, t14, t16] (fun t18 w19 =>
    Rd Try.prog (WS.at w19) (sExtract t18 0) fun t20 =>
    Rd Try.prog (WS.at w19) (sExtract t18 1) fun t21 =>
    Rd Try.prog (WS.at w19) (sLoad 31 t1) fun t22 =>
    CallK Try.prog 31 [t22] (fun t23 w24 =>
    Do Try.prog (sAlloc 37) (fun t25 w26 =>
    Do Try.prog (sStore 37 t25 t23) (fun _ w27 =>
    CallK Try.prog 24 [v1] (fun t28 w29 =>
    CallK Try.prog 24 [v2] (fun t30 w31 =>
    Rd Try.prog (WS.at w31) (sLoad 37 t25) fun t32 =>
    CallK Try.prog 58 [t32, t28, t30] (fun t33 w34 =>
    Rd Try.prog (WS.at w34) (sExtract t33 0) fun t35 =>
    Rd Try.prog (WS.at w34) (sExtract t33 1) fun t36 =>
    CallK Try.prog 26 [t35, t20] (fun t37 w38 =>
    Rd Try.prog (WS.at w38) (sUn .not t37) fun t39 =>
    GuardK t39 false (fun k w' => k t36 w') (fun t40 w41 =>
    GuardK t39 false (fun k w' => k t21 w') (fun t42 w43 =>
    GuardK t39 false (fun k w' => Rd Try.prog (WS.at w43) (sBin .neq 4 false t40 t42) fun v => k v w') (fun t44 w45 =>
    Rd Try.prog (WS.at w45) (sPick t39 (.bool true) t44) fun t46 =>
    CondK t46
     (k (.bool false) w45)
     (∃ S47 : World → Prop, ∃ h48 : S47 w45.drew,
     Rd Try.prog ⟨S47, w45.drew, h48⟩ (sLoad 37 t25) fun t49 =>
     Rd Try.prog ⟨S47, w45.drew, h48⟩ (sLoad 31 t1) fun t50 =>
     CallK Try.prog 31 [t50] (fun t51 w52 =>
     S47 w52 ∧ CallK Try.prog 33 [t49, t51] (fun t53 w54 =>
     Rd Try.prog WS.any (sUn .not t53) fun t55 =>
     CondK t55
      (k (.bool false) w54)
      (CallK Try.prog 24 [v1] (fun t56 w57 =>
      CallK Try.prog 26 [t28, t56] (fun t58 w59 =>
      Rd Try.prog (WS.at w59) (sUn .not t58) fun t60 =>
      CondK t60
       (k (.bool false) w59)
       (CallK Try.prog 24 [v2] (fun t61 w62 =>
       CallK Try.prog 26 [t30, t61] (fun t63 w64 =>
       Rd Try.prog (WS.at w64) (sUn .not t63) fun t65 =>
       CondK t65
        (k (.bool false) w64)
        (Rd Try.prog (WS.at w64) (sLoad 37 t25) fun t66 =>
        CallK Try.prog 36 [t66, (.int .i64 1)] (fun t67 w68 =>
        CallK Try.prog 27 [t28, t67] (fun t69 w70 =>
        CallK Try.prog 27 [t30, t69] (fun t71 w72 =>
        Rd Try.prog (WS.at w72) (sBin .lss 3 true t71 (.int .i64 0)) fun t73 =>
        GuardK t73 false (fun k w' => k t35 w') (fun t74 w75 =>
        GuardK t73 false (fun k w' => k t20 w') (fun t76 w77 =>
        GuardK t73 false (fun k w' => CallK Try.prog 26 [t74, t76] k w') (fun t78 w79 =>
        GuardK t73 false (fun k w' => Rd Try.prog (WS.at w79) (sUn .not t78) fun v => k v w') (fun t80 w81 =>
        Rd Try.prog (WS.at w81) (sPick t73 (.bool true) t80) fun t82 =>
        GuardK t82 false (fun k w' => k t36 w') (fun t83 w84 =>
        GuardK t82 false (fun k w' => k t21 w') (fun t85 w86 =>
        GuardK t82 false (fun k w' => Rd Try.prog (WS.at w86) (sBin .neq 4 false t83 t85) fun v => k v w') (fun t87 w88 =>
        Rd Try.prog (WS.at w88) (sPick t82 (.bool true) t87) fun t89 =>
        CondK t89
         (k (.bool false) w88)
         (CallK Try.prog 27 [t35, (.int .i64 1)] (fun t90 w91 =>
         CallK Try.prog 28 [t35, (.int .i64 1)] (fun t92 w93 =>
         Rd Try.prog (WS.at w93) (sBin .lss 3 true t92 (.int .i64 0)) fun t94 =>
         CondK t94
          (k (.bool false) w93)
          (Rd Try.prog (WS.at w93) (sBin .neq 3 false t92 t90) fun t95 =>
          CondK t95
           (k (.bool false) w93)
           (Rd Try.prog (WS.at w93) (sLoad 31 t1) fun t96 =>
           CallK Try.prog 31 [t96] (fun t97 w98 =>
           CallK Try.prog 24 [v1] (fun t99 w100 =>
           CallK Try.prog 24 [v2] (fun t101 w102 =>
           CallK Try.prog 58 [t97, t99, t101] (fun t103 w104 =>
           Rd Try.prog (WS.at w104) (sExtract t103 0) fun t105 =>
           Rd Try.prog (WS.at w104) (sExtract t103 1) fun t106 =>
           CallK Try.prog 26 [t105, t20] (fun t107 w108 =>
           Rd Try.prog (WS.at w108) (sUn .not t107) fun t109 =>
           GuardK t109 false (fun k w' => k t106 w') (fun t110 w111 =>
           GuardK t109 false (fun k w' => k t21 w') (fun t112 w113 =>
           GuardK t109 false (fun k w' => Rd Try.prog (WS.at w113) (sBin .neq 4 false t110 t112) fun v => k v w') (fun t114 w115 =>
           Rd Try.prog (WS.at w115) (sPick t109 (.bool true) t114) fun t116 =>
           CondK t116
            (k (.bool false) w115)
            (CallK Try.prog 28 [t35, (.int .i64 1)] (fun t117 w118 =>
            Rd Try.prog (WS.at w118) (sBin .lss 3 true t117 (.int .i64 0)) fun t119 =>
            CondK t119
             (k (.bool false) w118)
             (Rd Try.prog (WS.at w118) (sBin .neq 3 false t117 t90) fun t120 =>
             CondK t120
              (k (.bool false) w118)
              (k (.bool true) w118))) w115)) w113) w111) w108) w104) w102) w100) w98) w93))) w91) w88)) w86) w84) w81) w79) w77) w75) w72) w70) w68) w64)) w62) w59)) w57) w54)) w52) w45.drew)) w43) w41) w38) w34) w31) w29) w27) w26) w24) w19) w17) w15) w13) w9)) w2))) w
theorem body14 : Try.f14.body = some (bodyOf Try.f14) := by kernel_rfl
theorem same14 (v0 v1 v2 : Value) (k : Value → World → Prop) (w : World) : wpF Try.prog pl14 (bodyOf Try.f14) (bodyQ Try.prog Try.f14.results.toList k) (initF [v0, v1, v2]) w = S14 v0 v1 v2 k w := by kernel_rfl
theorem enter14 {v0 v1 v2 : Value} {k : Value → World → Prop} {w : World} (h : S14 v0 v1 v2 k w) : CallK Try.prog 14 [v0, v1, v2] k w :=
  call_of_wpF (pl := pl14) mixed Try.func14 body14 (by kernel_rfl) (of_decide_eq_true (by kernel_rfl)) (by kernel_rfl) (by kernel_rfl) (same14 v0 v1 v2 k w ▸ h)

/-! loop.example/g00758/spec.CostTable -/
def pl57 : Plans := fun _ => ⟨false, [], .nil⟩
def S57 (v0 v1 v2 : Value) (k : Value → World → Prop) (w : World) : Prop :=
 Do Try.prog (sBox 37 v0) (fun t1 w2 =>
 Rd Try.prog (WS.at w2) (sLoad 37 t1) fun t3 =>
 CallK Try.prog 111 [t3, v1] (fun t4 w5 =>
 Rd Try.prog (WS.at w5) (sUn .not t4) fun t6 =>
 GuardK t6 false (fun k w' => Rd Try.prog (WS.at w5) (sLoad 37 t1) fun v => k v w') (fun t7 w8 =>
 GuardK t6 false (fun k w' => k v2 w') (fun t9 w10 =>
 GuardK t6 false (fun k w' => CallK Try.prog 112 [t7, t9] k w') (fun t11 w12 =>
 GuardK t6 false (fun k w' => Rd Try.prog (WS.at w12) (sUn .not t11) fun v => k v w') (fun t13 w14 =>
 Rd Try.prog (WS.at w14) (sPick t6 (.bool true) t13) fun t15 =>
 CondK t15
  (k (.tuple #[(.slice none 0 0), (.bool false)]) w14)
  (Rd Try.prog (WS.at w14) (sBuiltin .len #[22] 3 [false] [v2]) fun t16 =>
  Rd Try.prog (WS.at w14) (sBin .add 3 true t16 (.int .i64 1)) fun t17 =>
  Rd Try.prog (WS.at w14) (sLoad 37 t1) fun t18 =>
  CallK Try.prog 113 [t18, v1, v2] (fun t19 w20 =>
  Rd Try.prog (WS.at w20) (sBuiltin .len #[48] 3 [false] [t19]) fun t21 =>
  LoopF [34, 35, 36, 11, 12, 37, 38, 39, 42, 13, 43, 44, 45, 48, 49, 50, 51, 52, 53, 54, 55, 14, 56, 57, 14, 58, 59, 60, 61, 9, 46, 47, 13, 40, 41, 12, 62, 33] (fun Q22 f23 w24 =>
   Rd Try.prog (WS.at w24) (sBin .lss 3 false (f23 33) (f23 32)) fun t25 =>
   CondK t25
    (Rd Try.prog (WS.at w24) (sIndexAddr 48 (f23 31) (f23 33)) fun t26 =>
    Rd Try.prog (WS.at w24) (sLoad 22 t26) fun t27 =>
    LoopF [37, 38, 39, 42, 13, 43, 44, 45, 48, 49, 50, 51, 52, 53, 54, 55, 14, 56, 57, 14, 58, 59, 60, 61, 9, 46, 47, 13, 40, 41, 12] (fun Q28 f29 w30 =>
     Rd Try.prog (WS.at w30) (sBin .lss 3 false (f29 12) (f29 8)) fun t31 =>
     CondK t31
      (LoopF [43, 44, 45, 48, 49, 50, 51, 52, 53, 54, 55, 14, 56, 57, 14, 58, 59, 60, 61, 9, 46, 47, 13] (fun Q32 f33 w34 =>
       Rd Try.prog (WS.at w34) (sBin .lss 3 false (f33 13) (f33 8)) fun t35 =>
       CondK t35
        (Join (fun K36 =>
        Rd Try.prog (WS.at w34) (sBin .mul 3 false (f33 12) (f33 8)) fun t39 =>
        Rd Try.prog (WS.at w34) (sBin .add 3 false t39 (f33 13)) fun t40 =>
        Rd Try.prog (WS.at w34) (sIndexAddr 22 (f33 11) t40) fun t41 =>
        Rd Try.prog (WS.at w34) (sLoad 3 t41) fun t42 =>
        Join (fun K43 =>
        Rd Try.prog (WS.at w34) (sBin .eql 3 true t42 (.int .i64 0)) fun t46 =>
        CondK t46
         (K43 (F.upd (F.upd (F.upd (F.upd (F.upd (F.upd (F.upd (F.upd (F.upd (F.upd (F.upd (F.upd (F.upd (F.upd (F.upd f33 43 (f33 13)) 44 (f33 8)) 45 t35) 48 (f33 11)) 49 (f33 12)) 50 (f33 8)) 51 t39) 52 (f33 13)) 53 t40) 54 t41) 55 t42) 14 t42) 56 t42) 57 t46) 14 (.int .i64 (-1))) w34)
         (K43 (F.upd (F.upd (F.upd (F.upd (F.upd (F.upd (F.upd (F.upd (F.upd (F.upd (F.upd (F.upd (F.upd (F.upd f33 43 (f33 13)) 44 (f33 8)) 45 t35) 48 (f33 11)) 49 (f33 12)) 50 (f33 8)) 51 t39) 52 (f33 13)) 53 t40) 54 t41) 55 t42) 14 t42) 56 t42) 57 t46) w34)) (fun f44 w45 =>
        Do Try.prog (sBuildSlice 22 1 [(0, (f44 14))]) (fun t47 w48 =>
        Do Try.prog (sBuiltin .append #[22, 22] 22 [false, false] [(f44 9), t47]) (fun t49 w50 =>
        K36 (F.upd (F.upd (F.upd (F.upd (F.upd f44 58 (f44 9)) 59 (f44 14)) 60 t47) 61 t49) 9 t49) w50) w48) w45)) (fun f37 w38 =>
        Rd Try.prog (WS.at w38) (sBin .add 3 true (f37 13) (.int .i64 1)) fun t51 =>
        Q32 .normal (F.upd (F.upd (F.upd f37 46 (f37 13)) 47 t51) 13 t51) w38))
        (Q32 (.exit 4) (F.upd (F.upd (F.upd f33 43 (f33 13)) 44 (f33 8)) 45 t35) w34))
       (blockQ 4 (blockQ 3 (seqQ (fun f52 w53 =>
      Rd Try.prog (WS.at w53) (sBin .add 3 true (f52 12) (.int .i64 1)) fun t54 =>
      Q28 .normal (F.upd (F.upd (F.upd f52 40 (f52 12)) 41 t54) 12 t54) w53) Q28)))
       (F.upd (F.upd (F.upd (F.upd (F.upd f29 37 (f29 12)) 38 (f29 8)) 39 t31) 42 (f29 12)) 13 (f29 12)) w30)
      (Q28 (.exit 2) (F.upd (F.upd (F.upd f29 37 (f29 12)) 38 (f29 8)) 39 t31) w30))
     (blockQ 2 (blockQ 1 (seqQ (fun f55 w56 =>
    Rd Try.prog (WS.at w56) (sBin .add 3 true (f55 33) (.int .i64 1)) fun t57 =>
    Q22 .normal (F.upd (F.upd f55 62 t57) 33 t57) w56) Q22)))
     (F.upd (F.upd (F.upd (F.upd (F.upd f23 34 t25) 35 t26) 36 t27) 11 t27) 12 (.int .i64 0)) w24)
    (Q22 (.exit 0) (F.upd f23 34 t25) w24))
   (blockQ 0 (seqQ (fun f58 w59 =>
  k (.tuple #[(f58 9), (.bool true)]) w59) (bodyQ Try.prog [.tmp 6, .tmp 7] k)))
   (F.upd (F.upd (F.upd (F.upd (F.upd (F.upd (F.upd (F.upd (F.upd (F.upd (F.upd (F.upd (F.upd (F.upd (F.upd (F.upd (F.upd (F.upd (F.upd (F.upd (F.upd (F.upd (F.upd (F.upd (initF [v0, v1, v2]) 3 t1) 6 (.slice none 0 0)) 7 (.bool false)) 15 t3) 16 v1) 17 t4) 18 t6) 19 t6) 20 t7) 21 t9) 22 t11) 23 t13) 24 t15) 25 v2) 26 t16) 27 t17) 8 t17) 9 (.slice none 0 0)) 28 t18) 29 v1) 30 v2) 31 t19) 32 t21) 33 (.int .i64 0)) w20) w14)) w12) w10) w8) w5) w2) w
theorem body57 : Try.f57.body = some (bodyOf Try.f57) := by kernel_rfl
theorem same57 (v0 v1 v2 : Value) (k : Value → World → Prop) (w : World) : wpF Try.prog pl57 (bodyOf Try.f57) (bodyQ Try.prog Try.f57.results.toList k) (initF [v0, v1, v2]) w = S57 v0 v1 v2 k w := by kernel_rfl
theorem enter57 {v0 v1 v2 : Value} {k : Value → World → Prop} {w : World} (h : S57 v0 v1 v2 k w) : CallK Try.prog 57 [v0, v1, v2] k w :=
  call_of_wpF (pl := pl57) mixed Try.func57 body57 (by kernel_rfl) (of_decide_eq_true (by kernel_rfl)) (by kernel_rfl) (by kernel_rfl) (same57 v0 v1 v2 k w ▸ h)

/-! loop.example/g00758/impl.CostTable -/
def pl58 : Plans := fun _ => ⟨false, [], .nil⟩
def S58 (v0 v1 v2 : Value) (k : Value → World → Prop) (w : World) : Prop :=
 Do Try.prog (sBox 37 v0) (fun t1 w2 =>
 Rd Try.prog (WS.at w2) (sLoad 37 t1) fun t3 =>
 CallK Try.prog 114 [t3, v1] (fun t4 w5 =>
 Rd Try.prog (WS.at w5) (sUn .not t4) fun t6 =>
 GuardK t6 false (fun k w' => Rd Try.prog (WS.at w5) (sFieldAddr 37 t1 1) fun v => k v w') (fun t7 w8 =>
 GuardK t6 false (fun k w' => Rd Try.prog (WS.at w8) (sLoad 3 t7) fun v => k v w') (fun t9 w10 =>
 GuardK t6 false (fun k w' => k v2 w') (fun t11 w12 =>
 GuardK t6 false (fun k w' => CallK Try.prog 99 [t9, t11] k w') (fun t13 w14 =>
 GuardK t6 false (fun k w' => Rd Try.prog (WS.at w14) (sUn .not t13) fun v => k v w') (fun t15 w16 =>
 Rd Try.prog (WS.at w16) (sPick t6 (.bool true) t15) fun t17 =>
 CondK t17
  (k (.tuple #[(.slice none 0 0), (.bool false)]) w16)
  (Rd Try.prog (WS.at w16) (sLoad 37 t1) fun t18 =>
  CallK Try.prog 115 [t18, v1, v2] (fun t19 w20 =>
  Do Try.prog (sBuildSlice 22 0 []) (fun t21 w22 =>
  Rd Try.prog (WS.at w22) (sFieldAddr 37 t1 0) fun t23 =>
  Rd Try.prog (WS.at w22) (sLoad 3 t23) fun t24 =>
  LoopF [31, 32, 10, 33, 34, 35, 36, 37, 38, 11, 39, 40, 41, 42, 43, 44, 45, 46, 47, 48, 49, 50, 51, 52, 9, 53, 36, 54, 30] (fun Q25 f26 w27 =>
   Rd Try.prog (WS.at w27) (sBin .lss 3 false (f26 30) (f26 29)) fun t28 =>
   CondK t28
    (Rd Try.prog (WS.at w27) (sBuiltin .len #[22] 3 [false] [(f26 2)]) fun t29 =>
    Rd Try.prog (WS.at w27) (sBin .add 3 true t29 (.int .i64 1)) fun t30 =>
    LoopF [37, 38, 11, 39, 40, 41, 42, 43, 44, 45, 46, 47, 48, 49, 50, 51, 52, 9, 53, 36] (fun Q31 f32 w33 =>
     Rd Try.prog (WS.at w33) (sBin .lss 3 false (f32 36) (f32 35)) fun t34 =>
     CondK t34
      (Rd Try.prog (WS.at w33) (sNilCheck (f32 8)) fun t35 =>
      Rd Try.prog (WS.at w33) (sFieldAddr 125 t35 3) fun t36 =>
      Rd Try.prog (WS.at w33) (sIndexAddr 122 t36 (f32 10)) fun t37 =>
      Rd Try.prog (WS.at w33) (sIndexAddr 121 t37 (f32 36)) fun t38 =>
      Rd Try.prog (WS.at w33) (sBuiltin .len #[22] 3 [false] [(f32 2)]) fun t39 =>
      Rd Try.prog (WS.at w33) (sBin .add 3 true t39 (.int .i64 1)) fun t40 =>
      Rd Try.prog (WS.at w33) (sSlice 120 t38 (some (f32 36)) (some t40) none) fun t41 =>
      Do Try.prog (sBuiltin .append #[22, 22] 22 [false, false] [(f32 9), t41]) (fun t42 w43 =>
      Rd Try.prog (WS.at w43) (sBin .add 3 true (f32 36) (.int .i64 1)) fun t44 =>
      Q31 .normal (F.upd (F.upd (F.upd (F.upd (F.upd (F.upd (F.upd (F.upd (F.upd (F.upd (F.upd (F.upd (F.upd (F.upd (F.upd (F.upd (F.upd (F.upd (F.upd (F.upd f32 37 t34) 38 (f32 36)) 11 (f32 36)) 39 (f32 9)) 40 (f32 8)) 41 (f32 10)) 42 (f32 36)) 43 t35) 44 t36) 45 t37) 46 t38) 47 (f32 36)) 48 (f32 2)) 49 t39) 50 t40) 51 t41) 52 t42) 9 t42) 53 t44) 36 t44) w43) w33)
      (Q31 (.exit 2) (F.upd f32 37 t34) w33))
     (blockQ 2 (blockQ 1 (seqQ (fun f45 w46 =>
    Rd Try.prog (WS.at w46) (sBin .add 3 true (f45 30) (.int .i64 1)) fun t47 =>
    Q25 .normal (F.upd (F.upd f45 54 t47) 30 t47) w46) Q25)))
     (F.upd (F.upd (F.upd (F.upd (F.upd (F.upd (F.upd f26 31 t28) 32 (f26 30)) 10 (f26 30)) 33 (f26 2)) 34 t29) 35 t30) 36 (.int .i64 0)) w27)
    (Q25 (.exit 0) (F.upd f26 31 t28) w27))
   (blockQ 0 (seqQ (fun f48 w49 =>
  k (.tuple #[(f48 9), (.bool true)]) w49) (bodyQ Try.prog [.tmp 6, .tmp 7] k)))
   (F.upd (F.upd (F.upd (F.upd (F.upd (F.upd (F.upd (F.upd (F.upd (F.upd (F.upd (F.upd (F.upd (F.upd (F.upd (F.upd (F.upd (F.upd (F.upd (F.upd (F.upd (F.upd (F.upd (F.upd (initF [v0, v1, v2]) 3 t1) 6 (.slice none 0 0)) 7 (.bool false)) 12 t3) 13 v1) 14 t4) 15 t6) 16 t6) 17 t7) 18 t9) 19 t11) 20 t13) 21 t15) 22 t17) 23 t18) 24 v1) 25 v2) 26 t19) 8 t19) 27 t21) 9 t21) 28 t23) 29 t24) 30 (.int .i64 0)) w22) w20) w16)) w14) w12) w10) w8) w5) w2) w
theorem body58 : Try.f58.body = some (bodyOf Try.f58) := by kernel_rfl
theorem same58 (v0 v1 v2 : Value) (k : Value → World → Prop) (w : World) : wpF Try.prog pl58 (bodyOf Try.f58) (bodyQ Try.prog Try.f58.results.toList k) (initF [v0, v1, v2]) w = S58 v0 v1 v2 k w := by kernel_rfl
theorem enter58 {v0 v1 v2 : Value} {k : Value → World → Prop} {w : World} (h : S58 v0 v1 v2 k w) : CallK Try.prog 58 [v0, v1, v2] k w :=
  call_of_wpF (pl := pl58) mixed Try.func58 body58 (by kernel_rfl) (of_decide_eq_true (by kernel_rfl)) (by kernel_rfl) (by kernel_rfl) (same58 v0 v1 v2 k w ▸ h)

/-! loop.example/g00758/spec.l12Costs -/
def pl111 : Plans := fun _ => ⟨false, [], .nil⟩
def S111 (v0 v1 : Value) (k : Value → World → Prop) (w : World) : Prop :=
 Do Try.prog (sBox 37 v0) (fun t1 w2 =>
 Rd Try.prog (WS.at w2) (sLoad 37 t1) fun t3 =>
 CallK Try.prog 81 [t3] (fun t4 w5 =>
 GuardK t4 true (fun k w' => k v1 w') (fun t6 w7 =>
 GuardK t4 true (fun k w' => Rd Try.prog (WS.at w7) (sBuiltin .len #[22] 3 [false] [t6]) fun v => k v w') (fun t8 w9 =>
 GuardK t4 true (fun k w' => Rd Try.prog (WS.at w9) (sFieldAddr 37 t1 2) fun v => k v w') (fun t10 w11 =>
 GuardK t4 true (fun k w' => Rd Try.prog (WS.at w11) (sLoad 35 t10) fun v => k v w') (fun t12 w13 =>
 GuardK t4 true (fun k w' => Rd Try.prog (WS.at w13) (sBuiltin .len #[35] 3 [false] [t12]) fun v => k v w') (fun t14 w15 =>
 GuardK t4 true (fun k w' => Rd Try.prog (WS.at w15) (sBin .eql 3 false t8 t14) fun v => k v w') (fun t16 w17 =>
 Rd Try.prog (WS.at w17) (sPick t4 t16 (.bool false)) fun t18 =>
 GuardK t18 true (fun k w' => k v1 w') (fun t19 w20 =>
 GuardK t18 true (fun k w' => CallK Try.prog 75 [t19, (.int .i64 1), (.int .i64 100)] k w') (fun t21 w22 =>
 Rd Try.prog (WS.at w22) (sPick t18 t21 (.bool false)) fun t23 =>
 k t23 w22) w20) w17) w15) w13) w11) w9) w7) w5) w2) w
theorem body111 : Try.f111.body = some (bodyOf Try.f111) := by kernel_rfl
theorem same111 (v0 v1 : Value) (k : Value → World → Prop) (w : World) : wpF Try.prog pl111 (bodyOf Try.f111) (bodyQ Try.prog Try.f111.results.toList k) (initF [v0, v1]) w = S111 v0 v1 k w := by kernel_rfl
theorem enter111 {v0 v1 : Value} {k : Value → World → Prop} {w : World} (h : S111 v0 v1 k w) : CallK Try.prog 111 [v0, v1] k w :=
  call_of_wpF (pl := pl111) mixed Try.func111 body111 (by kernel_rfl) (of_decide_eq_true (by kernel_rfl)) (by kernel_rfl) (by kernel_rfl) (same111 v0 v1 k w ▸ h)

/-! loop.example/g00758/spec.l12Table -/
def pl113 : Plans := fun i => match i with
  | 21 => ⟨false, [], .step 0 .any (.step 1 .any (.step 2 .any (.step 3 .any (.step 4 .any (.step 5 .held (.step 6 .any (.step 7 .held (.step 8 .any (.step 9 .any (.step 10 .any (.step 11 .any (.step 12 .any (.step 13 .any (.step 14 .held (.step 15 .any (.step 16 .any (.step 17 .any (.step 18 .any (.step 19 .any (.step 20 .any (.step 21 .held (.step 22 .any (.step 23 .any (.step 24 .any (.step 25 .held (.step 26 .any (.step 27 .held (.step 28 .any (.step 29 .any (.step 30 .any (.step 31 .any (.step 32 .any (.step 33 .any (.step 34 .held (.step 35 .any (.step 36 .any (.step 37 .any (.nil))))))))))))))))))))))))))))))))))))))⟩
  | 22 => ⟨false, [17], .step 0 .any (.step 1 .any (.step 2 .held (.step 3 .any (.step 4 .held (.step 5 .any (.step 6 .any (.step 7 .any (.step 8 .any (.step 9 .any (.step 10 .any (.step 11 .any (.step 12 .any (.step 13 .any (.step 14 .held (.step 15 .any (.step 16 .any (.step 17 .last (.nil))))))))))))))))))⟩
  | _ => ⟨false, [], .nil⟩
def S113 (v0 v1 v2 : Value) (k : Value → World → Prop) (w : World) : Prop :=
 Do Try.prog (sBox 37 v0) (fun t1 w2 =>
 Rd Try.prog (WS.at w2) (sBuiltin .len #[22] 3 [false] [v2]) fun t3 =>
 Rd Try.prog (WS.at w2) (sBin .add 3 true t3 (.int .i64 1)) fun t4 =>
 Rd Try.prog (WS.at w2) (sFieldAddr 37 t1 0) fun t5 =>
 Rd Try.prog (WS.at w2) (sLoad 3 t5) fun t6 =>
 Do Try.prog (sMakeSlice 48 t6 t6) (fun t7 w8 =>
 Rd Try.prog (WS.at w8) (sBuiltin .len #[48] 3 [false] [t7]) fun t9 =>
 LoopF [25, 26, 9, 27, 28, 29, 30, 31, 32, 33, 34, 24] (fun Q10 f11 w12 =>
  Rd Try.prog (WS.at w12) (sBin .lss 3 false (f11 24) (f11 23)) fun t13 =>
  CondK t13
   (Rd Try.prog (WS.at w12) (sBin .mul 3 false (f11 7) (f11 7)) fun t14 =>
   Do Try.prog (sMakeSlice 22 t14 t14) (fun t15 w16 =>
   Rd Try.prog (WS.at w16) (sIndexAddr 48 (f11 8) (f11 24)) fun t17 =>
   Do Try.prog (sStore 22 t17 t15) (fun _ w18 =>
   Rd Try.prog (WS.at w18) (sBin .add 3 true (f11 24) (.int .i64 1)) fun t19 =>
   Q10 .normal (F.upd (F.upd (F.upd (F.upd (F.upd (F.upd (F.upd (F.upd (F.upd (F.upd (F.upd (F.upd f11 25 t13) 26 (f11 24)) 9 (f11 24)) 27 (f11 8)) 28 (f11 24)) 29 (f11 7)) 30 (f11 7)) 31 t14) 32 t15) 33 t17) 34 t19) 24 t19) w18) w16) w12)
   (Q10 (.exit 0) (F.upd f11 25 t13) w12))
  (blockQ 0 (seqQ (fun f20 w21 =>
 LoopF [35, 10, 36, 37, 38, 39, 40, 41, 42, 43, 12, 11, 13, 44, 45, 46, 49, 14, 50, 51, 52, 55, 56, 57, 58, 59, 60, 61, 15, 62, 63, 64, 65, 66, 67, 68, 69, 70, 71, 72, 73, 74, 75, 76, 77, 78, 79, 80, 81, 82, 83, 84, 85, 86, 87, 88, 89, 90, 91, 92, 93, 94, 95, 96, 97, 98, 99, 100, 101, 102, 103, 104, 105, 106, 107, 108, 109, 110, 111, 112, 113, 114, 115, 116, 10, 53, 54, 14, 47, 48, 13, 117, 39] (fun Q22 f23 w24 =>
  CondK (f23 10)
   (Rd Try.prog (WS.at w24) (sFieldAddr 37 (f23 3) 2) fun t25 =>
   Rd Try.prog (WS.at w24) (sLoad 35 t25) fun t26 =>
   Rd Try.prog (WS.at w24) (sBuiltin .len #[35] 3 [false] [t26]) fun t27 =>
   LoopF [40, 41, 42, 43, 12, 11, 13, 44, 45, 46, 49, 14, 50, 51, 52, 55, 56, 57, 58, 59, 60, 61, 15, 62, 63, 64, 65, 66, 67, 68, 69, 70, 71, 72, 73, 74, 75, 76, 77, 78, 79, 80, 81, 82, 83, 84, 85, 86, 87, 88, 89, 90, 91, 92, 93, 94, 95, 96, 97, 98, 99, 100, 101, 102, 103, 104, 105, 106, 107, 108, 109, 110, 111, 112, 113, 114, 115, 116, 10, 53, 54, 14, 47, 48, 13, 117, 39] (fun Q28 f29 w30 =>
    Rd Try.prog (WS.at w30) (sBin .lss 3 false (f29 39) (f29 38)) fun t31 =>
    CondK t31
     (Rd Try.prog (WS.at w30) (sIndexAddr 35 (f29 37) (f29 39)) fun t32 =>
     Rd Try.prog (WS.at w30) (sLoad 77 t32) fun t33 =>
     Do Try.prog (sAlloc 77) (fun t34 w35 =>
     Do Try.prog (sStore 77 t34 t33) (fun _ w36 =>
     LoopF [44, 45, 46, 49, 14, 50, 51, 52, 55, 56, 57, 58, 59, 60, 61, 15, 62, 63, 64, 65, 66, 67, 68, 69, 70, 71, 72, 73, 74, 75, 76, 77, 78, 79, 80, 81, 82, 83, 84, 85, 86, 87, 88, 89, 90, 91, 92, 93, 94, 95, 96, 97, 98, 99, 100, 101, 102, 103, 104, 105, 106, 107, 108, 109, 110, 111, 112, 113, 114, 115, 116, 10, 53, 54, 14, 47, 48, 13] (fun Q37 f38 w39 =>
      Rd Try.prog (WS.at w39) (sBin .lss 3 false (f38 13) (f38 7)) fun t40 =>
      CondK t40
       (LoopF [50, 51, 52, 55, 56, 57, 58, 59, 60, 61, 15, 62, 63, 64, 65, 66, 67, 68, 69, 70, 71, 72, 73, 74, 75, 76, 77, 78, 79, 80, 81, 82, 83, 84, 85, 86, 87, 88, 89, 90, 91, 92, 93, 94, 95, 96, 97, 98, 99, 100, 101, 102, 103, 104, 105, 106, 107, 108, 109, 110, 111, 112, 113, 114, 115, 116, 10, 53, 54, 14] (fun Q41 f42 w43 =>
        Rd Try.prog (WS.at w43) (sBin .lss 3 false (f42 14) (f42 7)) fun t44 =>
        CondK t44
         (Join (fun K45 =>
         Rd Try.prog (WS.at w43) (sFieldAddr 77 (f42 12) 1) fun t48 =>
         Rd Try.prog (WS.at w43) (sLoad 22 t48) fun t49 =>
         CallK Try.prog 152 [(f42 8), (f42 2), t49, (f42 13), (f42 14)] (fun t50 w51 =>
         Rd Try.prog WS.any (sBin .geq 3 true t50 (.int .i64 0)) fun t52 =>
         GuardK t52 true (fun k w' => k (f42 8) w') (fun t53 w54 =>
         GuardK t52 true (fun k w' => Rd Try.prog WS.any (sFieldAddr 77 (f42 12) 0) fun v => k v w') (fun t55 w56 =>
         GuardK t52 true (fun k w' => Rd Try.prog (WS.at w51.drew) (sLoad 3 t55) fun v => k v w') (fun t57 w58 =>
         GuardK t52 true (fun k w' => Rd Try.prog WS.any (sIndexAddr 48 t53 t57) fun v => k v w') (fun t59 w60 =>
         GuardK t52 true (fun k w' => Rd Try.prog (WS.at w51.drew) (sLoad 22 t59) fun v => k v w') (fun t61 w62 =>
         GuardK t52 true (fun k w' => k (f42 13) w') (fun t63 w64 =>
         GuardK t52 true (fun k w' => k (f42 7) w') (fun t65 w66 =>
         GuardK t52 true (fun k w' => Rd Try.prog WS.any (sBin .mul 3 false t63 t65) fun v => k v w') (fun t67 w68 =>
         GuardK t52 true (fun k w' => k (f42 14) w') (fun t69 w70 =>
         GuardK t52 true (fun k w' => Rd Try.prog WS.any (sBin .add 3 false t67 t69) fun v => k v w') (fun t71 w72 =>
         GuardK t52 true (fun k w' => Rd Try.prog WS.any (sIndexAddr 22 t61 t71) fun v => k v w') (fun t73 w74 =>
         GuardK t52 true (fun k w' => Rd Try.prog (WS.at w51.drew) (sLoad 3 t73) fun v => k v w') (fun t75 w76 =>
         GuardK t52 true (fun k w' => Rd Try.prog WS.any (sBin .eql 3 true t75 (.int .i64 0)) fun v => k v w') (fun t77 w78 =>
         GuardK t52 true (fun k w' => k t77 w') (fun t79 w80 =>
         GuardK t79 false (fun k w' => k t50 w') (fun t81 w82 =>
         GuardK t79 false (fun k w' => k (f42 1) w') (fun t83 w84 =>
         GuardK t79 false (fun k w' => k (f42 11) w') (fun t85 w86 =>
         GuardK t79 false (fun k w' => Rd Try.prog WS.any (sIndexAddr 22 t83 t85) fun v => k v w') (fun t87 w88 =>
         GuardK t79 false (fun k w' => Rd Try.prog (WS.at w51.drew) (sLoad 3 t87) fun v => k v w') (fun t89 w90 =>
         GuardK t79 false (fun k w' => Rd Try.prog WS.any (sBin .add 3 false t81 t89) fun v => k v w') (fun t91 w92 =>
         GuardK t79 false (fun k w' => k (f42 8) w') (fun t93 w94 =>
         GuardK t79 false (fun k w' => Rd Try.prog WS.any (sFieldAddr 77 (f42 12) 0) fun v => k v w') (fun t95 w96 =>
         GuardK t79 false (fun k w' => Rd Try.prog (WS.at w51.drew) (sLoad 3 t95) fun v => k v w') (fun t97 w98 =>
         GuardK t79 false (fun k w' => Rd Try.prog WS.any (sIndexAddr 48 t93 t97) fun v => k v w') (fun t99 w100 =>
         GuardK t79 false (fun k w' => Rd Try.prog (WS.at w51.drew) (sLoad 22 t99) fun v => k v w') (fun t101 w102 =>
         GuardK t79 false (fun k w' => k (f42 13) w') (fun t103 w104 =>
         GuardK t79 false (fun k w' => k (f42 7) w') (fun t105 w106 =>
         GuardK t79 false (fun k w' => Rd Try.prog WS.any (sBin .mul 3 false t103 t105) fun v => k v w') (fun t107 w108 =>
         GuardK t79 false (fun k w' => k (f42 14) w') (fun t109 w110 =>
         GuardK t79 false (fun k w' => Rd Try.prog WS.any (sBin .add 3 false t107 t109) fun v => k v w') (fun t111 w112 =>
         GuardK t79 false (fun k w' => Rd Try.prog WS.any (sIndexAddr 22 t101 t111) fun v => k v w') (fun t113 w114 =>
         GuardK t79 false (fun k w' => Rd Try.prog (WS.at w51.drew) (sLoad 3 t113) fun v => k v w') (fun t115 w116 =>
         GuardK t79 false (fun k w' => Rd Try.prog WS.any (sBin .lss 3 false t91 t115) fun v => k v w') (fun t117 w118 =>
         GuardK t52 true (fun k w' => Rd Try.prog WS.any (sPick t79 (.bool true) t117) fun v => k v w') (fun t119 w120 =>
         Rd Try.prog WS.any (sPick t52 t119 (.bool false)) fun t121 =>
         CondK t121
          (Rd Try.prog WS.any (sFieldAddr 77 (f42 12) 0) fun t122 =>
          Rd Try.prog (WS.at w120.drew) (sLoad 3 t122) fun t123 =>
          Rd Try.prog WS.any (sIndexAddr 48 (f42 8) t123) fun t124 =>
          Rd Try.prog (WS.at w120.drew) (sLoad 22 t124) fun t125 =>
          Rd Try.prog WS.any (sBin .mul 3 false (f42 13) (f42 7)) fun t126 =>
          Rd Try.prog WS.any (sBin .add 3 false t126 (f42 14)) fun t127 =>
          Rd Try.prog WS.any (sIndexAddr 22 (f42 1) (f42 11)) fun t128 =>
          Rd Try.prog (WS.at w120.drew) (sLoad 3 t128) fun t129 =>
          Rd Try.prog WS.any (sBin .add 3 false t50 t129) fun t130 =>
          Rd Try.prog WS.any (sIndexAddr 22 t125 t127) fun t131 =>
          Do Try.prog (sStore 3 t131 t130) (fun _ w132 =>
          K45 (F.upd (F.upd (F.upd (F.upd (F.upd (F.upd (F.upd (F.upd (F.upd (F.upd (F.upd (F.upd (F.upd (F.upd (F.upd (F.upd (F.upd (F.upd (F.upd (F.upd (F.upd (F.upd (F.upd (F.upd (F.upd (F.upd (F.upd (F.upd (F.upd (F.upd (F.upd (F.upd (F.upd (F.upd (F.upd (F.upd (F.upd (F.upd (F.upd (F.upd (F.upd (F.upd (F.upd (F.upd (F.upd (F.upd (F.upd (F.upd (F.upd (F.upd (F.upd (F.upd (F.upd (F.upd (F.upd (F.upd (F.upd (F.upd (F.upd (F.upd (F.upd (F.upd (F.upd (F.upd (F.upd (F.upd (F.upd f42 50 (f42 14)) 51 (f42 7)) 52 t44) 55 (f42 8)) 56 (f42 2)) 57 t48) 58 t49) 59 (f42 13)) 60 (f42 14)) 61 t50) 15 t50) 62 t50) 63 t52) 64 t52) 65 t53) 66 t55) 67 t57) 68 t59) 69 t61) 70 t63) 71 t65) 72 t67) 73 t69) 74 t71) 75 t73) 76 t75) 77 t77) 78 t79) 79 t81) 80 t83) 81 t85) 82 t87) 83 t89) 84 t91) 85 t93) 86 t95) 87 t97) 88 t99) 89 t101) 90 t103) 91 t105) 92 t107) 93 t109) 94 t111) 95 t113) 96 t115) 97 t117) 98 t119) 99 t121) 100 (f42 8)) 101 t122) 102 t123) 103 t124) 104 t125) 105 (f42 13)) 106 (f42 7)) 107 t126) 108 (f42 14)) 109 t127) 110 t50) 111 (f42 1)) 112 (f42 11)) 113 t128) 114 t129) 115 t130) 116 t131) 10 (.bool true)) w132) w120.drew)
          (K45 (F.upd (F.upd (F.upd (F.upd (F.upd (F.upd (F.upd (F.upd (F.upd (F.upd (F.upd (F.upd (F.upd (F.upd (F.upd (F.upd (F.upd (F.upd (F.upd (F.upd (F.upd (F.upd (F.upd (F.upd (F.upd (F.upd (F.upd (F.upd (F.upd (F.upd (F.upd (F.upd (F.upd (F.upd (F.upd (F.upd (F.upd (F.upd (F.upd (F.upd (F.upd (F.upd (F.upd (F.upd (F.upd (F.upd (F.upd (F.upd (F.upd f42 50 (f42 14)) 51 (f42 7)) 52 t44) 55 (f42 8)) 56 (f42 2)) 57 t48) 58 t49) 59 (f42 13)) 60 (f42 14)) 61 t50) 15 t50) 62 t50) 63 t52) 64 t52) 65 t53) 66 t55) 67 t57) 68 t59) 69 t61) 70 t63) 71 t65) 72 t67) 73 t69) 74 t71) 75 t73) 76 t75) 77 t77) 78 t79) 79 t81) 80 t83) 81 t85) 82 t87) 83 t89) 84 t91) 85 t93) 86 t95) 87 t97) 88 t99) 89 t101) 90 t103) 91 t105) 92 t107) 93 t109) 94 t111) 95 t113) 96 t115) 97 t117) 98 t119) 99 t121) w120)) w118) w116) w114) w112) w110) w108) w106) w104) w102) w100) w98) w96) w94) w92) w90) w88) w86) w84) w82) w80) w78) w76) w74) w72) w70) w68) w66) w64) w62) w60) w58) w56) w54) w51.drew) w43) (fun f46 w47 =>
         Rd Try.prog (WS.at w47) (sBin .add 3 true (f46 14) (.int .i64 1)) fun t133 =>
         Q41 .normal (F.upd (F.upd (F.upd f46 53 (f46 14)) 54 t133) 14 t133) w47))
         (Q41 (.exit 8) (F.upd (F.upd (F.upd f42 50 (f42 14)) 51 (f42 7)) 52 t44) w43))
        (blockQ 8 (blockQ 7 (seqQ (fun f134 w135 =>
       Rd Try.prog (WS.at w135) (sBin .add 3 true (f134 13) (.int .i64 1)) fun t136 =>
       Q37 .normal (F.upd (F.upd (F.upd f134 47 (f134 13)) 48 t136) 13 t136) w135) Q37)))
        (F.upd (F.upd (F.upd (F.upd (F.upd f38 44 (f38 13)) 45 (f38 7)) 46 t40) 49 (f38 13)) 14 (f38 13)) w39)
       (Q37 (.exit 6) (F.upd (F.upd (F.upd f38 44 (f38 13)) 45 (f38 7)) 46 t40) w39))
      (blockQ 6 (blockQ 5 (seqQ (fun f137 w138 =>
     Rd Try.prog (WS.at w138) (sBin .add 3 true (f137 39) (.int .i64 1)) fun t139 =>
     Q28 .normal (F.upd (F.upd f137 117 t139) 39 t139) w138) Q28)))
      (F.upd (F.upd (F.upd (F.upd (F.upd (F.upd (F.upd f29 40 t31) 41 (f29 39)) 42 t32) 43 t33) 12 t34) 11 (f29 39)) 13 (.int .i64 0)) w36) w35) w30)
     (Q28 (.exit 4) (F.upd f29 40 t31) w30))
    (blockQ 4 (blockQ 3 Q22))
    (F.upd (F.upd (F.upd (F.upd (F.upd (F.upd f23 35 (f23 10)) 10 (.bool false)) 36 t25) 37 t26) 38 t27) 39 (.int .i64 0)) w24)
   (Q22 (.exit 2) (F.upd f23 35 (f23 10)) w24))
  (blockQ 2 (seqQ (fun f140 w141 =>
 k (f140 8) w141) (bodyQ Try.prog [.tmp 6] k)))
  (F.upd f20 10 (.bool true)) w21) (bodyQ Try.prog [.tmp 6] k)))
  (F.upd (F.upd (F.upd (F.upd (F.upd (F.upd (F.upd (F.upd (F.upd (F.upd (F.upd (F.upd (F.upd (initF [v0, v1, v2]) 3 t1) 6 (.slice none 0 0)) 16 v2) 17 t3) 18 t4) 7 t4) 19 t5) 20 t6) 21 t7) 8 t7) 22 t7) 23 t9) 24 (.int .i64 0)) w8) w2) w
theorem body113 : Try.f113.body = some (bodyOf Try.f113) := by kernel_rfl
theorem same113 (v0 v1 v2 : Value) (k : Value → World → Prop) (w : World) : wpF Try.prog pl113 (bodyOf Try.f113) (bodyQ Try.prog Try.f113.results.toList k) (initF [v0, v1, v2]) w = S113 v0 v1 v2 k w := by kernel_rfl
theorem enter113 {v0 v1 v2 : Value} {k : Value → World → Prop} {w : World} (h : S113 v0 v1 v2 k w) : CallK Try.prog 113 [v0, v1, v2] k w :=
  call_of_wpF (pl := pl113) mixed Try.func113 body113 (by kernel_rfl) (of_decide_eq_true (by kernel_rfl)) (by kernel_rfl) (by kernel_rfl) (same113 v0 v1 v2 k w ▸ h)

/-! loop.example/g00758/impl.areCosts -/
def pl114 : Plans := fun _ => ⟨false, [], .nil⟩
def S114 (v0 v1 : Value) (k : Value → World → Prop) (w : World) : Prop :=
 Do Try.prog (sBox 37 v0) (fun t1 w2 =>
 Rd Try.prog (WS.at w2) (sLoad 37 t1) fun t3 =>
 CallK Try.prog 84 [t3] (fun t4 w5 =>
 GuardK t4 true (fun k w' => k v1 w') (fun t6 w7 =>
 GuardK t4 true (fun k w' => Rd Try.prog (WS.at w7) (sBuiltin .len #[22] 3 [false] [t6]) fun v => k v w') (fun t8 w9 =>
 GuardK t4 true (fun k w' => Rd Try.prog (WS.at w9) (sFieldAddr 37 t1 2) fun v => k v w') (fun t10 w11 =>
 GuardK t4 true (fun k w' => Rd Try.prog (WS.at w11) (sLoad 35 t10) fun v => k v w') (fun t12 w13 =>
 GuardK t4 true (fun k w' => Rd Try.prog (WS.at w13) (sBuiltin .len #[35] 3 [false] [t12]) fun v => k v w') (fun t14 w15 =>
 GuardK t4 true (fun k w' => Rd Try.prog (WS.at w15) (sBin .eql 3 false t8 t14) fun v => k v w') (fun t16 w17 =>
 Rd Try.prog (WS.at w17) (sPick t4 t16 (.bool false)) fun t18 =>
 GuardK t18 true (fun k w' => k v1 w') (fun t19 w20 =>
 GuardK t18 true (fun k w' => CallK Try.prog 129 [t19, (.func (.func 153) #[] #[])] k w') (fun t21 w22 =>
 GuardK t18 true (fun k w' => Rd Try.prog (WS.at w22) (sUn .not t21) fun v => k v w') (fun t23 w24 =>
 Rd Try.prog (WS.at w24) (sPick t18 t23 (.bool false)) fun t25 =>
 k t25 w24) w22) w20) w17) w15) w13) w11) w9) w7) w5) w2) w
theorem body114 : Try.f114.body = some (bodyOf Try.f114) := by kernel_rfl
theorem same114 (v0 v1 : Value) (k : Value → World → Prop) (w : World) : wpF Try.prog pl114 (bodyOf Try.f114) (bodyQ Try.prog Try.f114.results.toList k) (initF [v0, v1]) w = S114 v0 v1 k w := by kernel_rfl
theorem enter114 {v0 v1 : Value} {k : Value → World → Prop} {w : World} (h : S114 v0 v1 k w) : CallK Try.prog 114 [v0, v1] k w :=
  call_of_wpF (pl := pl114) mixed Try.func114 body114 (by kernel_rfl) (of_decide_eq_true (by kernel_rfl)) (by kernel_rfl) (by kernel_rfl) (same114 v0 v1 k w ▸ h)

/-! (loop.example/g00758/impl.Grammar).costs -/
def pl115 : Plans := fun i => match i with
  | 28 => ⟨false, [], .step 0 .any (.step 1 .any (.step 2 .held (.step 3 .any (.step 4 .any (.step 5 .any (.step 6 .any (.step 7 .any (.step 8 .any (.step 9 .any (.step 10 .any (.nil)))))))))))⟩
  | 29 => ⟨false, [], .step 0 .any (.step 1 .any (.step 2 .any (.step 3 .any (.step 4 .any (.step 5 .held (.step 6 .any (.step 7 .any (.step 8 .any (.step 9 .any (.step 10 .any (.step 11 .any (.step 12 .held (.step 13 .any (.step 14 .any (.step 15 .any (.step 16 .held (.step 17 .any (.step 18 .any (.step 19 .any (.nil))))))))))))))))))))⟩
  | _ => ⟨false, [], .nil⟩
def S115 (v0 v1 v2 : Value) (k : Value → World → Prop) (w : World) : Prop :=
 Do Try.prog (sBox 37 v0) (fun t1 w2 =>
 Rd Try.prog (WS.at w2) (sLoad 37 t1) fun t3 =>
 Do Try.prog (sMakeMap 123) (fun t4 w5 =>
 Rd Try.prog (WS.at w5) (sBuild 125 [(0, t3), (1, v2), (2, v1), (4, t4)]) fun t6 =>
 Do Try.prog (sBox 125 t6) (fun t7 w8 =>
 LoopF [25, 26, 8, 27, 28, 29, 9, 30, 31, 32, 10, 33, 34, 35, 36, 37, 38, 39, 40, 41, 42, 30, 43, 27, 44, 24] (fun Q9 f10 w11 =>
  Rd Try.prog (WS.at w11) (sBin .lss 3 true (f10 24) (.int .i64 6)) fun t12 =>
  CondK t12
   (LoopF [28, 29, 9, 30, 31, 32, 10, 33, 34, 35, 36, 37, 38, 39, 40, 41, 42, 30, 43, 27] (fun Q13 f14 w15 =>
    Rd Try.prog (WS.at w15) (sBin .lss 3 true (f14 27) (.int .i64 11)) fun t16 =>
    CondK t16
     (LoopF [31, 32, 10, 33, 34, 35, 36, 37, 38, 39, 40, 41, 42, 30] (fun Q17 f18 w19 =>
      Rd Try.prog (WS.at w19) (sBin .lss 3 true (f18 30) (.int .i64 11)) fun t20 =>
      CondK t20
       (Rd Try.prog (WS.at w19) (sNilCheck (f18 7)) fun t21 =>
       Rd Try.prog (WS.at w19) (sFieldAddr 125 t21 3) fun t22 =>
       Rd Try.prog (WS.at w19) (sIndexAddr 122 t22 (f18 8)) fun t23 =>
       Rd Try.prog (WS.at w19) (sIndexAddr 121 t23 (f18 9)) fun t24 =>
       Rd Try.prog (WS.at w19) (sIndexAddr 120 t24 (f18 30)) fun t25 =>
       Do Try.prog (sStore 3 t25 (.int .i64 (-1))) (fun _ w26 =>
       Rd Try.prog (WS.at w26) (sBin .add 3 true (f18 30) (.int .i64 1)) fun t27 =>
       Q17 .normal (F.upd (F.upd (F.upd (F.upd (F.upd (F.upd (F.upd (F.upd (F.upd (F.upd (F.upd (F.upd (F.upd (F.upd f18 31 t20) 32 (f18 30)) 10 (f18 30)) 33 (f18 7)) 34 (f18 8)) 35 (f18 9)) 36 (f18 30)) 37 t21) 38 t22) 39 t23) 40 t24) 41 t25) 42 t27) 30 t27) w26) w19)
       (Q17 (.exit 4) (F.upd f18 31 t20) w19))
      (blockQ 4 (blockQ 3 (seqQ (fun f28 w29 =>
     Rd Try.prog (WS.at w29) (sBin .add 3 true (f28 27) (.int .i64 1)) fun t30 =>
     Q13 .normal (F.upd (F.upd f28 43 t30) 27 t30) w29) Q13)))
      (F.upd (F.upd (F.upd (F.upd f14 28 t16) 29 (f14 27)) 9 (f14 27)) 30 (.int .i64 0)) w15)
     (Q13 (.exit 2) (F.upd f14 28 t16) w15))
    (blockQ 2 (blockQ 1 (seqQ (fun f31 w32 =>
   Rd Try.prog (WS.at w32) (sBin .add 3 true (f31 24) (.int .i64 1)) fun t33 =>
   Q9 .normal (F.upd (F.upd f31 44 t33) 24 t33) w32) Q9)))
    (F.upd (F.upd (F.upd (F.upd f10 25 t12) 26 (f10 24)) 8 (f10 24)) 27 (.int .i64 0)) w11)
   (Q9 (.exit 0) (F.upd f10 25 t12) w11))
  (blockQ 0 (seqQ (fun f34 w35 =>
 LoopF [45, 11, 46, 47, 48, 49, 50, 51, 52, 53, 13, 12, 54, 55, 56, 57, 58, 59, 14, 60, 15, 61, 62, 63, 64, 67, 68, 69, 70, 71, 72, 16, 73, 74, 75, 76, 77, 78, 79, 80, 81, 82, 17, 83, 84, 85, 86, 87, 88, 89, 90, 91, 92, 93, 94, 95, 96, 97, 98, 99, 100, 101, 102, 103, 104, 105, 106, 107, 108, 109, 110, 11, 65, 66, 15, 111, 57, 112, 49] (fun Q36 f37 w38 =>
  CondK (f37 11)
   (Rd Try.prog (WS.at w38) (sFieldAddr 37 (f37 3) 2) fun t39 =>
   Rd Try.prog (WS.at w38) (sLoad 35 t39) fun t40 =>
   Rd Try.prog (WS.at w38) (sBuiltin .len #[35] 3 [false] [t40]) fun t41 =>
   LoopF [50, 51, 52, 53, 13, 12, 54, 55, 56, 57, 58, 59, 14, 60, 15, 61, 62, 63, 64, 67, 68, 69, 70, 71, 72, 16, 73, 74, 75, 76, 77, 78, 79, 80, 81, 82, 17, 83, 84, 85, 86, 87, 88, 89, 90, 91, 92, 93, 94, 95, 96, 97, 98, 99, 100, 101, 102, 103, 104, 105, 106, 107, 108, 109, 110, 11, 65, 66, 15, 111, 57, 112, 49] (fun Q42 f43 w44 =>
    Rd Try.prog (WS.at w44) (sBin .lss 3 false (f43 49) (f43 48)) fun t45 =>
    CondK t45
     (Rd Try.prog (WS.at w44) (sIndexAddr 35 (f43 47) (f43 49)) fun t46 =>
     Rd Try.prog (WS.at w44) (sLoad 77 t46) fun t47 =>
     Do Try.prog (sAlloc 77) (fun t48 w49 =>
     Do Try.prog (sStore 77 t48 t47) (fun _ w50 =>
     Rd Try.prog (WS.at w50) (sBuiltin .len #[22] 3 [false] [(f43 2)]) fun t51 =>
     Rd Try.prog (WS.at w50) (sBin .add 3 true t51 (.int .i64 1)) fun t52 =>
     LoopF [58, 59, 14, 60, 15, 61, 62, 63, 64, 67, 68, 69, 70, 71, 72, 16, 73, 74, 75, 76, 77, 78, 79, 80, 81, 82, 17, 83, 84, 85, 86, 87, 88, 89, 90, 91, 92, 93, 94, 95, 96, 97, 98, 99, 100, 101, 102, 103, 104, 105, 106, 107, 108, 109, 110, 11, 65, 66, 15, 111, 57] (fun Q53 f54 w55 =>
      Rd Try.prog (WS.at w55) (sBin .lss 3 false (f54 57) (f54 56)) fun t56 =>
      CondK t56
       (LoopF [61, 62, 63, 64, 67, 68, 69, 70, 71, 72, 16, 73, 74, 75, 76, 77, 78, 79, 80, 81, 82, 17, 83, 84, 85, 86, 87, 88, 89, 90, 91, 92, 93, 94, 95, 96, 97, 98, 99, 100, 101, 102, 103, 104, 105, 106, 107, 108, 109, 110, 11, 65, 66, 15] (fun Q57 f58 w59 =>
        Rd Try.prog (WS.at w59) (sBuiltin .len #[22] 3 [false] [(f58 2)]) fun t60 =>
        Rd Try.prog (WS.at w59) (sBin .leq 3 false (f58 15) t60) fun t61 =>
        CondK t61
         (Join (fun K62 =>
         Rd Try.prog (WS.at w59) (sFieldAddr 77 (f58 13) 1) fun t65 =>
         Rd Try.prog (WS.at w59) (sLoad 22 t65) fun t66 =>
         CallK Try.prog 154 [(f58 7), t66, (f58 14), (f58 15)] (fun t67 w68 =>
         Rd Try.prog WS.any (sFieldAddr 77 (f58 13) 0) fun t69 =>
         Rd Try.prog (WS.at w68.drew) (sLoad 3 t69) fun t70 =>
         Rd Try.prog WS.any (sNilCheck (f58 7)) fun t71 =>
         Rd Try.prog WS.any (sFieldAddr 125 t71 3) fun t72 =>
         Rd Try.prog WS.any (sIndexAddr 122 t72 t70) fun t73 =>
         Rd Try.prog WS.any (sIndexAddr 121 t73 (f58 14)) fun t74 =>
         Rd Try.prog WS.any (sIndexAddr 120 t74 (f58 15)) fun t75 =>
         Rd Try.prog WS.any (sBin .geq 3 true t67 (.int .i64 0)) fun t76 =>
         GuardK t76 true (fun k w' => k t75 w') (fun t77 w78 =>
         GuardK t76 true (fun k w' => Rd Try.prog WS.any (sNilCheck t77) fun v => k v w') (fun t79 w80 =>
         GuardK t76 true (fun k w' => Rd Try.prog (WS.at w68.drew.drew) (sLoad 3 t79) fun v => k v w') (fun t81 w82 =>
         GuardK t76 true (fun k w' => Rd Try.prog WS.any (sBin .lss 3 true t81 (.int .i64 0)) fun v => k v w') (fun t83 w84 =>
         GuardK t76 true (fun k w' => k t83 w') (fun t85 w86 =>
         GuardK t85 false (fun k w' => k t67 w') (fun t87 w88 =>
         GuardK t85 false (fun k w' => k (f58 1) w') (fun t89 w90 =>
         GuardK t85 false (fun k w' => k (f58 12) w') (fun t91 w92 =>
         GuardK t85 false (fun k w' => Rd Try.prog WS.any (sIndexAddr 22 t89 t91) fun v => k v w') (fun t93 w94 =>
         GuardK t85 false (fun k w' => Rd Try.prog (WS.at w68.drew.drew) (sLoad 3 t93) fun v => k v w') (fun t95 w96 =>
         GuardK t85 false (fun k w' => Rd Try.prog WS.any (sBin .add 3 false t87 t95) fun v => k v w') (fun t97 w98 =>
         GuardK t85 false (fun k w' => k t75 w') (fun t99 w100 =>
         GuardK t85 false (fun k w' => Rd Try.prog WS.any (sNilCheck t99) fun v => k v w') (fun t101 w102 =>
         GuardK t85 false (fun k w' => Rd Try.prog (WS.at w68.drew.drew) (sLoad 3 t101) fun v => k v w') (fun t103 w104 =>
         GuardK t85 false (fun k w' => Rd Try.prog WS.any (sBin .lss 3 false t97 t103) fun v => k v w') (fun t105 w106 =>
         GuardK t76 true (fun k w' => Rd Try.prog WS.any (sPick t85 (.bool true) t105) fun v => k v w') (fun t107 w108 =>
         Rd Try.prog WS.any (sPick t76 t107 (.bool false)) fun t109 =>
         CondK t109
          (Rd Try.prog (WS.at w108) (sIndexAddr 22 (f58 1) (f58 12)) fun t110 =>
          Rd Try.prog (WS.at w108) (sLoad 3 t110) fun t111 =>
          Rd Try.prog (WS.at w108) (sBin .add 3 false t67 t111) fun t112 =>
          Rd Try.prog (WS.at w108) (sNilCheck t75) fun t113 =>
          Do Try.prog (sStore 3 t113 t112) (fun _ w114 =>
          K62 (F.upd (F.upd (F.upd (F.upd (F.upd (F.upd (F.upd (F.upd (F.upd (F.upd (F.upd (F.upd (F.upd (F.upd (F.upd (F.upd (F.upd (F.upd (F.upd (F.upd (F.upd (F.upd (F.upd (F.upd (F.upd (F.upd (F.upd (F.upd (F.upd (F.upd (F.upd (F.upd (F.upd (F.upd (F.upd (F.upd (F.upd (F.upd (F.upd (F.upd (F.upd (F.upd (F.upd (F.upd (F.upd (F.upd (F.upd (F.upd (F.upd (F.upd (F.upd f58 61 (f58 15)) 62 (f58 2)) 63 t60) 64 t61) 67 (f58 7)) 68 t65) 69 t66) 70 (f58 14)) 71 (f58 15)) 72 t67) 16 t67) 73 (f58 7)) 74 t69) 75 t70) 76 (f58 14)) 77 (f58 15)) 78 t71) 79 t72) 80 t73) 81 t74) 82 t75) 17 t75) 83 t67) 84 t76) 85 t76) 86 t77) 87 t79) 88 t81) 89 t83) 90 t85) 91 t87) 92 t89) 93 t91) 94 t93) 95 t95) 96 t97) 97 t99) 98 t101) 99 t103) 100 t105) 101 t107) 102 t109) 103 t75) 104 t67) 105 (f58 1)) 106 (f58 12)) 107 t110) 108 t111) 109 t112) 110 t113) 11 (.bool true)) w114) w108)
          (K62 (F.upd (F.upd (F.upd (F.upd (F.upd (F.upd (F.upd (F.upd (F.upd (F.upd (F.upd (F.upd (F.upd (F.upd (F.upd (F.upd (F.upd (F.upd (F.upd (F.upd (F.upd (F.upd (F.upd (F.upd (F.upd (F.upd (F.upd (F.upd (F.upd (F.upd (F.upd (F.upd (F.upd (F.upd (F.upd (F.upd (F.upd (F.upd (F.upd (F.upd (F.upd (F.upd f58 61 (f58 15)) 62 (f58 2)) 63 t60) 64 t61) 67 (f58 7)) 68 t65) 69 t66) 70 (f58 14)) 71 (f58 15)) 72 t67) 16 t67) 73 (f58 7)) 74 t69) 75 t70) 76 (f58 14)) 77 (f58 15)) 78 t71) 79 t72) 80 t73) 81 t74) 82 t75) 17 t75) 83 t67) 84 t76) 85 t76) 86 t77) 87 t79) 88 t81) 89 t83) 90 t85) 91 t87) 92 t89) 93 t91) 94 t93) 95 t95) 96 t97) 97 t99) 98 t101) 99 t103) 100 t105) 101 t107) 102 t109) w108)) w106) w104) w102) w100) w98) w96) w94) w92) w90) w88) w86) w84) w82) w80) w78) w68.drew.drew) w59) (fun f63 w64 =>
         Rd Try.prog (WS.at w64) (sBin .add 3 true (f63 15) (.int .i64 1)) fun t115 =>
         Q57 .normal (F.upd (F.upd (F.upd f63 65 (f63 15)) 66 t115) 15 t115) w64))
         (Q57 (.exit 12) (F.upd (F.upd (F.upd (F.upd f58 61 (f58 15)) 62 (f58 2)) 63 t60) 64 t61) w59))
        (blockQ 12 (blockQ 11 (seqQ (fun f116 w117 =>
       Rd Try.prog (WS.at w117) (sBin .add 3 true (f116 57) (.int .i64 1)) fun t118 =>
       Q53 .normal (F.upd (F.upd f116 111 t118) 57 t118) w117) Q53)))
        (F.upd (F.upd (F.upd (F.upd (F.upd f54 58 t56) 59 (f54 57)) 14 (f54 57)) 60 (f54 57)) 15 (f54 57)) w55)
       (Q53 (.exit 10) (F.upd f54 58 t56) w55))
      (blockQ 10 (blockQ 9 (seqQ (fun f119 w120 =>
     Rd Try.prog (WS.at w120) (sBin .add 3 true (f119 49) (.int .i64 1)) fun t121 =>
     Q42 .normal (F.upd (F.upd f119 112 t121) 49 t121) w120) Q42)))
      (F.upd (F.upd (F.upd (F.upd (F.upd (F.upd (F.upd (F.upd (F.upd (F.upd f43 50 t45) 51 (f43 49)) 52 t46) 53 t47) 13 t48) 12 (f43 49)) 54 (f43 2)) 55 t51) 56 t52) 57 (.int .i64 0)) w50) w49) w44)
     (Q42 (.exit 8) (F.upd f43 50 t45) w44))
    (blockQ 8 (blockQ 7 Q36))
    (F.upd (F.upd (F.upd (F.upd (F.upd (F.upd f37 45 (f37 11)) 11 (.bool false)) 46 t39) 47 t40) 48 t41) 49 (.int .i64 0)) w38)
   (Q36 (.exit 6) (F.upd f37 45 (f37 11)) w38))
  (blockQ 6 (seqQ (fun f122 w123 =>
 k (f122 7) w123) (bodyQ Try.prog [.tmp 6] k)))
  (F.upd f34 11 (.bool true)) w35) (bodyQ Try.prog [.tmp 6] k)))
  (F.upd (F.upd (F.upd (F.upd (F.upd (F.upd (F.upd (F.upd (F.upd (F.upd (initF [v0, v1, v2]) 3 t1) 6 (.pointer none)) 18 t3) 19 v2) 20 v1) 21 t4) 22 t6) 23 t7) 7 t7) 24 (.int .i64 0)) w8) w5) w2) w
theorem body115 : Try.f115.body = some (bodyOf Try.f115) := by kernel_rfl
theorem same115 (v0 v1 v2 : Value) (k : Value → World → Prop) (w : World) : wpF Try.prog pl115 (bodyOf Try.f115) (bodyQ Try.prog Try.f115.results.toList k) (initF [v0, v1, v2]) w = S115 v0 v1 v2 k w := by kernel_rfl
theorem enter115 {v0 v1 v2 : Value} {k : Value → World → Prop} {w : World} (h : S115 v0 v1 v2 k w) : CallK Try.prog 115 [v0, v1, v2] k w :=
  call_of_wpF (pl := pl115) mixed Try.func115 body115 (by kernel_rfl) (of_decide_eq_true (by kernel_rfl)) (by kernel_rfl) (by kernel_rfl) (same115 v0 v1 v2 k w ▸ h)

/-! loop.example/g00758/spec.l10Best -/
def pl152 : Plans := fun _ => ⟨false, [], .nil⟩
def S152 (v0 v1 v2 v3 v4 : Value) (k : Value → World → Prop) (w : World) : Prop :=
 Rd Try.prog (WS.at w) (sBuiltin .len #[22] 3 [false] [v2]) fun t1 =>
 Rd Try.prog (WS.at w) (sBin .eql 3 true t1 (.int .i64 0)) fun t2 =>
 CondK t2
  (Rd Try.prog (WS.at w) (sBin .eql 3 false v3 v4) fun t3 =>
  CondK t3
   (k (.int .i64 0) w)
   (k (.int .i64 (-1)) w))
  (Rd Try.prog (WS.at w) (sIndexAddr 22 v2 (.int .i64 0)) fun t4 =>
  Rd Try.prog (WS.at w) (sLoad 3 t4) fun t5 =>
  Rd Try.prog (WS.at w) (sBin .lss 3 true t5 (.int .i64 0)) fun t6 =>
  CondK t6
   (Rd Try.prog (WS.at w) (sBin .lss 3 false v3 v4) fun t7 =>
   GuardK t7 true (fun k w' => k v1 w') (fun t8 w9 =>
   GuardK t7 true (fun k w' => k v3 w') (fun t10 w11 =>
   GuardK t7 true (fun k w' => Rd Try.prog (WS.at w11) (sIndexAddr 22 t8 t10) fun v => k v w') (fun t12 w13 =>
   GuardK t7 true (fun k w' => Rd Try.prog (WS.at w13) (sLoad 3 t12) fun v => k v w') (fun t14 w15 =>
   GuardK t7 true (fun k w' => k t5 w') (fun t16 w17 =>
   GuardK t7 true (fun k w' => Rd Try.prog (WS.at w17) (sBin .sub 3 true (.int .i64 (-1)) t16) fun v => k v w') (fun t18 w19 =>
   GuardK t7 true (fun k w' => Rd Try.prog (WS.at w19) (sBin .eql 3 false t14 t18) fun v => k v w') (fun t20 w21 =>
   Rd Try.prog (WS.at w21) (sPick t7 t20 (.bool false)) fun t22 =>
   CondK t22
    (Rd Try.prog (WS.at w21) (sSlice 22 v2 (some (.int .i64 1)) none none) fun t23 =>
    Rd Try.prog (WS.at w21) (sBin .add 3 true v3 (.int .i64 1)) fun t24 =>
    CallK Try.prog 152 [v0, v1, t23, t24, v4] (fun t25 w26 =>
    k t25 w26) w21)
    (k (.int .i64 (-1)) w21)) w19) w17) w15) w13) w11) w9) w)
   (LoopF [48, 49, 50, 53, 54, 55, 56, 57, 58, 59, 60, 61, 62, 63, 64, 65, 14, 66, 67, 68, 69, 70, 71, 72, 73, 74, 15, 75, 76, 77, 78, 79, 80, 81, 82, 83, 84, 85, 86, 87, 88, 89, 90, 12, 51, 52, 13] (fun Q27 f28 w29 =>
    Rd Try.prog (WS.at w29) (sBin .leq 3 false (f28 13) (f28 4)) fun t30 =>
    CondK t30
     (Join (fun K31 =>
     Rd Try.prog (WS.at w29) (sIndexAddr 48 (f28 0) (f28 11)) fun t34 =>
     Rd Try.prog (WS.at w29) (sLoad 22 t34) fun t35 =>
     Rd Try.prog (WS.at w29) (sBuiltin .len #[22] 3 [false] [(f28 1)]) fun t36 =>
     Rd Try.prog (WS.at w29) (sBin .add 3 true t36 (.int .i64 1)) fun t37 =>
     Rd Try.prog (WS.at w29) (sBin .mul 3 false (f28 3) t37) fun t38 =>
     Rd Try.prog (WS.at w29) (sBin .add 3 false t38 (f28 13)) fun t39 =>
     Rd Try.prog (WS.at w29) (sIndexAddr 22 t35 t39) fun t40 =>
     Rd Try.prog (WS.at w29) (sLoad 3 t40) fun t41 =>
     Rd Try.prog (WS.at w29) (sBin .eql 3 true t41 (.int .i64 0)) fun t42 =>
     CondK t42
      (K31 (F.upd (F.upd (F.upd (F.upd (F.upd (F.upd (F.upd (F.upd (F.upd (F.upd (F.upd (F.upd (F.upd (F.upd (F.upd (F.upd (F.upd (F.upd (F.upd f28 48 (f28 13)) 49 (f28 4)) 50 t30) 53 (f28 0)) 54 (f28 11)) 55 t34) 56 t35) 57 (f28 3)) 58 (f28 1)) 59 t36) 60 t37) 61 t38) 62 (f28 13)) 63 t39) 64 t40) 65 t41) 14 t41) 66 t41) 67 t42) w29)
      (Rd Try.prog (WS.at w29) (sSlice 22 (f28 2) (some (.int .i64 1)) none none) fun t43 =>
      CallK Try.prog 152 [(f28 0), (f28 1), t43, (f28 13), (f28 4)] (fun t44 w45 =>
      Rd Try.prog (WS.at w45) (sBin .geq 3 true t44 (.int .i64 0)) fun t46 =>
      GuardK t46 true (fun k w' => k (f28 12) w') (fun t47 w48 =>
      GuardK t46 true (fun k w' => Rd Try.prog (WS.at w48) (sBin .lss 3 true t47 (.int .i64 0)) fun v => k v w') (fun t49 w50 =>
      GuardK t46 true (fun k w' => k t49 w') (fun t51 w52 =>
      GuardK t51 false (fun k w' => k t41 w') (fun t53 w54 =>
      GuardK t51 false (fun k w' => k t44 w') (fun t55 w56 =>
      GuardK t51 false (fun k w' => Rd Try.prog (WS.at w56) (sBin .add 3 false t53 t55) fun v => k v w') (fun t57 w58 =>
      GuardK t51 false (fun k w' => k (f28 12) w') (fun t59 w60 =>
      GuardK t51 false (fun k w' => Rd Try.prog (WS.at w60) (sBin .lss 3 false t57 t59) fun v => k v w') (fun t61 w62 =>
      GuardK t46 true (fun k w' => Rd Try.prog (WS.at w62) (sPick t51 (.bool true) t61) fun v => k v w') (fun t63 w64 =>
      Rd Try.prog (WS.at w64) (sPick t46 t63 (.bool false)) fun t65 =>
      CondK t65
       (Rd Try.prog (WS.at w64) (sBin .add 3 false t41 t44) fun t66 =>
       K31 (F.upd (F.upd (F.upd (F.upd (F.upd (F.upd (F.upd (F.upd (F.upd (F.upd (F.upd (F.upd (F.upd (F.upd (F.upd (F.upd (F.upd (F.upd (F.upd (F.upd (F.upd (F.upd (F.upd (F.upd (F.upd (F.upd (F.upd (F.upd (F.upd (F.upd (F.upd (F.upd (F.upd (F.upd (F.upd (F.upd (F.upd (F.upd (F.upd (F.upd (F.upd (F.upd (F.upd (F.upd f28 48 (f28 13)) 49 (f28 4)) 50 t30) 53 (f28 0)) 54 (f28 11)) 55 t34) 56 t35) 57 (f28 3)) 58 (f28 1)) 59 t36) 60 t37) 61 t38) 62 (f28 13)) 63 t39) 64 t40) 65 t41) 14 t41) 66 t41) 67 t42) 68 (f28 0)) 69 (f28 1)) 70 (f28 2)) 71 t43) 72 (f28 13)) 73 (f28 4)) 74 t44) 15 t44) 75 t44) 76 t46) 77 t46) 78 t47) 79 t49) 80 t51) 81 t53) 82 t55) 83 t57) 84 t59) 85 t61) 86 t63) 87 t65) 88 t41) 89 t44) 90 t66) 12 t66) w64)
       (K31 (F.upd (F.upd (F.upd (F.upd (F.upd (F.upd (F.upd (F.upd (F.upd (F.upd (F.upd (F.upd (F.upd (F.upd (F.upd (F.upd (F.upd (F.upd (F.upd (F.upd (F.upd (F.upd (F.upd (F.upd (F.upd (F.upd (F.upd (F.upd (F.upd (F.upd (F.upd (F.upd (F.upd (F.upd (F.upd (F.upd (F.upd (F.upd (F.upd (F.upd f28 48 (f28 13)) 49 (f28 4)) 50 t30) 53 (f28 0)) 54 (f28 11)) 55 t34) 56 t35) 57 (f28 3)) 58 (f28 1)) 59 t36) 60 t37) 61 t38) 62 (f28 13)) 63 t39) 64 t40) 65 t41) 14 t41) 66 t41) 67 t42) 68 (f28 0)) 69 (f28 1)) 70 (f28 2)) 71 t43) 72 (f28 13)) 73 (f28 4)) 74 t44) 15 t44) 75 t44) 76 t46) 77 t46) 78 t47) 79 t49) 80 t51) 81 t53) 82 t55) 83 t57) 84 t59) 85 t61) 86 t63) 87 t65) w64)) w62) w60) w58) w56) w54) w52) w50) w48) w45) w29)) (fun f32 w33 =>
     Rd Try.prog (WS.at w33) (sBin .add 3 true (f32 13) (.int .i64 1)) fun t67 =>
     Q27 .normal (F.upd (F.upd (F.upd f32 51 (f32 13)) 52 t67) 13 t67) w33))
     (Q27 (.exit 0) (F.upd (F.upd (F.upd f28 48 (f28 13)) 49 (f28 4)) 50 t30) w29))
    (blockQ 0 (seqQ (fun f68 w69 =>
   k (f68 12) w69) (bodyQ Try.prog [.tmp 10] k)))
    (F.upd (F.upd (F.upd (F.upd (F.upd (F.upd (F.upd (F.upd (F.upd (F.upd (F.upd (F.upd (F.upd (initF [v0, v1, v2, v3, v4]) 10 (.int .i64 0)) 16 v2) 17 t1) 18 t2) 22 v2) 23 t4) 24 t5) 11 t5) 25 t5) 26 t6) 12 (.int .i64 (-1))) 47 v3) 13 v3) w))
theorem body152 : Try.f152.body = some (bodyOf Try.f152) := by kernel_rfl
theorem same152 (v0 v1 v2 v3 v4 : Value) (k : Value → World → Prop) (w : World) : wpF Try.prog pl152 (bodyOf Try.f152) (bodyQ Try.prog Try.f152.results.toList k) (initF [v0, v1, v2, v3, v4]) w = S152 v0 v1 v2 v3 v4 k w := by kernel_rfl
theorem enter152 {v0 v1 v2 v3 v4 : Value} {k : Value → World → Prop} {w : World} (h : S152 v0 v1 v2 v3 v4 k w) : CallK Try.prog 152 [v0, v1, v2, v3, v4] k w :=
  call_of_wpF (pl := pl152) mixed Try.func152 body152 (by kernel_rfl) (of_decide_eq_true (by kernel_rfl)) (by kernel_rfl) (by kernel_rfl) (same152 v0 v1 v2 v3 v4 k w ▸ h)

/-! loop.example/g00758/impl.areCosts$1 -/
def pl153 : Plans := fun _ => ⟨false, [], .nil⟩
def S153 (v0 : Value) (k : Value → World → Prop) (w : World) : Prop :=
 CallK Try.prog 103 [v0, (.int .i64 1), (.int .i64 100)] (fun t1 w2 =>
 Rd Try.prog (WS.at w2) (sUn .not t1) fun t3 =>
 k t3 w2) w
theorem body153 : Try.f153.body = some (bodyOf Try.f153) := by kernel_rfl
theorem same153 (v0 : Value) (k : Value → World → Prop) (w : World) : wpF Try.prog pl153 (bodyOf Try.f153) (bodyQ Try.prog Try.f153.results.toList k) (initF [v0]) w = S153 v0 k w := by kernel_rfl
theorem enter153 {v0 : Value} {k : Value → World → Prop} {w : World} (h : S153 v0 k w) : CallK Try.prog 153 [v0] k w :=
  call_of_wpF (pl := pl153) mixed Try.func153 body153 (by kernel_rfl) (of_decide_eq_true (by kernel_rfl)) (by kernel_rfl) (by kernel_rfl) (same153 v0 k w ▸ h)

/-! (*loop.example/g00758/impl.costing).rest -/
def pl154 : Plans := fun _ => ⟨false, [], .nil⟩
def S154 (v0 v1 v2 v3 : Value) (k : Value → World → Prop) (w : World) : Prop :=
 Rd Try.prog (WS.at w) (sBuiltin .len #[22] 3 [false] [v1]) fun t1 =>
 Rd Try.prog (WS.at w) (sBin .eql 3 true t1 (.int .i64 0)) fun t2 =>
 CondK t2
  (Rd Try.prog (WS.at w) (sBin .eql 3 false v2 v3) fun t3 =>
  CondK t3
   (k (.int .i64 0) w)
   (k (.int .i64 (-1)) w))
  (LoopF [20, 21, 22, 25, 26, 27, 28, 29, 30, 31, 11, 32, 33, 34, 35, 36, 37, 38, 39, 12, 40, 41, 42, 43, 44, 45, 46, 47, 48, 49, 50, 51, 52, 53, 54, 55, 9, 23, 24, 10] (fun Q4 f5 w6 =>
   Rd Try.prog (WS.at w6) (sBin .leq 3 false (f5 10) (f5 3)) fun t7 =>
   CondK t7
    (Join (fun K8 =>
    Rd Try.prog (WS.at w6) (sIndexAddr 22 (f5 1) (.int .i64 0)) fun t11 =>
    Rd Try.prog (WS.at w6) (sLoad 3 t11) fun t12 =>
    CallK Try.prog 184 [(f5 0), t12, (f5 2), (f5 10)] (fun t13 w14 =>
    Rd Try.prog (WS.at w14) (sBin .lss 3 true t13 (.int .i64 0)) fun t15 =>
    CondK t15
     (K8 (F.upd (F.upd (F.upd (F.upd (F.upd (F.upd (F.upd (F.upd (F.upd (F.upd (F.upd (F.upd (F.upd f5 20 (f5 10)) 21 (f5 3)) 22 t7) 25 (f5 0)) 26 (f5 1)) 27 t11) 28 t12) 29 (f5 2)) 30 (f5 10)) 31 t13) 11 t13) 32 t13) 33 t15) w14)
     (Rd Try.prog (WS.at w14) (sSlice 22 (f5 1) (some (.int .i64 1)) none none) fun t16 =>
     CallK Try.prog 154 [(f5 0), t16, (f5 10), (f5 3)] (fun t17 w18 =>
     Rd Try.prog (WS.at w18) (sBin .geq 3 true t17 (.int .i64 0)) fun t19 =>
     GuardK t19 true (fun k w' => k (f5 9) w') (fun t20 w21 =>
     GuardK t19 true (fun k w' => Rd Try.prog (WS.at w21) (sBin .lss 3 true t20 (.int .i64 0)) fun v => k v w') (fun t22 w23 =>
     GuardK t19 true (fun k w' => k t22 w') (fun t24 w25 =>
     GuardK t24 false (fun k w' => k t13 w') (fun t26 w27 =>
     GuardK t24 false (fun k w' => k t17 w') (fun t28 w29 =>
     GuardK t24 false (fun k w' => Rd Try.prog (WS.at w29) (sBin .add 3 false t26 t28) fun v => k v w') (fun t30 w31 =>
     GuardK t24 false (fun k w' => k (f5 9) w') (fun t32 w33 =>
     GuardK t24 false (fun k w' => Rd Try.prog (WS.at w33) (sBin .lss 3 false t30 t32) fun v => k v w') (fun t34 w35 =>
     GuardK t19 true (fun k w' => Rd Try.prog (WS.at w35) (sPick t24 (.bool true) t34) fun v => k v w') (fun t36 w37 =>
     Rd Try.prog (WS.at w37) (sPick t19 t36 (.bool false)) fun t38 =>
     CondK t38
      (Rd Try.prog (WS.at w37) (sBin .add 3 false t13 t17) fun t39 =>
      K8 (F.upd (F.upd (F.upd (F.upd (F.upd (F.upd (F.upd (F.upd (F.upd (F.upd (F.upd (F.upd (F.upd (F.upd (F.upd (F.upd (F.upd (F.upd (F.upd (F.upd (F.upd (F.upd (F.upd (F.upd (F.upd (F.upd (F.upd (F.upd (F.upd (F.upd (F.upd (F.upd (F.upd (F.upd (F.upd (F.upd (F.upd f5 20 (f5 10)) 21 (f5 3)) 22 t7) 25 (f5 0)) 26 (f5 1)) 27 t11) 28 t12) 29 (f5 2)) 30 (f5 10)) 31 t13) 11 t13) 32 t13) 33 t15) 34 (f5 0)) 35 (f5 1)) 36 t16) 37 (f5 10)) 38 (f5 3)) 39 t17) 12 t17) 40 t17) 41 t19) 42 t19) 43 t20) 44 t22) 45 t24) 46 t26) 47 t28) 48 t30) 49 t32) 50 t34) 51 t36) 52 t38) 53 t13) 54 t17) 55 t39) 9 t39) w37)
      (K8 (F.upd (F.upd (F.upd (F.upd (F.upd (F.upd (F.upd (F.upd (F.upd (F.upd (F.upd (F.upd (F.upd (F.upd (F.upd (F.upd (F.upd (F.upd (F.upd (F.upd (F.upd (F.upd (F.upd (F.upd (F.upd (F.upd (F.upd (F.upd (F.upd (F.upd (F.upd (F.upd (F.upd f5 20 (f5 10)) 21 (f5 3)) 22 t7) 25 (f5 0)) 26 (f5 1)) 27 t11) 28 t12) 29 (f5 2)) 30 (f5 10)) 31 t13) 11 t13) 32 t13) 33 t15) 34 (f5 0)) 35 (f5 1)) 36 t16) 37 (f5 10)) 38 (f5 3)) 39 t17) 12 t17) 40 t17) 41 t19) 42 t19) 43 t20) 44 t22) 45 t24) 46 t26) 47 t28) 48 t30) 49 t32) 50 t34) 51 t36) 52 t38) w37)) w35) w33) w31) w29) w27) w25) w23) w21) w18) w14)) w6) (fun f9 w10 =>
    Rd Try.prog (WS.at w10) (sBin .add 3 true (f9 10) (.int .i64 1)) fun t40 =>
    Q4 .normal (F.upd (F.upd (F.upd f9 23 (f9 10)) 24 t40) 10 t40) w10))
    (Q4 (.exit 0) (F.upd (F.upd (F.upd f5 20 (f5 10)) 21 (f5 3)) 22 t7) w6))
   (blockQ 0 (seqQ (fun f41 w42 =>
  k (f41 9) w42) (bodyQ Try.prog [.tmp 8] k)))
   (F.upd (F.upd (F.upd (F.upd (F.upd (F.upd (F.upd (initF [v0, v1, v2, v3]) 8 (.int .i64 0)) 13 v1) 14 t1) 15 t2) 9 (.int .i64 (-1))) 19 v2) 10 v2) w)
theorem body154 : Try.f154.body = some (bodyOf Try.f154) := by kernel_rfl
theorem same154 (v0 v1 v2 v3 : Value) (k : Value → World → Prop) (w : World) : wpF Try.prog pl154 (bodyOf Try.f154) (bodyQ Try.prog Try.f154.results.toList k) (initF [v0, v1, v2, v3]) w = S154 v0 v1 v2 v3 k w := by kernel_rfl
theorem enter154 {v0 v1 v2 v3 : Value} {k : Value → World → Prop} {w : World} (h : S154 v0 v1 v2 v3 k w) : CallK Try.prog 154 [v0, v1, v2, v3] k w :=
  call_of_wpF (pl := pl154) mixed Try.func154 body154 (by kernel_rfl) (of_decide_eq_true (by kernel_rfl)) (by kernel_rfl) (by kernel_rfl) (same154 v0 v1 v2 v3 k w ▸ h)

/-! (*loop.example/g00758/impl.costing).one -/
def pl184 : Plans := fun _ => ⟨false, [], .nil⟩
def S184 (v0 v1 v2 v3 : Value) (k : Value → World → Prop) (w : World) : Prop :=
 Rd Try.prog (WS.at w) (sBin .geq 3 true v1 (.int .i64 0)) fun t1 =>
 CondK t1
  (Rd Try.prog (WS.at w) (sNilCheck v0) fun t2 =>
  Rd Try.prog (WS.at w) (sFieldAddr 125 t2 3) fun t3 =>
  Rd Try.prog (WS.at w) (sIndexAddr 122 t3 v1) fun t4 =>
  Rd Try.prog (WS.at w) (sIndexAddr 121 t4 v2) fun t5 =>
  Rd Try.prog (WS.at w) (sIndexAddr 120 t5 v3) fun t6 =>
  Rd Try.prog (WS.at w) (sLoad 3 t6) fun t7 =>
  k t7 w)
  (Rd Try.prog (WS.at w) (sBin .add 3 true v2 (.int .i64 1)) fun t8 =>
  Rd Try.prog (WS.at w) (sBin .eql 3 false v3 t8) fun t9 =>
  GuardK t9 true (fun k w' => k v0 w') (fun t10 w11 =>
  GuardK t9 true (fun k w' => Rd Try.prog (WS.at w11) (sNilCheck t10) fun v => k v w') (fun t12 w13 =>
  GuardK t9 true (fun k w' => Rd Try.prog (WS.at w13) (sFieldAddr 125 t12 1) fun v => k v w') (fun t14 w15 =>
  GuardK t9 true (fun k w' => Rd Try.prog (WS.at w15) (sLoad 22 t14) fun v => k v w') (fun t16 w17 =>
  GuardK t9 true (fun k w' => k v2 w') (fun t18 w19 =>
  GuardK t9 true (fun k w' => Rd Try.prog (WS.at w19) (sIndexAddr 22 t16 t18) fun v => k v w') (fun t20 w21 =>
  GuardK t9 true (fun k w' => Rd Try.prog (WS.at w21) (sLoad 3 t20) fun v => k v w') (fun t22 w23 =>
  GuardK t9 true (fun k w' => CallK Try.prog 179 [t22] k w') (fun t24 w25 =>
  GuardK t9 true (fun k w' => k v1 w') (fun t26 w27 =>
  GuardK t9 true (fun k w' => Rd Try.prog (WS.at w27) (sBin .eql 3 false t24 t26) fun v => k v w') (fun t28 w29 =>
  Rd Try.prog (WS.at w29) (sPick t9 t28 (.bool false)) fun t30 =>
  CondK t30
   (k (.int .i64 0) w29)
   (k (.int .i64 (-1)) w29)) w27) w25) w23) w21) w19) w17) w15) w13) w11) w)
theorem body184 : Try.f184.body = some (bodyOf Try.f184) := by kernel_rfl
theorem same184 (v0 v1 v2 v3 : Value) (k : Value → World → Prop) (w : World) : wpF Try.prog pl184 (bodyOf Try.f184) (bodyQ Try.prog Try.f184.results.toList k) (initF [v0, v1, v2, v3]) w = S184 v0 v1 v2 v3 k w := by kernel_rfl
theorem enter184 {v0 v1 v2 v3 : Value} {k : Value → World → Prop} {w : World} (h : S184 v0 v1 v2 v3 k w) : CallK Try.prog 184 [v0, v1, v2, v3] k w :=
  call_of_wpF (pl := pl184) mixed Try.func184 body184 (by kernel_rfl) (of_decide_eq_true (by kernel_rfl)) (by kernel_rfl) (by kernel_rfl) (same184 v0 v1 v2 v3 k w ▸ h)

end Go.Proofs.Ytiohaeckagjebaa

/- Contracts: least costs of a row of symbols: the reference's l10Best, the program's one and rest. -/
set_option linter.unusedVariables false
set_option linter.unusedSimpArgs false
set_option maxRecDepth 100000
namespace Go.Sh
open Go
theorem enc0_n : enc0 none = 0 := rfl
theorem enc0_s (n : Nat) : enc0 (some n) = (n : Int) := rfl
theorem one_small {T : CT} {ws : List Int} (hS : SmallG T) {x : Int} {i j a : Nat} (hij : i ≤ j) (hj : j ≤ 10) (h : oneG (tokC ws) T x i j = some a) : a ≤ 100000000 := by
  unfold oneG at h
  split at h
  · have := tokC_small ws _ _ _ _ hij h
    omega
  · exact hS.le hij hj h
end Go.Sh
namespace Go.Proofs.Ytiohaeckagjebaa
open Go Go.Sh Go.RowKit
set_option maxHeartbeats 1600000 in
theorem l10Best_c {ws : List Int} (hl : ws.length ≤ 10) (hw : ∀ t ∈ ws, 0 ≤ t ∧ t ≤ 100) {nons : Nat} (hno : nons ≤ 6) : ∀ (xs : List Int) {w : World} {U W R : Option Addr} {cu cw cr : Nat} {T : CT} {i j : Nat} {k : Value → World → Prop}, TabE enc0 w U nons (ws.length + 1) T → SmallG T → PosG T → Ints w W ws → Ints w R xs → xs.length ≤ cr → xs.length ≤ 4 → (∀ x ∈ xs, -100 ≤ x ∧ x < nons) → i ≤ j → j ≤ ws.length → k (.int .i64 (encM (restG (tokC ws) nl0 T xs i j))) w →
    CallK Try.prog 152 [.slice U nons cu, .slice W ws.length cw, .slice R xs.length cr, .int .i64 i, .int .i64 j] k w := by
  intro xs
  induction xs with
  | nil =>
    intro w U W R cu cw cr T i j k hT hS hP hW hR hcr h4 hx hij hj hk
    refine enter152 ?_
    unfold S152
    simp only [List.length_nil, show (((0 : Nat) : Int) = 0) from rfl, decide_true, go_sem, Nat.reduceEqDiff]
    rw [restG, nl0] at hk
    by_cases hij' : i = j
    · subst hij'
      rw [if_pos rfl] at hk
      simp only [decide_true, go_sem, Nat.reduceEqDiff]
      exact hk
    · rw [if_neg hij'] at hk
      simp only [show ¬ ((i : Int) = (j : Int)) from by omega, decide_false, go_sem, Nat.reduceEqDiff]
      exact hk
  | cons x xs ih =>
    intro w U W R cu cw cr T i j k hT hS hP hW hR hcr h4 hx hij hj hk
    refine enter152 ?_
    unfold S152
    have hxx := hx x (List.mem_cons_self ..)
    have hx' : ∀ y ∈ xs, -100 ≤ y ∧ y < nons := fun y hy => hx y (List.mem_cons_of_mem _ hy)
    rw [List.length_cons] at hcr h4
    have hsub := hR.sub (l := 1) (c := cr) (by simp) (by simp; omega) xs.length
    rw [List.drop_one, List.tail_cons, List.take_length] at hsub
    simp only [show ¬ (((x :: xs).length : Int) = 0) from by rw [List.length_cons]; omega, decide_false, bin_add, bin_sub, bin_mul, bin_eql, bin_neq, bin_lss, bin_leq, bin_gtr, bin_geq, un_not, un_neg, pick_true, pick_false, extract_two_0, extract_two_1, nilCheck_pointer, cond_true', cond_false', guard_tt, guard_ff, guard_tf, guard_ft, guard_undef, seqQ_normal, seqQ_ret, seqQ_exit, blockQ_ret, blockQ_normal, blockQ_exit, bodyQ_ret, bodyQ_normal, resK_nil, resK_tmp, ite_T, ite_F, upd_at, add_plain, add_zero', len22, len35, len48, fa37_0, fa37_1, fa37_2, fa77_0, fa77_1, fa103_0, fa103_1, fa125_0, fa125_1, fa125_2, fa125_3, fa125_4, Nat.reduceEqDiff]
    refine rdi (ix22_0 hR.ptr (by simp)) (rdi (ld3 (hR.cell 0 (by simp))) ?_)
    simp only [List.getD_cons_zero, bin_add, bin_sub, bin_mul, bin_eql, bin_neq, bin_lss, bin_leq, bin_gtr, bin_geq, un_not, un_neg, pick_true, pick_false, extract_two_0, extract_two_1, nilCheck_pointer, cond_true', cond_false', guard_tt, guard_ff, guard_tf, guard_ft, guard_undef, seqQ_normal, seqQ_ret, seqQ_exit, blockQ_ret, blockQ_normal, blockQ_exit, bodyQ_ret, bodyQ_normal, resK_nil, resK_tmp, ite_T, ite_F, upd_at, add_plain, add_zero', len22, len35, len48, fa37_0, fa37_1, fa37_2, fa77_0, fa77_1, fa103_0, fa103_1, fa125_0, fa125_1, fa125_2, fa125_3, fa125_4, Nat.reduceEqDiff]
    by_cases hx0 : x < 0
    · simp only [hx0, decide_true, bin_add, bin_sub, bin_mul, bin_eql, bin_neq, bin_lss, bin_leq, bin_gtr, bin_geq, un_not, un_neg, pick_true, pick_false, extract_two_0, extract_two_1, nilCheck_pointer, cond_true', cond_false', guard_tt, guard_ff, guard_tf, guard_ft, guard_undef, seqQ_normal, seqQ_ret, seqQ_exit, blockQ_ret, blockQ_normal, blockQ_exit, bodyQ_ret, bodyQ_normal, resK_nil, resK_tmp, ite_T, ite_F, upd_at, add_plain, add_zero', len22, len35, len48, fa37_0, fa37_1, fa37_2, fa77_0, fa77_1, fa103_0, fa103_1, fa125_0, fa125_1, fa125_2, fa125_3, fa125_4, Nat.reduceEqDiff]
      rw [rest_tok hx0] at hk
      by_cases hij' : i < j
      case neg =>
        simp only [show ¬ ((i : Int) < j) from by omega, decide_false, bin_add, bin_sub, bin_mul, bin_eql, bin_neq, bin_lss, bin_leq, bin_gtr, bin_geq, un_not, un_neg, pick_true, pick_false, extract_two_0, extract_two_1, nilCheck_pointer, cond_true', cond_false', guard_tt, guard_ff, guard_tf, guard_ft, guard_undef, seqQ_normal, seqQ_ret, seqQ_exit, blockQ_ret, blockQ_normal, blockQ_exit, bodyQ_ret, bodyQ_normal, resK_nil, resK_tmp, ite_T, ite_F, upd_at, add_plain, add_zero', len22, len35, len48, fa37_0, fa37_1, fa37_2, fa77_0, fa77_1, fa103_0, fa103_1, fa125_0, fa125_1, fa125_2, fa125_3, fa125_4, Nat.reduceEqDiff]
        rw [if_neg (fun h => hij' h.1)] at hk
        exact hk
      simp only [show ((i : Int) < j) from by omega, decide_true, bin_add, bin_sub, bin_mul, bin_eql, bin_neq, bin_lss, bin_leq, bin_gtr, bin_geq, un_not, un_neg, pick_true, pick_false, extract_two_0, extract_two_1, nilCheck_pointer, cond_true', cond_false', guard_tt, guard_ff, guard_tf, guard_ft, guard_undef, seqQ_normal, seqQ_ret, seqQ_exit, blockQ_ret, blockQ_normal, blockQ_exit, bodyQ_ret, bodyQ_normal, resK_nil, resK_tmp, ite_T, ite_F, upd_at, add_plain, add_zero', len22, len35, len48, fa37_0, fa37_1, fa37_2, fa77_0, fa77_1, fa103_0, fa103_1, fa125_0, fa125_1, fa125_2, fa125_3, fa125_4, Nat.reduceEqDiff]
      refine rdi (ixn22 hW.ptr (by omega)) (rdi (ld3 (hW.cell i (by omega))) ?_)
      simp only [bin_add, bin_sub, bin_mul, bin_eql, bin_neq, bin_lss, bin_leq, bin_gtr, bin_geq, un_not, un_neg, pick_true, pick_false, extract_two_0, extract_two_1, nilCheck_pointer, cond_true', cond_false', guard_tt, guard_ff, guard_tf, guard_ft, guard_undef, seqQ_normal, seqQ_ret, seqQ_exit, blockQ_ret, blockQ_normal, blockQ_exit, bodyQ_ret, bodyQ_normal, resK_nil, resK_tmp, ite_T, ite_F, upd_at, add_plain, add_zero', len22, len35, len48, fa37_0, fa37_1, fa37_2, fa77_0, fa77_1, fa103_0, fa103_1, fa125_0, fa125_1, fa125_2, fa125_3, fa125_4, Nat.reduceEqDiff]
      rw [i64_of (by omega) (by omega)]
      by_cases htk : ws.getD i 0 = -1 - x
      case neg =>
        simp only [htk, decide_false, bin_add, bin_sub, bin_mul, bin_eql, bin_neq, bin_lss, bin_leq, bin_gtr, bin_geq, un_not, un_neg, pick_true, pick_false, extract_two_0, extract_two_1, nilCheck_pointer, cond_true', cond_false', guard_tt, guard_ff, guard_tf, guard_ft, guard_undef, seqQ_normal, seqQ_ret, seqQ_exit, blockQ_ret, blockQ_normal, blockQ_exit, bodyQ_ret, bodyQ_normal, resK_nil, resK_tmp, ite_T, ite_F, upd_at, add_plain, add_zero', len22, len35, len48, fa37_0, fa37_1, fa37_2, fa77_0, fa77_1, fa103_0, fa103_1, fa125_0, fa125_1, fa125_2, fa125_3, fa125_4, Nat.reduceEqDiff]
        rw [if_neg (fun h => htk h.2)] at hk
        exact hk
      simp only [htk, decide_true, bin_add, bin_sub, bin_mul, bin_eql, bin_neq, bin_lss, bin_leq, bin_gtr, bin_geq, un_not, un_neg, pick_true, pick_false, extract_two_0, extract_two_1, nilCheck_pointer, cond_true', cond_false', guard_tt, guard_ff, guard_tf, guard_ft, guard_undef, seqQ_normal, seqQ_ret, seqQ_exit, blockQ_ret, blockQ_normal, blockQ_exit, bodyQ_ret, bodyQ_normal, resK_nil, resK_tmp, ite_T, ite_F, upd_at, add_plain, add_zero', len22, len35, len48, fa37_0, fa37_1, fa37_2, fa77_0, fa77_1, fa103_0, fa103_1, fa125_0, fa125_1, fa125_2, fa125_3, fa125_4, Nat.reduceEqDiff]
      rw [if_pos ⟨hij', htk⟩] at hk
      refine rdi (sll22 (by omega) (by rw [List.length_cons]; omega)) ?_
      rw [i64_of (by omega) (by omega)]
      refine ih (i := i + 1) hT hS hP hW hsub (by show xs.length ≤ cr - 1; omega) (by omega) hx' (by omega) hj ?_
      exact hk
    simp only [hx0, decide_false, bin_add, bin_sub, bin_mul, bin_eql, bin_neq, bin_lss, bin_leq, bin_gtr, bin_geq, un_not, un_neg, pick_true, pick_false, extract_two_0, extract_two_1, nilCheck_pointer, cond_true', cond_false', guard_tt, guard_ff, guard_tf, guard_ft, guard_undef, seqQ_normal, seqQ_ret, seqQ_exit, blockQ_ret, blockQ_normal, blockQ_exit, bodyQ_ret, bodyQ_normal, resK_nil, resK_tmp, ite_T, ite_F, upd_at, add_plain, add_zero', len22, len35, len48, fa37_0, fa37_1, fa37_2, fa77_0, fa77_1, fa103_0, fa103_1, fa125_0, fa125_1, fa125_2, fa125_3, fa125_4, Nat.reduceEqDiff]
    obtain ⟨A, rfl⟩ : ∃ A : Nat, x = A := ⟨x.toNat, by omega⟩
    rw [rest_non hx0, Int.toNat_natCast] at hk
    obtain ⟨F, hF⟩ : ∃ F, F = fun m => addO (T A i (i + m)) (restG (tokC ws) nl0 T xs (i + m) j) := ⟨_, rfl⟩
    rw [← hF] at hk
    have hF' : ∀ m, F m = addO (T A i (i + m)) (restG (tokC ws) nl0 T xs (i + m) j) := fun m => by rw [hF]
    have hFs : ∀ m n, i + m ≤ j → F m = some n → n ≤ 200000000 := fun m n hm h => by
      rw [hF'] at h
      obtain ⟨a, b, h1, h2, rfl⟩ := addO_some h
      have hb := rest_small hS (tokC_small ws) nl0_small (xs := xs) (by omega) hm (by omega) h2
      have ha := hS.le (by omega) (by omega) h1
      omega
    clear hF
    refine loop_to (j + 1 - i) 0 (fun m f w' => m ≤ j + 1 - i ∧ f 13 = .int .i64 ((i + m : Nat) : Int) ∧ w' = w ∧ f 12 = .int .i64 (encM (minF F m)))
      ⟨Nat.zero_le _, rfl, rfl, rfl⟩ ?_
    rintro m f w1 N hag ⟨hm, h13, rfl, h12⟩ hN
    have f0 : f 0 = .slice U nons cu := hag 0 (by decide)
    have f1 : f 1 = .slice W ws.length cw := hag 1 (by decide)
    have f2 : f 2 = .slice R ((A : Int) :: xs).length cr := hag 2 (by decide)
    have f3 : f 3 = .int .i64 i := hag 3 (by decide)
    have f4 : f 4 = .int .i64 j := hag 4 (by decide)
    have f11 : f 11 = .int .i64 (A : Int) := hag 11 (by decide)
    simp only [f0, f1, f2, f3, f4, f11, h12, h13, bin_add, bin_sub, bin_mul, bin_eql, bin_neq, bin_lss, bin_leq, bin_gtr, bin_geq, un_not, un_neg, pick_true, pick_false, extract_two_0, extract_two_1, nilCheck_pointer, cond_true', cond_false', guard_tt, guard_ff, guard_tf, guard_ft, guard_undef, seqQ_normal, seqQ_ret, seqQ_exit, blockQ_ret, blockQ_normal, blockQ_exit, bodyQ_ret, bodyQ_normal, resK_nil, resK_tmp, ite_T, ite_F, upd_at, add_plain, add_zero', len22, len35, len48, fa37_0, fa37_1, fa37_2, fa77_0, fa77_1, fa103_0, fa103_1, fa125_0, fa125_1, fa125_2, fa125_3, fa125_4, Nat.reduceEqDiff]
    by_cases hle : i + m ≤ j
    case neg =>
      simp only [show ¬ (((i + m : Nat) : Int) ≤ j) from by omega, decide_false, go_sem, Nat.reduceEqDiff]
      obtain rfl : m = j + 1 - i := by omega
      exact hk
    simp only [show (((i + m : Nat) : Int) ≤ j) from by omega, decide_true, bin_add, bin_sub, bin_mul, bin_eql, bin_neq, bin_lss, bin_leq, bin_gtr, bin_geq, un_not, un_neg, pick_true, pick_false, extract_two_0, extract_two_1, nilCheck_pointer, cond_true', cond_false', guard_tt, guard_ff, guard_tf, guard_ft, guard_undef, seqQ_normal, seqQ_ret, seqQ_exit, blockQ_ret, blockQ_normal, blockQ_exit, bodyQ_ret, bodyQ_normal, resK_nil, resK_tmp, ite_T, ite_F, upd_at, add_plain, add_zero', len22, len35, len48, fa37_0, fa37_1, fa37_2, fa77_0, fa77_1, fa103_0, fa103_1, fa125_0, fa125_1, fa125_2, fa125_3, fa125_4, Nat.reduceEqDiff]
    refine join_as (fun g w' => g 13 = .int .i64 ((i + m : Nat) : Int) ∧ w' = w1 ∧ g 12 = .int .i64 (encM (minF F (m + 1)))) (fun K8 hK8 => ?_) ?_
    case refine_2 =>
      rintro g w' ⟨g13, rfl, g12⟩
      simp only [g13, go_sem, Nat.reduceEqDiff]
      rw [i64_of (by omega) (by omega)]
      exact hN _ _ (by omega) ⟨by omega, by show Value.int .i64 (((i + m : Nat) : Int) + 1) = _; congr 1, rfl, g12⟩
    obtain ⟨R', c', h1, h2, h3⟩ := hT.row A (by omega)
    have hab := place_lt (n := ws.length + 1) (show i < ws.length + 1 by omega) (show i + m < ws.length + 1 by omega)
    have hnn : (ws.length + 1) * (ws.length + 1) ≤ 11 * 11 := Nat.mul_le_mul (by omega) (by omega)
    refine rdi (ixn48 (fun h => hT.ptr h) (by omega)) (rdi (ld22 h1) ?_)
    rw [i64_of (n := (ws.length : Int) + 1) (by omega) (by omega), show (i : Int) * ((ws.length : Int) + 1) = ((i * (ws.length + 1) : Nat) : Int) from by push_cast; rfl, i64_of (n := ((i * (ws.length + 1) : Nat) : Int)) (by omega) (by omega), i64_of (by omega) (by omega)]
    rw [show (((i * (ws.length + 1) : Nat) : Int) + ((i + m : Nat) : Int)) = ((i * (ws.length + 1) + (i + m) : Nat) : Int) from by push_cast; rfl]
    refine rdi (ixn22 (fun _ => h2) hab) (rdi (ld3 (h3 i (i + m) (by omega) (by omega))) ?_)
    have hmin : minF F (m + 1) = minO (minF F m) (F m) := rfl
    have stay : F m = none → ∀ (f' : Sh.F), f' 13 = .int .i64 ((i + m : Nat) : Int) → f' 12 = .int .i64 (encM (minF F m)) → K8 f' w1 := fun hn f' q10 q9 => hK8 _ _ ⟨q10, rfl, by rw [hmin, hn]; exact q9⟩
    have take : ∀ n, F m = some n → ∀ (f' : Sh.F), f' 13 = .int .i64 ((i + m : Nat) : Int) → (better n (minF F m) = true → f' 12 = .int .i64 (n : Int)) → (¬ better n (minF F m) = true → f' 12 = .int .i64 (encM (minF F m))) → K8 f' w1 := fun n hn f' q10 q1 q2 => hK8 _ _ ⟨q10, rfl, by
      rw [hmin, hn]
      show f' 12 = .int .i64 (encM (if better n (minF F m) = true then some n else minF F m))
      by_cases hb : better n (minF F m) = true
      · rw [if_pos hb, q1 hb]; rfl
      · rw [if_neg hb, q2 hb]⟩
    cases ha : T A i (i + m) with
    | none =>
      simp only [enc0_n, decide_true, bin_add, bin_sub, bin_mul, bin_eql, bin_neq, bin_lss, bin_leq, bin_gtr, bin_geq, un_not, un_neg, pick_true, pick_false, extract_two_0, extract_two_1, nilCheck_pointer, cond_true', cond_false', guard_tt, guard_ff, guard_tf, guard_ft, guard_undef, seqQ_normal, seqQ_ret, seqQ_exit, blockQ_ret, blockQ_normal, blockQ_exit, bodyQ_ret, bodyQ_normal, resK_nil, resK_tmp, ite_T, ite_F, upd_at, add_plain, add_zero', len22, len35, len48, fa37_0, fa37_1, fa37_2, fa77_0, fa77_1, fa103_0, fa103_1, fa125_0, fa125_1, fa125_2, fa125_3, fa125_4, Nat.reduceEqDiff]
      exact stay (by rw [hF', ha]; rfl) _ h13 h12
    | some a =>
      have hpos := hP _ _ _ _ ha
      simp only [enc0_s, show ¬ ((a : Int) = 0) from by omega, decide_false, bin_add, bin_sub, bin_mul, bin_eql, bin_neq, bin_lss, bin_leq, bin_gtr, bin_geq, un_not, un_neg, pick_true, pick_false, extract_two_0, extract_two_1, nilCheck_pointer, cond_true', cond_false', guard_tt, guard_ff, guard_tf, guard_ft, guard_undef, seqQ_normal, seqQ_ret, seqQ_exit, blockQ_ret, blockQ_normal, blockQ_exit, bodyQ_ret, bodyQ_normal, resK_nil, resK_tmp, ite_T, ite_F, upd_at, add_plain, add_zero', len22, len35, len48, fa37_0, fa37_1, fa37_2, fa77_0, fa77_1, fa103_0, fa103_1, fa125_0, fa125_1, fa125_2, fa125_3, fa125_4, Nat.reduceEqDiff]
      refine rdi (sll22 (by decide) (by rw [List.length_cons]; omega)) ?_
      rw [show (1 : Int).toNat = 1 from rfl, List.length_cons, Nat.add_sub_cancel]
      refine ih hT hS hP hW hsub (by omega) (by omega) hx' hle hj ?_
      cases hb : restG (tokC ws) nl0 T xs (i + m) j with
      | none =>
        simp only [encM_n, show ¬ ((0 : Int) ≤ -1) from by omega, decide_false, bin_add, bin_sub, bin_mul, bin_eql, bin_neq, bin_lss, bin_leq, bin_gtr, bin_geq, un_not, un_neg, pick_true, pick_false, extract_two_0, extract_two_1, nilCheck_pointer, cond_true', cond_false', guard_tt, guard_ff, guard_tf, guard_ft, guard_undef, seqQ_normal, seqQ_ret, seqQ_exit, blockQ_ret, blockQ_normal, blockQ_exit, bodyQ_ret, bodyQ_normal, resK_nil, resK_tmp, ite_T, ite_F, upd_at, add_plain, add_zero', len22, len35, len48, fa37_0, fa37_1, fa37_2, fa77_0, fa77_1, fa103_0, fa103_1, fa125_0, fa125_1, fa125_2, fa125_3, fa125_4, Nat.reduceEqDiff]
        exact stay (by rw [hF', ha, hb]; rfl) _ h13 h12
      | some b =>
        have hFm : F m = some (a + b) := by rw [hF', ha, hb]; rfl
        have hsm := hFs m _ hle hFm
        simp only [encM_s, show ((0 : Int) ≤ (b : Int)) from by omega, decide_true, bin_add, bin_sub, bin_mul, bin_eql, bin_neq, bin_lss, bin_leq, bin_gtr, bin_geq, un_not, un_neg, pick_true, pick_false, extract_two_0, extract_two_1, nilCheck_pointer, cond_true', cond_false', guard_tt, guard_ff, guard_tf, guard_ft, guard_undef, seqQ_normal, seqQ_ret, seqQ_exit, blockQ_ret, blockQ_normal, blockQ_exit, bodyQ_ret, bodyQ_normal, resK_nil, resK_tmp, ite_T, ite_F, upd_at, add_plain, add_zero', len22, len35, len48, fa37_0, fa37_1, fa37_2, fa77_0, fa77_1, fa103_0, fa103_1, fa125_0, fa125_1, fa125_2, fa125_3, fa125_4, Nat.reduceEqDiff]
        cases ho : minF F m with
        | none =>
          rw [ho] at take
          simp only [encM_n, show ((-1 : Int) < 0) from by omega, decide_true, bin_add, bin_sub, bin_mul, bin_eql, bin_neq, bin_lss, bin_leq, bin_gtr, bin_geq, un_not, un_neg, pick_true, pick_false, extract_two_0, extract_two_1, nilCheck_pointer, cond_true', cond_false', guard_tt, guard_ff, guard_tf, guard_ft, guard_undef, seqQ_normal, seqQ_ret, seqQ_exit, blockQ_ret, blockQ_normal, blockQ_exit, bodyQ_ret, bodyQ_normal, resK_nil, resK_tmp, ite_T, ite_F, upd_at, add_plain, add_zero', len22, len35, len48, fa37_0, fa37_1, fa37_2, fa77_0, fa77_1, fa103_0, fa103_1, fa125_0, fa125_1, fa125_2, fa125_3, fa125_4, Nat.reduceEqDiff]
          rw [i64_of (by omega) (by omega)]
          exact take _ hFm _ h13 (fun _ => by show Value.int .i64 ((a : Int) + (b : Int)) = .int .i64 ((a + b : Nat) : Int); congr 1) (fun h => absurd rfl h)
        | some o =>
          rw [ho] at take
          simp only [encM_s, show ¬ ((o : Int) < 0) from by omega, decide_false, bin_add, bin_sub, bin_mul, bin_eql, bin_neq, bin_lss, bin_leq, bin_gtr, bin_geq, un_not, un_neg, pick_true, pick_false, extract_two_0, extract_two_1, nilCheck_pointer, cond_true', cond_false', guard_tt, guard_ff, guard_tf, guard_ft, guard_undef, seqQ_normal, seqQ_ret, seqQ_exit, blockQ_ret, blockQ_normal, blockQ_exit, bodyQ_ret, bodyQ_normal, resK_nil, resK_tmp, ite_T, ite_F, upd_at, add_plain, add_zero', len22, len35, len48, fa37_0, fa37_1, fa37_2, fa77_0, fa77_1, fa103_0, fa103_1, fa125_0, fa125_1, fa125_2, fa125_3, fa125_4, Nat.reduceEqDiff]
          rw [i64_of (by omega) (by omega)]
          by_cases hlt : a + b < o
          · simp only [show ((a : Int) + (b : Int) < (o : Int)) from by omega, decide_true, bin_add, bin_sub, bin_mul, bin_eql, bin_neq, bin_lss, bin_leq, bin_gtr, bin_geq, un_not, un_neg, pick_true, pick_false, extract_two_0, extract_two_1, nilCheck_pointer, cond_true', cond_false', guard_tt, guard_ff, guard_tf, guard_ft, guard_undef, seqQ_normal, seqQ_ret, seqQ_exit, blockQ_ret, blockQ_normal, blockQ_exit, bodyQ_ret, bodyQ_normal, resK_nil, resK_tmp, ite_T, ite_F, upd_at, add_plain, add_zero', len22, len35, len48, fa37_0, fa37_1, fa37_2, fa77_0, fa77_1, fa103_0, fa103_1, fa125_0, fa125_1, fa125_2, fa125_3, fa125_4, Nat.reduceEqDiff]
            exact take _ hFm _ h13 (fun _ => by show Value.int .i64 ((a : Int) + (b : Int)) = .int .i64 ((a + b : Nat) : Int); congr 1) (fun h => absurd (decide_eq_true hlt) h)
          · simp only [show ¬ ((a : Int) + (b : Int) < (o : Int)) from by omega, decide_false, bin_add, bin_sub, bin_mul, bin_eql, bin_neq, bin_lss, bin_leq, bin_gtr, bin_geq, un_not, un_neg, pick_true, pick_false, extract_two_0, extract_two_1, nilCheck_pointer, cond_true', cond_false', guard_tt, guard_ff, guard_tf, guard_ft, guard_undef, seqQ_normal, seqQ_ret, seqQ_exit, blockQ_ret, blockQ_normal, blockQ_exit, bodyQ_ret, bodyQ_normal, resK_nil, resK_tmp, ite_T, ite_F, upd_at, add_plain, add_zero', len22, len35, len48, fa37_0, fa37_1, fa37_2, fa77_0, fa77_1, fa103_0, fa103_1, fa125_0, fa125_1, fa125_2, fa125_3, fa125_4, Nat.reduceEqDiff]
            exact take _ hFm _ h13 (fun h => absurd (of_decide_eq_true h) hlt) (fun _ => by rw [← ho]; exact h12)
/-- The program's record: grammar, word, costs, best, what is known. -/
abbrev boxC (b : Nat) (gm : Gram) (Y : Option Addr) (cy : Nat) (X : Option Addr) (cx : Nat) (ws : List Int) (Z : Option Addr) (cz : Nat) (cs : List Int) (T : CT) (bm : Nat) : List Value :=
  .int .i64 gm.nons :: .int .i64 gm.toks :: .slice Y gm.rules.length cy :: .slice X ws.length cx :: .slice Z cs.length cz :: (cellsE 11 T ++ [.map (some bm)])
theorem boxC_at {b : Nat} {gm : Gram} {Y : Option Addr} {cy : Nat} {X : Option Addr} {cx : Nat} {ws : List Int} {Z : Option Addr} {cz : Nat} {cs : List Int} {T : CT} {bm A i j : Nat} (hA : A < 6) (hi : i < 11) (hj : j < 11) : (boxC b gm Y cy X cx ws Z cz cs T bm)[0 + 5 + A * 121 + i * 11 + j]? = some (.int .i64 (encM (T A i j))) := by
  rw [show 0 + 5 + A * 121 + i * 11 + j = A * (11 * 11) + (i * 11 + j) + 1 + 1 + 1 + 1 + 1 from by omega]
  simp only [boxC, List.getElem?_cons_succ]
  rw [List.getElem?_append_left (by rw [cellsE_length]; exact spot_lt hA hi hj)]
  exact cellsE_at hA hi hj
theorem costOne_c {w : World} {b : Nat} {gm : Gram} {Y X Z : Option Addr} {cy cx cz bm i j : Nat} {ws cs : List Int} {T : CT} {x : Int} (hB : Box w b (boxC b gm Y cy X cx ws Z cz cs T bm) 125) (hX : Ints w X ws) (hl : ws.length ≤ 10) (hw : ∀ t ∈ ws, 0 ≤ t ∧ t ≤ 100) (hx : -100 ≤ x ∧ x < 6) (hij : i ≤ j) (hj : j ≤ ws.length) {k : Value → World → Prop}
    (hk : k (.int .i64 (encM (oneG (tokC ws) T x i j))) w) :
    CallK Try.prog 184 [ptrv b, .int .i64 x, .int .i64 i, .int .i64 j] k w := by
  refine enter184 ?_
  unfold S184
  simp only [go_sem, Nat.reduceEqDiff]
  by_cases hx0 : x < 0
  case neg =>
    simp only [show (0 : Int) ≤ x from by omega, decide_true, go_sem, Nat.reduceEqDiff]
    obtain ⟨A, rfl⟩ : ∃ A : Nat, x = A := ⟨x.toNat, by omega⟩
    rw [ixa122 (by omega) (by omega), ixa121 (by omega) (by omega), ixa120 (by omega) (by omega)]
    simp only [Int.toNat_natCast, go_sem, Nat.reduceEqDiff]
    rw [ldB3 (off := 0 + 5 + A * 121 + i * 11 + j) hB (boxC_at (by omega) (by omega) (by omega))]
    rw [oneG, if_neg hx0, Int.toNat_natCast] at hk
    exact hk
  simp only [show ¬ (0 : Int) ≤ x from by omega, decide_false, go_sem, Nat.reduceEqDiff]
  rw [oneG, if_pos hx0, tokC] at hk
  rw [i64_of (by omega) (by omega)]
  by_cases hji : j = i + 1
  case neg =>
    simp only [show ¬ ((j : Int) = (i : Int) + 1) from by omega, decide_false, go_sem, Nat.reduceEqDiff]
    rw [if_neg (fun h => hji h.1)] at hk
    exact hk
  simp only [show ((j : Int) = (i : Int) + 1) from by omega, decide_true, go_sem, Nat.reduceEqDiff]
  rw [ldB22 hB rfl]
  refine rdi (ixn22 hX.ptr (by omega)) (rdi (ld3 (hX.cell i (by omega))) ?_)
  refine symbolOf_c ?_
  have hwi := hw _ (getD_mem (show i < ws.length by omega))
  rw [i64_of (by omega) (by omega)]
  simp only [go_sem, Nat.reduceEqDiff]
  by_cases he : ws.getD i 0 = -1 - x
  · simp only [show (-1 - ws.getD i 0 = x) from by omega, decide_true, go_sem, Nat.reduceEqDiff]
    rw [if_pos ⟨hji, he⟩] at hk
    exact hk
  · simp only [show ¬ (-1 - ws.getD i 0 = x) from by omega, decide_false, go_sem, Nat.reduceEqDiff]
    rw [if_neg (fun h => he h.2)] at hk
    exact hk
set_option maxHeartbeats 1600000 in
theorem costRest_c {ws : List Int} (hl : ws.length ≤ 10) (hw : ∀ t ∈ ws, 0 ≤ t ∧ t ≤ 100) : ∀ (xs : List Int) {w : World} {b : Nat} {gm : Gram} {Y X Z R : Option Addr} {cy cx cz bm cr : Nat} {cs : List Int} {T : CT} {i j : Nat} {k : Value → World → Prop}, Box w b (boxC b gm Y cy X cx ws Z cz cs T bm) 125 → SmallG T → Ints w X ws → Ints w R xs → xs.length ≤ cr → xs.length ≤ 4 → (∀ x ∈ xs, -100 ≤ x ∧ x < 6) → i ≤ j → j ≤ ws.length → k (.int .i64 (encM (restG (tokC ws) nl0 T xs i j))) w →
    CallK Try.prog 154 [ptrv b, .slice R xs.length cr, .int .i64 i, .int .i64 j] k w := by
  intro xs
  induction xs with
  | nil =>
    intro w b gm Y X Z R cy cx cz bm cr cs T i j k hB hS hX hR hcr h4 hx hij hj hk
    refine enter154 ?_
    unfold S154
    simp only [List.length_nil, show (((0 : Nat) : Int) = 0) from rfl, decide_true, go_sem, Nat.reduceEqDiff]
    rw [restG, nl0] at hk
    by_cases hij' : i = j
    · subst hij'
      rw [if_pos rfl] at hk
      simp only [decide_true, go_sem, Nat.reduceEqDiff]
      exact hk
    · rw [if_neg hij'] at hk
      simp only [show ¬ ((i : Int) = (j : Int)) from by omega, decide_false, go_sem, Nat.reduceEqDiff]
      exact hk
  | cons x xs ih =>
    intro w b gm Y X Z R cy cx cz bm cr cs T i j k hB hS hX hR hcr h4 hx hij hj hk
    refine enter154 ?_
    unfold S154
    have hxx := hx x (List.mem_cons_self ..)
    have hx' : ∀ y ∈ xs, -100 ≤ y ∧ y < 6 := fun y hy => hx y (List.mem_cons_of_mem _ hy)
    rw [List.length_cons] at hcr h4
    have hsub := hR.sub (l := 1) (c := cr) (by simp) (by simp; omega) xs.length
    rw [List.drop_one, List.tail_cons, List.take_length] at hsub
    simp only [show ¬ (((x :: xs).length : Int) = 0) from by rw [List.length_cons]; omega, decide_false, bin_add, bin_sub, bin_mul, bin_eql, bin_neq, bin_lss, bin_leq, bin_gtr, bin_geq, un_not, un_neg, pick_true, pick_false, extract_two_0, extract_two_1, nilCheck_pointer, cond_true', cond_false', guard_tt, guard_ff, guard_tf, guard_ft, guard_undef, seqQ_normal, seqQ_ret, seqQ_exit, blockQ_ret, blockQ_normal, blockQ_exit, bodyQ_ret, bodyQ_normal, resK_nil, resK_tmp, ite_T, ite_F, upd_at, add_plain, add_zero', len22, len35, len48, fa37_0, fa37_1, fa37_2, fa77_0, fa77_1, fa103_0, fa103_1, fa125_0, fa125_1, fa125_2, fa125_3, fa125_4, Nat.reduceEqDiff]
    rw [restG] at hk
    obtain ⟨F, hF⟩ : ∃ F, F = fun m => addO (oneG (tokC ws) T x i (i + m)) (restG (tokC ws) nl0 T xs (i + m) j) := ⟨_, rfl⟩
    rw [← hF] at hk
    have hF' : ∀ m, F m = addO (oneG (tokC ws) T x i (i + m)) (restG (tokC ws) nl0 T xs (i + m) j) := fun m => by rw [hF]
    have hFs : ∀ m n, i + m ≤ j → F m = some n → n ≤ 200000000 := fun m n hm h => by
      rw [hF'] at h
      obtain ⟨a, b, h1, h2, rfl⟩ := addO_some h
      have hb := rest_small hS (tokC_small ws) nl0_small (xs := xs) (by omega) hm (by omega) h2
      have ha := one_small hS (by omega) (by omega) h1
      omega
    clear hF
    refine loop_to (j + 1 - i) 0 (fun m f w' => m ≤ j + 1 - i ∧ f 10 = .int .i64 ((i + m : Nat) : Int) ∧ w' = w ∧ f 9 = .int .i64 (encM (minF F m)))
      ⟨Nat.zero_le _, rfl, rfl, rfl⟩ ?_
    rintro m f w1 N hag ⟨hm, h10, rfl, h9⟩ hN
    have f0 : f 0 = ptrv b := hag 0 (by decide)
    have f1 : f 1 = .slice R (x :: xs).length cr := hag 1 (by decide)
    have f2 : f 2 = .int .i64 i := hag 2 (by decide)
    have f3 : f 3 = .int .i64 j := hag 3 (by decide)
    simp only [f0, f1, f2, f3, h10, h9, bin_add, bin_sub, bin_mul, bin_eql, bin_neq, bin_lss, bin_leq, bin_gtr, bin_geq, un_not, un_neg, pick_true, pick_false, extract_two_0, extract_two_1, nilCheck_pointer, cond_true', cond_false', guard_tt, guard_ff, guard_tf, guard_ft, guard_undef, seqQ_normal, seqQ_ret, seqQ_exit, blockQ_ret, blockQ_normal, blockQ_exit, bodyQ_ret, bodyQ_normal, resK_nil, resK_tmp, ite_T, ite_F, upd_at, add_plain, add_zero', len22, len35, len48, fa37_0, fa37_1, fa37_2, fa77_0, fa77_1, fa103_0, fa103_1, fa125_0, fa125_1, fa125_2, fa125_3, fa125_4, Nat.reduceEqDiff]
    by_cases hle : i + m ≤ j
    case neg =>
      simp only [show ¬ (((i + m : Nat) : Int) ≤ j) from by omega, decide_false, go_sem, Nat.reduceEqDiff]
      obtain rfl : m = j + 1 - i := by omega
      exact hk
    simp only [show (((i + m : Nat) : Int) ≤ j) from by omega, decide_true, bin_add, bin_sub, bin_mul, bin_eql, bin_neq, bin_lss, bin_leq, bin_gtr, bin_geq, un_not, un_neg, pick_true, pick_false, extract_two_0, extract_two_1, nilCheck_pointer, cond_true', cond_false', guard_tt, guard_ff, guard_tf, guard_ft, guard_undef, seqQ_normal, seqQ_ret, seqQ_exit, blockQ_ret, blockQ_normal, blockQ_exit, bodyQ_ret, bodyQ_normal, resK_nil, resK_tmp, ite_T, ite_F, upd_at, add_plain, add_zero', len22, len35, len48, fa37_0, fa37_1, fa37_2, fa77_0, fa77_1, fa103_0, fa103_1, fa125_0, fa125_1, fa125_2, fa125_3, fa125_4, Nat.reduceEqDiff]
    refine join_as (fun g w' => g 10 = .int .i64 ((i + m : Nat) : Int) ∧ w' = w1 ∧ g 9 = .int .i64 (encM (minF F (m + 1)))) (fun K8 hK8 => ?_) ?_
    case refine_2 =>
      rintro g w' ⟨g10, rfl, g9⟩
      simp only [g10, go_sem, Nat.reduceEqDiff]
      rw [i64_of (by omega) (by omega)]
      exact hN _ _ (by omega) ⟨by omega, by show Value.int .i64 (((i + m : Nat) : Int) + 1) = _; congr 1, rfl, g9⟩
    refine rdi (ix22_0 hR.ptr (by simp)) (rdi (ld3 (hR.cell 0 (by simp))) ?_)
    simp only [List.getD_cons_zero, bin_add, bin_sub, bin_mul, bin_eql, bin_neq, bin_lss, bin_leq, bin_gtr, bin_geq, un_not, un_neg, pick_true, pick_false, extract_two_0, extract_two_1, nilCheck_pointer, cond_true', cond_false', guard_tt, guard_ff, guard_tf, guard_ft, guard_undef, seqQ_normal, seqQ_ret, seqQ_exit, blockQ_ret, blockQ_normal, blockQ_exit, bodyQ_ret, bodyQ_normal, resK_nil, resK_tmp, ite_T, ite_F, upd_at, add_plain, add_zero', len22, len35, len48, fa37_0, fa37_1, fa37_2, fa77_0, fa77_1, fa103_0, fa103_1, fa125_0, fa125_1, fa125_2, fa125_3, fa125_4, Nat.reduceEqDiff]
    refine costOne_c hB hX hl hw hxx (by omega) (by omega) ?_
    have hmin : minF F (m + 1) = minO (minF F m) (F m) := rfl
    have stay : F m = none → ∀ (f' : Sh.F), f' 10 = .int .i64 ((i + m : Nat) : Int) → f' 9 = .int .i64 (encM (minF F m)) → K8 f' w1 := fun hn f' q10 q9 => hK8 _ _ ⟨q10, rfl, by rw [hmin, hn]; exact q9⟩
    have take : ∀ n, F m = some n → ∀ (f' : Sh.F), f' 10 = .int .i64 ((i + m : Nat) : Int) → (better n (minF F m) = true → f' 9 = .int .i64 (n : Int)) → (¬ better n (minF F m) = true → f' 9 = .int .i64 (encM (minF F m))) → K8 f' w1 := fun n hn f' q10 q1 q2 => hK8 _ _ ⟨q10, rfl, by
      rw [hmin, hn]
      show f' 9 = .int .i64 (encM (if better n (minF F m) = true then some n else minF F m))
      by_cases hb : better n (minF F m) = true
      · rw [if_pos hb, q1 hb]; rfl
      · rw [if_neg hb, q2 hb]⟩
    cases ha : oneG (tokC ws) T x i (i + m) with
    | none =>
      simp only [encM_n, show ((-1 : Int) < 0) from by omega, decide_true, bin_add, bin_sub, bin_mul, bin_eql, bin_neq, bin_lss, bin_leq, bin_gtr, bin_geq, un_not, un_neg, pick_true, pick_false, extract_two_0, extract_two_1, nilCheck_pointer, cond_true', cond_false', guard_tt, guard_ff, guard_tf, guard_ft, guard_undef, seqQ_normal, seqQ_ret, seqQ_exit, blockQ_ret, blockQ_normal, blockQ_exit, bodyQ_ret, bodyQ_normal, resK_nil, resK_tmp, ite_T, ite_F, upd_at, add_plain, add_zero', len22, len35, len48, fa37_0, fa37_1, fa37_2, fa77_0, fa77_1, fa103_0, fa103_1, fa125_0, fa125_1, fa125_2, fa125_3, fa125_4, Nat.reduceEqDiff]
      exact stay (by rw [hF', ha]; rfl) _ h10 h9
    | some a =>
      simp only [encM_s, show ¬ ((a : Int) < 0) from by omega, decide_false, bin_add, bin_sub, bin_mul, bin_eql, bin_neq, bin_lss, bin_leq, bin_gtr, bin_geq, un_not, un_neg, pick_true, pick_false, extract_two_0, extract_two_1, nilCheck_pointer, cond_true', cond_false', guard_tt, guard_ff, guard_tf, guard_ft, guard_undef, seqQ_normal, seqQ_ret, seqQ_exit, blockQ_ret, blockQ_normal, blockQ_exit, bodyQ_ret, bodyQ_normal, resK_nil, resK_tmp, ite_T, ite_F, upd_at, add_plain, add_zero', len22, len35, len48, fa37_0, fa37_1, fa37_2, fa77_0, fa77_1, fa103_0, fa103_1, fa125_0, fa125_1, fa125_2, fa125_3, fa125_4, Nat.reduceEqDiff]
      refine rdi (sll22 (by decide) (by rw [List.length_cons]; omega)) ?_
      rw [show (1 : Int).toNat = 1 from rfl, List.length_cons, Nat.add_sub_cancel]
      refine ih hB hS hX hsub (by omega) (by omega) hx' hle hj ?_
      cases hb : restG (tokC ws) nl0 T xs (i + m) j with
      | none =>
        simp only [encM_n, show ¬ ((0 : Int) ≤ -1) from by omega, decide_false, bin_add, bin_sub, bin_mul, bin_eql, bin_neq, bin_lss, bin_leq, bin_gtr, bin_geq, un_not, un_neg, pick_true, pick_false, extract_two_0, extract_two_1, nilCheck_pointer, cond_true', cond_false', guard_tt, guard_ff, guard_tf, guard_ft, guard_undef, seqQ_normal, seqQ_ret, seqQ_exit, blockQ_ret, blockQ_normal, blockQ_exit, bodyQ_ret, bodyQ_normal, resK_nil, resK_tmp, ite_T, ite_F, upd_at, add_plain, add_zero', len22, len35, len48, fa37_0, fa37_1, fa37_2, fa77_0, fa77_1, fa103_0, fa103_1, fa125_0, fa125_1, fa125_2, fa125_3, fa125_4, Nat.reduceEqDiff]
        exact stay (by rw [hF', ha, hb]; rfl) _ h10 h9
      | some b =>
        have hFm : F m = some (a + b) := by rw [hF', ha, hb]; rfl
        have hsm := hFs m _ hle hFm
        simp only [encM_s, show ((0 : Int) ≤ (b : Int)) from by omega, decide_true, bin_add, bin_sub, bin_mul, bin_eql, bin_neq, bin_lss, bin_leq, bin_gtr, bin_geq, un_not, un_neg, pick_true, pick_false, extract_two_0, extract_two_1, nilCheck_pointer, cond_true', cond_false', guard_tt, guard_ff, guard_tf, guard_ft, guard_undef, seqQ_normal, seqQ_ret, seqQ_exit, blockQ_ret, blockQ_normal, blockQ_exit, bodyQ_ret, bodyQ_normal, resK_nil, resK_tmp, ite_T, ite_F, upd_at, add_plain, add_zero', len22, len35, len48, fa37_0, fa37_1, fa37_2, fa77_0, fa77_1, fa103_0, fa103_1, fa125_0, fa125_1, fa125_2, fa125_3, fa125_4, Nat.reduceEqDiff]
        cases ho : minF F m with
        | none =>
          rw [ho] at take
          simp only [encM_n, show ((-1 : Int) < 0) from by omega, decide_true, bin_add, bin_sub, bin_mul, bin_eql, bin_neq, bin_lss, bin_leq, bin_gtr, bin_geq, un_not, un_neg, pick_true, pick_false, extract_two_0, extract_two_1, nilCheck_pointer, cond_true', cond_false', guard_tt, guard_ff, guard_tf, guard_ft, guard_undef, seqQ_normal, seqQ_ret, seqQ_exit, blockQ_ret, blockQ_normal, blockQ_exit, bodyQ_ret, bodyQ_normal, resK_nil, resK_tmp, ite_T, ite_F, upd_at, add_plain, add_zero', len22, len35, len48, fa37_0, fa37_1, fa37_2, fa77_0, fa77_1, fa103_0, fa103_1, fa125_0, fa125_1, fa125_2, fa125_3, fa125_4, Nat.reduceEqDiff]
          rw [i64_of (by omega) (by omega)]
          exact take _ hFm _ h10 (fun _ => by show Value.int .i64 ((a : Int) + (b : Int)) = .int .i64 ((a + b : Nat) : Int); congr 1) (fun h => absurd rfl h)
        | some o =>
          rw [ho] at take
          simp only [encM_s, show ¬ ((o : Int) < 0) from by omega, decide_false, bin_add, bin_sub, bin_mul, bin_eql, bin_neq, bin_lss, bin_leq, bin_gtr, bin_geq, un_not, un_neg, pick_true, pick_false, extract_two_0, extract_two_1, nilCheck_pointer, cond_true', cond_false', guard_tt, guard_ff, guard_tf, guard_ft, guard_undef, seqQ_normal, seqQ_ret, seqQ_exit, blockQ_ret, blockQ_normal, blockQ_exit, bodyQ_ret, bodyQ_normal, resK_nil, resK_tmp, ite_T, ite_F, upd_at, add_plain, add_zero', len22, len35, len48, fa37_0, fa37_1, fa37_2, fa77_0, fa77_1, fa103_0, fa103_1, fa125_0, fa125_1, fa125_2, fa125_3, fa125_4, Nat.reduceEqDiff]
          rw [i64_of (by omega) (by omega)]
          by_cases hlt : a + b < o
          · simp only [show ((a : Int) + (b : Int) < (o : Int)) from by omega, decide_true, bin_add, bin_sub, bin_mul, bin_eql, bin_neq, bin_lss, bin_leq, bin_gtr, bin_geq, un_not, un_neg, pick_true, pick_false, extract_two_0, extract_two_1, nilCheck_pointer, cond_true', cond_false', guard_tt, guard_ff, guard_tf, guard_ft, guard_undef, seqQ_normal, seqQ_ret, seqQ_exit, blockQ_ret, blockQ_normal, blockQ_exit, bodyQ_ret, bodyQ_normal, resK_nil, resK_tmp, ite_T, ite_F, upd_at, add_plain, add_zero', len22, len35, len48, fa37_0, fa37_1, fa37_2, fa77_0, fa77_1, fa103_0, fa103_1, fa125_0, fa125_1, fa125_2, fa125_3, fa125_4, Nat.reduceEqDiff]
            exact take _ hFm _ h10 (fun _ => by show Value.int .i64 ((a : Int) + (b : Int)) = .int .i64 ((a + b : Nat) : Int); congr 1) (fun h => absurd (decide_eq_true hlt) h)
          · simp only [show ¬ ((a : Int) + (b : Int) < (o : Int)) from by omega, decide_false, bin_add, bin_sub, bin_mul, bin_eql, bin_neq, bin_lss, bin_leq, bin_gtr, bin_geq, un_not, un_neg, pick_true, pick_false, extract_two_0, extract_two_1, nilCheck_pointer, cond_true', cond_false', guard_tt, guard_ff, guard_tf, guard_ft, guard_undef, seqQ_normal, seqQ_ret, seqQ_exit, blockQ_ret, blockQ_normal, blockQ_exit, bodyQ_ret, bodyQ_normal, resK_nil, resK_tmp, ite_T, ite_F, upd_at, add_plain, add_zero', len22, len35, len48, fa37_0, fa37_1, fa37_2, fa77_0, fa77_1, fa103_0, fa103_1, fa125_0, fa125_1, fa125_2, fa125_3, fa125_4, Nat.reduceEqDiff]
            exact take _ hFm _ h10 (fun h => absurd (of_decide_eq_true h) hlt) (fun _ => by rw [← ho]; exact h9)
end Go.Proofs.Ytiohaeckagjebaa

/- Bh: bodies of functions as terms of the frame calculus, printed by shgen.py of this repository. -/
set_option linter.unusedVariables false
set_option maxRecDepth 100000
namespace Go.Proofs.Ytiohaeckagjebaa
open Go Go.Sh

/-! loop.example/g00758/laws.FnExactLeastMend -/
/-! loop.example/g00758/laws.FnExactMendTable -/
/-! loop.example/g00758/spec.LeastMend -/
/-! loop.example/g00758/impl.LeastMend -/
/-! loop.example/g00758/spec.MendTable -/
/-! loop.example/g00758/impl.MendTable -/
/-! loop.example/g00758/spec.l17Word -/
/-! loop.example/g00758/spec.l17Table -/
/-! (loop.example/g00758/impl.Grammar).mends -/
/-! loop.example/g00758/spec.l17Row -/
/-! (*loop.example/g00758/impl.mending).rest -/
/-! loop.example/g00758/spec.l17Token -/
/-! (*loop.example/g00758/impl.mending).one -/
/-! slices.Contains[[]int,int] -/
/-! slices.Index[[]int,int] -/
end Go.Proofs.Ytiohaeckagjebaa

/- Contracts: how few changes make a token, a row of symbols (the reference's l17Token, l17Row). -/
set_option linter.unusedVariables false
set_option linter.unusedSimpArgs false
set_option maxRecDepth 100000
namespace Go.Sh
open Go
end Go.Sh
namespace Go.Proofs.Ytiohaeckagjebaa
open Go Go.Sh Go.RowKit
end Go.Proofs.Ytiohaeckagjebaa

/- Contract: the reference's table of mending (l17Table). -/
set_option linter.unusedVariables false
set_option linter.unusedSimpArgs false
set_option maxRecDepth 100000
namespace Go.Sh
open Go
section
variable {c : CandG} {rs : List RuleL} {n : Nat}
theorem stepG_none {q i j : Nat} {s : GS} (h : c s.1 q i j = none) : stepG c rs q i s j = s := by
  unfold stepG
  rw [h]
theorem stepG_put {q i j m : Nat} {s : GS} (h : c s.1 q i j = some m) (hb : better m (s.1 (rul rs q).1.toNat i j) = true) : stepG c rs q i s j = (s.1.put (rul rs q).1.toNat i j m, true) := by
  unfold stepG
  rw [h]
  dsimp only
  rw [if_pos hb]
theorem stepG_stay {q i j m : Nat} {s : GS} (h : c s.1 q i j = some m) (hb : ¬ better m (s.1 (rul rs q).1.toNat i j) = true) : stepG c rs q i s j = s := by
  unfold stepG
  rw [h]
  dsimp only
  rw [if_neg hb]
end
theorem part_set (nn a : Nat) (u v : Value) (h : a < nn) : (List.replicate a u ++ List.replicate (nn - a) v).set a u = List.replicate (a + 1) u ++ List.replicate (nn - (a + 1)) v := by
  rw [List.set_append_right _ _ (by simp), List.length_replicate, Nat.sub_self, show nn - a = nn - (a + 1) + 1 from by omega, List.replicate_succ (n := nn - (a + 1)), List.set_cons_zero, List.replicate_succ', List.append_assoc]
  rfl
theorem good_rules {gm : Gram} (hg : goodG gm = true) : ∀ q, q < gm.rules.length → (rul gm.rules q).1.toNat < 6 ∧ (rul gm.rules q).2.length ≤ 4 := fun q hq => by
  have h1 := good_left hg hq
  have h2 := good_nons hg
  exact ⟨by omega, good_rule hg q hq⟩
end Go.Sh
namespace Go.Proofs.Ytiohaeckagjebaa
open Go Go.Sh Go.RowKit
end Go.Proofs.Ytiohaeckagjebaa

/- Contract: the reference's table of least costs (l12Table). -/
set_option linter.unusedVariables false
set_option linter.unusedSimpArgs false
set_option maxRecDepth 100000
namespace Go.Sh
open Go
/-- Small, and at least 1. -/
def FineC (T : CT) : Prop := SmallG T ∧ PosG T
section
variable {ws cs : List Int} {rs : List RuleL} {n : Nat}
theorem stepC_drop (hO : OfferG (candC rs ws cs) rs n) (hp : ∀ q, q < rs.length → 0 < costQ cs q) {q i j : Nat} (hq : q < rs.length) (hij : i ≤ j) (hj : j < n) {s : GS} (hs : FineC s.1) : FineC (stepG (candC rs ws cs) rs q i s j).1 ∧ DropG s (stepG (candC rs ws cs) rs q i s j) := by
  obtain ⟨h1, h2⟩ := stepG_drop hO hq hij hj hs.1
  refine ⟨⟨h1, ?_⟩, h2⟩
  unfold stepG
  split
  · exact hs.2
  · rename_i m hm
    split
    · exact posG_put hs.2 (candC_pos (hp q hq) hm)
    · exact hs.2
theorem rowC_drop (hO : OfferG (candC rs ws cs) rs n) (hp : ∀ q, q < rs.length → 0 < costQ cs q) {q : Nat} (hq : q < rs.length) {s : GS} (hs : FineC s.1) (i : Nat) : FineC (rowG (candC rs ws cs) rs n q s i).1 ∧ DropG s (rowG (candC rs ws cs) rs n q s i) :=
  DropG.fold (I := FineC) (fun j hj s hs => by
    rw [List.mem_range'_1] at hj
    exact stepC_drop hO hp hq hj.1 (by omega) hs) hs
theorem ruleC_drop (hO : OfferG (candC rs ws cs) rs n) (hp : ∀ q, q < rs.length → 0 < costQ cs q) {q : Nat} (hq : q < rs.length) {s : GS} (hs : FineC s.1) : FineC (ruleG (candC rs ws cs) rs n s q).1 ∧ DropG s (ruleG (candC rs ws cs) rs n s q) :=
  DropG.fold (I := FineC) (fun i hi s hs => rowC_drop hO hp hq hs i) hs
theorem passC_drop (hO : OfferG (candC rs ws cs) rs n) (hp : ∀ q, q < rs.length → 0 < costQ cs q) {s : GS} (hs : FineC s.1) : FineC (passG (candC rs ws cs) rs n s).1 ∧ DropG s (passG (candC rs ws cs) rs n s) :=
  DropG.fold (I := FineC) (fun q hq s hs => ruleC_drop hO hp (List.mem_range.1 hq) hs) hs
theorem fine_rules (hO : OfferG (candC rs ws cs) rs n) (hp : ∀ q, q < rs.length → 0 < costQ cs q) {s : GS} (hs : FineC s.1) {q : Nat} (hq : q ≤ rs.length) : FineC ((List.range q).foldl (ruleG (candC rs ws cs) rs n) s).1 :=
  (DropG.fold (I := FineC) (fun q' hq' s hs => ruleC_drop hO hp (by have := List.mem_range.1 hq'; omega) hs) hs).1
theorem fine_rows (hO : OfferG (candC rs ws cs) rs n) (hp : ∀ q, q < rs.length → 0 < costQ cs q) {s : GS} (hs : FineC s.1) {q a : Nat} (hq : q < rs.length) : FineC ((List.range a).foldl (rowG (candC rs ws cs) rs n q) s).1 :=
  (DropG.fold (I := FineC) (fun i hi s hs => rowC_drop hO hp hq hs i) hs).1
theorem fine_steps (hO : OfferG (candC rs ws cs) rs n) (hp : ∀ q, q < rs.length → 0 < costQ cs q) {s : GS} (hs : FineC s.1) {q a b : Nat} (hq : q < rs.length) (hb : b ≤ n) : FineC ((List.range' a (b - a)).foldl (stepG (candC rs ws cs) rs q a) s).1 :=
  (DropG.fold (I := FineC) (fun j hj s hs => by
    rw [List.mem_range'_1] at hj
    exact stepC_drop hO hp hq hj.1 (by omega) hs) hs).1
theorem fineC_none : FineC noCT := ⟨smallG_none, posG_none⟩
end
/-- Costs that are asked for. -/
structure CostsOk (gm : Gram) (cs : List Int) : Prop where
  len : cs.length = gm.rules.length
  all : ∀ c ∈ cs, 1 ≤ c ∧ c ≤ 100
theorem CostsOk.at {gm : Gram} {cs : List Int} (h : CostsOk gm cs) {q : Nat} (hq : q < gm.rules.length) : cs.getD q 0 = (costQ cs q : Int) ∧ 0 < costQ cs q ∧ costQ cs q ≤ 100 := by
  have hq' : q < cs.length := by rw [h.len]; exact hq
  have hm : cs.getD q 0 ∈ cs := by
    rw [List.getD_eq_getElem?_getD, List.getElem?_eq_getElem hq', Option.getD_some]
    exact List.getElem_mem hq'
  have := h.all _ hm
  unfold costQ
  omega
theorem candC_none {rs : List RuleL} {ws cs : List Int} {T : CT} {q i j : Nat} (h : restG (tokC ws) nl0 T (rul rs q).2 i j = none) : candC rs ws cs T q i j = none := by
  unfold candC
  rw [h]
  rfl
theorem candC_some {rs : List RuleL} {ws cs : List Int} {T : CT} {q i j r : Nat} (h : restG (tokC ws) nl0 T (rul rs q).2 i j = some r) : candC rs ws cs T q i j = some (r + costQ cs q) := by
  unfold candC
  rw [h]
  rfl
end Go.Sh
namespace Go.Proofs.Ytiohaeckagjebaa
open Go Go.Sh Go.RowKit
set_option maxHeartbeats 3200000 in
theorem l12Table_c {F : Nat → Prop} {w : World} {v : Value} {gm : Gram} {X Q : Option Addr} {cx n0 cq m0 : Nat} {ws cs : List Int} (hv : GramV F w v gm) (hg : goodG gm = true) (hQ : Ints w Q cs) (hm0 : m0 = cs.length) (hcs : CostsOk gm cs) (hX : Ints w X ws) (hn : n0 = ws.length) (hl : ws.length ≤ 10) (hw : ∀ t ∈ ws, 0 ≤ t ∧ t ≤ 100) {k : Value → World → Prop}
    (hk : ∀ w' U c nons T, Gr w w' → gm.nons = (nons : Nat) → TabE enc0 w' U nons (ws.length + 1) T → FineC T → FixG (candC gm.rules ws cs) gm.rules (ws.length + 1) noCT T → k (.slice U nons c) w') :
    CallK Try.prog 113 [v, .slice Q m0 cq, .slice X n0 cx] k w := by
  subst hn hm0
  obtain ⟨Y, cy, rfl, hc, hy⟩ := hv
  have hn6 := good_nons hg
  have hr16 := good_len hg
  have hleft6 := good_left6 hg
  obtain ⟨nons, hnn⟩ : ∃ n : Nat, gm.nons = n := ⟨gm.nons.toNat, by omega⟩
  refine enter113 ?_
  unfold S113
  have H := Apt.nil w
  refine boxH H fun b1 w1 H => ?_
  rw [hnn] at H
  simp only [bin_add, bin_sub, bin_mul, bin_eql, bin_neq, bin_lss, bin_leq, bin_gtr, bin_geq, un_not, un_neg, pick_true, pick_false, extract_two_0, extract_two_1, nilCheck_pointer, cond_true', cond_false', guard_tt, guard_ff, guard_tf, guard_ft, guard_undef, seqQ_normal, seqQ_ret, seqQ_exit, blockQ_ret, blockQ_normal, blockQ_exit, bodyQ_ret, bodyQ_normal, resK_nil, resK_tmp, ite_T, ite_F, upd_at, add_plain, add_zero', len22, len35, len48, fa37_0, fa37_1, fa37_2, fa77_0, fa77_1, fa103_0, fa103_1, fa125_0, fa125_1, fa125_2, fa125_3, fa125_4, Nat.reduceEqDiff]
  rw [ldB3 (H.box 0 rfl) rfl]
  rw [i64_of (by omega) (by omega)]
  refine makeH H u48 inf22 (by omega) (by omega) fun b2 w2 H => ?_
  rw [show (Value.slice none 0 0).cells = #[.slice none 0 0] from rfl, madeCells_one] at H
  have H := H.nilVV 1 3 rfl
  simp only [List.nil_append, List.cons_append, List.set_cons_zero, List.set_cons_succ] at H
  simp only [bin_add, bin_sub, bin_mul, bin_eql, bin_neq, bin_lss, bin_leq, bin_gtr, bin_geq, un_not, un_neg, pick_true, pick_false, extract_two_0, extract_two_1, nilCheck_pointer, cond_true', cond_false', guard_tt, guard_ff, guard_tf, guard_ft, guard_undef, seqQ_normal, seqQ_ret, seqQ_exit, blockQ_ret, blockQ_normal, blockQ_exit, bodyQ_ret, bodyQ_normal, resK_nil, resK_tmp, ite_T, ite_F, upd_at, add_plain, add_zero', len22, len35, len48, fa37_0, fa37_1, fa37_2, fa77_0, fa77_1, fa103_0, fa103_1, fa125_0, fa125_1, fa125_2, fa125_3, fa125_4, Nat.reduceEqDiff]
  generalize hN : ws.length + 1 = n at *
  have hNi : ((ws.length : Int) + 1) = (n : Int) := by omega
  rw [hNi]
  have hnn11 : n * n ≤ 11 * 11 := Nat.mul_le_mul (by omega) (by omega)
  have hrl : (rowsE enc0 noCT nons n).length = nons := rowsE_length _ _
  refine loop_to nons 0 (fun i f w' => i ≤ nons ∧ f 24 = .int .i64 i ∧ ∃ (ps : Nat → Option Addr × Nat), Apt w w' [bx b1 [.int .i64 nons, .int .i64 gm.toks, .slice Y gm.rules.length cy] 37, vvi 22 3 (some ⟨b2, 0, none⟩) nons ((rowsE enc0 noCT nons n).take i ++ (List.replicate nons []).drop i) ps])
    ⟨Nat.zero_le _, rfl, _, by rw [List.take_zero, List.drop_zero, List.nil_append]; exact H⟩ ?_
  rintro i f w3 N hag ⟨hi, h24, ps, H⟩ hN'
  have f23 : f 23 = .int .i64 nons := hag 23 (by decide)
  have f7 : f 7 = .int .i64 n := hag 7 (by decide)
  have f8 : f 8 = .slice (some ⟨b2, 0, none⟩) nons nons := hag 8 (by decide)
  have f3 : f 3 = ptrv b1 := hag 3 (by decide)
  have f2 : f 2 = .slice X ws.length cx := hag 2 (by decide)
  have f1 : f 1 = .slice Q cs.length cq := hag 1 (by decide)
  simp only [f23, f7, f8, h24, bin_add, bin_sub, bin_mul, bin_eql, bin_neq, bin_lss, bin_leq, bin_gtr, bin_geq, un_not, un_neg, pick_true, pick_false, extract_two_0, extract_two_1, nilCheck_pointer, cond_true', cond_false', guard_tt, guard_ff, guard_tf, guard_ft, guard_undef, seqQ_normal, seqQ_ret, seqQ_exit, blockQ_ret, blockQ_normal, blockQ_exit, bodyQ_ret, bodyQ_normal, resK_nil, resK_tmp, ite_T, ite_F, upd_at, add_plain, add_zero', len22, len35, len48, fa37_0, fa37_1, fa37_2, fa77_0, fa77_1, fa103_0, fa103_1, fa125_0, fa125_1, fa125_2, fa125_3, fa125_4, Nat.reduceEqDiff]
  by_cases hlt : i < nons
  · simp only [show (i : Int) < nons from by omega, decide_true, bin_add, bin_sub, bin_mul, bin_eql, bin_neq, bin_lss, bin_leq, bin_gtr, bin_geq, un_not, un_neg, pick_true, pick_false, extract_two_0, extract_two_1, nilCheck_pointer, cond_true', cond_false', guard_tt, guard_ff, guard_tf, guard_ft, guard_undef, seqQ_normal, seqQ_ret, seqQ_exit, blockQ_ret, blockQ_normal, blockQ_exit, bodyQ_ret, bodyQ_normal, resK_nil, resK_tmp, ite_T, ite_F, upd_at, add_plain, add_zero', len22, len35, len48, fa37_0, fa37_1, fa37_2, fa77_0, fa77_1, fa103_0, fa103_1, fa125_0, fa125_1, fa125_2, fa125_3, fa125_4, Nat.reduceEqDiff]
    rw [show (n : Int) * (n : Int) = ((n * n : Nat) : Int) from by push_cast; rfl, i64_of (by omega) (by omega)]
    refine makeH H (n := n * n) u22 inf3 (by omega) (by omega) fun b3 w4 H => ?_
    rw [show (Value.int .i64 0).cells = #[.int .i64 0] from rfl, madeCells_one] at H
    rw [ixn48 (fun _ => rfl) hlt]
    refine setRowVV H 1 2 i (by decide) rfl rfl (by simp) (by decide) sz22 (by simp; omega) fun w5 ps' H => ?_
    have H := H.erase 2
    simp only [List.nil_append, List.cons_append, List.set_cons_zero, List.set_cons_succ, List.eraseIdx_cons_zero, List.eraseIdx_cons_succ] at H
    rw [show List.replicate (n * n) (Value.int .i64 0) = rowE enc0 noCT n i from (rowE_none enc0 n i).symm, set_td (by simp; omega) (by simp [hrl]) (by simp [rowsE, hlt])] at H
    rw [i64_of (by omega) (by omega)]
    exact hN' _ _ hlt ⟨hlt, rfl, ps', H⟩
  have hin : i = nons := by omega
  simp only [show ¬ ((i : Int) < nons) from by omega, decide_false, bin_add, bin_sub, bin_mul, bin_eql, bin_neq, bin_lss, bin_leq, bin_gtr, bin_geq, un_not, un_neg, pick_true, pick_false, extract_two_0, extract_two_1, nilCheck_pointer, cond_true', cond_false', guard_tt, guard_ff, guard_tf, guard_ft, guard_undef, seqQ_normal, seqQ_ret, seqQ_exit, blockQ_ret, blockQ_normal, blockQ_exit, bodyQ_ret, bodyQ_normal, resK_nil, resK_tmp, ite_T, ite_F, upd_at, add_plain, add_zero', len22, len35, len48, fa37_0, fa37_1, fa37_2, fa77_0, fa77_1, fa103_0, fa103_1, fa125_0, fa125_1, fa125_2, fa125_3, fa125_4, Nat.reduceEqDiff]
  rw [hin, List.drop_eq_nil_of_le (by simp), List.append_nil, List.take_of_length_le (by rw [hrl]; exact Nat.le_refl _)] at H
  clear hN' hin h24 hi hlt
  have hO := offerC (ws := ws) (cs := cs) (good_rules hg) (n := n) (by omega) (fun q hq => (hcs.at hq).2.2)
  have hp0 : ∀ q, q < gm.rules.length → 0 < costQ cs q := fun q hq => (hcs.at hq).2.1
  refine loop_ghost (fun (s : GS) f w' => fixSt (candC gm.rules ws cs) gm.rules n s ∧ FineC s.1 ∧ f 10 = .bool s.2 ∧ ∃ (ps : Nat → Option Addr × Nat), Apt w w' [bx b1 [.int .i64 nons, .int .i64 gm.toks, .slice Y gm.rules.length cy] 37, vvi 22 3 (some ⟨b2, 0, none⟩) nons (rowsE enc0 s.1 nons n) ps]) (fun s => if s.2 = true then sumG s.1 + 1 else 0) (noCT, true)
    ⟨by unfold fixSt; rw [if_pos rfl]; exact fun U h => h, fineC_none, rfl, ps, H⟩ ?_
  clear H
  rintro ⟨T, more⟩ fr w6 N2 hag2 ⟨hst, hS, h10, ps, H⟩ hN2
  have f3' : fr 3 = ptrv b1 := (hag2 3 (by decide)).trans f3
  have f8' : fr 8 = .slice (some ⟨b2, 0, none⟩) nons nons := (hag2 8 (by decide)).trans f8
  have f7' : fr 7 = .int .i64 n := (hag2 7 (by decide)).trans f7
  have f2' : fr 2 = .slice X ws.length cx := (hag2 2 (by decide)).trans f2
  have f1' : fr 1 = .slice Q cs.length cq := (hag2 1 (by decide)).trans f1
  simp only [h10, f3', bin_add, bin_sub, bin_mul, bin_eql, bin_neq, bin_lss, bin_leq, bin_gtr, bin_geq, un_not, un_neg, pick_true, pick_false, extract_two_0, extract_two_1, nilCheck_pointer, cond_true', cond_false', guard_tt, guard_ff, guard_tf, guard_ft, guard_undef, seqQ_normal, seqQ_ret, seqQ_exit, blockQ_ret, blockQ_normal, blockQ_exit, bodyQ_ret, bodyQ_normal, resK_nil, resK_tmp, ite_T, ite_F, upd_at, add_plain, add_zero', len22, len35, len48, fa37_0, fa37_1, fa37_2, fa77_0, fa77_1, fa103_0, fa103_1, fa125_0, fa125_1, fa125_2, fa125_3, fa125_4, Nat.reduceEqDiff]
  cases more
  · simp only [bin_add, bin_sub, bin_mul, bin_eql, bin_neq, bin_lss, bin_leq, bin_gtr, bin_geq, un_not, un_neg, pick_true, pick_false, extract_two_0, extract_two_1, nilCheck_pointer, cond_true', cond_false', guard_tt, guard_ff, guard_tf, guard_ft, guard_undef, seqQ_normal, seqQ_ret, seqQ_exit, blockQ_ret, blockQ_normal, blockQ_exit, bodyQ_ret, bodyQ_normal, resK_nil, resK_tmp, ite_T, ite_F, upd_at, add_plain, add_zero', len22, len35, len48, fa37_0, fa37_1, fa37_2, fa77_0, fa77_1, fa103_0, fa103_1, fa125_0, fa125_1, fa125_2, fa125_3, fa125_4, Nat.reduceEqDiff]
    rw [f8']
    refine hk _ _ nons _ T H.gr hnn ((H.vv 1 rfl).tabE (by omega)) hS ?_
    unfold fixSt at hst
    rw [if_neg Bool.false_ne_true] at hst
    exact hst
  simp only [bin_add, bin_sub, bin_mul, bin_eql, bin_neq, bin_lss, bin_leq, bin_gtr, bin_geq, un_not, un_neg, pick_true, pick_false, extract_two_0, extract_two_1, nilCheck_pointer, cond_true', cond_false', guard_tt, guard_ff, guard_tf, guard_ft, guard_undef, seqQ_normal, seqQ_ret, seqQ_exit, blockQ_ret, blockQ_normal, blockQ_exit, bodyQ_ret, bodyQ_normal, resK_nil, resK_tmp, ite_T, ite_F, upd_at, add_plain, add_zero', len22, len35, len48, fa37_0, fa37_1, fa37_2, fa77_0, fa77_1, fa103_0, fa103_1, fa125_0, fa125_1, fa125_2, fa125_3, fa125_4, Nat.reduceEqDiff]
  rw [ldB35 (H.box 0 rfl) rfl]
  simp only [bin_add, bin_sub, bin_mul, bin_eql, bin_neq, bin_lss, bin_leq, bin_gtr, bin_geq, un_not, un_neg, pick_true, pick_false, extract_two_0, extract_two_1, nilCheck_pointer, cond_true', cond_false', guard_tt, guard_ff, guard_tf, guard_ft, guard_undef, seqQ_normal, seqQ_ret, seqQ_exit, blockQ_ret, blockQ_normal, blockQ_exit, bodyQ_ret, bodyQ_normal, resK_nil, resK_tmp, ite_T, ite_F, upd_at, add_plain, add_zero', len22, len35, len48, fa37_0, fa37_1, fa37_2, fa77_0, fa77_1, fa103_0, fa103_1, fa125_0, fa125_1, fa125_2, fa125_3, fa125_4, Nat.reduceEqDiff]
  refine loop_to gm.rules.length 0 (fun q f w' => q ≤ gm.rules.length ∧ f 39 = .int .i64 q ∧ f 10 = .bool ((List.range q).foldl (ruleG (candC gm.rules ws cs) gm.rules n) (T, false)).2 ∧ ∃ (ps : Nat → Option Addr × Nat), Apt w w' [bx b1 [.int .i64 nons, .int .i64 gm.toks, .slice Y gm.rules.length cy] 37, vvi 22 3 (some ⟨b2, 0, none⟩) nons (rowsE enc0 ((List.range q).foldl (ruleG (candC gm.rules ws cs) gm.rules n) (T, false)).1 nons n) ps])
    ⟨Nat.zero_le _, rfl, rfl, ps, H⟩ ?_
  clear H
  rintro q g1 w7 N3 hag3 ⟨hq, h39, h10', ps, H⟩ hN3
  have e37 : g1 37 = .slice Y gm.rules.length cy := hag3 37 (by decide)
  have e38 : g1 38 = .int .i64 gm.rules.length := hag3 38 (by decide)
  have e7 : g1 7 = .int .i64 n := (hag3 7 (by decide)).trans f7'
  have e8 : g1 8 = .slice (some ⟨b2, 0, none⟩) nons nons := (hag3 8 (by decide)).trans f8'
  have e2 : g1 2 = .slice X ws.length cx := (hag3 2 (by decide)).trans f2'
  have e1 : g1 1 = .slice Q cs.length cq := (hag3 1 (by decide)).trans f1'
  simp only [e37, e38, h39, bin_add, bin_sub, bin_mul, bin_eql, bin_neq, bin_lss, bin_leq, bin_gtr, bin_geq, un_not, un_neg, pick_true, pick_false, extract_two_0, extract_two_1, nilCheck_pointer, cond_true', cond_false', guard_tt, guard_ff, guard_tf, guard_ft, guard_undef, seqQ_normal, seqQ_ret, seqQ_exit, blockQ_ret, blockQ_normal, blockQ_exit, bodyQ_ret, bodyQ_normal, resK_nil, resK_tmp, ite_T, ite_F, upd_at, add_plain, add_zero', len22, len35, len48, fa37_0, fa37_1, fa37_2, fa77_0, fa77_1, fa103_0, fa103_1, fa125_0, fa125_1, fa125_2, fa125_3, fa125_4, Nat.reduceEqDiff]
  by_cases hlq : q < gm.rules.length
  case neg =>
    simp only [show ¬ ((q : Int) < gm.rules.length) from by omega, decide_false, bin_add, bin_sub, bin_mul, bin_eql, bin_neq, bin_lss, bin_leq, bin_gtr, bin_geq, un_not, un_neg, pick_true, pick_false, extract_two_0, extract_two_1, nilCheck_pointer, cond_true', cond_false', guard_tt, guard_ff, guard_tf, guard_ft, guard_undef, seqQ_normal, seqQ_ret, seqQ_exit, blockQ_ret, blockQ_normal, blockQ_exit, bodyQ_ret, bodyQ_normal, resK_nil, resK_tmp, ite_T, ite_F, upd_at, add_plain, add_zero', len22, len35, len48, fa37_0, fa37_1, fa37_2, fa77_0, fa77_1, fa103_0, fa103_1, fa125_0, fa125_1, fa125_2, fa125_3, fa125_4, Nat.reduceEqDiff]
    obtain rfl : q = gm.rules.length := by omega
    obtain ⟨hS', hdrop⟩ := passC_drop hO hp0 (s := (T, false)) hS
    refine hN2 (passG (candC gm.rules ws cs) gm.rules n (T, false)) _ _ ⟨fixSt_next hst, hS', h10', ps, H⟩ ?_
    rw [if_pos rfl]
    rcases hdrop with he | ⟨h1, h2⟩
    · rw [he, if_neg Bool.false_ne_true]
      omega
    · rw [if_pos h1]
      dsimp only at h2 ⊢
      omega
  simp only [show ((q : Int) < gm.rules.length) from by omega, decide_true, bin_add, bin_sub, bin_mul, bin_eql, bin_neq, bin_lss, bin_leq, bin_gtr, bin_geq, un_not, un_neg, pick_true, pick_false, extract_two_0, extract_two_1, nilCheck_pointer, cond_true', cond_false', guard_tt, guard_ff, guard_tf, guard_ft, guard_undef, seqQ_normal, seqQ_ret, seqQ_exit, blockQ_ret, blockQ_normal, blockQ_exit, bodyQ_ret, bodyQ_normal, resK_nil, resK_tmp, ite_T, ite_F, upd_at, add_plain, add_zero', len22, len35, len48, fa37_0, fa37_1, fa37_2, fa77_0, fa77_1, fa103_0, fa103_1, fa125_0, fa125_1, fa125_2, fa125_3, fa125_4, Nat.reduceEqDiff]
  obtain ⟨Z, cz, t1, t2, t3, t4⟩ := hy.row q hlq
  have hleft := good_left hg hlq
  have hright := good_right hg hlq
  have hR4 := good_rule hg q hlq
  obtain ⟨xl, hxl⟩ : ∃ x : Nat, (rul gm.rules q).1 = x := ⟨(rul gm.rules q).1.toNat, by omega⟩
  rw [hxl] at t1 hleft
  refine rdi (ixn35 hy.ptr hlq) ?_
  rw [ld_agg agg77 sz77 (cs := [.int .i64 xl, .slice Z (rul gm.rules q).2.length cz]) rfl (fun j hj => by
    match j, hj with
    | 0, _ => rw [add_add, Nat.add_zero]; exact H.gr.cell t1
    | 1, _ => rw [add_add]; exact H.gr.cell t2)]
  refine allocH H inf77 fun b3 w8 H => ?_
  refine storeH H 2 rfl sz77 rfl rfl rfl fun w9 H => ?_
  simp only [List.nil_append, List.cons_append, List.set_cons_zero, List.set_cons_succ] at H
  have hS0 := fine_rules hO hp0 (s := (T, false)) hS hq
  generalize hs0 : (List.range q).foldl (ruleG (candC gm.rules ws cs) gm.rules n) (T, false) = s0 at *
  refine loop_to n 0 (fun a f w' => a ≤ n ∧ f 13 = .int .i64 a ∧ f 10 = .bool ((List.range a).foldl (rowG (candC gm.rules ws cs) gm.rules n q) s0).2 ∧ ∃ (ps : Nat → Option Addr × Nat), Apt w w' [bx b1 [.int .i64 nons, .int .i64 gm.toks, .slice Y gm.rules.length cy] 37, vvi 22 3 (some ⟨b2, 0, none⟩) nons (rowsE enc0 ((List.range a).foldl (rowG (candC gm.rules ws cs) gm.rules n q) s0).1 nons n) ps, bx b3 [.int .i64 xl, .slice Z (rul gm.rules q).2.length cz] 77])
    ⟨Nat.zero_le _, rfl, h10', ps, H⟩ ?_
  clear H
  rintro a g2 w10 N4 hag4 ⟨ha, h13, h10a, ps, H⟩ hN4
  have k7 : g2 7 = .int .i64 n := (hag4 7 (by decide)).trans e7
  have k8 : g2 8 = .slice (some ⟨b2, 0, none⟩) nons nons := (hag4 8 (by decide)).trans e8
  have k2 : g2 2 = .slice X ws.length cx := (hag4 2 (by decide)).trans e2
  have k1 : g2 1 = .slice Q cs.length cq := (hag4 1 (by decide)).trans e1
  have k12 : g2 12 = ptrv b3 := hag4 12 (by decide)
  have k11 : g2 11 = .int .i64 q := hag4 11 (by decide)
  have k39 : g2 39 = .int .i64 q := (hag4 39 (by decide)).trans h39
  simp only [k7, h13, k39, bin_add, bin_sub, bin_mul, bin_eql, bin_neq, bin_lss, bin_leq, bin_gtr, bin_geq, un_not, un_neg, pick_true, pick_false, extract_two_0, extract_two_1, nilCheck_pointer, cond_true', cond_false', guard_tt, guard_ff, guard_tf, guard_ft, guard_undef, seqQ_normal, seqQ_ret, seqQ_exit, blockQ_ret, blockQ_normal, blockQ_exit, bodyQ_ret, bodyQ_normal, resK_nil, resK_tmp, ite_T, ite_F, upd_at, add_plain, add_zero', len22, len35, len48, fa37_0, fa37_1, fa37_2, fa77_0, fa77_1, fa103_0, fa103_1, fa125_0, fa125_1, fa125_2, fa125_3, fa125_4, Nat.reduceEqDiff]
  by_cases hla : a < n
  case neg =>
    simp only [show ¬ ((a : Int) < n) from by omega, decide_false, bin_add, bin_sub, bin_mul, bin_eql, bin_neq, bin_lss, bin_leq, bin_gtr, bin_geq, un_not, un_neg, pick_true, pick_false, extract_two_0, extract_two_1, nilCheck_pointer, cond_true', cond_false', guard_tt, guard_ff, guard_tf, guard_ft, guard_undef, seqQ_normal, seqQ_ret, seqQ_exit, blockQ_ret, blockQ_normal, blockQ_exit, bodyQ_ret, bodyQ_normal, resK_nil, resK_tmp, ite_T, ite_F, upd_at, add_plain, add_zero', len22, len35, len48, fa37_0, fa37_1, fa37_2, fa77_0, fa77_1, fa103_0, fa103_1, fa125_0, fa125_1, fa125_2, fa125_3, fa125_4, Nat.reduceEqDiff]
    rw [i64_of (by omega) (by omega)]
    have han : a = n := by omega
    rw [han] at h10a H
    have hstep : (List.range (q + 1)).foldl (ruleG (candC gm.rules ws cs) gm.rules n) (T, false) = (List.range n).foldl (rowG (candC gm.rules ws cs) gm.rules n q) s0 := by
      rw [foldl_range, hs0]
      rfl
    refine hN3 _ _ hlq ⟨hlq, rfl, ?_, ps, ?_⟩
    · rw [hstep]
      exact h10a
    · rw [hstep]
      exact H.take 2
  simp only [show ((a : Int) < n) from by omega, decide_true, bin_add, bin_sub, bin_mul, bin_eql, bin_neq, bin_lss, bin_leq, bin_gtr, bin_geq, un_not, un_neg, pick_true, pick_false, extract_two_0, extract_two_1, nilCheck_pointer, cond_true', cond_false', guard_tt, guard_ff, guard_tf, guard_ft, guard_undef, seqQ_normal, seqQ_ret, seqQ_exit, blockQ_ret, blockQ_normal, blockQ_exit, bodyQ_ret, bodyQ_normal, resK_nil, resK_tmp, ite_T, ite_F, upd_at, add_plain, add_zero', len22, len35, len48, fa37_0, fa37_1, fa37_2, fa77_0, fa77_1, fa103_0, fa103_1, fa125_0, fa125_1, fa125_2, fa125_3, fa125_4, Nat.reduceEqDiff]
  have hS1 := fine_rows hO hp0 hS0 (a := a) hlq
  generalize hs1 : (List.range a).foldl (rowG (candC gm.rules ws cs) gm.rules n q) s0 = s1 at *
  refine loop_to n a (fun b f w' => a ≤ b ∧ b ≤ n ∧ f 14 = .int .i64 b ∧ f 10 = .bool ((List.range' a (b - a)).foldl (Sh.stepG (candC gm.rules ws cs) gm.rules q a) s1).2 ∧ ∃ (ps : Nat → Option Addr × Nat), Apt w w' [bx b1 [.int .i64 nons, .int .i64 gm.toks, .slice Y gm.rules.length cy] 37, vvi 22 3 (some ⟨b2, 0, none⟩) nons (rowsE enc0 ((List.range' a (b - a)).foldl (Sh.stepG (candC gm.rules ws cs) gm.rules q a) s1).1 nons n) ps, bx b3 [.int .i64 xl, .slice Z (rul gm.rules q).2.length cz] 77])
    ⟨Nat.le_refl _, by omega, rfl, by rw [Nat.sub_self]; exact h10a, ps, by rw [Nat.sub_self]; exact H⟩ ?_
  clear H
  rintro b g3 w11 N5 hag5 ⟨hb1, hb2, h14, h10b, ps, H⟩ hN5
  have m7 : g3 7 = .int .i64 n := (hag5 7 (by decide)).trans k7
  have m8 : g3 8 = .slice (some ⟨b2, 0, none⟩) nons nons := (hag5 8 (by decide)).trans k8
  have m2 : g3 2 = .slice X ws.length cx := (hag5 2 (by decide)).trans k2
  have m1 : g3 1 = .slice Q cs.length cq := (hag5 1 (by decide)).trans k1
  have m12 : g3 12 = ptrv b3 := (hag5 12 (by decide)).trans k12
  have m11 : g3 11 = .int .i64 q := (hag5 11 (by decide)).trans k11
  have m13 : g3 13 = .int .i64 a := (hag5 13 (by decide)).trans h13
  simp only [m7, m8, m2, m1, m12, m11, m13, h14, bin_add, bin_sub, bin_mul, bin_eql, bin_neq, bin_lss, bin_leq, bin_gtr, bin_geq, un_not, un_neg, pick_true, pick_false, extract_two_0, extract_two_1, nilCheck_pointer, cond_true', cond_false', guard_tt, guard_ff, guard_tf, guard_ft, guard_undef, seqQ_normal, seqQ_ret, seqQ_exit, blockQ_ret, blockQ_normal, blockQ_exit, bodyQ_ret, bodyQ_normal, resK_nil, resK_tmp, ite_T, ite_F, upd_at, add_plain, add_zero', len22, len35, len48, fa37_0, fa37_1, fa37_2, fa77_0, fa77_1, fa103_0, fa103_1, fa125_0, fa125_1, fa125_2, fa125_3, fa125_4, Nat.reduceEqDiff]
  by_cases hlb : b < n
  case neg =>
    simp only [show ¬ ((b : Int) < n) from by omega, decide_false, bin_add, bin_sub, bin_mul, bin_eql, bin_neq, bin_lss, bin_leq, bin_gtr, bin_geq, un_not, un_neg, pick_true, pick_false, extract_two_0, extract_two_1, nilCheck_pointer, cond_true', cond_false', guard_tt, guard_ff, guard_tf, guard_ft, guard_undef, seqQ_normal, seqQ_ret, seqQ_exit, blockQ_ret, blockQ_normal, blockQ_exit, bodyQ_ret, bodyQ_normal, resK_nil, resK_tmp, ite_T, ite_F, upd_at, add_plain, add_zero', len22, len35, len48, fa37_0, fa37_1, fa37_2, fa77_0, fa77_1, fa103_0, fa103_1, fa125_0, fa125_1, fa125_2, fa125_3, fa125_4, Nat.reduceEqDiff]
    rw [i64_of (by omega) (by omega)]
    have hbn : b = n := by omega
    rw [hbn] at h10b H
    have hstep : (List.range (a + 1)).foldl (rowG (candC gm.rules ws cs) gm.rules n q) s0 = (List.range' a (n - a)).foldl (Sh.stepG (candC gm.rules ws cs) gm.rules q a) s1 := by
      rw [foldl_range, hs1]
      rfl
    refine hN4 _ _ hla ⟨hla, rfl, ?_, ps, ?_⟩
    · rw [hstep]
      exact h10b
    · rw [hstep]
      exact H
  simp only [show ((b : Int) < n) from by omega, decide_true, bin_add, bin_sub, bin_mul, bin_eql, bin_neq, bin_lss, bin_leq, bin_gtr, bin_geq, un_not, un_neg, pick_true, pick_false, extract_two_0, extract_two_1, nilCheck_pointer, cond_true', cond_false', guard_tt, guard_ff, guard_tf, guard_ft, guard_undef, seqQ_normal, seqQ_ret, seqQ_exit, blockQ_ret, blockQ_normal, blockQ_exit, bodyQ_ret, bodyQ_normal, resK_nil, resK_tmp, ite_T, ite_F, upd_at, add_plain, add_zero', len22, len35, len48, fa37_0, fa37_1, fa37_2, fa77_0, fa77_1, fa103_0, fa103_1, fa125_0, fa125_1, fa125_2, fa125_3, fa125_4, Nat.reduceEqDiff]
  have hstep : (List.range' a (b + 1 - a)).foldl (Sh.stepG (candC gm.rules ws cs) gm.rules q a) s1 = Sh.stepG (candC gm.rules ws cs) gm.rules q a ((List.range' a (b - a)).foldl (Sh.stepG (candC gm.rules ws cs) gm.rules q a) s1) b := by
    rw [show b + 1 - a = b - a + 1 from by omega, foldl_range', show a + (b - a) = b from by omega]
  have hS2 := fine_steps hO hp0 hS1 (a := a) hlq hb2
  generalize hs2 : (List.range' a (b - a)).foldl (Sh.stepG (candC gm.rules ws cs) gm.rules q a) s1 = s2 at *
  have hxn : xl < nons := by omega
  have hab := place_lt (n := n) (show a < n by omega) hlb
  have hT := (H.vv 1 rfl).tabE (by omega)
  have hxr : xl < (rowsE enc0 s2.1 nons n).length := by rw [rowsE_length]; exact hxn
  have hcell := (H.vv 1 rfl).cell hxr
  have hown := (H.vv 1 rfl).own xl hxr
  rw [vls_rowsE hxn, rowE_length] at hcell hown
  have hR0 : (ps xl).1 = some (ad (ps xl).1) := hown.ptr (by omega)
  have hab' : (a : Int) * (n : Int) = ((a * n : Nat) : Int) := by push_cast; rfl
  have hidx : IntKind.i64.wrap (IntKind.i64.wrap ((a : Int) * (n : Int)) + (b : Int)) = ((a * n + b : Nat) : Int) := by
    rw [hab', i64_of (n := ((a * n : Nat) : Int)) (by omega) (by omega), i64_of (by omega) (by omega)]
    rfl
  refine join_as (fun g w' => g 14 = .int .i64 (b : Int) ∧ g 10 = .bool (Sh.stepG (candC gm.rules ws cs) gm.rules q a s2 b).2 ∧ ∃ (ps : Nat → Option Addr × Nat), Apt w w' [bx b1 [.int .i64 nons, .int .i64 gm.toks, .slice Y gm.rules.length cy] 37, vvi 22 3 (some ⟨b2, 0, none⟩) nons (rowsE enc0 (Sh.stepG (candC gm.rules ws cs) gm.rules q a s2 b).1 nons n) ps, bx b3 [.int .i64 xl, .slice Z (rul gm.rules q).2.length cz] 77]) (fun K hK => ?_) ?_
  case refine_2 =>
    rintro g w' ⟨g14, g10, ps, H⟩
    simp only [g14, go_sem, Nat.reduceEqDiff]
    rw [i64_of (by omega) (by omega)]
    refine hN5 _ _ hlb ⟨by omega, hlb, rfl, ?_, ps, ?_⟩
    · rw [hstep]
      exact g10
    · rw [hstep]
      exact H
  rw [ldB22 (H.box 2 rfl) rfl]
  rw [← hN] at hT
  refine l10Best_c hl hw (by omega) (rul gm.rules q).2 hT hS2.1 hS2.2 (hX.gr H.gr) (t4.is.gr H.gr) t3 hR4 (fun x hx => by have := hright x hx; omega) hb1 (by omega) ?_
  have H := H.drew
  have hcell := (H.vv 1 rfl).cell hxr
  have hown := (H.vv 1 rfl).own xl hxr
  rw [vls_rowsE hxn, rowE_length] at hcell hown
  obtain ⟨hcq, hc0, hc1⟩ := hcs.at hlq
  have hQc := (hQ.gr H.gr).cell q (by rw [hcs.len]; exact hlq)
  rw [hcq] at hQc
  have hQp : 0 < cs.length → Q = some (ad Q) := hQ.ptr
  have hql : q < cs.length := by rw [hcs.len]; exact hlq
  have stay : Sh.stepG (candC gm.rules ws cs) gm.rules q a s2 b = s2 → ∀ f', f' 14 = .int .i64 (b : Int) → f' 10 = .bool s2.2 → K f' w11.drew := fun he f' q13 q9 => hK f' _ ⟨q13, by rw [he]; exact q9, ps, by rw [he]; exact H⟩
  cases hr : restG (tokC ws) nl0 s2.1 (rul gm.rules q).2 a b with
  | none =>
    simp only [encM_n, show ¬ ((0 : Int) ≤ -1) from by omega, decide_false, bin_add, bin_sub, bin_mul, bin_eql, bin_neq, bin_lss, bin_leq, bin_gtr, bin_geq, un_not, un_neg, pick_true, pick_false, extract_two_0, extract_two_1, nilCheck_pointer, cond_true', cond_false', guard_tt, guard_ff, guard_tf, guard_ft, guard_undef, seqQ_normal, seqQ_ret, seqQ_exit, blockQ_ret, blockQ_normal, blockQ_exit, bodyQ_ret, bodyQ_normal, resK_nil, resK_tmp, ite_T, ite_F, upd_at, add_plain, add_zero', len22, len35, len48, fa37_0, fa37_1, fa37_2, fa77_0, fa77_1, fa103_0, fa103_1, fa125_0, fa125_1, fa125_2, fa125_3, fa125_4, Nat.reduceEqDiff]
    exact stay (stepG_none (candC_none hr)) _ h14 h10b
  | some r =>
    have hcand := candC_some (cs := cs) hr
    have hrs := rest_small hS2.1 (tokC_small ws) nl0_small hR4 hb1 (by omega) hr
    simp only [encM_s, show ((0 : Int) ≤ (r : Int)) from by omega, decide_true, bin_add, bin_sub, bin_mul, bin_eql, bin_neq, bin_lss, bin_leq, bin_gtr, bin_geq, un_not, un_neg, pick_true, pick_false, extract_two_0, extract_two_1, nilCheck_pointer, cond_true', cond_false', guard_tt, guard_ff, guard_tf, guard_ft, guard_undef, seqQ_normal, seqQ_ret, seqQ_exit, blockQ_ret, blockQ_normal, blockQ_exit, bodyQ_ret, bodyQ_normal, resK_nil, resK_tmp, ite_T, ite_F, upd_at, add_plain, add_zero', len22, len35, len48, fa37_0, fa37_1, fa37_2, fa77_0, fa77_1, fa103_0, fa103_1, fa125_0, fa125_1, fa125_2, fa125_3, fa125_4, Nat.reduceEqDiff]
    rw [ldB3 (H.box 2 rfl) rfl]
    refine rdi (ixn48 (fun _ => rfl) hxn) (rdi (ld22 hcell) ?_)
    rw [hidx]
    refine rdi (ixn22 (fun _ => hR0) hab) (rdi (ld3 (hown.src.cell _ _ (rowE_at hla hlb))) ?_)
    have put : better (r + costQ cs q) (s2.1 xl a b) = true → ∀ (f' : Sh.F) (w' : World), f' 14 = .int .i64 (b : Int) → f' 10 = .bool true → Apt w w' [bx b1 [.int .i64 nons, .int .i64 gm.toks, .slice Y gm.rules.length cy] 37, vvi 22 3 (some ⟨b2, 0, none⟩) nons ((rowsE enc0 s2.1 nons n).set xl ((vls (rowsE enc0 s2.1 nons n) xl).set (a * n + b) (.int .i64 (enc0 (some (r + costQ cs q)))))) ps, bx b3 [.int .i64 xl, .slice Z (rul gm.rules q).2.length cz] 77] → K f' w' := fun hb f' w' q13 q9 H' => by
      have he := stepG_put (rs := gm.rules) hcand (by rw [hxl, Int.toNat_natCast]; exact hb)
      rw [hxl, Int.toNat_natCast] at he
      rw [rowsE_put hxn hla hlb] at H'
      exact hK f' w' ⟨q13, by rw [he]; exact q9, ps, by rw [he]; exact H'⟩
    have dont : ¬ better (r + costQ cs q) (s2.1 xl a b) = true → Sh.stepG (candC gm.rules ws cs) gm.rules q a s2 b = s2 := fun hb => stepG_stay hcand (by rw [hxl, Int.toNat_natCast]; exact hb)
    have henc : (r : Int) + (costQ cs q : Int) = enc0 (some (r + costQ cs q)) := by rw [enc0_s]; push_cast; rfl
    cases ho : s2.1 xl a b with
    | none =>
      simp only [enc0_n, decide_true, bin_add, bin_sub, bin_mul, bin_eql, bin_neq, bin_lss, bin_leq, bin_gtr, bin_geq, un_not, un_neg, pick_true, pick_false, extract_two_0, extract_two_1, nilCheck_pointer, cond_true', cond_false', guard_tt, guard_ff, guard_tf, guard_ft, guard_undef, seqQ_normal, seqQ_ret, seqQ_exit, blockQ_ret, blockQ_normal, blockQ_exit, bodyQ_ret, bodyQ_normal, resK_nil, resK_tmp, ite_T, ite_F, upd_at, add_plain, add_zero', len22, len35, len48, fa37_0, fa37_1, fa37_2, fa77_0, fa77_1, fa103_0, fa103_1, fa125_0, fa125_1, fa125_2, fa125_3, fa125_4, Nat.reduceEqDiff]
      have H := H.drew
      have hcell := (H.vv 1 rfl).cell hxr
      rw [vls_rowsE hxn, rowE_length] at hcell
      have hQc := (hQ.gr H.gr).cell q (by rw [hcs.len]; exact hlq)
      rw [hcq] at hQc
      rw [ldB3 (H.box 2 rfl) rfl]
      refine rdi (ixn48 (fun _ => rfl) hxn) (rdi (ld22 hcell) ?_)
      refine rdi (ixn22 hQp hql) (rdi (ld3 hQc) ?_)
      simp only [bin_add, bin_sub, bin_mul, bin_eql, bin_neq, bin_lss, bin_leq, bin_gtr, bin_geq, un_not, un_neg, pick_true, pick_false, extract_two_0, extract_two_1, nilCheck_pointer, cond_true', cond_false', guard_tt, guard_ff, guard_tf, guard_ft, guard_undef, seqQ_normal, seqQ_ret, seqQ_exit, blockQ_ret, blockQ_normal, blockQ_exit, bodyQ_ret, bodyQ_normal, resK_nil, resK_tmp, ite_T, ite_F, upd_at, add_plain, add_zero', len22, len35, len48, fa37_0, fa37_1, fa37_2, fa77_0, fa77_1, fa103_0, fa103_1, fa125_0, fa125_1, fa125_2, fa125_3, fa125_4, Nat.reduceEqDiff]
      rw [i64_of (n := (r : Int) + (costQ cs q : Int)) (by omega) (by omega), henc]
      refine rdi (ixn22 (fun _ => hR0) hab) ?_
      refine storeVV H 1 xl (m := a * n + b) rfl (by decide) sz3 rfl rfl hxr (by rw [vls_rowsE hxn, rowE_length]; exact hab) fun w12 H => ?_
      simp only [List.nil_append, List.cons_append, List.set_cons_zero, List.set_cons_succ] at H
      exact put (by rw [ho]; rfl) _ _ h14 rfl H
    | some o =>
      have hpos := hS2.2 _ _ _ _ ho
      simp only [enc0_s, show ¬ ((o : Int) = 0) from by omega, decide_false, bin_add, bin_sub, bin_mul, bin_eql, bin_neq, bin_lss, bin_leq, bin_gtr, bin_geq, un_not, un_neg, pick_true, pick_false, extract_two_0, extract_two_1, nilCheck_pointer, cond_true', cond_false', guard_tt, guard_ff, guard_tf, guard_ft, guard_undef, seqQ_normal, seqQ_ret, seqQ_exit, blockQ_ret, blockQ_normal, blockQ_exit, bodyQ_ret, bodyQ_normal, resK_nil, resK_tmp, ite_T, ite_F, upd_at, add_plain, add_zero', len22, len35, len48, fa37_0, fa37_1, fa37_2, fa77_0, fa77_1, fa103_0, fa103_1, fa125_0, fa125_1, fa125_2, fa125_3, fa125_4, Nat.reduceEqDiff]
      have hcv := hown.src.cell _ _ (rowE_at (enc := enc0) (T := s2.1) (x := xl) hla hlb)
      rw [ho, enc0_s] at hcv
      refine rdi (ixn22 hQp hql) (rdi (ld3 hQc) ?_)
      simp only [bin_add, bin_sub, bin_mul, bin_eql, bin_neq, bin_lss, bin_leq, bin_gtr, bin_geq, un_not, un_neg, pick_true, pick_false, extract_two_0, extract_two_1, nilCheck_pointer, cond_true', cond_false', guard_tt, guard_ff, guard_tf, guard_ft, guard_undef, seqQ_normal, seqQ_ret, seqQ_exit, blockQ_ret, blockQ_normal, blockQ_exit, bodyQ_ret, bodyQ_normal, resK_nil, resK_tmp, ite_T, ite_F, upd_at, add_plain, add_zero', len22, len35, len48, fa37_0, fa37_1, fa37_2, fa77_0, fa77_1, fa103_0, fa103_1, fa125_0, fa125_1, fa125_2, fa125_3, fa125_4, Nat.reduceEqDiff]
      rw [i64_of (n := (r : Int) + (costQ cs q : Int)) (by omega) (by omega)]
      rw [ldB3 (H.box 2 rfl) rfl]
      refine rdi (ixn48 (fun _ => rfl) hxn) (rdi (ld22 hcell) ?_)
      rw [hidx]
      refine rdi (ixn22 (fun _ => hR0) hab) (rdi (ld3 hcv) ?_)
      simp only [bin_add, bin_sub, bin_mul, bin_eql, bin_neq, bin_lss, bin_leq, bin_gtr, bin_geq, un_not, un_neg, pick_true, pick_false, extract_two_0, extract_two_1, nilCheck_pointer, cond_true', cond_false', guard_tt, guard_ff, guard_tf, guard_ft, guard_undef, seqQ_normal, seqQ_ret, seqQ_exit, blockQ_ret, blockQ_normal, blockQ_exit, bodyQ_ret, bodyQ_normal, resK_nil, resK_tmp, ite_T, ite_F, upd_at, add_plain, add_zero', len22, len35, len48, fa37_0, fa37_1, fa37_2, fa77_0, fa77_1, fa103_0, fa103_1, fa125_0, fa125_1, fa125_2, fa125_3, fa125_4, Nat.reduceEqDiff]
      by_cases hmo : r + costQ cs q < o
      · simp only [show ((r : Int) + (costQ cs q : Int) < (o : Int)) from by omega, decide_true, bin_add, bin_sub, bin_mul, bin_eql, bin_neq, bin_lss, bin_leq, bin_gtr, bin_geq, un_not, un_neg, pick_true, pick_false, extract_two_0, extract_two_1, nilCheck_pointer, cond_true', cond_false', guard_tt, guard_ff, guard_tf, guard_ft, guard_undef, seqQ_normal, seqQ_ret, seqQ_exit, blockQ_ret, blockQ_normal, blockQ_exit, bodyQ_ret, bodyQ_normal, resK_nil, resK_tmp, ite_T, ite_F, upd_at, add_plain, add_zero', len22, len35, len48, fa37_0, fa37_1, fa37_2, fa77_0, fa77_1, fa103_0, fa103_1, fa125_0, fa125_1, fa125_2, fa125_3, fa125_4, Nat.reduceEqDiff]
        have H := H.drew
        have hcell := (H.vv 1 rfl).cell hxr
        rw [vls_rowsE hxn, rowE_length] at hcell
        have hQc := (hQ.gr H.gr).cell q (by rw [hcs.len]; exact hlq)
        rw [hcq] at hQc
        rw [ldB3 (H.box 2 rfl) rfl]
        refine rdi (ixn48 (fun _ => rfl) hxn) (rdi (ld22 hcell) ?_)
        refine rdi (ixn22 hQp hql) (rdi (ld3 hQc) ?_)
        simp only [bin_add, bin_sub, bin_mul, bin_eql, bin_neq, bin_lss, bin_leq, bin_gtr, bin_geq, un_not, un_neg, pick_true, pick_false, extract_two_0, extract_two_1, nilCheck_pointer, cond_true', cond_false', guard_tt, guard_ff, guard_tf, guard_ft, guard_undef, seqQ_normal, seqQ_ret, seqQ_exit, blockQ_ret, blockQ_normal, blockQ_exit, bodyQ_ret, bodyQ_normal, resK_nil, resK_tmp, ite_T, ite_F, upd_at, add_plain, add_zero', len22, len35, len48, fa37_0, fa37_1, fa37_2, fa77_0, fa77_1, fa103_0, fa103_1, fa125_0, fa125_1, fa125_2, fa125_3, fa125_4, Nat.reduceEqDiff]
        rw [i64_of (n := (r : Int) + (costQ cs q : Int)) (by omega) (by omega), henc]
        refine rdi (ixn22 (fun _ => hR0) hab) ?_
        refine storeVV H 1 xl (m := a * n + b) rfl (by decide) sz3 rfl rfl hxr (by rw [vls_rowsE hxn, rowE_length]; exact hab) fun w12 H => ?_
        simp only [List.nil_append, List.cons_append, List.set_cons_zero, List.set_cons_succ] at H
        exact put (by rw [ho]; exact decide_eq_true hmo) _ _ h14 rfl H
      · simp only [show ¬ ((r : Int) + (costQ cs q : Int) < (o : Int)) from by omega, decide_false, bin_add, bin_sub, bin_mul, bin_eql, bin_neq, bin_lss, bin_leq, bin_gtr, bin_geq, un_not, un_neg, pick_true, pick_false, extract_two_0, extract_two_1, nilCheck_pointer, cond_true', cond_false', guard_tt, guard_ff, guard_tf, guard_ft, guard_undef, seqQ_normal, seqQ_ret, seqQ_exit, blockQ_ret, blockQ_normal, blockQ_exit, bodyQ_ret, bodyQ_normal, resK_nil, resK_tmp, ite_T, ite_F, upd_at, add_plain, add_zero', len22, len35, len48, fa37_0, fa37_1, fa37_2, fa77_0, fa77_1, fa103_0, fa103_1, fa125_0, fa125_1, fa125_2, fa125_3, fa125_4, Nat.reduceEqDiff]
        exact stay (dont (by rw [ho]; intro h; exact hmo (of_decide_eq_true h))) _ h14 h10b
end Go.Proofs.Ytiohaeckagjebaa

/- Contracts: how few changes make a symbol, a row of symbols (the program's one, rest). -/
set_option linter.unusedVariables false
set_option linter.unusedSimpArgs false
set_option maxRecDepth 100000
namespace Go.Proofs.Ytiohaeckagjebaa
open Go Go.Sh Go.RowKit
end Go.Proofs.Ytiohaeckagjebaa

/- Contract: the program's table of what derives what. -/
set_option linter.unusedVariables false
set_option linter.unusedSimpArgs false
set_option maxRecDepth 100000
namespace Go.Sh
open Go
end Go.Sh
namespace Go.Proofs.Ytiohaeckagjebaa
open Go Go.Sh Go.RowKit
end Go.Proofs.Ytiohaeckagjebaa

/- Contract: the program's table of mending (mends). -/
set_option linter.unusedVariables false
set_option linter.unusedSimpArgs false
set_option maxRecDepth 100000
namespace Go.Proofs.Ytiohaeckagjebaa
open Go Go.Sh Go.RowKit
end Go.Proofs.Ytiohaeckagjebaa

/- Where there are trees there is a span; what the reference and the program reckon with, kept at most M. -/
set_option linter.unusedVariables false
set_option linter.unusedSimpArgs false
set_option maxRecDepth 100000
namespace Go.Sh
open Go
end Go.Sh

/- Bg: bodies of functions as terms of the frame calculus, printed by shgen.py of this repository. -/
set_option linter.unusedVariables false
set_option maxRecDepth 100000
namespace Go.Proofs.Ytiohaeckagjebaa
open Go Go.Sh

/-! loop.example/g00758/laws.FnExactCountByLong -/
/-! loop.example/g00758/laws.FnExactSameUpTo -/
/-! loop.example/g00758/laws.FnExactNearWord -/
/-! loop.example/g00758/laws.FnExactFirstUnlike -/
/-! loop.example/g00758/spec.CountByLong -/
/-! loop.example/g00758/impl.CountByLong -/
/-! loop.example/g00758/spec.SameUpTo -/
/-! loop.example/g00758/impl.SameUpTo -/
/-! loop.example/g00758/spec.NearWord -/
/-! loop.example/g00758/impl.NearWord -/
/-! loop.example/g00758/spec.FirstUnlike -/
/-! loop.example/g00758/impl.FirstUnlike -/
/-! loop.example/g00758/spec.ShortWords -/
/-! loop.example/g00758/impl.ShortWords -/
/-! loop.example/g00758/spec.l20Unlike -/
/-! slices.EqualFunc[[][]int,[][]int,[]int,[]int] -/
/-! loop.example/g00758/impl.SameUpTo$1 -/
/-! loop.example/g00758/spec.l17Apart -/
/-! loop.example/g00758/impl.apart -/
/-! loop.example/g00758/impl.compareWords -/
/-! loop.example/g00758/impl.wordsOf -/
/-! loop.example/g00758/spec.l20Less -/
/-! loop.example/g00758/spec.l1Least -/
/-! cmp.Or[int] -/
/-! cmp.Compare[int] -/
/-! slices.Compare[[]int,int] -/
/-! loop.example/g00758/spec.l5Less -/
/-! cmp.isNaN[int] -/
end Go.Proofs.Ytiohaeckagjebaa

/- Bk: bodies of functions as terms of the frame calculus, printed by shgen.py of this repository. -/
set_option linter.unusedVariables false
set_option maxRecDepth 100000
namespace Go.Proofs.Ytiohaeckagjebaa
open Go Go.Sh

/-! loop.example/g00758/laws.FnExactCountSized -/
/-! loop.example/g00758/spec.CountSized -/
/-! loop.example/g00758/impl.CountSized -/
/-! loop.example/g00758/spec.l10Sized -/
/-! (*loop.example/g00758/impl.sizedCount).trees -/
/-! loop.example/g00758/spec.l10Cap -/
/-! loop.example/g00758/spec.l10Row -/
/-! loop.example/g00758/impl.plus -/
/-! (*loop.example/g00758/impl.sizedCount).rest -/
/-! loop.example/g00758/impl.times -/
end Go.Proofs.Ytiohaeckagjebaa

/- Contract: in how many ways symbols have trees of a size (the reference's l10Row). -/
set_option linter.unusedVariables false
set_option linter.unusedSimpArgs false
set_option maxRecDepth 100000
namespace Go.Sh
open Go
/-- A table of counts in memory: nonterminal, from and to, size. -/
structure TabR (w : World) (X : Option Addr) (nons n m : Nat) (t : Nat → Nat → Nat → Nat → Nat) : Prop where
  ptr : 0 < nons → X = some (ad X)
  row : ∀ A, A < nons → ∃ Y c, w.cell? ((ad X).add A) = some (.slice Y (n * n) c) ∧ Y = some (ad Y) ∧ ∀ i j, i < n → j < n → ∃ Z z, w.cell? ((ad Y).add (i * n + j)) = some (.slice Z (m + 1) z) ∧ Z = some (ad Z) ∧ ∀ k, k ≤ m → w.cell? ((ad Z).add k) = some (.int .i64 (t A i j k))
theorem TabR.gr {w w' : World} {X : Option Addr} {nons n m : Nat} {t : Nat → Nat → Nat → Nat → Nat} (h : TabR w X nons n m t) (g : Gr w w') : TabR w' X nons n m t := ⟨h.ptr, fun A hA => by
  obtain ⟨Y, c, h1, h2, h3⟩ := h.row A hA
  refine ⟨Y, c, g.cell h1, h2, fun i j hi hj => ?_⟩
  obtain ⟨Z, z, h4, h5, h6⟩ := h3 i j hi hj
  exact ⟨Z, z, g.cell h4, h5, fun k hk => g.cell (h6 k hk)⟩⟩
end Go.Sh
namespace Go.Proofs.Ytiohaeckagjebaa
open Go Go.Sh Go.RowKit
end Go.Proofs.Ytiohaeckagjebaa

/- A family of slices of numbers that are owned (their heads lie elsewhere). -/
set_option linter.unusedVariables false
set_option linter.unusedSimpArgs false
set_option maxRecDepth 100000
namespace Go.Sh
open Go
structure Fam (e : Nat) (w : World) (B : Nat) (ls : List (List Int)) (ps : Nat → Option Addr × Nat) : Prop where
  own : ∀ j, j < ls.length → Own e w B (ps j).1 (ps j).2 (rgt ls j)
  two : ∀ i j, i < ls.length → j < ls.length → i ≠ j → blk (ps i).1 = none ∨ blk (ps i).1 ≠ blk (ps j).1
def FootL (ps : Nat → Option Addr × Nat) (n q : Nat) : Prop := ∃ l, l < n ∧ blk (ps l).1 = some q
section
variable {e B B' : Nat} {w w' w0 : World} {ls : List (List Int)} {ps : Nat → Option Addr × Nat} {L : List Thing}
theorem Fam.same (h : Fam e w B ls ps) (hs : ∀ q, FootL ps ls.length q → w'.heap[q]? = w.heap[q]?) : Fam e w' B ls ps :=
  ⟨fun j hj => Row.same (h.own j hj) fun q hq => hs q ⟨j, hj, hq⟩, h.two⟩
theorem Fam.up (h : Fam e w B ls ps) (hs : ∀ q, FootL ps ls.length q → B' ≤ q) : Fam e w B' ls ps :=
  ⟨fun j hj => Row.up (h.own j hj) fun q hq => hs q ⟨j, hj, hq⟩, h.two⟩
theorem Fam.mono (h : Fam e w B ls ps) (hb : B' ≤ B) : Fam e w B' ls ps := ⟨fun j hj => Row.mono (h.own j hj) hb, h.two⟩
theorem Fam.foot (h : Fam e w B ls ps) {q : Nat} (hq : FootL ps ls.length q) : B ≤ q ∧ q < w.heap.size := by
  obtain ⟨l, hl, hq⟩ := hq
  exact Row.ge (h.own l hl) hq
end
end Go.Sh
namespace Go.Proofs.Ytiohaeckagjebaa
open Go Go.Sh Go.RowKit
end Go.Proofs.Ytiohaeckagjebaa

/- A table of counts: heads and leaves. -/
set_option linter.unusedVariables false
set_option linter.unusedSimpArgs false
set_option maxRecDepth 100000
namespace Go.Sh
open Go
/-- Where a leaf of a table stands. -/
def idxT (n A i j : Nat) : Nat := A * (n * n) + (i * n + j)
theorem idxT_lt {nons n A i j : Nat} (hA : A < nons) (hi : i < n) (hj : j < n) : idxT n A i j < nons * (n * n) := by
  have h1 := place_lt hi hj
  have h2 : (A + 1) * (n * n) ≤ nons * (n * n) := Nat.mul_le_mul_right _ hA
  rw [Nat.add_mul] at h2
  unfold idxT
  omega
theorem idxT_inj {n A i j A' i' j' : Nat} (hi : i < n) (hj : j < n) (hi' : i' < n) (hj' : j' < n) (h : idxT n A i j = idxT n A' i' j') : A = A' ∧ i = i' ∧ j = j' := by
  have h1 := place_lt hi hj
  have h2 := place_lt hi' hj'
  have hn : 0 < n := by omega
  have hnn : 0 < n * n := Nat.mul_pos hn hn
  unfold idxT at h
  have e1 : A = A' := by
    have := congrArg (· / (n * n)) h
    simp only [Nat.mul_comm _ (n * n), Nat.mul_add_div hnn, Nat.div_eq_of_lt h1, Nat.div_eq_of_lt h2, Nat.add_zero] at this
    exact this
  subst e1
  have h3 : i * n + j = i' * n + j' := by omega
  have e2 : i = i' := by
    have := congrArg (· / n) h3
    simp only [Nat.mul_comm _ n, Nat.mul_add_div hn, Nat.div_eq_of_lt hj, Nat.div_eq_of_lt hj', Nat.add_zero] at this
    exact this
  subst e2
  exact ⟨rfl, rfl, by omega⟩
theorem rgt_put {ls : List (List Int)} {i j : Nat} {l : List Int} (hi : i < ls.length) : rgt (ls.set i l) j = if j = i then l else rgt ls j := by
  simp only [rgt, List.getD_eq_getElem?_getD, List.getElem?_set]
  by_cases hij : i = j
  · subst hij
    simp [hi]
  · rw [if_neg hij, if_neg (fun e => hij e.symm)]
theorem getD_put {l : List Int} {i j : Nat} {x : Int} (hi : i < l.length) : (l.set i x).getD j 0 = if j = i then x else l.getD j 0 := by
  simp only [List.getD_eq_getElem?_getD, List.getElem?_set]
  by_cases hij : i = j
  · subst hij
    simp [hi]
  · rw [if_neg hij, if_neg (fun e => hij e.symm)]
structure LeafT (ls : List (List Int)) (nons n m : Nat) (t : Nat → Nat → Nat → Nat → Nat) : Prop where
  len : ls.length = nons * (n * n)
  row : ∀ A i j, A < nons → i < n → j < n → (rgt ls (idxT n A i j)).length = m + 1
  val : ∀ A i j k, A < nons → i < n → j < n → k ≤ m → (rgt ls (idxT n A i j)).getD k 0 = (t A i j k : Int)
theorem LeafT.congr {ls : List (List Int)} {nons n m : Nat} {t t' : Nat → Nat → Nat → Nat → Nat} (h : LeafT ls nons n m t) (he : ∀ A i j k, A < nons → i < n → j < n → k ≤ m → t' A i j k = t A i j k) : LeafT ls nons n m t' :=
  ⟨h.len, h.row, fun A i j k hA hi hj hk => by rw [h.val A i j k hA hi hj hk, he A i j k hA hi hj hk]⟩
theorem LeafT.put {ls : List (List Int)} {nons n m : Nat} {t t' : Nat → Nat → Nat → Nat → Nat} (h : LeafT ls nons n m t) {A i j k v : Nat} (hA : A < nons) (hi : i < n) (hj : j < n) (hk : k ≤ m) (h1 : t' A i j k = v)
    (h2 : ∀ A' i' j' k', A' < nons → i' < n → j' < n → k' ≤ m → ¬ (A' = A ∧ i' = i ∧ j' = j ∧ k' = k) → t' A' i' j' k' = t A' i' j' k') : LeafT (ls.set (idxT n A i j) ((rgt ls (idxT n A i j)).set k (v : Int))) nons n m t' := by
  have hlt : idxT n A i j < ls.length := by rw [h.len]; exact idxT_lt hA hi hj
  refine ⟨by rw [List.length_set]; exact h.len, fun A' i' j' hA' hi' hj' => ?_, fun A' i' j' k' hA' hi' hj' hk' => ?_⟩
  · rw [rgt_put hlt]
    split
    · rw [List.length_set]; exact h.row A i j hA hi hj
    · exact h.row A' i' j' hA' hi' hj'
  · rw [rgt_put hlt]
    split
    · rename_i he
      obtain ⟨rfl, rfl, rfl⟩ := idxT_inj hi' hj' hi hj he
      rw [getD_put (by rw [h.row _ _ _ hA hi hj]; omega)]
      split
      · rename_i hkk
        subst hkk
        rw [h1]
      · rename_i hkk
        rw [h.val _ _ _ _ hA hi hj hk', h2 _ _ _ _ hA hi hj hk' (fun hh => hkk hh.2.2.2)]
    · rename_i he
      rw [h.val _ _ _ _ hA' hi' hj' hk', h2 _ _ _ _ hA' hi' hj' hk' (fun hh => he (by rw [hh.1, hh.2.1, hh.2.2.1]))]
structure HeadT (hs : List (List Value)) (ps : Nat → Option Addr × Nat) (nons n m : Nat) : Prop where
  len : hs.length = nons
  row : ∀ A, A < nons → (vls hs A).length = n * n
  val : ∀ A p, A < nons → p < n * n → (vls hs A)[p]? = some (.slice (ps (A * (n * n) + p)).1 (m + 1) (ps (A * (n * n) + p)).2)
section
variable {e e1 e2 nons n m c B1 B2 : Nat} {w : World} {X : Option Addr} {hs : List (List Value)} {hp ps : Nat → Option Addr × Nat} {ls : List (List Int)} {t : Nat → Nat → Nat → Nat → Nat}
end
end Go.Sh

/- Contract: the reference's numbers of trees of all sizes (l10Sized). -/
set_option linter.unusedVariables false
set_option linter.unusedSimpArgs false
set_option maxRecDepth 100000
namespace Go.Sh
open Go
/-- Heads while they are laid: kk rows, c leaves. -/
structure HeadP (hs : List (List Value)) (ps : Nat → Option Addr × Nat) (nons nn m kk c : Nat) : Prop where
  len : hs.length = nons
  row : ∀ A, A < kk → (vls hs A).length = nn
  val : ∀ A p, A < kk → p < nn → A * nn + p < c → (vls hs A)[p]? = some (.slice (ps (A * nn + p)).1 (m + 1) (ps (A * nn + p)).2)
section
variable {P : Program} {k : Value → World → Prop} {w0 w : World} {L : List Thing}
end
end Go.Sh
namespace Go.Proofs.Ytiohaeckagjebaa
open Go Go.Sh Go.RowKit
end Go.Proofs.Ytiohaeckagjebaa

/- Contracts of what PumpWord reaches, third part. -/
set_option linter.unusedVariables false
set_option linter.unusedSimpArgs false
set_option maxRecDepth 100000
namespace Go.Sh
open Go
end Go.Sh
namespace Go.Proofs.Ytiohaeckagjebaa
open Go Go.Sh Go.RowKit

end Go.Proofs.Ytiohaeckagjebaa

/- The law of PumpWord, over its contracts. -/
set_option linter.unusedVariables false
set_option linter.unusedSimpArgs false
set_option maxRecDepth 100000
namespace Go.Proofs.Ytiohaeckagjebaa
open Go Go.Sh Go.RowKit

end Go.Proofs.Ytiohaeckagjebaa

/- Contracts: words of tokens, by the reference and by the program; what can be pumped at given places. -/
set_option linter.unusedVariables false
set_option linter.unusedSimpArgs false
set_option maxRecDepth 100000
namespace Go.Sh
open Go
def wordB (toks : Int) (ws : List Int) : Bool := decide (ws.length ≤ 10) && allB ws 0 (toks - 1)
theorem wordB_len {toks : Int} {ws : List Int} (h : wordB toks ws = true) : ws.length ≤ 10 := by
  simp only [wordB, Bool.and_eq_true, decide_eq_true_eq] at h
  exact h.1
theorem wordB_tok {toks : Int} {ws : List Int} (h : wordB toks ws = true) (ht : toks ≤ 4) : ∀ t ∈ ws, 0 ≤ t ∧ t ≤ 100 := fun t hm => by
  simp only [wordB, Bool.and_eq_true, decide_eq_true_eq, allB, List.all_eq_true, inB] at h
  have := h.2 t hm
  omega
end Go.Sh
namespace Go.Proofs.Ytiohaeckagjebaa
open Go Go.Sh Go.RowKit

theorem l1Word_c {F : Nat → Prop} {w : World} {v : Value} {gm : Gram} {X : Option Addr} {n cx : Nat} {ws : List Int} (hv : GramV F w v gm) (hg : goodG gm = true) (hX : Ints w X ws) (hn : n = ws.length) {k : Value → World → Prop} (hk : ∀ w', Gr w w' → k (.bool (wordB gm.toks ws)) w') :
    CallK Try.prog 112 [v, .slice X n cx] k w := by
  subst hn
  obtain ⟨Y, cy, rfl, hc, hy⟩ := hv
  have ht := good_toks hg
  refine enter112 ?_
  unfold S112
  have H := Apt.nil w
  refine boxH H fun b1 w1 H => ?_
  simp only [go_sem, Nat.reduceEqDiff]
  unfold wordB at hk
  by_cases hl : ws.length ≤ 10
  case neg =>
    simp only [show ¬ ((ws.length : Int) ≤ 10) from by omega, decide_false, go_sem, Nat.reduceEqDiff]
    simpa only [hl, decide_false, Bool.false_and] using hk _ H.gr
  simp only [show ((ws.length : Int) ≤ 10) from by omega, decide_true, go_sem, Nat.reduceEqDiff]
  rw [ldB3 (H.box 0 rfl) rfl]
  simp only [go_sem, Nat.reduceEqDiff]
  rw [i64_of (by omega) (by omega)]
  refine l1All_c (hX.gr H.gr) fun w2 g2 => ?_
  have H := H.step g2
  simpa only [hl, decide_true, Bool.true_and] using hk _ H.gr
theorem isWord1_c {x toks : Int} {w : World} {b t : Nat} (hB : Box w b [.int .i64 toks] t) (h1 : 1 ≤ toks) (h4 : toks ≤ 4) {k : Value → World → Prop} (hk : k (.bool (!inB x 0 (toks - 1))) w) : CallK Try.prog 146 [.int .i64 x, ptrv b] k w := by
  refine enter146 ?_
  unfold S146
  rw [ldB3 hB rfl]
  simp only [go_sem, Nat.reduceEqDiff]
  rw [i64_of (by omega) (by omega)]
  refine in_c ?_
  simp only [go_sem, Nat.reduceEqDiff]
  exact hk
theorem isWord_c {w : World} {X : Option Addr} {n cx : Nat} {toks : Int} {ws : List Int} (hX : Ints w X ws) (hn : n = ws.length) (h1 : 1 ≤ toks) (h4 : toks ≤ 4) {k : Value → World → Prop} (hk : ∀ w', Gr w w' → k (.bool (wordB toks ws)) w') :
    CallK Try.prog 99 [.int .i64 toks, .slice X n cx] k w := by
  subst hn
  refine enter99 ?_
  unfold S99
  have H := Apt.nil w
  refine boxH H fun b1 w1 H => ?_
  simp only [go_sem, Nat.reduceEqDiff]
  unfold wordB at hk
  by_cases hl : ws.length ≤ 10
  case neg =>
    simp only [show ¬ ((ws.length : Int) ≤ 10) from by omega, decide_false, go_sem, Nat.reduceEqDiff]
    simpa only [hl, decide_false, Bool.false_and] using hk _ H.gr
  simp only [show ((ws.length : Int) ≤ 10) from by omega, decide_true, go_sem, Nat.reduceEqDiff]
  have hb : Box w1 b1 [.int .i64 toks] 3 := H.box 0 rfl
  have hp : Pred 4 (.func (.func 146) [].toArray [ptrv b1].toArray) (fun x => !inB x 0 (toks - 1)) w1 := fun w3 g3 x k hk =>
    callVc (isWord1_c (hb.gr g3) h1 h4 (hk w3 (Gr.refl w3)))
  refine containsFunc_c (hX.gr H.gr) hp fun w3 g3 => ?_
  have H := H.step g3
  simp only [go_sem, Nat.reduceEqDiff]
  have := hk _ H.gr
  simp only [hl, decide_true, Bool.true_and] at this
  rwa [show allB ws 0 (toks - 1) = !ws.any (fun x => !inB x 0 (toks - 1)) from by simp [allB, List.not_any_eq_all_not]] at this
end Go.Proofs.Ytiohaeckagjebaa

/- Contract: CountSized of the reference. -/
set_option linter.unusedVariables false
set_option linter.unusedSimpArgs false
set_option maxRecDepth 100000
namespace Go.Sh
open Go
end Go.Sh
namespace Go.Proofs.Ytiohaeckagjebaa
open Go Go.Sh Go.RowKit
end Go.Proofs.Ytiohaeckagjebaa

/- A map as memory, among things that lie apart: every entry is right. -/
set_option linter.unusedVariables false
set_option linter.unusedSimpArgs false
set_option maxRecDepth 100000
namespace Go.Sh
open Go Go.WideMaps
/-- A map's block; every entry is right. -/
def mpi (Good : Value → Value → Prop) (b : Nat) : Thing := ⟨fun w => ∃ es clock, w.heap[b]? = some (.map es clock) ∧ ∀ e ∈ es.toList, Good e.key e.val, fun q => q = b⟩
section
variable {P : Program} {k : Value → World → Prop} {w0 w : World} {L : List Thing} {Good : Value → Value → Prop}
theorem makeMapH (H : Apt w0 w L) {t : TypeId} (h : ∀ b w', Apt w0 w' (L ++ [mpi Good b]) → k (.map (some b)) w') : Do P (sMakeMap t) k w := by
  have e' : (sMakeMap t).run P w = .ok (.value (.map (some w.heap.size))) (w.alloc (.map #[] 0)) := by
    simp only [sMakeMap, Sem.run_bind, run_makeMap_plain]
    rfl
  rw [do_value e']
  refine h _ _ (H.add (gr_alloc w _) (mpi Good w.heap.size) (fun q hq => by cases hq; exact Nat.le_refl _) (fun q hq => by cases hq; exact (Array.getElem?_eq_some_iff.1 (heap_alloc_new w (.map #[] 0))).1) fun w'' hs => ⟨#[], 0, ?_, fun e he => by simp at he⟩)
  rw [hs _ rfl]
  exact heap_alloc_new w _
end
end Go.Sh
namespace Go.Proofs.Ytiohaeckagjebaa
open Go Go.Sh Go.RowKit Go.WideMaps
end Go.Proofs.Ytiohaeckagjebaa

/- Contracts: sums and products kept at most one more than is told (the program's plus, times). -/
set_option linter.unusedVariables false
set_option linter.unusedSimpArgs false
set_option maxRecDepth 100000
namespace Go.Proofs.Ytiohaeckagjebaa
open Go Go.Sh Go.RowKit
end Go.Proofs.Ytiohaeckagjebaa

/- Contract: the program's numbers of trees by size (trees, rest). -/
set_option linter.unusedVariables false
set_option linter.unusedSimpArgs false
set_option maxRecDepth 100000
namespace Go.Sh
open Go
def keyV (a b c d : Nat) : Value := .agg #[.int .i64 (a : Int), .int .i64 (b : Int), .int .i64 (c : Int), .int .i64 (d : Int), .int .i64 0]
theorem keyV_inj {a b c d a' b' c' d' : Nat} (h : keyV a b c d = keyV a' b' c' d') : a = a' ∧ b = b' ∧ c = c' ∧ d = d' := by
  simp only [keyV, Value.agg.injEq, Array.mk.injEq, List.cons.injEq, Value.int.injEq, true_and, and_true, Int.natCast_inj] at h
  exact h
/-- What the memory holds. -/
def GoodC (M : Nat) (rs : List RuleL) (ws : List Int) (key v : Value) : Prop :=
  ∃ q p i j s : Nat, q ≤ 16 ∧ p ≤ 4 ∧ i ≤ 10 ∧ j ≤ 10 ∧ s ≤ 20 ∧ key = keyV (q * 5 + p) i j s ∧ v = .int .i64 ((min M (cntR (cntC rs ws) ws ((rul rs q).2.drop p) i j s) : Nat) : Int)
theorem GoodC.get {M : Nat} {rs : List RuleL} {ws : List Int} {q p i j s : Nat} {v : Value} (hp : p ≤ 4) (h : GoodC M rs ws (keyV (q * 5 + p) i j s) v) : v = .int .i64 ((min M (cntR (cntC rs ws) ws ((rul rs q).2.drop p) i j s) : Nat) : Int) := by
  obtain ⟨q', p', i', j', s', h1, h2, h3, h4, h5, h6, rfl⟩ := h
  obtain ⟨e1, rfl, rfl, rfl⟩ := keyV_inj h6
  obtain ⟨rfl, rfl⟩ : q = q' ∧ p = p' := by omega
  rfl
end Go.Sh
namespace Go.Proofs.Ytiohaeckagjebaa
open Go Go.Sh Go.RowKit Go.WideMaps
end Go.Proofs.Ytiohaeckagjebaa

/- Contract: CountSized of the program. -/
set_option linter.unusedVariables false
set_option linter.unusedSimpArgs false
set_option maxRecDepth 100000
namespace Go.Sh
open Go
section
variable {P : Program} {k : Value → World → Prop} {w0 w : World} {L : List Thing} {Good : Value → Value → Prop}
end
end Go.Sh
namespace Go.Proofs.Ytiohaeckagjebaa
open Go Go.Sh Go.RowKit
end Go.Proofs.Ytiohaeckagjebaa

/- Contract: the program's table of least costs (costs). -/
set_option linter.unusedVariables false
set_option linter.unusedSimpArgs false
set_option maxRecDepth 100000
namespace Go.Sh
open Go
theorem fill125 {a b c x y m z0 z1 z2 z3 z4 z5 : Value} (hx : x.cells = #[x]) (hy : y.cells = #[y]) (hm : m.cells = #[m]) {R : List Value} (hR : R.length = 726) :
    Instr.fill ([(0, 3), (3, 1), (4, 1), (5, 726), (731, 1)].toArray[·]?) (z0 :: z1 :: z2 :: z3 :: z4 :: (R ++ [z5])).toArray [(0, .agg #[a, b, c]), (1, x), (2, y), (4, m)] = some (a :: b :: c :: x :: y :: (R ++ [m])).toArray := by
  have e : (Value.agg #[a, b, c]).cells = #[a, b, c] := rfl
  have hs : (R ++ [z5]).set 726 m = R ++ [m] := by
    rw [List.set_append_right _ _ (by omega), hR]
    rfl
  simp [Instr.fill, hx, hy, hm, e, hR, hs]
end Go.Sh
namespace Go.Proofs.Ytiohaeckagjebaa
open Go Go.Sh Go.RowKit
theorem inf125' : Inf Try.prog 125 (.agg (Value.int .i64 0 :: .int .i64 0 :: .slice none 0 0 :: .slice none 0 0 :: .slice none 0 0 :: (List.replicate 726 (Value.int .i64 0) ++ [.map none])).toArray) 732 5904 := inf_of (by kernel_rfl)
theorem bd125 (n t r x y m : Value) (hx : x.cells = #[x]) (hy : y.cells = #[y]) (hm : m.cells = #[m]) {S : WS} {k : Value → Prop} : Rd Try.prog S (sBuild 125 [(0, .agg #[n, t, r]), (1, x), (2, y), (4, m)]) k = k (.agg (n :: t :: r :: x :: y :: (List.replicate 726 (Value.int .i64 0) ++ [m])).toArray) :=
  rd_buildN (ps := [(0, 3), (3, 1), (4, 1), (5, 726), (731, 1)]) Try.underlying125 inf125' ⟨⟨rfl, sz37⟩, ⟨rfl, sz22⟩, ⟨rfl, sz22⟩, ⟨rfl, sz122⟩, ⟨rfl, sz123⟩, trivial⟩ (fill125 hx hy hm (List.length_replicate ..))
set_option maxHeartbeats 3200000 in
theorem costs_c {F : Nat → Prop} {w : World} {v : Value} {gm : Gram} {X Q : Option Addr} {cx n0 cq m0 : Nat} {ws cs : List Int} (hv : GramV F w v gm) (hg : goodG gm = true) (hQ : Ints w Q cs) (hm0 : m0 = cs.length) (hcs : CostsOk gm cs) (hX : Ints w X ws) (hn : n0 = ws.length) (hl : ws.length ≤ 10) (hw : ∀ t ∈ ws, 0 ≤ t ∧ t ≤ 100) {k : Value → World → Prop}
    (hk : ∀ w' b bm Y cy T, v = .agg #[.int .i64 gm.nons, .int .i64 gm.toks, .slice Y gm.rules.length cy] → gm.rules.length ≤ cy → RulesF F w Y gm.rules → Apt w w' [bx b (boxC b gm Y cy X cx ws Q cq cs T bm) 125, mpi (fun _ _ => False) bm] → FineC T → FixG (candC gm.rules ws cs) gm.rules (ws.length + 1) noCT T → k (ptrv b) w') :
    CallK Try.prog 115 [v, .slice Q m0 cq, .slice X n0 cx] k w := by
  subst hn hm0
  obtain ⟨Y, cy, rfl, hc, hy⟩ := hv
  have hn6 := good_nons hg
  have hr16 := good_len hg
  have hleft6 := good_left6 hg
  refine enter115 ?_
  unfold S115
  have H := Apt.nil w
  refine boxH H fun b1 w1 H => ?_
  rw [ldB_agg agg37 sz37 rfl (H.box 0 rfl)]
  refine makeMapH (Good := fun _ _ => False) H fun bm w2 H => ?_
  refine rdi (bd125 _ _ _ _ _ _ rfl rfl rfl) ?_
  refine boxH H fun b2 w2 H => ?_
  have H := H.insert 1
  obtain ⟨D, hD⟩ : ∃ D : Nat → List Value, D = fun c => .int .i64 gm.nons :: .int .i64 gm.toks :: .slice Y gm.rules.length cy :: .slice X ws.length cx :: .slice Q cs.length cq :: ((List.replicate c (Value.int .i64 (-1)) ++ List.replicate (726 - c) (Value.int .i64 0)) ++ [.map (some bm)]) := ⟨_, rfl⟩
  have hD0 : (Value.agg (Value.int .i64 gm.nons :: .int .i64 gm.toks :: .slice Y gm.rules.length cy :: .slice X ws.length cx :: .slice Q cs.length cq :: (List.replicate 726 (Value.int .i64 0) ++ [.map (some bm)])).toArray).cells.toList = D 0 := by rw [hD]; rfl
  have hD1 : D 726 = boxC b2 gm Y cy X cx ws Q cq cs noCT bm := by
    rw [hD, boxC, cellsE_none]
    simp only [Nat.sub_self, List.replicate_zero, List.append_nil]
  have hDl : ∀ c, c ≤ 726 → (D c).length = 732 := fun c hc => by
    rw [hD]
    simp only [List.length_cons, List.length_append, List.length_replicate, List.length_nil]
    omega
  have hDs : ∀ c, c < 726 → (D c).set (c + 5) (.int .i64 (-1)) = D (c + 1) := fun c hc => by
    rw [hD]
    simp only [List.set_cons_succ]
    rw [List.set_append_left _ _ (by simp; omega), part_set _ _ _ _ hc]
  rw [hD0] at H
  simp only [List.nil_append, List.cons_append, List.take_succ_cons, List.take_zero, List.drop_succ_cons, List.drop_zero] at H
  clear hD hD0
  refine loop_to 6 0 (fun A f w' => A ≤ 6 ∧ f 24 = .int .i64 A ∧ Apt w w' [bx b1 [.int .i64 gm.nons, .int .i64 gm.toks, .slice Y gm.rules.length cy] 37, bx b2 (D (A * 121)) 125, mpi (fun _ _ => False) bm])
    ⟨Nat.zero_le _, rfl, H⟩ ?_
  clear H
  rintro A f w3 N hag ⟨hA, h24, H⟩ hN
  have f7 : f 7 = ptrv b2 := hag 7 (by decide)
  have f2 : f 2 = .slice X ws.length cx := hag 2 (by decide)
  have f1 : f 1 = .slice Q cs.length cq := hag 1 (by decide)
  have f3 : f 3 = ptrv b1 := hag 3 (by decide)
  simp only [h24, bin_add, bin_sub, bin_mul, bin_eql, bin_neq, bin_lss, bin_leq, bin_gtr, bin_geq, un_not, un_neg, pick_true, pick_false, extract_two_0, extract_two_1, nilCheck_pointer, cond_true', cond_false', guard_tt, guard_ff, guard_tf, guard_ft, guard_undef, seqQ_normal, seqQ_ret, seqQ_exit, blockQ_ret, blockQ_normal, blockQ_exit, bodyQ_ret, bodyQ_normal, resK_nil, resK_tmp, ite_T, ite_F, upd_at, add_plain, add_zero', len22, len35, len48, fa37_0, fa37_1, fa37_2, fa77_0, fa77_1, fa103_0, fa103_1, fa125_0, fa125_1, fa125_2, fa125_3, fa125_4, Nat.reduceEqDiff]
  by_cases hA6 : A < 6
  · simp only [show (A : Int) < 6 from by omega, decide_true, bin_add, bin_sub, bin_mul, bin_eql, bin_neq, bin_lss, bin_leq, bin_gtr, bin_geq, un_not, un_neg, pick_true, pick_false, extract_two_0, extract_two_1, nilCheck_pointer, cond_true', cond_false', guard_tt, guard_ff, guard_tf, guard_ft, guard_undef, seqQ_normal, seqQ_ret, seqQ_exit, blockQ_ret, blockQ_normal, blockQ_exit, bodyQ_ret, bodyQ_normal, resK_nil, resK_tmp, ite_T, ite_F, upd_at, add_plain, add_zero', len22, len35, len48, fa37_0, fa37_1, fa37_2, fa77_0, fa77_1, fa103_0, fa103_1, fa125_0, fa125_1, fa125_2, fa125_3, fa125_4, Nat.reduceEqDiff]
    refine loop_to 11 0 (fun i f w' => i ≤ 11 ∧ f 27 = .int .i64 i ∧ Apt w w' [bx b1 [.int .i64 gm.nons, .int .i64 gm.toks, .slice Y gm.rules.length cy] 37, bx b2 (D (A * 121 + i * 11)) 125, mpi (fun _ _ => False) bm])
      ⟨Nat.zero_le _, rfl, H⟩ ?_
    clear H
    rintro i g w4 N2 hag2 ⟨hi, h27, H⟩ hN2
    have g7 : g 7 = ptrv b2 := (hag2 7 (by decide)).trans f7
    have g8 : g 8 = .int .i64 A := hag2 8 (by decide)
    have g24 : g 24 = .int .i64 A := (hag2 24 (by decide)).trans h24
    simp only [h27, g24, bin_add, bin_sub, bin_mul, bin_eql, bin_neq, bin_lss, bin_leq, bin_gtr, bin_geq, un_not, un_neg, pick_true, pick_false, extract_two_0, extract_two_1, nilCheck_pointer, cond_true', cond_false', guard_tt, guard_ff, guard_tf, guard_ft, guard_undef, seqQ_normal, seqQ_ret, seqQ_exit, blockQ_ret, blockQ_normal, blockQ_exit, bodyQ_ret, bodyQ_normal, resK_nil, resK_tmp, ite_T, ite_F, upd_at, add_plain, add_zero', len22, len35, len48, fa37_0, fa37_1, fa37_2, fa77_0, fa77_1, fa103_0, fa103_1, fa125_0, fa125_1, fa125_2, fa125_3, fa125_4, Nat.reduceEqDiff]
    by_cases hi9 : i < 11
    · simp only [show (i : Int) < 11 from by omega, decide_true, bin_add, bin_sub, bin_mul, bin_eql, bin_neq, bin_lss, bin_leq, bin_gtr, bin_geq, un_not, un_neg, pick_true, pick_false, extract_two_0, extract_two_1, nilCheck_pointer, cond_true', cond_false', guard_tt, guard_ff, guard_tf, guard_ft, guard_undef, seqQ_normal, seqQ_ret, seqQ_exit, blockQ_ret, blockQ_normal, blockQ_exit, bodyQ_ret, bodyQ_normal, resK_nil, resK_tmp, ite_T, ite_F, upd_at, add_plain, add_zero', len22, len35, len48, fa37_0, fa37_1, fa37_2, fa77_0, fa77_1, fa103_0, fa103_1, fa125_0, fa125_1, fa125_2, fa125_3, fa125_4, Nat.reduceEqDiff]
      refine loop_to 11 0 (fun j f w' => j ≤ 11 ∧ f 30 = .int .i64 j ∧ Apt w w' [bx b1 [.int .i64 gm.nons, .int .i64 gm.toks, .slice Y gm.rules.length cy] 37, bx b2 (D (A * 121 + i * 11 + j)) 125, mpi (fun _ _ => False) bm])
        ⟨Nat.zero_le _, rfl, H⟩ ?_
      clear H
      rintro j g1 w5 N3 hag3 ⟨hj, h30, H⟩ hN3
      have k7 : g1 7 = ptrv b2 := (hag3 7 (by decide)).trans g7
      have k8 : g1 8 = .int .i64 A := (hag3 8 (by decide)).trans g8
      have k9 : g1 9 = .int .i64 i := hag3 9 (by decide)
      have k27 : g1 27 = .int .i64 i := (hag3 27 (by decide)).trans h27
      simp only [h30, k7, k8, k9, k27, bin_add, bin_sub, bin_mul, bin_eql, bin_neq, bin_lss, bin_leq, bin_gtr, bin_geq, un_not, un_neg, pick_true, pick_false, extract_two_0, extract_two_1, nilCheck_pointer, cond_true', cond_false', guard_tt, guard_ff, guard_tf, guard_ft, guard_undef, seqQ_normal, seqQ_ret, seqQ_exit, blockQ_ret, blockQ_normal, blockQ_exit, bodyQ_ret, bodyQ_normal, resK_nil, resK_tmp, ite_T, ite_F, upd_at, add_plain, add_zero', len22, len35, len48, fa37_0, fa37_1, fa37_2, fa77_0, fa77_1, fa103_0, fa103_1, fa125_0, fa125_1, fa125_2, fa125_3, fa125_4, Nat.reduceEqDiff]
      by_cases hj9 : j < 11
      · simp only [show (j : Int) < 11 from by omega, decide_true, bin_add, bin_sub, bin_mul, bin_eql, bin_neq, bin_lss, bin_leq, bin_gtr, bin_geq, un_not, un_neg, pick_true, pick_false, extract_two_0, extract_two_1, nilCheck_pointer, cond_true', cond_false', guard_tt, guard_ff, guard_tf, guard_ft, guard_undef, seqQ_normal, seqQ_ret, seqQ_exit, blockQ_ret, blockQ_normal, blockQ_exit, bodyQ_ret, bodyQ_normal, resK_nil, resK_tmp, ite_T, ite_F, upd_at, add_plain, add_zero', len22, len35, len48, fa37_0, fa37_1, fa37_2, fa77_0, fa77_1, fa103_0, fa103_1, fa125_0, fa125_1, fa125_2, fa125_3, fa125_4, Nat.reduceEqDiff]
        rw [ixa122 (by omega) (by omega), ixa121 (by omega) (by omega), ixa120 (by omega) (by omega)]
        simp only [Int.toNat_natCast, bin_add, bin_sub, bin_mul, bin_eql, bin_neq, bin_lss, bin_leq, bin_gtr, bin_geq, un_not, un_neg, pick_true, pick_false, extract_two_0, extract_two_1, nilCheck_pointer, cond_true', cond_false', guard_tt, guard_ff, guard_tf, guard_ft, guard_undef, seqQ_normal, seqQ_ret, seqQ_exit, blockQ_ret, blockQ_normal, blockQ_exit, bodyQ_ret, bodyQ_normal, resK_nil, resK_tmp, ite_T, ite_F, upd_at, add_plain, add_zero', len22, len35, len48, fa37_0, fa37_1, fa37_2, fa77_0, fa77_1, fa103_0, fa103_1, fa125_0, fa125_1, fa125_2, fa125_3, fa125_4, Nat.reduceEqDiff]
        have hlen := hDl (A * 121 + i * 11 + j) (by omega)
        refine storeH H 1 rfl sz3 rfl rfl (by rw [Nat.ble_eq, hlen]; omega) fun w6 H => ?_
        rw [show (Value.int .i64 (-1)).cells.toList = [.int .i64 (-1)] from rfl, take_put_drop (by rw [hlen]; omega), show 0 + 5 + A * 121 + i * 11 + j = (A * 121 + i * 11 + j) + 5 from by omega, hDs _ (by omega)] at H
        simp only [List.set_cons_zero, List.set_cons_succ] at H
        rw [i64_of (by omega) (by omega)]
        exact hN3 _ _ hj9 ⟨hj9, rfl, H⟩
      · simp only [show ¬ (j : Int) < 11 from by omega, decide_false, bin_add, bin_sub, bin_mul, bin_eql, bin_neq, bin_lss, bin_leq, bin_gtr, bin_geq, un_not, un_neg, pick_true, pick_false, extract_two_0, extract_two_1, nilCheck_pointer, cond_true', cond_false', guard_tt, guard_ff, guard_tf, guard_ft, guard_undef, seqQ_normal, seqQ_ret, seqQ_exit, blockQ_ret, blockQ_normal, blockQ_exit, bodyQ_ret, bodyQ_normal, resK_nil, resK_tmp, ite_T, ite_F, upd_at, add_plain, add_zero', len22, len35, len48, fa37_0, fa37_1, fa37_2, fa77_0, fa77_1, fa103_0, fa103_1, fa125_0, fa125_1, fa125_2, fa125_3, fa125_4, Nat.reduceEqDiff]
        rw [i64_of (by omega) (by omega)]
        obtain rfl : j = 11 := by omega
        refine hN2 _ _ hi9 ⟨hi9, rfl, ?_⟩
        rw [show A * 121 + (i + 1) * 11 = A * 121 + i * 11 + 11 from by omega]
        exact H
    · simp only [show ¬ (i : Int) < 11 from by omega, decide_false, bin_add, bin_sub, bin_mul, bin_eql, bin_neq, bin_lss, bin_leq, bin_gtr, bin_geq, un_not, un_neg, pick_true, pick_false, extract_two_0, extract_two_1, nilCheck_pointer, cond_true', cond_false', guard_tt, guard_ff, guard_tf, guard_ft, guard_undef, seqQ_normal, seqQ_ret, seqQ_exit, blockQ_ret, blockQ_normal, blockQ_exit, bodyQ_ret, bodyQ_normal, resK_nil, resK_tmp, ite_T, ite_F, upd_at, add_plain, add_zero', len22, len35, len48, fa37_0, fa37_1, fa37_2, fa77_0, fa77_1, fa103_0, fa103_1, fa125_0, fa125_1, fa125_2, fa125_3, fa125_4, Nat.reduceEqDiff]
      rw [i64_of (by omega) (by omega)]
      obtain rfl : i = 11 := by omega
      refine hN _ _ hA6 ⟨hA6, rfl, ?_⟩
      rw [show (A + 1) * 121 = A * 121 + 11 * 11 from by omega]
      exact H
  simp only [show ¬ (A : Int) < 6 from by omega, decide_false, bin_add, bin_sub, bin_mul, bin_eql, bin_neq, bin_lss, bin_leq, bin_gtr, bin_geq, un_not, un_neg, pick_true, pick_false, extract_two_0, extract_two_1, nilCheck_pointer, cond_true', cond_false', guard_tt, guard_ff, guard_tf, guard_ft, guard_undef, seqQ_normal, seqQ_ret, seqQ_exit, blockQ_ret, blockQ_normal, blockQ_exit, bodyQ_ret, bodyQ_normal, resK_nil, resK_tmp, ite_T, ite_F, upd_at, add_plain, add_zero', len22, len35, len48, fa37_0, fa37_1, fa37_2, fa77_0, fa77_1, fa103_0, fa103_1, fa125_0, fa125_1, fa125_2, fa125_3, fa125_4, Nat.reduceEqDiff]
  obtain rfl : A = 6 := by omega
  rw [show 6 * 121 = 726 from rfl, hD1] at H
  clear hN hA6 hA h24 hD1 hDl hDs
  have hO := offerC (ws := ws) (cs := cs) (good_rules hg) (n := ws.length + 1) (by omega) (fun q hq => (hcs.at hq).2.2)
  have hp0 : ∀ q, q < gm.rules.length → 0 < costQ cs q := fun q hq => (hcs.at hq).2.1
  refine loop_ghost (fun (s : GS) f w' => fixSt (candC gm.rules ws cs) gm.rules (ws.length + 1) s ∧ FineC s.1 ∧ f 11 = .bool s.2 ∧ Apt w w' [bx b1 [.int .i64 gm.nons, .int .i64 gm.toks, .slice Y gm.rules.length cy] 37, bx b2 (boxC b2 gm Y cy X cx ws Q cq cs s.1 bm) 125, mpi (fun _ _ => False) bm]) (fun s => if s.2 = true then sumG s.1 + 1 else 0) (noCT, true)
    ⟨by unfold fixSt; rw [if_pos rfl]; exact fun U h => h, fineC_none, rfl, H⟩ ?_
  clear H
  rintro ⟨T, more⟩ fr w6 N2 hag2 ⟨hst, hS, h11, H⟩ hN2
  have f3' : fr 3 = ptrv b1 := (hag2 3 (by decide)).trans f3
  have f7' : fr 7 = ptrv b2 := (hag2 7 (by decide)).trans f7
  have f2' : fr 2 = .slice X ws.length cx := (hag2 2 (by decide)).trans f2
  have f1' : fr 1 = .slice Q cs.length cq := (hag2 1 (by decide)).trans f1
  simp only [h11, f3', bin_add, bin_sub, bin_mul, bin_eql, bin_neq, bin_lss, bin_leq, bin_gtr, bin_geq, un_not, un_neg, pick_true, pick_false, extract_two_0, extract_two_1, nilCheck_pointer, cond_true', cond_false', guard_tt, guard_ff, guard_tf, guard_ft, guard_undef, seqQ_normal, seqQ_ret, seqQ_exit, blockQ_ret, blockQ_normal, blockQ_exit, bodyQ_ret, bodyQ_normal, resK_nil, resK_tmp, ite_T, ite_F, upd_at, add_plain, add_zero', len22, len35, len48, fa37_0, fa37_1, fa37_2, fa77_0, fa77_1, fa103_0, fa103_1, fa125_0, fa125_1, fa125_2, fa125_3, fa125_4, Nat.reduceEqDiff]
  cases more
  · simp only [bin_add, bin_sub, bin_mul, bin_eql, bin_neq, bin_lss, bin_leq, bin_gtr, bin_geq, un_not, un_neg, pick_true, pick_false, extract_two_0, extract_two_1, nilCheck_pointer, cond_true', cond_false', guard_tt, guard_ff, guard_tf, guard_ft, guard_undef, seqQ_normal, seqQ_ret, seqQ_exit, blockQ_ret, blockQ_normal, blockQ_exit, bodyQ_ret, bodyQ_normal, resK_nil, resK_tmp, ite_T, ite_F, upd_at, add_plain, add_zero', len22, len35, len48, fa37_0, fa37_1, fa37_2, fa77_0, fa77_1, fa103_0, fa103_1, fa125_0, fa125_1, fa125_2, fa125_3, fa125_4, Nat.reduceEqDiff]
    rw [f7']
    refine hk _ b2 bm Y cy T rfl hc hy (H.erase 0) hS ?_
    unfold fixSt at hst
    rw [if_neg Bool.false_ne_true] at hst
    exact hst
  simp only [bin_add, bin_sub, bin_mul, bin_eql, bin_neq, bin_lss, bin_leq, bin_gtr, bin_geq, un_not, un_neg, pick_true, pick_false, extract_two_0, extract_two_1, nilCheck_pointer, cond_true', cond_false', guard_tt, guard_ff, guard_tf, guard_ft, guard_undef, seqQ_normal, seqQ_ret, seqQ_exit, blockQ_ret, blockQ_normal, blockQ_exit, bodyQ_ret, bodyQ_normal, resK_nil, resK_tmp, ite_T, ite_F, upd_at, add_plain, add_zero', len22, len35, len48, fa37_0, fa37_1, fa37_2, fa77_0, fa77_1, fa103_0, fa103_1, fa125_0, fa125_1, fa125_2, fa125_3, fa125_4, Nat.reduceEqDiff]
  rw [ldB35 (H.box 0 rfl) rfl]
  simp only [bin_add, bin_sub, bin_mul, bin_eql, bin_neq, bin_lss, bin_leq, bin_gtr, bin_geq, un_not, un_neg, pick_true, pick_false, extract_two_0, extract_two_1, nilCheck_pointer, cond_true', cond_false', guard_tt, guard_ff, guard_tf, guard_ft, guard_undef, seqQ_normal, seqQ_ret, seqQ_exit, blockQ_ret, blockQ_normal, blockQ_exit, bodyQ_ret, bodyQ_normal, resK_nil, resK_tmp, ite_T, ite_F, upd_at, add_plain, add_zero', len22, len35, len48, fa37_0, fa37_1, fa37_2, fa77_0, fa77_1, fa103_0, fa103_1, fa125_0, fa125_1, fa125_2, fa125_3, fa125_4, Nat.reduceEqDiff]
  refine loop_to gm.rules.length 0 (fun q f w' => q ≤ gm.rules.length ∧ f 49 = .int .i64 q ∧ f 11 = .bool ((List.range q).foldl (ruleG (candC gm.rules ws cs) gm.rules (ws.length + 1)) (T, false)).2 ∧ Apt w w' [bx b1 [.int .i64 gm.nons, .int .i64 gm.toks, .slice Y gm.rules.length cy] 37, bx b2 (boxC b2 gm Y cy X cx ws Q cq cs ((List.range q).foldl (ruleG (candC gm.rules ws cs) gm.rules (ws.length + 1)) (T, false)).1 bm) 125, mpi (fun _ _ => False) bm])
    ⟨Nat.zero_le _, rfl, rfl, H⟩ ?_
  clear H
  rintro q g1 w7 N3 hag3 ⟨hq, h49, h11', H⟩ hN3
  have e47 : g1 47 = .slice Y gm.rules.length cy := hag3 47 (by decide)
  have e48 : g1 48 = .int .i64 gm.rules.length := hag3 48 (by decide)
  have e7 : g1 7 = ptrv b2 := (hag3 7 (by decide)).trans f7'
  have e2 : g1 2 = .slice X ws.length cx := (hag3 2 (by decide)).trans f2'
  have e1 : g1 1 = .slice Q cs.length cq := (hag3 1 (by decide)).trans f1'
  simp only [e47, e48, e2, h49, bin_add, bin_sub, bin_mul, bin_eql, bin_neq, bin_lss, bin_leq, bin_gtr, bin_geq, un_not, un_neg, pick_true, pick_false, extract_two_0, extract_two_1, nilCheck_pointer, cond_true', cond_false', guard_tt, guard_ff, guard_tf, guard_ft, guard_undef, seqQ_normal, seqQ_ret, seqQ_exit, blockQ_ret, blockQ_normal, blockQ_exit, bodyQ_ret, bodyQ_normal, resK_nil, resK_tmp, ite_T, ite_F, upd_at, add_plain, add_zero', len22, len35, len48, fa37_0, fa37_1, fa37_2, fa77_0, fa77_1, fa103_0, fa103_1, fa125_0, fa125_1, fa125_2, fa125_3, fa125_4, Nat.reduceEqDiff]
  by_cases hlq : q < gm.rules.length
  case neg =>
    simp only [show ¬ ((q : Int) < gm.rules.length) from by omega, decide_false, bin_add, bin_sub, bin_mul, bin_eql, bin_neq, bin_lss, bin_leq, bin_gtr, bin_geq, un_not, un_neg, pick_true, pick_false, extract_two_0, extract_two_1, nilCheck_pointer, cond_true', cond_false', guard_tt, guard_ff, guard_tf, guard_ft, guard_undef, seqQ_normal, seqQ_ret, seqQ_exit, blockQ_ret, blockQ_normal, blockQ_exit, bodyQ_ret, bodyQ_normal, resK_nil, resK_tmp, ite_T, ite_F, upd_at, add_plain, add_zero', len22, len35, len48, fa37_0, fa37_1, fa37_2, fa77_0, fa77_1, fa103_0, fa103_1, fa125_0, fa125_1, fa125_2, fa125_3, fa125_4, Nat.reduceEqDiff]
    obtain rfl : q = gm.rules.length := by omega
    obtain ⟨hS', hdrop⟩ := passC_drop hO hp0 (s := (T, false)) hS
    refine hN2 (passG (candC gm.rules ws cs) gm.rules (ws.length + 1) (T, false)) _ _ ⟨fixSt_next hst, hS', h11', H⟩ ?_
    rw [if_pos rfl]
    rcases hdrop with he | ⟨h1, h2⟩
    · rw [he, if_neg Bool.false_ne_true]
      omega
    · rw [if_pos h1]
      dsimp only at h2 ⊢
      omega
  simp only [show ((q : Int) < gm.rules.length) from by omega, decide_true, bin_add, bin_sub, bin_mul, bin_eql, bin_neq, bin_lss, bin_leq, bin_gtr, bin_geq, un_not, un_neg, pick_true, pick_false, extract_two_0, extract_two_1, nilCheck_pointer, cond_true', cond_false', guard_tt, guard_ff, guard_tf, guard_ft, guard_undef, seqQ_normal, seqQ_ret, seqQ_exit, blockQ_ret, blockQ_normal, blockQ_exit, bodyQ_ret, bodyQ_normal, resK_nil, resK_tmp, ite_T, ite_F, upd_at, add_plain, add_zero', len22, len35, len48, fa37_0, fa37_1, fa37_2, fa77_0, fa77_1, fa103_0, fa103_1, fa125_0, fa125_1, fa125_2, fa125_3, fa125_4, Nat.reduceEqDiff]
  obtain ⟨Z, cz, t1, t2, t3, t4⟩ := hy.row q hlq
  have hleft := good_left hg hlq
  have hright := good_right hg hlq
  have hR4 := good_rule hg q hlq
  obtain ⟨xl, hxl⟩ : ∃ x : Nat, (rul gm.rules q).1 = x := ⟨(rul gm.rules q).1.toNat, by omega⟩
  rw [hxl] at t1 hleft
  refine rdi (ixn35 hy.ptr hlq) ?_
  rw [ld_agg agg77 sz77 (cs := [.int .i64 xl, .slice Z (rul gm.rules q).2.length cz]) rfl (fun j hj => by
    match j, hj with
    | 0, _ => rw [add_add, Nat.add_zero]; exact H.gr.cell t1
    | 1, _ => rw [add_add]; exact H.gr.cell t2)]
  refine allocH H inf77 fun b3 w8 H => ?_
  refine storeH H 3 rfl sz77 rfl rfl rfl fun w9 H => ?_
  simp only [List.nil_append, List.cons_append, List.set_cons_zero, List.set_cons_succ] at H
  generalize hN' : ws.length + 1 = n at *
  have hNi : ((ws.length : Int) + 1) = (n : Int) := by omega
  rw [hNi, i64_of (n := (n : Int)) (by omega) (by omega)]
  have hS0 := fine_rules hO hp0 (s := (T, false)) hS hq
  generalize hs0 : (List.range q).foldl (ruleG (candC gm.rules ws cs) gm.rules n) (T, false) = s0 at *
  refine loop_to n 0 (fun a f w' => a ≤ n ∧ f 57 = .int .i64 a ∧ f 11 = .bool ((List.range a).foldl (rowG (candC gm.rules ws cs) gm.rules n q) s0).2 ∧ Apt w w' [bx b1 [.int .i64 gm.nons, .int .i64 gm.toks, .slice Y gm.rules.length cy] 37, bx b2 (boxC b2 gm Y cy X cx ws Q cq cs ((List.range a).foldl (rowG (candC gm.rules ws cs) gm.rules n q) s0).1 bm) 125, mpi (fun _ _ => False) bm, bx b3 [.int .i64 xl, .slice Z (rul gm.rules q).2.length cz] 77])
    ⟨Nat.zero_le _, rfl, h11', H⟩ ?_
  clear H
  rintro a g2 w10 N4 hag4 ⟨ha, h57, h11a, H⟩ hN4
  have k56 : g2 56 = .int .i64 n := hag4 56 (by decide)
  have k7 : g2 7 = ptrv b2 := (hag4 7 (by decide)).trans e7
  have k2 : g2 2 = .slice X ws.length cx := (hag4 2 (by decide)).trans e2
  have k1 : g2 1 = .slice Q cs.length cq := (hag4 1 (by decide)).trans e1
  have k13 : g2 13 = ptrv b3 := hag4 13 (by decide)
  have k12 : g2 12 = .int .i64 q := hag4 12 (by decide)
  have k49 : g2 49 = .int .i64 q := (hag4 49 (by decide)).trans h49
  simp only [k56, h57, k49, bin_add, bin_sub, bin_mul, bin_eql, bin_neq, bin_lss, bin_leq, bin_gtr, bin_geq, un_not, un_neg, pick_true, pick_false, extract_two_0, extract_two_1, nilCheck_pointer, cond_true', cond_false', guard_tt, guard_ff, guard_tf, guard_ft, guard_undef, seqQ_normal, seqQ_ret, seqQ_exit, blockQ_ret, blockQ_normal, blockQ_exit, bodyQ_ret, bodyQ_normal, resK_nil, resK_tmp, ite_T, ite_F, upd_at, add_plain, add_zero', len22, len35, len48, fa37_0, fa37_1, fa37_2, fa77_0, fa77_1, fa103_0, fa103_1, fa125_0, fa125_1, fa125_2, fa125_3, fa125_4, Nat.reduceEqDiff]
  by_cases hla : a < n
  case neg =>
    simp only [show ¬ ((a : Int) < n) from by omega, decide_false, bin_add, bin_sub, bin_mul, bin_eql, bin_neq, bin_lss, bin_leq, bin_gtr, bin_geq, un_not, un_neg, pick_true, pick_false, extract_two_0, extract_two_1, nilCheck_pointer, cond_true', cond_false', guard_tt, guard_ff, guard_tf, guard_ft, guard_undef, seqQ_normal, seqQ_ret, seqQ_exit, blockQ_ret, blockQ_normal, blockQ_exit, bodyQ_ret, bodyQ_normal, resK_nil, resK_tmp, ite_T, ite_F, upd_at, add_plain, add_zero', len22, len35, len48, fa37_0, fa37_1, fa37_2, fa77_0, fa77_1, fa103_0, fa103_1, fa125_0, fa125_1, fa125_2, fa125_3, fa125_4, Nat.reduceEqDiff]
    rw [i64_of (by omega) (by omega)]
    have han : a = n := by omega
    rw [han] at h11a H
    have hstep : (List.range (q + 1)).foldl (ruleG (candC gm.rules ws cs) gm.rules n) (T, false) = (List.range n).foldl (rowG (candC gm.rules ws cs) gm.rules n q) s0 := by
      rw [foldl_range, hs0]
      rfl
    refine hN3 _ _ hlq ⟨hlq, rfl, ?_, ?_⟩
    · rw [hstep]
      exact h11a
    · rw [hstep]
      exact H.take 3
  simp only [show ((a : Int) < n) from by omega, decide_true, bin_add, bin_sub, bin_mul, bin_eql, bin_neq, bin_lss, bin_leq, bin_gtr, bin_geq, un_not, un_neg, pick_true, pick_false, extract_two_0, extract_two_1, nilCheck_pointer, cond_true', cond_false', guard_tt, guard_ff, guard_tf, guard_ft, guard_undef, seqQ_normal, seqQ_ret, seqQ_exit, blockQ_ret, blockQ_normal, blockQ_exit, bodyQ_ret, bodyQ_normal, resK_nil, resK_tmp, ite_T, ite_F, upd_at, add_plain, add_zero', len22, len35, len48, fa37_0, fa37_1, fa37_2, fa77_0, fa77_1, fa103_0, fa103_1, fa125_0, fa125_1, fa125_2, fa125_3, fa125_4, Nat.reduceEqDiff]
  have hS1 := fine_rows hO hp0 hS0 (a := a) hlq
  generalize hs1 : (List.range a).foldl (rowG (candC gm.rules ws cs) gm.rules n q) s0 = s1 at *
  refine loop_to n a (fun b f w' => a ≤ b ∧ b ≤ n ∧ f 15 = .int .i64 b ∧ f 11 = .bool ((List.range' a (b - a)).foldl (Sh.stepG (candC gm.rules ws cs) gm.rules q a) s1).2 ∧ Apt w w' [bx b1 [.int .i64 gm.nons, .int .i64 gm.toks, .slice Y gm.rules.length cy] 37, bx b2 (boxC b2 gm Y cy X cx ws Q cq cs ((List.range' a (b - a)).foldl (Sh.stepG (candC gm.rules ws cs) gm.rules q a) s1).1 bm) 125, mpi (fun _ _ => False) bm, bx b3 [.int .i64 xl, .slice Z (rul gm.rules q).2.length cz] 77])
    ⟨Nat.le_refl _, by omega, rfl, by rw [Nat.sub_self]; exact h11a, by rw [Nat.sub_self]; exact H⟩ ?_
  clear H
  rintro b g3 w11 N5 hag5 ⟨hb1, hb2, h15, h11b, H⟩ hN5
  have m7 : g3 7 = ptrv b2 := (hag5 7 (by decide)).trans k7
  have m2 : g3 2 = .slice X ws.length cx := (hag5 2 (by decide)).trans k2
  have m1 : g3 1 = .slice Q cs.length cq := (hag5 1 (by decide)).trans k1
  have m13 : g3 13 = ptrv b3 := (hag5 13 (by decide)).trans k13
  have m12 : g3 12 = .int .i64 q := (hag5 12 (by decide)).trans k12
  have m14 : g3 14 = .int .i64 a := hag5 14 (by decide)
  have m57 : g3 57 = .int .i64 a := (hag5 57 (by decide)).trans h57
  simp only [m7, m2, m1, m13, m12, m14, m57, h15, bin_add, bin_sub, bin_mul, bin_eql, bin_neq, bin_lss, bin_leq, bin_gtr, bin_geq, un_not, un_neg, pick_true, pick_false, extract_two_0, extract_two_1, nilCheck_pointer, cond_true', cond_false', guard_tt, guard_ff, guard_tf, guard_ft, guard_undef, seqQ_normal, seqQ_ret, seqQ_exit, blockQ_ret, blockQ_normal, blockQ_exit, bodyQ_ret, bodyQ_normal, resK_nil, resK_tmp, ite_T, ite_F, upd_at, add_plain, add_zero', len22, len35, len48, fa37_0, fa37_1, fa37_2, fa77_0, fa77_1, fa103_0, fa103_1, fa125_0, fa125_1, fa125_2, fa125_3, fa125_4, Nat.reduceEqDiff]
  by_cases hlb : b < n
  case neg =>
    simp only [show ¬ ((b : Int) ≤ ws.length) from by omega, decide_false, bin_add, bin_sub, bin_mul, bin_eql, bin_neq, bin_lss, bin_leq, bin_gtr, bin_geq, un_not, un_neg, pick_true, pick_false, extract_two_0, extract_two_1, nilCheck_pointer, cond_true', cond_false', guard_tt, guard_ff, guard_tf, guard_ft, guard_undef, seqQ_normal, seqQ_ret, seqQ_exit, blockQ_ret, blockQ_normal, blockQ_exit, bodyQ_ret, bodyQ_normal, resK_nil, resK_tmp, ite_T, ite_F, upd_at, add_plain, add_zero', len22, len35, len48, fa37_0, fa37_1, fa37_2, fa77_0, fa77_1, fa103_0, fa103_1, fa125_0, fa125_1, fa125_2, fa125_3, fa125_4, Nat.reduceEqDiff]
    rw [i64_of (by omega) (by omega)]
    have hbn : b = n := by omega
    rw [hbn] at h11b H
    have hstep : (List.range (a + 1)).foldl (rowG (candC gm.rules ws cs) gm.rules n q) s0 = (List.range' a (n - a)).foldl (Sh.stepG (candC gm.rules ws cs) gm.rules q a) s1 := by
      rw [foldl_range, hs1]
      rfl
    refine hN4 _ _ hla ⟨hla, rfl, ?_, ?_⟩
    · rw [hstep]
      exact h11b
    · rw [hstep]
      exact H
  simp only [show ((b : Int) ≤ ws.length) from by omega, decide_true, bin_add, bin_sub, bin_mul, bin_eql, bin_neq, bin_lss, bin_leq, bin_gtr, bin_geq, un_not, un_neg, pick_true, pick_false, extract_two_0, extract_two_1, nilCheck_pointer, cond_true', cond_false', guard_tt, guard_ff, guard_tf, guard_ft, guard_undef, seqQ_normal, seqQ_ret, seqQ_exit, blockQ_ret, blockQ_normal, blockQ_exit, bodyQ_ret, bodyQ_normal, resK_nil, resK_tmp, ite_T, ite_F, upd_at, add_plain, add_zero', len22, len35, len48, fa37_0, fa37_1, fa37_2, fa77_0, fa77_1, fa103_0, fa103_1, fa125_0, fa125_1, fa125_2, fa125_3, fa125_4, Nat.reduceEqDiff]
  have hstep : (List.range' a (b + 1 - a)).foldl (Sh.stepG (candC gm.rules ws cs) gm.rules q a) s1 = Sh.stepG (candC gm.rules ws cs) gm.rules q a ((List.range' a (b - a)).foldl (Sh.stepG (candC gm.rules ws cs) gm.rules q a) s1) b := by
    rw [show b + 1 - a = b - a + 1 from by omega, foldl_range', show a + (b - a) = b from by omega]
  have hS2 := fine_steps hO hp0 hS1 (a := a) hlq hb2
  generalize hs2 : (List.range' a (b - a)).foldl (Sh.stepG (candC gm.rules ws cs) gm.rules q a) s1 = s2 at *
  have hxn : xl < 6 := by omega
  refine join_as (fun g w' => g 15 = .int .i64 (b : Int) ∧ g 11 = .bool (Sh.stepG (candC gm.rules ws cs) gm.rules q a s2 b).2 ∧ Apt w w' [bx b1 [.int .i64 gm.nons, .int .i64 gm.toks, .slice Y gm.rules.length cy] 37, bx b2 (boxC b2 gm Y cy X cx ws Q cq cs (Sh.stepG (candC gm.rules ws cs) gm.rules q a s2 b).1 bm) 125, mpi (fun _ _ => False) bm, bx b3 [.int .i64 xl, .slice Z (rul gm.rules q).2.length cz] 77]) (fun K hK => ?_) ?_
  case refine_2 =>
    rintro g w' ⟨g15, g11, H⟩
    simp only [g15, go_sem, Nat.reduceEqDiff]
    rw [i64_of (by omega) (by omega)]
    refine hN5 _ _ hlb ⟨by omega, hlb, rfl, ?_, ?_⟩
    · rw [hstep]
      exact g11
    · rw [hstep]
      exact H
  rw [ldB22 (H.box 3 rfl) rfl]
  refine costRest_c hl hw (rul gm.rules q).2 (H.box 1 rfl) hS2.1 (hX.gr H.gr) (t4.is.gr H.gr) t3 hR4 (fun x hx => by have := hright x hx; omega) hb1 (by omega) ?_
  have H := H.drew
  rw [ldB3 (H.box 3 rfl) rfl]
  simp only [bin_add, bin_sub, bin_mul, bin_eql, bin_neq, bin_lss, bin_leq, bin_gtr, bin_geq, un_not, un_neg, pick_true, pick_false, extract_two_0, extract_two_1, nilCheck_pointer, cond_true', cond_false', guard_tt, guard_ff, guard_tf, guard_ft, guard_undef, seqQ_normal, seqQ_ret, seqQ_exit, blockQ_ret, blockQ_normal, blockQ_exit, bodyQ_ret, bodyQ_normal, resK_nil, resK_tmp, ite_T, ite_F, upd_at, add_plain, add_zero', len22, len35, len48, fa37_0, fa37_1, fa37_2, fa77_0, fa77_1, fa103_0, fa103_1, fa125_0, fa125_1, fa125_2, fa125_3, fa125_4, Nat.reduceEqDiff]
  rw [ixa122 (by omega) (by omega), ixa121 (by omega) (by omega), ixa120 (by omega) (by omega)]
  simp only [Int.toNat_natCast, bin_add, bin_sub, bin_mul, bin_eql, bin_neq, bin_lss, bin_leq, bin_gtr, bin_geq, un_not, un_neg, pick_true, pick_false, extract_two_0, extract_two_1, nilCheck_pointer, cond_true', cond_false', guard_tt, guard_ff, guard_tf, guard_ft, guard_undef, seqQ_normal, seqQ_ret, seqQ_exit, blockQ_ret, blockQ_normal, blockQ_exit, bodyQ_ret, bodyQ_normal, resK_nil, resK_tmp, ite_T, ite_F, upd_at, add_plain, add_zero', len22, len35, len48, fa37_0, fa37_1, fa37_2, fa77_0, fa77_1, fa103_0, fa103_1, fa125_0, fa125_1, fa125_2, fa125_3, fa125_4, Nat.reduceEqDiff]
  have H := H.drew
  obtain ⟨hcq, hc0, hc1⟩ := hcs.at hlq
  have hql : q < cs.length := by rw [hcs.len]; exact hlq
  have hQc := (hQ.gr H.gr).cell q hql
  rw [hcq] at hQc
  have hQp : 0 < cs.length → Q = some (ad Q) := hQ.ptr
  have hcell := boxC_at (b := b2) (gm := gm) (Y := Y) (cy := cy) (X := X) (cx := cx) (ws := ws) (Z := Q) (cz := cq) (cs := cs) (T := s2.1) (bm := bm) hxn (show a < 11 by omega) (show b < 11 by omega)
  have stay : Sh.stepG (candC gm.rules ws cs) gm.rules q a s2 b = s2 → ∀ f', f' 15 = .int .i64 (b : Int) → f' 11 = .bool s2.2 → K f' w11.drew.drew := fun he f' q13 q9 => hK f' _ ⟨q13, by rw [he]; exact q9, by rw [he]; exact H⟩
  cases hr : restG (tokC ws) nl0 s2.1 (rul gm.rules q).2 a b with
  | none =>
    simp only [encM_n, show ¬ ((0 : Int) ≤ -1) from by omega, decide_false, bin_add, bin_sub, bin_mul, bin_eql, bin_neq, bin_lss, bin_leq, bin_gtr, bin_geq, un_not, un_neg, pick_true, pick_false, extract_two_0, extract_two_1, nilCheck_pointer, cond_true', cond_false', guard_tt, guard_ff, guard_tf, guard_ft, guard_undef, seqQ_normal, seqQ_ret, seqQ_exit, blockQ_ret, blockQ_normal, blockQ_exit, bodyQ_ret, bodyQ_normal, resK_nil, resK_tmp, ite_T, ite_F, upd_at, add_plain, add_zero', len22, len35, len48, fa37_0, fa37_1, fa37_2, fa77_0, fa77_1, fa103_0, fa103_1, fa125_0, fa125_1, fa125_2, fa125_3, fa125_4, Nat.reduceEqDiff]
    exact stay (stepG_none (candC_none hr)) _ h15 h11b
  | some r =>
    have hcand := candC_some (cs := cs) hr
    have hrs := rest_small hS2.1 (tokC_small ws) nl0_small hR4 hb1 (by omega) hr
    simp only [encM_s, show ((0 : Int) ≤ (r : Int)) from by omega, decide_true, bin_add, bin_sub, bin_mul, bin_eql, bin_neq, bin_lss, bin_leq, bin_gtr, bin_geq, un_not, un_neg, pick_true, pick_false, extract_two_0, extract_two_1, nilCheck_pointer, cond_true', cond_false', guard_tt, guard_ff, guard_tf, guard_ft, guard_undef, seqQ_normal, seqQ_ret, seqQ_exit, blockQ_ret, blockQ_normal, blockQ_exit, bodyQ_ret, bodyQ_normal, resK_nil, resK_tmp, ite_T, ite_F, upd_at, add_plain, add_zero', len22, len35, len48, fa37_0, fa37_1, fa37_2, fa77_0, fa77_1, fa103_0, fa103_1, fa125_0, fa125_1, fa125_2, fa125_3, fa125_4, Nat.reduceEqDiff]
    rw [ldB3 (H.box 1 rfl) hcell]
    have hoff : 0 + 5 + xl * 121 + a * 11 + b = xl * (11 * 11) + (a * 11 + b) + 1 + 1 + 1 + 1 + 1 := by omega
    have put : better (r + costQ cs q) (s2.1 xl a b) = true → ∀ (f' : Sh.F) (w' : World), f' 15 = .int .i64 (b : Int) → f' 11 = .bool true → Apt w w' [bx b1 [.int .i64 gm.nons, .int .i64 gm.toks, .slice Y gm.rules.length cy] 37, bx b2 (List.take (0 + 5 + xl * 121 + a * 11 + b) (boxC b2 gm Y cy X cx ws Q cq cs s2.1 bm) ++ (Value.int .i64 ((r : Int) + (costQ cs q : Int))).cells.toList ++ List.drop (0 + 5 + xl * 121 + a * 11 + b + 1) (boxC b2 gm Y cy X cx ws Q cq cs s2.1 bm)) 125, mpi (fun _ _ => False) bm, bx b3 [.int .i64 xl, .slice Z (rul gm.rules q).2.length cz] 77] → K f' w' := fun hb f' w' q13 q9 H' => by
      have he := stepG_put (rs := gm.rules) hcand (by rw [hxl, Int.toNat_natCast]; exact hb)
      rw [hxl, Int.toNat_natCast] at he
      rw [show (Value.int .i64 ((r : Int) + (costQ cs q : Int))).cells.toList = [.int .i64 ((r + costQ cs q : Nat) : Int)] from by push_cast; rfl, take_put_drop (by simp only [boxC, List.length_cons, List.length_append, cellsE_length]; omega), hoff] at H'
      simp only [boxC, List.set_cons_succ] at H'
      rw [List.set_append_left _ _ (by rw [cellsE_length]; exact spot_lt hxn (by omega) (by omega)), cellsE_put hxn (by omega) (by omega)] at H'
      exact hK f' w' ⟨q13, by rw [he]; exact q9, by rw [he]; exact H'⟩
    have dont : ¬ better (r + costQ cs q) (s2.1 xl a b) = true → Sh.stepG (candC gm.rules ws cs) gm.rules q a s2 b = s2 := fun hb => stepG_stay hcand (by rw [hxl, Int.toNat_natCast]; exact hb)
    have hbl : Nat.ble (0 + 5 + xl * 121 + a * 11 + b + 1) (boxC b2 gm Y cy X cx ws Q cq cs s2.1 bm).length = true := by
      rw [Nat.ble_eq]
      simp only [boxC, List.length_cons, List.length_append, cellsE_length]
      omega
    cases ho : s2.1 xl a b with
    | none =>
      simp only [encM_n, show ((-1 : Int) < 0) from by omega, decide_true, bin_add, bin_sub, bin_mul, bin_eql, bin_neq, bin_lss, bin_leq, bin_gtr, bin_geq, un_not, un_neg, pick_true, pick_false, extract_two_0, extract_two_1, nilCheck_pointer, cond_true', cond_false', guard_tt, guard_ff, guard_tf, guard_ft, guard_undef, seqQ_normal, seqQ_ret, seqQ_exit, blockQ_ret, blockQ_normal, blockQ_exit, bodyQ_ret, bodyQ_normal, resK_nil, resK_tmp, ite_T, ite_F, upd_at, add_plain, add_zero', len22, len35, len48, fa37_0, fa37_1, fa37_2, fa77_0, fa77_1, fa103_0, fa103_1, fa125_0, fa125_1, fa125_2, fa125_3, fa125_4, Nat.reduceEqDiff]
      refine rdi (ixn22 hQp hql) (rdi (ld3 hQc) ?_)
      simp only [bin_add, bin_sub, bin_mul, bin_eql, bin_neq, bin_lss, bin_leq, bin_gtr, bin_geq, un_not, un_neg, pick_true, pick_false, extract_two_0, extract_two_1, nilCheck_pointer, cond_true', cond_false', guard_tt, guard_ff, guard_tf, guard_ft, guard_undef, seqQ_normal, seqQ_ret, seqQ_exit, blockQ_ret, blockQ_normal, blockQ_exit, bodyQ_ret, bodyQ_normal, resK_nil, resK_tmp, ite_T, ite_F, upd_at, add_plain, add_zero', len22, len35, len48, fa37_0, fa37_1, fa37_2, fa77_0, fa77_1, fa103_0, fa103_1, fa125_0, fa125_1, fa125_2, fa125_3, fa125_4, Nat.reduceEqDiff]
      rw [i64_of (n := (r : Int) + (costQ cs q : Int)) (by omega) (by omega)]
      refine storeH H 1 rfl sz3 rfl rfl hbl fun w13 H => ?_
      simp only [List.set_cons_zero, List.set_cons_succ] at H
      exact put (by rw [ho]; rfl) _ _ h15 rfl H
    | some o =>
      rw [ho] at hcell
      simp only [encM_s, show ¬ ((o : Int) < 0) from by omega, decide_false, bin_add, bin_sub, bin_mul, bin_eql, bin_neq, bin_lss, bin_leq, bin_gtr, bin_geq, un_not, un_neg, pick_true, pick_false, extract_two_0, extract_two_1, nilCheck_pointer, cond_true', cond_false', guard_tt, guard_ff, guard_tf, guard_ft, guard_undef, seqQ_normal, seqQ_ret, seqQ_exit, blockQ_ret, blockQ_normal, blockQ_exit, bodyQ_ret, bodyQ_normal, resK_nil, resK_tmp, ite_T, ite_F, upd_at, add_plain, add_zero', len22, len35, len48, fa37_0, fa37_1, fa37_2, fa77_0, fa77_1, fa103_0, fa103_1, fa125_0, fa125_1, fa125_2, fa125_3, fa125_4, Nat.reduceEqDiff]
      refine rdi (ixn22 hQp hql) (rdi (ld3 hQc) ?_)
      simp only [bin_add, bin_sub, bin_mul, bin_eql, bin_neq, bin_lss, bin_leq, bin_gtr, bin_geq, un_not, un_neg, pick_true, pick_false, extract_two_0, extract_two_1, nilCheck_pointer, cond_true', cond_false', guard_tt, guard_ff, guard_tf, guard_ft, guard_undef, seqQ_normal, seqQ_ret, seqQ_exit, blockQ_ret, blockQ_normal, blockQ_exit, bodyQ_ret, bodyQ_normal, resK_nil, resK_tmp, ite_T, ite_F, upd_at, add_plain, add_zero', len22, len35, len48, fa37_0, fa37_1, fa37_2, fa77_0, fa77_1, fa103_0, fa103_1, fa125_0, fa125_1, fa125_2, fa125_3, fa125_4, Nat.reduceEqDiff]
      rw [i64_of (n := (r : Int) + (costQ cs q : Int)) (by omega) (by omega)]
      rw [ldB3 (H.box 1 rfl) hcell]
      simp only [encM_s, bin_add, bin_sub, bin_mul, bin_eql, bin_neq, bin_lss, bin_leq, bin_gtr, bin_geq, un_not, un_neg, pick_true, pick_false, extract_two_0, extract_two_1, nilCheck_pointer, cond_true', cond_false', guard_tt, guard_ff, guard_tf, guard_ft, guard_undef, seqQ_normal, seqQ_ret, seqQ_exit, blockQ_ret, blockQ_normal, blockQ_exit, bodyQ_ret, bodyQ_normal, resK_nil, resK_tmp, ite_T, ite_F, upd_at, add_plain, add_zero', len22, len35, len48, fa37_0, fa37_1, fa37_2, fa77_0, fa77_1, fa103_0, fa103_1, fa125_0, fa125_1, fa125_2, fa125_3, fa125_4, Nat.reduceEqDiff]
      by_cases hmo : r + costQ cs q < o
      · simp only [show ((r : Int) + (costQ cs q : Int) < (o : Int)) from by omega, decide_true, bin_add, bin_sub, bin_mul, bin_eql, bin_neq, bin_lss, bin_leq, bin_gtr, bin_geq, un_not, un_neg, pick_true, pick_false, extract_two_0, extract_two_1, nilCheck_pointer, cond_true', cond_false', guard_tt, guard_ff, guard_tf, guard_ft, guard_undef, seqQ_normal, seqQ_ret, seqQ_exit, blockQ_ret, blockQ_normal, blockQ_exit, bodyQ_ret, bodyQ_normal, resK_nil, resK_tmp, ite_T, ite_F, upd_at, add_plain, add_zero', len22, len35, len48, fa37_0, fa37_1, fa37_2, fa77_0, fa77_1, fa103_0, fa103_1, fa125_0, fa125_1, fa125_2, fa125_3, fa125_4, Nat.reduceEqDiff]
        refine rdi (ixn22 hQp hql) (rdi (ld3 hQc) ?_)
        simp only [bin_add, bin_sub, bin_mul, bin_eql, bin_neq, bin_lss, bin_leq, bin_gtr, bin_geq, un_not, un_neg, pick_true, pick_false, extract_two_0, extract_two_1, nilCheck_pointer, cond_true', cond_false', guard_tt, guard_ff, guard_tf, guard_ft, guard_undef, seqQ_normal, seqQ_ret, seqQ_exit, blockQ_ret, blockQ_normal, blockQ_exit, bodyQ_ret, bodyQ_normal, resK_nil, resK_tmp, ite_T, ite_F, upd_at, add_plain, add_zero', len22, len35, len48, fa37_0, fa37_1, fa37_2, fa77_0, fa77_1, fa103_0, fa103_1, fa125_0, fa125_1, fa125_2, fa125_3, fa125_4, Nat.reduceEqDiff]
        rw [i64_of (n := (r : Int) + (costQ cs q : Int)) (by omega) (by omega)]
        refine storeH H 1 rfl sz3 rfl rfl hbl fun w13 H => ?_
        simp only [List.set_cons_zero, List.set_cons_succ] at H
        exact put (by rw [ho]; exact decide_eq_true hmo) _ _ h15 rfl H
      · simp only [show ¬ ((r : Int) + (costQ cs q : Int) < (o : Int)) from by omega, decide_false, bin_add, bin_sub, bin_mul, bin_eql, bin_neq, bin_lss, bin_leq, bin_gtr, bin_geq, un_not, un_neg, pick_true, pick_false, extract_two_0, extract_two_1, nilCheck_pointer, cond_true', cond_false', guard_tt, guard_ff, guard_tf, guard_ft, guard_undef, seqQ_normal, seqQ_ret, seqQ_exit, blockQ_ret, blockQ_normal, blockQ_exit, bodyQ_ret, bodyQ_normal, resK_nil, resK_tmp, ite_T, ite_F, upd_at, add_plain, add_zero', len22, len35, len48, fa37_0, fa37_1, fa37_2, fa77_0, fa77_1, fa103_0, fa103_1, fa125_0, fa125_1, fa125_2, fa125_3, fa125_4, Nat.reduceEqDiff]
        exact stay (dont (by rw [ho]; intro h; exact hmo (of_decide_eq_true h))) _ h15 h11b
end Go.Proofs.Ytiohaeckagjebaa

/- Contracts: LeastMend and MendTable of the reference and of the program. -/
set_option linter.unusedVariables false
set_option linter.unusedSimpArgs false
set_option maxRecDepth 100000
namespace Go.Sh
open Go
open Classical in
noncomputable def fixT (c : CandG) (rs : List RuleL) (n : Nat) : CT := if h : ∃ U, FixG c rs n noCT U then Classical.choose h else noCT
theorem FixG.eq {c : CandG} {rs : List RuleL} {n : Nat} {U : CT} (h : FixG c rs n noCT U) : U = fixT c rs n := by
  unfold fixT
  rw [dif_pos ⟨U, h⟩]
  exact h.det (Classical.choose_spec (⟨U, h⟩ : ∃ U, FixG c rs n noCT U))
theorem rd_sliceArr {P : Program} {S : WS} {k : Value → Prop} {t e m : Nat} (ht : P.underlying t = some (.array m e)) (hs : szOf P e 1) {a : Addr} {kd kd' : IntKind} {l h : Int} (h0 : 0 ≤ l) (h1 : l ≤ h) (h2 : h ≤ m) (h3 : l < m) :
    Rd P S (sSlice t (.pointer (some a)) (some (.int kd l)) (some (.int kd' h)) none) k = k (.slice (some (a.add l.toNat)) (h.toNat - l.toNat) (m - l.toNat)) := rd_eq fun w _ => by
  have e1 : (Instr.sliceBounds false m m (some (.int kd l)) (some (.int kd' h)) none).run P w = .ok (l.toNat, h.toNat, m) w := by
    simp only [Instr.sliceBounds, Sem.run_bind, Sem.run_pure, Result.andThen, run_bound (kd := kd') (y := m) (by omega) h2, run_bound (kd := kd) (y := h.toNat) h0 (by omega)]
  have e2 : ¬ m = l.toNat := by omega
  simp only [sSlice, Sem.run_bind]
  unfold Instr.sliceAt
  simp only [Sem.run_bind, run_underlying ht, Result.andThen, e1, run_size hs, Instr.sureAddr, Sem.run_pure, if_neg e2, Nat.mul_one]
theorem cells_ints {w : World} {b e off : Nat} {cs : List Value} {xs : List Int} (hB : Box w b cs e) (hl : xs.length ≤ 1000000) (h : ∀ j, j < xs.length → cs[off + j]? = some (.int .i64 (xs.getD j 0))) : Ints w (some ⟨b, off, none⟩) xs :=
  ⟨by omega, fun _ => rfl, fun j hj => by
    have := hB.cell (off + j)
    rw [h j hj] at this
    by_cases e : j = 0
    · subst e
      exact this
    · show w.cell? ((⟨b, off, none⟩ : Addr).add j) = _
      unfold Addr.add
      rw [if_neg e]
      exact this⟩
end Go.Sh
namespace Go.Proofs.Ytiohaeckagjebaa
open Go Go.Sh Go.RowKit
end Go.Proofs.Ytiohaeckagjebaa
