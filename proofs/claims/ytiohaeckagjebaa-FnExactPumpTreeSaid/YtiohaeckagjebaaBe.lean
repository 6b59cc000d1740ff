/- Be: bodies of functions as terms of the frame calculus, printed by shgen.py of this repository. -/
import Derived.Test.YtiohaeckagjebaaProg
import Derived.Test.YtiohaeckagjebaaSh1
import Derived.Test.YtiohaeckagjebaaShA
set_option linter.unusedVariables false
set_option maxRecDepth 100000
namespace Go.Proofs.Ytiohaeckagjebaa
open Go Go.Sh

/-! loop.example/g00758/laws.FnExactPumpOf -/
def pl8 : Plans := fun i => match i with
  | 13 => ⟨true, [3], .step 0 .held (.step 1 .held (.step 2 .one (.step 3 .last (.step 4 .any (.nil)))))⟩
  | _ => ⟨false, [], .nil⟩
def S8 (v0 v1 : Value) (k : Value → World → Prop) (w : World) : Prop :=
 Do Try.prog (sBox 31 v0) (fun t1 w2 =>
 Rd Try.prog (WS.at w2) (sBuiltin .len #[22] 3 [false] [v1]) fun t3 =>
 Rd Try.prog (WS.at w2) (sBin .gtr 3 true t3 (.int .i64 1048576)) fun t4 =>
 CondK t4
  (k (.bool true) w2)
  (Rd Try.prog (WS.at w2) (sLoad 31 t1) fun t5 =>
  CallK Try.prog 29 [t5, (.int .i64 1048576)] (fun t6 w7 =>
  Rd Try.prog (WS.at w7) (sBin .lss 3 true t6 (.int .i64 0)) fun t8 =>
  CondK t8
   (k (.bool true) w7)
   (Rd Try.prog (WS.at w7) (sLoad 31 t1) fun t9 =>
   CallK Try.prog 31 [t9] (fun t10 w11 =>
   CallK Try.prog 24 [v1] (fun t12 w13 =>
   CallK Try.prog 42 [t10, t12] (fun t14 w15 =>
   Rd Try.prog (WS.at w15) (sExtract t14 0) fun t16 =>
   Rd Try.prog (WS.at w15) (sExtract t14 1) fun t17 =>
   Rd Try.prog (WS.at w15) (sLoad 31 t1) fun t18 =>
   CallK Try.prog 31 [t18] (fun t19 w20 =>
   Do Try.prog (sAlloc 37) (fun t21 w22 =>
   Do Try.prog (sStore 37 t21 t19) (fun _ w23 =>
   CallK Try.prog 24 [v1] (fun t24 w25 =>
   Rd Try.prog (WS.at w25) (sLoad 37 t21) fun t26 =>
   CallK Try.prog 43 [t26, t24] (fun t27 w28 =>
   Rd Try.prog (WS.at w28) (sExtract t27 0) fun t29 =>
   Rd Try.prog (WS.at w28) (sExtract t27 1) fun t30 =>
   CallK Try.prog 26 [t29, t16] (fun t31 w32 =>
   Rd Try.prog (WS.at w32) (sUn .not t31) fun t33 =>
   GuardK t33 false (fun k w' => k t30 w') (fun t34 w35 =>
   GuardK t33 false (fun k w' => k t17 w') (fun t36 w37 =>
   GuardK t33 false (fun k w' => Rd Try.prog (WS.at w37) (sBin .neq 4 false t34 t36) fun v => k v w') (fun t38 w39 =>
   Rd Try.prog (WS.at w39) (sPick t33 (.bool true) t38) fun t40 =>
   CondK t40
    (k (.bool false) w39)
    (∃ S41 : World → Prop, ∃ h42 : S41 w39.drew,
    Rd Try.prog ⟨S41, w39.drew, h42⟩ (sLoad 37 t21) fun t43 =>
    Rd Try.prog ⟨S41, w39.drew, h42⟩ (sLoad 31 t1) fun t44 =>
    CallK Try.prog 31 [t44] (fun t45 w46 =>
    S41 w46 ∧ CallK Try.prog 33 [t43, t45] (fun t47 w48 =>
    Rd Try.prog WS.any (sUn .not t47) fun t49 =>
    CondK t49
     (k (.bool false) w48)
     (CallK Try.prog 24 [v1] (fun t50 w51 =>
     CallK Try.prog 26 [t24, t50] (fun t52 w53 =>
     Rd Try.prog (WS.at w53) (sUn .not t52) fun t54 =>
     CondK t54
      (k (.bool false) w53)
      (Rd Try.prog (WS.at w53) (sLoad 37 t21) fun t55 =>
      CallK Try.prog 36 [t55, (.int .i64 1)] (fun t56 w57 =>
      CallK Try.prog 27 [t24, t56] (fun t58 w59 =>
      Rd Try.prog (WS.at w59) (sBin .lss 3 true t58 (.int .i64 0)) fun t60 =>
      GuardK t60 false (fun k w' => k t29 w') (fun t61 w62 =>
      GuardK t60 false (fun k w' => k t16 w') (fun t63 w64 =>
      GuardK t60 false (fun k w' => CallK Try.prog 26 [t61, t63] k w') (fun t65 w66 =>
      GuardK t60 false (fun k w' => Rd Try.prog (WS.at w66) (sUn .not t65) fun v => k v w') (fun t67 w68 =>
      Rd Try.prog (WS.at w68) (sPick t60 (.bool true) t67) fun t69 =>
      GuardK t69 false (fun k w' => k t30 w') (fun t70 w71 =>
      GuardK t69 false (fun k w' => k t17 w') (fun t72 w73 =>
      GuardK t69 false (fun k w' => Rd Try.prog (WS.at w73) (sBin .neq 4 false t70 t72) fun v => k v w') (fun t74 w75 =>
      Rd Try.prog (WS.at w75) (sPick t69 (.bool true) t74) fun t76 =>
      CondK t76
       (k (.bool false) w75)
       (CallK Try.prog 27 [t29, (.int .i64 1)] (fun t77 w78 =>
       CallK Try.prog 28 [t29, (.int .i64 1)] (fun t79 w80 =>
       Rd Try.prog (WS.at w80) (sBin .lss 3 true t79 (.int .i64 0)) fun t81 =>
       CondK t81
        (k (.bool false) w80)
        (Rd Try.prog (WS.at w80) (sBin .neq 3 false t79 t77) fun t82 =>
        CondK t82
         (k (.bool false) w80)
         (Rd Try.prog (WS.at w80) (sLoad 31 t1) fun t83 =>
         CallK Try.prog 31 [t83] (fun t84 w85 =>
         CallK Try.prog 24 [v1] (fun t86 w87 =>
         CallK Try.prog 43 [t84, t86] (fun t88 w89 =>
         Rd Try.prog (WS.at w89) (sExtract t88 0) fun t90 =>
         Rd Try.prog (WS.at w89) (sExtract t88 1) fun t91 =>
         CallK Try.prog 26 [t90, t16] (fun t92 w93 =>
         Rd Try.prog (WS.at w93) (sUn .not t92) fun t94 =>
         GuardK t94 false (fun k w' => k t91 w') (fun t95 w96 =>
         GuardK t94 false (fun k w' => k t17 w') (fun t97 w98 =>
         GuardK t94 false (fun k w' => Rd Try.prog (WS.at w98) (sBin .neq 4 false t95 t97) fun v => k v w') (fun t99 w100 =>
         Rd Try.prog (WS.at w100) (sPick t94 (.bool true) t99) fun t101 =>
         CondK t101
          (k (.bool false) w100)
          (CallK Try.prog 28 [t29, (.int .i64 1)] (fun t102 w103 =>
          Rd Try.prog (WS.at w103) (sBin .lss 3 true t102 (.int .i64 0)) fun t104 =>
          CondK t104
           (k (.bool false) w103)
           (Rd Try.prog (WS.at w103) (sBin .neq 3 false t102 t77) fun t105 =>
           CondK t105
            (k (.bool false) w103)
            (k (.bool true) w103))) w100)) w98) w96) w93) w89) w87) w85) w80))) w78) w75)) w73) w71) w68) w66) w64) w62) w59) w57) w53)) w51) w48)) w46) w39.drew)) w37) w35) w32) w28) w25) w23) w22) w20) w15) w13) w11) w7)) w2)) w
theorem body8 : Try.f8.body = some (bodyOf Try.f8) := by kernel_rfl
theorem same8 (v0 v1 : Value) (k : Value → World → Prop) (w : World) : wpF Try.prog pl8 (bodyOf Try.f8) (bodyQ Try.prog Try.f8.results.toList k) (initF [v0, v1]) w = S8 v0 v1 k w := by kernel_rfl
theorem enter8 {v0 v1 : Value} {k : Value → World → Prop} {w : World} (h : S8 v0 v1 k w) : CallK Try.prog 8 [v0, v1] k w :=
  call_of_wpF (pl := pl8) mixed Try.func8 body8 (by kernel_rfl) (of_decide_eq_true (by kernel_rfl)) (by kernel_rfl) (by kernel_rfl) (same8 v0 v1 k w ▸ h)

/-! loop.example/g00758/laws.FnExactPathIn -/
def pl9 : Plans := fun i => match i with
  | 13 => ⟨true, [3], .step 0 .held (.step 1 .held (.step 2 .one (.step 3 .last (.step 4 .any (.nil)))))⟩
  | _ => ⟨false, [], .nil⟩
def S9 (v0 v1 : Value) (k : Value → World → Prop) (w : World) : Prop :=
 Do Try.prog (sBox 31 v0) (fun t1 w2 =>
 Rd Try.prog (WS.at w2) (sBuiltin .len #[22] 3 [false] [v1]) fun t3 =>
 Rd Try.prog (WS.at w2) (sBin .gtr 3 true t3 (.int .i64 1048576)) fun t4 =>
 CondK t4
  (k (.bool true) w2)
  (Rd Try.prog (WS.at w2) (sLoad 31 t1) fun t5 =>
  CallK Try.prog 29 [t5, (.int .i64 1048576)] (fun t6 w7 =>
  Rd Try.prog (WS.at w7) (sBin .lss 3 true t6 (.int .i64 0)) fun t8 =>
  CondK t8
   (k (.bool true) w7)
   (Rd Try.prog (WS.at w7) (sLoad 31 t1) fun t9 =>
   CallK Try.prog 31 [t9] (fun t10 w11 =>
   CallK Try.prog 24 [v1] (fun t12 w13 =>
   CallK Try.prog 44 [t10, t12] (fun t14 w15 =>
   Rd Try.prog (WS.at w15) (sExtract t14 0) fun t16 =>
   Rd Try.prog (WS.at w15) (sExtract t14 1) fun t17 =>
   Rd Try.prog (WS.at w15) (sLoad 31 t1) fun t18 =>
   CallK Try.prog 31 [t18] (fun t19 w20 =>
   Do Try.prog (sAlloc 37) (fun t21 w22 =>
   Do Try.prog (sStore 37 t21 t19) (fun _ w23 =>
   CallK Try.prog 24 [v1] (fun t24 w25 =>
   Rd Try.prog (WS.at w25) (sLoad 37 t21) fun t26 =>
   CallK Try.prog 45 [t26, t24] (fun t27 w28 =>
   Rd Try.prog (WS.at w28) (sExtract t27 0) fun t29 =>
   Rd Try.prog (WS.at w28) (sExtract t27 1) fun t30 =>
   CallK Try.prog 46 [t29, t16] (fun t31 w32 =>
   Rd Try.prog (WS.at w32) (sUn .not t31) fun t33 =>
   GuardK t33 false (fun k w' => k t30 w') (fun t34 w35 =>
   GuardK t33 false (fun k w' => k t17 w') (fun t36 w37 =>
   GuardK t33 false (fun k w' => Rd Try.prog (WS.at w37) (sBin .neq 4 false t34 t36) fun v => k v w') (fun t38 w39 =>
   Rd Try.prog (WS.at w39) (sPick t33 (.bool true) t38) fun t40 =>
   CondK t40
    (k (.bool false) w39)
    (∃ S41 : World → Prop, ∃ h42 : S41 w39.drew,
    Rd Try.prog ⟨S41, w39.drew, h42⟩ (sLoad 37 t21) fun t43 =>
    Rd Try.prog ⟨S41, w39.drew, h42⟩ (sLoad 31 t1) fun t44 =>
    CallK Try.prog 31 [t44] (fun t45 w46 =>
    S41 w46 ∧ CallK Try.prog 33 [t43, t45] (fun t47 w48 =>
    Rd Try.prog WS.any (sUn .not t47) fun t49 =>
    CondK t49
     (k (.bool false) w48)
     (CallK Try.prog 24 [v1] (fun t50 w51 =>
     CallK Try.prog 26 [t24, t50] (fun t52 w53 =>
     Rd Try.prog (WS.at w53) (sUn .not t52) fun t54 =>
     CondK t54
      (k (.bool false) w53)
      (Rd Try.prog (WS.at w53) (sLoad 37 t21) fun t55 =>
      CallK Try.prog 36 [t55, (.int .i64 1)] (fun t56 w57 =>
      CallK Try.prog 27 [t24, t56] (fun t58 w59 =>
      Rd Try.prog (WS.at w59) (sBin .lss 3 true t58 (.int .i64 0)) fun t60 =>
      GuardK t60 false (fun k w' => k t29 w') (fun t61 w62 =>
      GuardK t60 false (fun k w' => k t16 w') (fun t63 w64 =>
      GuardK t60 false (fun k w' => CallK Try.prog 46 [t61, t63] k w') (fun t65 w66 =>
      GuardK t60 false (fun k w' => Rd Try.prog (WS.at w66) (sUn .not t65) fun v => k v w') (fun t67 w68 =>
      Rd Try.prog (WS.at w68) (sPick t60 (.bool true) t67) fun t69 =>
      GuardK t69 false (fun k w' => k t30 w') (fun t70 w71 =>
      GuardK t69 false (fun k w' => k t17 w') (fun t72 w73 =>
      GuardK t69 false (fun k w' => Rd Try.prog (WS.at w73) (sBin .neq 4 false t70 t72) fun v => k v w') (fun t74 w75 =>
      Rd Try.prog (WS.at w75) (sPick t69 (.bool true) t74) fun t76 =>
      CondK t76
       (k (.bool false) w75)
       (CallK Try.prog 47 [t29, (.int .i64 1)] (fun t77 w78 =>
       CallK Try.prog 48 [t29, (.int .i64 1)] (fun t79 w80 =>
       Rd Try.prog (WS.at w80) (sBin .lss 3 true t79 (.int .i64 0)) fun t81 =>
       CondK t81
        (k (.bool false) w80)
        (Rd Try.prog (WS.at w80) (sBin .neq 3 false t79 t77) fun t82 =>
        CondK t82
         (k (.bool false) w80)
         (Rd Try.prog (WS.at w80) (sLoad 31 t1) fun t83 =>
         CallK Try.prog 31 [t83] (fun t84 w85 =>
         CallK Try.prog 24 [v1] (fun t86 w87 =>
         CallK Try.prog 45 [t84, t86] (fun t88 w89 =>
         Rd Try.prog (WS.at w89) (sExtract t88 0) fun t90 =>
         Rd Try.prog (WS.at w89) (sExtract t88 1) fun t91 =>
         CallK Try.prog 46 [t90, t16] (fun t92 w93 =>
         Rd Try.prog (WS.at w93) (sUn .not t92) fun t94 =>
         GuardK t94 false (fun k w' => k t91 w') (fun t95 w96 =>
         GuardK t94 false (fun k w' => k t17 w') (fun t97 w98 =>
         GuardK t94 false (fun k w' => Rd Try.prog (WS.at w98) (sBin .neq 4 false t95 t97) fun v => k v w') (fun t99 w100 =>
         Rd Try.prog (WS.at w100) (sPick t94 (.bool true) t99) fun t101 =>
         CondK t101
          (k (.bool false) w100)
          (CallK Try.prog 48 [t29, (.int .i64 1)] (fun t102 w103 =>
          Rd Try.prog (WS.at w103) (sBin .lss 3 true t102 (.int .i64 0)) fun t104 =>
          CondK t104
           (k (.bool false) w103)
           (Rd Try.prog (WS.at w103) (sBin .neq 3 false t102 t77) fun t105 =>
           CondK t105
            (k (.bool false) w103)
            (k (.bool true) w103))) w100)) w98) w96) w93) w89) w87) w85) w80))) w78) w75)) w73) w71) w68) w66) w64) w62) w59) w57) w53)) w51) w48)) w46) w39.drew)) w37) w35) w32) w28) w25) w23) w22) w20) w15) w13) w11) w7)) w2)) w
theorem body9 : Try.f9.body = some (bodyOf Try.f9) := by kernel_rfl
theorem same9 (v0 v1 : Value) (k : Value → World → Prop) (w : World) : wpF Try.prog pl9 (bodyOf Try.f9) (bodyQ Try.prog Try.f9.results.toList k) (initF [v0, v1]) w = S9 v0 v1 k w := by kernel_rfl
theorem enter9 {v0 v1 : Value} {k : Value → World → Prop} {w : World} (h : S9 v0 v1 k w) : CallK Try.prog 9 [v0, v1] k w :=
  call_of_wpF (pl := pl9) mixed Try.func9 body9 (by kernel_rfl) (of_decide_eq_true (by kernel_rfl)) (by kernel_rfl) (by kernel_rfl) (same9 v0 v1 k w ▸ h)

/-! loop.example/g00758/laws.FnExactPumpTree -/
def pl15 : Plans := fun i => match i with
  | 13 => ⟨true, [3], .step 0 .held (.step 1 .held (.step 2 .one (.step 3 .last (.step 4 .any (.nil)))))⟩
  | _ => ⟨false, [], .nil⟩
def S15 (v0 v1 v2 : Value) (k : Value → World → Prop) (w : World) : Prop :=
 Do Try.prog (sBox 31 v0) (fun t1 w2 =>
 Rd Try.prog (WS.at w2) (sBuiltin .len #[22] 3 [false] [v1]) fun t3 =>
 Rd Try.prog (WS.at w2) (sBin .gtr 3 true t3 (.int .i64 1048576)) fun t4 =>
 CondK t4
  (k (.bool true) w2)
  (Rd Try.prog (WS.at w2) (sLoad 31 t1) fun t5 =>
  CallK Try.prog 29 [t5, (.int .i64 1048576)] (fun t6 w7 =>
  Rd Try.prog (WS.at w7) (sBin .lss 3 true t6 (.int .i64 0)) fun t8 =>
  CondK t8
   (k (.bool true) w7)
   (Rd Try.prog (WS.at w7) (sLoad 31 t1) fun t9 =>
   CallK Try.prog 31 [t9] (fun t10 w11 =>
   CallK Try.prog 24 [v1] (fun t12 w13 =>
   CallK Try.prog 59 [t10, t12, v2] (fun t14 w15 =>
   Rd Try.prog (WS.at w15) (sExtract t14 0) fun t16 =>
   Rd Try.prog (WS.at w15) (sExtract t14 1) fun t17 =>
   Rd Try.prog (WS.at w15) (sLoad 31 t1) fun t18 =>
   CallK Try.prog 31 [t18] (fun t19 w20 =>
   Do Try.prog (sAlloc 37) (fun t21 w22 =>
   Do Try.prog (sStore 37 t21 t19) (fun _ w23 =>
   CallK Try.prog 24 [v1] (fun t24 w25 =>
   Rd Try.prog (WS.at w25) (sLoad 37 t21) fun t26 =>
   CallK Try.prog 60 [t26, t24, v2] (fun t27 w28 =>
   Rd Try.prog (WS.at w28) (sExtract t27 0) fun t29 =>
   Rd Try.prog (WS.at w28) (sExtract t27 1) fun t30 =>
   CallK Try.prog 26 [t29, t16] (fun t31 w32 =>
   Rd Try.prog (WS.at w32) (sUn .not t31) fun t33 =>
   GuardK t33 false (fun k w' => k t30 w') (fun t34 w35 =>
   GuardK t33 false (fun k w' => k t17 w') (fun t36 w37 =>
   GuardK t33 false (fun k w' => Rd Try.prog (WS.at w37) (sBin .neq 4 false t34 t36) fun v => k v w') (fun t38 w39 =>
   Rd Try.prog (WS.at w39) (sPick t33 (.bool true) t38) fun t40 =>
   CondK t40
    (k (.bool false) w39)
    (∃ S41 : World → Prop, ∃ h42 : S41 w39.drew,
    Rd Try.prog ⟨S41, w39.drew, h42⟩ (sLoad 37 t21) fun t43 =>
    Rd Try.prog ⟨S41, w39.drew, h42⟩ (sLoad 31 t1) fun t44 =>
    CallK Try.prog 31 [t44] (fun t45 w46 =>
    S41 w46 ∧ CallK Try.prog 33 [t43, t45] (fun t47 w48 =>
    Rd Try.prog WS.any (sUn .not t47) fun t49 =>
    CondK t49
     (k (.bool false) w48)
     (CallK Try.prog 24 [v1] (fun t50 w51 =>
     CallK Try.prog 26 [t24, t50] (fun t52 w53 =>
     Rd Try.prog (WS.at w53) (sUn .not t52) fun t54 =>
     CondK t54
      (k (.bool false) w53)
      (Rd Try.prog (WS.at w53) (sLoad 37 t21) fun t55 =>
      CallK Try.prog 36 [t55, (.int .i64 1)] (fun t56 w57 =>
      CallK Try.prog 27 [t24, t56] (fun t58 w59 =>
      Rd Try.prog (WS.at w59) (sBin .lss 3 true t58 (.int .i64 0)) fun t60 =>
      GuardK t60 false (fun k w' => k t29 w') (fun t61 w62 =>
      GuardK t60 false (fun k w' => k t16 w') (fun t63 w64 =>
      GuardK t60 false (fun k w' => CallK Try.prog 26 [t61, t63] k w') (fun t65 w66 =>
      GuardK t60 false (fun k w' => Rd Try.prog (WS.at w66) (sUn .not t65) fun v => k v w') (fun t67 w68 =>
      Rd Try.prog (WS.at w68) (sPick t60 (.bool true) t67) fun t69 =>
      GuardK t69 false (fun k w' => k t30 w') (fun t70 w71 =>
      GuardK t69 false (fun k w' => k t17 w') (fun t72 w73 =>
      GuardK t69 false (fun k w' => Rd Try.prog (WS.at w73) (sBin .neq 4 false t70 t72) fun v => k v w') (fun t74 w75 =>
      Rd Try.prog (WS.at w75) (sPick t69 (.bool true) t74) fun t76 =>
      CondK t76
       (k (.bool false) w75)
       (CallK Try.prog 27 [t29, (.int .i64 1)] (fun t77 w78 =>
       CallK Try.prog 28 [t29, (.int .i64 1)] (fun t79 w80 =>
       Rd Try.prog (WS.at w80) (sBin .lss 3 true t79 (.int .i64 0)) fun t81 =>
       CondK t81
        (k (.bool false) w80)
        (Rd Try.prog (WS.at w80) (sBin .neq 3 false t79 t77) fun t82 =>
        CondK t82
         (k (.bool false) w80)
         (Rd Try.prog (WS.at w80) (sLoad 31 t1) fun t83 =>
         CallK Try.prog 31 [t83] (fun t84 w85 =>
         CallK Try.prog 24 [v1] (fun t86 w87 =>
         CallK Try.prog 60 [t84, t86, v2] (fun t88 w89 =>
         Rd Try.prog (WS.at w89) (sExtract t88 0) fun t90 =>
         Rd Try.prog (WS.at w89) (sExtract t88 1) fun t91 =>
         CallK Try.prog 26 [t90, t16] (fun t92 w93 =>
         Rd Try.prog (WS.at w93) (sUn .not t92) fun t94 =>
         GuardK t94 false (fun k w' => k t91 w') (fun t95 w96 =>
         GuardK t94 false (fun k w' => k t17 w') (fun t97 w98 =>
         GuardK t94 false (fun k w' => Rd Try.prog (WS.at w98) (sBin .neq 4 false t95 t97) fun v => k v w') (fun t99 w100 =>
         Rd Try.prog (WS.at w100) (sPick t94 (.bool true) t99) fun t101 =>
         CondK t101
          (k (.bool false) w100)
          (CallK Try.prog 28 [t29, (.int .i64 1)] (fun t102 w103 =>
          Rd Try.prog (WS.at w103) (sBin .lss 3 true t102 (.int .i64 0)) fun t104 =>
          CondK t104
           (k (.bool false) w103)
           (Rd Try.prog (WS.at w103) (sBin .neq 3 false t102 t77) fun t105 =>
           CondK t105
            (k (.bool false) w103)
            (k (.bool true) w103))) w100)) w98) w96) w93) w89) w87) w85) w80))) w78) w75)) w73) w71) w68) w66) w64) w62) w59) w57) w53)) w51) w48)) w46) w39.drew)) w37) w35) w32) w28) w25) w23) w22) w20) w15) w13) w11) w7)) w2)) w
theorem body15 : Try.f15.body = some (bodyOf Try.f15) := by kernel_rfl
theorem same15 (v0 v1 v2 : Value) (k : Value → World → Prop) (w : World) : wpF Try.prog pl15 (bodyOf Try.f15) (bodyQ Try.prog Try.f15.results.toList k) (initF [v0, v1, v2]) w = S15 v0 v1 v2 k w := by kernel_rfl
theorem enter15 {v0 v1 v2 : Value} {k : Value → World → Prop} {w : World} (h : S15 v0 v1 v2 k w) : CallK Try.prog 15 [v0, v1, v2] k w :=
  call_of_wpF (pl := pl15) mixed Try.func15 body15 (by kernel_rfl) (of_decide_eq_true (by kernel_rfl)) (by kernel_rfl) (by kernel_rfl) (same15 v0 v1 v2 k w ▸ h)

/-! loop.example/g00758/spec.PumpOf -/
def pl42 : Plans := fun _ => ⟨false, [], .nil⟩
def S42 (v0 v1 : Value) (k : Value → World → Prop) (w : World) : Prop :=
 Do Try.prog (sBox 37 v0) (fun t1 w2 =>
 Rd Try.prog (WS.at w2) (sLoad 37 t1) fun t3 =>
 CallK Try.prog 91 [t3, v1] (fun t4 w5 =>
 Rd Try.prog (WS.at w5) (sUn .not t4) fun t6 =>
 CondK t6
  (k (.tuple #[(.slice none 0 0), (.bool false)]) w5)
  (Rd Try.prog (WS.at w5) (sLoad 37 t1) fun t7 =>
  CallK Try.prog 92 [t7, v1] (fun t8 w9 =>
  Rd Try.prog (WS.at w9) (sBuiltin .len #[22] 3 [false] [t8]) fun t10 =>
  Rd Try.prog (WS.at w9) (sBin .gtr 3 true t10 (.int .i64 0)) fun t11 =>
  k (.tuple #[t8, t11]) w9) w5)) w2) w
theorem body42 : Try.f42.body = some (bodyOf Try.f42) := by kernel_rfl
theorem same42 (v0 v1 : Value) (k : Value → World → Prop) (w : World) : wpF Try.prog pl42 (bodyOf Try.f42) (bodyQ Try.prog Try.f42.results.toList k) (initF [v0, v1]) w = S42 v0 v1 k w := by kernel_rfl
theorem enter42 {v0 v1 : Value} {k : Value → World → Prop} {w : World} (h : S42 v0 v1 k w) : CallK Try.prog 42 [v0, v1] k w :=
  call_of_wpF (pl := pl42) mixed Try.func42 body42 (by kernel_rfl) (of_decide_eq_true (by kernel_rfl)) (by kernel_rfl) (by kernel_rfl) (same42 v0 v1 k w ▸ h)

/-! loop.example/g00758/impl.PumpOf -/
def pl43 : Plans := fun i => match i with
  | 7 => ⟨false, [24], .step 0 .any (.step 1 .any (.step 2 .any (.step 3 .held (.step 4 .any (.step 5 .any (.step 6 .any (.step 7 .held (.step 8 .any (.step 9 .any (.step 10 .any (.step 11 .held (.step 12 .any (.step 13 .any (.step 14 .any (.step 15 .held (.step 16 .any (.step 17 .any (.step 18 .any (.step 19 .held (.step 20 .any (.step 21 .any (.step 22 .any (.step 23 .held (.step 24 .last (.step 25 .any (.step 26 .any (.nil)))))))))))))))))))))))))))⟩
  | _ => ⟨false, [], .nil⟩
def S43 (v0 v1 : Value) (k : Value → World → Prop) (w : World) : Prop :=
 Do Try.prog (sBox 37 v0) (fun t1 w2 =>
 Rd Try.prog (WS.at w2) (sLoad 37 t1) fun t3 =>
 CallK Try.prog 93 [t3, v1] (fun t4 w5 =>
 Rd Try.prog (WS.at w5) (sExtract t4 0) fun t6 =>
 Rd Try.prog (WS.at w5) (sExtract t4 1) fun t7 =>
 Rd Try.prog (WS.at w5) (sExtract t4 2) fun t8 =>
 Rd Try.prog (WS.at w5) (sUn .not t8) fun t9 =>
 CondK t9
  (k (.tuple #[(.slice none 0 0), (.bool false)]) w5)
  (CallK Try.prog 94 [t6] (fun t10 w11 =>
  Rd Try.prog (WS.at w11) (sExtract t10 0) fun t12 =>
  Rd Try.prog (WS.at w11) (sExtract t10 1) fun t13 =>
  Rd Try.prog (WS.at w11) (sBin .eql 86 true t12 (.pointer none)) fun t14 =>
  CondK t14
   (k (.tuple #[(.slice none 0 0), (.bool false)]) w11)
   (Rd Try.prog WS.any (sNilCheck t12) fun t15 =>
   Rd Try.prog WS.any (sFieldAddr 93 t15 2) fun t16 =>
   Rd Try.prog (WS.at w11.drew) (sLoad 3 t16) fun t17 =>
   Rd Try.prog WS.any (sNilCheck t13) fun t18 =>
   Rd Try.prog WS.any (sFieldAddr 93 t18 2) fun t19 =>
   Rd Try.prog (WS.at w11.drew) (sLoad 3 t19) fun t20 =>
   Rd Try.prog WS.any (sNilCheck t12) fun t21 =>
   Rd Try.prog WS.any (sFieldAddr 93 t21 4) fun t22 =>
   Rd Try.prog (WS.at w11.drew) (sLoad 3 t22) fun t23 =>
   Rd Try.prog WS.any (sNilCheck t13) fun t24 =>
   Rd Try.prog WS.any (sFieldAddr 93 t24 4) fun t25 =>
   Rd Try.prog (WS.at w11.drew) (sLoad 3 t25) fun t26 =>
   Rd Try.prog WS.any (sNilCheck t13) fun t27 =>
   Rd Try.prog WS.any (sFieldAddr 93 t27 5) fun t28 =>
   Rd Try.prog (WS.at w11.drew) (sLoad 3 t28) fun t29 =>
   Rd Try.prog WS.any (sNilCheck t12) fun t30 =>
   Rd Try.prog WS.any (sFieldAddr 93 t30 5) fun t31 =>
   Rd Try.prog (WS.at w11.drew) (sLoad 3 t31) fun t32 =>
   Do Try.prog (sBuildSlice 22 6 [(0, t17), (1, t20), (2, t23), (3, t26), (4, t29), (5, t32)]) (fun t33 w34 =>
   k (.tuple #[t33, (.bool true)]) w34) w11.drew)) w5)) w2) w
theorem body43 : Try.f43.body = some (bodyOf Try.f43) := by kernel_rfl
theorem same43 (v0 v1 : Value) (k : Value → World → Prop) (w : World) : wpF Try.prog pl43 (bodyOf Try.f43) (bodyQ Try.prog Try.f43.results.toList k) (initF [v0, v1]) w = S43 v0 v1 k w := by kernel_rfl
theorem enter43 {v0 v1 : Value} {k : Value → World → Prop} {w : World} (h : S43 v0 v1 k w) : CallK Try.prog 43 [v0, v1] k w :=
  call_of_wpF (pl := pl43) mixed Try.func43 body43 (by kernel_rfl) (of_decide_eq_true (by kernel_rfl)) (by kernel_rfl) (by kernel_rfl) (same43 v0 v1 k w ▸ h)

/-! loop.example/g00758/spec.PathIn -/
def pl44 : Plans := fun _ => ⟨false, [], .nil⟩
def S44 (v0 v1 : Value) (k : Value → World → Prop) (w : World) : Prop :=
 Do Try.prog (sBox 37 v0) (fun t1 w2 =>
 Rd Try.prog (WS.at w2) (sLoad 37 t1) fun t3 =>
 CallK Try.prog 91 [t3, v1] (fun t4 w5 =>
 Rd Try.prog (WS.at w5) (sUn .not t4) fun t6 =>
 CondK t6
  (k (.tuple #[(.slice none 0 0), (.bool false)]) w5)
  (Rd Try.prog (WS.at w5) (sLoad 37 t1) fun t7 =>
  CallK Try.prog 95 [t7, v1, (.int .i64 0), (.int .i64 0)] (fun t8 w9 =>
  Rd Try.prog (WS.at w9) (sExtract t8 0) fun t10 =>
  Rd Try.prog (WS.at w9) (sExtract t8 1) fun t11 =>
  k (.tuple #[t10, (.bool true)]) w9) w5)) w2) w
theorem body44 : Try.f44.body = some (bodyOf Try.f44) := by kernel_rfl
theorem same44 (v0 v1 : Value) (k : Value → World → Prop) (w : World) : wpF Try.prog pl44 (bodyOf Try.f44) (bodyQ Try.prog Try.f44.results.toList k) (initF [v0, v1]) w = S44 v0 v1 k w := by kernel_rfl
theorem enter44 {v0 v1 : Value} {k : Value → World → Prop} {w : World} (h : S44 v0 v1 k w) : CallK Try.prog 44 [v0, v1] k w :=
  call_of_wpF (pl := pl44) mixed Try.func44 body44 (by kernel_rfl) (of_decide_eq_true (by kernel_rfl)) (by kernel_rfl) (by kernel_rfl) (same44 v0 v1 k w ▸ h)

/-! loop.example/g00758/impl.PathIn -/
def pl45 : Plans := fun i => match i with
  | 8 => ⟨false, [17, 18, 19], .step 0 .any (.step 1 .any (.step 2 .any (.step 3 .any (.step 4 .held (.step 5 .any (.step 6 .any (.step 7 .any (.step 8 .held (.step 9 .any (.step 10 .any (.step 11 .any (.step 12 .held (.step 13 .any (.step 14 .any (.step 15 .any (.step 16 .held (.step 17 .last (.step 18 .last (.step 19 .last (.step 20 .any (.nil)))))))))))))))))))))⟩
  | _ => ⟨false, [], .nil⟩
def S45 (v0 v1 : Value) (k : Value → World → Prop) (w : World) : Prop :=
 Do Try.prog (sBox 37 v0) (fun t1 w2 =>
 Rd Try.prog (WS.at w2) (sLoad 37 t1) fun t3 =>
 CallK Try.prog 93 [t3, v1] (fun t4 w5 =>
 Rd Try.prog (WS.at w5) (sExtract t4 0) fun t6 =>
 Rd Try.prog (WS.at w5) (sExtract t4 1) fun t7 =>
 Rd Try.prog (WS.at w5) (sExtract t4 2) fun t8 =>
 Rd Try.prog (WS.at w5) (sUn .not t8) fun t9 =>
 CondK t9
  (k (.tuple #[(.slice none 0 0), (.bool false)]) w5)
  (Do Try.prog (sBuildSlice 48 0 []) (fun t10 w11 =>
  CallK Try.prog 96 [t6] (fun t12 w13 =>
  Rd Try.prog (WS.at w13) (sBuiltin .len #[91] 3 [false] [t12]) fun t14 =>
  LoopF [26, 27, 28, 11, 29, 30, 31, 32, 33, 34, 35, 36, 37, 38, 39, 40, 41, 42, 43, 44, 45, 46, 47, 48, 9, 49, 25] (fun Q15 f16 w17 =>
   Rd Try.prog (WS.at w17) (sBin .lss 3 false (f16 25) (f16 24)) fun t18 =>
   CondK t18
    (Rd Try.prog (WS.at w17) (sIndexAddr 91 (f16 23) (f16 25)) fun t19 =>
    Rd Try.prog (WS.at w17) (sLoad 86 t19) fun t20 =>
    Rd Try.prog WS.any (sNilCheck t20) fun t21 =>
    Rd Try.prog WS.any (sFieldAddr 93 t21 0) fun t22 =>
    Rd Try.prog (WS.at w17.drew) (sLoad 3 t22) fun t23 =>
    Rd Try.prog WS.any (sNilCheck t20) fun t24 =>
    Rd Try.prog WS.any (sFieldAddr 93 t24 3) fun t25 =>
    Rd Try.prog (WS.at w17.drew) (sLoad 3 t25) fun t26 =>
    Rd Try.prog WS.any (sNilCheck t20) fun t27 =>
    Rd Try.prog WS.any (sFieldAddr 93 t27 4) fun t28 =>
    Rd Try.prog (WS.at w17.drew) (sLoad 3 t28) fun t29 =>
    Rd Try.prog WS.any (sNilCheck t20) fun t30 =>
    Rd Try.prog WS.any (sFieldAddr 93 t30 5) fun t31 =>
    Rd Try.prog (WS.at w17.drew) (sLoad 3 t31) fun t32 =>
    Do Try.prog (sBuildSlice 22 4 [(0, t23), (1, t26), (2, t29), (3, t32)]) (fun t33 w34 =>
    Do Try.prog (sBuildSlice 48 1 [(0, t33)]) (fun t35 w36 =>
    Do Try.prog (sBuiltin .append #[48, 48] 48 [false, false] [(f16 9), t35]) (fun t37 w38 =>
    Rd Try.prog (WS.at w38) (sBin .add 3 true (f16 25) (.int .i64 1)) fun t39 =>
    Q15 .normal (F.upd (F.upd (F.upd (F.upd (F.upd (F.upd (F.upd (F.upd (F.upd (F.upd (F.upd (F.upd (F.upd (F.upd (F.upd (F.upd (F.upd (F.upd (F.upd (F.upd (F.upd (F.upd (F.upd (F.upd (F.upd (F.upd (F.upd f16 26 t18) 27 t19) 28 t20) 11 t20) 29 (f16 9)) 30 t20) 31 t21) 32 t22) 33 t23) 34 t20) 35 t24) 36 t25) 37 t26) 38 t20) 39 t27) 40 t28) 41 t29) 42 t20) 43 t30) 44 t31) 45 t32) 46 t33) 47 t35) 48 t37) 9 t37) 49 t39) 25 t39) w38) w36) w34) w17.drew)
    (Q15 (.exit 0) (F.upd f16 26 t18) w17))
   (blockQ 0 (seqQ (fun f40 w41 =>
  k (.tuple #[(f40 9), (.bool true)]) w41) (bodyQ Try.prog [.tmp 4, .tmp 5] k)))
   (F.upd (F.upd (F.upd (F.upd (F.upd (F.upd (F.upd (F.upd (F.upd (F.upd (F.upd (F.upd (F.upd (F.upd (F.upd (F.upd (F.upd (F.upd (F.upd (F.upd (F.upd (initF [v0, v1]) 2 t1) 4 (.slice none 0 0)) 5 (.bool false)) 13 t3) 14 v1) 15 t4) 12 t4) 16 t6) 17 t7) 18 t8) 6 t6) 7 t7) 8 t8) 19 t8) 20 t9) 21 t10) 9 t10) 22 t6) 23 t12) 24 t14) 25 (.int .i64 0)) w13) w11) w5)) w2) w
theorem body45 : Try.f45.body = some (bodyOf Try.f45) := by kernel_rfl
theorem same45 (v0 v1 : Value) (k : Value → World → Prop) (w : World) : wpF Try.prog pl45 (bodyOf Try.f45) (bodyQ Try.prog Try.f45.results.toList k) (initF [v0, v1]) w = S45 v0 v1 k w := by kernel_rfl
theorem enter45 {v0 v1 : Value} {k : Value → World → Prop} {w : World} (h : S45 v0 v1 k w) : CallK Try.prog 45 [v0, v1] k w :=
  call_of_wpF (pl := pl45) mixed Try.func45 body45 (by kernel_rfl) (of_decide_eq_true (by kernel_rfl)) (by kernel_rfl) (by kernel_rfl) (same45 v0 v1 k w ▸ h)

/-! loop.example/g00758/laws.eqIntSS -/
def pl46 : Plans := fun i => match i with
  | 6 => ⟨false, [8], .step 0 .any (.step 1 .any (.step 2 .any (.step 3 .held (.step 4 .any (.step 5 .any (.step 6 .any (.step 7 .held (.step 8 .last (.step 9 .any (.nil))))))))))⟩
  | _ => ⟨false, [], .nil⟩
def S46 (v0 v1 : Value) (k : Value → World → Prop) (w : World) : Prop :=
 Rd Try.prog (WS.at w) (sBuiltin .len #[48] 3 [false] [v0]) fun t1 =>
 Rd Try.prog (WS.at w) (sBuiltin .len #[48] 3 [false] [v1]) fun t2 =>
 Rd Try.prog (WS.at w) (sBin .neq 3 false t1 t2) fun t3 =>
 CondK t3
  (k (.bool false) w)
  (LoopF [11, 12, 13, 14, 17, 18, 19, 20, 21, 22, 23, 24, 25, 26, 4, 15, 16, 5] (fun Q4 f5 w6 =>
   Rd Try.prog (WS.at w6) (sBuiltin .len #[48] 3 [false] [(f5 0)]) fun t7 =>
   Rd Try.prog (WS.at w6) (sBin .lss 3 false (f5 5) t7) fun t8 =>
   CondK t8
    (Rd Try.prog WS.any (sIndexAddr 48 (f5 0) (f5 5)) fun t9 =>
    Rd Try.prog (WS.at w6.drew) (sLoad 22 t9) fun t10 =>
    Rd Try.prog WS.any (sIndexAddr 48 (f5 1) (f5 5)) fun t11 =>
    Rd Try.prog (WS.at w6.drew) (sLoad 22 t11) fun t12 =>
    CallK Try.prog 26 [t10, t12] (fun t13 w14 =>
    Rd Try.prog WS.any (sUn .not t13) fun t15 =>
    CondK t15
     (Q4 .ret (F.upd (F.upd (F.upd (F.upd (F.upd (F.upd (F.upd (F.upd (F.upd (F.upd (F.upd (F.upd (F.upd (F.upd (F.upd f5 11 (f5 5)) 12 (f5 0)) 13 t7) 14 t8) 17 (f5 0)) 18 (f5 5)) 19 t9) 20 t10) 21 (f5 1)) 22 (f5 5)) 23 t11) 24 t12) 25 t13) 26 t15) 4 (.bool false)) w14)
     (Rd Try.prog (WS.at w14) (sBin .add 3 true (f5 5) (.int .i64 1)) fun t16 =>
     Q4 .normal (F.upd (F.upd (F.upd (F.upd (F.upd (F.upd (F.upd (F.upd (F.upd (F.upd (F.upd (F.upd (F.upd (F.upd (F.upd (F.upd (F.upd f5 11 (f5 5)) 12 (f5 0)) 13 t7) 14 t8) 17 (f5 0)) 18 (f5 5)) 19 t9) 20 t10) 21 (f5 1)) 22 (f5 5)) 23 t11) 24 t12) 25 t13) 26 t15) 15 (f5 5)) 16 t16) 5 t16) w14)) w6.drew)
    (Q4 (.exit 0) (F.upd (F.upd (F.upd (F.upd f5 11 (f5 5)) 12 (f5 0)) 13 t7) 14 t8) w6))
   (blockQ 0 (seqQ (fun f17 w18 =>
  k (.bool true) w18) (bodyQ Try.prog [.tmp 4] k)))
   (F.upd (F.upd (F.upd (F.upd (F.upd (F.upd (F.upd (initF [v0, v1]) 4 (.bool false)) 6 v0) 7 t1) 8 v1) 9 t2) 10 t3) 5 (.int .i64 0)) w)
theorem body46 : Try.f46.body = some (bodyOf Try.f46) := by kernel_rfl
theorem same46 (v0 v1 : Value) (k : Value → World → Prop) (w : World) : wpF Try.prog pl46 (bodyOf Try.f46) (bodyQ Try.prog Try.f46.results.toList k) (initF [v0, v1]) w = S46 v0 v1 k w := by kernel_rfl
theorem enter46 {v0 v1 : Value} {k : Value → World → Prop} {w : World} (h : S46 v0 v1 k w) : CallK Try.prog 46 [v0, v1] k w :=
  call_of_wpF (pl := pl46) mixed Try.func46 body46 (by kernel_rfl) (of_decide_eq_true (by kernel_rfl)) (by kernel_rfl) (by kernel_rfl) (same46 v0 v1 k w ▸ h)

/-! loop.example/g00758/laws.markIntSS -/
def pl47 : Plans := fun _ => ⟨false, [], .nil⟩
def S47 (v0 v1 : Value) (k : Value → World → Prop) (w : World) : Prop :=
 LoopF [6, 7, 8, 9, 12, 13, 14, 15, 16, 17, 1, 10, 11, 5] (fun Q1 f2 w3 =>
  Rd Try.prog (WS.at w3) (sBuiltin .len #[48] 3 [false] [(f2 0)]) fun t4 =>
  Rd Try.prog (WS.at w3) (sBin .lss 3 false (f2 5) t4) fun t5 =>
  CondK t5
   (Rd Try.prog (WS.at w3) (sIndexAddr 48 (f2 0) (f2 5)) fun t6 =>
   Rd Try.prog (WS.at w3) (sLoad 22 t6) fun t7 =>
   CallK Try.prog 27 [t7, (f2 1)] (fun t8 w9 =>
   Rd Try.prog (WS.at w9) (sBin .add 3 true (f2 5) (.int .i64 1)) fun t10 =>
   Q1 .normal (F.upd (F.upd (F.upd (F.upd (F.upd (F.upd (F.upd (F.upd (F.upd (F.upd (F.upd (F.upd (F.upd (F.upd f2 6 (f2 5)) 7 (f2 0)) 8 t4) 9 t5) 12 (f2 0)) 13 (f2 5)) 14 t6) 15 t7) 16 (f2 1)) 17 t8) 1 t8) 10 (f2 5)) 11 t10) 5 t10) w9) w3)
   (Q1 (.exit 0) (F.upd (F.upd (F.upd (F.upd f2 6 (f2 5)) 7 (f2 0)) 8 t4) 9 t5) w3))
  (blockQ 0 (seqQ (fun f11 w12 =>
 k (f11 1) w12) (bodyQ Try.prog [.tmp 4] k)))
  (F.upd (F.upd (initF [v0, v1]) 4 (.int .i64 0)) 5 (.int .i64 0)) w
theorem body47 : Try.f47.body = some (bodyOf Try.f47) := by kernel_rfl
theorem same47 (v0 v1 : Value) (k : Value → World → Prop) (w : World) : wpF Try.prog pl47 (bodyOf Try.f47) (bodyQ Try.prog Try.f47.results.toList k) (initF [v0, v1]) w = S47 v0 v1 k w := by kernel_rfl
theorem enter47 {v0 v1 : Value} {k : Value → World → Prop} {w : World} (h : S47 v0 v1 k w) : CallK Try.prog 47 [v0, v1] k w :=
  call_of_wpF (pl := pl47) mixed Try.func47 body47 (by kernel_rfl) (of_decide_eq_true (by kernel_rfl)) (by kernel_rfl) (by kernel_rfl) (same47 v0 v1 k w ▸ h)

/-! loop.example/g00758/laws.heldIntSS -/
def pl48 : Plans := fun _ => ⟨false, [], .nil⟩
def S48 (v0 v1 : Value) (k : Value → World → Prop) (w : World) : Prop :=
 LoopF [6, 7, 8, 9, 12, 13, 14, 15, 16, 17, 1, 18, 19, 4, 10, 11, 5] (fun Q1 f2 w3 =>
  Rd Try.prog (WS.at w3) (sBuiltin .len #[48] 3 [false] [(f2 0)]) fun t4 =>
  Rd Try.prog (WS.at w3) (sBin .lss 3 false (f2 5) t4) fun t5 =>
  CondK t5
   (Rd Try.prog (WS.at w3) (sIndexAddr 48 (f2 0) (f2 5)) fun t6 =>
   Rd Try.prog (WS.at w3) (sLoad 22 t6) fun t7 =>
   CallK Try.prog 28 [t7, (f2 1)] (fun t8 w9 =>
   Rd Try.prog (WS.at w9) (sBin .lss 3 true t8 (.int .i64 0)) fun t10 =>
   CondK t10
    (Q1 .ret (F.upd (F.upd (F.upd (F.upd (F.upd (F.upd (F.upd (F.upd (F.upd (F.upd (F.upd (F.upd (F.upd (F.upd f2 6 (f2 5)) 7 (f2 0)) 8 t4) 9 t5) 12 (f2 0)) 13 (f2 5)) 14 t6) 15 t7) 16 (f2 1)) 17 t8) 1 t8) 18 t8) 19 t10) 4 (.int .i64 (-1))) w9)
    (Rd Try.prog (WS.at w9) (sBin .add 3 true (f2 5) (.int .i64 1)) fun t11 =>
    Q1 .normal (F.upd (F.upd (F.upd (F.upd (F.upd (F.upd (F.upd (F.upd (F.upd (F.upd (F.upd (F.upd (F.upd (F.upd (F.upd (F.upd f2 6 (f2 5)) 7 (f2 0)) 8 t4) 9 t5) 12 (f2 0)) 13 (f2 5)) 14 t6) 15 t7) 16 (f2 1)) 17 t8) 1 t8) 18 t8) 19 t10) 10 (f2 5)) 11 t11) 5 t11) w9)) w3)
   (Q1 (.exit 0) (F.upd (F.upd (F.upd (F.upd f2 6 (f2 5)) 7 (f2 0)) 8 t4) 9 t5) w3))
  (blockQ 0 (seqQ (fun f12 w13 =>
 k (f12 1) w13) (bodyQ Try.prog [.tmp 4] k)))
  (F.upd (F.upd (initF [v0, v1]) 4 (.int .i64 0)) 5 (.int .i64 0)) w
theorem body48 : Try.f48.body = some (bodyOf Try.f48) := by kernel_rfl
theorem same48 (v0 v1 : Value) (k : Value → World → Prop) (w : World) : wpF Try.prog pl48 (bodyOf Try.f48) (bodyQ Try.prog Try.f48.results.toList k) (initF [v0, v1]) w = S48 v0 v1 k w := by kernel_rfl
theorem enter48 {v0 v1 : Value} {k : Value → World → Prop} {w : World} (h : S48 v0 v1 k w) : CallK Try.prog 48 [v0, v1] k w :=
  call_of_wpF (pl := pl48) mixed Try.func48 body48 (by kernel_rfl) (of_decide_eq_true (by kernel_rfl)) (by kernel_rfl) (by kernel_rfl) (same48 v0 v1 k w ▸ h)

/-! loop.example/g00758/spec.PumpTree -/
def pl59 : Plans := fun i => match i with
  | 7 => ⟨false, [], .step 0 .any (.step 1 .any (.step 2 .held (.step 3 .any (.step 4 .any (.step 5 .held (.step 6 .any (.step 7 .any (.nil))))))))⟩
  | 8 => ⟨false, [14], .step 0 .any (.step 1 .any (.step 2 .any (.step 3 .any (.step 4 .any (.step 5 .held (.step 6 .any (.step 7 .held (.step 8 .any (.step 9 .any (.step 10 .any (.step 11 .held (.step 12 .any (.step 13 .held (.step 14 .last (.step 15 .any (.nil))))))))))))))))⟩
  | _ => ⟨false, [], .nil⟩
def S59 (v0 v1 v2 : Value) (k : Value → World → Prop) (w : World) : Prop :=
 Do Try.prog (sBox 37 v0) (fun t1 w2 =>
 Rd Try.prog (WS.at w2) (sLoad 37 t1) fun t3 =>
 CallK Try.prog 91 [t3, v1] (fun t4 w5 =>
 Rd Try.prog (WS.at w5) (sUn .not t4) fun t6 =>
 GuardK t6 false (fun k w' => k v2 w') (fun t7 w8 =>
 GuardK t6 false (fun k w' => CallK Try.prog 77 [t7, (.int .i64 0), (.int .i64 4)] k w') (fun t9 w10 =>
 GuardK t6 false (fun k w' => Rd Try.prog (WS.at w10) (sUn .not t9) fun v => k v w') (fun t11 w12 =>
 Rd Try.prog (WS.at w12) (sPick t6 (.bool true) t11) fun t13 =>
 CondK t13
  (k (.tuple #[(.slice none 0 0), (.bool false)]) w12)
  (Rd Try.prog (WS.at w12) (sLoad 37 t1) fun t14 =>
  CallK Try.prog 92 [t14, v1] (fun t15 w16 =>
  Rd Try.prog (WS.at w16) (sBuiltin .len #[22] 3 [false] [t15]) fun t17 =>
  Rd Try.prog (WS.at w16) (sBin .eql 3 true t17 (.int .i64 0)) fun t18 =>
  CondK t18
   (k (.tuple #[(.slice none 0 0), (.bool false)]) w16)
   (Rd Try.prog (WS.at w16) (sLoad 37 t1) fun t19 =>
   CallK Try.prog 95 [t19, v1, (.int .i64 0), (.int .i64 0)] (fun t20 w21 =>
   Rd Try.prog (WS.at w21) (sExtract t20 0) fun t22 =>
   Rd Try.prog (WS.at w21) (sExtract t20 1) fun t23 =>
   Rd Try.prog WS.any (sIndexAddr 22 t15 (.int .i64 0)) fun t24 =>
   Rd Try.prog (WS.at w21.drew) (sLoad 3 t24) fun t25 =>
   Rd Try.prog WS.any (sIndexAddr 22 t15 (.int .i64 1)) fun t26 =>
   Rd Try.prog (WS.at w21.drew) (sLoad 3 t26) fun t27 =>
   Rd Try.prog WS.any (sIndexAddr 48 t22 t27) fun t28 =>
   Rd Try.prog (WS.at w21.drew.drew) (sLoad 22 t28) fun t29 =>
   Rd Try.prog WS.any (sIndexAddr 22 t29 (.int .i64 1)) fun t30 =>
   Rd Try.prog (WS.at w21.drew.drew) (sLoad 3 t30) fun t31 =>
   Rd Try.prog WS.any (sIndexAddr 48 t22 t25) fun t32 =>
   Rd Try.prog (WS.at w21.drew.drew) (sLoad 22 t32) fun t33 =>
   Rd Try.prog WS.any (sIndexAddr 22 t33 (.int .i64 1)) fun t34 =>
   Rd Try.prog (WS.at w21.drew.drew) (sLoad 3 t34) fun t35 =>
   Do Try.prog (sBuildSlice 22 4 [(0, t25), (1, t27), (2, t31), (3, t35)]) (fun t36 w37 =>
   CallK Try.prog 78 [v1, t36, v2] (fun t38 w39 =>
   Rd Try.prog (WS.at w39) (sBuiltin .len #[22] 3 [false] [t38]) fun t40 =>
   Rd Try.prog (WS.at w39) (sBin .gtr 3 true t40 (.int .i64 60)) fun t41 =>
   CondK t41
    (k (.tuple #[(.slice none 0 0), (.bool false)]) w39)
    (k (.tuple #[t38, (.bool true)]) w39)) w37) w21.drew.drew) w16)) w12)) w10) w8) w5) w2) w
theorem body59 : Try.f59.body = some (bodyOf Try.f59) := by kernel_rfl
theorem same59 (v0 v1 v2 : Value) (k : Value → World → Prop) (w : World) : wpF Try.prog pl59 (bodyOf Try.f59) (bodyQ Try.prog Try.f59.results.toList k) (initF [v0, v1, v2]) w = S59 v0 v1 v2 k w := by kernel_rfl
theorem enter59 {v0 v1 v2 : Value} {k : Value → World → Prop} {w : World} (h : S59 v0 v1 v2 k w) : CallK Try.prog 59 [v0, v1, v2] k w :=
  call_of_wpF (pl := pl59) mixed Try.func59 body59 (by kernel_rfl) (of_decide_eq_true (by kernel_rfl)) (by kernel_rfl) (by kernel_rfl) (same59 v0 v1 v2 k w ▸ h)

/-! loop.example/g00758/impl.PumpTree -/
def pl60 : Plans := fun i => match i with
  | 10 => ⟨false, [11], .step 0 .any (.step 1 .any (.step 2 .any (.step 3 .any (.step 4 .any (.step 5 .held (.step 6 .any (.step 7 .any (.step 8 .any (.step 9 .held (.step 10 .any (.step 11 .last (.step 12 .any (.nil)))))))))))))⟩
  | 12 => ⟨false, [11], .step 0 .any (.step 1 .any (.step 2 .any (.step 3 .any (.step 4 .any (.step 5 .held (.step 6 .any (.step 7 .any (.step 8 .any (.step 9 .held (.step 10 .any (.step 11 .last (.step 12 .any (.nil)))))))))))))⟩
  | 15 => ⟨false, [11], .step 0 .any (.step 1 .any (.step 2 .any (.step 3 .any (.step 4 .any (.step 5 .held (.step 6 .any (.step 7 .any (.step 8 .any (.step 9 .held (.step 10 .any (.step 11 .last (.step 12 .any (.nil)))))))))))))⟩
  | _ => ⟨false, [], .nil⟩
def S60 (v0 v1 v2 : Value) (k : Value → World → Prop) (w : World) : Prop :=
 Do Try.prog (sBox 37 v0) (fun t1 w2 =>
 Rd Try.prog (WS.at w2) (sLoad 37 t1) fun t3 =>
 CallK Try.prog 93 [t3, v1] (fun t4 w5 =>
 Rd Try.prog (WS.at w5) (sExtract t4 0) fun t6 =>
 Rd Try.prog (WS.at w5) (sExtract t4 1) fun t7 =>
 Rd Try.prog (WS.at w5) (sExtract t4 2) fun t8 =>
 Rd Try.prog (WS.at w5) (sUn .not t8) fun t9 =>
 GuardK t9 false (fun k w' => k v2 w') (fun t10 w11 =>
 GuardK t9 false (fun k w' => CallK Try.prog 103 [t10, (.int .i64 0), (.int .i64 4)] k w') (fun t12 w13 =>
 GuardK t9 false (fun k w' => Rd Try.prog (WS.at w13) (sUn .not t12) fun v => k v w') (fun t14 w15 =>
 Rd Try.prog (WS.at w15) (sPick t9 (.bool true) t14) fun t16 =>
 CondK t16
  (k (.tuple #[(.slice none 0 0), (.bool false)]) w15)
  (CallK Try.prog 94 [t6] (fun t17 w18 =>
  Rd Try.prog (WS.at w18) (sExtract t17 0) fun t19 =>
  Rd Try.prog (WS.at w18) (sExtract t17 1) fun t20 =>
  Rd Try.prog (WS.at w18) (sBin .eql 86 true t19 (.pointer none)) fun t21 =>
  CondK t21
   (k (.tuple #[(.slice none 0 0), (.bool false)]) w18)
   (Do Try.prog (sBuildSlice 22 0 []) (fun t22 w23 =>
   Rd Try.prog (WS.at w23) (sNilCheck t19) fun t24 =>
   Rd Try.prog (WS.at w23) (sFieldAddr 93 t24 2) fun t25 =>
   Rd Try.prog (WS.at w23) (sLoad 3 t25) fun t26 =>
   Rd Try.prog (WS.at w23) (sSlice 22 v1 none (some t26) none) fun t27 =>
   Do Try.prog (sBuiltin .append #[22, 22] 22 [false, false] [t22, t27]) (fun t28 w29 =>
   LoopF [45, 46, 47, 48, 49, 50, 51, 52, 53, 54, 55, 56, 57, 13, 58, 44] (fun Q30 f31 w32 =>
    Rd Try.prog (WS.at w32) (sBin .lss 3 false (f31 44) (f31 43)) fun t33 =>
    CondK t33
     (Rd Try.prog WS.any (sNilCheck (f31 11)) fun t34 =>
     Rd Try.prog WS.any (sFieldAddr 93 t34 2) fun t35 =>
     Rd Try.prog (WS.at w32.drew) (sLoad 3 t35) fun t36 =>
     Rd Try.prog WS.any (sNilCheck (f31 12)) fun t37 =>
     Rd Try.prog WS.any (sFieldAddr 93 t37 2) fun t38 =>
     Rd Try.prog (WS.at w32.drew) (sLoad 3 t38) fun t39 =>
     Rd Try.prog WS.any (sSlice 22 (f31 1) (some t36) (some t39) none) fun t40 =>
     Do Try.prog (sBuiltin .append #[22, 22] 22 [false, false] [(f31 13), t40]) (fun t41 w42 =>
     Rd Try.prog (WS.at w42) (sBin .add 3 true (f31 44) (.int .i64 1)) fun t43 =>
     Q30 .normal (F.upd (F.upd (F.upd (F.upd (F.upd (F.upd (F.upd (F.upd (F.upd (F.upd (F.upd (F.upd (F.upd (F.upd (F.upd (F.upd f31 45 t33) 46 (f31 13)) 47 (f31 1)) 48 (f31 11)) 49 t34) 50 t35) 51 t36) 52 (f31 12)) 53 t37) 54 t38) 55 t39) 56 t40) 57 t41) 13 t41) 58 t43) 44 t43) w42) w32.drew)
     (Q30 (.exit 0) (F.upd f31 45 t33) w32))
    (blockQ 0 (seqQ (fun f44 w45 =>
   Rd Try.prog WS.any (sNilCheck (f44 12)) fun t46 =>
   Rd Try.prog WS.any (sFieldAddr 93 t46 2) fun t47 =>
   Rd Try.prog (WS.at w45.drew) (sLoad 3 t47) fun t48 =>
   Rd Try.prog WS.any (sNilCheck (f44 12)) fun t49 =>
   Rd Try.prog WS.any (sFieldAddr 93 t49 3) fun t50 =>
   Rd Try.prog (WS.at w45.drew) (sLoad 3 t50) fun t51 =>
   Rd Try.prog WS.any (sSlice 22 (f44 1) (some t48) (some t51) none) fun t52 =>
   Do Try.prog (sBuiltin .append #[22, 22] 22 [false, false] [(f44 13), t52]) (fun t53 w54 =>
   LoopF [73, 74, 75, 76, 77, 78, 79, 80, 81, 82, 83, 84, 85, 13, 86, 72] (fun Q55 f56 w57 =>
    Rd Try.prog (WS.at w57) (sBin .lss 3 false (f56 72) (f56 71)) fun t58 =>
    CondK t58
     (Rd Try.prog WS.any (sNilCheck (f56 12)) fun t59 =>
     Rd Try.prog WS.any (sFieldAddr 93 t59 3) fun t60 =>
     Rd Try.prog (WS.at w57.drew) (sLoad 3 t60) fun t61 =>
     Rd Try.prog WS.any (sNilCheck (f56 11)) fun t62 =>
     Rd Try.prog WS.any (sFieldAddr 93 t62 3) fun t63 =>
     Rd Try.prog (WS.at w57.drew) (sLoad 3 t63) fun t64 =>
     Rd Try.prog WS.any (sSlice 22 (f56 1) (some t61) (some t64) none) fun t65 =>
     Do Try.prog (sBuiltin .append #[22, 22] 22 [false, false] [(f56 13), t65]) (fun t66 w67 =>
     Rd Try.prog (WS.at w67) (sBin .add 3 true (f56 72) (.int .i64 1)) fun t68 =>
     Q55 .normal (F.upd (F.upd (F.upd (F.upd (F.upd (F.upd (F.upd (F.upd (F.upd (F.upd (F.upd (F.upd (F.upd (F.upd (F.upd (F.upd f56 73 t58) 74 (f56 13)) 75 (f56 1)) 76 (f56 12)) 77 t59) 78 t60) 79 t61) 80 (f56 11)) 81 t62) 82 t63) 83 t64) 84 t65) 85 t66) 13 t66) 86 t68) 72 t68) w67) w57.drew)
     (Q55 (.exit 2) (F.upd f56 73 t58) w57))
    (blockQ 2 (seqQ (fun f69 w70 =>
   Rd Try.prog (WS.at w70) (sNilCheck (f69 11)) fun t71 =>
   Rd Try.prog (WS.at w70) (sFieldAddr 93 t71 3) fun t72 =>
   Rd Try.prog (WS.at w70) (sLoad 3 t72) fun t73 =>
   Rd Try.prog (WS.at w70) (sSlice 22 (f69 1) (some t73) none none) fun t74 =>
   Do Try.prog (sBuiltin .append #[22, 22] 22 [false, false] [(f69 13), t74]) (fun t75 w76 =>
   Rd Try.prog (WS.at w76) (sBuiltin .len #[22] 3 [false] [t75]) fun t77 =>
   Rd Try.prog (WS.at w76) (sBin .gtr 3 true t77 (.int .i64 60)) fun t78 =>
   CondK t78
    (k (.tuple #[(.slice none 0 0), (.bool false)]) w76)
    (k (.tuple #[t75, (.bool true)]) w76)) w70) (bodyQ Try.prog [.tmp 6, .tmp 7] k)))
    (F.upd (F.upd (F.upd (F.upd (F.upd (F.upd (F.upd (F.upd (F.upd (F.upd (F.upd (F.upd (F.upd (F.upd (F.upd f44 59 (f44 13)) 60 (f44 1)) 61 (f44 12)) 62 t46) 63 t47) 64 t48) 65 (f44 12)) 66 t49) 67 t50) 68 t51) 69 t52) 70 t53) 13 t53) 71 (f44 2)) 72 (.int .i64 0)) w54) w45.drew) (bodyQ Try.prog [.tmp 6, .tmp 7] k)))
    (F.upd (F.upd (F.upd (F.upd (F.upd (F.upd (F.upd (F.upd (F.upd (F.upd (F.upd (F.upd (F.upd (F.upd (F.upd (F.upd (F.upd (F.upd (F.upd (F.upd (F.upd (F.upd (F.upd (F.upd (F.upd (F.upd (F.upd (F.upd (F.upd (F.upd (F.upd (F.upd (F.upd (F.upd (F.upd (F.upd (F.upd (F.upd (F.upd (F.upd (initF [v0, v1, v2]) 3 t1) 6 (.slice none 0 0)) 7 (.bool false)) 15 t3) 16 v1) 17 t4) 14 t4) 18 t6) 19 t7) 20 t8) 8 t6) 9 t7) 10 t8) 21 t8) 22 t9) 23 t9) 24 t10) 25 t12) 26 t14) 27 t16) 29 t6) 30 t17) 28 t17) 31 t19) 32 t20) 11 t19) 12 t20) 33 t19) 34 t21) 35 t22) 36 v1) 37 t19) 38 t24) 39 t25) 40 t26) 41 t27) 42 t28) 13 t28) 43 v2) 44 (.int .i64 0)) w29) w23) w18)) w15)) w13) w11) w5) w2) w
theorem body60 : Try.f60.body = some (bodyOf Try.f60) := by kernel_rfl
theorem same60 (v0 v1 v2 : Value) (k : Value → World → Prop) (w : World) : wpF Try.prog pl60 (bodyOf Try.f60) (bodyQ Try.prog Try.f60.results.toList k) (initF [v0, v1, v2]) w = S60 v0 v1 v2 k w := by kernel_rfl
theorem enter60 {v0 v1 v2 : Value} {k : Value → World → Prop} {w : World} (h : S60 v0 v1 v2 k w) : CallK Try.prog 60 [v0, v1, v2] k w :=
  call_of_wpF (pl := pl60) mixed Try.func60 body60 (by kernel_rfl) (of_decide_eq_true (by kernel_rfl)) (by kernel_rfl) (by kernel_rfl) (same60 v0 v1 v2 k w ▸ h)

/-! loop.example/g00758/spec.l18Asked -/
def pl91 : Plans := fun _ => ⟨false, [], .nil⟩
def S91 (v0 v1 : Value) (k : Value → World → Prop) (w : World) : Prop :=
 Do Try.prog (sBox 37 v0) (fun t1 w2 =>
 Rd Try.prog (WS.at w2) (sLoad 37 t1) fun t3 =>
 CallK Try.prog 142 [t3, (.int .i64 0), v1] (fun t4 w5 =>
 GuardK t4 true (fun k w' => Rd Try.prog (WS.at w5) (sLoad 37 t1) fun v => k v w') (fun t6 w7 =>
 GuardK t4 true (fun k w' => k v1 w') (fun t8 w9 =>
 GuardK t4 true (fun k w' => CallK Try.prog 143 [t6, (.int .i64 0), t8] k w') (fun t10 w11 =>
 Rd Try.prog (WS.at w11) (sPick t4 t10 (.bool false)) fun t12 =>
 k t12 w11) w9) w7) w5) w2) w
theorem body91 : Try.f91.body = some (bodyOf Try.f91) := by kernel_rfl
theorem same91 (v0 v1 : Value) (k : Value → World → Prop) (w : World) : wpF Try.prog pl91 (bodyOf Try.f91) (bodyQ Try.prog Try.f91.results.toList k) (initF [v0, v1]) w = S91 v0 v1 k w := by kernel_rfl
theorem enter91 {v0 v1 : Value} {k : Value → World → Prop} {w : World} (h : S91 v0 v1 k w) : CallK Try.prog 91 [v0, v1] k w :=
  call_of_wpF (pl := pl91) mixed Try.func91 body91 (by kernel_rfl) (of_decide_eq_true (by kernel_rfl)) (by kernel_rfl) (by kernel_rfl) (same91 v0 v1 k w ▸ h)

/-! loop.example/g00758/spec.l18Pump -/
def pl92 : Plans := fun i => match i with
  | 9 => ⟨false, [], .step 0 .any (.step 1 .any (.step 2 .held (.step 3 .any (.step 4 .any (.step 5 .held (.step 6 .any (.step 7 .any (.step 8 .any (.step 9 .any (.step 10 .held (.step 11 .any (.step 12 .any (.step 13 .held (.step 14 .any (.step 15 .any (.step 16 .any (.step 17 .any (.step 18 .held (.step 19 .any (.step 20 .any (.step 21 .held (.step 22 .any (.step 23 .any (.step 24 .any (.nil)))))))))))))))))))))))))⟩
  | 10 => ⟨false, [14], .step 0 .any (.step 1 .any (.step 2 .any (.step 3 .any (.step 4 .held (.step 5 .any (.step 6 .any (.step 7 .held (.step 8 .any (.step 9 .any (.step 10 .held (.step 11 .any (.step 12 .any (.step 13 .held (.step 14 .last (.step 15 .any (.nil))))))))))))))))⟩
  | _ => ⟨false, [], .nil⟩
def S92 (v0 v1 : Value) (k : Value → World → Prop) (w : World) : Prop :=
 Do Try.prog (sBox 37 v0) (fun t1 w2 =>
 Rd Try.prog (WS.at w2) (sLoad 37 t1) fun t3 =>
 CallK Try.prog 95 [t3, v1, (.int .i64 0), (.int .i64 0)] (fun t4 w5 =>
 Rd Try.prog (WS.at w5) (sExtract t4 0) fun t6 =>
 Rd Try.prog (WS.at w5) (sExtract t4 1) fun t7 =>
 Rd Try.prog (WS.at w5) (sBuiltin .len #[48] 3 [false] [t6]) fun t8 =>
 LoopF [20, 21, 22, 23, 7, 8, 24, 25, 9, 26, 27, 28, 29, 30, 33, 34, 35, 36, 10, 37, 38, 39, 40, 41, 42, 43, 44, 45, 46, 47, 48, 49, 50, 51, 52, 53, 54, 55, 56, 57, 58, 59, 60, 61, 62, 63, 64, 65, 66, 67, 68, 69, 70, 71, 72, 73, 74, 75, 76, 4, 31, 32, 9, 77, 19] (fun Q9 f10 w11 =>
  Rd Try.prog (WS.at w11) (sBin .lss 3 false (f10 19) (f10 18)) fun t12 =>
  CondK t12
   (Rd Try.prog (WS.at w11) (sIndexAddr 48 (f10 17) (f10 19)) fun t13 =>
   Rd Try.prog (WS.at w11) (sLoad 22 t13) fun t14 =>
   Rd Try.prog (WS.at w11) (sBin .add 3 true (f10 19) (.int .i64 1)) fun t15 =>
   LoopF [26, 27, 28, 29, 30, 33, 34, 35, 36, 10, 37, 38, 39, 40, 41, 42, 43, 44, 45, 46, 47, 48, 49, 50, 51, 52, 53, 54, 55, 56, 57, 58, 59, 60, 61, 62, 63, 64, 65, 66, 67, 68, 69, 70, 71, 72, 73, 74, 75, 76, 4, 31, 32, 9] (fun Q16 f17 w18 =>
    Rd Try.prog (WS.at w18) (sIndexAddr 22 (f17 8) (.int .i64 1)) fun t19 =>
    Rd Try.prog (WS.at w18) (sLoad 3 t19) fun t20 =>
    Rd Try.prog (WS.at w18) (sBin .lss 3 false (f17 9) t20) fun t21 =>
    CondK t21
     (Rd Try.prog (WS.at w18) (sIndexAddr 48 (f17 5) (f17 9)) fun t22 =>
     Rd Try.prog (WS.at w18) (sLoad 22 t22) fun t23 =>
     Rd Try.prog WS.any (sIndexAddr 22 (f17 8) (.int .i64 0)) fun t24 =>
     Rd Try.prog (WS.at w18.drew) (sLoad 3 t24) fun t25 =>
     Rd Try.prog WS.any (sIndexAddr 22 t23 (.int .i64 0)) fun t26 =>
     Rd Try.prog (WS.at w18.drew) (sLoad 3 t26) fun t27 =>
     Rd Try.prog WS.any (sBin .eql 3 false t25 t27) fun t28 =>
     GuardK t28 true (fun k w' => k (f17 8) w') (fun t29 w30 =>
     GuardK t28 true (fun k w' => Rd Try.prog WS.any (sIndexAddr 22 t29 (.int .i64 2)) fun v => k v w') (fun t31 w32 =>
     GuardK t28 true (fun k w' => Rd Try.prog (WS.at w18.drew) (sLoad 3 t31) fun v => k v w') (fun t33 w34 =>
     GuardK t28 true (fun k w' => k t23 w') (fun t35 w36 =>
     GuardK t28 true (fun k w' => Rd Try.prog WS.any (sIndexAddr 22 t35 (.int .i64 2)) fun v => k v w') (fun t37 w38 =>
     GuardK t28 true (fun k w' => Rd Try.prog (WS.at w18.drew) (sLoad 3 t37) fun v => k v w') (fun t39 w40 =>
     GuardK t28 true (fun k w' => Rd Try.prog WS.any (sBin .neq 3 false t33 t39) fun v => k v w') (fun t41 w42 =>
     GuardK t28 true (fun k w' => k t41 w') (fun t43 w44 =>
     GuardK t43 false (fun k w' => k (f17 8) w') (fun t45 w46 =>
     GuardK t43 false (fun k w' => Rd Try.prog WS.any (sIndexAddr 22 t45 (.int .i64 3)) fun v => k v w') (fun t47 w48 =>
     GuardK t43 false (fun k w' => Rd Try.prog (WS.at w18.drew) (sLoad 3 t47) fun v => k v w') (fun t49 w50 =>
     GuardK t43 false (fun k w' => k t23 w') (fun t51 w52 =>
     GuardK t43 false (fun k w' => Rd Try.prog WS.any (sIndexAddr 22 t51 (.int .i64 3)) fun v => k v w') (fun t53 w54 =>
     GuardK t43 false (fun k w' => Rd Try.prog (WS.at w18.drew) (sLoad 3 t53) fun v => k v w') (fun t55 w56 =>
     GuardK t43 false (fun k w' => Rd Try.prog WS.any (sBin .neq 3 false t49 t55) fun v => k v w') (fun t57 w58 =>
     GuardK t28 true (fun k w' => Rd Try.prog WS.any (sPick t43 (.bool true) t57) fun v => k v w') (fun t59 w60 =>
     Rd Try.prog WS.any (sPick t28 t59 (.bool false)) fun t61 =>
     CondK t61
      (Rd Try.prog WS.any (sIndexAddr 22 (f17 8) (.int .i64 2)) fun t62 =>
      Rd Try.prog (WS.at w60.drew) (sLoad 3 t62) fun t63 =>
      Rd Try.prog WS.any (sIndexAddr 22 t23 (.int .i64 2)) fun t64 =>
      Rd Try.prog (WS.at w60.drew) (sLoad 3 t64) fun t65 =>
      Rd Try.prog WS.any (sIndexAddr 22 t23 (.int .i64 3)) fun t66 =>
      Rd Try.prog (WS.at w60.drew) (sLoad 3 t66) fun t67 =>
      Rd Try.prog WS.any (sIndexAddr 22 (f17 8) (.int .i64 3)) fun t68 =>
      Rd Try.prog (WS.at w60.drew) (sLoad 3 t68) fun t69 =>
      Do Try.prog (sBuildSlice 22 6 [(0, (f17 7)), (1, (f17 9)), (2, t63), (3, t65), (4, t67), (5, t69)]) (fun t70 w71 =>
      Q16 .ret (F.upd (F.upd (F.upd (F.upd (F.upd (F.upd (F.upd (F.upd (F.upd (F.upd (F.upd (F.upd (F.upd (F.upd (F.upd (F.upd (F.upd (F.upd (F.upd (F.upd (F.upd (F.upd (F.upd (F.upd (F.upd (F.upd (F.upd (F.upd (F.upd (F.upd (F.upd (F.upd (F.upd (F.upd (F.upd (F.upd (F.upd (F.upd (F.upd (F.upd (F.upd (F.upd (F.upd (F.upd (F.upd (F.upd (F.upd (F.upd (F.upd (F.upd (F.upd f17 26 (f17 9)) 27 (f17 8)) 28 t19) 29 t20) 30 t21) 33 (f17 5)) 34 (f17 9)) 35 t22) 36 t23) 10 t23) 37 (f17 8)) 38 t24) 39 t25) 40 t23) 41 t26) 42 t27) 43 t28) 44 t28) 45 t29) 46 t31) 47 t33) 48 t35) 49 t37) 50 t39) 51 t41) 52 t43) 53 t45) 54 t47) 55 t49) 56 t51) 57 t53) 58 t55) 59 t57) 60 t59) 61 t61) 62 (f17 7)) 63 (f17 9)) 64 (f17 8)) 65 t62) 66 t63) 67 t23) 68 t64) 69 t65) 70 t23) 71 t66) 72 t67) 73 (f17 8)) 74 t68) 75 t69) 76 t70) 4 t70) w71) w60.drew)
      (Rd Try.prog (WS.at w60) (sBin .add 3 true (f17 9) (.int .i64 1)) fun t72 =>
      Q16 .normal (F.upd (F.upd (F.upd (F.upd (F.upd (F.upd (F.upd (F.upd (F.upd (F.upd (F.upd (F.upd (F.upd (F.upd (F.upd (F.upd (F.upd (F.upd (F.upd (F.upd (F.upd (F.upd (F.upd (F.upd (F.upd (F.upd (F.upd (F.upd (F.upd (F.upd (F.upd (F.upd (F.upd (F.upd (F.upd (F.upd (F.upd (F.upd f17 26 (f17 9)) 27 (f17 8)) 28 t19) 29 t20) 30 t21) 33 (f17 5)) 34 (f17 9)) 35 t22) 36 t23) 10 t23) 37 (f17 8)) 38 t24) 39 t25) 40 t23) 41 t26) 42 t27) 43 t28) 44 t28) 45 t29) 46 t31) 47 t33) 48 t35) 49 t37) 50 t39) 51 t41) 52 t43) 53 t45) 54 t47) 55 t49) 56 t51) 57 t53) 58 t55) 59 t57) 60 t59) 61 t61) 31 (f17 9)) 32 t72) 9 t72) w60)) w58) w56) w54) w52) w50) w48) w46) w44) w42) w40) w38) w36) w34) w32) w30) w18.drew)
     (Q16 (.exit 2) (F.upd (F.upd (F.upd (F.upd (F.upd f17 26 (f17 9)) 27 (f17 8)) 28 t19) 29 t20) 30 t21) w18))
    (blockQ 2 (blockQ 1 (seqQ (fun f73 w74 =>
   Rd Try.prog (WS.at w74) (sBin .add 3 true (f73 19) (.int .i64 1)) fun t75 =>
   Q9 .normal (F.upd (F.upd f73 77 t75) 19 t75) w74) Q9)))
    (F.upd (F.upd (F.upd (F.upd (F.upd (F.upd (F.upd (F.upd (F.upd f10 20 t12) 21 (f10 19)) 22 t13) 23 t14) 7 (f10 19)) 8 t14) 24 (f10 19)) 25 t15) 9 t15) w11)
   (Q9 (.exit 0) (F.upd f10 20 t12) w11))
  (blockQ 0 (seqQ (fun f76 w77 =>
 k (.slice none 0 0) w77) (bodyQ Try.prog [.tmp 4] k)))
  (F.upd (F.upd (F.upd (F.upd (F.upd (F.upd (F.upd (F.upd (F.upd (F.upd (F.upd (F.upd (F.upd (initF [v0, v1]) 2 t1) 4 (.slice none 0 0)) 12 t3) 13 v1) 14 t4) 11 t4) 15 t6) 16 t7) 5 t6) 6 t7) 17 t6) 18 t8) 19 (.int .i64 0)) w5) w2) w
theorem body92 : Try.f92.body = some (bodyOf Try.f92) := by kernel_rfl
theorem same92 (v0 v1 : Value) (k : Value → World → Prop) (w : World) : wpF Try.prog pl92 (bodyOf Try.f92) (bodyQ Try.prog Try.f92.results.toList k) (initF [v0, v1]) w = S92 v0 v1 k w := by kernel_rfl
theorem enter92 {v0 v1 : Value} {k : Value → World → Prop} {w : World} (h : S92 v0 v1 k w) : CallK Try.prog 92 [v0, v1] k w :=
  call_of_wpF (pl := pl92) mixed Try.func92 body92 (by kernel_rfl) (of_decide_eq_true (by kernel_rfl)) (by kernel_rfl) (by kernel_rfl) (same92 v0 v1 k w ▸ h)

/-! (loop.example/g00758/impl.Grammar).whole -/
def pl93 : Plans := fun i => match i with
  | 4 => ⟨false, [], .step 0 .any (.step 1 .any (.step 2 .any (.step 3 .any (.step 4 .any (.step 5 .any (.step 6 .any (.step 7 .held (.step 8 .any (.step 9 .any (.step 10 .any (.step 11 .any (.step 12 .any (.step 13 .any (.step 14 .any (.nil)))))))))))))))⟩
  | _ => ⟨false, [], .nil⟩
def S93 (v0 v1 : Value) (k : Value → World → Prop) (w : World) : Prop :=
 Do Try.prog (sBox 37 v0) (fun t1 w2 =>
 Rd Try.prog (WS.at w2) (sLoad 37 t1) fun t3 =>
 CallK Try.prog 84 [t3] (fun t4 w5 =>
 Rd Try.prog (WS.at w5) (sUn .not t4) fun t6 =>
 GuardK t6 false (fun k w' => k v1 w') (fun t7 w8 =>
 GuardK t6 false (fun k w' => Rd Try.prog (WS.at w8) (sBuiltin .len #[22] 3 [false] [t7]) fun v => k v w') (fun t9 w10 =>
 GuardK t6 false (fun k w' => Rd Try.prog (WS.at w10) (sBin .gtr 3 true t9 (.int .i64 60)) fun v => k v w') (fun t11 w12 =>
 Rd Try.prog (WS.at w12) (sPick t6 (.bool true) t11) fun t13 =>
 CondK t13
  (k (.tuple #[(.pointer none), (.slice none 0 0), (.bool false)]) w12)
  (Rd Try.prog (WS.at w12) (sLoad 37 t1) fun t14 =>
  CallK Try.prog 144 [t14, (.int .i64 0), v1] (fun t15 w16 =>
  Rd Try.prog (WS.at w16) (sExtract t15 0) fun t17 =>
  Rd Try.prog (WS.at w16) (sExtract t15 1) fun t18 =>
  Rd Try.prog (WS.at w16) (sExtract t15 2) fun t19 =>
  GuardK t19 true (fun k w' => k t17 w') (fun t20 w21 =>
  GuardK t19 true (fun k w' => Rd Try.prog WS.any (sNilCheck t20) fun v => k v w') (fun t22 w23 =>
  GuardK t19 true (fun k w' => Rd Try.prog WS.any (sFieldAddr 93 t22 3) fun v => k v w') (fun t24 w25 =>
  GuardK t19 true (fun k w' => Rd Try.prog (WS.at w16.drew) (sLoad 3 t24) fun v => k v w') (fun t26 w27 =>
  GuardK t19 true (fun k w' => k v1 w') (fun t28 w29 =>
  GuardK t19 true (fun k w' => Rd Try.prog WS.any (sBuiltin .len #[22] 3 [false] [t28]) fun v => k v w') (fun t30 w31 =>
  GuardK t19 true (fun k w' => Rd Try.prog WS.any (sBin .eql 3 false t26 t30) fun v => k v w') (fun t32 w33 =>
  Rd Try.prog WS.any (sPick t19 t32 (.bool false)) fun t34 =>
  k (.tuple #[t17, t18, t34]) w33) w31) w29) w27) w25) w23) w21) w16.drew) w12)) w10) w8) w5) w2) w
theorem body93 : Try.f93.body = some (bodyOf Try.f93) := by kernel_rfl
theorem same93 (v0 v1 : Value) (k : Value → World → Prop) (w : World) : wpF Try.prog pl93 (bodyOf Try.f93) (bodyQ Try.prog Try.f93.results.toList k) (initF [v0, v1]) w = S93 v0 v1 k w := by kernel_rfl
theorem enter93 {v0 v1 : Value} {k : Value → World → Prop} {w : World} (h : S93 v0 v1 k w) : CallK Try.prog 93 [v0, v1] k w :=
  call_of_wpF (pl := pl93) mixed Try.func93 body93 (by kernel_rfl) (of_decide_eq_true (by kernel_rfl)) (by kernel_rfl) (by kernel_rfl) (same93 v0 v1 k w ▸ h)

/-! (*loop.example/g00758/impl.part).pump -/
def pl94 : Plans := fun i => match i with
  | 7 => ⟨false, [], .step 0 .any (.step 1 .any (.step 2 .any (.step 3 .held (.step 4 .any (.step 5 .any (.step 6 .any (.step 7 .held (.step 8 .any (.step 9 .any (.step 10 .any (.step 11 .any (.step 12 .any (.step 13 .held (.step 14 .any (.step 15 .any (.step 16 .any (.step 17 .held (.step 18 .any (.step 19 .any (.step 20 .any (.step 21 .any (.step 22 .any (.step 23 .held (.step 24 .any (.step 25 .any (.step 26 .any (.step 27 .held (.step 28 .any (.step 29 .any (.step 30 .any (.nil)))))))))))))))))))))))))))))))⟩
  | _ => ⟨false, [], .nil⟩
def S94 (v0 : Value) (k : Value → World → Prop) (w : World) : Prop :=
 CallK Try.prog 96 [v0] (fun t1 w2 =>
 Rd Try.prog (WS.at w2) (sBuiltin .len #[91] 3 [false] [t1]) fun t3 =>
 LoopF [12, 13, 14, 5, 15, 16, 17, 18, 19, 20, 21, 22, 7, 23, 24, 25, 26, 27, 28, 29, 30, 31, 32, 33, 34, 35, 36, 37, 38, 39, 40, 41, 42, 43, 44, 45, 46, 47, 48, 49, 50, 51, 52, 53, 54, 55, 2, 3, 56, 19, 57, 11] (fun Q4 f5 w6 =>
  Rd Try.prog (WS.at w6) (sBin .lss 3 false (f5 11) (f5 10)) fun t7 =>
  CondK t7
   (Rd Try.prog (WS.at w6) (sIndexAddr 91 (f5 9) (f5 11)) fun t8 =>
   Rd Try.prog (WS.at w6) (sLoad 86 t8) fun t9 =>
   CallK Try.prog 96 [t9] (fun t10 w11 =>
   Rd Try.prog (WS.at w11) (sSlice 91 t10 (some (.int .i64 1)) none none) fun t12 =>
   Rd Try.prog (WS.at w11) (sBuiltin .len #[91] 3 [false] [t12]) fun t13 =>
   LoopF [20, 21, 22, 7, 23, 24, 25, 26, 27, 28, 29, 30, 31, 32, 33, 34, 35, 36, 37, 38, 39, 40, 41, 42, 43, 44, 45, 46, 47, 48, 49, 50, 51, 52, 53, 54, 55, 2, 3, 56, 19] (fun Q14 f15 w16 =>
    Rd Try.prog (WS.at w16) (sBin .lss 3 false (f15 19) (f15 18)) fun t17 =>
    CondK t17
     (Rd Try.prog (WS.at w16) (sIndexAddr 91 (f15 17) (f15 19)) fun t18 =>
     Rd Try.prog (WS.at w16) (sLoad 86 t18) fun t19 =>
     Rd Try.prog WS.any (sNilCheck (f15 5)) fun t20 =>
     Rd Try.prog WS.any (sFieldAddr 93 t20 0) fun t21 =>
     Rd Try.prog (WS.at w16.drew) (sLoad 3 t21) fun t22 =>
     Rd Try.prog WS.any (sNilCheck t19) fun t23 =>
     Rd Try.prog WS.any (sFieldAddr 93 t23 0) fun t24 =>
     Rd Try.prog (WS.at w16.drew) (sLoad 3 t24) fun t25 =>
     Rd Try.prog WS.any (sBin .eql 3 false t22 t25) fun t26 =>
     GuardK t26 true (fun k w' => k (f15 5) w') (fun t27 w28 =>
     GuardK t26 true (fun k w' => Rd Try.prog WS.any (sNilCheck t27) fun v => k v w') (fun t29 w30 =>
     GuardK t26 true (fun k w' => Rd Try.prog WS.any (sFieldAddr 93 t29 4) fun v => k v w') (fun t31 w32 =>
     GuardK t26 true (fun k w' => Rd Try.prog (WS.at w16.drew) (sLoad 3 t31) fun v => k v w') (fun t33 w34 =>
     GuardK t26 true (fun k w' => k t19 w') (fun t35 w36 =>
     GuardK t26 true (fun k w' => Rd Try.prog WS.any (sNilCheck t35) fun v => k v w') (fun t37 w38 =>
     GuardK t26 true (fun k w' => Rd Try.prog WS.any (sFieldAddr 93 t37 4) fun v => k v w') (fun t39 w40 =>
     GuardK t26 true (fun k w' => Rd Try.prog (WS.at w16.drew) (sLoad 3 t39) fun v => k v w') (fun t41 w42 =>
     GuardK t26 true (fun k w' => Rd Try.prog WS.any (sBin .neq 3 false t33 t41) fun v => k v w') (fun t43 w44 =>
     GuardK t26 true (fun k w' => k t43 w') (fun t45 w46 =>
     GuardK t45 false (fun k w' => k (f15 5) w') (fun t47 w48 =>
     GuardK t45 false (fun k w' => Rd Try.prog WS.any (sNilCheck t47) fun v => k v w') (fun t49 w50 =>
     GuardK t45 false (fun k w' => Rd Try.prog WS.any (sFieldAddr 93 t49 5) fun v => k v w') (fun t51 w52 =>
     GuardK t45 false (fun k w' => Rd Try.prog (WS.at w16.drew) (sLoad 3 t51) fun v => k v w') (fun t53 w54 =>
     GuardK t45 false (fun k w' => k t19 w') (fun t55 w56 =>
     GuardK t45 false (fun k w' => Rd Try.prog WS.any (sNilCheck t55) fun v => k v w') (fun t57 w58 =>
     GuardK t45 false (fun k w' => Rd Try.prog WS.any (sFieldAddr 93 t57 5) fun v => k v w') (fun t59 w60 =>
     GuardK t45 false (fun k w' => Rd Try.prog (WS.at w16.drew) (sLoad 3 t59) fun v => k v w') (fun t61 w62 =>
     GuardK t45 false (fun k w' => Rd Try.prog WS.any (sBin .neq 3 false t53 t61) fun v => k v w') (fun t63 w64 =>
     GuardK t26 true (fun k w' => Rd Try.prog WS.any (sPick t45 (.bool true) t63) fun v => k v w') (fun t65 w66 =>
     Rd Try.prog WS.any (sPick t26 t65 (.bool false)) fun t67 =>
     CondK t67
      (Q14 .ret (F.upd (F.upd (F.upd (F.upd (F.upd (F.upd (F.upd (F.upd (F.upd (F.upd (F.upd (F.upd (F.upd (F.upd (F.upd (F.upd (F.upd (F.upd (F.upd (F.upd (F.upd (F.upd (F.upd (F.upd (F.upd (F.upd (F.upd (F.upd (F.upd (F.upd (F.upd (F.upd (F.upd (F.upd (F.upd (F.upd (F.upd (F.upd (F.upd f15 20 t17) 21 t18) 22 t19) 7 t19) 23 (f15 5)) 24 t20) 25 t21) 26 t22) 27 t19) 28 t23) 29 t24) 30 t25) 31 t26) 32 t26) 33 t27) 34 t29) 35 t31) 36 t33) 37 t35) 38 t37) 39 t39) 40 t41) 41 t43) 42 t45) 43 t47) 44 t49) 45 t51) 46 t53) 47 t55) 48 t57) 49 t59) 50 t61) 51 t63) 52 t65) 53 t67) 54 (f15 5)) 55 t19) 2 (f15 5)) 3 t19) w66)
      (Rd Try.prog (WS.at w66) (sBin .add 3 true (f15 19) (.int .i64 1)) fun t68 =>
      Q14 .normal (F.upd (F.upd (F.upd (F.upd (F.upd (F.upd (F.upd (F.upd (F.upd (F.upd (F.upd (F.upd (F.upd (F.upd (F.upd (F.upd (F.upd (F.upd (F.upd (F.upd (F.upd (F.upd (F.upd (F.upd (F.upd (F.upd (F.upd (F.upd (F.upd (F.upd (F.upd (F.upd (F.upd (F.upd (F.upd (F.upd (F.upd f15 20 t17) 21 t18) 22 t19) 7 t19) 23 (f15 5)) 24 t20) 25 t21) 26 t22) 27 t19) 28 t23) 29 t24) 30 t25) 31 t26) 32 t26) 33 t27) 34 t29) 35 t31) 36 t33) 37 t35) 38 t37) 39 t39) 40 t41) 41 t43) 42 t45) 43 t47) 44 t49) 45 t51) 46 t53) 47 t55) 48 t57) 49 t59) 50 t61) 51 t63) 52 t65) 53 t67) 56 t68) 19 t68) w66)) w64) w62) w60) w58) w56) w54) w52) w50) w48) w46) w44) w42) w40) w38) w36) w34) w32) w30) w28) w16.drew)
     (Q14 (.exit 2) (F.upd f15 20 t17) w16))
    (blockQ 2 (blockQ 1 (seqQ (fun f69 w70 =>
   Rd Try.prog (WS.at w70) (sBin .add 3 true (f69 11) (.int .i64 1)) fun t71 =>
   Q4 .normal (F.upd (F.upd f69 57 t71) 11 t71) w70) Q4)))
    (F.upd (F.upd (F.upd (F.upd (F.upd (F.upd (F.upd (F.upd (F.upd f5 12 t7) 13 t8) 14 t9) 5 t9) 15 t9) 16 t10) 17 t12) 18 t13) 19 (.int .i64 0)) w11) w6)
   (Q4 (.exit 0) (F.upd f5 12 t7) w6))
  (blockQ 0 (seqQ (fun f72 w73 =>
 k (.tuple #[(.pointer none), (.pointer none)]) w73) (bodyQ Try.prog [.tmp 2, .tmp 3] k)))
  (F.upd (F.upd (F.upd (F.upd (F.upd (F.upd (initF [v0]) 2 (.pointer none)) 3 (.pointer none)) 8 v0) 9 t1) 10 t3) 11 (.int .i64 0)) w2) w
theorem body94 : Try.f94.body = some (bodyOf Try.f94) := by kernel_rfl
theorem same94 (v0 : Value) (k : Value → World → Prop) (w : World) : wpF Try.prog pl94 (bodyOf Try.f94) (bodyQ Try.prog Try.f94.results.toList k) (initF [v0]) w = S94 v0 k w := by kernel_rfl
theorem enter94 {v0 : Value} {k : Value → World → Prop} {w : World} (h : S94 v0 k w) : CallK Try.prog 94 [v0] k w :=
  call_of_wpF (pl := pl94) mixed Try.func94 body94 (by kernel_rfl) (of_decide_eq_true (by kernel_rfl)) (by kernel_rfl) (by kernel_rfl) (same94 v0 k w ▸ h)

/-! loop.example/g00758/spec.l18Parts -/
def pl95 : Plans := fun i => match i with
  | 1 => ⟨true, [9], .step 0 .any (.step 1 .held (.step 2 .any (.step 3 .any (.step 4 .any (.step 5 .held (.step 6 .any (.step 7 .held (.step 8 .one (.step 9 .last (.nil))))))))))⟩
  | _ => ⟨false, [], .nil⟩
def S95 (v0 v1 v2 v3 : Value) (k : Value → World → Prop) (w : World) : Prop :=
 Do Try.prog (sBox 37 v0) (fun t1 w2 =>
 ∃ S3 : World → Prop, ∃ h4 : S3 w2.drew,
 Rd Try.prog WS.any (sFieldAddr 37 t1 2) fun t5 =>
 Rd Try.prog ⟨S3, w2.drew, h4⟩ (sLoad 35 t5) fun t6 =>
 Rd Try.prog WS.any (sIndexAddr 22 v1 v2) fun t7 =>
 Rd Try.prog ⟨S3, w2.drew, h4⟩ (sLoad 3 t7) fun t8 =>
 Rd Try.prog WS.any (sIndexAddr 35 t6 t8) fun t9 =>
 Rd Try.prog ⟨S3, w2.drew, h4⟩ (sLoad 77 t9) fun t10 =>
 Do Try.prog (sAlloc 77) (fun t11 w12 =>
 S3 w12 ∧ Do Try.prog (sStore 77 t11 t10) (fun _ w13 =>
 Rd Try.prog (WS.at w13) (sFieldAddr 77 t11 0) fun t14 =>
 Rd Try.prog (WS.at w13) (sLoad 3 t14) fun t15 =>
 Do Try.prog (sBuildSlice 22 4 [(0, t15), (1, (.int .i64 0)), (2, v3), (3, (.int .i64 0))]) (fun t16 w17 =>
 Do Try.prog (sBuildSlice 48 1 [(0, t16)]) (fun t18 w19 =>
 Rd Try.prog (WS.at w19) (sFieldAddr 77 t11 1) fun t20 =>
 Rd Try.prog (WS.at w19) (sLoad 22 t20) fun t21 =>
 Rd Try.prog (WS.at w19) (sBuiltin .len #[22] 3 [false] [t21]) fun t22 =>
 LoopF [35, 36, 37, 14, 38, 39, 40, 41, 12, 43, 44, 45, 46, 47, 48, 49, 50, 42, 51, 52, 15, 16, 53, 54, 55, 11, 56, 12, 57, 34] (fun Q23 f24 w25 =>
  Rd Try.prog (WS.at w25) (sBin .lss 3 false (f24 34) (f24 33)) fun t26 =>
  CondK t26
   (Join (fun K27 =>
   Rd Try.prog (WS.at w25) (sIndexAddr 22 (f24 32) (f24 34)) fun t30 =>
   Rd Try.prog (WS.at w25) (sLoad 3 t30) fun t31 =>
   Rd Try.prog (WS.at w25) (sBin .lss 3 true t31 (.int .i64 0)) fun t32 =>
   CondK t32
    (Rd Try.prog (WS.at w25) (sBin .add 3 true (f24 12) (.int .i64 1)) fun t33 =>
    K27 (F.upd (F.upd (F.upd (F.upd (F.upd (F.upd (F.upd (F.upd (F.upd f24 35 t26) 36 t30) 37 t31) 14 t31) 38 t31) 39 t32) 40 (f24 12)) 41 t33) 12 t33) w25)
    (Rd Try.prog (WS.at w25) (sLoad 37 (f24 4)) fun t34 =>
    Rd Try.prog (WS.at w25) (sBuiltin .len #[48] 3 [false] [(f24 11)]) fun t35 =>
    Rd Try.prog (WS.at w25) (sBin .add 3 false (f24 2) t35) fun t36 =>
    CallK Try.prog 95 [t34, (f24 1), t36, (f24 12)] (fun t37 w38 =>
    Rd Try.prog (WS.at w38) (sExtract t37 0) fun t39 =>
    Rd Try.prog (WS.at w38) (sExtract t37 1) fun t40 =>
    Do Try.prog (sBuiltin .append #[48, 48] 48 [false, false] [(f24 11), t39]) (fun t41 w42 =>
    K27 (F.upd (F.upd (F.upd (F.upd (F.upd (F.upd (F.upd (F.upd (F.upd (F.upd (F.upd (F.upd (F.upd (F.upd (F.upd (F.upd (F.upd (F.upd (F.upd (F.upd (F.upd (F.upd (F.upd (F.upd (F.upd f24 35 t26) 36 t30) 37 t31) 14 t31) 38 t31) 39 t32) 43 t34) 44 (f24 1)) 45 (f24 2)) 46 (f24 11)) 47 t35) 48 t36) 49 (f24 12)) 50 t37) 42 t37) 51 t39) 52 t40) 15 t39) 16 t40) 53 (f24 11)) 54 t39) 55 t41) 11 t41) 56 t40) 12 t40) w42) w38) w25)) (fun f28 w29 =>
   Rd Try.prog (WS.at w29) (sBin .add 3 true (f28 34) (.int .i64 1)) fun t43 =>
   Q23 .normal (F.upd (F.upd f28 57 t43) 34 t43) w29))
   (Q23 (.exit 0) (F.upd f24 35 t26) w25))
  (blockQ 0 (seqQ (fun f44 w45 =>
 Rd Try.prog (WS.at w45) (sIndexAddr 48 (f44 11) (.int .i64 0)) fun t46 =>
 Rd Try.prog (WS.at w45) (sLoad 22 t46) fun t47 =>
 Rd Try.prog (WS.at w45) (sBuiltin .len #[48] 3 [false] [(f44 11)]) fun t48 =>
 Rd Try.prog (WS.at w45) (sBin .add 3 false (f44 2) t48) fun t49 =>
 Rd Try.prog (WS.at w45) (sIndexAddr 22 t47 (.int .i64 1)) fun t50 =>
 Do Try.prog (sStore 3 t50 t49) (fun _ w51 =>
 Rd Try.prog (WS.at w51) (sIndexAddr 48 (f44 11) (.int .i64 0)) fun t52 =>
 Rd Try.prog (WS.at w51) (sLoad 22 t52) fun t53 =>
 Rd Try.prog (WS.at w51) (sIndexAddr 22 t53 (.int .i64 3)) fun t54 =>
 Do Try.prog (sStore 3 t54 (f44 12)) (fun _ w55 =>
 k (.tuple #[(f44 11), (f44 12)]) w55) w51) w45) (bodyQ Try.prog [.tmp 8, .tmp 9] k)))
  (F.upd (F.upd (F.upd (F.upd (F.upd (F.upd (F.upd (F.upd (F.upd (F.upd (F.upd (F.upd (F.upd (F.upd (F.upd (F.upd (F.upd (F.upd (F.upd (F.upd (F.upd (F.upd (F.upd (F.upd (initF [v0, v1, v2, v3]) 4 t1) 8 (.slice none 0 0)) 9 (.int .i64 0)) 17 t5) 18 t6) 19 v1) 20 v2) 21 t7) 22 t8) 23 t9) 24 t10) 10 t11) 25 t14) 26 t15) 27 v3) 28 t16) 29 t18) 11 t18) 30 v3) 12 v3) 31 t20) 32 t21) 33 t22) 34 (.int .i64 0)) w19) w17) w13) w12) w2.drew) w
theorem body95 : Try.f95.body = some (bodyOf Try.f95) := by kernel_rfl
theorem same95 (v0 v1 v2 v3 : Value) (k : Value → World → Prop) (w : World) : wpF Try.prog pl95 (bodyOf Try.f95) (bodyQ Try.prog Try.f95.results.toList k) (initF [v0, v1, v2, v3]) w = S95 v0 v1 v2 v3 k w := by kernel_rfl
theorem enter95 {v0 v1 v2 v3 : Value} {k : Value → World → Prop} {w : World} (h : S95 v0 v1 v2 v3 k w) : CallK Try.prog 95 [v0, v1, v2, v3] k w :=
  call_of_wpF (pl := pl95) mixed Try.func95 body95 (by kernel_rfl) (of_decide_eq_true (by kernel_rfl)) (by kernel_rfl) (by kernel_rfl) (same95 v0 v1 v2 v3 k w ▸ h)

/-! (*loop.example/g00758/impl.part).parts -/
def pl96 : Plans := fun _ => ⟨false, [], .nil⟩
def S96 (v0 : Value) (k : Value → World → Prop) (w : World) : Prop :=
 Do Try.prog (sBuildSlice 91 1 [(0, v0)]) (fun t1 w2 =>
 Rd Try.prog (WS.at w2) (sNilCheck v0) fun t3 =>
 Rd Try.prog (WS.at w2) (sFieldAddr 93 t3 6) fun t4 =>
 Rd Try.prog (WS.at w2) (sLoad 91 t4) fun t5 =>
 Rd Try.prog (WS.at w2) (sBuiltin .len #[91] 3 [false] [t5]) fun t6 =>
 LoopF [14, 15, 16, 5, 17, 18, 19, 20, 3, 21, 13] (fun Q7 f8 w9 =>
  Rd Try.prog (WS.at w9) (sBin .lss 3 false (f8 13) (f8 12)) fun t10 =>
  CondK t10
   (Rd Try.prog (WS.at w9) (sIndexAddr 91 (f8 11) (f8 13)) fun t11 =>
   Rd Try.prog (WS.at w9) (sLoad 86 t11) fun t12 =>
   CallK Try.prog 96 [t12] (fun t13 w14 =>
   Do Try.prog (sBuiltin .append #[91, 91] 91 [false, false] [(f8 3), t13]) (fun t15 w16 =>
   Rd Try.prog (WS.at w16) (sBin .add 3 true (f8 13) (.int .i64 1)) fun t17 =>
   Q7 .normal (F.upd (F.upd (F.upd (F.upd (F.upd (F.upd (F.upd (F.upd (F.upd (F.upd (F.upd f8 14 t10) 15 t11) 16 t12) 5 t12) 17 (f8 3)) 18 t12) 19 t13) 20 t15) 3 t15) 21 t17) 13 t17) w16) w14) w9)
   (Q7 (.exit 0) (F.upd f8 14 t10) w9))
  (blockQ 0 (seqQ (fun f18 w19 =>
 k (f18 3) w19) (bodyQ Try.prog [.tmp 2] k)))
  (F.upd (F.upd (F.upd (F.upd (F.upd (F.upd (F.upd (F.upd (F.upd (F.upd (initF [v0]) 2 (.slice none 0 0)) 6 v0) 7 t1) 3 t1) 8 v0) 9 t3) 10 t4) 11 t5) 12 t6) 13 (.int .i64 0)) w2) w
theorem body96 : Try.f96.body = some (bodyOf Try.f96) := by kernel_rfl
theorem same96 (v0 : Value) (k : Value → World → Prop) (w : World) : wpF Try.prog pl96 (bodyOf Try.f96) (bodyQ Try.prog Try.f96.results.toList k) (initF [v0]) w = S96 v0 k w := by kernel_rfl
theorem enter96 {v0 : Value} {k : Value → World → Prop} {w : World} (h : S96 v0 k w) : CallK Try.prog 96 [v0] k w :=
  call_of_wpF (pl := pl96) mixed Try.func96 body96 (by kernel_rfl) (of_decide_eq_true (by kernel_rfl)) (by kernel_rfl) (by kernel_rfl) (same96 v0 k w ▸ h)

/-! loop.example/g00758/spec.l11Asked -/
def pl142 : Plans := fun _ => ⟨false, [], .nil⟩
def S142 (v0 v1 v2 : Value) (k : Value → World → Prop) (w : World) : Prop :=
 Do Try.prog (sBox 37 v0) (fun t1 w2 =>
 Rd Try.prog (WS.at w2) (sLoad 37 t1) fun t3 =>
 CallK Try.prog 81 [t3] (fun t4 w5 =>
 GuardK t4 true (fun k w' => k v1 w') (fun t6 w7 =>
 GuardK t4 true (fun k w' => Rd Try.prog (WS.at w7) (sFieldAddr 37 t1 0) fun v => k v w') (fun t8 w9 =>
 GuardK t4 true (fun k w' => Rd Try.prog (WS.at w9) (sLoad 3 t8) fun v => k v w') (fun t10 w11 =>
 GuardK t4 true (fun k w' => Rd Try.prog (WS.at w11) (sBin .sub 3 true t10 (.int .i64 1)) fun v => k v w') (fun t12 w13 =>
 GuardK t4 true (fun k w' => CallK Try.prog 77 [t6, (.int .i64 0), t12] k w') (fun t14 w15 =>
 Rd Try.prog (WS.at w15) (sPick t4 t14 (.bool false)) fun t16 =>
 GuardK t16 true (fun k w' => k v2 w') (fun t17 w18 =>
 GuardK t16 true (fun k w' => Rd Try.prog (WS.at w18) (sBuiltin .len #[22] 3 [false] [t17]) fun v => k v w') (fun t19 w20 =>
 GuardK t16 true (fun k w' => Rd Try.prog (WS.at w20) (sBin .leq 3 true t19 (.int .i64 60)) fun v => k v w') (fun t21 w22 =>
 Rd Try.prog (WS.at w22) (sPick t16 t21 (.bool false)) fun t23 =>
 k t23 w22) w20) w18) w15) w13) w11) w9) w7) w5) w2) w
theorem body142 : Try.f142.body = some (bodyOf Try.f142) := by kernel_rfl
theorem same142 (v0 v1 v2 : Value) (k : Value → World → Prop) (w : World) : wpF Try.prog pl142 (bodyOf Try.f142) (bodyQ Try.prog Try.f142.results.toList k) (initF [v0, v1, v2]) w = S142 v0 v1 v2 k w := by kernel_rfl
theorem enter142 {v0 v1 v2 : Value} {k : Value → World → Prop} {w : World} (h : S142 v0 v1 v2 k w) : CallK Try.prog 142 [v0, v1, v2] k w :=
  call_of_wpF (pl := pl142) mixed Try.func142 body142 (by kernel_rfl) (of_decide_eq_true (by kernel_rfl)) (by kernel_rfl) (by kernel_rfl) (same142 v0 v1 v2 k w ▸ h)

/-! loop.example/g00758/spec.l11Is -/
def pl143 : Plans := fun _ => ⟨false, [], .nil⟩
def S143 (v0 v1 v2 : Value) (k : Value → World → Prop) (w : World) : Prop :=
 Do Try.prog (sBox 37 v0) (fun t1 w2 =>
 Rd Try.prog (WS.at w2) (sBuiltin .len #[22] 3 [false] [v2]) fun t3 =>
 Rd Try.prog (WS.at w2) (sBin .gtr 3 true t3 (.int .i64 0)) fun t4 =>
 GuardK t4 true (fun k w' => Rd Try.prog (WS.at w2) (sLoad 37 t1) fun v => k v w') (fun t5 w6 =>
 GuardK t4 true (fun k w' => k v1 w') (fun t7 w8 =>
 GuardK t4 true (fun k w' => k v2 w') (fun t9 w10 =>
 GuardK t4 true (fun k w' => CallK Try.prog 177 [t5, t7, t9, (.int .i64 0)] k w') (fun t11 w12 =>
 GuardK t4 true (fun k w' => k v2 w') (fun t13 w14 =>
 GuardK t4 true (fun k w' => Rd Try.prog (WS.at w14) (sBuiltin .len #[22] 3 [false] [t13]) fun v => k v w') (fun t15 w16 =>
 GuardK t4 true (fun k w' => Rd Try.prog (WS.at w16) (sBin .eql 3 false t11 t15) fun v => k v w') (fun t17 w18 =>
 Rd Try.prog (WS.at w18) (sPick t4 t17 (.bool false)) fun t19 =>
 k t19 w18) w16) w14) w12) w10) w8) w6) w2) w
theorem body143 : Try.f143.body = some (bodyOf Try.f143) := by kernel_rfl
theorem same143 (v0 v1 v2 : Value) (k : Value → World → Prop) (w : World) : wpF Try.prog pl143 (bodyOf Try.f143) (bodyQ Try.prog Try.f143.results.toList k) (initF [v0, v1, v2]) w = S143 v0 v1 v2 k w := by kernel_rfl
theorem enter143 {v0 v1 v2 : Value} {k : Value → World → Prop} {w : World} (h : S143 v0 v1 v2 k w) : CallK Try.prog 143 [v0, v1, v2] k w :=
  call_of_wpF (pl := pl143) mixed Try.func143 body143 (by kernel_rfl) (of_decide_eq_true (by kernel_rfl)) (by kernel_rfl) (by kernel_rfl) (same143 v0 v1 v2 k w ▸ h)

/-! (loop.example/g00758/impl.Grammar).tree -/
def pl144 : Plans := fun i => match i with
  | 5 => ⟨false, [], .step 0 .any (.step 1 .held (.step 2 .any (.step 3 .any (.step 4 .any (.step 5 .any (.nil))))))⟩
  | _ => ⟨false, [], .nil⟩
def S144 (v0 v1 v2 : Value) (k : Value → World → Prop) (w : World) : Prop :=
 Do Try.prog (sBox 37 v0) (fun t1 w2 =>
 Do Try.prog (sBox 22 v2) (fun t3 w4 =>
 Do Try.prog (sBuildSlice 22 0 []) (fun t5 w6 =>
 Do Try.prog (sAlloc 22) (fun t7 w8 =>
 Do Try.prog (sStore 22 t7 t5) (fun _ w9 =>
 Do Try.prog (sAlloc 181) (fun t10 w11 =>
 Rd Try.prog (WS.at w11) (sMakeFunc (.func 178) [] [t3, t1, t7, t10]) fun t12 =>
 Do Try.prog (sStore 181 t10 t12) (fun _ w13 =>
 Rd Try.prog (WS.at w13) (sLoad 181 t10) fun t14 =>
 Do Try.prog (sCallV t14 [v1, (.int .i64 0)] 182) (fun t15 w16 =>
 Rd Try.prog (WS.at w16) (sExtract t15 0) fun t17 =>
 Rd Try.prog (WS.at w16) (sExtract t15 1) fun t18 =>
 Rd Try.prog (WS.at w16.drew) (sLoad 22 t7) fun t19 =>
 k (.tuple #[t17, t19, t18]) w16.drew) w13) w11) w9) w8) w6) w4) w2) w
theorem body144 : Try.f144.body = some (bodyOf Try.f144) := by kernel_rfl
theorem same144 (v0 v1 v2 : Value) (k : Value → World → Prop) (w : World) : wpF Try.prog pl144 (bodyOf Try.f144) (bodyQ Try.prog Try.f144.results.toList k) (initF [v0, v1, v2]) w = S144 v0 v1 v2 k w := by kernel_rfl
theorem enter144 {v0 v1 v2 : Value} {k : Value → World → Prop} {w : World} (h : S144 v0 v1 v2 k w) : CallK Try.prog 144 [v0, v1, v2] k w :=
  call_of_wpF (pl := pl144) mixed Try.func144 body144 (by kernel_rfl) (of_decide_eq_true (by kernel_rfl)) (by kernel_rfl) (by kernel_rfl) (same144 v0 v1 v2 k w ▸ h)

/-! loop.example/g00758/spec.l11End -/
def pl177 : Plans := fun i => match i with
  | 1 => ⟨true, [], .step 0 .any (.step 1 .any (.step 2 .any (.step 3 .any (.step 4 .any (.step 5 .any (.step 6 .any (.step 7 .any (.step 8 .held (.step 9 .any (.step 10 .held (.step 11 .any (.step 12 .any (.step 13 .one (.step 14 .any (.step 15 .any (.step 16 .any (.step 17 .any (.step 18 .held (.step 19 .any (.step 20 .any (.step 21 .any (.step 22 .held (.step 23 .any (.step 24 .any (.step 25 .held (.step 26 .any (.step 27 .any (.step 28 .any (.nil)))))))))))))))))))))))))))))⟩
  | 4 => ⟨false, [], .step 0 .any (.step 1 .held (.step 2 .any (.step 3 .any (.step 4 .any (.step 5 .held (.step 6 .any (.step 7 .any (.step 8 .held (.step 9 .any (.step 10 .any (.nil)))))))))))⟩
  | _ => ⟨false, [], .nil⟩
def S177 (v0 v1 v2 v3 : Value) (k : Value → World → Prop) (w : World) : Prop :=
 Do Try.prog (sBox 37 v0) (fun t1 w2 =>
 ∃ S3 : World → Prop, ∃ h4 : S3 w2.drew,
 Rd Try.prog WS.any (sBuiltin .len #[22] 3 [false] [v2]) fun t5 =>
 Rd Try.prog WS.any (sBin .geq 3 false v3 t5) fun t6 =>
 GuardK t6 false (fun k w' => k v2 w') (fun t7 w8 =>
 GuardK t6 false (fun k w' => k v3 w') (fun t9 w10 =>
 GuardK t6 false (fun k w' => Rd Try.prog WS.any (sIndexAddr 22 t7 t9) fun v => k v w') (fun t11 w12 =>
 GuardK t6 false (fun k w' => Rd Try.prog ⟨S3, w2.drew, h4⟩ (sLoad 3 t11) fun v => k v w') (fun t13 w14 =>
 GuardK t6 false (fun k w' => Rd Try.prog WS.any (sFieldAddr 37 t1 2) fun v => k v w') (fun t15 w16 =>
 GuardK t6 false (fun k w' => Rd Try.prog ⟨S3, w2.drew, h4⟩ (sLoad 35 t15) fun v => k v w') (fun t17 w18 =>
 GuardK t6 false (fun k w' => Rd Try.prog WS.any (sBuiltin .len #[35] 3 [false] [t17]) fun v => k v w') (fun t19 w20 =>
 GuardK t6 false (fun k w' => Rd Try.prog WS.any (sBin .sub 3 true t19 (.int .i64 1)) fun v => k v w') (fun t21 w22 =>
 GuardK t6 false (fun k w' => CallK Try.prog 77 [t13, (.int .i64 0), t21] k w') (fun t23 w24 =>
 S3 w24 ∧ GuardK t6 false (fun k w' => Rd Try.prog WS.any (sUn .not t23) fun v => k v w') (fun t25 w26 =>
 Rd Try.prog WS.any (sPick t6 (.bool true) t25) fun t27 =>
 GuardK t27 false (fun k w' => Rd Try.prog WS.any (sFieldAddr 37 t1 2) fun v => k v w') (fun t28 w29 =>
 GuardK t27 false (fun k w' => Rd Try.prog ⟨S3, w2.drew, h4⟩ (sLoad 35 t28) fun v => k v w') (fun t30 w31 =>
 GuardK t27 false (fun k w' => k v2 w') (fun t32 w33 =>
 GuardK t27 false (fun k w' => k v3 w') (fun t34 w35 =>
 GuardK t27 false (fun k w' => Rd Try.prog WS.any (sIndexAddr 22 t32 t34) fun v => k v w') (fun t36 w37 =>
 GuardK t27 false (fun k w' => Rd Try.prog ⟨S3, w2.drew, h4⟩ (sLoad 3 t36) fun v => k v w') (fun t38 w39 =>
 GuardK t27 false (fun k w' => Rd Try.prog WS.any (sIndexAddr 35 t30 t38) fun v => k v w') (fun t40 w41 =>
 GuardK t27 false (fun k w' => Rd Try.prog WS.any (sFieldAddr 77 t40 0) fun v => k v w') (fun t42 w43 =>
 GuardK t27 false (fun k w' => Rd Try.prog ⟨S3, w2.drew, h4⟩ (sLoad 3 t42) fun v => k v w') (fun t44 w45 =>
 GuardK t27 false (fun k w' => k v1 w') (fun t46 w47 =>
 GuardK t27 false (fun k w' => Rd Try.prog WS.any (sBin .neq 3 false t44 t46) fun v => k v w') (fun t48 w49 =>
 Rd Try.prog WS.any (sPick t27 (.bool true) t48) fun t50 =>
 CondK t50
  (k (.int .i64 (-1)) w49)
  (Rd Try.prog (WS.at w49) (sBin .add 3 true v3 (.int .i64 1)) fun t51 =>
  Rd Try.prog WS.any (sFieldAddr 37 t1 2) fun t52 =>
  Rd Try.prog (WS.at w49.drew) (sLoad 35 t52) fun t53 =>
  Rd Try.prog WS.any (sIndexAddr 22 v2 v3) fun t54 =>
  Rd Try.prog (WS.at w49.drew) (sLoad 3 t54) fun t55 =>
  Rd Try.prog WS.any (sIndexAddr 35 t53 t55) fun t56 =>
  Rd Try.prog WS.any (sFieldAddr 77 t56 1) fun t57 =>
  Rd Try.prog (WS.at w49.drew) (sLoad 22 t57) fun t58 =>
  Rd Try.prog WS.any (sBuiltin .len #[22] 3 [false] [t58]) fun t59 =>
  LoopF [54, 55, 56, 11, 57, 58, 59, 60, 61, 62, 63, 9, 64, 65, 8, 66, 53] (fun Q60 f61 w62 =>
   Rd Try.prog (WS.at w62) (sBin .lss 3 false (f61 53) (f61 52)) fun t63 =>
   CondK t63
    (Join (fun K64 =>
    Rd Try.prog (WS.at w62) (sIndexAddr 22 (f61 51) (f61 53)) fun t67 =>
    Rd Try.prog (WS.at w62) (sLoad 3 t67) fun t68 =>
    Rd Try.prog (WS.at w62) (sBin .lss 3 true t68 (.int .i64 0)) fun t69 =>
    CondK t69
     (K64 (F.upd (F.upd (F.upd (F.upd (F.upd (F.upd f61 54 t63) 55 t67) 56 t68) 11 t68) 57 t68) 58 t69) w62)
     (Rd Try.prog (WS.at w62) (sLoad 37 (f61 4)) fun t70 =>
     CallK Try.prog 177 [t70, t68, (f61 2), (f61 9)] (fun t71 w72 =>
     Rd Try.prog (WS.at w72) (sBin .lss 3 true t71 (.int .i64 0)) fun t73 =>
     CondK t73
      (Q60 .ret (F.upd (F.upd (F.upd (F.upd (F.upd (F.upd (F.upd (F.upd (F.upd (F.upd (F.upd (F.upd (F.upd (F.upd (F.upd f61 54 t63) 55 t67) 56 t68) 11 t68) 57 t68) 58 t69) 59 t70) 60 t68) 61 (f61 2)) 62 (f61 9)) 63 t71) 9 t71) 64 t71) 65 t73) 8 (.int .i64 (-1))) w72)
      (K64 (F.upd (F.upd (F.upd (F.upd (F.upd (F.upd (F.upd (F.upd (F.upd (F.upd (F.upd (F.upd (F.upd (F.upd f61 54 t63) 55 t67) 56 t68) 11 t68) 57 t68) 58 t69) 59 t70) 60 t68) 61 (f61 2)) 62 (f61 9)) 63 t71) 9 t71) 64 t71) 65 t73) w72)) w62)) (fun f65 w66 =>
    Rd Try.prog (WS.at w66) (sBin .add 3 true (f65 53) (.int .i64 1)) fun t74 =>
    Q60 .normal (F.upd (F.upd f65 66 t74) 53 t74) w66))
    (Q60 (.exit 0) (F.upd f61 54 t63) w62))
   (blockQ 0 (seqQ (fun f75 w76 =>
  k (f75 9) w76) (bodyQ Try.prog [.tmp 8] k)))
   (F.upd (F.upd (F.upd (F.upd (F.upd (F.upd (F.upd (F.upd (F.upd (F.upd (F.upd (F.upd (F.upd (F.upd (F.upd (F.upd (F.upd (F.upd (F.upd (F.upd (F.upd (F.upd (F.upd (F.upd (F.upd (F.upd (F.upd (F.upd (F.upd (F.upd (F.upd (F.upd (F.upd (F.upd (F.upd (F.upd (F.upd (F.upd (F.upd (F.upd (F.upd (F.upd (F.upd (F.upd (F.upd (initF [v0, v1, v2, v3]) 4 t1) 8 (.int .i64 0)) 12 v3) 13 v2) 14 t5) 15 t6) 16 t6) 17 t7) 18 t9) 19 t11) 20 t13) 21 t15) 22 t17) 23 t19) 24 t21) 25 t23) 26 t25) 27 t27) 28 t27) 29 t28) 30 t30) 31 t32) 32 t34) 33 t36) 34 t38) 35 t40) 36 t42) 37 t44) 38 t46) 39 t48) 40 t50) 41 v3) 42 t51) 9 t51) 43 t52) 44 t53) 45 v2) 46 v3) 47 t54) 48 t55) 49 t56) 50 t57) 51 t58) 52 t59) 53 (.int .i64 0)) w49.drew)) w47) w45) w43) w41) w39) w37) w35) w33) w31) w29) w26) w24) w22) w20) w18) w16) w14) w12) w10) w8) w2.drew) w
theorem body177 : Try.f177.body = some (bodyOf Try.f177) := by kernel_rfl
theorem same177 (v0 v1 v2 v3 : Value) (k : Value → World → Prop) (w : World) : wpF Try.prog pl177 (bodyOf Try.f177) (bodyQ Try.prog Try.f177.results.toList k) (initF [v0, v1, v2, v3]) w = S177 v0 v1 v2 v3 k w := by kernel_rfl
theorem enter177 {v0 v1 v2 v3 : Value} {k : Value → World → Prop} {w : World} (h : S177 v0 v1 v2 v3 k w) : CallK Try.prog 177 [v0, v1, v2, v3] k w :=
  call_of_wpF (pl := pl177) mixed Try.func177 body177 (by kernel_rfl) (of_decide_eq_true (by kernel_rfl)) (by kernel_rfl) (by kernel_rfl) (same177 v0 v1 v2 v3 k w ▸ h)

/-! (loop.example/g00758/impl.Grammar).tree$1 -/
def pl178 : Plans := fun i => match i with
  | 1 => ⟨true, [], .step 0 .any (.step 1 .held (.step 2 .any (.step 3 .any (.step 4 .any (.step 5 .held (.step 6 .any (.step 7 .any (.step 8 .held (.step 9 .any (.step 10 .held (.step 11 .any (.step 12 .any (.step 13 .one (.step 14 .any (.step 15 .any (.step 16 .any (.step 17 .any (.step 18 .held (.step 19 .held (.step 20 .any (.step 21 .any (.step 22 .held (.step 23 .any (.step 24 .any (.step 25 .held (.step 26 .any (.step 27 .any (.step 28 .any (.nil)))))))))))))))))))))))))))))⟩
  | 3 => ⟨false, [11], .step 0 .any (.step 1 .held (.step 2 .any (.step 3 .any (.step 4 .held (.step 5 .any (.step 6 .any (.step 7 .any (.step 8 .held (.step 9 .any (.step 10 .any (.step 11 .last (.step 12 .any (.nil)))))))))))))⟩
  | 4 => ⟨false, [], .step 0 .any (.step 1 .held (.step 2 .any (.step 3 .any (.step 4 .any (.step 5 .held (.step 6 .any (.step 7 .any (.step 8 .held (.step 9 .any (.step 10 .any (.nil)))))))))))⟩
  | 8 => ⟨true, [4, 5], .step 0 .held (.step 1 .any (.step 2 .one (.step 3 .one (.step 4 .last (.step 5 .last (.nil))))))⟩
  | 9 => ⟨false, [6], .step 0 .held (.step 1 .any (.step 2 .any (.step 3 .any (.step 4 .any (.step 5 .held (.step 6 .last (.step 7 .any (.step 8 .any (.step 9 .any (.step 10 .any (.step 11 .any (.nil))))))))))))⟩
  | _ => ⟨false, [], .nil⟩
def S178 (v0 v1 v2 v3 v4 v5 : Value) (k : Value → World → Prop) (w : World) : Prop :=
 ∃ S1 : World → Prop, ∃ h2 : S1 w.drew,
 Rd Try.prog ⟨S1, w.drew, h2⟩ (sLoad 22 v2) fun t3 =>
 Rd Try.prog WS.any (sBuiltin .len #[22] 3 [false] [t3]) fun t4 =>
 Rd Try.prog WS.any (sBin .geq 3 false v1 t4) fun t5 =>
 GuardK t5 false (fun k w' => Rd Try.prog ⟨S1, w.drew, h2⟩ (sLoad 22 v2) fun v => k v w') (fun t6 w7 =>
 GuardK t5 false (fun k w' => k v1 w') (fun t8 w9 =>
 GuardK t5 false (fun k w' => Rd Try.prog WS.any (sIndexAddr 22 t6 t8) fun v => k v w') (fun t10 w11 =>
 GuardK t5 false (fun k w' => Rd Try.prog ⟨S1, w.drew, h2⟩ (sLoad 3 t10) fun v => k v w') (fun t12 w13 =>
 GuardK t5 false (fun k w' => Rd Try.prog WS.any (sFieldAddr 37 v3 2) fun v => k v w') (fun t14 w15 =>
 GuardK t5 false (fun k w' => Rd Try.prog ⟨S1, w.drew, h2⟩ (sLoad 35 t14) fun v => k v w') (fun t16 w17 =>
 GuardK t5 false (fun k w' => Rd Try.prog WS.any (sBuiltin .len #[35] 3 [false] [t16]) fun v => k v w') (fun t18 w19 =>
 GuardK t5 false (fun k w' => Rd Try.prog WS.any (sBin .sub 3 true t18 (.int .i64 1)) fun v => k v w') (fun t20 w21 =>
 GuardK t5 false (fun k w' => CallK Try.prog 103 [t12, (.int .i64 0), t20] k w') (fun t22 w23 =>
 S1 w23 ∧ GuardK t5 false (fun k w' => Rd Try.prog WS.any (sUn .not t22) fun v => k v w') (fun t24 w25 =>
 Rd Try.prog WS.any (sPick t5 (.bool true) t24) fun t26 =>
 GuardK t26 false (fun k w' => Rd Try.prog WS.any (sFieldAddr 37 v3 2) fun v => k v w') (fun t27 w28 =>
 GuardK t26 false (fun k w' => Rd Try.prog ⟨S1, w.drew, h2⟩ (sLoad 35 t27) fun v => k v w') (fun t29 w30 =>
 GuardK t26 false (fun k w' => Rd Try.prog ⟨S1, w.drew, h2⟩ (sLoad 22 v2) fun v => k v w') (fun t31 w32 =>
 GuardK t26 false (fun k w' => k v1 w') (fun t33 w34 =>
 GuardK t26 false (fun k w' => Rd Try.prog WS.any (sIndexAddr 22 t31 t33) fun v => k v w') (fun t35 w36 =>
 GuardK t26 false (fun k w' => Rd Try.prog ⟨S1, w.drew, h2⟩ (sLoad 3 t35) fun v => k v w') (fun t37 w38 =>
 GuardK t26 false (fun k w' => Rd Try.prog WS.any (sIndexAddr 35 t29 t37) fun v => k v w') (fun t39 w40 =>
 GuardK t26 false (fun k w' => Rd Try.prog WS.any (sFieldAddr 77 t39 0) fun v => k v w') (fun t41 w42 =>
 GuardK t26 false (fun k w' => Rd Try.prog ⟨S1, w.drew, h2⟩ (sLoad 3 t41) fun v => k v w') (fun t43 w44 =>
 GuardK t26 false (fun k w' => k v0 w') (fun t45 w46 =>
 GuardK t26 false (fun k w' => Rd Try.prog WS.any (sBin .neq 3 false t43 t45) fun v => k v w') (fun t47 w48 =>
 Rd Try.prog WS.any (sPick t26 (.bool true) t47) fun t49 =>
 CondK t49
  (k (.tuple #[(.pointer none), (.bool false)]) w48)
  (Rd Try.prog (WS.at w48.drew) (sLoad 22 v2) fun t50 =>
  Rd Try.prog WS.any (sIndexAddr 22 t50 v1) fun t51 =>
  Rd Try.prog (WS.at w48.drew) (sLoad 3 t51) fun t52 =>
  Rd Try.prog WS.any (sBin .add 3 true v1 (.int .i64 1)) fun t53 =>
  Rd Try.prog (WS.at w48.drew) (sLoad 22 v4) fun t54 =>
  Rd Try.prog WS.any (sBuiltin .len #[22] 3 [false] [t54]) fun t55 =>
  Rd Try.prog WS.any (sBuild 93 [(0, v0), (1, t52), (2, v1), (3, t53), (4, t55)]) fun t56 =>
  Do Try.prog (sBox 93 t56) (fun t57 w58 =>
  Rd Try.prog WS.any (sFieldAddr 37 v3 2) fun t59 =>
  Rd Try.prog (WS.at w58.drew) (sLoad 35 t59) fun t60 =>
  Rd Try.prog WS.any (sNilCheck t57) fun t61 =>
  Rd Try.prog WS.any (sFieldAddr 93 t61 1) fun t62 =>
  Rd Try.prog (WS.at w58.drew) (sLoad 3 t62) fun t63 =>
  Rd Try.prog WS.any (sIndexAddr 35 t60 t63) fun t64 =>
  Rd Try.prog WS.any (sFieldAddr 77 t64 1) fun t65 =>
  Rd Try.prog (WS.at w58.drew) (sLoad 22 t65) fun t66 =>
  Rd Try.prog WS.any (sBuiltin .len #[22] 3 [false] [t66]) fun t67 =>
  LoopF [67, 68, 69, 12, 70, 71, 72, 73, 74, 75, 76, 78, 79, 80, 81, 82, 83, 84, 77, 85, 86, 13, 14, 87, 88, 8, 9, 89, 90, 91, 92, 93, 94, 95, 96, 97, 98, 99, 100, 101, 102, 103, 104, 105, 106, 66] (fun Q68 f69 w70 =>
   Rd Try.prog (WS.at w70) (sBin .lss 3 false (f69 66) (f69 65)) fun t71 =>
   CondK t71
    (Join (fun K72 =>
    Rd Try.prog (WS.at w70) (sIndexAddr 22 (f69 64) (f69 66)) fun t75 =>
    Rd Try.prog (WS.at w70) (sLoad 3 t75) fun t76 =>
    Rd Try.prog (WS.at w70) (sBin .lss 3 true t76 (.int .i64 0)) fun t77 =>
    CondK t77
     (∃ S78 : World → Prop, ∃ h79 : S78 w70.drew,
     Rd Try.prog ⟨S78, w70.drew, h79⟩ (sLoad 22 (f69 4)) fun t80 =>
     CallK Try.prog 179 [t76] (fun t81 w82 =>
     S78 w82 ∧ Do Try.prog (sBuildSlice 22 1 [(0, t81)]) (fun t83 w84 =>
     S78 w84 ∧ Do Try.prog (sBuiltin .append #[22, 22] 22 [false, false] [t80, t83]) (fun t85 w86 =>
     Do Try.prog (sStore 22 (f69 4) t85) (fun _ w87 =>
     K72 (F.upd (F.upd (F.upd (F.upd (F.upd (F.upd (F.upd (F.upd (F.upd (F.upd (F.upd f69 67 t71) 68 t75) 69 t76) 12 t76) 70 t76) 71 t77) 72 t80) 73 t76) 74 t81) 75 t83) 76 t85) w87) w86) w84) w82) w70.drew)
     (Rd Try.prog (WS.at w70.drew) (sLoad 181 (f69 5)) fun t88 =>
     Rd Try.prog WS.any (sNilCheck (f69 10)) fun t89 =>
     Rd Try.prog WS.any (sFieldAddr 93 t89 3) fun t90 =>
     Rd Try.prog (WS.at w70.drew) (sLoad 3 t90) fun t91 =>
     Do Try.prog (sCallV t88 [t76, t91] 182) (fun t92 w93 =>
     Rd Try.prog WS.any (sExtract t92 0) fun t94 =>
     Rd Try.prog WS.any (sExtract t92 1) fun t95 =>
     Rd Try.prog (WS.at w93) (sUn .not t95) fun t96 =>
     CondK t96
      (Q68 .ret (F.upd (F.upd (F.upd (F.upd (F.upd (F.upd (F.upd (F.upd (F.upd (F.upd (F.upd (F.upd (F.upd (F.upd (F.upd (F.upd (F.upd (F.upd (F.upd (F.upd (F.upd (F.upd f69 67 t71) 68 t75) 69 t76) 12 t76) 70 t76) 71 t77) 78 t88) 79 t76) 80 (f69 10)) 81 t89) 82 t90) 83 t91) 84 t92) 77 t92) 85 t94) 86 t95) 13 t94) 14 t95) 87 t95) 88 t96) 8 (.pointer none)) 9 (.bool false)) w93)
      (Rd Try.prog (WS.at w93) (sNilCheck (f69 10)) fun t97 =>
      Rd Try.prog (WS.at w93) (sFieldAddr 93 t97 6) fun t98 =>
      Rd Try.prog (WS.at w93) (sLoad 91 t98) fun t99 =>
      Do Try.prog (sBuildSlice 91 1 [(0, t94)]) (fun t100 w101 =>
      Do Try.prog (sBuiltin .append #[91, 91] 91 [false, false] [t99, t100]) (fun t102 w103 =>
      Rd Try.prog (WS.at w103) (sNilCheck (f69 10)) fun t104 =>
      Rd Try.prog (WS.at w103) (sFieldAddr 93 t104 6) fun t105 =>
      Do Try.prog (sStore 91 t105 t102) (fun _ w106 =>
      Rd Try.prog (WS.at w106) (sNilCheck t94) fun t107 =>
      Rd Try.prog (WS.at w106) (sFieldAddr 93 t107 3) fun t108 =>
      Rd Try.prog (WS.at w106) (sLoad 3 t108) fun t109 =>
      Rd Try.prog (WS.at w106) (sNilCheck (f69 10)) fun t110 =>
      Rd Try.prog (WS.at w106) (sFieldAddr 93 t110 3) fun t111 =>
      Do Try.prog (sStore 3 t111 t109) (fun _ w112 =>
      K72 (F.upd (F.upd (F.upd (F.upd (F.upd (F.upd (F.upd (F.upd (F.upd (F.upd (F.upd (F.upd (F.upd (F.upd (F.upd (F.upd (F.upd (F.upd (F.upd (F.upd (F.upd (F.upd (F.upd (F.upd (F.upd (F.upd (F.upd (F.upd (F.upd (F.upd (F.upd (F.upd (F.upd (F.upd (F.upd (F.upd (F.upd f69 67 t71) 68 t75) 69 t76) 12 t76) 70 t76) 71 t77) 78 t88) 79 t76) 80 (f69 10)) 81 t89) 82 t90) 83 t91) 84 t92) 77 t92) 85 t94) 86 t95) 13 t94) 14 t95) 87 t95) 88 t96) 89 (f69 10)) 90 (f69 10)) 91 t97) 92 t98) 93 t99) 94 t94) 95 t100) 96 t102) 97 t104) 98 t105) 99 (f69 10)) 100 t94) 101 t107) 102 t108) 103 t109) 104 t110) 105 t111) w112) w106) w103) w101) w93)) w70.drew)) (fun f73 w74 =>
    Rd Try.prog (WS.at w74) (sBin .add 3 true (f73 66) (.int .i64 1)) fun t113 =>
    Q68 .normal (F.upd (F.upd f73 106 t113) 66 t113) w74))
    (Q68 (.exit 0) (F.upd f69 67 t71) w70))
   (blockQ 0 (seqQ (fun f114 w115 =>
  Rd Try.prog (WS.at w115) (sLoad 22 (f114 4)) fun t116 =>
  Rd Try.prog (WS.at w115) (sBuiltin .len #[22] 3 [false] [t116]) fun t117 =>
  Rd Try.prog (WS.at w115) (sNilCheck (f114 10)) fun t118 =>
  Rd Try.prog (WS.at w115) (sFieldAddr 93 t118 5) fun t119 =>
  Do Try.prog (sStore 3 t119 t117) (fun _ w120 =>
  k (.tuple #[(f114 10), (.bool true)]) w120) w115) (bodyQ Try.prog [.tmp 8, .tmp 9] k)))
   (F.upd (F.upd (F.upd (F.upd (F.upd (F.upd (F.upd (F.upd (F.upd (F.upd (F.upd (F.upd (F.upd (F.upd (F.upd (F.upd (F.upd (F.upd (F.upd (F.upd (F.upd (F.upd (F.upd (F.upd (F.upd (F.upd (F.upd (F.upd (F.upd (F.upd (F.upd (F.upd (F.upd (F.upd (F.upd (F.upd (F.upd (F.upd (F.upd (F.upd (F.upd (F.upd (F.upd (F.upd (F.upd (F.upd (F.upd (F.upd (F.upd (F.upd (F.upd (F.upd (F.upd (F.upd (F.upd (initF [v0, v1, v2, v3, v4, v5]) 8 (.pointer none)) 9 (.bool false)) 15 v1) 16 t3) 17 t4) 18 t5) 19 t5) 20 t6) 21 t8) 22 t10) 23 t12) 24 t14) 25 t16) 26 t18) 27 t20) 28 t22) 29 t24) 30 t26) 31 t26) 32 t27) 33 t29) 34 t31) 35 t33) 36 t35) 37 t37) 38 t39) 39 t41) 40 t43) 41 t45) 42 t47) 43 t49) 44 v0) 45 t50) 46 v1) 47 t51) 48 t52) 49 v1) 50 v1) 51 t53) 52 t54) 53 t55) 54 t56) 55 t57) 10 t57) 56 t59) 57 t60) 58 t57) 59 t61) 60 t62) 61 t63) 62 t64) 63 t65) 64 t66) 65 t67) 66 (.int .i64 0)) w58.drew) w48.drew)) w46) w44) w42) w40) w38) w36) w34) w32) w30) w28) w25) w23) w21) w19) w17) w15) w13) w11) w9) w7) w.drew
theorem body178 : Try.f178.body = some (bodyOf Try.f178) := by kernel_rfl
theorem same178 (v0 v1 v2 v3 v4 v5 : Value) (k : Value → World → Prop) (w : World) : wpF Try.prog pl178 (bodyOf Try.f178) (bodyQ Try.prog Try.f178.results.toList k) (initF [v0, v1, v2, v3, v4, v5]) w = S178 v0 v1 v2 v3 v4 v5 k w := by kernel_rfl
theorem enter178 {v0 v1 v2 v3 v4 v5 : Value} {k : Value → World → Prop} {w : World} (h : S178 v0 v1 v2 v3 v4 v5 k w) : CallK Try.prog 178 [v0, v1, v2, v3, v4, v5] k w :=
  call_of_wpF (pl := pl178) mixed Try.func178 body178 (by kernel_rfl) (of_decide_eq_true (by kernel_rfl)) (by kernel_rfl) (by kernel_rfl) (same178 v0 v1 v2 v3 v4 v5 k w ▸ h)

/-! loop.example/g00758/impl.symbolOf -/
def pl179 : Plans := fun _ => ⟨false, [], .nil⟩
def S179 (v0 : Value) (k : Value → World → Prop) (w : World) : Prop :=
 Rd Try.prog (WS.at w) (sBin .sub 3 true (.int .i64 (-1)) v0) fun t1 =>
 k t1 w
theorem body179 : Try.f179.body = some (bodyOf Try.f179) := by kernel_rfl
theorem same179 (v0 : Value) (k : Value → World → Prop) (w : World) : wpF Try.prog pl179 (bodyOf Try.f179) (bodyQ Try.prog Try.f179.results.toList k) (initF [v0]) w = S179 v0 k w := by kernel_rfl
theorem enter179 {v0 : Value} {k : Value → World → Prop} {w : World} (h : S179 v0 k w) : CallK Try.prog 179 [v0] k w :=
  call_of_wpF (pl := pl179) mixed Try.func179 body179 (by kernel_rfl) (of_decide_eq_true (by kernel_rfl)) (by kernel_rfl) (by kernel_rfl) (same179 v0 k w ▸ h)

end Go.Proofs.Ytiohaeckagjebaa
