/- Texts of this repository put together: Be, ShQ1, ShQ2, Bf, ShS1, ShQ3, ShQ4, ShQ5, ShQ6, ShQ7. -/
import Derived.Test.YtiohaeckagjebaaProg
import Derived.Test.YtiohaeckagjebaaK17a
import Derived.Test.YtiohaeckagjebaaK17d

/- Be: bodies of functions as terms of the frame calculus, printed by shgen.py of this repository. -/
set_option linter.unusedVariables false
set_option maxRecDepth 100000
namespace Go.Proofs.Ytiohaeckagjebaa
open Go Go.Sh

/-! loop.example/g00758/laws.FnExactPumpOf -/
def pl8 : Plans := fun i => match i with
  | 13 => ⟨true, [3], .step 0 .held (.step 1 .held (.step 2 .one (.step 3 .last (.step 4 .any (.nil)))))⟩
  | _ => ⟨false, [], .nil⟩
def S8 (v0 v1 : Value) (k : Value → World → Prop) (w : World) : Prop :=
 Do Try.prog (sBox 31 v0) (fun t1 w2 =>
 Rd Try.prog (WS.at w2) (sBuiltin .len #[22] 3 [false] [v1]) fun t3 =>
 Rd Try.prog (WS.at w2) (sBin .gtr 3 true t3 (.int .i64 1048576)) fun t4 =>
 CondK t4
  (k (.bool true) w2)
  (Rd Try.prog (WS.at w2) (sLoad 31 t1) fun t5 =>
  CallK Try.prog 29 [t5, (.int .i64 1048576)] (fun t6 w7 =>
  Rd Try.prog (WS.at w7) (sBin .lss 3 true t6 (.int .i64 0)) fun t8 =>
  CondK t8
   (k (.bool true) w7)
   (Rd Try.prog (WS.at w7) (sLoad 31 t1) fun t9 =>
   CallK Try.prog 31 [t9] (fun t10 w11 =>
   CallK Try.prog 24 [v1] (fun t12 w13 =>
   CallK Try.prog 42 [t10, t12] (fun t14 w15 =>
   Rd Try.prog (WS.at w15) (sExtract t14 0) fun t16 =>
   Rd Try.prog (WS.at w15) (sExtract t14 1) fun t17 =>
   Rd Try.prog (WS.at w15) (sLoad 31 t1) fun t18 =>
   CallK Try.prog 31 [t18] (fun t19 w20 =>
   Do Try.prog (sAlloc 37) (fun t21 w22 =>
   Do Try.prog (sStore 37 t21 t19) (fun _ w23 =>
   CallK Try.prog 24 [v1] (fun t24 w25 =>
   Rd Try.prog (WS.at w25) (sLoad 37 t21) fun t26 =>
   CallK Try.prog 43 [t26, t24] (fun t27 w28 =>
   Rd Try.prog (WS.at w28) (sExtract t27 0) fun t29 =>
   Rd Try.prog (WS.at w28) (sExtract t27 1) fun t30 =>
   CallK Try.prog 26 [t29, t16] (fun t31 w32 =>
   Rd Try.prog (WS.at w32) (sUn .not t31) fun t33 =>
   GuardK t33 false (fun k w' => k t30 w') (fun t34 w35 =>
   GuardK t33 false (fun k w' => k t17 w') (fun t36 w37 =>
   GuardK t33 false (fun k w' => Rd Try.prog (WS.at w37) (sBin .neq 4 false t34 t36) fun v => k v w') (fun t38 w39 =>
   Rd Try.prog (WS.at w39) (sPick t33 (.bool true) t38) fun t40 =>
   CondK t40
    (k (.bool false) w39)
    (∃ S41 : World → Prop, ∃ h42 : S41 w39.drew,
    Rd Try.prog ⟨S41, w39.drew, h42⟩ (sLoad 37 t21) fun t43 =>
    Rd Try.prog ⟨S41, w39.drew, h42⟩ (sLoad 31 t1) fun t44 =>
    CallK Try.prog 31 [t44] (fun t45 w46 =>
    S41 w46 ∧ CallK Try.prog 33 [t43, t45] (fun t47 w48 =>
    Rd Try.prog WS.any (sUn .not t47) fun t49 =>
    CondK t49
     (k (.bool false) w48)
     (CallK Try.prog 24 [v1] (fun t50 w51 =>
     CallK Try.prog 26 [t24, t50] (fun t52 w53 =>
     Rd Try.prog (WS.at w53) (sUn .not t52) fun t54 =>
     CondK t54
      (k (.bool false) w53)
      (Rd Try.prog (WS.at w53) (sLoad 37 t21) fun t55 =>
      CallK Try.prog 36 [t55, (.int .i64 1)] (fun t56 w57 =>
      CallK Try.prog 27 [t24, t56] (fun t58 w59 =>
      Rd Try.prog (WS.at w59) (sBin .lss 3 true t58 (.int .i64 0)) fun t60 =>
      GuardK t60 false (fun k w' => k t29 w') (fun t61 w62 =>
      GuardK t60 false (fun k w' => k t16 w') (fun t63 w64 =>
      GuardK t60 false (fun k w' => CallK Try.prog 26 [t61, t63] k w') (fun t65 w66 =>
      GuardK t60 false (fun k w' => Rd Try.prog (WS.at w66) (sUn .not t65) fun v => k v w') (fun t67 w68 =>
      Rd Try.prog (WS.at w68) (sPick t60 (.bool true) t67) fun t69 =>
      GuardK t69 false (fun k w' => k t30 w') (fun t70 w71 =>
      GuardK t69 false (fun k w' => k t17 w') (fun t72 w73 =>
      GuardK t69 false (fun k w' => Rd Try.prog (WS.at w73) (sBin .neq 4 false t70 t72) fun v => k v w') (fun t74 w75 =>
      Rd Try.prog (WS.at w75) (sPick t69 (.bool true) t74) fun t76 =>
      CondK t76
       (k (.bool false) w75)
       (CallK Try.prog 27 [t29, (.int .i64 1)] (fun t77 w78 =>
       CallK Try.prog 28 [t29, (.int .i64 1)] (fun t79 w80 =>
       Rd Try.prog (WS.at w80) (sBin .lss 3 true t79 (.int .i64 0)) fun t81 =>
       CondK t81
        (k (.bool false) w80)
        (Rd Try.prog (WS.at w80) (sBin .neq 3 false t79 t77) fun t82 =>
        CondK t82
         (k (.bool false) w80)
         (Rd Try.prog (WS.at w80) (sLoad 31 t1) fun t83 =>
         CallK Try.prog 31 [t83] (fun t84 w85 =>
         CallK Try.prog 24 [v1] (fun t86 w87 =>
         CallK Try.prog 43 [t84, t86] (fun t88 w89 =>
         Rd Try.prog (WS.at w89) (sExtract t88 0) fun t90 =>
         Rd Try.prog (WS.at w89) (sExtract t88 1) fun t91 =>
         CallK Try.prog 26 [t90, t16] (fun t92 w93 =>
         Rd Try.prog (WS.at w93) (sUn .not t92) fun t94 =>
         GuardK t94 false (fun k w' => k t91 w') (fun t95 w96 =>
         GuardK t94 false (fun k w' => k t17 w') (fun t97 w98 =>
         GuardK t94 false (fun k w' => Rd Try.prog (WS.at w98) (sBin .neq 4 false t95 t97) fun v => k v w') (fun t99 w100 =>
         Rd Try.prog (WS.at w100) (sPick t94 (.bool true) t99) fun t101 =>
         CondK t101
          (k (.bool false) w100)
          (CallK Try.prog 28 [t29, (.int .i64 1)] (fun t102 w103 =>
          Rd Try.prog (WS.at w103) (sBin .lss 3 true t102 (.int .i64 0)) fun t104 =>
          CondK t104
           (k (.bool false) w103)
           (Rd Try.prog (WS.at w103) (sBin .neq 3 false t102 t77) fun t105 =>
           CondK t105
            (k (.bool false) w103)
            (k (.bool true) w103))) w100)) w98) w96) w93) w89) w87) w85) w80))) w78) w75)) w73) w71) w68) w66) w64) w62) w59) w57) w53)) w51) w48)) w46) w39.drew)) w37) w35) w32) w28) w25) w23) w22) w20) w15) w13) w11) w7)) w2)) w
theorem body8 : Try.f8.body = some (bodyOf Try.f8) := by kernel_rfl
theorem same8 (v0 v1 : Value) (k : Value → World → Prop) (w : World) : wpF Try.prog pl8 (bodyOf Try.f8) (bodyQ Try.prog Try.f8.results.toList k) (initF [v0, v1]) w = S8 v0 v1 k w := by kernel_rfl
theorem enter8 {v0 v1 : Value} {k : Value → World → Prop} {w : World} (h : S8 v0 v1 k w) : CallK Try.prog 8 [v0, v1] k w :=
  call_of_wpF (pl := pl8) mixed Try.func8 body8 (by kernel_rfl) (of_decide_eq_true (by kernel_rfl)) (by kernel_rfl) (by kernel_rfl) (same8 v0 v1 k w ▸ h)

/-! loop.example/g00758/laws.FnExactPathIn -/
def pl9 : Plans := fun i => match i with
  | 13 => ⟨true, [3], .step 0 .held (.step 1 .held (.step 2 .one (.step 3 .last (.step 4 .any (.nil)))))⟩
  | _ => ⟨false, [], .nil⟩
def S9 (v0 v1 : Value) (k : Value → World → Prop) (w : World) : Prop :=
 Do Try.prog (sBox 31 v0) (fun t1 w2 =>
 Rd Try.prog (WS.at w2) (sBuiltin .len #[22] 3 [false] [v1]) fun t3 =>
 Rd Try.prog (WS.at w2) (sBin .gtr 3 true t3 (.int .i64 1048576)) fun t4 =>
 CondK t4
  (k (.bool true) w2)
  (Rd Try.prog (WS.at w2) (sLoad 31 t1) fun t5 =>
  CallK Try.prog 29 [t5, (.int .i64 1048576)] (fun t6 w7 =>
  Rd Try.prog (WS.at w7) (sBin .lss 3 true t6 (.int .i64 0)) fun t8 =>
  CondK t8
   (k (.bool true) w7)
   (Rd Try.prog (WS.at w7) (sLoad 31 t1) fun t9 =>
   CallK Try.prog 31 [t9] (fun t10 w11 =>
   CallK Try.prog 24 [v1] (fun t12 w13 =>
   CallK Try.prog 44 [t10, t12] (fun t14 w15 =>
   Rd Try.prog (WS.at w15) (sExtract t14 0) fun t16 =>
   Rd Try.prog (WS.at w15) (sExtract t14 1) fun t17 =>
   Rd Try.prog (WS.at w15) (sLoad 31 t1) fun t18 =>
   CallK Try.prog 31 [t18] (fun t19 w20 =>
   Do Try.prog (sAlloc 37) (fun t21 w22 =>
   Do Try.prog (sStore 37 t21 t19) (fun _ w23 =>
   CallK Try.prog 24 [v1] (fun t24 w25 =>
   Rd Try.prog (WS.at w25) (sLoad 37 t21) fun t26 =>
   CallK Try.prog 45 [t26, t24] (fun t27 w28 =>
   Rd Try.prog (WS.at w28) (sExtract t27 0) fun t29 =>
   Rd Try.prog (WS.at w28) (sExtract t27 1) fun t30 =>
   CallK Try.prog 46 [t29, t16] (fun t31 w32 =>
   Rd Try.prog (WS.at w32) (sUn .not t31) fun t33 =>
   GuardK t33 false (fun k w' => k t30 w') (fun t34 w35 =>
   GuardK t33 false (fun k w' => k t17 w') (fun t36 w37 =>
   GuardK t33 false (fun k w' => Rd Try.prog (WS.at w37) (sBin .neq 4 false t34 t36) fun v => k v w') (fun t38 w39 =>
   Rd Try.prog (WS.at w39) (sPick t33 (.bool true) t38) fun t40 =>
   CondK t40
    (k (.bool false) w39)
    (∃ S41 : World → Prop, ∃ h42 : S41 w39.drew,
    Rd Try.prog ⟨S41, w39.drew, h42⟩ (sLoad 37 t21) fun t43 =>
    Rd Try.prog ⟨S41, w39.drew, h42⟩ (sLoad 31 t1) fun t44 =>
    CallK Try.prog 31 [t44] (fun t45 w46 =>
    S41 w46 ∧ CallK Try.prog 33 [t43, t45] (fun t47 w48 =>
    Rd Try.prog WS.any (sUn .not t47) fun t49 =>
    CondK t49
     (k (.bool false) w48)
     (CallK Try.prog 24 [v1] (fun t50 w51 =>
     CallK Try.prog 26 [t24, t50] (fun t52 w53 =>
     Rd Try.prog (WS.at w53) (sUn .not t52) fun t54 =>
     CondK t54
      (k (.bool false) w53)
      (Rd Try.prog (WS.at w53) (sLoad 37 t21) fun t55 =>
      CallK Try.prog 36 [t55, (.int .i64 1)] (fun t56 w57 =>
      CallK Try.prog 27 [t24, t56] (fun t58 w59 =>
      Rd Try.prog (WS.at w59) (sBin .lss 3 true t58 (.int .i64 0)) fun t60 =>
      GuardK t60 false (fun k w' => k t29 w') (fun t61 w62 =>
      GuardK t60 false (fun k w' => k t16 w') (fun t63 w64 =>
      GuardK t60 false (fun k w' => CallK Try.prog 46 [t61, t63] k w') (fun t65 w66 =>
      GuardK t60 false (fun k w' => Rd Try.prog (WS.at w66) (sUn .not t65) fun v => k v w') (fun t67 w68 =>
      Rd Try.prog (WS.at w68) (sPick t60 (.bool true) t67) fun t69 =>
      GuardK t69 false (fun k w' => k t30 w') (fun t70 w71 =>
      GuardK t69 false (fun k w' => k t17 w') (fun t72 w73 =>
      GuardK t69 false (fun k w' => Rd Try.prog (WS.at w73) (sBin .neq 4 false t70 t72) fun v => k v w') (fun t74 w75 =>
      Rd Try.prog (WS.at w75) (sPick t69 (.bool true) t74) fun t76 =>
      CondK t76
       (k (.bool false) w75)
       (CallK Try.prog 47 [t29, (.int .i64 1)] (fun t77 w78 =>
       CallK Try.prog 48 [t29, (.int .i64 1)] (fun t79 w80 =>
       Rd Try.prog (WS.at w80) (sBin .lss 3 true t79 (.int .i64 0)) fun t81 =>
       CondK t81
        (k (.bool false) w80)
        (Rd Try.prog (WS.at w80) (sBin .neq 3 false t79 t77) fun t82 =>
        CondK t82
         (k (.bool false) w80)
         (Rd Try.prog (WS.at w80) (sLoad 31 t1) fun t83 =>
         CallK Try.prog 31 [t83] (fun t84 w85 =>
         CallK Try.prog 24 [v1] (fun t86 w87 =>
         CallK Try.prog 45 [t84, t86] (fun t88 w89 =>
         Rd Try.prog (WS.at w89) (sExtract t88 0) fun t90 =>
         Rd Try.prog (WS.at w89) (sExtract t88 1) fun t91 =>
         CallK Try.prog 46 [t90, t16] (fun t92 w93 =>
         Rd Try.prog (WS.at w93) (sUn .not t92) fun t94 =>
         GuardK t94 false (fun k w' => k t91 w') (fun t95 w96 =>
         GuardK t94 false (fun k w' => k t17 w') (fun t97 w98 =>
         GuardK t94 false (fun k w' => Rd Try.prog (WS.at w98) (sBin .neq 4 false t95 t97) fun v => k v w') (fun t99 w100 =>
         Rd Try.prog (WS.at w100) (sPick t94 (.bool true) t99) fun t101 =>
         CondK t101
          (k (.bool false) w100)
          (CallK Try.prog 48 [t29, (.int .i64 1)] (fun t102 w103 =>
          Rd Try.prog (WS.at w103) (sBin .lss 3 true t102 (.int .i64 0)) fun t104 =>
          CondK t104
           (k (.bool false) w103)
           (Rd Try.prog (WS.at w103) (sBin .neq 3 false t102 t77) fun t105 =>
           CondK t105
            (k (.bool false) w103)
            (k (.bool true) w103))) w100)) w98) w96) w93) w89) w87) w85) w80))) w78) w75)) w73) w71) w68) w66) w64) w62) w59) w57) w53)) w51) w48)) w46) w39.drew)) w37) w35) w32) w28) w25) w23) w22) w20) w15) w13) w11) w7)) w2)) w
theorem body9 : Try.f9.body = some (bodyOf Try.f9) := by kernel_rfl
theorem same9 (v0 v1 : Value) (k : Value → World → Prop) (w : World) : wpF Try.prog pl9 (bodyOf Try.f9) (bodyQ Try.prog Try.f9.results.toList k) (initF [v0, v1]) w = S9 v0 v1 k w := by kernel_rfl
theorem enter9 {v0 v1 : Value} {k : Value → World → Prop} {w : World} (h : S9 v0 v1 k w) : CallK Try.prog 9 [v0, v1] k w :=
  call_of_wpF (pl := pl9) mixed Try.func9 body9 (by kernel_rfl) (of_decide_eq_true (by kernel_rfl)) (by kernel_rfl) (by kernel_rfl) (same9 v0 v1 k w ▸ h)

/-! loop.example/g00758/laws.FnExactPumpTree -/
def pl15 : Plans := fun i => match i with
  | 13 => ⟨true, [3], .step 0 .held (.step 1 .held (.step 2 .one (.step 3 .last (.step 4 .any (.nil)))))⟩
  | _ => ⟨false, [], .nil⟩
def S15 (v0 v1 v2 : Value) (k : Value → World → Prop) (w : World) : Prop :=
 Do Try.prog (sBox 31 v0) (fun t1 w2 =>
 Rd Try.prog (WS.at w2) (sBuiltin .len #[22] 3 [false] [v1]) fun t3 =>
 Rd Try.prog (WS.at w2) (sBin .gtr 3 true t3 (.int .i64 1048576)) fun t4 =>
 CondK t4
  (k (.bool true) w2)
  (Rd Try.prog (WS.at w2) (sLoad 31 t1) fun t5 =>
  CallK Try.prog 29 [t5, (.int .i64 1048576)] (fun t6 w7 =>
  Rd Try.prog (WS.at w7) (sBin .lss 3 true t6 (.int .i64 0)) fun t8 =>
  CondK t8
   (k (.bool true) w7)
   (Rd Try.prog (WS.at w7) (sLoad 31 t1) fun t9 =>
   CallK Try.prog 31 [t9] (fun t10 w11 =>
   CallK Try.prog 24 [v1] (fun t12 w13 =>
   CallK Try.prog 59 [t10, t12, v2] (fun t14 w15 =>
   Rd Try.prog (WS.at w15) (sExtract t14 0) fun t16 =>
   Rd Try.prog (WS.at w15) (sExtract t14 1) fun t17 =>
   Rd Try.prog (WS.at w15) (sLoad 31 t1) fun t18 =>
   CallK Try.prog 31 [t18] (fun t19 w20 =>
   Do Try.prog (sAlloc 37) (fun t21 w22 =>
   Do Try.prog (sStore 37 t21 t19) (fun _ w23 =>
   CallK Try.prog 24 [v1] (fun t24 w25 =>
   Rd Try.prog (WS.at w25) (sLoad 37 t21) fun t26 =>
   CallK Try.prog 60 [t26, t24, v2] (fun t27 w28 =>
   Rd Try.prog (WS.at w28) (sExtract t27 0) fun t29 =>
   Rd Try.prog (WS.at w28) (sExtract t27 1) fun t30 =>
   CallK Try.prog 26 [t29, t16] (fun t31 w32 =>
   Rd Try.prog (WS.at w32) (sUn .not t31) fun t33 =>
   GuardK t33 false (fun k w' => k t30 w') (fun t34 w35 =>
   GuardK t33 false (fun k w' => k t17 w') (fun t36 w37 =>
   GuardK t33 false (fun k w' => Rd Try.prog (WS.at w37) (sBin .neq 4 false t34 t36) fun v => k v w') (fun t38 w39 =>
   Rd Try.prog (WS.at w39) (sPick t33 (.bool true) t38) fun t40 =>
   CondK t40
    (k (.bool false) w39)
    (∃ S41 : World → Prop, ∃ h42 : S41 w39.drew,
    Rd Try.prog ⟨S41, w39.drew, h42⟩ (sLoad 37 t21) fun t43 =>
    Rd Try.prog ⟨S41, w39.drew, h42⟩ (sLoad 31 t1) fun t44 =>
    CallK Try.prog 31 [t44] (fun t45 w46 =>
    S41 w46 ∧ CallK Try.prog 33 [t43, t45] (fun t47 w48 =>
    Rd Try.prog WS.any (sUn .not t47) fun t49 =>
    CondK t49
     (k (.bool false) w48)
     (CallK Try.prog 24 [v1] (fun t50 w51 =>
     CallK Try.prog 26 [t24, t50] (fun t52 w53 =>
     Rd Try.prog (WS.at w53) (sUn .not t52) fun t54 =>
     CondK t54
      (k (.bool false) w53)
      (Rd Try.prog (WS.at w53) (sLoad 37 t21) fun t55 =>
      CallK Try.prog 36 [t55, (.int .i64 1)] (fun t56 w57 =>
      CallK Try.prog 27 [t24, t56] (fun t58 w59 =>
      Rd Try.prog (WS.at w59) (sBin .lss 3 true t58 (.int .i64 0)) fun t60 =>
      GuardK t60 false (fun k w' => k t29 w') (fun t61 w62 =>
      GuardK t60 false (fun k w' => k t16 w') (fun t63 w64 =>
      GuardK t60 false (fun k w' => CallK Try.prog 26 [t61, t63] k w') (fun t65 w66 =>
      GuardK t60 false (fun k w' => Rd Try.prog (WS.at w66) (sUn .not t65) fun v => k v w') (fun t67 w68 =>
      Rd Try.prog (WS.at w68) (sPick t60 (.bool true) t67) fun t69 =>
      GuardK t69 false (fun k w' => k t30 w') (fun t70 w71 =>
      GuardK t69 false (fun k w' => k t17 w') (fun t72 w73 =>
      GuardK t69 false (fun k w' => Rd Try.prog (WS.at w73) (sBin .neq 4 false t70 t72) fun v => k v w') (fun t74 w75 =>
      Rd Try.prog (WS.at w75) (sPick t69 (.bool true) t74) fun t76 =>
      CondK t76
       (k (.bool false) w75)
       (CallK Try.prog 27 [t29, (.int .i64 1)] (fun t77 w78 =>
       CallK Try.prog 28 [t29, (.int .i64 1)] (fun t79 w80 =>
       Rd Try.prog (WS.at w80) (sBin .lss 3 true t79 (.int .i64 0)) fun t81 =>
       CondK t81
        (k (.bool false) w80)
        (Rd Try.prog (WS.at w80) (sBin .neq 3 false t79 t77) fun t82 =>
        CondK t82
         (k (.bool false) w80)
         (Rd Try.prog (WS.at w80) (sLoad 31 t1) fun t83 =>
         CallK Try.prog 31 [t83] (fun t84 w85 =>
         CallK Try.prog 24 [v1] (fun t86 w87 =>
         CallK Try.prog 60 [t84, t86, v2] (fun t88 w89 =>
         Rd Try.prog (WS.at w89) (sExtract t88 0) fun t90 =>
         Rd Try.prog (WS.at w89) (sExtract t88 1) fun t91 =>
         CallK Try.prog 26 [t90, t16] (fun t92 w93 =>
         Rd Try.prog (WS.at w93) (sUn .not t92) fun t94 =>
         GuardK t94 false (fun k w' => k t91 w') (fun t95 w96 =>
         GuardK t94 false (fun k w' => k t17 w') (fun t97 w98 =>
         GuardK t94 false (fun k w' => Rd Try.prog (WS.at w98) (sBin .neq 4 false t95 t97) fun v => k v w') (fun t99 w100 =>
         Rd Try.prog (WS.at w100) (sPick t94 (.bool true) t99) fun t101 =>
         CondK t101
          (k (.bool false) w100)
          (CallK Try.prog 28 [t29, (.int .i64 1)] (fun t102 w103 =>
          Rd Try.prog (WS.at w103) (sBin .lss 3 true t102 (.int .i64 0)) fun t104 =>
          CondK t104
           (k (.bool false) w103)
           (Rd Try.prog (WS.at w103) (sBin .neq 3 false t102 t77) fun t105 =>
           CondK t105
            (k (.bool false) w103)
            (k (.bool true) w103))) w100)) w98) w96) w93) w89) w87) w85) w80))) w78) w75)) w73) w71) w68) w66) w64) w62) w59) w57) w53)) w51) w48)) w46) w39.drew)) w37) w35) w32) w28) w25) w23) w22) w20) w15) w13) w11) w7)) w2)) w
theorem body15 : Try.f15.body = some (bodyOf Try.f15) := by kernel_rfl
theorem same15 (v0 v1 v2 : Value) (k : Value → World → Prop) (w : World) : wpF Try.prog pl15 (bodyOf Try.f15) (bodyQ Try.prog Try.f15.results.toList k) (initF [v0, v1, v2]) w = S15 v0 v1 v2 k w := by kernel_rfl
theorem enter15 {v0 v1 v2 : Value} {k : Value → World → Prop} {w : World} (h : S15 v0 v1 v2 k w) : CallK Try.prog 15 [v0, v1, v2] k w :=
  call_of_wpF (pl := pl15) mixed Try.func15 body15 (by kernel_rfl) (of_decide_eq_true (by kernel_rfl)) (by kernel_rfl) (by kernel_rfl) (same15 v0 v1 v2 k w ▸ h)

/-! loop.example/g00758/spec.PumpOf -/
def pl42 : Plans := fun _ => ⟨false, [], .nil⟩
def S42 (v0 v1 : Value) (k : Value → World → Prop) (w : World) : Prop :=
 Do Try.prog (sBox 37 v0) (fun t1 w2 =>
 Rd Try.prog (WS.at w2) (sLoad 37 t1) fun t3 =>
 CallK Try.prog 91 [t3, v1] (fun t4 w5 =>
 Rd Try.prog (WS.at w5) (sUn .not t4) fun t6 =>
 CondK t6
  (k (.tuple #[(.slice none 0 0), (.bool false)]) w5)
  (Rd Try.prog (WS.at w5) (sLoad 37 t1) fun t7 =>
  CallK Try.prog 92 [t7, v1] (fun t8 w9 =>
  Rd Try.prog (WS.at w9) (sBuiltin .len #[22] 3 [false] [t8]) fun t10 =>
  Rd Try.prog (WS.at w9) (sBin .gtr 3 true t10 (.int .i64 0)) fun t11 =>
  k (.tuple #[t8, t11]) w9) w5)) w2) w
theorem body42 : Try.f42.body = some (bodyOf Try.f42) := by kernel_rfl
theorem same42 (v0 v1 : Value) (k : Value → World → Prop) (w : World) : wpF Try.prog pl42 (bodyOf Try.f42) (bodyQ Try.prog Try.f42.results.toList k) (initF [v0, v1]) w = S42 v0 v1 k w := by kernel_rfl
theorem enter42 {v0 v1 : Value} {k : Value → World → Prop} {w : World} (h : S42 v0 v1 k w) : CallK Try.prog 42 [v0, v1] k w :=
  call_of_wpF (pl := pl42) mixed Try.func42 body42 (by kernel_rfl) (of_decide_eq_true (by kernel_rfl)) (by kernel_rfl) (by kernel_rfl) (same42 v0 v1 k w ▸ h)

/-! loop.example/g00758/impl.PumpOf -/
def pl43 : Plans := fun i => match i with
  | 7 => ⟨false, [24], .step 0 .any (.step 1 .any (.step 2 .any (.step 3 .held (.step 4 .any (.step 5 .any (.step 6 .any (.step 7 .held (.step 8 .any (.step 9 .any (.step 10 .any (.step 11 .held (.step 12 .any (.step 13 .any (.step 14 .any (.step 15 .held (.step 16 .any (.step 17 .any (.step 18 .any (.step 19 .held (.step 20 .any (.step 21 .any (.step 22 .any (.step 23 .held (.step 24 .last (.step 25 .any (.step 26 .any (.nil)))))))))))))))))))))))))))⟩
  | _ => ⟨false, [], .nil⟩
def S43 (v0 v1 : Value) (k : Value → World → Prop) (w : World) : Prop :=
 Do Try.prog (sBox 37 v0) (fun t1 w2 =>
 Rd Try.prog (WS.at w2) (sLoad 37 t1) fun t3 =>
 CallK Try.prog 93 [t3, v1] (fun t4 w5 =>
 Rd Try.prog (WS.at w5) (sExtract t4 0) fun t6 =>
 Rd Try.prog (WS.at w5) (sExtract t4 1) fun t7 =>
 Rd Try.prog (WS.at w5) (sExtract t4 2) fun t8 =>
 Rd Try.prog (WS.at w5) (sUn .not t8) fun t9 =>
 CondK t9
  (k (.tuple #[(.slice none 0 0), (.bool false)]) w5)
  (CallK Try.prog 94 [t6] (fun t10 w11 =>
  Rd Try.prog (WS.at w11) (sExtract t10 0) fun t12 =>
  Rd Try.prog (WS.at w11) (sExtract t10 1) fun t13 =>
  Rd Try.prog (WS.at w11) (sBin .eql 86 true t12 (.pointer none)) fun t14 =>
  CondK t14
   (k (.tuple #[(.slice none 0 0), (.bool false)]) w11)
   (Rd Try.prog WS.any (sNilCheck t12) fun t15 =>
   Rd Try.prog WS.any (sFieldAddr 93 t15 2) fun t16 =>
   Rd Try.prog (WS.at w11.drew) (sLoad 3 t16) fun t17 =>
   Rd Try.prog WS.any (sNilCheck t13) fun t18 =>
   Rd Try.prog WS.any (sFieldAddr 93 t18 2) fun t19 =>
   Rd Try.prog (WS.at w11.drew) (sLoad 3 t19) fun t20 =>
   Rd Try.prog WS.any (sNilCheck t12) fun t21 =>
   Rd Try.prog WS.any (sFieldAddr 93 t21 4) fun t22 =>
   Rd Try.prog (WS.at w11.drew) (sLoad 3 t22) fun t23 =>
   Rd Try.prog WS.any (sNilCheck t13) fun t24 =>
   Rd Try.prog WS.any (sFieldAddr 93 t24 4) fun t25 =>
   Rd Try.prog (WS.at w11.drew) (sLoad 3 t25) fun t26 =>
   Rd Try.prog WS.any (sNilCheck t13) fun t27 =>
   Rd Try.prog WS.any (sFieldAddr 93 t27 5) fun t28 =>
   Rd Try.prog (WS.at w11.drew) (sLoad 3 t28) fun t29 =>
   Rd Try.prog WS.any (sNilCheck t12) fun t30 =>
   Rd Try.prog WS.any (sFieldAddr 93 t30 5) fun t31 =>
   Rd Try.prog (WS.at w11.drew) (sLoad 3 t31) fun t32 =>
   Do Try.prog (sBuildSlice 22 6 [(0, t17), (1, t20), (2, t23), (3, t26), (4, t29), (5, t32)]) (fun t33 w34 =>
   k (.tuple #[t33, (.bool true)]) w34) w11.drew)) w5)) w2) w
theorem body43 : Try.f43.body = some (bodyOf Try.f43) := by kernel_rfl
theorem same43 (v0 v1 : Value) (k : Value → World → Prop) (w : World) : wpF Try.prog pl43 (bodyOf Try.f43) (bodyQ Try.prog Try.f43.results.toList k) (initF [v0, v1]) w = S43 v0 v1 k w := by kernel_rfl
theorem enter43 {v0 v1 : Value} {k : Value → World → Prop} {w : World} (h : S43 v0 v1 k w) : CallK Try.prog 43 [v0, v1] k w :=
  call_of_wpF (pl := pl43) mixed Try.func43 body43 (by kernel_rfl) (of_decide_eq_true (by kernel_rfl)) (by kernel_rfl) (by kernel_rfl) (same43 v0 v1 k w ▸ h)

/-! loop.example/g00758/spec.PathIn -/
def pl44 : Plans := fun _ => ⟨false, [], .nil⟩
def S44 (v0 v1 : Value) (k : Value → World → Prop) (w : World) : Prop :=
 Do Try.prog (sBox 37 v0) (fun t1 w2 =>
 Rd Try.prog (WS.at w2) (sLoad 37 t1) fun t3 =>
 CallK Try.prog 91 [t3, v1] (fun t4 w5 =>
 Rd Try.prog (WS.at w5) (sUn .not t4) fun t6 =>
 CondK t6
  (k (.tuple #[(.slice none 0 0), (.bool false)]) w5)
  (Rd Try.prog (WS.at w5) (sLoad 37 t1) fun t7 =>
  CallK Try.prog 95 [t7, v1, (.int .i64 0), (.int .i64 0)] (fun t8 w9 =>
  Rd Try.prog (WS.at w9) (sExtract t8 0) fun t10 =>
  Rd Try.prog (WS.at w9) (sExtract t8 1) fun t11 =>
  k (.tuple #[t10, (.bool true)]) w9) w5)) w2) w
theorem body44 : Try.f44.body = some (bodyOf Try.f44) := by kernel_rfl
theorem same44 (v0 v1 : Value) (k : Value → World → Prop) (w : World) : wpF Try.prog pl44 (bodyOf Try.f44) (bodyQ Try.prog Try.f44.results.toList k) (initF [v0, v1]) w = S44 v0 v1 k w := by kernel_rfl
theorem enter44 {v0 v1 : Value} {k : Value → World → Prop} {w : World} (h : S44 v0 v1 k w) : CallK Try.prog 44 [v0, v1] k w :=
  call_of_wpF (pl := pl44) mixed Try.func44 body44 (by kernel_rfl) (of_decide_eq_true (by kernel_rfl)) (by kernel_rfl) (by kernel_rfl) (same44 v0 v1 k w ▸ h)

/-! loop.example/g00758/impl.PathIn -/
def pl45 : Plans := fun i => match i with
  | 8 => ⟨false, [17, 18, 19], .step 0 .any (.step 1 .any (.step 2 .any (.step 3 .any (.step 4 .held (.step 5 .any (.step 6 .any (.step 7 .any (.step 8 .held (.step 9 .any (.step 10 .any (.step 11 .any (.step 12 .held (.step 13 .any (.step 14 .any (.step 15 .any (.step 16 .held (.step 17 .last (.step 18 .last (.step 19 .last (.step 20 .any (.nil)))))))))))))))))))))⟩
  | _ => ⟨false, [], .nil⟩
def S45 (v0 v1 : Value) (k : Value → World → Prop) (w : World) : Prop :=
 Do Try.prog (sBox 37 v0) (fun t1 w2 =>
 Rd Try.prog (WS.at w2) (sLoad 37 t1) fun t3 =>
 CallK Try.prog 93 [t3, v1] (fun t4 w5 =>
 Rd Try.prog (WS.at w5) (sExtract t4 0) fun t6 =>
 Rd Try.prog (WS.at w5) (sExtract t4 1) fun t7 =>
 Rd Try.prog (WS.at w5) (sExtract t4 2) fun t8 =>
 Rd Try.prog (WS.at w5) (sUn .not t8) fun t9 =>
 CondK t9
  (k (.tuple #[(.slice none 0 0), (.bool false)]) w5)
  (Do Try.prog (sBuildSlice 48 0 []) (fun t10 w11 =>
  CallK Try.prog 96 [t6] (fun t12 w13 =>
  Rd Try.prog (WS.at w13) (sBuiltin .len #[91] 3 [false] [t12]) fun t14 =>
  LoopF [26, 27, 28, 11, 29, 30, 31, 32, 33, 34, 35, 36, 37, 38, 39, 40, 41, 42, 43, 44, 45, 46, 47, 48, 9, 49, 25] (fun Q15 f16 w17 =>
   Rd Try.prog (WS.at w17) (sBin .lss 3 false (f16 25) (f16 24)) fun t18 =>
   CondK t18
    (Rd Try.prog (WS.at w17) (sIndexAddr 91 (f16 23) (f16 25)) fun t19 =>
    Rd Try.prog (WS.at w17) (sLoad 86 t19) fun t20 =>
    Rd Try.prog WS.any (sNilCheck t20) fun t21 =>
    Rd Try.prog WS.any (sFieldAddr 93 t21 0) fun t22 =>
    Rd Try.prog (WS.at w17.drew) (sLoad 3 t22) fun t23 =>
    Rd Try.prog WS.any (sNilCheck t20) fun t24 =>
    Rd Try.prog WS.any (sFieldAddr 93 t24 3) fun t25 =>
    Rd Try.prog (WS.at w17.drew) (sLoad 3 t25) fun t26 =>
    Rd Try.prog WS.any (sNilCheck t20) fun t27 =>
    Rd Try.prog WS.any (sFieldAddr 93 t27 4) fun t28 =>
    Rd Try.prog (WS.at w17.drew) (sLoad 3 t28) fun t29 =>
    Rd Try.prog WS.any (sNilCheck t20) fun t30 =>
    Rd Try.prog WS.any (sFieldAddr 93 t30 5) fun t31 =>
    Rd Try.prog (WS.at w17.drew) (sLoad 3 t31) fun t32 =>
    Do Try.prog (sBuildSlice 22 4 [(0, t23), (1, t26), (2, t29), (3, t32)]) (fun t33 w34 =>
    Do Try.prog (sBuildSlice 48 1 [(0, t33)]) (fun t35 w36 =>
    Do Try.prog (sBuiltin .append #[48, 48] 48 [false, false] [(f16 9), t35]) (fun t37 w38 =>
    Rd Try.prog (WS.at w38) (sBin .add 3 true (f16 25) (.int .i64 1)) fun t39 =>
    Q15 .normal (F.upd (F.upd (F.upd (F.upd (F.upd (F.upd (F.upd (F.upd (F.upd (F.upd (F.upd (F.upd (F.upd (F.upd (F.upd (F.upd (F.upd (F.upd (F.upd (F.upd (F.upd (F.upd (F.upd (F.upd (F.upd (F.upd (F.upd f16 26 t18) 27 t19) 28 t20) 11 t20) 29 (f16 9)) 30 t20) 31 t21) 32 t22) 33 t23) 34 t20) 35 t24) 36 t25) 37 t26) 38 t20) 39 t27) 40 t28) 41 t29) 42 t20) 43 t30) 44 t31) 45 t32) 46 t33) 47 t35) 48 t37) 9 t37) 49 t39) 25 t39) w38) w36) w34) w17.drew)
    (Q15 (.exit 0) (F.upd f16 26 t18) w17))
   (blockQ 0 (seqQ (fun f40 w41 =>
  k (.tuple #[(f40 9), (.bool true)]) w41) (bodyQ Try.prog [.tmp 4, .tmp 5] k)))
   (F.upd (F.upd (F.upd (F.upd (F.upd (F.upd (F.upd (F.upd (F.upd (F.upd (F.upd (F.upd (F.upd (F.upd (F.upd (F.upd (F.upd (F.upd (F.upd (F.upd (F.upd (initF [v0, v1]) 2 t1) 4 (.slice none 0 0)) 5 (.bool false)) 13 t3) 14 v1) 15 t4) 12 t4) 16 t6) 17 t7) 18 t8) 6 t6) 7 t7) 8 t8) 19 t8) 20 t9) 21 t10) 9 t10) 22 t6) 23 t12) 24 t14) 25 (.int .i64 0)) w13) w11) w5)) w2) w
theorem body45 : Try.f45.body = some (bodyOf Try.f45) := by kernel_rfl
theorem same45 (v0 v1 : Value) (k : Value → World → Prop) (w : World) : wpF Try.prog pl45 (bodyOf Try.f45) (bodyQ Try.prog Try.f45.results.toList k) (initF [v0, v1]) w = S45 v0 v1 k w := by kernel_rfl
theorem enter45 {v0 v1 : Value} {k : Value → World → Prop} {w : World} (h : S45 v0 v1 k w) : CallK Try.prog 45 [v0, v1] k w :=
  call_of_wpF (pl := pl45) mixed Try.func45 body45 (by kernel_rfl) (of_decide_eq_true (by kernel_rfl)) (by kernel_rfl) (by kernel_rfl) (same45 v0 v1 k w ▸ h)

/-! loop.example/g00758/laws.eqIntSS -/
def pl46 : Plans := fun i => match i with
  | 6 => ⟨false, [8], .step 0 .any (.step 1 .any (.step 2 .any (.step 3 .held (.step 4 .any (.step 5 .any (.step 6 .any (.step 7 .held (.step 8 .last (.step 9 .any (.nil))))))))))⟩
  | _ => ⟨false, [], .nil⟩
def S46 (v0 v1 : Value) (k : Value → World → Prop) (w : World) : Prop :=
 Rd Try.prog (WS.at w) (sBuiltin .len #[48] 3 [false] [v0]) fun t1 =>
 Rd Try.prog (WS.at w) (sBuiltin .len #[48] 3 [false] [v1]) fun t2 =>
 Rd Try.prog (WS.at w) (sBin .neq 3 false t1 t2) fun t3 =>
 CondK t3
  (k (.bool false) w)
  (LoopF [11, 12, 13, 14, 17, 18, 19, 20, 21, 22, 23, 24, 25, 26, 4, 15, 16, 5] (fun Q4 f5 w6 =>
   Rd Try.prog (WS.at w6) (sBuiltin .len #[48] 3 [false] [(f5 0)]) fun t7 =>
   Rd Try.prog (WS.at w6) (sBin .lss 3 false (f5 5) t7) fun t8 =>
   CondK t8
    (Rd Try.prog WS.any (sIndexAddr 48 (f5 0) (f5 5)) fun t9 =>
    Rd Try.prog (WS.at w6.drew) (sLoad 22 t9) fun t10 =>
    Rd Try.prog WS.any (sIndexAddr 48 (f5 1) (f5 5)) fun t11 =>
    Rd Try.prog (WS.at w6.drew) (sLoad 22 t11) fun t12 =>
    CallK Try.prog 26 [t10, t12] (fun t13 w14 =>
    Rd Try.prog WS.any (sUn .not t13) fun t15 =>
    CondK t15
     (Q4 .ret (F.upd (F.upd (F.upd (F.upd (F.upd (F.upd (F.upd (F.upd (F.upd (F.upd (F.upd (F.upd (F.upd (F.upd (F.upd f5 11 (f5 5)) 12 (f5 0)) 13 t7) 14 t8) 17 (f5 0)) 18 (f5 5)) 19 t9) 20 t10) 21 (f5 1)) 22 (f5 5)) 23 t11) 24 t12) 25 t13) 26 t15) 4 (.bool false)) w14)
     (Rd Try.prog (WS.at w14) (sBin .add 3 true (f5 5) (.int .i64 1)) fun t16 =>
     Q4 .normal (F.upd (F.upd (F.upd (F.upd (F.upd (F.upd (F.upd (F.upd (F.upd (F.upd (F.upd (F.upd (F.upd (F.upd (F.upd (F.upd (F.upd f5 11 (f5 5)) 12 (f5 0)) 13 t7) 14 t8) 17 (f5 0)) 18 (f5 5)) 19 t9) 20 t10) 21 (f5 1)) 22 (f5 5)) 23 t11) 24 t12) 25 t13) 26 t15) 15 (f5 5)) 16 t16) 5 t16) w14)) w6.drew)
    (Q4 (.exit 0) (F.upd (F.upd (F.upd (F.upd f5 11 (f5 5)) 12 (f5 0)) 13 t7) 14 t8) w6))
   (blockQ 0 (seqQ (fun f17 w18 =>
  k (.bool true) w18) (bodyQ Try.prog [.tmp 4] k)))
   (F.upd (F.upd (F.upd (F.upd (F.upd (F.upd (F.upd (initF [v0, v1]) 4 (.bool false)) 6 v0) 7 t1) 8 v1) 9 t2) 10 t3) 5 (.int .i64 0)) w)
theorem body46 : Try.f46.body = some (bodyOf Try.f46) := by kernel_rfl
theorem same46 (v0 v1 : Value) (k : Value → World → Prop) (w : World) : wpF Try.prog pl46 (bodyOf Try.f46) (bodyQ Try.prog Try.f46.results.toList k) (initF [v0, v1]) w = S46 v0 v1 k w := by kernel_rfl
theorem enter46 {v0 v1 : Value} {k : Value → World → Prop} {w : World} (h : S46 v0 v1 k w) : CallK Try.prog 46 [v0, v1] k w :=
  call_of_wpF (pl := pl46) mixed Try.func46 body46 (by kernel_rfl) (of_decide_eq_true (by kernel_rfl)) (by kernel_rfl) (by kernel_rfl) (same46 v0 v1 k w ▸ h)

/-! loop.example/g00758/laws.markIntSS -/
def pl47 : Plans := fun _ => ⟨false, [], .nil⟩
def S47 (v0 v1 : Value) (k : Value → World → Prop) (w : World) : Prop :=
 LoopF [6, 7, 8, 9, 12, 13, 14, 15, 16, 17, 1, 10, 11, 5] (fun Q1 f2 w3 =>
  Rd Try.prog (WS.at w3) (sBuiltin .len #[48] 3 [false] [(f2 0)]) fun t4 =>
  Rd Try.prog (WS.at w3) (sBin .lss 3 false (f2 5) t4) fun t5 =>
  CondK t5
   (Rd Try.prog (WS.at w3) (sIndexAddr 48 (f2 0) (f2 5)) fun t6 =>
   Rd Try.prog (WS.at w3) (sLoad 22 t6) fun t7 =>
   CallK Try.prog 27 [t7, (f2 1)] (fun t8 w9 =>
   Rd Try.prog (WS.at w9) (sBin .add 3 true (f2 5) (.int .i64 1)) fun t10 =>
   Q1 .normal (F.upd (F.upd (F.upd (F.upd (F.upd (F.upd (F.upd (F.upd (F.upd (F.upd (F.upd (F.upd (F.upd (F.upd f2 6 (f2 5)) 7 (f2 0)) 8 t4) 9 t5) 12 (f2 0)) 13 (f2 5)) 14 t6) 15 t7) 16 (f2 1)) 17 t8) 1 t8) 10 (f2 5)) 11 t10) 5 t10) w9) w3)
   (Q1 (.exit 0) (F.upd (F.upd (F.upd (F.upd f2 6 (f2 5)) 7 (f2 0)) 8 t4) 9 t5) w3))
  (blockQ 0 (seqQ (fun f11 w12 =>
 k (f11 1) w12) (bodyQ Try.prog [.tmp 4] k)))
  (F.upd (F.upd (initF [v0, v1]) 4 (.int .i64 0)) 5 (.int .i64 0)) w
theorem body47 : Try.f47.body = some (bodyOf Try.f47) := by kernel_rfl
theorem same47 (v0 v1 : Value) (k : Value → World → Prop) (w : World) : wpF Try.prog pl47 (bodyOf Try.f47) (bodyQ Try.prog Try.f47.results.toList k) (initF [v0, v1]) w = S47 v0 v1 k w := by kernel_rfl
theorem enter47 {v0 v1 : Value} {k : Value → World → Prop} {w : World} (h : S47 v0 v1 k w) : CallK Try.prog 47 [v0, v1] k w :=
  call_of_wpF (pl := pl47) mixed Try.func47 body47 (by kernel_rfl) (of_decide_eq_true (by kernel_rfl)) (by kernel_rfl) (by kernel_rfl) (same47 v0 v1 k w ▸ h)

/-! loop.example/g00758/laws.heldIntSS -/
def pl48 : Plans := fun _ => ⟨false, [], .nil⟩
def S48 (v0 v1 : Value) (k : Value → World → Prop) (w : World) : Prop :=
 LoopF [6, 7, 8, 9, 12, 13, 14, 15, 16, 17, 1, 18, 19, 4, 10, 11, 5] (fun Q1 f2 w3 =>
  Rd Try.prog (WS.at w3) (sBuiltin .len #[48] 3 [false] [(f2 0)]) fun t4 =>
  Rd Try.prog (WS.at w3) (sBin .lss 3 false (f2 5) t4) fun t5 =>
  CondK t5
   (Rd Try.prog (WS.at w3) (sIndexAddr 48 (f2 0) (f2 5)) fun t6 =>
   Rd Try.prog (WS.at w3) (sLoad 22 t6) fun t7 =>
   CallK Try.prog 28 [t7, (f2 1)] (fun t8 w9 =>
   Rd Try.prog (WS.at w9) (sBin .lss 3 true t8 (.int .i64 0)) fun t10 =>
   CondK t10
    (Q1 .ret (F.upd (F.upd (F.upd (F.upd (F.upd (F.upd (F.upd (F.upd (F.upd (F.upd (F.upd (F.upd (F.upd (F.upd f2 6 (f2 5)) 7 (f2 0)) 8 t4) 9 t5) 12 (f2 0)) 13 (f2 5)) 14 t6) 15 t7) 16 (f2 1)) 17 t8) 1 t8) 18 t8) 19 t10) 4 (.int .i64 (-1))) w9)
    (Rd Try.prog (WS.at w9) (sBin .add 3 true (f2 5) (.int .i64 1)) fun t11 =>
    Q1 .normal (F.upd (F.upd (F.upd (F.upd (F.upd (F.upd (F.upd (F.upd (F.upd (F.upd (F.upd (F.upd (F.upd (F.upd (F.upd (F.upd f2 6 (f2 5)) 7 (f2 0)) 8 t4) 9 t5) 12 (f2 0)) 13 (f2 5)) 14 t6) 15 t7) 16 (f2 1)) 17 t8) 1 t8) 18 t8) 19 t10) 10 (f2 5)) 11 t11) 5 t11) w9)) w3)
   (Q1 (.exit 0) (F.upd (F.upd (F.upd (F.upd f2 6 (f2 5)) 7 (f2 0)) 8 t4) 9 t5) w3))
  (blockQ 0 (seqQ (fun f12 w13 =>
 k (f12 1) w13) (bodyQ Try.prog [.tmp 4] k)))
  (F.upd (F.upd (initF [v0, v1]) 4 (.int .i64 0)) 5 (.int .i64 0)) w
theorem body48 : Try.f48.body = some (bodyOf Try.f48) := by kernel_rfl
theorem same48 (v0 v1 : Value) (k : Value → World → Prop) (w : World) : wpF Try.prog pl48 (bodyOf Try.f48) (bodyQ Try.prog Try.f48.results.toList k) (initF [v0, v1]) w = S48 v0 v1 k w := by kernel_rfl
theorem enter48 {v0 v1 : Value} {k : Value → World → Prop} {w : World} (h : S48 v0 v1 k w) : CallK Try.prog 48 [v0, v1] k w :=
  call_of_wpF (pl := pl48) mixed Try.func48 body48 (by kernel_rfl) (of_decide_eq_true (by kernel_rfl)) (by kernel_rfl) (by kernel_rfl) (same48 v0 v1 k w ▸ h)

/-! loop.example/g00758/spec.PumpTree -/
def pl59 : Plans := fun i => match i with
  | 7 => ⟨false, [], .step 0 .any (.step 1 .any (.step 2 .held (.step 3 .any (.step 4 .any (.step 5 .held (.step 6 .any (.step 7 .any (.nil))))))))⟩
  | 8 => ⟨false, [14], .step 0 .any (.step 1 .any (.step 2 .any (.step 3 .any (.step 4 .any (.step 5 .held (.step 6 .any (.step 7 .held (.step 8 .any (.step 9 .any (.step 10 .any (.step 11 .held (.step 12 .any (.step 13 .held (.step 14 .last (.step 15 .any (.nil))))))))))))))))⟩
  | _ => ⟨false, [], .nil⟩
def S59 (v0 v1 v2 : Value) (k : Value → World → Prop) (w : World) : Prop :=
 Do Try.prog (sBox 37 v0) (fun t1 w2 =>
 Rd Try.prog (WS.at w2) (sLoad 37 t1) fun t3 =>
 CallK Try.prog 91 [t3, v1] (fun t4 w5 =>
 Rd Try.prog (WS.at w5) (sUn .not t4) fun t6 =>
 GuardK t6 false (fun k w' => k v2 w') (fun t7 w8 =>
 GuardK t6 false (fun k w' => CallK Try.prog 77 [t7, (.int .i64 0), (.int .i64 4)] k w') (fun t9 w10 =>
 GuardK t6 false (fun k w' => Rd Try.prog (WS.at w10) (sUn .not t9) fun v => k v w') (fun t11 w12 =>
 Rd Try.prog (WS.at w12) (sPick t6 (.bool true) t11) fun t13 =>
 CondK t13
  (k (.tuple #[(.slice none 0 0), (.bool false)]) w12)
  (Rd Try.prog (WS.at w12) (sLoad 37 t1) fun t14 =>
  CallK Try.prog 92 [t14, v1] (fun t15 w16 =>
  Rd Try.prog (WS.at w16) (sBuiltin .len #[22] 3 [false] [t15]) fun t17 =>
  Rd Try.prog (WS.at w16) (sBin .eql 3 true t17 (.int .i64 0)) fun t18 =>
  CondK t18
   (k (.tuple #[(.slice none 0 0), (.bool false)]) w16)
   (Rd Try.prog (WS.at w16) (sLoad 37 t1) fun t19 =>
   CallK Try.prog 95 [t19, v1, (.int .i64 0), (.int .i64 0)] (fun t20 w21 =>
   Rd Try.prog (WS.at w21) (sExtract t20 0) fun t22 =>
   Rd Try.prog (WS.at w21) (sExtract t20 1) fun t23 =>
   Rd Try.prog WS.any (sIndexAddr 22 t15 (.int .i64 0)) fun t24 =>
   Rd Try.prog (WS.at w21.drew) (sLoad 3 t24) fun t25 =>
   Rd Try.prog WS.any (sIndexAddr 22 t15 (.int .i64 1)) fun t26 =>
   Rd Try.prog (WS.at w21.drew) (sLoad 3 t26) fun t27 =>
   Rd Try.prog WS.any (sIndexAddr 48 t22 t27) fun t28 =>
   Rd Try.prog (WS.at w21.drew.drew) (sLoad 22 t28) fun t29 =>
   Rd Try.prog WS.any (sIndexAddr 22 t29 (.int .i64 1)) fun t30 =>
   Rd Try.prog (WS.at w21.drew.drew) (sLoad 3 t30) fun t31 =>
   Rd Try.prog WS.any (sIndexAddr 48 t22 t25) fun t32 =>
   Rd Try.prog (WS.at w21.drew.drew) (sLoad 22 t32) fun t33 =>
   Rd Try.prog WS.any (sIndexAddr 22 t33 (.int .i64 1)) fun t34 =>
   Rd Try.prog (WS.at w21.drew.drew) (sLoad 3 t34) fun t35 =>
   Do Try.prog (sBuildSlice 22 4 [(0, t25), (1, t27), (2, t31), (3, t35)]) (fun t36 w37 =>
   CallK Try.prog 78 [v1, t36, v2] (fun t38 w39 =>
   Rd Try.prog (WS.at w39) (sBuiltin .len #[22] 3 [false] [t38]) fun t40 =>
   Rd Try.prog (WS.at w39) (sBin .gtr 3 true t40 (.int .i64 60)) fun t41 =>
   CondK t41
    (k (.tuple #[(.slice none 0 0), (.bool false)]) w39)
    (k (.tuple #[t38, (.bool true)]) w39)) w37) w21.drew.drew) w16)) w12)) w10) w8) w5) w2) w
theorem body59 : Try.f59.body = some (bodyOf Try.f59) := by kernel_rfl
theorem same59 (v0 v1 v2 : Value) (k : Value → World → Prop) (w : World) : wpF Try.prog pl59 (bodyOf Try.f59) (bodyQ Try.prog Try.f59.results.toList k) (initF [v0, v1, v2]) w = S59 v0 v1 v2 k w := by kernel_rfl
theorem enter59 {v0 v1 v2 : Value} {k : Value → World → Prop} {w : World} (h : S59 v0 v1 v2 k w) : CallK Try.prog 59 [v0, v1, v2] k w :=
  call_of_wpF (pl := pl59) mixed Try.func59 body59 (by kernel_rfl) (of_decide_eq_true (by kernel_rfl)) (by kernel_rfl) (by kernel_rfl) (same59 v0 v1 v2 k w ▸ h)

/-! loop.example/g00758/impl.PumpTree -/
def pl60 : Plans := fun i => match i with
  | 10 => ⟨false, [11], .step 0 .any (.step 1 .any (.step 2 .any (.step 3 .any (.step 4 .any (.step 5 .held (.step 6 .any (.step 7 .any (.step 8 .any (.step 9 .held (.step 10 .any (.step 11 .last (.step 12 .any (.nil)))))))))))))⟩
  | 12 => ⟨false, [11], .step 0 .any (.step 1 .any (.step 2 .any (.step 3 .any (.step 4 .any (.step 5 .held (.step 6 .any (.step 7 .any (.step 8 .any (.step 9 .held (.step 10 .any (.step 11 .last (.step 12 .any (.nil)))))))))))))⟩
  | 15 => ⟨false, [11], .step 0 .any (.step 1 .any (.step 2 .any (.step 3 .any (.step 4 .any (.step 5 .held (.step 6 .any (.step 7 .any (.step 8 .any (.step 9 .held (.step 10 .any (.step 11 .last (.step 12 .any (.nil)))))))))))))⟩
  | _ => ⟨false, [], .nil⟩
def S60 (v0 v1 v2 : Value) (k : Value → World → Prop) (w : World) : Prop :=
 Do Try.prog (sBox 37 v0) (fun t1 w2 =>
 Rd Try.prog (WS.at w2) (sLoad 37 t1) fun t3 =>
 CallK Try.prog 93 [t3, v1] (fun t4 w5 =>
 Rd Try.prog (WS.at w5) (sExtract t4 0) fun t6 =>
 Rd Try.prog (WS.at w5) (sExtract t4 1) fun t7 =>
 Rd Try.prog (WS.at w5) (sExtract t4 2) fun t8 =>
 Rd Try.prog (WS.at w5) (sUn .not t8) fun t9 =>
 GuardK t9 false (fun k w' => k v2 w') (fun t10 w11 =>
 GuardK t9 false (fun k w' => CallK Try.prog 103 [t10, (.int .i64 0), (.int .i64 4)] k w') (fun t12 w13 =>
 GuardK t9 false (fun k w' => Rd Try.prog (WS.at w13) (sUn .not t12) fun v => k v w') (fun t14 w15 =>
 Rd Try.prog (WS.at w15) (sPick t9 (.bool true) t14) fun t16 =>
 CondK t16
  (k (.tuple #[(.slice none 0 0), (.bool false)]) w15)
  (CallK Try.prog 94 [t6] (fun t17 w18 =>
  Rd Try.prog (WS.at w18) (sExtract t17 0) fun t19 =>
  Rd Try.prog (WS.at w18) (sExtract t17 1) fun t20 =>
  Rd Try.prog (WS.at w18) (sBin .eql 86 true t19 (.pointer none)) fun t21 =>
  CondK t21
   (k (.tuple #[(.slice none 0 0), (.bool false)]) w18)
   (Do Try.prog (sBuildSlice 22 0 []) (fun t22 w23 =>
   Rd Try.prog (WS.at w23) (sNilCheck t19) fun t24 =>
   Rd Try.prog (WS.at w23) (sFieldAddr 93 t24 2) fun t25 =>
   Rd Try.prog (WS.at w23) (sLoad 3 t25) fun t26 =>
   Rd Try.prog (WS.at w23) (sSlice 22 v1 none (some t26) none) fun t27 =>
   Do Try.prog (sBuiltin .append #[22, 22] 22 [false, false] [t22, t27]) (fun t28 w29 =>
   LoopF [45, 46, 47, 48, 49, 50, 51, 52, 53, 54, 55, 56, 57, 13, 58, 44] (fun Q30 f31 w32 =>
    Rd Try.prog (WS.at w32) (sBin .lss 3 false (f31 44) (f31 43)) fun t33 =>
    CondK t33
     (Rd Try.prog WS.any (sNilCheck (f31 11)) fun t34 =>
     Rd Try.prog WS.any (sFieldAddr 93 t34 2) fun t35 =>
     Rd Try.prog (WS.at w32.drew) (sLoad 3 t35) fun t36 =>
     Rd Try.prog WS.any (sNilCheck (f31 12)) fun t37 =>
     Rd Try.prog WS.any (sFieldAddr 93 t37 2) fun t38 =>
     Rd Try.prog (WS.at w32.drew) (sLoad 3 t38) fun t39 =>
     Rd Try.prog WS.any (sSlice 22 (f31 1) (some t36) (some t39) none) fun t40 =>
     Do Try.prog (sBuiltin .append #[22, 22] 22 [false, false] [(f31 13), t40]) (fun t41 w42 =>
     Rd Try.prog (WS.at w42) (sBin .add 3 true (f31 44) (.int .i64 1)) fun t43 =>
     Q30 .normal (F.upd (F.upd (F.upd (F.upd (F.upd (F.upd (F.upd (F.upd (F.upd (F.upd (F.upd (F.upd (F.upd (F.upd (F.upd (F.upd f31 45 t33) 46 (f31 13)) 47 (f31 1)) 48 (f31 11)) 49 t34) 50 t35) 51 t36) 52 (f31 12)) 53 t37) 54 t38) 55 t39) 56 t40) 57 t41) 13 t41) 58 t43) 44 t43) w42) w32.drew)
     (Q30 (.exit 0) (F.upd f31 45 t33) w32))
    (blockQ 0 (seqQ (fun f44 w45 =>
   Rd Try.prog WS.any (sNilCheck (f44 12)) fun t46 =>
   Rd Try.prog WS.any (sFieldAddr 93 t46 2) fun t47 =>
   Rd Try.prog (WS.at w45.drew) (sLoad 3 t47) fun t48 =>
   Rd Try.prog WS.any (sNilCheck (f44 12)) fun t49 =>
   Rd Try.prog WS.any (sFieldAddr 93 t49 3) fun t50 =>
   Rd Try.prog (WS.at w45.drew) (sLoad 3 t50) fun t51 =>
   Rd Try.prog WS.any (sSlice 22 (f44 1) (some t48) (some t51) none) fun t52 =>
   Do Try.prog (sBuiltin .append #[22, 22] 22 [false, false] [(f44 13), t52]) (fun t53 w54 =>
   LoopF [73, 74, 75, 76, 77, 78, 79, 80, 81, 82, 83, 84, 85, 13, 86, 72] (fun Q55 f56 w57 =>
    Rd Try.prog (WS.at w57) (sBin .lss 3 false (f56 72) (f56 71)) fun t58 =>
    CondK t58
     (Rd Try.prog WS.any (sNilCheck (f56 12)) fun t59 =>
     Rd Try.prog WS.any (sFieldAddr 93 t59 3) fun t60 =>
     Rd Try.prog (WS.at w57.drew) (sLoad 3 t60) fun t61 =>
     Rd Try.prog WS.any (sNilCheck (f56 11)) fun t62 =>
     Rd Try.prog WS.any (sFieldAddr 93 t62 3) fun t63 =>
     Rd Try.prog (WS.at w57.drew) (sLoad 3 t63) fun t64 =>
     Rd Try.prog WS.any (sSlice 22 (f56 1) (some t61) (some t64) none) fun t65 =>
     Do Try.prog (sBuiltin .append #[22, 22] 22 [false, false] [(f56 13), t65]) (fun t66 w67 =>
     Rd Try.prog (WS.at w67) (sBin .add 3 true (f56 72) (.int .i64 1)) fun t68 =>
     Q55 .normal (F.upd (F.upd (F.upd (F.upd (F.upd (F.upd (F.upd (F.upd (F.upd (F.upd (F.upd (F.upd (F.upd (F.upd (F.upd (F.upd f56 73 t58) 74 (f56 13)) 75 (f56 1)) 76 (f56 12)) 77 t59) 78 t60) 79 t61) 80 (f56 11)) 81 t62) 82 t63) 83 t64) 84 t65) 85 t66) 13 t66) 86 t68) 72 t68) w67) w57.drew)
     (Q55 (.exit 2) (F.upd f56 73 t58) w57))
    (blockQ 2 (seqQ (fun f69 w70 =>
   Rd Try.prog (WS.at w70) (sNilCheck (f69 11)) fun t71 =>
   Rd Try.prog (WS.at w70) (sFieldAddr 93 t71 3) fun t72 =>
   Rd Try.prog (WS.at w70) (sLoad 3 t72) fun t73 =>
   Rd Try.prog (WS.at w70) (sSlice 22 (f69 1) (some t73) none none) fun t74 =>
   Do Try.prog (sBuiltin .append #[22, 22] 22 [false, false] [(f69 13), t74]) (fun t75 w76 =>
   Rd Try.prog (WS.at w76) (sBuiltin .len #[22] 3 [false] [t75]) fun t77 =>
   Rd Try.prog (WS.at w76) (sBin .gtr 3 true t77 (.int .i64 60)) fun t78 =>
   CondK t78
    (k (.tuple #[(.slice none 0 0), (.bool false)]) w76)
    (k (.tuple #[t75, (.bool true)]) w76)) w70) (bodyQ Try.prog [.tmp 6, .tmp 7] k)))
    (F.upd (F.upd (F.upd (F.upd (F.upd (F.upd (F.upd (F.upd (F.upd (F.upd (F.upd (F.upd (F.upd (F.upd (F.upd f44 59 (f44 13)) 60 (f44 1)) 61 (f44 12)) 62 t46) 63 t47) 64 t48) 65 (f44 12)) 66 t49) 67 t50) 68 t51) 69 t52) 70 t53) 13 t53) 71 (f44 2)) 72 (.int .i64 0)) w54) w45.drew) (bodyQ Try.prog [.tmp 6, .tmp 7] k)))
    (F.upd (F.upd (F.upd (F.upd (F.upd (F.upd (F.upd (F.upd (F.upd (F.upd (F.upd (F.upd (F.upd (F.upd (F.upd (F.upd (F.upd (F.upd (F.upd (F.upd (F.upd (F.upd (F.upd (F.upd (F.upd (F.upd (F.upd (F.upd (F.upd (F.upd (F.upd (F.upd (F.upd (F.upd (F.upd (F.upd (F.upd (F.upd (F.upd (F.upd (initF [v0, v1, v2]) 3 t1) 6 (.slice none 0 0)) 7 (.bool false)) 15 t3) 16 v1) 17 t4) 14 t4) 18 t6) 19 t7) 20 t8) 8 t6) 9 t7) 10 t8) 21 t8) 22 t9) 23 t9) 24 t10) 25 t12) 26 t14) 27 t16) 29 t6) 30 t17) 28 t17) 31 t19) 32 t20) 11 t19) 12 t20) 33 t19) 34 t21) 35 t22) 36 v1) 37 t19) 38 t24) 39 t25) 40 t26) 41 t27) 42 t28) 13 t28) 43 v2) 44 (.int .i64 0)) w29) w23) w18)) w15)) w13) w11) w5) w2) w
theorem body60 : Try.f60.body = some (bodyOf Try.f60) := by kernel_rfl
theorem same60 (v0 v1 v2 : Value) (k : Value → World → Prop) (w : World) : wpF Try.prog pl60 (bodyOf Try.f60) (bodyQ Try.prog Try.f60.results.toList k) (initF [v0, v1, v2]) w = S60 v0 v1 v2 k w := by kernel_rfl
theorem enter60 {v0 v1 v2 : Value} {k : Value → World → Prop} {w : World} (h : S60 v0 v1 v2 k w) : CallK Try.prog 60 [v0, v1, v2] k w :=
  call_of_wpF (pl := pl60) mixed Try.func60 body60 (by kernel_rfl) (of_decide_eq_true (by kernel_rfl)) (by kernel_rfl) (by kernel_rfl) (same60 v0 v1 v2 k w ▸ h)

/-! loop.example/g00758/spec.l18Asked -/
def pl91 : Plans := fun _ => ⟨false, [], .nil⟩
def S91 (v0 v1 : Value) (k : Value → World → Prop) (w : World) : Prop :=
 Do Try.prog (sBox 37 v0) (fun t1 w2 =>
 Rd Try.prog (WS.at w2) (sLoad 37 t1) fun t3 =>
 CallK Try.prog 142 [t3, (.int .i64 0), v1] (fun t4 w5 =>
 GuardK t4 true (fun k w' => Rd Try.prog (WS.at w5) (sLoad 37 t1) fun v => k v w') (fun t6 w7 =>
 GuardK t4 true (fun k w' => k v1 w') (fun t8 w9 =>
 GuardK t4 true (fun k w' => CallK Try.prog 143 [t6, (.int .i64 0), t8] k w') (fun t10 w11 =>
 Rd Try.prog (WS.at w11) (sPick t4 t10 (.bool false)) fun t12 =>
 k t12 w11) w9) w7) w5) w2) w
theorem body91 : Try.f91.body = some (bodyOf Try.f91) := by kernel_rfl
theorem same91 (v0 v1 : Value) (k : Value → World → Prop) (w : World) : wpF Try.prog pl91 (bodyOf Try.f91) (bodyQ Try.prog Try.f91.results.toList k) (initF [v0, v1]) w = S91 v0 v1 k w := by kernel_rfl
theorem enter91 {v0 v1 : Value} {k : Value → World → Prop} {w : World} (h : S91 v0 v1 k w) : CallK Try.prog 91 [v0, v1] k w :=
  call_of_wpF (pl := pl91) mixed Try.func91 body91 (by kernel_rfl) (of_decide_eq_true (by kernel_rfl)) (by kernel_rfl) (by kernel_rfl) (same91 v0 v1 k w ▸ h)

/-! loop.example/g00758/spec.l18Pump -/
def pl92 : Plans := fun i => match i with
  | 9 => ⟨false, [], .step 0 .any (.step 1 .any (.step 2 .held (.step 3 .any (.step 4 .any (.step 5 .held (.step 6 .any (.step 7 .any (.step 8 .any (.step 9 .any (.step 10 .held (.step 11 .any (.step 12 .any (.step 13 .held (.step 14 .any (.step 15 .any (.step 16 .any (.step 17 .any (.step 18 .held (.step 19 .any (.step 20 .any (.step 21 .held (.step 22 .any (.step 23 .any (.step 24 .any (.nil)))))))))))))))))))))))))⟩
  | 10 => ⟨false, [14], .step 0 .any (.step 1 .any (.step 2 .any (.step 3 .any (.step 4 .held (.step 5 .any (.step 6 .any (.step 7 .held (.step 8 .any (.step 9 .any (.step 10 .held (.step 11 .any (.step 12 .any (.step 13 .held (.step 14 .last (.step 15 .any (.nil))))))))))))))))⟩
  | _ => ⟨false, [], .nil⟩
def S92 (v0 v1 : Value) (k : Value → World → Prop) (w : World) : Prop :=
 Do Try.prog (sBox 37 v0) (fun t1 w2 =>
 Rd Try.prog (WS.at w2) (sLoad 37 t1) fun t3 =>
 CallK Try.prog 95 [t3, v1, (.int .i64 0), (.int .i64 0)] (fun t4 w5 =>
 Rd Try.prog (WS.at w5) (sExtract t4 0) fun t6 =>
 Rd Try.prog (WS.at w5) (sExtract t4 1) fun t7 =>
 Rd Try.prog (WS.at w5) (sBuiltin .len #[48] 3 [false] [t6]) fun t8 =>
 LoopF [20, 21, 22, 23, 7, 8, 24, 25, 9, 26, 27, 28, 29, 30, 33, 34, 35, 36, 10, 37, 38, 39, 40, 41, 42, 43, 44, 45, 46, 47, 48, 49, 50, 51, 52, 53, 54, 55, 56, 57, 58, 59, 60, 61, 62, 63, 64, 65, 66, 67, 68, 69, 70, 71, 72, 73, 74, 75, 76, 4, 31, 32, 9, 77, 19] (fun Q9 f10 w11 =>
  Rd Try.prog (WS.at w11) (sBin .lss 3 false (f10 19) (f10 18)) fun t12 =>
  CondK t12
   (Rd Try.prog (WS.at w11) (sIndexAddr 48 (f10 17) (f10 19)) fun t13 =>
   Rd Try.prog (WS.at w11) (sLoad 22 t13) fun t14 =>
   Rd Try.prog (WS.at w11) (sBin .add 3 true (f10 19) (.int .i64 1)) fun t15 =>
   LoopF [26, 27, 28, 29, 30, 33, 34, 35, 36, 10, 37, 38, 39, 40, 41, 42, 43, 44, 45, 46, 47, 48, 49, 50, 51, 52, 53, 54, 55, 56, 57, 58, 59, 60, 61, 62, 63, 64, 65, 66, 67, 68, 69, 70, 71, 72, 73, 74, 75, 76, 4, 31, 32, 9] (fun Q16 f17 w18 =>
    Rd Try.prog (WS.at w18) (sIndexAddr 22 (f17 8) (.int .i64 1)) fun t19 =>
    Rd Try.prog (WS.at w18) (sLoad 3 t19) fun t20 =>
    Rd Try.prog (WS.at w18) (sBin .lss 3 false (f17 9) t20) fun t21 =>
    CondK t21
     (Rd Try.prog (WS.at w18) (sIndexAddr 48 (f17 5) (f17 9)) fun t22 =>
     Rd Try.prog (WS.at w18) (sLoad 22 t22) fun t23 =>
     Rd Try.prog WS.any (sIndexAddr 22 (f17 8) (.int .i64 0)) fun t24 =>
     Rd Try.prog (WS.at w18.drew) (sLoad 3 t24) fun t25 =>
     Rd Try.prog WS.any (sIndexAddr 22 t23 (.int .i64 0)) fun t26 =>
     Rd Try.prog (WS.at w18.drew) (sLoad 3 t26) fun t27 =>
     Rd Try.prog WS.any (sBin .eql 3 false t25 t27) fun t28 =>
     GuardK t28 true (fun k w' => k (f17 8) w') (fun t29 w30 =>
     GuardK t28 true (fun k w' => Rd Try.prog WS.any (sIndexAddr 22 t29 (.int .i64 2)) fun v => k v w') (fun t31 w32 =>
     GuardK t28 true (fun k w' => Rd Try.prog (WS.at w18.drew) (sLoad 3 t31) fun v => k v w') (fun t33 w34 =>
     GuardK t28 true (fun k w' => k t23 w') (fun t35 w36 =>
     GuardK t28 true (fun k w' => Rd Try.prog WS.any (sIndexAddr 22 t35 (.int .i64 2)) fun v => k v w') (fun t37 w38 =>
     GuardK t28 true (fun k w' => Rd Try.prog (WS.at w18.drew) (sLoad 3 t37) fun v => k v w') (fun t39 w40 =>
     GuardK t28 true (fun k w' => Rd Try.prog WS.any (sBin .neq 3 false t33 t39) fun v => k v w') (fun t41 w42 =>
     GuardK t28 true (fun k w' => k t41 w') (fun t43 w44 =>
     GuardK t43 false (fun k w' => k (f17 8) w') (fun t45 w46 =>
     GuardK t43 false (fun k w' => Rd Try.prog WS.any (sIndexAddr 22 t45 (.int .i64 3)) fun v => k v w') (fun t47 w48 =>
     GuardK t43 false (fun k w' => Rd Try.prog (WS.at w18.drew) (sLoad 3 t47) fun v => k v w') (fun t49 w50 =>
     GuardK t43 false (fun k w' => k t23 w') (fun t51 w52 =>
     GuardK t43 false (fun k w' => Rd Try.prog WS.any (sIndexAddr 22 t51 (.int .i64 3)) fun v => k v w') (fun t53 w54 =>
     GuardK t43 false (fun k w' => Rd Try.prog (WS.at w18.drew) (sLoad 3 t53) fun v => k v w') (fun t55 w56 =>
     GuardK t43 false (fun k w' => Rd Try.prog WS.any (sBin .neq 3 false t49 t55) fun v => k v w') (fun t57 w58 =>
     GuardK t28 true (fun k w' => Rd Try.prog WS.any (sPick t43 (.bool true) t57) fun v => k v w') (fun t59 w60 =>
     Rd Try.prog WS.any (sPick t28 t59 (.bool false)) fun t61 =>
     CondK t61
      (Rd Try.prog WS.any (sIndexAddr 22 (f17 8) (.int .i64 2)) fun t62 =>
      Rd Try.prog (WS.at w60.drew) (sLoad 3 t62) fun t63 =>
      Rd Try.prog WS.any (sIndexAddr 22 t23 (.int .i64 2)) fun t64 =>
      Rd Try.prog (WS.at w60.drew) (sLoad 3 t64) fun t65 =>
      Rd Try.prog WS.any (sIndexAddr 22 t23 (.int .i64 3)) fun t66 =>
      Rd Try.prog (WS.at w60.drew) (sLoad 3 t66) fun t67 =>
      Rd Try.prog WS.any (sIndexAddr 22 (f17 8) (.int .i64 3)) fun t68 =>
      Rd Try.prog (WS.at w60.drew) (sLoad 3 t68) fun t69 =>
      Do Try.prog (sBuildSlice 22 6 [(0, (f17 7)), (1, (f17 9)), (2, t63), (3, t65), (4, t67), (5, t69)]) (fun t70 w71 =>
      Q16 .ret (F.upd (F.upd (F.upd (F.upd (F.upd (F.upd (F.upd (F.upd (F.upd (F.upd (F.upd (F.upd (F.upd (F.upd (F.upd (F.upd (F.upd (F.upd (F.upd (F.upd (F.upd (F.upd (F.upd (F.upd (F.upd (F.upd (F.upd (F.upd (F.upd (F.upd (F.upd (F.upd (F.upd (F.upd (F.upd (F.upd (F.upd (F.upd (F.upd (F.upd (F.upd (F.upd (F.upd (F.upd (F.upd (F.upd (F.upd (F.upd (F.upd (F.upd (F.upd f17 26 (f17 9)) 27 (f17 8)) 28 t19) 29 t20) 30 t21) 33 (f17 5)) 34 (f17 9)) 35 t22) 36 t23) 10 t23) 37 (f17 8)) 38 t24) 39 t25) 40 t23) 41 t26) 42 t27) 43 t28) 44 t28) 45 t29) 46 t31) 47 t33) 48 t35) 49 t37) 50 t39) 51 t41) 52 t43) 53 t45) 54 t47) 55 t49) 56 t51) 57 t53) 58 t55) 59 t57) 60 t59) 61 t61) 62 (f17 7)) 63 (f17 9)) 64 (f17 8)) 65 t62) 66 t63) 67 t23) 68 t64) 69 t65) 70 t23) 71 t66) 72 t67) 73 (f17 8)) 74 t68) 75 t69) 76 t70) 4 t70) w71) w60.drew)
      (Rd Try.prog (WS.at w60) (sBin .add 3 true (f17 9) (.int .i64 1)) fun t72 =>
      Q16 .normal (F.upd (F.upd (F.upd (F.upd (F.upd (F.upd (F.upd (F.upd (F.upd (F.upd (F.upd (F.upd (F.upd (F.upd (F.upd (F.upd (F.upd (F.upd (F.upd (F.upd (F.upd (F.upd (F.upd (F.upd (F.upd (F.upd (F.upd (F.upd (F.upd (F.upd (F.upd (F.upd (F.upd (F.upd (F.upd (F.upd (F.upd (F.upd f17 26 (f17 9)) 27 (f17 8)) 28 t19) 29 t20) 30 t21) 33 (f17 5)) 34 (f17 9)) 35 t22) 36 t23) 10 t23) 37 (f17 8)) 38 t24) 39 t25) 40 t23) 41 t26) 42 t27) 43 t28) 44 t28) 45 t29) 46 t31) 47 t33) 48 t35) 49 t37) 50 t39) 51 t41) 52 t43) 53 t45) 54 t47) 55 t49) 56 t51) 57 t53) 58 t55) 59 t57) 60 t59) 61 t61) 31 (f17 9)) 32 t72) 9 t72) w60)) w58) w56) w54) w52) w50) w48) w46) w44) w42) w40) w38) w36) w34) w32) w30) w18.drew)
     (Q16 (.exit 2) (F.upd (F.upd (F.upd (F.upd (F.upd f17 26 (f17 9)) 27 (f17 8)) 28 t19) 29 t20) 30 t21) w18))
    (blockQ 2 (blockQ 1 (seqQ (fun f73 w74 =>
   Rd Try.prog (WS.at w74) (sBin .add 3 true (f73 19) (.int .i64 1)) fun t75 =>
   Q9 .normal (F.upd (F.upd f73 77 t75) 19 t75) w74) Q9)))
    (F.upd (F.upd (F.upd (F.upd (F.upd (F.upd (F.upd (F.upd (F.upd f10 20 t12) 21 (f10 19)) 22 t13) 23 t14) 7 (f10 19)) 8 t14) 24 (f10 19)) 25 t15) 9 t15) w11)
   (Q9 (.exit 0) (F.upd f10 20 t12) w11))
  (blockQ 0 (seqQ (fun f76 w77 =>
 k (.slice none 0 0) w77) (bodyQ Try.prog [.tmp 4] k)))
  (F.upd (F.upd (F.upd (F.upd (F.upd (F.upd (F.upd (F.upd (F.upd (F.upd (F.upd (F.upd (F.upd (initF [v0, v1]) 2 t1) 4 (.slice none 0 0)) 12 t3) 13 v1) 14 t4) 11 t4) 15 t6) 16 t7) 5 t6) 6 t7) 17 t6) 18 t8) 19 (.int .i64 0)) w5) w2) w
theorem body92 : Try.f92.body = some (bodyOf Try.f92) := by kernel_rfl
theorem same92 (v0 v1 : Value) (k : Value → World → Prop) (w : World) : wpF Try.prog pl92 (bodyOf Try.f92) (bodyQ Try.prog Try.f92.results.toList k) (initF [v0, v1]) w = S92 v0 v1 k w := by kernel_rfl
theorem enter92 {v0 v1 : Value} {k : Value → World → Prop} {w : World} (h : S92 v0 v1 k w) : CallK Try.prog 92 [v0, v1] k w :=
  call_of_wpF (pl := pl92) mixed Try.func92 body92 (by kernel_rfl) (of_decide_eq_true (by kernel_rfl)) (by kernel_rfl) (by kernel_rfl) (same92 v0 v1 k w ▸ h)

/-! (loop.example/g00758/impl.Grammar).whole -/
def pl93 : Plans := fun i => match i with
  | 4 => ⟨false, [], .step 0 .any (.step 1 .any (.step 2 .any (.step 3 .any (.step 4 .any (.step 5 .any (.step 6 .any (.step 7 .held (.step 8 .any (.step 9 .any (.step 10 .any (.step 11 .any (.step 12 .any (.step 13 .any (.step 14 .any (.nil)))))))))))))))⟩
  | _ => ⟨false, [], .nil⟩
def S93 (v0 v1 : Value) (k : Value → World → Prop) (w : World) : Prop :=
 Do Try.prog (sBox 37 v0) (fun t1 w2 =>
 Rd Try.prog (WS.at w2) (sLoad 37 t1) fun t3 =>
 CallK Try.prog 84 [t3] (fun t4 w5 =>
 Rd Try.prog (WS.at w5) (sUn .not t4) fun t6 =>
 GuardK t6 false (fun k w' => k v1 w') (fun t7 w8 =>
 GuardK t6 false (fun k w' => Rd Try.prog (WS.at w8) (sBuiltin .len #[22] 3 [false] [t7]) fun v => k v w') (fun t9 w10 =>
 GuardK t6 false (fun k w' => Rd Try.prog (WS.at w10) (sBin .gtr 3 true t9 (.int .i64 60)) fun v => k v w') (fun t11 w12 =>
 Rd Try.prog (WS.at w12) (sPick t6 (.bool true) t11) fun t13 =>
 CondK t13
  (k (.tuple #[(.pointer none), (.slice none 0 0), (.bool false)]) w12)
  (Rd Try.prog (WS.at w12) (sLoad 37 t1) fun t14 =>
  CallK Try.prog 144 [t14, (.int .i64 0), v1] (fun t15 w16 =>
  Rd Try.prog (WS.at w16) (sExtract t15 0) fun t17 =>
  Rd Try.prog (WS.at w16) (sExtract t15 1) fun t18 =>
  Rd Try.prog (WS.at w16) (sExtract t15 2) fun t19 =>
  GuardK t19 true (fun k w' => k t17 w') (fun t20 w21 =>
  GuardK t19 true (fun k w' => Rd Try.prog WS.any (sNilCheck t20) fun v => k v w') (fun t22 w23 =>
  GuardK t19 true (fun k w' => Rd Try.prog WS.any (sFieldAddr 93 t22 3) fun v => k v w') (fun t24 w25 =>
  GuardK t19 true (fun k w' => Rd Try.prog (WS.at w16.drew) (sLoad 3 t24) fun v => k v w') (fun t26 w27 =>
  GuardK t19 true (fun k w' => k v1 w') (fun t28 w29 =>
  GuardK t19 true (fun k w' => Rd Try.prog WS.any (sBuiltin .len #[22] 3 [false] [t28]) fun v => k v w') (fun t30 w31 =>
  GuardK t19 true (fun k w' => Rd Try.prog WS.any (sBin .eql 3 false t26 t30) fun v => k v w') (fun t32 w33 =>
  Rd Try.prog WS.any (sPick t19 t32 (.bool false)) fun t34 =>
  k (.tuple #[t17, t18, t34]) w33) w31) w29) w27) w25) w23) w21) w16.drew) w12)) w10) w8) w5) w2) w
theorem body93 : Try.f93.body = some (bodyOf Try.f93) := by kernel_rfl
theorem same93 (v0 v1 : Value) (k : Value → World → Prop) (w : World) : wpF Try.prog pl93 (bodyOf Try.f93) (bodyQ Try.prog Try.f93.results.toList k) (initF [v0, v1]) w = S93 v0 v1 k w := by kernel_rfl
theorem enter93 {v0 v1 : Value} {k : Value → World → Prop} {w : World} (h : S93 v0 v1 k w) : CallK Try.prog 93 [v0, v1] k w :=
  call_of_wpF (pl := pl93) mixed Try.func93 body93 (by kernel_rfl) (of_decide_eq_true (by kernel_rfl)) (by kernel_rfl) (by kernel_rfl) (same93 v0 v1 k w ▸ h)

/-! (*loop.example/g00758/impl.part).pump -/
def pl94 : Plans := fun i => match i with
  | 7 => ⟨false, [], .step 0 .any (.step 1 .any (.step 2 .any (.step 3 .held (.step 4 .any (.step 5 .any (.step 6 .any (.step 7 .held (.step 8 .any (.step 9 .any (.step 10 .any (.step 11 .any (.step 12 .any (.step 13 .held (.step 14 .any (.step 15 .any (.step 16 .any (.step 17 .held (.step 18 .any (.step 19 .any (.step 20 .any (.step 21 .any (.step 22 .any (.step 23 .held (.step 24 .any (.step 25 .any (.step 26 .any (.step 27 .held (.step 28 .any (.step 29 .any (.step 30 .any (.nil)))))))))))))))))))))))))))))))⟩
  | _ => ⟨false, [], .nil⟩
def S94 (v0 : Value) (k : Value → World → Prop) (w : World) : Prop :=
 CallK Try.prog 96 [v0] (fun t1 w2 =>
 Rd Try.prog (WS.at w2) (sBuiltin .len #[91] 3 [false] [t1]) fun t3 =>
 LoopF [12, 13, 14, 5, 15, 16, 17, 18, 19, 20, 21, 22, 7, 23, 24, 25, 26, 27, 28, 29, 30, 31, 32, 33, 34, 35, 36, 37, 38, 39, 40, 41, 42, 43, 44, 45, 46, 47, 48, 49, 50, 51, 52, 53, 54, 55, 2, 3, 56, 19, 57, 11] (fun Q4 f5 w6 =>
  Rd Try.prog (WS.at w6) (sBin .lss 3 false (f5 11) (f5 10)) fun t7 =>
  CondK t7
   (Rd Try.prog (WS.at w6) (sIndexAddr 91 (f5 9) (f5 11)) fun t8 =>
   Rd Try.prog (WS.at w6) (sLoad 86 t8) fun t9 =>
   CallK Try.prog 96 [t9] (fun t10 w11 =>
   Rd Try.prog (WS.at w11) (sSlice 91 t10 (some (.int .i64 1)) none none) fun t12 =>
   Rd Try.prog (WS.at w11) (sBuiltin .len #[91] 3 [false] [t12]) fun t13 =>
   LoopF [20, 21, 22, 7, 23, 24, 25, 26, 27, 28, 29, 30, 31, 32, 33, 34, 35, 36, 37, 38, 39, 40, 41, 42, 43, 44, 45, 46, 47, 48, 49, 50, 51, 52, 53, 54, 55, 2, 3, 56, 19] (fun Q14 f15 w16 =>
    Rd Try.prog (WS.at w16) (sBin .lss 3 false (f15 19) (f15 18)) fun t17 =>
    CondK t17
     (Rd Try.prog (WS.at w16) (sIndexAddr 91 (f15 17) (f15 19)) fun t18 =>
     Rd Try.prog (WS.at w16) (sLoad 86 t18) fun t19 =>
     Rd Try.prog WS.any (sNilCheck (f15 5)) fun t20 =>
     Rd Try.prog WS.any (sFieldAddr 93 t20 0) fun t21 =>
     Rd Try.prog (WS.at w16.drew) (sLoad 3 t21) fun t22 =>
     Rd Try.prog WS.any (sNilCheck t19) fun t23 =>
     Rd Try.prog WS.any (sFieldAddr 93 t23 0) fun t24 =>
     Rd Try.prog (WS.at w16.drew) (sLoad 3 t24) fun t25 =>
     Rd Try.prog WS.any (sBin .eql 3 false t22 t25) fun t26 =>
     GuardK t26 true (fun k w' => k (f15 5) w') (fun t27 w28 =>
     GuardK t26 true (fun k w' => Rd Try.prog WS.any (sNilCheck t27) fun v => k v w') (fun t29 w30 =>
     GuardK t26 true (fun k w' => Rd Try.prog WS.any (sFieldAddr 93 t29 4) fun v => k v w') (fun t31 w32 =>
     GuardK t26 true (fun k w' => Rd Try.prog (WS.at w16.drew) (sLoad 3 t31) fun v => k v w') (fun t33 w34 =>
     GuardK t26 true (fun k w' => k t19 w') (fun t35 w36 =>
     GuardK t26 true (fun k w' => Rd Try.prog WS.any (sNilCheck t35) fun v => k v w') (fun t37 w38 =>
     GuardK t26 true (fun k w' => Rd Try.prog WS.any (sFieldAddr 93 t37 4) fun v => k v w') (fun t39 w40 =>
     GuardK t26 true (fun k w' => Rd Try.prog (WS.at w16.drew) (sLoad 3 t39) fun v => k v w') (fun t41 w42 =>
     GuardK t26 true (fun k w' => Rd Try.prog WS.any (sBin .neq 3 false t33 t41) fun v => k v w') (fun t43 w44 =>
     GuardK t26 true (fun k w' => k t43 w') (fun t45 w46 =>
     GuardK t45 false (fun k w' => k (f15 5) w') (fun t47 w48 =>
     GuardK t45 false (fun k w' => Rd Try.prog WS.any (sNilCheck t47) fun v => k v w') (fun t49 w50 =>
     GuardK t45 false (fun k w' => Rd Try.prog WS.any (sFieldAddr 93 t49 5) fun v => k v w') (fun t51 w52 =>
     GuardK t45 false (fun k w' => Rd Try.prog (WS.at w16.drew) (sLoad 3 t51) fun v => k v w') (fun t53 w54 =>
     GuardK t45 false (fun k w' => k t19 w') (fun t55 w56 =>
     GuardK t45 false (fun k w' => Rd Try.prog WS.any (sNilCheck t55) fun v => k v w') (fun t57 w58 =>
     GuardK t45 false (fun k w' => Rd Try.prog WS.any (sFieldAddr 93 t57 5) fun v => k v w') (fun t59 w60 =>
     GuardK t45 false (fun k w' => Rd Try.prog (WS.at w16.drew) (sLoad 3 t59) fun v => k v w') (fun t61 w62 =>
     GuardK t45 false (fun k w' => Rd Try.prog WS.any (sBin .neq 3 false t53 t61) fun v => k v w') (fun t63 w64 =>
     GuardK t26 true (fun k w' => Rd Try.prog WS.any (sPick t45 (.bool true) t63) fun v => k v w') (fun t65 w66 =>
     Rd Try.prog WS.any (sPick t26 t65 (.bool false)) fun t67 =>
     CondK t67
      (Q14 .ret (F.upd (F.upd (F.upd (F.upd (F.upd (F.upd (F.upd (F.upd (F.upd (F.upd (F.upd (F.upd (F.upd (F.upd (F.upd (F.upd (F.upd (F.upd (F.upd (F.upd (F.upd (F.upd (F.upd (F.upd (F.upd (F.upd (F.upd (F.upd (F.upd (F.upd (F.upd (F.upd (F.upd (F.upd (F.upd (F.upd (F.upd (F.upd (F.upd f15 20 t17) 21 t18) 22 t19) 7 t19) 23 (f15 5)) 24 t20) 25 t21) 26 t22) 27 t19) 28 t23) 29 t24) 30 t25) 31 t26) 32 t26) 33 t27) 34 t29) 35 t31) 36 t33) 37 t35) 38 t37) 39 t39) 40 t41) 41 t43) 42 t45) 43 t47) 44 t49) 45 t51) 46 t53) 47 t55) 48 t57) 49 t59) 50 t61) 51 t63) 52 t65) 53 t67) 54 (f15 5)) 55 t19) 2 (f15 5)) 3 t19) w66)
      (Rd Try.prog (WS.at w66) (sBin .add 3 true (f15 19) (.int .i64 1)) fun t68 =>
      Q14 .normal (F.upd (F.upd (F.upd (F.upd (F.upd (F.upd (F.upd (F.upd (F.upd (F.upd (F.upd (F.upd (F.upd (F.upd (F.upd (F.upd (F.upd (F.upd (F.upd (F.upd (F.upd (F.upd (F.upd (F.upd (F.upd (F.upd (F.upd (F.upd (F.upd (F.upd (F.upd (F.upd (F.upd (F.upd (F.upd (F.upd (F.upd f15 20 t17) 21 t18) 22 t19) 7 t19) 23 (f15 5)) 24 t20) 25 t21) 26 t22) 27 t19) 28 t23) 29 t24) 30 t25) 31 t26) 32 t26) 33 t27) 34 t29) 35 t31) 36 t33) 37 t35) 38 t37) 39 t39) 40 t41) 41 t43) 42 t45) 43 t47) 44 t49) 45 t51) 46 t53) 47 t55) 48 t57) 49 t59) 50 t61) 51 t63) 52 t65) 53 t67) 56 t68) 19 t68) w66)) w64) w62) w60) w58) w56) w54) w52) w50) w48) w46) w44) w42) w40) w38) w36) w34) w32) w30) w28) w16.drew)
     (Q14 (.exit 2) (F.upd f15 20 t17) w16))
    (blockQ 2 (blockQ 1 (seqQ (fun f69 w70 =>
   Rd Try.prog (WS.at w70) (sBin .add 3 true (f69 11) (.int .i64 1)) fun t71 =>
   Q4 .normal (F.upd (F.upd f69 57 t71) 11 t71) w70) Q4)))
    (F.upd (F.upd (F.upd (F.upd (F.upd (F.upd (F.upd (F.upd (F.upd f5 12 t7) 13 t8) 14 t9) 5 t9) 15 t9) 16 t10) 17 t12) 18 t13) 19 (.int .i64 0)) w11) w6)
   (Q4 (.exit 0) (F.upd f5 12 t7) w6))
  (blockQ 0 (seqQ (fun f72 w73 =>
 k (.tuple #[(.pointer none), (.pointer none)]) w73) (bodyQ Try.prog [.tmp 2, .tmp 3] k)))
  (F.upd (F.upd (F.upd (F.upd (F.upd (F.upd (initF [v0]) 2 (.pointer none)) 3 (.pointer none)) 8 v0) 9 t1) 10 t3) 11 (.int .i64 0)) w2) w
theorem body94 : Try.f94.body = some (bodyOf Try.f94) := by kernel_rfl
theorem same94 (v0 : Value) (k : Value → World → Prop) (w : World) : wpF Try.prog pl94 (bodyOf Try.f94) (bodyQ Try.prog Try.f94.results.toList k) (initF [v0]) w = S94 v0 k w := by kernel_rfl
theorem enter94 {v0 : Value} {k : Value → World → Prop} {w : World} (h : S94 v0 k w) : CallK Try.prog 94 [v0] k w :=
  call_of_wpF (pl := pl94) mixed Try.func94 body94 (by kernel_rfl) (of_decide_eq_true (by kernel_rfl)) (by kernel_rfl) (by kernel_rfl) (same94 v0 k w ▸ h)

/-! loop.example/g00758/spec.l18Parts -/
def pl95 : Plans := fun i => match i with
  | 1 => ⟨true, [9], .step 0 .any (.step 1 .held (.step 2 .any (.step 3 .any (.step 4 .any (.step 5 .held (.step 6 .any (.step 7 .held (.step 8 .one (.step 9 .last (.nil))))))))))⟩
  | _ => ⟨false, [], .nil⟩
def S95 (v0 v1 v2 v3 : Value) (k : Value → World → Prop) (w : World) : Prop :=
 Do Try.prog (sBox 37 v0) (fun t1 w2 =>
 ∃ S3 : World → Prop, ∃ h4 : S3 w2.drew,
 Rd Try.prog WS.any (sFieldAddr 37 t1 2) fun t5 =>
 Rd Try.prog ⟨S3, w2.drew, h4⟩ (sLoad 35 t5) fun t6 =>
 Rd Try.prog WS.any (sIndexAddr 22 v1 v2) fun t7 =>
 Rd Try.prog ⟨S3, w2.drew, h4⟩ (sLoad 3 t7) fun t8 =>
 Rd Try.prog WS.any (sIndexAddr 35 t6 t8) fun t9 =>
 Rd Try.prog ⟨S3, w2.drew, h4⟩ (sLoad 77 t9) fun t10 =>
 Do Try.prog (sAlloc 77) (fun t11 w12 =>
 S3 w12 ∧ Do Try.prog (sStore 77 t11 t10) (fun _ w13 =>
 Rd Try.prog (WS.at w13) (sFieldAddr 77 t11 0) fun t14 =>
 Rd Try.prog (WS.at w13) (sLoad 3 t14) fun t15 =>
 Do Try.prog (sBuildSlice 22 4 [(0, t15), (1, (.int .i64 0)), (2, v3), (3, (.int .i64 0))]) (fun t16 w17 =>
 Do Try.prog (sBuildSlice 48 1 [(0, t16)]) (fun t18 w19 =>
 Rd Try.prog (WS.at w19) (sFieldAddr 77 t11 1) fun t20 =>
 Rd Try.prog (WS.at w19) (sLoad 22 t20) fun t21 =>
 Rd Try.prog (WS.at w19) (sBuiltin .len #[22] 3 [false] [t21]) fun t22 =>
 LoopF [35, 36, 37, 14, 38, 39, 40, 41, 12, 43, 44, 45, 46, 47, 48, 49, 50, 42, 51, 52, 15, 16, 53, 54, 55, 11, 56, 12, 57, 34] (fun Q23 f24 w25 =>
  Rd Try.prog (WS.at w25) (sBin .lss 3 false (f24 34) (f24 33)) fun t26 =>
  CondK t26
   (Join (fun K27 =>
   Rd Try.prog (WS.at w25) (sIndexAddr 22 (f24 32) (f24 34)) fun t30 =>
   Rd Try.prog (WS.at w25) (sLoad 3 t30) fun t31 =>
   Rd Try.prog (WS.at w25) (sBin .lss 3 true t31 (.int .i64 0)) fun t32 =>
   CondK t32
    (Rd Try.prog (WS.at w25) (sBin .add 3 true (f24 12) (.int .i64 1)) fun t33 =>
    K27 (F.upd (F.upd (F.upd (F.upd (F.upd (F.upd (F.upd (F.upd (F.upd f24 35 t26) 36 t30) 37 t31) 14 t31) 38 t31) 39 t32) 40 (f24 12)) 41 t33) 12 t33) w25)
    (Rd Try.prog (WS.at w25) (sLoad 37 (f24 4)) fun t34 =>
    Rd Try.prog (WS.at w25) (sBuiltin .len #[48] 3 [false] [(f24 11)]) fun t35 =>
    Rd Try.prog (WS.at w25) (sBin .add 3 false (f24 2) t35) fun t36 =>
    CallK Try.prog 95 [t34, (f24 1), t36, (f24 12)] (fun t37 w38 =>
    Rd Try.prog (WS.at w38) (sExtract t37 0) fun t39 =>
    Rd Try.prog (WS.at w38) (sExtract t37 1) fun t40 =>
    Do Try.prog (sBuiltin .append #[48, 48] 48 [false, false] [(f24 11), t39]) (fun t41 w42 =>
    K27 (F.upd (F.upd (F.upd (F.upd (F.upd (F.upd (F.upd (F.upd (F.upd (F.upd (F.upd (F.upd (F.upd (F.upd (F.upd (F.upd (F.upd (F.upd (F.upd (F.upd (F.upd (F.upd (F.upd (F.upd (F.upd f24 35 t26) 36 t30) 37 t31) 14 t31) 38 t31) 39 t32) 43 t34) 44 (f24 1)) 45 (f24 2)) 46 (f24 11)) 47 t35) 48 t36) 49 (f24 12)) 50 t37) 42 t37) 51 t39) 52 t40) 15 t39) 16 t40) 53 (f24 11)) 54 t39) 55 t41) 11 t41) 56 t40) 12 t40) w42) w38) w25)) (fun f28 w29 =>
   Rd Try.prog (WS.at w29) (sBin .add 3 true (f28 34) (.int .i64 1)) fun t43 =>
   Q23 .normal (F.upd (F.upd f28 57 t43) 34 t43) w29))
   (Q23 (.exit 0) (F.upd f24 35 t26) w25))
  (blockQ 0 (seqQ (fun f44 w45 =>
 Rd Try.prog (WS.at w45) (sIndexAddr 48 (f44 11) (.int .i64 0)) fun t46 =>
 Rd Try.prog (WS.at w45) (sLoad 22 t46) fun t47 =>
 Rd Try.prog (WS.at w45) (sBuiltin .len #[48] 3 [false] [(f44 11)]) fun t48 =>
 Rd Try.prog (WS.at w45) (sBin .add 3 false (f44 2) t48) fun t49 =>
 Rd Try.prog (WS.at w45) (sIndexAddr 22 t47 (.int .i64 1)) fun t50 =>
 Do Try.prog (sStore 3 t50 t49) (fun _ w51 =>
 Rd Try.prog (WS.at w51) (sIndexAddr 48 (f44 11) (.int .i64 0)) fun t52 =>
 Rd Try.prog (WS.at w51) (sLoad 22 t52) fun t53 =>
 Rd Try.prog (WS.at w51) (sIndexAddr 22 t53 (.int .i64 3)) fun t54 =>
 Do Try.prog (sStore 3 t54 (f44 12)) (fun _ w55 =>
 k (.tuple #[(f44 11), (f44 12)]) w55) w51) w45) (bodyQ Try.prog [.tmp 8, .tmp 9] k)))
  (F.upd (F.upd (F.upd (F.upd (F.upd (F.upd (F.upd (F.upd (F.upd (F.upd (F.upd (F.upd (F.upd (F.upd (F.upd (F.upd (F.upd (F.upd (F.upd (F.upd (F.upd (F.upd (F.upd (F.upd (initF [v0, v1, v2, v3]) 4 t1) 8 (.slice none 0 0)) 9 (.int .i64 0)) 17 t5) 18 t6) 19 v1) 20 v2) 21 t7) 22 t8) 23 t9) 24 t10) 10 t11) 25 t14) 26 t15) 27 v3) 28 t16) 29 t18) 11 t18) 30 v3) 12 v3) 31 t20) 32 t21) 33 t22) 34 (.int .i64 0)) w19) w17) w13) w12) w2.drew) w
theorem body95 : Try.f95.body = some (bodyOf Try.f95) := by kernel_rfl
theorem same95 (v0 v1 v2 v3 : Value) (k : Value → World → Prop) (w : World) : wpF Try.prog pl95 (bodyOf Try.f95) (bodyQ Try.prog Try.f95.results.toList k) (initF [v0, v1, v2, v3]) w = S95 v0 v1 v2 v3 k w := by kernel_rfl
theorem enter95 {v0 v1 v2 v3 : Value} {k : Value → World → Prop} {w : World} (h : S95 v0 v1 v2 v3 k w) : CallK Try.prog 95 [v0, v1, v2, v3] k w :=
  call_of_wpF (pl := pl95) mixed Try.func95 body95 (by kernel_rfl) (of_decide_eq_true (by kernel_rfl)) (by kernel_rfl) (by kernel_rfl) (same95 v0 v1 v2 v3 k w ▸ h)

/-! (*loop.example/g00758/impl.part).parts -/
def pl96 : Plans := fun _ => ⟨false, [], .nil⟩
def S96 (v0 : Value) (k : Value → World → Prop) (w : World) : Prop :=
 Do Try.prog (sBuildSlice 91 1 [(0, v0)]) (fun t1 w2 =>
 Rd Try.prog (WS.at w2) (sNilCheck v0) fun t3 =>
 Rd Try.prog (WS.at w2) (sFieldAddr 93 t3 6) fun t4 =>
 Rd Try.prog (WS.at w2) (sLoad 91 t4) fun t5 =>
 Rd Try.prog (WS.at w2) (sBuiltin .len #[91] 3 [false] [t5]) fun t6 =>
 LoopF [14, 15, 16, 5, 17, 18, 19, 20, 3, 21, 13] (fun Q7 f8 w9 =>
  Rd Try.prog (WS.at w9) (sBin .lss 3 false (f8 13) (f8 12)) fun t10 =>
  CondK t10
   (Rd Try.prog (WS.at w9) (sIndexAddr 91 (f8 11) (f8 13)) fun t11 =>
   Rd Try.prog (WS.at w9) (sLoad 86 t11) fun t12 =>
   CallK Try.prog 96 [t12] (fun t13 w14 =>
   Do Try.prog (sBuiltin .append #[91, 91] 91 [false, false] [(f8 3), t13]) (fun t15 w16 =>
   Rd Try.prog (WS.at w16) (sBin .add 3 true (f8 13) (.int .i64 1)) fun t17 =>
   Q7 .normal (F.upd (F.upd (F.upd (F.upd (F.upd (F.upd (F.upd (F.upd (F.upd (F.upd (F.upd f8 14 t10) 15 t11) 16 t12) 5 t12) 17 (f8 3)) 18 t12) 19 t13) 20 t15) 3 t15) 21 t17) 13 t17) w16) w14) w9)
   (Q7 (.exit 0) (F.upd f8 14 t10) w9))
  (blockQ 0 (seqQ (fun f18 w19 =>
 k (f18 3) w19) (bodyQ Try.prog [.tmp 2] k)))
  (F.upd (F.upd (F.upd (F.upd (F.upd (F.upd (F.upd (F.upd (F.upd (F.upd (initF [v0]) 2 (.slice none 0 0)) 6 v0) 7 t1) 3 t1) 8 v0) 9 t3) 10 t4) 11 t5) 12 t6) 13 (.int .i64 0)) w2) w
theorem body96 : Try.f96.body = some (bodyOf Try.f96) := by kernel_rfl
theorem same96 (v0 : Value) (k : Value → World → Prop) (w : World) : wpF Try.prog pl96 (bodyOf Try.f96) (bodyQ Try.prog Try.f96.results.toList k) (initF [v0]) w = S96 v0 k w := by kernel_rfl
theorem enter96 {v0 : Value} {k : Value → World → Prop} {w : World} (h : S96 v0 k w) : CallK Try.prog 96 [v0] k w :=
  call_of_wpF (pl := pl96) mixed Try.func96 body96 (by kernel_rfl) (of_decide_eq_true (by kernel_rfl)) (by kernel_rfl) (by kernel_rfl) (same96 v0 k w ▸ h)

/-! loop.example/g00758/spec.l11Asked -/
def pl142 : Plans := fun _ => ⟨false, [], .nil⟩
def S142 (v0 v1 v2 : Value) (k : Value → World → Prop) (w : World) : Prop :=
 Do Try.prog (sBox 37 v0) (fun t1 w2 =>
 Rd Try.prog (WS.at w2) (sLoad 37 t1) fun t3 =>
 CallK Try.prog 81 [t3] (fun t4 w5 =>
 GuardK t4 true (fun k w' => k v1 w') (fun t6 w7 =>
 GuardK t4 true (fun k w' => Rd Try.prog (WS.at w7) (sFieldAddr 37 t1 0) fun v => k v w') (fun t8 w9 =>
 GuardK t4 true (fun k w' => Rd Try.prog (WS.at w9) (sLoad 3 t8) fun v => k v w') (fun t10 w11 =>
 GuardK t4 true (fun k w' => Rd Try.prog (WS.at w11) (sBin .sub 3 true t10 (.int .i64 1)) fun v => k v w') (fun t12 w13 =>
 GuardK t4 true (fun k w' => CallK Try.prog 77 [t6, (.int .i64 0), t12] k w') (fun t14 w15 =>
 Rd Try.prog (WS.at w15) (sPick t4 t14 (.bool false)) fun t16 =>
 GuardK t16 true (fun k w' => k v2 w') (fun t17 w18 =>
 GuardK t16 true (fun k w' => Rd Try.prog (WS.at w18) (sBuiltin .len #[22] 3 [false] [t17]) fun v => k v w') (fun t19 w20 =>
 GuardK t16 true (fun k w' => Rd Try.prog (WS.at w20) (sBin .leq 3 true t19 (.int .i64 60)) fun v => k v w') (fun t21 w22 =>
 Rd Try.prog (WS.at w22) (sPick t16 t21 (.bool false)) fun t23 =>
 k t23 w22) w20) w18) w15) w13) w11) w9) w7) w5) w2) w
theorem body142 : Try.f142.body = some (bodyOf Try.f142) := by kernel_rfl
theorem same142 (v0 v1 v2 : Value) (k : Value → World → Prop) (w : World) : wpF Try.prog pl142 (bodyOf Try.f142) (bodyQ Try.prog Try.f142.results.toList k) (initF [v0, v1, v2]) w = S142 v0 v1 v2 k w := by kernel_rfl
theorem enter142 {v0 v1 v2 : Value} {k : Value → World → Prop} {w : World} (h : S142 v0 v1 v2 k w) : CallK Try.prog 142 [v0, v1, v2] k w :=
  call_of_wpF (pl := pl142) mixed Try.func142 body142 (by kernel_rfl) (of_decide_eq_true (by kernel_rfl)) (by kernel_rfl) (by kernel_rfl) (same142 v0 v1 v2 k w ▸ h)

/-! loop.example/g00758/spec.l11Is -/
def pl143 : Plans := fun _ => ⟨false, [], .nil⟩
def S143 (v0 v1 v2 : Value) (k : Value → World → Prop) (w : World) : Prop :=
 Do Try.prog (sBox 37 v0) (fun t1 w2 =>
 Rd Try.prog (WS.at w2) (sBuiltin .len #[22] 3 [false] [v2]) fun t3 =>
 Rd Try.prog (WS.at w2) (sBin .gtr 3 true t3 (.int .i64 0)) fun t4 =>
 GuardK t4 true (fun k w' => Rd Try.prog (WS.at w2) (sLoad 37 t1) fun v => k v w') (fun t5 w6 =>
 GuardK t4 true (fun k w' => k v1 w') (fun t7 w8 =>
 GuardK t4 true (fun k w' => k v2 w') (fun t9 w10 =>
 GuardK t4 true (fun k w' => CallK Try.prog 177 [t5, t7, t9, (.int .i64 0)] k w') (fun t11 w12 =>
 GuardK t4 true (fun k w' => k v2 w') (fun t13 w14 =>
 GuardK t4 true (fun k w' => Rd Try.prog (WS.at w14) (sBuiltin .len #[22] 3 [false] [t13]) fun v => k v w') (fun t15 w16 =>
 GuardK t4 true (fun k w' => Rd Try.prog (WS.at w16) (sBin .eql 3 false t11 t15) fun v => k v w') (fun t17 w18 =>
 Rd Try.prog (WS.at w18) (sPick t4 t17 (.bool false)) fun t19 =>
 k t19 w18) w16) w14) w12) w10) w8) w6) w2) w
theorem body143 : Try.f143.body = some (bodyOf Try.f143) := by kernel_rfl
theorem same143 (v0 v1 v2 : Value) (k : Value → World → Prop) (w : World) : wpF Try.prog pl143 (bodyOf Try.f143) (bodyQ Try.prog Try.f143.results.toList k) (initF [v0, v1, v2]) w = S143 v0 v1 v2 k w := by kernel_rfl
theorem enter143 {v0 v1 v2 : Value} {k : Value → World → Prop} {w : World} (h : S143 v0 v1 v2 k w) : CallK Try.prog 143 [v0, v1, v2] k w :=
  call_of_wpF (pl := pl143) mixed Try.func143 body143 (by kernel_rfl) (of_decide_eq_true (by kernel_rfl)) (by kernel_rfl) (by kernel_rfl) (same143 v0 v1 v2 k w ▸ h)

/-! (loop.example/g00758/impl.Grammar).tree -/
def pl144 : Plans := fun i => match i with
  | 5 => ⟨false, [], .step 0 .any (.step 1 .held (.step 2 .any (.step 3 .any (.step 4 .any (.step 5 .any (.nil))))))⟩
  | _ => ⟨false, [], .nil⟩
def S144 (v0 v1 v2 : Value) (k : Value → World → Prop) (w : World) : Prop :=
 Do Try.prog (sBox 37 v0) (fun t1 w2 =>
 Do Try.prog (sBox 22 v2) (fun t3 w4 =>
 Do Try.prog (sBuildSlice 22 0 []) (fun t5 w6 =>
 Do Try.prog (sAlloc 22) (fun t7 w8 =>
 Do Try.prog (sStore 22 t7 t5) (fun _ w9 =>
 Do Try.prog (sAlloc 181) (fun t10 w11 =>
 Rd Try.prog (WS.at w11) (sMakeFunc (.func 178) [] [t3, t1, t7, t10]) fun t12 =>
 Do Try.prog (sStore 181 t10 t12) (fun _ w13 =>
 Rd Try.prog (WS.at w13) (sLoad 181 t10) fun t14 =>
 Do Try.prog (sCallV t14 [v1, (.int .i64 0)] 182) (fun t15 w16 =>
 Rd Try.prog (WS.at w16) (sExtract t15 0) fun t17 =>
 Rd Try.prog (WS.at w16) (sExtract t15 1) fun t18 =>
 Rd Try.prog (WS.at w16.drew) (sLoad 22 t7) fun t19 =>
 k (.tuple #[t17, t19, t18]) w16.drew) w13) w11) w9) w8) w6) w4) w2) w
theorem body144 : Try.f144.body = some (bodyOf Try.f144) := by kernel_rfl
theorem same144 (v0 v1 v2 : Value) (k : Value → World → Prop) (w : World) : wpF Try.prog pl144 (bodyOf Try.f144) (bodyQ Try.prog Try.f144.results.toList k) (initF [v0, v1, v2]) w = S144 v0 v1 v2 k w := by kernel_rfl
theorem enter144 {v0 v1 v2 : Value} {k : Value → World → Prop} {w : World} (h : S144 v0 v1 v2 k w) : CallK Try.prog 144 [v0, v1, v2] k w :=
  call_of_wpF (pl := pl144) mixed Try.func144 body144 (by kernel_rfl) (of_decide_eq_true (by kernel_rfl)) (by kernel_rfl) (by kernel_rfl) (same144 v0 v1 v2 k w ▸ h)

/-! loop.example/g00758/spec.l11End -/
def pl177 : Plans := fun i => match i with
  | 1 => ⟨true, [], .step 0 .any (.step 1 .any (.step 2 .any (.step 3 .any (.step 4 .any (.step 5 .any (.step 6 .any (.step 7 .any (.step 8 .held (.step 9 .any (.step 10 .held (.step 11 .any (.step 12 .any (.step 13 .one (.step 14 .any (.step 15 .any (.step 16 .any (.step 17 .any (.step 18 .held (.step 19 .any (.step 20 .any (.step 21 .any (.step 22 .held (.step 23 .any (.step 24 .any (.step 25 .held (.step 26 .any (.step 27 .any (.step 28 .any (.nil)))))))))))))))))))))))))))))⟩
  | 4 => ⟨false, [], .step 0 .any (.step 1 .held (.step 2 .any (.step 3 .any (.step 4 .any (.step 5 .held (.step 6 .any (.step 7 .any (.step 8 .held (.step 9 .any (.step 10 .any (.nil)))))))))))⟩
  | _ => ⟨false, [], .nil⟩
def S177 (v0 v1 v2 v3 : Value) (k : Value → World → Prop) (w : World) : Prop :=
 Do Try.prog (sBox 37 v0) (fun t1 w2 =>
 ∃ S3 : World → Prop, ∃ h4 : S3 w2.drew,
 Rd Try.prog WS.any (sBuiltin .len #[22] 3 [false] [v2]) fun t5 =>
 Rd Try.prog WS.any (sBin .geq 3 false v3 t5) fun t6 =>
 GuardK t6 false (fun k w' => k v2 w') (fun t7 w8 =>
 GuardK t6 false (fun k w' => k v3 w') (fun t9 w10 =>
 GuardK t6 false (fun k w' => Rd Try.prog WS.any (sIndexAddr 22 t7 t9) fun v => k v w') (fun t11 w12 =>
 GuardK t6 false (fun k w' => Rd Try.prog ⟨S3, w2.drew, h4⟩ (sLoad 3 t11) fun v => k v w') (fun t13 w14 =>
 GuardK t6 false (fun k w' => Rd Try.prog WS.any (sFieldAddr 37 t1 2) fun v => k v w') (fun t15 w16 =>
 GuardK t6 false (fun k w' => Rd Try.prog ⟨S3, w2.drew, h4⟩ (sLoad 35 t15) fun v => k v w') (fun t17 w18 =>
 GuardK t6 false (fun k w' => Rd Try.prog WS.any (sBuiltin .len #[35] 3 [false] [t17]) fun v => k v w') (fun t19 w20 =>
 GuardK t6 false (fun k w' => Rd Try.prog WS.any (sBin .sub 3 true t19 (.int .i64 1)) fun v => k v w') (fun t21 w22 =>
 GuardK t6 false (fun k w' => CallK Try.prog 77 [t13, (.int .i64 0), t21] k w') (fun t23 w24 =>
 S3 w24 ∧ GuardK t6 false (fun k w' => Rd Try.prog WS.any (sUn .not t23) fun v => k v w') (fun t25 w26 =>
 Rd Try.prog WS.any (sPick t6 (.bool true) t25) fun t27 =>
 GuardK t27 false (fun k w' => Rd Try.prog WS.any (sFieldAddr 37 t1 2) fun v => k v w') (fun t28 w29 =>
 GuardK t27 false (fun k w' => Rd Try.prog ⟨S3, w2.drew, h4⟩ (sLoad 35 t28) fun v => k v w') (fun t30 w31 =>
 GuardK t27 false (fun k w' => k v2 w') (fun t32 w33 =>
 GuardK t27 false (fun k w' => k v3 w') (fun t34 w35 =>
 GuardK t27 false (fun k w' => Rd Try.prog WS.any (sIndexAddr 22 t32 t34) fun v => k v w') (fun t36 w37 =>
 GuardK t27 false (fun k w' => Rd Try.prog ⟨S3, w2.drew, h4⟩ (sLoad 3 t36) fun v => k v w') (fun t38 w39 =>
 GuardK t27 false (fun k w' => Rd Try.prog WS.any (sIndexAddr 35 t30 t38) fun v => k v w') (fun t40 w41 =>
 GuardK t27 false (fun k w' => Rd Try.prog WS.any (sFieldAddr 77 t40 0) fun v => k v w') (fun t42 w43 =>
 GuardK t27 false (fun k w' => Rd Try.prog ⟨S3, w2.drew, h4⟩ (sLoad 3 t42) fun v => k v w') (fun t44 w45 =>
 GuardK t27 false (fun k w' => k v1 w') (fun t46 w47 =>
 GuardK t27 false (fun k w' => Rd Try.prog WS.any (sBin .neq 3 false t44 t46) fun v => k v w') (fun t48 w49 =>
 Rd Try.prog WS.any (sPick t27 (.bool true) t48) fun t50 =>
 CondK t50
  (k (.int .i64 (-1)) w49)
  (Rd Try.prog (WS.at w49) (sBin .add 3 true v3 (.int .i64 1)) fun t51 =>
  Rd Try.prog WS.any (sFieldAddr 37 t1 2) fun t52 =>
  Rd Try.prog (WS.at w49.drew) (sLoad 35 t52) fun t53 =>
  Rd Try.prog WS.any (sIndexAddr 22 v2 v3) fun t54 =>
  Rd Try.prog (WS.at w49.drew) (sLoad 3 t54) fun t55 =>
  Rd Try.prog WS.any (sIndexAddr 35 t53 t55) fun t56 =>
  Rd Try.prog WS.any (sFieldAddr 77 t56 1) fun t57 =>
  Rd Try.prog (WS.at w49.drew) (sLoad 22 t57) fun t58 =>
  Rd Try.prog WS.any (sBuiltin .len #[22] 3 [false] [t58]) fun t59 =>
  LoopF [54, 55, 56, 11, 57, 58, 59, 60, 61, 62, 63, 9, 64, 65, 8, 66, 53] (fun Q60 f61 w62 =>
   Rd Try.prog (WS.at w62) (sBin .lss 3 false (f61 53) (f61 52)) fun t63 =>
   CondK t63
    (Join (fun K64 =>
    Rd Try.prog (WS.at w62) (sIndexAddr 22 (f61 51) (f61 53)) fun t67 =>
    Rd Try.prog (WS.at w62) (sLoad 3 t67) fun t68 =>
    Rd Try.prog (WS.at w62) (sBin .lss 3 true t68 (.int .i64 0)) fun t69 =>
    CondK t69
     (K64 (F.upd (F.upd (F.upd (F.upd (F.upd (F.upd f61 54 t63) 55 t67) 56 t68) 11 t68) 57 t68) 58 t69) w62)
     (Rd Try.prog (WS.at w62) (sLoad 37 (f61 4)) fun t70 =>
     CallK Try.prog 177 [t70, t68, (f61 2), (f61 9)] (fun t71 w72 =>
     Rd Try.prog (WS.at w72) (sBin .lss 3 true t71 (.int .i64 0)) fun t73 =>
     CondK t73
      (Q60 .ret (F.upd (F.upd (F.upd (F.upd (F.upd (F.upd (F.upd (F.upd (F.upd (F.upd (F.upd (F.upd (F.upd (F.upd (F.upd f61 54 t63) 55 t67) 56 t68) 11 t68) 57 t68) 58 t69) 59 t70) 60 t68) 61 (f61 2)) 62 (f61 9)) 63 t71) 9 t71) 64 t71) 65 t73) 8 (.int .i64 (-1))) w72)
      (K64 (F.upd (F.upd (F.upd (F.upd (F.upd (F.upd (F.upd (F.upd (F.upd (F.upd (F.upd (F.upd (F.upd (F.upd f61 54 t63) 55 t67) 56 t68) 11 t68) 57 t68) 58 t69) 59 t70) 60 t68) 61 (f61 2)) 62 (f61 9)) 63 t71) 9 t71) 64 t71) 65 t73) w72)) w62)) (fun f65 w66 =>
    Rd Try.prog (WS.at w66) (sBin .add 3 true (f65 53) (.int .i64 1)) fun t74 =>
    Q60 .normal (F.upd (F.upd f65 66 t74) 53 t74) w66))
    (Q60 (.exit 0) (F.upd f61 54 t63) w62))
   (blockQ 0 (seqQ (fun f75 w76 =>
  k (f75 9) w76) (bodyQ Try.prog [.tmp 8] k)))
   (F.upd (F.upd (F.upd (F.upd (F.upd (F.upd (F.upd (F.upd (F.upd (F.upd (F.upd (F.upd (F.upd (F.upd (F.upd (F.upd (F.upd (F.upd (F.upd (F.upd (F.upd (F.upd (F.upd (F.upd (F.upd (F.upd (F.upd (F.upd (F.upd (F.upd (F.upd (F.upd (F.upd (F.upd (F.upd (F.upd (F.upd (F.upd (F.upd (F.upd (F.upd (F.upd (F.upd (F.upd (F.upd (initF [v0, v1, v2, v3]) 4 t1) 8 (.int .i64 0)) 12 v3) 13 v2) 14 t5) 15 t6) 16 t6) 17 t7) 18 t9) 19 t11) 20 t13) 21 t15) 22 t17) 23 t19) 24 t21) 25 t23) 26 t25) 27 t27) 28 t27) 29 t28) 30 t30) 31 t32) 32 t34) 33 t36) 34 t38) 35 t40) 36 t42) 37 t44) 38 t46) 39 t48) 40 t50) 41 v3) 42 t51) 9 t51) 43 t52) 44 t53) 45 v2) 46 v3) 47 t54) 48 t55) 49 t56) 50 t57) 51 t58) 52 t59) 53 (.int .i64 0)) w49.drew)) w47) w45) w43) w41) w39) w37) w35) w33) w31) w29) w26) w24) w22) w20) w18) w16) w14) w12) w10) w8) w2.drew) w
theorem body177 : Try.f177.body = some (bodyOf Try.f177) := by kernel_rfl
theorem same177 (v0 v1 v2 v3 : Value) (k : Value → World → Prop) (w : World) : wpF Try.prog pl177 (bodyOf Try.f177) (bodyQ Try.prog Try.f177.results.toList k) (initF [v0, v1, v2, v3]) w = S177 v0 v1 v2 v3 k w := by kernel_rfl
theorem enter177 {v0 v1 v2 v3 : Value} {k : Value → World → Prop} {w : World} (h : S177 v0 v1 v2 v3 k w) : CallK Try.prog 177 [v0, v1, v2, v3] k w :=
  call_of_wpF (pl := pl177) mixed Try.func177 body177 (by kernel_rfl) (of_decide_eq_true (by kernel_rfl)) (by kernel_rfl) (by kernel_rfl) (same177 v0 v1 v2 v3 k w ▸ h)

/-! (loop.example/g00758/impl.Grammar).tree$1 -/
def pl178 : Plans := fun i => match i with
  | 1 => ⟨true, [], .step 0 .any (.step 1 .held (.step 2 .any (.step 3 .any (.step 4 .any (.step 5 .held (.step 6 .any (.step 7 .any (.step 8 .held (.step 9 .any (.step 10 .held (.step 11 .any (.step 12 .any (.step 13 .one (.step 14 .any (.step 15 .any (.step 16 .any (.step 17 .any (.step 18 .held (.step 19 .held (.step 20 .any (.step 21 .any (.step 22 .held (.step 23 .any (.step 24 .any (.step 25 .held (.step 26 .any (.step 27 .any (.step 28 .any (.nil)))))))))))))))))))))))))))))⟩
  | 3 => ⟨false, [11], .step 0 .any (.step 1 .held (.step 2 .any (.step 3 .any (.step 4 .held (.step 5 .any (.step 6 .any (.step 7 .any (.step 8 .held (.step 9 .any (.step 10 .any (.step 11 .last (.step 12 .any (.nil)))))))))))))⟩
  | 4 => ⟨false, [], .step 0 .any (.step 1 .held (.step 2 .any (.step 3 .any (.step 4 .any (.step 5 .held (.step 6 .any (.step 7 .any (.step 8 .held (.step 9 .any (.step 10 .any (.nil)))))))))))⟩
  | 8 => ⟨true, [4, 5], .step 0 .held (.step 1 .any (.step 2 .one (.step 3 .one (.step 4 .last (.step 5 .last (.nil))))))⟩
  | 9 => ⟨false, [6], .step 0 .held (.step 1 .any (.step 2 .any (.step 3 .any (.step 4 .any (.step 5 .held (.step 6 .last (.step 7 .any (.step 8 .any (.step 9 .any (.step 10 .any (.step 11 .any (.nil))))))))))))⟩
  | _ => ⟨false, [], .nil⟩
def S178 (v0 v1 v2 v3 v4 v5 : Value) (k : Value → World → Prop) (w : World) : Prop :=
 ∃ S1 : World → Prop, ∃ h2 : S1 w.drew,
 Rd Try.prog ⟨S1, w.drew, h2⟩ (sLoad 22 v2) fun t3 =>
 Rd Try.prog WS.any (sBuiltin .len #[22] 3 [false] [t3]) fun t4 =>
 Rd Try.prog WS.any (sBin .geq 3 false v1 t4) fun t5 =>
 GuardK t5 false (fun k w' => Rd Try.prog ⟨S1, w.drew, h2⟩ (sLoad 22 v2) fun v => k v w') (fun t6 w7 =>
 GuardK t5 false (fun k w' => k v1 w') (fun t8 w9 =>
 GuardK t5 false (fun k w' => Rd Try.prog WS.any (sIndexAddr 22 t6 t8) fun v => k v w') (fun t10 w11 =>
 GuardK t5 false (fun k w' => Rd Try.prog ⟨S1, w.drew, h2⟩ (sLoad 3 t10) fun v => k v w') (fun t12 w13 =>
 GuardK t5 false (fun k w' => Rd Try.prog WS.any (sFieldAddr 37 v3 2) fun v => k v w') (fun t14 w15 =>
 GuardK t5 false (fun k w' => Rd Try.prog ⟨S1, w.drew, h2⟩ (sLoad 35 t14) fun v => k v w') (fun t16 w17 =>
 GuardK t5 false (fun k w' => Rd Try.prog WS.any (sBuiltin .len #[35] 3 [false] [t16]) fun v => k v w') (fun t18 w19 =>
 GuardK t5 false (fun k w' => Rd Try.prog WS.any (sBin .sub 3 true t18 (.int .i64 1)) fun v => k v w') (fun t20 w21 =>
 GuardK t5 false (fun k w' => CallK Try.prog 103 [t12, (.int .i64 0), t20] k w') (fun t22 w23 =>
 S1 w23 ∧ GuardK t5 false (fun k w' => Rd Try.prog WS.any (sUn .not t22) fun v => k v w') (fun t24 w25 =>
 Rd Try.prog WS.any (sPick t5 (.bool true) t24) fun t26 =>
 GuardK t26 false (fun k w' => Rd Try.prog WS.any (sFieldAddr 37 v3 2) fun v => k v w') (fun t27 w28 =>
 GuardK t26 false (fun k w' => Rd Try.prog ⟨S1, w.drew, h2⟩ (sLoad 35 t27) fun v => k v w') (fun t29 w30 =>
 GuardK t26 false (fun k w' => Rd Try.prog ⟨S1, w.drew, h2⟩ (sLoad 22 v2) fun v => k v w') (fun t31 w32 =>
 GuardK t26 false (fun k w' => k v1 w') (fun t33 w34 =>
 GuardK t26 false (fun k w' => Rd Try.prog WS.any (sIndexAddr 22 t31 t33) fun v => k v w') (fun t35 w36 =>
 GuardK t26 false (fun k w' => Rd Try.prog ⟨S1, w.drew, h2⟩ (sLoad 3 t35) fun v => k v w') (fun t37 w38 =>
 GuardK t26 false (fun k w' => Rd Try.prog WS.any (sIndexAddr 35 t29 t37) fun v => k v w') (fun t39 w40 =>
 GuardK t26 false (fun k w' => Rd Try.prog WS.any (sFieldAddr 77 t39 0) fun v => k v w') (fun t41 w42 =>
 GuardK t26 false (fun k w' => Rd Try.prog ⟨S1, w.drew, h2⟩ (sLoad 3 t41) fun v => k v w') (fun t43 w44 =>
 GuardK t26 false (fun k w' => k v0 w') (fun t45 w46 =>
 GuardK t26 false (fun k w' => Rd Try.prog WS.any (sBin .neq 3 false t43 t45) fun v => k v w') (fun t47 w48 =>
 Rd Try.prog WS.any (sPick t26 (.bool true) t47) fun t49 =>
 CondK t49
  (k (.tuple #[(.pointer none), (.bool false)]) w48)
  (Rd Try.prog (WS.at w48.drew) (sLoad 22 v2) fun t50 =>
  Rd Try.prog WS.any (sIndexAddr 22 t50 v1) fun t51 =>
  Rd Try.prog (WS.at w48.drew) (sLoad 3 t51) fun t52 =>
  Rd Try.prog WS.any (sBin .add 3 true v1 (.int .i64 1)) fun t53 =>
  Rd Try.prog (WS.at w48.drew) (sLoad 22 v4) fun t54 =>
  Rd Try.prog WS.any (sBuiltin .len #[22] 3 [false] [t54]) fun t55 =>
  Rd Try.prog WS.any (sBuild 93 [(0, v0), (1, t52), (2, v1), (3, t53), (4, t55)]) fun t56 =>
  Do Try.prog (sBox 93 t56) (fun t57 w58 =>
  Rd Try.prog WS.any (sFieldAddr 37 v3 2) fun t59 =>
  Rd Try.prog (WS.at w58.drew) (sLoad 35 t59) fun t60 =>
  Rd Try.prog WS.any (sNilCheck t57) fun t61 =>
  Rd Try.prog WS.any (sFieldAddr 93 t61 1) fun t62 =>
  Rd Try.prog (WS.at w58.drew) (sLoad 3 t62) fun t63 =>
  Rd Try.prog WS.any (sIndexAddr 35 t60 t63) fun t64 =>
  Rd Try.prog WS.any (sFieldAddr 77 t64 1) fun t65 =>
  Rd Try.prog (WS.at w58.drew) (sLoad 22 t65) fun t66 =>
  Rd Try.prog WS.any (sBuiltin .len #[22] 3 [false] [t66]) fun t67 =>
  LoopF [67, 68, 69, 12, 70, 71, 72, 73, 74, 75, 76, 78, 79, 80, 81, 82, 83, 84, 77, 85, 86, 13, 14, 87, 88, 8, 9, 89, 90, 91, 92, 93, 94, 95, 96, 97, 98, 99, 100, 101, 102, 103, 104, 105, 106, 66] (fun Q68 f69 w70 =>
   Rd Try.prog (WS.at w70) (sBin .lss 3 false (f69 66) (f69 65)) fun t71 =>
   CondK t71
    (Join (fun K72 =>
    Rd Try.prog (WS.at w70) (sIndexAddr 22 (f69 64) (f69 66)) fun t75 =>
    Rd Try.prog (WS.at w70) (sLoad 3 t75) fun t76 =>
    Rd Try.prog (WS.at w70) (sBin .lss 3 true t76 (.int .i64 0)) fun t77 =>
    CondK t77
     (∃ S78 : World → Prop, ∃ h79 : S78 w70.drew,
     Rd Try.prog ⟨S78, w70.drew, h79⟩ (sLoad 22 (f69 4)) fun t80 =>
     CallK Try.prog 179 [t76] (fun t81 w82 =>
     S78 w82 ∧ Do Try.prog (sBuildSlice 22 1 [(0, t81)]) (fun t83 w84 =>
     S78 w84 ∧ Do Try.prog (sBuiltin .append #[22, 22] 22 [false, false] [t80, t83]) (fun t85 w86 =>
     Do Try.prog (sStore 22 (f69 4) t85) (fun _ w87 =>
     K72 (F.upd (F.upd (F.upd (F.upd (F.upd (F.upd (F.upd (F.upd (F.upd (F.upd (F.upd f69 67 t71) 68 t75) 69 t76) 12 t76) 70 t76) 71 t77) 72 t80) 73 t76) 74 t81) 75 t83) 76 t85) w87) w86) w84) w82) w70.drew)
     (Rd Try.prog (WS.at w70.drew) (sLoad 181 (f69 5)) fun t88 =>
     Rd Try.prog WS.any (sNilCheck (f69 10)) fun t89 =>
     Rd Try.prog WS.any (sFieldAddr 93 t89 3) fun t90 =>
     Rd Try.prog (WS.at w70.drew) (sLoad 3 t90) fun t91 =>
     Do Try.prog (sCallV t88 [t76, t91] 182) (fun t92 w93 =>
     Rd Try.prog WS.any (sExtract t92 0) fun t94 =>
     Rd Try.prog WS.any (sExtract t92 1) fun t95 =>
     Rd Try.prog (WS.at w93) (sUn .not t95) fun t96 =>
     CondK t96
      (Q68 .ret (F.upd (F.upd (F.upd (F.upd (F.upd (F.upd (F.upd (F.upd (F.upd (F.upd (F.upd (F.upd (F.upd (F.upd (F.upd (F.upd (F.upd (F.upd (F.upd (F.upd (F.upd (F.upd f69 67 t71) 68 t75) 69 t76) 12 t76) 70 t76) 71 t77) 78 t88) 79 t76) 80 (f69 10)) 81 t89) 82 t90) 83 t91) 84 t92) 77 t92) 85 t94) 86 t95) 13 t94) 14 t95) 87 t95) 88 t96) 8 (.pointer none)) 9 (.bool false)) w93)
      (Rd Try.prog (WS.at w93) (sNilCheck (f69 10)) fun t97 =>
      Rd Try.prog (WS.at w93) (sFieldAddr 93 t97 6) fun t98 =>
      Rd Try.prog (WS.at w93) (sLoad 91 t98) fun t99 =>
      Do Try.prog (sBuildSlice 91 1 [(0, t94)]) (fun t100 w101 =>
      Do Try.prog (sBuiltin .append #[91, 91] 91 [false, false] [t99, t100]) (fun t102 w103 =>
      Rd Try.prog (WS.at w103) (sNilCheck (f69 10)) fun t104 =>
      Rd Try.prog (WS.at w103) (sFieldAddr 93 t104 6) fun t105 =>
      Do Try.prog (sStore 91 t105 t102) (fun _ w106 =>
      Rd Try.prog (WS.at w106) (sNilCheck t94) fun t107 =>
      Rd Try.prog (WS.at w106) (sFieldAddr 93 t107 3) fun t108 =>
      Rd Try.prog (WS.at w106) (sLoad 3 t108) fun t109 =>
      Rd Try.prog (WS.at w106) (sNilCheck (f69 10)) fun t110 =>
      Rd Try.prog (WS.at w106) (sFieldAddr 93 t110 3) fun t111 =>
      Do Try.prog (sStore 3 t111 t109) (fun _ w112 =>
      K72 (F.upd (F.upd (F.upd (F.upd (F.upd (F.upd (F.upd (F.upd (F.upd (F.upd (F.upd (F.upd (F.upd (F.upd (F.upd (F.upd (F.upd (F.upd (F.upd (F.upd (F.upd (F.upd (F.upd (F.upd (F.upd (F.upd (F.upd (F.upd (F.upd (F.upd (F.upd (F.upd (F.upd (F.upd (F.upd (F.upd (F.upd f69 67 t71) 68 t75) 69 t76) 12 t76) 70 t76) 71 t77) 78 t88) 79 t76) 80 (f69 10)) 81 t89) 82 t90) 83 t91) 84 t92) 77 t92) 85 t94) 86 t95) 13 t94) 14 t95) 87 t95) 88 t96) 89 (f69 10)) 90 (f69 10)) 91 t97) 92 t98) 93 t99) 94 t94) 95 t100) 96 t102) 97 t104) 98 t105) 99 (f69 10)) 100 t94) 101 t107) 102 t108) 103 t109) 104 t110) 105 t111) w112) w106) w103) w101) w93)) w70.drew)) (fun f73 w74 =>
    Rd Try.prog (WS.at w74) (sBin .add 3 true (f73 66) (.int .i64 1)) fun t113 =>
    Q68 .normal (F.upd (F.upd f73 106 t113) 66 t113) w74))
    (Q68 (.exit 0) (F.upd f69 67 t71) w70))
   (blockQ 0 (seqQ (fun f114 w115 =>
  Rd Try.prog (WS.at w115) (sLoad 22 (f114 4)) fun t116 =>
  Rd Try.prog (WS.at w115) (sBuiltin .len #[22] 3 [false] [t116]) fun t117 =>
  Rd Try.prog (WS.at w115) (sNilCheck (f114 10)) fun t118 =>
  Rd Try.prog (WS.at w115) (sFieldAddr 93 t118 5) fun t119 =>
  Do Try.prog (sStore 3 t119 t117) (fun _ w120 =>
  k (.tuple #[(f114 10), (.bool true)]) w120) w115) (bodyQ Try.prog [.tmp 8, .tmp 9] k)))
   (F.upd (F.upd (F.upd (F.upd (F.upd (F.upd (F.upd (F.upd (F.upd (F.upd (F.upd (F.upd (F.upd (F.upd (F.upd (F.upd (F.upd (F.upd (F.upd (F.upd (F.upd (F.upd (F.upd (F.upd (F.upd (F.upd (F.upd (F.upd (F.upd (F.upd (F.upd (F.upd (F.upd (F.upd (F.upd (F.upd (F.upd (F.upd (F.upd (F.upd (F.upd (F.upd (F.upd (F.upd (F.upd (F.upd (F.upd (F.upd (F.upd (F.upd (F.upd (F.upd (F.upd (F.upd (F.upd (initF [v0, v1, v2, v3, v4, v5]) 8 (.pointer none)) 9 (.bool false)) 15 v1) 16 t3) 17 t4) 18 t5) 19 t5) 20 t6) 21 t8) 22 t10) 23 t12) 24 t14) 25 t16) 26 t18) 27 t20) 28 t22) 29 t24) 30 t26) 31 t26) 32 t27) 33 t29) 34 t31) 35 t33) 36 t35) 37 t37) 38 t39) 39 t41) 40 t43) 41 t45) 42 t47) 43 t49) 44 v0) 45 t50) 46 v1) 47 t51) 48 t52) 49 v1) 50 v1) 51 t53) 52 t54) 53 t55) 54 t56) 55 t57) 10 t57) 56 t59) 57 t60) 58 t57) 59 t61) 60 t62) 61 t63) 62 t64) 63 t65) 64 t66) 65 t67) 66 (.int .i64 0)) w58.drew) w48.drew)) w46) w44) w42) w40) w38) w36) w34) w32) w30) w28) w25) w23) w21) w19) w17) w15) w13) w11) w9) w7) w.drew
theorem body178 : Try.f178.body = some (bodyOf Try.f178) := by kernel_rfl
theorem same178 (v0 v1 v2 v3 v4 v5 : Value) (k : Value → World → Prop) (w : World) : wpF Try.prog pl178 (bodyOf Try.f178) (bodyQ Try.prog Try.f178.results.toList k) (initF [v0, v1, v2, v3, v4, v5]) w = S178 v0 v1 v2 v3 v4 v5 k w := by kernel_rfl
theorem enter178 {v0 v1 v2 v3 v4 v5 : Value} {k : Value → World → Prop} {w : World} (h : S178 v0 v1 v2 v3 v4 v5 k w) : CallK Try.prog 178 [v0, v1, v2, v3, v4, v5] k w :=
  call_of_wpF (pl := pl178) mixed Try.func178 body178 (by kernel_rfl) (of_decide_eq_true (by kernel_rfl)) (by kernel_rfl) (by kernel_rfl) (same178 v0 v1 v2 v3 v4 v5 k w ▸ h)

/-! loop.example/g00758/impl.symbolOf -/
def pl179 : Plans := fun _ => ⟨false, [], .nil⟩
def S179 (v0 : Value) (k : Value → World → Prop) (w : World) : Prop :=
 Rd Try.prog (WS.at w) (sBin .sub 3 true (.int .i64 (-1)) v0) fun t1 =>
 k t1 w
theorem body179 : Try.f179.body = some (bodyOf Try.f179) := by kernel_rfl
theorem same179 (v0 : Value) (k : Value → World → Prop) (w : World) : wpF Try.prog pl179 (bodyOf Try.f179) (bodyQ Try.prog Try.f179.results.toList k) (initF [v0]) w = S179 v0 k w := by kernel_rfl
theorem enter179 {v0 : Value} {k : Value → World → Prop} {w : World} (h : S179 v0 k w) : CallK Try.prog 179 [v0] k w :=
  call_of_wpF (pl := pl179) mixed Try.func179 body179 (by kernel_rfl) (of_decide_eq_true (by kernel_rfl)) (by kernel_rfl) (by kernel_rfl) (same179 v0 k w ▸ h)

end Go.Proofs.Ytiohaeckagjebaa

/- Contracts: where a tree ends (the reference). -/
set_option linter.unusedVariables false
set_option linter.unusedSimpArgs false
set_option maxRecDepth 100000
namespace Go.Sh
open Go
def optI : Option Nat → Int
  | none => -1
  | some e => e
end Go.Sh
namespace Go.Proofs.Ytiohaeckagjebaa
open Go Go.Sh Go.RowKit

theorem l11End_c {gm : Gram} {tree : List Int} {X : Option Addr} {c : Nat} (hg : goodG gm = true) (ht : tree.length ≤ 1000) : ∀ (fu : Nat) {F : Nat → Prop} {w : World} {v : Value} {non : Int} {a : Nat} {k : Value → World → Prop}, GramV F w v gm → Ints w X tree → tree.length - a ≤ fu →
    (∀ w', Gr w w' → k (.int .i64 (optI (endT gm.rules tree fu non a))) w') → CallK Try.prog 177 [v, .int .i64 non, .slice X tree.length c, .int .i64 a] k w := by
  have hr16 := good_len hg
  intro fu
  induction fu with
  | zero =>
    intro F w v non a k hv hx hf hk
    obtain ⟨Y, cy, rfl, hc, hy⟩ := hv
    refine enter177 ?_
    unfold S177
    have H := Apt.nil w
    refine boxH H fun b1 w1 H => ?_
    have H := H.drew
    refine ⟨fun w' => Gr w1.drew w', Gr.refl _, ?_⟩
    simp only [go_sem, Nat.reduceEqDiff]
    simp only [show (tree.length : Int) ≤ a from by omega, decide_true, go_sem, Nat.reduceEqDiff]
    exact ⟨Gr.refl _, hk _ H.gr⟩
  | succ fu ih =>
    intro F w v non a k hv hx hf hk
    obtain ⟨Y, cy, rfl, hc, hy⟩ := hv
    refine enter177 ?_
    unfold S177
    have H := Apt.nil w
    refine boxH H fun b1 w1 H => ?_
    have H := H.drew
    refine ⟨fun w' => Gr w1.drew w', Gr.refl _, ?_⟩
    simp only [go_sem, Nat.reduceEqDiff]
    by_cases hlt : a < tree.length
    case neg =>
      simp only [show (tree.length : Int) ≤ a from by omega, decide_true, go_sem, Nat.reduceEqDiff]
      refine ⟨Gr.refl _, ?_⟩
      have := hk _ H.gr
      rwa [show endT gm.rules tree (fu + 1) non a = none from endT_no (okT_lt hlt)] at this
    simp only [show ¬ ((tree.length : Int) ≤ a) from by omega, decide_false, go_sem, Nat.reduceEqDiff]
    have hx1 := hx.gr H.gr
    have hy1 := hy.gr H.gr
    rw [ixn22 hx.ptr hlt, ldS3 (fun w' hw' => Gr.cell hw' (hx1.cell a hlt)), rdG one35 (H.box 0 rfl) rfl]
    simp only [go_sem, Nat.reduceEqDiff]
    rw [i64_of (by omega) (by omega)]
    refine l1In_c ?_
    refine ⟨Gr.refl _, ?_⟩
    by_cases hin : inB (tree.getD a 0) 0 ((gm.rules.length : Int) - 1) = true
    case neg =>
      have hin := Bool.eq_false_iff.2 hin
      simp only [hin, Bool.not_false, go_sem, Nat.reduceEqDiff]
      have := hk _ H.gr
      rwa [show endT gm.rules tree (fu + 1) non a = none from endT_no (okT_in hin)] at this
    obtain ⟨q, hqe, hq⟩ : ∃ q : Nat, tree.getD a 0 = q ∧ q < gm.rules.length := by
      simp only [inB, Bool.and_eq_true, decide_eq_true_eq] at hin
      exact ⟨(tree.getD a 0).toNat, by omega, by omega⟩
    simp only [hin, Bool.not_true, go_sem, Nat.reduceEqDiff]
    obtain ⟨Z, cz, h1, h2, h3, h4⟩ := hy.row q hq
    rw [rdG one35 (H.box 0 rfl) rfl, ixn22 hx.ptr hlt, ldS3 (fun w' hw' => Gr.cell hw' (hx1.cell a hlt)), hqe, ixn35 hy.ptr hq, fa77_0, add_zero', ldS3 (fun w' hw' => Gr.cell hw' (H.gr.cell h1))]
    simp only [go_sem, Nat.reduceEqDiff]
    by_cases hne : (rul gm.rules q).1 = non
    case neg =>
      simp only [hne, decide_false, Bool.not_false, go_sem, Nat.reduceEqDiff]
      have := hk _ H.gr
      rwa [show endT gm.rules tree (fu + 1) non a = none from endT_no (okT_ne hqe hne)] at this
    simp only [hne, decide_true, Bool.not_true, go_sem, Nat.reduceEqDiff]
    have H := H.drew
    rw [i64_of (by omega) (by omega), ldB35 (H.box 0 rfl) rfl, ixn22 hx.ptr hlt, ld3 ((hx.gr H.gr).cell a hlt), hqe, ixn35 hy.ptr hq, fa77_1, add_add, ld22 (H.gr.cell h2)]
    simp only [go_sem, Nat.reduceEqDiff]
    have hE0 : endT gm.rules tree (fu + 1) non a = endR (endT gm.rules tree fu) (rul gm.rules q).2 (a + 1) := by
      have hok := okT_of hlt hin hqe hne
      simp only [endT, hok, if_true, rgtT, hqe, Int.toNat_natCast]
    rw [hE0] at hk
    clear hE0 h1 h2
    generalize (rul gm.rules q).2 = R at *
    refine loop_to R.length 0 (fun i f w' => i ≤ R.length ∧ f 53 = .int .i64 i ∧ (∃ e : Nat, f 9 = .int .i64 e ∧ a + 1 ≤ e ∧ endR (endT gm.rules tree fu) (R.drop i) e = endR (endT gm.rules tree fu) R (a + 1)) ∧ Apt w w' [bx b1 [.int .i64 gm.nons, .int .i64 gm.toks, .slice Y gm.rules.length cy] 37]) ⟨Nat.zero_le _, rfl, ⟨a + 1, rfl, Nat.le_refl _, rfl⟩, H⟩ ?_
    rintro i f w2 N hag ⟨hi, h53, ⟨e, h9, hle, hE⟩, H⟩ hN
    have f51 : f 51 = .slice Z R.length cz := hag 51 (by decide)
    have f52 : f 52 = .int .i64 R.length := hag 52 (by decide)
    have f4 : f 4 = .pointer (some ⟨b1, 0, none⟩) := hag 4 (by decide)
    have f2 : f 2 = .slice X tree.length c := hag 2 (by decide)
    simp only [f51, f52, f4, f2, h53, h9, go_sem, Nat.reduceEqDiff]
    by_cases hlt2 : i < R.length
    · simp only [show (i : Int) < R.length from by omega, decide_true, go_sem, Nat.reduceEqDiff]
      have hR : R.drop i = R.getD i 0 :: R.drop (i + 1) := by
        rw [List.drop_eq_getElem_cons hlt2]
        simp [List.getD_eq_getElem?_getD, hlt2]
      rw [hR, endR] at hE
      have hRl := h4.is.le
      rw [ixn22 h4.is.ptr hlt2, ld3 ((h4.is.gr H.gr).cell i hlt2)]
      by_cases hneg : R.getD i 0 < 0
      · simp only [hneg, decide_true, go_sem, Nat.reduceEqDiff]
        rw [if_pos hneg] at hE
        rw [i64_of (by omega) (by omega)]
        exact hN _ _ hlt2 ⟨hlt2, rfl, ⟨e, h9, hle, hE⟩, H⟩
      · simp only [hneg, decide_false, go_sem, Nat.reduceEqDiff]
        rw [if_neg hneg] at hE
        rw [ldB_agg agg37 sz37 rfl (H.box 0 rfl)]
        refine ih (non := R.getD i 0) (a := e) ⟨Y, cy, rfl, hc, hy.gr H.gr⟩ (hx.gr H.gr) (by omega) fun w3 g3 => ?_
        have H := H.step g3
        simp only [go_sem, Nat.reduceEqDiff]
        cases hz : endT gm.rules tree fu (R.getD i 0) e with
        | none =>
          rw [hz] at hE
          simp only [optI, show ((-1 : Int) < 0) from by decide, decide_true, go_sem, Nat.reduceEqDiff]
          have := hk _ H.gr
          rwa [← hE] at this
        | some e' =>
          rw [hz] at hE
          have := endT_gt hz
          simp only [optI, show ¬ ((e' : Int) < 0) from by omega, decide_false, go_sem, Nat.reduceEqDiff]
          rw [i64_of (by omega) (by omega)]
          exact hN _ _ hlt2 ⟨hlt2, rfl, ⟨e', rfl, by omega, hE⟩, H⟩
    · simp only [show ¬ (i : Int) < R.length from by omega, decide_false, go_sem, Nat.reduceEqDiff]
      rw [List.drop_eq_nil_of_le (by omega), endR] at hE
      have := hk _ H.gr
      rwa [← hE] at this
end Go.Proofs.Ytiohaeckagjebaa

/- Contracts: whether a tree is one, its parts, by the reference. -/
set_option linter.unusedVariables false
set_option linter.unusedSimpArgs false
set_option maxRecDepth 100000
namespace Go.Sh
open Go
theorem good_nons {g : Gram} (hg : goodG g = true) : 1 ≤ g.nons ∧ g.nons ≤ 6 := by
  simp only [goodG, inB, Bool.and_eq_true, decide_eq_true_eq] at hg
  exact hg.1.1.1
theorem good_toks {g : Gram} (hg : goodG g = true) : 1 ≤ g.toks ∧ g.toks ≤ 4 := by
  simp only [goodG, inB, Bool.and_eq_true, decide_eq_true_eq] at hg
  exact hg.1.1.2
def isT (gm : Gram) (tree : List Int) : Bool := decide (0 < tree.length) && decide (endT gm.rules tree tree.length 0 0 = some tree.length)
def askedT (gm : Gram) (tree : List Int) : Bool := goodG gm && decide (tree.length ≤ 60) && isT gm tree
theorem optI_eq {o : Option Nat} {n : Nat} : (optI o = n) = (o = some n) := by
  cases o with
  | none => exact propext ⟨fun h => by simp only [optI] at h; omega, fun h => by cases h⟩
  | some e => simp only [optI, Int.natCast_inj, Option.some.injEq]
end Go.Sh
namespace Go.Proofs.Ytiohaeckagjebaa
open Go Go.Sh Go.RowKit

theorem l11Asked_c {F : Nat → Prop} {w : World} {v : Value} {gm : Gram} {non : Int} {X : Option Addr} {n c : Nat} (hv : GramV F w v gm) {k : Value → World → Prop} (hk : ∀ w', Gr w w' → k (.bool (goodG gm && inB non 0 (gm.nons - 1) && decide (n ≤ 60))) w') :
    CallK Try.prog 142 [v, .int .i64 non, .slice X n c] k w := by
  obtain ⟨Y, cy, rfl, hc, hy⟩ := hv
  refine enter142 ?_
  unfold S142
  have H := Apt.nil w
  refine boxH H fun b1 w1 H => ?_
  rw [ldB_agg agg37 sz37 rfl (H.box 0 rfl)]
  refine goodGrammar_c (gm := gm) ⟨Y, cy, rfl, hc, hy.gr H.gr⟩ fun w2 g2 => ?_
  have H := H.step g2
  cases hg : goodG gm
  · simp only [go_sem, Nat.reduceEqDiff]
    have := hk _ H.gr
    simpa only [hg, Bool.false_and] using this
  have hn := good_nons hg
  simp only [go_sem, Nat.reduceEqDiff]
  rw [ldB3 (H.box 0 rfl) rfl]
  simp only [go_sem, Nat.reduceEqDiff]
  rw [i64_of (by omega) (by omega)]
  refine l1In_c ?_
  have := hk _ H.gr
  rw [hg, Bool.true_and] at this
  cases hi : inB non 0 (gm.nons - 1)
  · simp only [go_sem, Nat.reduceEqDiff]
    rwa [hi, Bool.false_and] at this
  · simp only [go_sem, Nat.reduceEqDiff]
    rw [hi, Bool.true_and] at this
    rwa [show (decide ((n : Int) ≤ 60)) = decide (n ≤ 60) from decide_eq_decide.2 (by omega)]
theorem l11Is_c {F : Nat → Prop} {w : World} {v : Value} {gm : Gram} {X : Option Addr} {tree : List Int} {n c : Nat} (hv : GramV F w v gm) (hg : goodG gm = true) (hx : Ints w X tree) (hn : n = tree.length) (ht : tree.length ≤ 1000) {k : Value → World → Prop} (hk : ∀ w', Gr w w' → k (.bool (isT gm tree)) w') :
    CallK Try.prog 143 [v, .int .i64 0, .slice X n c] k w := by
  subst hn
  obtain ⟨Y, cy, rfl, hc, hy⟩ := hv
  refine enter143 ?_
  unfold S143
  have H := Apt.nil w
  refine boxH H fun b1 w1 H => ?_
  simp only [go_sem, Nat.reduceEqDiff]
  by_cases h0 : 0 < tree.length
  case neg =>
    simp only [show ¬ ((0 : Int) < tree.length) from by omega, decide_false, go_sem, Nat.reduceEqDiff]
    have := hk _ H.gr
    rwa [show isT gm tree = false from by rw [isT, decide_eq_false h0, Bool.false_and]] at this
  simp only [show (0 : Int) < tree.length from by omega, decide_true, go_sem, Nat.reduceEqDiff]
  rw [ldB_agg agg37 sz37 rfl (H.box 0 rfl)]
  refine l11End_c hg ht tree.length (a := 0) ⟨Y, cy, rfl, hc, hy.gr H.gr⟩ (hx.gr H.gr) (by omega) fun w2 g2 => ?_
  have H := H.step g2
  simp only [go_sem, Nat.reduceEqDiff]
  have := hk _ H.gr
  rw [isT, decide_eq_true h0, Bool.true_and] at this
  simpa only [optI_eq] using this
theorem l18Asked_c {F : Nat → Prop} {w : World} {v : Value} {gm : Gram} {X : Option Addr} {tree : List Int} {n c : Nat} (hv : GramV F w v gm) (hx : Ints w X tree) (hn : n = tree.length) {k : Value → World → Prop} (hk : ∀ w', Gr w w' → k (.bool (askedT gm tree)) w') :
    CallK Try.prog 91 [v, .slice X n c] k w := by
  subst hn
  obtain ⟨Y, cy, rfl, hc, hy⟩ := hv
  refine enter91 ?_
  unfold S91
  have H := Apt.nil w
  refine boxH H fun b1 w1 H => ?_
  rw [ldB_agg agg37 sz37 rfl (H.box 0 rfl)]
  refine l11Asked_c (gm := gm) ⟨Y, cy, rfl, hc, hy.gr H.gr⟩ fun w2 g2 => ?_
  have H := H.step g2
  have hk' := hk
  unfold askedT at hk'
  cases hg : goodG gm
  · simp only [Bool.false_and, go_sem, Nat.reduceEqDiff]
    simpa only [hg, Bool.false_and] using hk' _ H.gr
  have hn := good_nons hg
  rw [show inB 0 0 (gm.nons - 1) = true from by simp only [inB, Bool.and_eq_true, decide_eq_true_eq]; omega]
  by_cases hl : tree.length ≤ 60
  case neg =>
    simp only [hl, decide_false, Bool.and_false, go_sem, Nat.reduceEqDiff]
    simpa only [hl, decide_false, Bool.and_false, Bool.false_and] using hk' _ H.gr
  simp only [hl, decide_true, Bool.and_true, go_sem, Nat.reduceEqDiff]
  rw [ldB_agg agg37 sz37 rfl (H.box 0 rfl)]
  refine l11Is_c (gm := gm) ⟨Y, cy, rfl, hc, hy.gr H.gr⟩ hg (hx.gr H.gr) rfl (by omega) fun w3 g3 => ?_
  have H := H.step g3
  simpa only [hg, hl, decide_true, Bool.true_and] using hk' _ H.gr
end Go.Proofs.Ytiohaeckagjebaa

/- Bf: bodies of functions as terms of the frame calculus, printed by shgen.py of this repository. -/
set_option linter.unusedVariables false
set_option maxRecDepth 100000
namespace Go.Proofs.Ytiohaeckagjebaa
open Go Go.Sh

/-! loop.example/g00758/laws.FnExactIsPump -/
def pl11 : Plans := fun i => match i with
  | 16 => ⟨true, [3], .step 0 .held (.step 1 .held (.step 2 .one (.step 3 .last (.step 4 .any (.nil)))))⟩
  | _ => ⟨false, [], .nil⟩
def S11 (v0 v1 v2 v3 : Value) (k : Value → World → Prop) (w : World) : Prop :=
 Do Try.prog (sBox 31 v0) (fun t1 w2 =>
 Rd Try.prog (WS.at w2) (sBuiltin .len #[22] 3 [false] [v1]) fun t3 =>
 Rd Try.prog (WS.at w2) (sBin .gtr 3 true t3 (.int .i64 1048576)) fun t4 =>
 CondK t4
  (k (.bool true) w2)
  (Rd Try.prog (WS.at w2) (sBuiltin .len #[22] 3 [false] [v2]) fun t5 =>
  Rd Try.prog (WS.at w2) (sBin .gtr 3 true t5 (.int .i64 1048576)) fun t6 =>
  CondK t6
   (k (.bool true) w2)
   (Rd Try.prog (WS.at w2) (sLoad 31 t1) fun t7 =>
   CallK Try.prog 29 [t7, (.int .i64 1048576)] (fun t8 w9 =>
   Rd Try.prog (WS.at w9) (sBin .lss 3 true t8 (.int .i64 0)) fun t10 =>
   CondK t10
    (k (.bool true) w9)
    (Rd Try.prog (WS.at w9) (sLoad 31 t1) fun t11 =>
    CallK Try.prog 31 [t11] (fun t12 w13 =>
    CallK Try.prog 24 [v1] (fun t14 w15 =>
    CallK Try.prog 24 [v2] (fun t16 w17 =>
    CallK Try.prog 51 [t12, t14, t16, v3] (fun t18 w19 =>
    Rd Try.prog (WS.at w19) (sExtract t18 0) fun t20 =>
    Rd Try.prog (WS.at w19) (sExtract t18 1) fun t21 =>
    Rd Try.prog (WS.at w19) (sLoad 31 t1) fun t22 =>
    CallK Try.prog 31 [t22] (fun t23 w24 =>
    Do Try.prog (sAlloc 37) (fun t25 w26 =>
    Do Try.prog (sStore 37 t25 t23) (fun _ w27 =>
    CallK Try.prog 24 [v1] (fun t28 w29 =>
    CallK Try.prog 24 [v2] (fun t30 w31 =>
    Rd Try.prog (WS.at w31) (sLoad 37 t25) fun t32 =>
    CallK Try.prog 52 [t32, t28, t30, v3] (fun t33 w34 =>
    Rd Try.prog (WS.at w34) (sExtract t33 0) fun t35 =>
    Rd Try.prog (WS.at w34) (sExtract t33 1) fun t36 =>
    Rd Try.prog (WS.at w34) (sBin .neq 4 false t35 t20) fun t37 =>
    GuardK t37 false (fun k w' => k t36 w') (fun t38 w39 =>
    GuardK t37 false (fun k w' => k t21 w') (fun t40 w41 =>
    GuardK t37 false (fun k w' => Rd Try.prog (WS.at w41) (sBin .neq 4 false t38 t40) fun v => k v w') (fun t42 w43 =>
    Rd Try.prog (WS.at w43) (sPick t37 (.bool true) t42) fun t44 =>
    CondK t44
     (k (.bool false) w43)
     (∃ S45 : World → Prop, ∃ h46 : S45 w43.drew,
     Rd Try.prog ⟨S45, w43.drew, h46⟩ (sLoad 37 t25) fun t47 =>
     Rd Try.prog ⟨S45, w43.drew, h46⟩ (sLoad 31 t1) fun t48 =>
     CallK Try.prog 31 [t48] (fun t49 w50 =>
     S45 w50 ∧ CallK Try.prog 33 [t47, t49] (fun t51 w52 =>
     Rd Try.prog WS.any (sUn .not t51) fun t53 =>
     CondK t53
      (k (.bool false) w52)
      (CallK Try.prog 24 [v1] (fun t54 w55 =>
      CallK Try.prog 26 [t28, t54] (fun t56 w57 =>
      Rd Try.prog (WS.at w57) (sUn .not t56) fun t58 =>
      CondK t58
       (k (.bool false) w57)
       (CallK Try.prog 24 [v2] (fun t59 w60 =>
       CallK Try.prog 26 [t30, t59] (fun t61 w62 =>
       Rd Try.prog (WS.at w62) (sUn .not t61) fun t63 =>
       CondK t63
        (k (.bool false) w62)
        (k (.bool true) w62)) w60) w57)) w55) w52)) w50) w43.drew)) w41) w39) w34) w31) w29) w27) w26) w24) w19) w17) w15) w13) w9)) w2))) w
theorem body11 : Try.f11.body = some (bodyOf Try.f11) := by kernel_rfl
theorem same11 (v0 v1 v2 v3 : Value) (k : Value → World → Prop) (w : World) : wpF Try.prog pl11 (bodyOf Try.f11) (bodyQ Try.prog Try.f11.results.toList k) (initF [v0, v1, v2, v3]) w = S11 v0 v1 v2 v3 k w := by kernel_rfl
theorem enter11 {v0 v1 v2 v3 : Value} {k : Value → World → Prop} {w : World} (h : S11 v0 v1 v2 v3 k w) : CallK Try.prog 11 [v0, v1, v2, v3] k w :=
  call_of_wpF (pl := pl11) mixed Try.func11 body11 (by kernel_rfl) (of_decide_eq_true (by kernel_rfl)) (by kernel_rfl) (by kernel_rfl) (same11 v0 v1 v2 v3 k w ▸ h)

/-! loop.example/g00758/spec.IsPump -/
def pl51 : Plans := fun i => match i with
  | 1 => ⟨true, [31], .step 0 .held (.step 1 .any (.step 2 .one (.step 3 .any (.step 4 .any (.step 5 .any (.step 6 .any (.step 7 .any (.step 8 .one (.step 9 .any (.step 10 .any (.step 11 .any (.step 12 .any (.step 13 .any (.step 14 .held (.step 15 .any (.step 16 .any (.step 17 .held (.step 18 .any (.step 19 .any (.step 20 .any (.step 21 .any (.step 22 .held (.step 23 .any (.step 24 .any (.step 25 .held (.step 26 .any (.step 27 .any (.step 28 .any (.step 29 .any (.step 30 .any (.step 31 .last (.step 32 .any (.step 33 .any (.nil))))))))))))))))))))))))))))))))))⟩
  | _ => ⟨false, [], .nil⟩
def S51 (v0 v1 v2 v3 : Value) (k : Value → World → Prop) (w : World) : Prop :=
 Do Try.prog (sBox 37 v0) (fun t1 w2 =>
 ∃ S3 : World → Prop, ∃ h4 : S3 w2.drew,
 Rd Try.prog ⟨S3, w2.drew, h4⟩ (sLoad 37 t1) fun t5 =>
 CallK Try.prog 101 [t5, v1] (fun t6 w7 =>
 S3 w7 ∧ Rd Try.prog WS.any (sUn .not t6) fun t8 =>
 GuardK t8 false (fun k w' => k v2 w') (fun t9 w10 =>
 GuardK t8 false (fun k w' => k v1 w') (fun t11 w12 =>
 GuardK t8 false (fun k w' => Rd Try.prog WS.any (sBuiltin .len #[22] 3 [false] [t11]) fun v => k v w') (fun t13 w14 =>
 GuardK t8 false (fun k w' => CallK Try.prog 76 [t9, t13] k w') (fun t15 w16 =>
 S3 w16 ∧ GuardK t8 false (fun k w' => Rd Try.prog WS.any (sUn .not t15) fun v => k v w') (fun t17 w18 =>
 Rd Try.prog WS.any (sPick t8 (.bool true) t17) fun t19 =>
 GuardK t19 false (fun k w' => k v2 w') (fun t20 w21 =>
 GuardK t19 false (fun k w' => Rd Try.prog WS.any (sIndexAddr 22 t20 (.int .i64 0)) fun v => k v w') (fun t22 w23 =>
 GuardK t19 false (fun k w' => Rd Try.prog ⟨S3, w2.drew, h4⟩ (sLoad 3 t22) fun v => k v w') (fun t24 w25 =>
 GuardK t19 false (fun k w' => k v2 w') (fun t26 w27 =>
 GuardK t19 false (fun k w' => Rd Try.prog WS.any (sIndexAddr 22 t26 (.int .i64 1)) fun v => k v w') (fun t28 w29 =>
 GuardK t19 false (fun k w' => Rd Try.prog ⟨S3, w2.drew, h4⟩ (sLoad 3 t28) fun v => k v w') (fun t30 w31 =>
 GuardK t19 false (fun k w' => Rd Try.prog WS.any (sBin .eql 3 false t24 t30) fun v => k v w') (fun t32 w33 =>
 GuardK t19 false (fun k w' => k t32 w') (fun t34 w35 =>
 GuardK t34 true (fun k w' => k v2 w') (fun t36 w37 =>
 GuardK t34 true (fun k w' => Rd Try.prog WS.any (sIndexAddr 22 t36 (.int .i64 2)) fun v => k v w') (fun t38 w39 =>
 GuardK t34 true (fun k w' => Rd Try.prog ⟨S3, w2.drew, h4⟩ (sLoad 3 t38) fun v => k v w') (fun t40 w41 =>
 GuardK t34 true (fun k w' => k v2 w') (fun t42 w43 =>
 GuardK t34 true (fun k w' => Rd Try.prog WS.any (sIndexAddr 22 t42 (.int .i64 3)) fun v => k v w') (fun t44 w45 =>
 GuardK t34 true (fun k w' => Rd Try.prog ⟨S3, w2.drew, h4⟩ (sLoad 3 t44) fun v => k v w') (fun t46 w47 =>
 GuardK t34 true (fun k w' => Rd Try.prog WS.any (sBin .eql 3 false t40 t46) fun v => k v w') (fun t48 w49 =>
 GuardK t19 false (fun k w' => Rd Try.prog WS.any (sPick t34 t48 (.bool false)) fun v => k v w') (fun t50 w51 =>
 Rd Try.prog WS.any (sPick t19 (.bool true) t50) fun t52 =>
 GuardK t52 false (fun k w' => k v3 w') (fun t53 w54 =>
 GuardK t52 false (fun k w' => CallK Try.prog 77 [t53, (.int .i64 0), (.int .i64 4)] k w') (fun t55 w56 =>
 GuardK t52 false (fun k w' => Rd Try.prog WS.any (sUn .not t55) fun v => k v w') (fun t57 w58 =>
 Rd Try.prog WS.any (sPick t52 (.bool true) t57) fun t59 =>
 CondK t59
  (k (.tuple #[(.bool false), (.bool false)]) w58)
  (LoopF [48, 49, 50, 54, 55, 56, 57, 53, 58, 59, 12, 13, 60, 61, 62, 63, 64, 65, 66, 8, 9, 67, 68, 69, 70, 71, 72, 10, 51, 52, 11] (fun Q60 f61 w62 =>
   Rd Try.prog (WS.at w62) (sBin .leq 3 false (f61 11) (f61 3)) fun t63 =>
   CondK t63
    (CallK Try.prog 23 [(f61 1), (f61 2), (f61 11)] (fun t64 w65 =>
    Rd Try.prog (WS.at w65) (sExtract t64 0) fun t66 =>
    Rd Try.prog (WS.at w65) (sExtract t64 1) fun t67 =>
    Rd Try.prog (WS.at w65) (sUn .not t67) fun t68 =>
    GuardK t68 false (fun k w' => k t66 w') (fun t69 w70 =>
    GuardK t68 false (fun k w' => Rd Try.prog (WS.at w70) (sBuiltin .len #[22] 3 [false] [t69]) fun v => k v w') (fun t71 w72 =>
    GuardK t68 false (fun k w' => Rd Try.prog (WS.at w72) (sBin .gtr 3 true t71 (.int .i64 10)) fun v => k v w') (fun t73 w74 =>
    Rd Try.prog (WS.at w74) (sPick t68 (.bool true) t73) fun t75 =>
    CondK t75
     (Q60 .ret (F.upd (F.upd (F.upd (F.upd (F.upd (F.upd (F.upd (F.upd (F.upd (F.upd (F.upd (F.upd (F.upd (F.upd (F.upd (F.upd (F.upd (F.upd (F.upd (F.upd (F.upd f61 48 (f61 11)) 49 (f61 3)) 50 t63) 54 (f61 1)) 55 (f61 2)) 56 (f61 11)) 57 t64) 53 t64) 58 t66) 59 t67) 12 t66) 13 t67) 60 t67) 61 t68) 62 t68) 63 t69) 64 t71) 65 t73) 66 t75) 8 (.bool false)) 9 (.bool false)) w74)
     (GuardK (f61 10) true (fun k w' => Rd Try.prog (WS.at w74) (sLoad 37 (f61 4)) fun v => k v w') (fun t76 w77 =>
     GuardK (f61 10) true (fun k w' => k t66 w') (fun t78 w79 =>
     GuardK (f61 10) true (fun k w' => CallK Try.prog 102 [t76, (.int .i64 0), t78] k w') (fun t80 w81 =>
     Rd Try.prog (WS.at w81) (sPick (f61 10) t80 (.bool false)) fun t82 =>
     Rd Try.prog (WS.at w81) (sBin .add 3 true (f61 11) (.int .i64 1)) fun t83 =>
     Q60 .normal (F.upd (F.upd (F.upd (F.upd (F.upd (F.upd (F.upd (F.upd (F.upd (F.upd (F.upd (F.upd (F.upd (F.upd (F.upd (F.upd (F.upd (F.upd (F.upd (F.upd (F.upd (F.upd (F.upd (F.upd (F.upd (F.upd (F.upd (F.upd (F.upd f61 48 (f61 11)) 49 (f61 3)) 50 t63) 54 (f61 1)) 55 (f61 2)) 56 (f61 11)) 57 t64) 53 t64) 58 t66) 59 t67) 12 t66) 13 t67) 60 t67) 61 t68) 62 t68) 63 t69) 64 t71) 65 t73) 66 t75) 67 (f61 10)) 68 (f61 10)) 69 t76) 70 t78) 71 t80) 72 t82) 10 t82) 51 (f61 11)) 52 t83) 11 t83) w81) w79) w77) w74)) w72) w70) w65) w62)
    (Q60 (.exit 0) (F.upd (F.upd (F.upd f61 48 (f61 11)) 49 (f61 3)) 50 t63) w62))
   (blockQ 0 (seqQ (fun f84 w85 =>
  k (.tuple #[(f84 10), (.bool true)]) w85) (bodyQ Try.prog [.tmp 8, .tmp 9] k)))
   (F.upd (F.upd (F.upd (F.upd (F.upd (F.upd (F.upd (F.upd (F.upd (F.upd (F.upd (F.upd (F.upd (F.upd (F.upd (F.upd (F.upd (F.upd (F.upd (F.upd (F.upd (F.upd (F.upd (F.upd (F.upd (F.upd (F.upd (F.upd (F.upd (F.upd (F.upd (F.upd (F.upd (F.upd (F.upd (F.upd (F.upd (F.upd (F.upd (initF [v0, v1, v2, v3]) 4 t1) 8 (.bool false)) 9 (.bool false)) 14 t5) 15 v1) 16 t6) 17 t8) 18 t8) 19 t9) 20 t11) 21 t13) 22 t15) 23 t17) 24 t19) 25 t19) 26 t20) 27 t22) 28 t24) 29 t26) 30 t28) 31 t30) 32 t32) 33 t34) 34 t36) 35 t38) 36 t40) 37 t42) 38 t44) 39 t46) 40 t48) 41 t50) 42 t52) 43 t52) 44 t53) 45 t55) 46 t57) 47 t59) 10 (.bool true)) 11 (.int .i64 0)) w58)) w56) w54) w51) w49) w47) w45) w43) w41) w39) w37) w35) w33) w31) w29) w27) w25) w23) w21) w18) w16) w14) w12) w10) w7) w2.drew) w
theorem body51 : Try.f51.body = some (bodyOf Try.f51) := by kernel_rfl
theorem same51 (v0 v1 v2 v3 : Value) (k : Value → World → Prop) (w : World) : wpF Try.prog pl51 (bodyOf Try.f51) (bodyQ Try.prog Try.f51.results.toList k) (initF [v0, v1, v2, v3]) w = S51 v0 v1 v2 v3 k w := by kernel_rfl
theorem enter51 {v0 v1 v2 v3 : Value} {k : Value → World → Prop} {w : World} (h : S51 v0 v1 v2 v3 k w) : CallK Try.prog 51 [v0, v1, v2, v3] k w :=
  call_of_wpF (pl := pl51) mixed Try.func51 body51 (by kernel_rfl) (of_decide_eq_true (by kernel_rfl)) (by kernel_rfl) (by kernel_rfl) (same51 v0 v1 v2 v3 k w ▸ h)

/-! loop.example/g00758/impl.IsPump -/
def pl52 : Plans := fun i => match i with
  | 1 => ⟨true, [35], .step 0 .held (.step 1 .one (.step 2 .any (.step 3 .any (.step 4 .any (.step 5 .held (.step 6 .any (.step 7 .one (.step 8 .any (.step 9 .any (.step 10 .any (.step 11 .any (.step 12 .any (.step 13 .any (.step 14 .any (.step 15 .any (.step 16 .any (.step 17 .any (.step 18 .held (.step 19 .any (.step 20 .any (.step 21 .held (.step 22 .any (.step 23 .any (.step 24 .any (.step 25 .any (.step 26 .held (.step 27 .any (.step 28 .any (.step 29 .held (.step 30 .any (.step 31 .any (.step 32 .any (.step 33 .any (.step 34 .any (.step 35 .last (.step 36 .any (.step 37 .any (.nil))))))))))))))))))))))))))))))))))))))⟩
  | _ => ⟨false, [], .nil⟩
def S52 (v0 v1 v2 v3 : Value) (k : Value → World → Prop) (w : World) : Prop :=
 Do Try.prog (sBox 37 v0) (fun t1 w2 =>
 ∃ S3 : World → Prop, ∃ h4 : S3 w2.drew,
 Rd Try.prog ⟨S3, w2.drew, h4⟩ (sLoad 37 t1) fun t5 =>
 CallK Try.prog 84 [t5] (fun t6 w7 =>
 S3 w7 ∧ Rd Try.prog WS.any (sUn .not t6) fun t8 =>
 GuardK t8 false (fun k w' => Rd Try.prog WS.any (sFieldAddr 37 t1 1) fun v => k v w') (fun t9 w10 =>
 GuardK t8 false (fun k w' => Rd Try.prog ⟨S3, w2.drew, h4⟩ (sLoad 3 t9) fun v => k v w') (fun t11 w12 =>
 GuardK t8 false (fun k w' => k v1 w') (fun t13 w14 =>
 GuardK t8 false (fun k w' => CallK Try.prog 99 [t11, t13] k w') (fun t15 w16 =>
 S3 w16 ∧ GuardK t8 false (fun k w' => Rd Try.prog WS.any (sUn .not t15) fun v => k v w') (fun t17 w18 =>
 Rd Try.prog WS.any (sPick t8 (.bool true) t17) fun t19 =>
 GuardK t19 false (fun k w' => k v2 w') (fun t20 w21 =>
 GuardK t19 false (fun k w' => Rd Try.prog WS.any (sBuiltin .len #[22] 3 [false] [t20]) fun v => k v w') (fun t22 w23 =>
 GuardK t19 false (fun k w' => Rd Try.prog WS.any (sBin .neq 3 true t22 (.int .i64 4)) fun v => k v w') (fun t24 w25 =>
 Rd Try.prog WS.any (sPick t19 (.bool true) t24) fun t26 =>
 GuardK t26 false (fun k w' => k v2 w') (fun t27 w28 =>
 GuardK t26 false (fun k w' => Rd Try.prog WS.any (sIndexAddr 22 t27 (.int .i64 0)) fun v => k v w') (fun t29 w30 =>
 GuardK t26 false (fun k w' => Rd Try.prog ⟨S3, w2.drew, h4⟩ (sLoad 3 t29) fun v => k v w') (fun t31 w32 =>
 GuardK t26 false (fun k w' => k v2 w') (fun t33 w34 =>
 GuardK t26 false (fun k w' => Rd Try.prog WS.any (sIndexAddr 22 t33 (.int .i64 1)) fun v => k v w') (fun t35 w36 =>
 GuardK t26 false (fun k w' => Rd Try.prog ⟨S3, w2.drew, h4⟩ (sLoad 3 t35) fun v => k v w') (fun t37 w38 =>
 GuardK t26 false (fun k w' => Rd Try.prog WS.any (sBin .geq 3 false t31 t37) fun v => k v w') (fun t39 w40 =>
 GuardK t26 false (fun k w' => k t39 w') (fun t41 w42 =>
 GuardK t41 true (fun k w' => k v2 w') (fun t43 w44 =>
 GuardK t41 true (fun k w' => Rd Try.prog WS.any (sIndexAddr 22 t43 (.int .i64 2)) fun v => k v w') (fun t45 w46 =>
 GuardK t41 true (fun k w' => Rd Try.prog ⟨S3, w2.drew, h4⟩ (sLoad 3 t45) fun v => k v w') (fun t47 w48 =>
 GuardK t41 true (fun k w' => k v2 w') (fun t49 w50 =>
 GuardK t41 true (fun k w' => Rd Try.prog WS.any (sIndexAddr 22 t49 (.int .i64 3)) fun v => k v w') (fun t51 w52 =>
 GuardK t41 true (fun k w' => Rd Try.prog ⟨S3, w2.drew, h4⟩ (sLoad 3 t51) fun v => k v w') (fun t53 w54 =>
 GuardK t41 true (fun k w' => Rd Try.prog WS.any (sBin .geq 3 false t47 t53) fun v => k v w') (fun t55 w56 =>
 GuardK t26 false (fun k w' => Rd Try.prog WS.any (sPick t41 t55 (.bool false)) fun v => k v w') (fun t57 w58 =>
 Rd Try.prog WS.any (sPick t26 (.bool true) t57) fun t59 =>
 GuardK t59 false (fun k w' => k v3 w') (fun t60 w61 =>
 GuardK t59 false (fun k w' => CallK Try.prog 103 [t60, (.int .i64 0), (.int .i64 4)] k w') (fun t62 w63 =>
 GuardK t59 false (fun k w' => Rd Try.prog WS.any (sUn .not t62) fun v => k v w') (fun t64 w65 =>
 Rd Try.prog WS.any (sPick t59 (.bool true) t64) fun t66 =>
 CondK t66
  (k (.tuple #[(.bool false), (.bool false)]) w65)
  (Rd Try.prog (WS.at w65) (sBin .add 3 true v3 (.int .i64 1)) fun t67 =>
  LoopF [55, 56, 11, 58, 59, 60, 61, 57, 62, 63, 12, 13, 64, 65, 66, 67, 68, 69, 70, 8, 9, 71, 72, 73, 74, 75, 76, 77, 78, 79, 80, 81, 82, 83, 84, 10, 85, 54] (fun Q68 f69 w70 =>
   Rd Try.prog (WS.at w70) (sBin .lss 3 false (f69 54) (f69 53)) fun t71 =>
   CondK t71
    (CallK Try.prog 79 [(f69 1), (f69 2), (f69 54)] (fun t72 w73 =>
    Rd Try.prog (WS.at w73) (sExtract t72 0) fun t74 =>
    Rd Try.prog (WS.at w73) (sExtract t72 1) fun t75 =>
    Rd Try.prog (WS.at w73) (sUn .not t75) fun t76 =>
    GuardK t76 false (fun k w' => k t74 w') (fun t77 w78 =>
    GuardK t76 false (fun k w' => Rd Try.prog (WS.at w78) (sBuiltin .len #[22] 3 [false] [t77]) fun v => k v w') (fun t79 w80 =>
    GuardK t76 false (fun k w' => Rd Try.prog (WS.at w80) (sBin .gtr 3 true t79 (.int .i64 10)) fun v => k v w') (fun t81 w82 =>
    Rd Try.prog (WS.at w82) (sPick t76 (.bool true) t81) fun t83 =>
    CondK t83
     (Q68 .ret (F.upd (F.upd (F.upd (F.upd (F.upd (F.upd (F.upd (F.upd (F.upd (F.upd (F.upd (F.upd (F.upd (F.upd (F.upd (F.upd (F.upd (F.upd (F.upd (F.upd (F.upd f69 55 t71) 56 (f69 54)) 11 (f69 54)) 58 (f69 1)) 59 (f69 2)) 60 (f69 54)) 61 t72) 57 t72) 62 t74) 63 t75) 12 t74) 13 t75) 64 t75) 65 t76) 66 t76) 67 t77) 68 t79) 69 t81) 70 t83) 8 (.bool false)) 9 (.bool false)) w82)
     (GuardK (f69 10) true (fun k w' => Rd Try.prog (WS.at w82) (sLoad 37 (f69 4)) fun v => k v w') (fun t84 w85 =>
     GuardK (f69 10) true (fun k w' => k t74 w') (fun t86 w87 =>
     GuardK (f69 10) true (fun k w' => CallK Try.prog 104 [t84, t86] k w') (fun t88 w89 =>
     GuardK (f69 10) true (fun k w' => k t74 w') (fun t90 w91 =>
     GuardK (f69 10) true (fun k w' => Rd Try.prog (WS.at w91) (sBuiltin .len #[22] 3 [false] [t90]) fun v => k v w') (fun t92 w93 =>
     GuardK (f69 10) true (fun k w' => Rd Try.prog (WS.at w93) (sNilCheck t88) fun v => k v w') (fun t94 w95 =>
     GuardK (f69 10) true (fun k w' => Rd Try.prog (WS.at w95) (sFieldAddr 111 t94 1) fun v => k v w') (fun t96 w97 =>
     GuardK (f69 10) true (fun k w' => Rd Try.prog (WS.at w97) (sIndexAddr 109 t96 (.int .i64 0)) fun v => k v w') (fun t98 w99 =>
     GuardK (f69 10) true (fun k w' => Rd Try.prog (WS.at w99) (sIndexAddr 108 t98 (.int .i64 0)) fun v => k v w') (fun t100 w101 =>
     GuardK (f69 10) true (fun k w' => Rd Try.prog (WS.at w101) (sIndexAddr 107 t100 t92) fun v => k v w') (fun t102 w103 =>
     GuardK (f69 10) true (fun k w' => Rd Try.prog (WS.at w103) (sLoad 4 t102) fun v => k v w') (fun t104 w105 =>
     Rd Try.prog (WS.at w105) (sPick (f69 10) t104 (.bool false)) fun t106 =>
     Rd Try.prog (WS.at w105) (sBin .add 3 true (f69 54) (.int .i64 1)) fun t107 =>
     Q68 .normal (F.upd (F.upd (F.upd (F.upd (F.upd (F.upd (F.upd (F.upd (F.upd (F.upd (F.upd (F.upd (F.upd (F.upd (F.upd (F.upd (F.upd (F.upd (F.upd (F.upd (F.upd (F.upd (F.upd (F.upd (F.upd (F.upd (F.upd (F.upd (F.upd (F.upd (F.upd (F.upd (F.upd (F.upd (F.upd (F.upd f69 55 t71) 56 (f69 54)) 11 (f69 54)) 58 (f69 1)) 59 (f69 2)) 60 (f69 54)) 61 t72) 57 t72) 62 t74) 63 t75) 12 t74) 13 t75) 64 t75) 65 t76) 66 t76) 67 t77) 68 t79) 69 t81) 70 t83) 71 (f69 10)) 72 (f69 10)) 73 t84) 74 t86) 75 t88) 76 t90) 77 t92) 78 t94) 79 t96) 80 t98) 81 t100) 82 t102) 83 t104) 84 t106) 10 t106) 85 t107) 54 t107) w105) w103) w101) w99) w97) w95) w93) w91) w89) w87) w85) w82)) w80) w78) w73) w70)
    (Q68 (.exit 0) (F.upd f69 55 t71) w70))
   (blockQ 0 (seqQ (fun f108 w109 =>
  k (.tuple #[(f108 10), (.bool true)]) w109) (bodyQ Try.prog [.tmp 8, .tmp 9] k)))
   (F.upd (F.upd (F.upd (F.upd (F.upd (F.upd (F.upd (F.upd (F.upd (F.upd (F.upd (F.upd (F.upd (F.upd (F.upd (F.upd (F.upd (F.upd (F.upd (F.upd (F.upd (F.upd (F.upd (F.upd (F.upd (F.upd (F.upd (F.upd (F.upd (F.upd (F.upd (F.upd (F.upd (F.upd (F.upd (F.upd (F.upd (F.upd (F.upd (F.upd (F.upd (F.upd (F.upd (F.upd (F.upd (initF [v0, v1, v2, v3]) 4 t1) 8 (.bool false)) 9 (.bool false)) 14 t5) 15 t6) 16 t8) 17 t8) 18 t9) 19 t11) 20 t13) 21 t15) 22 t17) 23 t19) 24 t19) 25 t20) 26 t22) 27 t24) 28 t26) 29 t26) 30 t27) 31 t29) 32 t31) 33 t33) 34 t35) 35 t37) 36 t39) 37 t41) 38 t43) 39 t45) 40 t47) 41 t49) 42 t51) 43 t53) 44 t55) 45 t57) 46 t59) 47 t59) 48 t60) 49 t62) 50 t64) 51 t66) 10 (.bool true)) 52 v3) 53 t67) 54 (.int .i64 0)) w65)) w63) w61) w58) w56) w54) w52) w50) w48) w46) w44) w42) w40) w38) w36) w34) w32) w30) w28) w25) w23) w21) w18) w16) w14) w12) w10) w7) w2.drew) w
theorem body52 : Try.f52.body = some (bodyOf Try.f52) := by kernel_rfl
theorem same52 (v0 v1 v2 v3 : Value) (k : Value → World → Prop) (w : World) : wpF Try.prog pl52 (bodyOf Try.f52) (bodyQ Try.prog Try.f52.results.toList k) (initF [v0, v1, v2, v3]) w = S52 v0 v1 v2 v3 k w := by kernel_rfl
theorem enter52 {v0 v1 v2 v3 : Value} {k : Value → World → Prop} {w : World} (h : S52 v0 v1 v2 v3 k w) : CallK Try.prog 52 [v0, v1, v2, v3] k w :=
  call_of_wpF (pl := pl52) mixed Try.func52 body52 (by kernel_rfl) (of_decide_eq_true (by kernel_rfl)) (by kernel_rfl) (by kernel_rfl) (same52 v0 v1 v2 v3 k w ▸ h)

/-! loop.example/g00758/impl.isWord -/
def pl99 : Plans := fun _ => ⟨false, [], .nil⟩
def S99 (v0 v1 : Value) (k : Value → World → Prop) (w : World) : Prop :=
 Do Try.prog (sBox 3 v0) (fun t1 w2 =>
 Rd Try.prog (WS.at w2) (sBuiltin .len #[22] 3 [false] [v1]) fun t3 =>
 Rd Try.prog (WS.at w2) (sBin .leq 3 true t3 (.int .i64 10)) fun t4 =>
 GuardK t4 true (fun k w' => k v1 w') (fun t5 w6 =>
 GuardK t4 true (fun k w' => Rd Try.prog (WS.at w6) (sMakeFunc (.func 146) [] [t1]) fun v => k v w') (fun t7 w8 =>
 GuardK t4 true (fun k w' => CallK Try.prog 129 [t5, t7] k w') (fun t9 w10 =>
 GuardK t4 true (fun k w' => Rd Try.prog (WS.at w10) (sUn .not t9) fun v => k v w') (fun t11 w12 =>
 Rd Try.prog (WS.at w12) (sPick t4 t11 (.bool false)) fun t13 =>
 k t13 w12) w10) w8) w6) w2) w
theorem body99 : Try.f99.body = some (bodyOf Try.f99) := by kernel_rfl
theorem same99 (v0 v1 : Value) (k : Value → World → Prop) (w : World) : wpF Try.prog pl99 (bodyOf Try.f99) (bodyQ Try.prog Try.f99.results.toList k) (initF [v0, v1]) w = S99 v0 v1 k w := by kernel_rfl
theorem enter99 {v0 v1 : Value} {k : Value → World → Prop} {w : World} (h : S99 v0 v1 k w) : CallK Try.prog 99 [v0, v1] k w :=
  call_of_wpF (pl := pl99) mixed Try.func99 body99 (by kernel_rfl) (of_decide_eq_true (by kernel_rfl)) (by kernel_rfl) (by kernel_rfl) (same99 v0 v1 k w ▸ h)

/-! loop.example/g00758/spec.GoodWord -/
def pl101 : Plans := fun _ => ⟨false, [], .nil⟩
def S101 (v0 v1 : Value) (k : Value → World → Prop) (w : World) : Prop :=
 Do Try.prog (sBox 37 v0) (fun t1 w2 =>
 Rd Try.prog (WS.at w2) (sLoad 37 t1) fun t3 =>
 CallK Try.prog 81 [t3] (fun t4 w5 =>
 GuardK t4 true (fun k w' => Rd Try.prog (WS.at w5) (sLoad 37 t1) fun v => k v w') (fun t6 w7 =>
 GuardK t4 true (fun k w' => k v1 w') (fun t8 w9 =>
 GuardK t4 true (fun k w' => CallK Try.prog 112 [t6, t8] k w') (fun t10 w11 =>
 Rd Try.prog (WS.at w11) (sPick t4 t10 (.bool false)) fun t12 =>
 k t12 w11) w9) w7) w5) w2) w
theorem body101 : Try.f101.body = some (bodyOf Try.f101) := by kernel_rfl
theorem same101 (v0 v1 : Value) (k : Value → World → Prop) (w : World) : wpF Try.prog pl101 (bodyOf Try.f101) (bodyQ Try.prog Try.f101.results.toList k) (initF [v0, v1]) w = S101 v0 v1 k w := by kernel_rfl
theorem enter101 {v0 v1 : Value} {k : Value → World → Prop} {w : World} (h : S101 v0 v1 k w) : CallK Try.prog 101 [v0, v1] k w :=
  call_of_wpF (pl := pl101) mixed Try.func101 body101 (by kernel_rfl) (of_decide_eq_true (by kernel_rfl)) (by kernel_rfl) (by kernel_rfl) (same101 v0 v1 k w ▸ h)

/-! loop.example/g00758/spec.l4In -/
def pl102 : Plans := fun _ => ⟨false, [], .nil⟩
def S102 (v0 v1 v2 : Value) (k : Value → World → Prop) (w : World) : Prop :=
 Do Try.prog (sBox 37 v0) (fun t1 w2 =>
 Rd Try.prog (WS.at w2) (sLoad 37 t1) fun t3 =>
 CallK Try.prog 148 [t3, v2] (fun t4 w5 =>
 Rd Try.prog (WS.at w5) (sIndexAddr 162 t4 v1) fun t6 =>
 Rd Try.prog (WS.at w5) (sLoad 161 t6) fun t7 =>
 Rd Try.prog (WS.at w5) (sBuiltin .len #[22] 3 [false] [v2]) fun t8 =>
 Rd Try.prog (WS.at w5) (sIndexAddr 161 t7 t8) fun t9 =>
 Rd Try.prog (WS.at w5) (sLoad 4 t9) fun t10 =>
 k t10 w5) w2) w
theorem body102 : Try.f102.body = some (bodyOf Try.f102) := by kernel_rfl
theorem same102 (v0 v1 v2 : Value) (k : Value → World → Prop) (w : World) : wpF Try.prog pl102 (bodyOf Try.f102) (bodyQ Try.prog Try.f102.results.toList k) (initF [v0, v1, v2]) w = S102 v0 v1 v2 k w := by kernel_rfl
theorem enter102 {v0 v1 v2 : Value} {k : Value → World → Prop} {w : World} (h : S102 v0 v1 v2 k w) : CallK Try.prog 102 [v0, v1, v2] k w :=
  call_of_wpF (pl := pl102) mixed Try.func102 body102 (by kernel_rfl) (of_decide_eq_true (by kernel_rfl)) (by kernel_rfl) (by kernel_rfl) (same102 v0 v1 v2 k w ▸ h)

/-! (loop.example/g00758/impl.Grammar).spans -/
def pl104 : Plans := fun i => match i with
  | 14 => ⟨false, [18], .step 0 .any (.step 1 .any (.step 2 .held (.step 3 .any (.step 4 .any (.step 5 .any (.step 6 .any (.step 7 .any (.step 8 .any (.step 9 .any (.step 10 .held (.step 11 .any (.step 12 .any (.step 13 .any (.step 14 .any (.step 15 .held (.step 16 .any (.step 17 .any (.step 18 .last (.step 19 .any (.nil))))))))))))))))))))⟩
  | 15 => ⟨false, [10], .step 0 .any (.step 1 .any (.step 2 .held (.step 3 .any (.step 4 .any (.step 5 .any (.step 6 .any (.step 7 .any (.step 8 .any (.step 9 .any (.step 10 .last (.nil)))))))))))⟩
  | _ => ⟨false, [], .nil⟩
def S104 (v0 v1 : Value) (k : Value → World → Prop) (w : World) : Prop :=
 Do Try.prog (sBox 37 v0) (fun t1 w2 =>
 Rd Try.prog (WS.at w2) (sBuild 111 [(0, v1)]) fun t3 =>
 Do Try.prog (sBox 111 t3) (fun t4 w5 =>
 LoopF [14, 6, 15, 16, 17, 18, 19, 20, 21, 8, 22, 23, 24, 25, 26, 27, 9, 28, 10, 29, 30, 31, 32, 35, 36, 37, 38, 39, 40, 41, 42, 43, 44, 45, 46, 47, 48, 49, 50, 51, 52, 53, 54, 55, 56, 57, 58, 59, 60, 61, 62, 63, 64, 6, 33, 34, 10, 65, 25, 66, 18] (fun Q6 f7 w8 =>
  CondK (f7 6)
   (Rd Try.prog (WS.at w8) (sFieldAddr 37 (f7 2) 2) fun t9 =>
   Rd Try.prog (WS.at w8) (sLoad 35 t9) fun t10 =>
   Rd Try.prog (WS.at w8) (sBuiltin .len #[35] 3 [false] [t10]) fun t11 =>
   LoopF [19, 20, 21, 8, 22, 23, 24, 25, 26, 27, 9, 28, 10, 29, 30, 31, 32, 35, 36, 37, 38, 39, 40, 41, 42, 43, 44, 45, 46, 47, 48, 49, 50, 51, 52, 53, 54, 55, 56, 57, 58, 59, 60, 61, 62, 63, 64, 6, 33, 34, 10, 65, 25, 66, 18] (fun Q12 f13 w14 =>
    Rd Try.prog (WS.at w14) (sBin .lss 3 false (f13 18) (f13 17)) fun t15 =>
    CondK t15
     (Rd Try.prog (WS.at w14) (sIndexAddr 35 (f13 16) (f13 18)) fun t16 =>
     Rd Try.prog (WS.at w14) (sLoad 77 t16) fun t17 =>
     Do Try.prog (sAlloc 77) (fun t18 w19 =>
     Do Try.prog (sStore 77 t18 t17) (fun _ w20 =>
     Rd Try.prog (WS.at w20) (sBuiltin .len #[22] 3 [false] [(f13 1)]) fun t21 =>
     Rd Try.prog (WS.at w20) (sBin .add 3 true t21 (.int .i64 1)) fun t22 =>
     LoopF [26, 27, 9, 28, 10, 29, 30, 31, 32, 35, 36, 37, 38, 39, 40, 41, 42, 43, 44, 45, 46, 47, 48, 49, 50, 51, 52, 53, 54, 55, 56, 57, 58, 59, 60, 61, 62, 63, 64, 6, 33, 34, 10, 65, 25] (fun Q23 f24 w25 =>
      Rd Try.prog (WS.at w25) (sBin .lss 3 false (f24 25) (f24 24)) fun t26 =>
      CondK t26
       (LoopF [29, 30, 31, 32, 35, 36, 37, 38, 39, 40, 41, 42, 43, 44, 45, 46, 47, 48, 49, 50, 51, 52, 53, 54, 55, 56, 57, 58, 59, 60, 61, 62, 63, 64, 6, 33, 34, 10] (fun Q27 f28 w29 =>
        Rd Try.prog (WS.at w29) (sBuiltin .len #[22] 3 [false] [(f28 1)]) fun t30 =>
        Rd Try.prog (WS.at w29) (sBin .leq 3 false (f28 10) t30) fun t31 =>
        CondK t31
         (Join (fun K32 =>
         Rd Try.prog WS.any (sFieldAddr 77 (f28 8) 0) fun t35 =>
         Rd Try.prog (WS.at w29.drew) (sLoad 3 t35) fun t36 =>
         Rd Try.prog WS.any (sNilCheck (f28 5)) fun t37 =>
         Rd Try.prog WS.any (sFieldAddr 111 t37 1) fun t38 =>
         Rd Try.prog WS.any (sIndexAddr 109 t38 t36) fun t39 =>
         Rd Try.prog WS.any (sIndexAddr 108 t39 (f28 9)) fun t40 =>
         Rd Try.prog WS.any (sIndexAddr 107 t40 (f28 10)) fun t41 =>
         Rd Try.prog (WS.at w29.drew) (sLoad 4 t41) fun t42 =>
         Rd Try.prog WS.any (sUn .not t42) fun t43 =>
         GuardK t43 true (fun k w' => k (f28 5) w') (fun t44 w45 =>
         GuardK t43 true (fun k w' => Rd Try.prog WS.any (sFieldAddr 77 (f28 8) 1) fun v => k v w') (fun t46 w47 =>
         GuardK t43 true (fun k w' => Rd Try.prog (WS.at w29.drew) (sLoad 22 t46) fun v => k v w') (fun t48 w49 =>
         GuardK t43 true (fun k w' => k (f28 9) w') (fun t50 w51 =>
         GuardK t43 true (fun k w' => k (f28 10) w') (fun t52 w53 =>
         GuardK t43 true (fun k w' => CallK Try.prog 149 [t44, t48, t50, t52] k w') (fun t54 w55 =>
         Rd Try.prog WS.any (sPick t43 t54 (.bool false)) fun t56 =>
         CondK t56
          (Rd Try.prog WS.any (sFieldAddr 77 (f28 8) 0) fun t57 =>
          Rd Try.prog (WS.at w55.drew) (sLoad 3 t57) fun t58 =>
          Rd Try.prog WS.any (sNilCheck (f28 5)) fun t59 =>
          Rd Try.prog WS.any (sFieldAddr 111 t59 1) fun t60 =>
          Rd Try.prog WS.any (sIndexAddr 109 t60 t58) fun t61 =>
          Rd Try.prog WS.any (sIndexAddr 108 t61 (f28 9)) fun t62 =>
          Rd Try.prog WS.any (sIndexAddr 107 t62 (f28 10)) fun t63 =>
          Do Try.prog (sStore 4 t63 (.bool true)) (fun _ w64 =>
          K32 (F.upd (F.upd (F.upd (F.upd (F.upd (F.upd (F.upd (F.upd (F.upd (F.upd (F.upd (F.upd (F.upd (F.upd (F.upd (F.upd (F.upd (F.upd (F.upd (F.upd (F.upd (F.upd (F.upd (F.upd (F.upd (F.upd (F.upd (F.upd (F.upd (F.upd (F.upd (F.upd (F.upd (F.upd (F.upd f28 29 (f28 10)) 30 (f28 1)) 31 t30) 32 t31) 35 (f28 5)) 36 t35) 37 t36) 38 (f28 9)) 39 (f28 10)) 40 t37) 41 t38) 42 t39) 43 t40) 44 t41) 45 t42) 46 t43) 47 t43) 48 t44) 49 t46) 50 t48) 51 t50) 52 t52) 53 t54) 54 t56) 55 (f28 5)) 56 t57) 57 t58) 58 (f28 9)) 59 (f28 10)) 60 t59) 61 t60) 62 t61) 63 t62) 64 t63) 6 (.bool true)) w64) w55.drew)
          (K32 (F.upd (F.upd (F.upd (F.upd (F.upd (F.upd (F.upd (F.upd (F.upd (F.upd (F.upd (F.upd (F.upd (F.upd (F.upd (F.upd (F.upd (F.upd (F.upd (F.upd (F.upd (F.upd (F.upd (F.upd f28 29 (f28 10)) 30 (f28 1)) 31 t30) 32 t31) 35 (f28 5)) 36 t35) 37 t36) 38 (f28 9)) 39 (f28 10)) 40 t37) 41 t38) 42 t39) 43 t40) 44 t41) 45 t42) 46 t43) 47 t43) 48 t44) 49 t46) 50 t48) 51 t50) 52 t52) 53 t54) 54 t56) w55)) w53) w51) w49) w47) w45) w29.drew) (fun f33 w34 =>
         Rd Try.prog (WS.at w34) (sBin .add 3 true (f33 10) (.int .i64 1)) fun t65 =>
         Q27 .normal (F.upd (F.upd (F.upd f33 33 (f33 10)) 34 t65) 10 t65) w34))
         (Q27 (.exit 6) (F.upd (F.upd (F.upd (F.upd f28 29 (f28 10)) 30 (f28 1)) 31 t30) 32 t31) w29))
        (blockQ 6 (blockQ 5 (seqQ (fun f66 w67 =>
       Rd Try.prog (WS.at w67) (sBin .add 3 true (f66 25) (.int .i64 1)) fun t68 =>
       Q23 .normal (F.upd (F.upd f66 65 t68) 25 t68) w67) Q23)))
        (F.upd (F.upd (F.upd (F.upd (F.upd f24 26 t26) 27 (f24 25)) 9 (f24 25)) 28 (f24 25)) 10 (f24 25)) w25)
       (Q23 (.exit 4) (F.upd f24 26 t26) w25))
      (blockQ 4 (blockQ 3 (seqQ (fun f69 w70 =>
     Rd Try.prog (WS.at w70) (sBin .add 3 true (f69 18) (.int .i64 1)) fun t71 =>
     Q12 .normal (F.upd (F.upd f69 66 t71) 18 t71) w70) Q12)))
      (F.upd (F.upd (F.upd (F.upd (F.upd (F.upd (F.upd (F.upd f13 19 t15) 20 t16) 21 t17) 8 t18) 22 (f13 1)) 23 t21) 24 t22) 25 (.int .i64 0)) w20) w19) w14)
     (Q12 (.exit 2) (F.upd f13 19 t15) w14))
    (blockQ 2 (blockQ 1 Q6))
    (F.upd (F.upd (F.upd (F.upd (F.upd (F.upd f7 14 (f7 6)) 6 (.bool false)) 15 t9) 16 t10) 17 t11) 18 (.int .i64 0)) w8)
   (Q6 (.exit 0) (F.upd f7 14 (f7 6)) w8))
  (blockQ 0 (seqQ (fun f72 w73 =>
 k (f72 5) w73) (bodyQ Try.prog [.tmp 4] k)))
  (F.upd (F.upd (F.upd (F.upd (F.upd (F.upd (F.upd (initF [v0, v1]) 2 t1) 4 (.pointer none)) 11 v1) 12 t3) 13 t4) 5 t4) 6 (.bool true)) w5) w2) w
theorem body104 : Try.f104.body = some (bodyOf Try.f104) := by kernel_rfl
theorem same104 (v0 v1 : Value) (k : Value → World → Prop) (w : World) : wpF Try.prog pl104 (bodyOf Try.f104) (bodyQ Try.prog Try.f104.results.toList k) (initF [v0, v1]) w = S104 v0 v1 k w := by kernel_rfl
theorem enter104 {v0 v1 : Value} {k : Value → World → Prop} {w : World} (h : S104 v0 v1 k w) : CallK Try.prog 104 [v0, v1] k w :=
  call_of_wpF (pl := pl104) mixed Try.func104 body104 (by kernel_rfl) (of_decide_eq_true (by kernel_rfl)) (by kernel_rfl) (by kernel_rfl) (same104 v0 v1 k w ▸ h)

/-! loop.example/g00758/spec.l1Word -/
def pl112 : Plans := fun _ => ⟨false, [], .nil⟩
def S112 (v0 v1 : Value) (k : Value → World → Prop) (w : World) : Prop :=
 Do Try.prog (sBox 37 v0) (fun t1 w2 =>
 Rd Try.prog (WS.at w2) (sBuiltin .len #[22] 3 [false] [v1]) fun t3 =>
 Rd Try.prog (WS.at w2) (sBin .leq 3 true t3 (.int .i64 10)) fun t4 =>
 GuardK t4 true (fun k w' => k v1 w') (fun t5 w6 =>
 GuardK t4 true (fun k w' => Rd Try.prog (WS.at w6) (sFieldAddr 37 t1 1) fun v => k v w') (fun t7 w8 =>
 GuardK t4 true (fun k w' => Rd Try.prog (WS.at w8) (sLoad 3 t7) fun v => k v w') (fun t9 w10 =>
 GuardK t4 true (fun k w' => Rd Try.prog (WS.at w10) (sBin .sub 3 true t9 (.int .i64 1)) fun v => k v w') (fun t11 w12 =>
 GuardK t4 true (fun k w' => CallK Try.prog 75 [t5, (.int .i64 0), t11] k w') (fun t13 w14 =>
 Rd Try.prog (WS.at w14) (sPick t4 t13 (.bool false)) fun t15 =>
 k t15 w14) w12) w10) w8) w6) w2) w
theorem body112 : Try.f112.body = some (bodyOf Try.f112) := by kernel_rfl
theorem same112 (v0 v1 : Value) (k : Value → World → Prop) (w : World) : wpF Try.prog pl112 (bodyOf Try.f112) (bodyQ Try.prog Try.f112.results.toList k) (initF [v0, v1]) w = S112 v0 v1 k w := by kernel_rfl
theorem enter112 {v0 v1 : Value} {k : Value → World → Prop} {w : World} (h : S112 v0 v1 k w) : CallK Try.prog 112 [v0, v1] k w :=
  call_of_wpF (pl := pl112) mixed Try.func112 body112 (by kernel_rfl) (of_decide_eq_true (by kernel_rfl)) (by kernel_rfl) (by kernel_rfl) (same112 v0 v1 k w ▸ h)

/-! loop.example/g00758/impl.isWord$1 -/
def pl146 : Plans := fun _ => ⟨false, [], .nil⟩
def S146 (v0 v1 : Value) (k : Value → World → Prop) (w : World) : Prop :=
 Rd Try.prog (WS.at w) (sLoad 3 v1) fun t1 =>
 Rd Try.prog (WS.at w) (sBin .sub 3 true t1 (.int .i64 1)) fun t2 =>
 CallK Try.prog 103 [v0, (.int .i64 0), t2] (fun t3 w4 =>
 Rd Try.prog (WS.at w4) (sUn .not t3) fun t5 =>
 k t5 w4) w
theorem body146 : Try.f146.body = some (bodyOf Try.f146) := by kernel_rfl
theorem same146 (v0 v1 : Value) (k : Value → World → Prop) (w : World) : wpF Try.prog pl146 (bodyOf Try.f146) (bodyQ Try.prog Try.f146.results.toList k) (initF [v0, v1]) w = S146 v0 v1 k w := by kernel_rfl
theorem enter146 {v0 v1 : Value} {k : Value → World → Prop} {w : World} (h : S146 v0 v1 k w) : CallK Try.prog 146 [v0, v1] k w :=
  call_of_wpF (pl := pl146) mixed Try.func146 body146 (by kernel_rfl) (of_decide_eq_true (by kernel_rfl)) (by kernel_rfl) (by kernel_rfl) (same146 v0 v1 k w ▸ h)

/-! loop.example/g00758/spec.l4Table -/
def pl148 : Plans := fun _ => ⟨false, [], .nil⟩
def S148 (v0 v1 : Value) (k : Value → World → Prop) (w : World) : Prop :=
 Do Try.prog (sBox 37 v0) (fun t1 w2 =>
 Rd Try.prog (WS.at w2) (sBuiltin .len #[22] 3 [false] [v1]) fun t3 =>
 Rd Try.prog (WS.at w2) (sBin .add 3 true t3 (.int .i64 1)) fun t4 =>
 Rd Try.prog (WS.at w2) (sFieldAddr 37 t1 0) fun t5 =>
 Rd Try.prog (WS.at w2) (sLoad 3 t5) fun t6 =>
 Do Try.prog (sMakeSlice 162 t6 t6) (fun t7 w8 =>
 Rd Try.prog (WS.at w8) (sBuiltin .len #[162] 3 [false] [t7]) fun t9 =>
 LoopF [22, 23, 7, 24, 25, 26, 27, 28, 29, 30, 31, 21] (fun Q10 f11 w12 =>
  Rd Try.prog (WS.at w12) (sBin .lss 3 false (f11 21) (f11 20)) fun t13 =>
  CondK t13
   (Rd Try.prog (WS.at w12) (sBin .mul 3 false (f11 5) (f11 5)) fun t14 =>
   Do Try.prog (sMakeSlice 161 t14 t14) (fun t15 w16 =>
   Rd Try.prog (WS.at w16) (sIndexAddr 162 (f11 6) (f11 21)) fun t17 =>
   Do Try.prog (sStore 161 t17 t15) (fun _ w18 =>
   Rd Try.prog (WS.at w18) (sBin .add 3 true (f11 21) (.int .i64 1)) fun t19 =>
   Q10 .normal (F.upd (F.upd (F.upd (F.upd (F.upd (F.upd (F.upd (F.upd (F.upd (F.upd (F.upd (F.upd f11 22 t13) 23 (f11 21)) 7 (f11 21)) 24 (f11 6)) 25 (f11 21)) 26 (f11 5)) 27 (f11 5)) 28 t14) 29 t15) 30 t17) 31 t19) 21 t19) w18) w16) w12)
   (Q10 (.exit 0) (F.upd f11 22 t13) w12))
  (blockQ 0 (seqQ (fun f20 w21 =>
 LoopF [32, 8, 33, 34, 35, 36, 37, 38, 39, 10, 11, 40, 41, 42, 45, 12, 46, 47, 48, 51, 52, 53, 54, 55, 56, 57, 58, 59, 60, 61, 62, 63, 64, 65, 66, 67, 68, 69, 70, 71, 72, 73, 74, 75, 76, 77, 78, 79, 80, 81, 82, 83, 8, 49, 50, 12, 43, 44, 11, 84, 36] (fun Q22 f23 w24 =>
  CondK (f23 8)
   (Rd Try.prog (WS.at w24) (sFieldAddr 37 (f23 2) 2) fun t25 =>
   Rd Try.prog (WS.at w24) (sLoad 35 t25) fun t26 =>
   Rd Try.prog (WS.at w24) (sBuiltin .len #[35] 3 [false] [t26]) fun t27 =>
   LoopF [37, 38, 39, 10, 11, 40, 41, 42, 45, 12, 46, 47, 48, 51, 52, 53, 54, 55, 56, 57, 58, 59, 60, 61, 62, 63, 64, 65, 66, 67, 68, 69, 70, 71, 72, 73, 74, 75, 76, 77, 78, 79, 80, 81, 82, 83, 8, 49, 50, 12, 43, 44, 11, 84, 36] (fun Q28 f29 w30 =>
    Rd Try.prog (WS.at w30) (sBin .lss 3 false (f29 36) (f29 35)) fun t31 =>
    CondK t31
     (Rd Try.prog (WS.at w30) (sIndexAddr 35 (f29 34) (f29 36)) fun t32 =>
     Rd Try.prog (WS.at w30) (sLoad 77 t32) fun t33 =>
     Do Try.prog (sAlloc 77) (fun t34 w35 =>
     Do Try.prog (sStore 77 t34 t33) (fun _ w36 =>
     LoopF [40, 41, 42, 45, 12, 46, 47, 48, 51, 52, 53, 54, 55, 56, 57, 58, 59, 60, 61, 62, 63, 64, 65, 66, 67, 68, 69, 70, 71, 72, 73, 74, 75, 76, 77, 78, 79, 80, 81, 82, 83, 8, 49, 50, 12, 43, 44, 11] (fun Q37 f38 w39 =>
      Rd Try.prog (WS.at w39) (sBin .lss 3 false (f38 11) (f38 5)) fun t40 =>
      CondK t40
       (LoopF [46, 47, 48, 51, 52, 53, 54, 55, 56, 57, 58, 59, 60, 61, 62, 63, 64, 65, 66, 67, 68, 69, 70, 71, 72, 73, 74, 75, 76, 77, 78, 79, 80, 81, 82, 83, 8, 49, 50, 12] (fun Q41 f42 w43 =>
        Rd Try.prog (WS.at w43) (sBin .lss 3 false (f42 12) (f42 5)) fun t44 =>
        CondK t44
         (Join (fun K45 =>
         Rd Try.prog (WS.at w43) (sFieldAddr 77 (f42 10) 0) fun t48 =>
         Rd Try.prog (WS.at w43) (sLoad 3 t48) fun t49 =>
         Rd Try.prog (WS.at w43) (sIndexAddr 162 (f42 6) t49) fun t50 =>
         Rd Try.prog (WS.at w43) (sLoad 161 t50) fun t51 =>
         Rd Try.prog (WS.at w43) (sBin .mul 3 false (f42 11) (f42 5)) fun t52 =>
         Rd Try.prog (WS.at w43) (sBin .add 3 false t52 (f42 12)) fun t53 =>
         Rd Try.prog (WS.at w43) (sIndexAddr 161 t51 t53) fun t54 =>
         Rd Try.prog (WS.at w43) (sLoad 4 t54) fun t55 =>
         Rd Try.prog (WS.at w43) (sUn .not t55) fun t56 =>
         GuardK t56 true (fun k w' => k (f42 6) w') (fun t57 w58 =>
         GuardK t56 true (fun k w' => k (f42 1) w') (fun t59 w60 =>
         GuardK t56 true (fun k w' => Rd Try.prog (WS.at w60) (sFieldAddr 77 (f42 10) 1) fun v => k v w') (fun t61 w62 =>
         GuardK t56 true (fun k w' => Rd Try.prog (WS.at w62) (sLoad 22 t61) fun v => k v w') (fun t63 w64 =>
         GuardK t56 true (fun k w' => k (f42 11) w') (fun t65 w66 =>
         GuardK t56 true (fun k w' => k (f42 12) w') (fun t67 w68 =>
         GuardK t56 true (fun k w' => CallK Try.prog 182 [t57, t59, t63, t65, t67] k w') (fun t69 w70 =>
         Rd Try.prog (WS.at w70) (sPick t56 t69 (.bool false)) fun t71 =>
         CondK t71
          (Rd Try.prog (WS.at w70) (sFieldAddr 77 (f42 10) 0) fun t72 =>
          Rd Try.prog (WS.at w70) (sLoad 3 t72) fun t73 =>
          Rd Try.prog (WS.at w70) (sIndexAddr 162 (f42 6) t73) fun t74 =>
          Rd Try.prog (WS.at w70) (sLoad 161 t74) fun t75 =>
          Rd Try.prog (WS.at w70) (sBin .mul 3 false (f42 11) (f42 5)) fun t76 =>
          Rd Try.prog (WS.at w70) (sBin .add 3 false t76 (f42 12)) fun t77 =>
          Rd Try.prog (WS.at w70) (sIndexAddr 161 t75 t77) fun t78 =>
          Do Try.prog (sStore 4 t78 (.bool true)) (fun _ w79 =>
          K45 (F.upd (F.upd (F.upd (F.upd (F.upd (F.upd (F.upd (F.upd (F.upd (F.upd (F.upd (F.upd (F.upd (F.upd (F.upd (F.upd (F.upd (F.upd (F.upd (F.upd (F.upd (F.upd (F.upd (F.upd (F.upd (F.upd (F.upd (F.upd (F.upd (F.upd (F.upd (F.upd (F.upd (F.upd (F.upd (F.upd (F.upd f42 46 (f42 12)) 47 (f42 5)) 48 t44) 51 (f42 6)) 52 t48) 53 t49) 54 t50) 55 t51) 56 (f42 11)) 57 (f42 5)) 58 t52) 59 (f42 12)) 60 t53) 61 t54) 62 t55) 63 t56) 64 t56) 65 t57) 66 t59) 67 t61) 68 t63) 69 t65) 70 t67) 71 t69) 72 t71) 73 (f42 6)) 74 t72) 75 t73) 76 t74) 77 t75) 78 (f42 11)) 79 (f42 5)) 80 t76) 81 (f42 12)) 82 t77) 83 t78) 8 (.bool true)) w79) w70)
          (K45 (F.upd (F.upd (F.upd (F.upd (F.upd (F.upd (F.upd (F.upd (F.upd (F.upd (F.upd (F.upd (F.upd (F.upd (F.upd (F.upd (F.upd (F.upd (F.upd (F.upd (F.upd (F.upd (F.upd (F.upd (F.upd f42 46 (f42 12)) 47 (f42 5)) 48 t44) 51 (f42 6)) 52 t48) 53 t49) 54 t50) 55 t51) 56 (f42 11)) 57 (f42 5)) 58 t52) 59 (f42 12)) 60 t53) 61 t54) 62 t55) 63 t56) 64 t56) 65 t57) 66 t59) 67 t61) 68 t63) 69 t65) 70 t67) 71 t69) 72 t71) w70)) w68) w66) w64) w62) w60) w58) w43) (fun f46 w47 =>
         Rd Try.prog (WS.at w47) (sBin .add 3 true (f46 12) (.int .i64 1)) fun t80 =>
         Q41 .normal (F.upd (F.upd (F.upd f46 49 (f46 12)) 50 t80) 12 t80) w47))
         (Q41 (.exit 8) (F.upd (F.upd (F.upd f42 46 (f42 12)) 47 (f42 5)) 48 t44) w43))
        (blockQ 8 (blockQ 7 (seqQ (fun f81 w82 =>
       Rd Try.prog (WS.at w82) (sBin .add 3 true (f81 11) (.int .i64 1)) fun t83 =>
       Q37 .normal (F.upd (F.upd (F.upd f81 43 (f81 11)) 44 t83) 11 t83) w82) Q37)))
        (F.upd (F.upd (F.upd (F.upd (F.upd f38 40 (f38 11)) 41 (f38 5)) 42 t40) 45 (f38 11)) 12 (f38 11)) w39)
       (Q37 (.exit 6) (F.upd (F.upd (F.upd f38 40 (f38 11)) 41 (f38 5)) 42 t40) w39))
      (blockQ 6 (blockQ 5 (seqQ (fun f84 w85 =>
     Rd Try.prog (WS.at w85) (sBin .add 3 true (f84 36) (.int .i64 1)) fun t86 =>
     Q28 .normal (F.upd (F.upd f84 84 t86) 36 t86) w85) Q28)))
      (F.upd (F.upd (F.upd (F.upd (F.upd f29 37 t31) 38 t32) 39 t33) 10 t34) 11 (.int .i64 0)) w36) w35) w30)
     (Q28 (.exit 4) (F.upd f29 37 t31) w30))
    (blockQ 4 (blockQ 3 Q22))
    (F.upd (F.upd (F.upd (F.upd (F.upd (F.upd f23 32 (f23 8)) 8 (.bool false)) 33 t25) 34 t26) 35 t27) 36 (.int .i64 0)) w24)
   (Q22 (.exit 2) (F.upd f23 32 (f23 8)) w24))
  (blockQ 2 (seqQ (fun f87 w88 =>
 k (f87 6) w88) (bodyQ Try.prog [.tmp 4] k)))
  (F.upd f20 8 (.bool true)) w21) (bodyQ Try.prog [.tmp 4] k)))
  (F.upd (F.upd (F.upd (F.upd (F.upd (F.upd (F.upd (F.upd (F.upd (F.upd (F.upd (F.upd (F.upd (initF [v0, v1]) 2 t1) 4 (.slice none 0 0)) 13 v1) 14 t3) 15 t4) 5 t4) 16 t5) 17 t6) 18 t7) 6 t7) 19 t7) 20 t9) 21 (.int .i64 0)) w8) w2) w
theorem body148 : Try.f148.body = some (bodyOf Try.f148) := by kernel_rfl
theorem same148 (v0 v1 : Value) (k : Value → World → Prop) (w : World) : wpF Try.prog pl148 (bodyOf Try.f148) (bodyQ Try.prog Try.f148.results.toList k) (initF [v0, v1]) w = S148 v0 v1 k w := by kernel_rfl
theorem enter148 {v0 v1 : Value} {k : Value → World → Prop} {w : World} (h : S148 v0 v1 k w) : CallK Try.prog 148 [v0, v1] k w :=
  call_of_wpF (pl := pl148) mixed Try.func148 body148 (by kernel_rfl) (of_decide_eq_true (by kernel_rfl)) (by kernel_rfl) (by kernel_rfl) (same148 v0 v1 k w ▸ h)

/-! (*loop.example/g00758/impl.table).sequence -/
def pl149 : Plans := fun _ => ⟨false, [], .nil⟩
def S149 (v0 v1 v2 v3 : Value) (k : Value → World → Prop) (w : World) : Prop :=
 Rd Try.prog (WS.at w) (sBuiltin .len #[22] 3 [false] [v1]) fun t1 =>
 Rd Try.prog (WS.at w) (sBin .eql 3 true t1 (.int .i64 0)) fun t2 =>
 CondK t2
  (Rd Try.prog (WS.at w) (sBin .eql 3 false v2 v3) fun t3 =>
  k t3 w)
  (Rd Try.prog (WS.at w) (sIndexAddr 22 v1 (.int .i64 0)) fun t4 =>
  Rd Try.prog (WS.at w) (sLoad 3 t4) fun t5 =>
  Rd Try.prog (WS.at w) (sBin .lss 3 true t5 (.int .i64 0)) fun t6 =>
  CondK t6
   (Rd Try.prog (WS.at w) (sBin .lss 3 false v2 v3) fun t7 =>
   GuardK t7 true (fun k w' => k v0 w') (fun t8 w9 =>
   GuardK t7 true (fun k w' => Rd Try.prog (WS.at w9) (sNilCheck t8) fun v => k v w') (fun t10 w11 =>
   GuardK t7 true (fun k w' => Rd Try.prog (WS.at w11) (sFieldAddr 111 t10 0) fun v => k v w') (fun t12 w13 =>
   GuardK t7 true (fun k w' => Rd Try.prog (WS.at w13) (sLoad 22 t12) fun v => k v w') (fun t14 w15 =>
   GuardK t7 true (fun k w' => k v2 w') (fun t16 w17 =>
   GuardK t7 true (fun k w' => Rd Try.prog (WS.at w17) (sIndexAddr 22 t14 t16) fun v => k v w') (fun t18 w19 =>
   GuardK t7 true (fun k w' => Rd Try.prog (WS.at w19) (sLoad 3 t18) fun v => k v w') (fun t20 w21 =>
   GuardK t7 true (fun k w' => CallK Try.prog 179 [t20] k w') (fun t22 w23 =>
   GuardK t7 true (fun k w' => k t5 w') (fun t24 w25 =>
   GuardK t7 true (fun k w' => Rd Try.prog (WS.at w25) (sBin .eql 3 false t22 t24) fun v => k v w') (fun t26 w27 =>
   Rd Try.prog (WS.at w27) (sPick t7 t26 (.bool false)) fun t28 =>
   GuardK t28 true (fun k w' => k v0 w') (fun t29 w30 =>
   GuardK t28 true (fun k w' => k v1 w') (fun t31 w32 =>
   GuardK t28 true (fun k w' => Rd Try.prog (WS.at w32) (sSlice 22 t31 (some (.int .i64 1)) none none) fun v => k v w') (fun t33 w34 =>
   GuardK t28 true (fun k w' => k v2 w') (fun t35 w36 =>
   GuardK t28 true (fun k w' => Rd Try.prog (WS.at w36) (sBin .add 3 true t35 (.int .i64 1)) fun v => k v w') (fun t37 w38 =>
   GuardK t28 true (fun k w' => k v3 w') (fun t39 w40 =>
   GuardK t28 true (fun k w' => CallK Try.prog 149 [t29, t33, t37, t39] k w') (fun t41 w42 =>
   Rd Try.prog (WS.at w42) (sPick t28 t41 (.bool false)) fun t43 =>
   k t43 w42) w40) w38) w36) w34) w32) w30) w27) w25) w23) w21) w19) w17) w15) w13) w11) w9) w)
   (LoopF [47, 48, 49, 52, 53, 54, 55, 56, 57, 58, 59, 60, 61, 62, 63, 64, 65, 66, 67, 68, 69, 8, 50, 51, 10] (fun Q44 f45 w46 =>
    Rd Try.prog (WS.at w46) (sBin .leq 3 false (f45 10) (f45 3)) fun t47 =>
    CondK t47
     (Rd Try.prog (WS.at w46) (sNilCheck (f45 0)) fun t48 =>
     Rd Try.prog (WS.at w46) (sFieldAddr 111 t48 1) fun t49 =>
     Rd Try.prog (WS.at w46) (sIndexAddr 109 t49 (f45 9)) fun t50 =>
     Rd Try.prog (WS.at w46) (sIndexAddr 108 t50 (f45 2)) fun t51 =>
     Rd Try.prog (WS.at w46) (sIndexAddr 107 t51 (f45 10)) fun t52 =>
     Rd Try.prog (WS.at w46) (sLoad 4 t52) fun t53 =>
     GuardK t53 true (fun k w' => k (f45 0) w') (fun t54 w55 =>
     GuardK t53 true (fun k w' => k (f45 1) w') (fun t56 w57 =>
     GuardK t53 true (fun k w' => Rd Try.prog (WS.at w57) (sSlice 22 t56 (some (.int .i64 1)) none none) fun v => k v w') (fun t58 w59 =>
     GuardK t53 true (fun k w' => k (f45 10) w') (fun t60 w61 =>
     GuardK t53 true (fun k w' => k (f45 3) w') (fun t62 w63 =>
     GuardK t53 true (fun k w' => CallK Try.prog 149 [t54, t58, t60, t62] k w') (fun t64 w65 =>
     Rd Try.prog (WS.at w65) (sPick t53 t64 (.bool false)) fun t66 =>
     CondK t66
      (Q44 .ret (F.upd (F.upd (F.upd (F.upd (F.upd (F.upd (F.upd (F.upd (F.upd (F.upd (F.upd (F.upd (F.upd (F.upd (F.upd (F.upd (F.upd (F.upd (F.upd (F.upd (F.upd (F.upd f45 47 (f45 10)) 48 (f45 3)) 49 t47) 52 (f45 0)) 53 (f45 9)) 54 (f45 2)) 55 (f45 10)) 56 t48) 57 t49) 58 t50) 59 t51) 60 t52) 61 t53) 62 t53) 63 t54) 64 t56) 65 t58) 66 t60) 67 t62) 68 t64) 69 t66) 8 (.bool true)) w65)
      (Rd Try.prog (WS.at w65) (sBin .add 3 true (f45 10) (.int .i64 1)) fun t67 =>
      Q44 .normal (F.upd (F.upd (F.upd (F.upd (F.upd (F.upd (F.upd (F.upd (F.upd (F.upd (F.upd (F.upd (F.upd (F.upd (F.upd (F.upd (F.upd (F.upd (F.upd (F.upd (F.upd (F.upd (F.upd (F.upd f45 47 (f45 10)) 48 (f45 3)) 49 t47) 52 (f45 0)) 53 (f45 9)) 54 (f45 2)) 55 (f45 10)) 56 t48) 57 t49) 58 t50) 59 t51) 60 t52) 61 t53) 62 t53) 63 t54) 64 t56) 65 t58) 66 t60) 67 t62) 68 t64) 69 t66) 50 (f45 10)) 51 t67) 10 t67) w65)) w63) w61) w59) w57) w55) w46)
     (Q44 (.exit 0) (F.upd (F.upd (F.upd f45 47 (f45 10)) 48 (f45 3)) 49 t47) w46))
    (blockQ 0 (seqQ (fun f68 w69 =>
   k (.bool false) w69) (bodyQ Try.prog [.tmp 8] k)))
    (F.upd (F.upd (F.upd (F.upd (F.upd (F.upd (F.upd (F.upd (F.upd (F.upd (F.upd (F.upd (initF [v0, v1, v2, v3]) 8 (.bool false)) 11 v1) 12 t1) 13 t2) 17 v1) 18 t4) 19 t5) 9 t5) 20 t5) 21 t6) 46 v2) 10 v2) w))
theorem body149 : Try.f149.body = some (bodyOf Try.f149) := by kernel_rfl
theorem same149 (v0 v1 v2 v3 : Value) (k : Value → World → Prop) (w : World) : wpF Try.prog pl149 (bodyOf Try.f149) (bodyQ Try.prog Try.f149.results.toList k) (initF [v0, v1, v2, v3]) w = S149 v0 v1 v2 v3 k w := by kernel_rfl
theorem enter149 {v0 v1 v2 v3 : Value} {k : Value → World → Prop} {w : World} (h : S149 v0 v1 v2 v3 k w) : CallK Try.prog 149 [v0, v1, v2, v3] k w :=
  call_of_wpF (pl := pl149) mixed Try.func149 body149 (by kernel_rfl) (of_decide_eq_true (by kernel_rfl)) (by kernel_rfl) (by kernel_rfl) (same149 v0 v1 v2 v3 k w ▸ h)

/-! loop.example/g00758/spec.l4Fits -/
def pl182 : Plans := fun _ => ⟨false, [], .nil⟩
def S182 (v0 v1 v2 v3 v4 : Value) (k : Value → World → Prop) (w : World) : Prop :=
 Rd Try.prog (WS.at w) (sBuiltin .len #[22] 3 [false] [v2]) fun t1 =>
 Rd Try.prog (WS.at w) (sBin .eql 3 true t1 (.int .i64 0)) fun t2 =>
 CondK t2
  (Rd Try.prog (WS.at w) (sBin .eql 3 false v3 v4) fun t3 =>
  k t3 w)
  (LoopF [19, 20, 21, 24, 25, 26, 27, 28, 29, 30, 31, 32, 33, 34, 35, 36, 37, 38, 39, 40, 10, 22, 23, 11] (fun Q4 f5 w6 =>
   Rd Try.prog (WS.at w6) (sBin .leq 3 false (f5 11) (f5 4)) fun t7 =>
   CondK t7
    (Rd Try.prog (WS.at w6) (sIndexAddr 22 (f5 2) (.int .i64 0)) fun t8 =>
    Rd Try.prog (WS.at w6) (sLoad 3 t8) fun t9 =>
    CallK Try.prog 192 [(f5 0), (f5 1), t9, (f5 3), (f5 11)] (fun t10 w11 =>
    GuardK t10 true (fun k w' => k (f5 0) w') (fun t12 w13 =>
    GuardK t10 true (fun k w' => k (f5 1) w') (fun t14 w15 =>
    GuardK t10 true (fun k w' => k (f5 2) w') (fun t16 w17 =>
    GuardK t10 true (fun k w' => Rd Try.prog (WS.at w17) (sSlice 22 t16 (some (.int .i64 1)) none none) fun v => k v w') (fun t18 w19 =>
    GuardK t10 true (fun k w' => k (f5 11) w') (fun t20 w21 =>
    GuardK t10 true (fun k w' => k (f5 4) w') (fun t22 w23 =>
    GuardK t10 true (fun k w' => CallK Try.prog 182 [t12, t14, t18, t20, t22] k w') (fun t24 w25 =>
    Rd Try.prog (WS.at w25) (sPick t10 t24 (.bool false)) fun t26 =>
    CondK t26
     (Q4 .ret (F.upd (F.upd (F.upd (F.upd (F.upd (F.upd (F.upd (F.upd (F.upd (F.upd (F.upd (F.upd (F.upd (F.upd (F.upd (F.upd (F.upd (F.upd (F.upd (F.upd (F.upd f5 19 (f5 11)) 20 (f5 4)) 21 t7) 24 (f5 0)) 25 (f5 1)) 26 (f5 2)) 27 t8) 28 t9) 29 (f5 3)) 30 (f5 11)) 31 t10) 32 t10) 33 t12) 34 t14) 35 t16) 36 t18) 37 t20) 38 t22) 39 t24) 40 t26) 10 (.bool true)) w25)
     (Rd Try.prog (WS.at w25) (sBin .add 3 true (f5 11) (.int .i64 1)) fun t27 =>
     Q4 .normal (F.upd (F.upd (F.upd (F.upd (F.upd (F.upd (F.upd (F.upd (F.upd (F.upd (F.upd (F.upd (F.upd (F.upd (F.upd (F.upd (F.upd (F.upd (F.upd (F.upd (F.upd (F.upd (F.upd f5 19 (f5 11)) 20 (f5 4)) 21 t7) 24 (f5 0)) 25 (f5 1)) 26 (f5 2)) 27 t8) 28 t9) 29 (f5 3)) 30 (f5 11)) 31 t10) 32 t10) 33 t12) 34 t14) 35 t16) 36 t18) 37 t20) 38 t22) 39 t24) 40 t26) 22 (f5 11)) 23 t27) 11 t27) w25)) w23) w21) w19) w17) w15) w13) w11) w6)
    (Q4 (.exit 0) (F.upd (F.upd (F.upd f5 19 (f5 11)) 20 (f5 4)) 21 t7) w6))
   (blockQ 0 (seqQ (fun f28 w29 =>
  k (.bool false) w29) (bodyQ Try.prog [.tmp 10] k)))
   (F.upd (F.upd (F.upd (F.upd (F.upd (F.upd (initF [v0, v1, v2, v3, v4]) 10 (.bool false)) 12 v2) 13 t1) 14 t2) 18 v3) 11 v3) w)
theorem body182 : Try.f182.body = some (bodyOf Try.f182) := by kernel_rfl
theorem same182 (v0 v1 v2 v3 v4 : Value) (k : Value → World → Prop) (w : World) : wpF Try.prog pl182 (bodyOf Try.f182) (bodyQ Try.prog Try.f182.results.toList k) (initF [v0, v1, v2, v3, v4]) w = S182 v0 v1 v2 v3 v4 k w := by kernel_rfl
theorem enter182 {v0 v1 v2 v3 v4 : Value} {k : Value → World → Prop} {w : World} (h : S182 v0 v1 v2 v3 v4 k w) : CallK Try.prog 182 [v0, v1, v2, v3, v4] k w :=
  call_of_wpF (pl := pl182) mixed Try.func182 body182 (by kernel_rfl) (of_decide_eq_true (by kernel_rfl)) (by kernel_rfl) (by kernel_rfl) (same182 v0 v1 v2 v3 v4 k w ▸ h)

/-! loop.example/g00758/spec.l4Symbol -/
def pl192 : Plans := fun _ => ⟨false, [], .nil⟩
def S192 (v0 v1 v2 v3 v4 : Value) (k : Value → World → Prop) (w : World) : Prop :=
 Rd Try.prog (WS.at w) (sBin .lss 3 true v2 (.int .i64 0)) fun t1 =>
 CondK t1
  (Rd Try.prog (WS.at w) (sBin .add 3 true v3 (.int .i64 1)) fun t2 =>
  Rd Try.prog (WS.at w) (sBin .eql 3 false v4 t2) fun t3 =>
  GuardK t3 true (fun k w' => k v1 w') (fun t4 w5 =>
  GuardK t3 true (fun k w' => k v3 w') (fun t6 w7 =>
  GuardK t3 true (fun k w' => Rd Try.prog (WS.at w7) (sIndexAddr 22 t4 t6) fun v => k v w') (fun t8 w9 =>
  GuardK t3 true (fun k w' => Rd Try.prog (WS.at w9) (sLoad 3 t8) fun v => k v w') (fun t10 w11 =>
  GuardK t3 true (fun k w' => k v2 w') (fun t12 w13 =>
  GuardK t3 true (fun k w' => Rd Try.prog (WS.at w13) (sBin .sub 3 true (.int .i64 (-1)) t12) fun v => k v w') (fun t14 w15 =>
  GuardK t3 true (fun k w' => Rd Try.prog (WS.at w15) (sBin .eql 3 false t10 t14) fun v => k v w') (fun t16 w17 =>
  Rd Try.prog (WS.at w17) (sPick t3 t16 (.bool false)) fun t18 =>
  k t18 w17) w15) w13) w11) w9) w7) w5) w)
  (Rd Try.prog (WS.at w) (sIndexAddr 162 v0 v2) fun t19 =>
  Rd Try.prog (WS.at w) (sLoad 161 t19) fun t20 =>
  Rd Try.prog (WS.at w) (sBuiltin .len #[22] 3 [false] [v1]) fun t21 =>
  Rd Try.prog (WS.at w) (sBin .add 3 true t21 (.int .i64 1)) fun t22 =>
  Rd Try.prog (WS.at w) (sBin .mul 3 false v3 t22) fun t23 =>
  Rd Try.prog (WS.at w) (sBin .add 3 false t23 v4) fun t24 =>
  Rd Try.prog (WS.at w) (sIndexAddr 161 t20 t24) fun t25 =>
  Rd Try.prog (WS.at w) (sLoad 4 t25) fun t26 =>
  k t26 w)
theorem body192 : Try.f192.body = some (bodyOf Try.f192) := by kernel_rfl
theorem same192 (v0 v1 v2 v3 v4 : Value) (k : Value → World → Prop) (w : World) : wpF Try.prog pl192 (bodyOf Try.f192) (bodyQ Try.prog Try.f192.results.toList k) (initF [v0, v1, v2, v3, v4]) w = S192 v0 v1 v2 v3 v4 k w := by kernel_rfl
theorem enter192 {v0 v1 v2 v3 v4 : Value} {k : Value → World → Prop} {w : World} (h : S192 v0 v1 v2 v3 v4 k w) : CallK Try.prog 192 [v0, v1, v2, v3, v4] k w :=
  call_of_wpF (pl := pl192) mixed Try.func192 body192 (by kernel_rfl) (of_decide_eq_true (by kernel_rfl)) (by kernel_rfl) (by kernel_rfl) (same192 v0 v1 v2 v3 v4 k w ▸ h)

end Go.Proofs.Ytiohaeckagjebaa

/- Contracts: what derives a part of a word, by the reference. -/
set_option linter.unusedVariables false
set_option linter.unusedSimpArgs false
set_option maxRecDepth 100000
namespace Go.Sh
open Go
/-- The reference's table in memory. -/
structure TabS (w : World) (U : Option Addr) (nons n : Nat) (T : Tab) : Prop where
  ptr : 0 < nons → U = some (ad U)
  row : ∀ x, x < nons → ∃ R c, w.cell? ((ad U).add x) = some (.slice R (n * n) c) ∧ R = some (ad R) ∧ ∀ i j, i < n → j < n → w.cell? ((ad R).add (i * n + j)) = some (.bool (T x i j))
theorem TabS.gr {w w' : World} {U : Option Addr} {nons n : Nat} {T : Tab} (h : TabS w U nons n T) (g : Gr w w') : TabS w' U nons n T := ⟨h.ptr, fun x hx => by
  obtain ⟨R, c, h1, h2, h3⟩ := h.row x hx
  exact ⟨R, c, g.cell h1, h2, fun i j hi hj => g.cell (h3 i j hi hj)⟩⟩
/-- The rows of a table. -/
def rowB (T : Tab) (n x : Nat) : List Value := (List.range (n * n)).map fun p => .bool (T x (p / n) (p % n))
def rowsB (T : Tab) (nons n : Nat) : List (List Value) := (List.range nons).map (rowB T n)
theorem rowB_length (T : Tab) (n x : Nat) : (rowB T n x).length = n * n := by simp [rowB]
theorem rowsB_length (T : Tab) (nons n : Nat) : (rowsB T nons n).length = nons := by simp [rowsB]
theorem vls_rowsB {T : Tab} {nons n x : Nat} (h : x < nons) : vls (rowsB T nons n) x = rowB T n x := by
  rw [vls_eq (by rw [rowsB_length]; exact h)]
  simp [rowsB]
theorem place_lt {n i j : Nat} (hi : i < n) (hj : j < n) : i * n + j < n * n := by
  have : (i + 1) * n ≤ n * n := Nat.mul_le_mul_right n hi
  rw [Nat.add_mul] at this
  omega
theorem rowB_at {T : Tab} {n x i j : Nat} (hi : i < n) (hj : j < n) : (rowB T n x)[i * n + j]? = some (.bool (T x i j)) := by
  have hn : 0 < n := by omega
  have e1 : (i * n + j) / n = i := by rw [Nat.mul_comm, Nat.mul_add_div hn, Nat.div_eq_of_lt hj, Nat.add_zero]
  have e2 : (i * n + j) % n = j := by rw [Nat.mul_comm, Nat.mul_add_mod, Nat.mod_eq_of_lt hj]
  simp [rowB, place_lt hi hj, e1, e2]
theorem rowB_put {T : Tab} {n x i j : Nat} (hi : i < n) (hj : j < n) : (rowB T n x).set (i * n + j) (.bool true) = rowB (T.put x i j) n x := by
  have hn : 0 < n := by omega
  refine List.ext_getElem? fun p => ?_
  rw [List.getElem?_set]
  by_cases hp : i * n + j = p
  · subst hp
    rw [if_pos rfl, if_pos (by rw [rowB_length]; exact place_lt hi hj), rowB_at hi hj]
    simp [Tab.put]
  · rw [if_neg hp]
    simp only [rowB, List.getElem?_map, List.getElem?_range']
    by_cases hlt : p < n * n
    · simp only [List.getElem?_range hlt, Option.map_some, Tab.put]
      have : ¬ (x = x ∧ p / n = i ∧ p % n = j) := by
        rintro ⟨_, h1, h2⟩
        apply hp
        have := Nat.div_add_mod p n
        rw [h1, h2, Nat.mul_comm] at this
        exact this
      rw [if_neg (fun h => this ⟨rfl, h.2⟩)]
    · rw [List.getElem?_eq_none (by simp; omega)]
      rfl
theorem rowB_other {T : Tab} {n x y i j : Nat} (h : y ≠ x) : rowB (T.put x i j) n y = rowB T n y := by
  simp [rowB, Tab.put, h]
theorem rowsB_put {T : Tab} {nons n x i j : Nat} (hx : x < nons) (hi : i < n) (hj : j < n) : (rowsB T nons n).set x ((vls (rowsB T nons n) x).set (i * n + j) (.bool true)) = rowsB (T.put x i j) nons n := by
  rw [vls_rowsB hx, rowB_put hi hj]
  refine List.ext_getElem? fun p => ?_
  rw [List.getElem?_set]
  by_cases hp : x = p
  · subst hp
    rw [if_pos rfl, if_pos (by rw [rowsB_length]; exact hx)]
    simp [rowsB, hx]
  · rw [if_neg hp]
    by_cases hlt : p < nons
    · simp [rowsB, hlt, rowB_other (fun e => hp e.symm)]
    · rw [List.getElem?_eq_none (by rw [rowsB_length]; omega), List.getElem?_eq_none (by rw [rowsB_length]; omega)]
theorem OwnV.tab {e1 e2 : Nat} {w : World} {B c nons n : Nat} {X : Option Addr} {T : Tab} {ps : Nat → Option Addr × Nat} (h : OwnV e1 e2 w B X c (rowsB T nons n) ps) (hn : 0 < n) : TabS w X nons n T := by
  refine ⟨fun hp => h.ptr (by rw [rowsB_length]; exact hp), fun x hx => ?_⟩
  have hx' : x < (rowsB T nons n).length := by rw [rowsB_length]; exact hx
  have hc := h.cell hx'
  have ho := h.own x hx'
  rw [vls_rowsB hx, rowB_length] at hc ho
  refine ⟨_, _, hc, ho.ptr (Nat.mul_pos hn hn), fun i j hi hj => ho.src.cell _ _ (rowB_at hi hj)⟩
theorem foldl_range {α : Type} (f : α → Nat → α) (s : α) (n : Nat) : (List.range (n + 1)).foldl f s = f ((List.range n).foldl f s) n := by
  rw [List.range_succ, List.foldl_append]
  rfl
theorem foldl_range' {α : Type} (f : α → Nat → α) (s : α) (a n : Nat) : (List.range' a (n + 1)).foldl f s = f ((List.range' a n).foldl f s) (a + n) := by
  rw [List.range'_concat, List.foldl_append]
  simp
theorem foldl_take {α : Type} (f : α → RuleL → α) (s : α) (rs : List RuleL) {n : Nat} (h : n < rs.length) : (rs.take (n + 1)).foldl f s = f ((rs.take n).foldl f s) (rul rs n) := by
  rw [List.take_succ_eq_append_getElem h, List.foldl_append, rul_eq h]
  rfl
end Go.Sh
namespace Go.Proofs.Ytiohaeckagjebaa
open Go Go.Sh Go.RowKit

theorem l4Symbol_c {w : World} {U X : Option Addr} {cu cx nons : Nat} {T : Tab} {ws : List Int} {x : Int} {i j : Nat} (hT : TabS w U nons (ws.length + 1) T) (hX : Ints w X ws) (hl : ws.length ≤ 10) (hx : x < nons) (hx0 : -100 ≤ x) (hi : i ≤ j) (hj : j ≤ ws.length) {k : Value → World → Prop} (hk : k (.bool (symT T ws x i j)) w) :
    CallK Try.prog 192 [.slice U nons cu, .slice X ws.length cx, .int .i64 x, .int .i64 i, .int .i64 j] k w := by
  refine enter192 ?_
  unfold S192
  simp only [go_sem, Nat.reduceEqDiff]
  by_cases hneg : x < 0
  · simp only [hneg, decide_true, go_sem, Nat.reduceEqDiff]
    rw [i64_of (n := (i : Int) + 1) (by omega) (by omega)]
    unfold symT at hk
    rw [if_pos hneg] at hk
    by_cases he : j = i + 1
    · subst he
      simp only [show (((i + 1 : Nat) : Int) = (i : Int) + 1) from rfl, decide_true, go_sem, Nat.reduceEqDiff]
      rw [ixn22 hX.ptr (by omega), ld3 (hX.cell i (by omega))]
      simp only [go_sem, Nat.reduceEqDiff]
      rw [i64_of (by omega) (by omega)]
      simpa only [decide_true, Bool.true_and] using hk
    · simp only [show ¬ ((j : Int) = (i : Int) + 1) from by omega, decide_false, go_sem, Nat.reduceEqDiff]
      simpa only [he, decide_false, Bool.false_and] using hk
  · simp only [hneg, decide_false, go_sem, Nat.reduceEqDiff]
    unfold symT at hk
    rw [if_neg hneg] at hk
    obtain ⟨x, rfl⟩ : ∃ x' : Nat, x = x' := ⟨x.toNat, by omega⟩
    rw [Int.toNat_natCast] at hk
    obtain ⟨R, c, h1, h2, h3⟩ := hT.row x (by omega)
    have hm : (i : Int) * ((ws.length : Int) + 1) = ((i * (ws.length + 1) : Nat) : Int) := by push_cast; rfl
    have hb := place_lt (n := ws.length + 1) (show i < ws.length + 1 by omega) (show j < ws.length + 1 by omega)
    have hnn : (ws.length + 1) * (ws.length + 1) ≤ 11 * 11 := Nat.mul_le_mul (by omega) (by omega)
    rw [ixn162 (fun h => hT.ptr h) (by omega), ld161 h1, i64_of (n := (ws.length : Int) + 1) (by omega) (by omega), hm, i64_of (n := ((i * (ws.length + 1) : Nat) : Int)) (by omega) (by omega), i64_of (by omega) (by omega)]
    rw [show (((i * (ws.length + 1) : Nat) : Int) + (j : Int)) = ((i * (ws.length + 1) + j : Nat) : Int) from by push_cast; rfl]
    rw [ixn161 (fun _ => h2) hb, ld4 (h3 i j (by omega) (by omega))]
    exact hk
theorem l4Fits_c {ws : List Int} (hl : ws.length ≤ 10) {nons : Nat} : ∀ (right : List Int) {w : World} {U X Y : Option Addr} {cu cx cy : Nat} {T : Tab} {i j : Nat} {k : Value → World → Prop}, TabS w U nons (ws.length + 1) T → Ints w X ws → Ints w Y right → right.length ≤ cy → (∀ x ∈ right, x < nons ∧ -100 ≤ x) → i ≤ j → j ≤ ws.length → k (.bool (fitsT T ws right i j)) w →
    CallK Try.prog 182 [.slice U nons cu, .slice X ws.length cx, .slice Y right.length cy, .int .i64 i, .int .i64 j] k w := by
  intro right
  induction right with
  | nil =>
    intro w U X Y cu cx cy T i j k hT hX hY hcy hr hi hj hk
    refine enter182 ?_
    unfold S182
    simp only [go_sem, List.length_nil]
    simp only [Int.natCast_zero, decide_true, go_sem, Nat.reduceEqDiff, Int.natCast_inj]
    exact hk
  | cons x right ih =>
    intro w U X Y cu cx cy T i j k hT hX hY hcy hr hi hj hk
    refine enter182 ?_
    unfold S182
    simp only [go_sem, List.length_cons]
    simp only [show ¬ (((right.length + 1 : Nat) : Int) = 0) from by omega, decide_false, go_sem, Nat.reduceEqDiff]
    have hfs : fitsT T ws (x :: right) i j = (List.range' i (j + 1 - i)).any fun m => symT T ws x i m && fitsT T ws right m j := rfl
    rw [hfs] at hk
    have hx := hr x (List.mem_cons_self ..)
    have hr' : ∀ y ∈ right, y < nons ∧ -100 ≤ y := fun y hy => hr y (List.mem_cons_of_mem _ hy)
    have hYl := hY.le
    simp only [List.length_cons] at hYl hcy
    have hY' : Ints w (sub Y 1 cy 1) right := by
      have := hY.sub (l := 1) (c := cy) (by simp) (by simp; omega) (right.length)
      simpa using this
    refine loop_to (j + 1) i (fun m f w' => i ≤ m ∧ m ≤ j + 1 ∧ f 11 = .int .i64 m ∧ (∀ m', i ≤ m' → m' < m → (symT T ws x i m' && fitsT T ws right m' j) = false) ∧ w' = w) ⟨Nat.le_refl _, by omega, rfl, fun m' h1 h2 => by omega, rfl⟩ ?_
    rintro m f w' N hag ⟨hm1, hm2, h11, hno, rfl⟩ hN
    have f0 : f 0 = .slice U nons cu := hag 0 (by decide)
    have f1 : f 1 = .slice X ws.length cx := hag 1 (by decide)
    have f2 : f 2 = .slice Y (right.length + 1) cy := hag 2 (by decide)
    have f3 : f 3 = .int .i64 i := hag 3 (by decide)
    have f4 : f 4 = .int .i64 j := hag 4 (by decide)
    simp only [f0, f1, f2, f3, f4, h11, go_sem, Nat.reduceEqDiff]
    by_cases hle : m ≤ j
    case neg =>
      simp only [show ¬ ((m : Int) ≤ j) from by omega, decide_false, go_sem, Nat.reduceEqDiff]
      rw [any_upto (fun m' h1 h2 => hno m' h1 (by omega))] at hk
      exact hk
    simp only [show ((m : Int) ≤ j) from by omega, decide_true, go_sem, Nat.reduceEqDiff]
    rw [ix22_0 (fun _ => hY.ptr (by simp)) (by omega), ld3 (hY.cell 0 (by simp))]
    simp only [List.getD_cons_zero]
    refine l4Symbol_c hT hX hl hx.1 hx.2 hm1 (by omega) ?_
    cases hs : symT T ws x i m
    · simp only [go_sem, Nat.reduceEqDiff]
      rw [i64_of (by omega) (by omega)]
      exact hN _ _ (by omega) ⟨by omega, by omega, rfl, fun m' h1 h2 => by
        by_cases e : m' = m
        · rw [e, hs, Bool.false_and]
        · exact hno m' h1 (by omega), rfl⟩
    · simp only [go_sem, Nat.reduceEqDiff]
      rw [sll22 (by decide) (by omega)]
      rw [show (1 : Int).toNat = 1 from rfl, Nat.add_sub_cancel]
      refine ih hT hX hY' (by omega) hr' (by omega) hj ?_
      cases hf : fitsT T ws right m j
      · simp only [go_sem, Nat.reduceEqDiff]
        rw [i64_of (by omega) (by omega)]
        exact hN _ _ (by omega) ⟨by omega, by omega, rfl, fun m' h1 h2 => by
          by_cases e : m' = m
          · rw [e, hf, Bool.and_false]
          · exact hno m' h1 (by omega), rfl⟩
      · simp only [go_sem, Nat.reduceEqDiff]
        rw [any_at hm1 hle (by rw [hs, hf]; rfl)] at hk
        exact hk
end Go.Proofs.Ytiohaeckagjebaa

/- Contract: the parts of a tree, told by the reference. -/
set_option linter.unusedVariables false
set_option linter.unusedSimpArgs false
set_option maxRecDepth 100000
namespace Go.Sh
open Go
def rowsP (ps : List PT) : List (List Int) := ps.map PT.row
theorem rowsP_append (ps qs : List PT) : rowsP (ps ++ qs) = rowsP ps ++ rowsP qs := List.map_append
theorem rowsP_length (ps : List PT) : (rowsP ps).length = ps.length := List.length_map _
theorem drop_getD {R : List Int} {i : Nat} (h : i < R.length) : R.drop i = R.getD i 0 :: R.drop (i + 1) := by
  rw [List.drop_eq_getElem_cons h]
  simp [List.getD_eq_getElem?_getD, h]
theorem rdG_aggC {P : Program} {k : Value → Prop} {w : World} {h : Gr w w} {t n : Nat} {a : Addr} {cs : List Value} (ht : agg P t) (hs : szOf P t n) (hn : cs.length = n) (hc : ∀ j (h : j < cs.length), w.cell? (a.add j) = some cs[j]) : Rd P ⟨fun w' => Gr w w', w, h⟩ (sLoad t (.pointer (some a))) k = k (.agg cs.toArray) :=
  rd_loadAgg ht hs hn fun w' hw j hj => Gr.cell hw (hc j hj)
end Go.Sh
namespace Go.Proofs.Ytiohaeckagjebaa
open Go Go.Sh Go.RowKit

theorem l18Parts_c {gm : Gram} {tree : List Int} {X : Option Addr} {c : Nat} (hg : goodG gm = true) (ht : tree.length ≤ 1000) : ∀ (fu : Nat) {F : Nat → Prop} {w : World} {v : Value} {non : Int} {a : Nat} {ws ws' : List Int} {p : PT} {k : Value → World → Prop}, GramV F w v gm → Ints w X tree → readT gm.rules tree fu non a ws = some (p, ws') → ws'.length ≤ 1000000 →
    (∀ w' Y d ps, Gr w w' → OwnSS 22 3 w' w.heap.size Y d (rowsP p.parts) ps → k (.tuple #[.slice Y (rowsP p.parts).length d, .int .i64 ws'.length]) w') →
    CallK Try.prog 95 [v, .slice X tree.length c, .int .i64 a, .int .i64 ws.length] k w := by
  have hr16 := good_len hg
  intro fu
  induction fu with
  | zero => intro F w v non a ws ws' p k hv hx hr; cases hr
  | succ fu ih =>
    intro F w v non a ws ws' p k hv hx hr hW hk
    obtain ⟨Y, cy, rfl, hc, hy⟩ := hv
    have hfin := readT_le hr
    obtain ⟨hlaid, hfe, _⟩ := readT_laid _ _ _ _ _ _ _ _ hr
    have hmono := (readT_words (good_rule hg) _ _ _ _ _ _ hr).1
    obtain ⟨q, ks', e', hlt, hqe, hq, hnon, hR, rfl⟩ := readT_some hr
    simp only [PT.parts, List.length_cons, PT.fin] at hfe hfin
    obtain ⟨Z, cz, h1, h2, h3, h4⟩ := hy.row q hq
    refine enter95 ?_
    unfold S95
    have H := Apt.nil w
    refine boxH H fun b1 w1 H => ?_
    have H := H.drew
    refine ⟨fun w' => Gr w1.drew w', Gr.refl _, ?_⟩
    simp only [go_sem, Nat.reduceEqDiff]
    rw [rdG one35 (H.box 0 rfl) rfl, ixn22 hx.ptr hlt, ldS3 (fun w' hw' => Gr.cell hw' ((hx.gr H.gr).cell a hlt)), hqe, ixn35 hy.ptr hq]
    have G := H.gr
    rw [rdG_aggC agg77 sz77 (cs := [.int .i64 (rul gm.rules q).1, .slice Z (rul gm.rules q).2.length cz]) rfl (fun j hj => by
      match j, hj with
      | 0, _ => rw [add_add, Nat.add_zero]; exact G.cell h1
      | 1, _ => rw [add_add]; exact G.cell h2)]
    refine do_alloc_of inf77 fun b2 w2 g2 hb2 hB2 => ?_
    refine ⟨g2, ?_⟩
    have H := H.addBox g2 hb2 hB2
    refine storeH H 1 rfl sz77 rfl rfl rfl fun w3 H => ?_
    simp only [go_sem, Nat.reduceEqDiff]
    rw [ldB3 (H.box 1 rfl) rfl]
    refine buildH H u22 inf3 [.int .i64 (rul gm.rules q).1, .int .i64 0, .int .i64 ws.length, .int .i64 0] (by decide) (by decide) (by simp [Instr.fill, madeCells, Value.cells, rng4]) rfl fun b3 w4 H => ?_
    refine buildH H u48 inf22 [.slice (some ⟨b3, 0, none⟩) 4 4] (by decide) (by decide) (by simp [Instr.fill, madeCells, Value.cells, rng1]) rfl fun b4 w5 H => ?_
    have H := H.single (i := 3) (j := 2) (by decide) (ys := [(rul gm.rules q).1, 0, (ws.length : Int), 0]) rfl rfl
    have H := H.erase 2
    rw [hnon] at H
    rw [ldB22 (H.box 1 rfl) rfl]
    simp only [go_sem, Nat.reduceEqDiff]
    simp only [List.nil_append, List.cons_append, List.set_cons_zero, List.set_cons_succ, List.eraseIdx_cons_zero, List.eraseIdx_cons_succ] at H
    clear h1 h2
    have hmono' := hmono
    generalize (rul gm.rules q).2 = R at *
    refine loop_to R.length 0 (fun i f w' => i ≤ R.length ∧ f 34 = .int .i64 i ∧ ∃ (ks : List PT) (cur : List Int) (U : Option Addr) (d : Nat) (ps : Nat → Option Addr × Nat), f 12 = .int .i64 cur.length ∧ f 11 = .slice U (1 + (PT.partsL ks).length) d ∧ Laid (PT.partsL ks) (a + 1) ∧ readR (readT gm.rules tree fu) (R.drop i) (a + 1 + (PT.partsL ks).length) cur ks = some (ks', e', ws') ∧
      Apt w w' [bx b1 [.int .i64 gm.nons, .int .i64 gm.toks, .slice Y gm.rules.length cy] 37, bx b2 [.int .i64 non, .slice Z R.length cz] 77, lss U d ([non, 0, (ws.length : Int), 0] :: rowsP (PT.partsL ks)) ps])
      ⟨Nat.zero_le _, rfl, [], ws, _, _, _, rfl, rfl, fun i hi => by simp [PT.partsL] at hi, by simpa [PT.partsL] using hR, H⟩ ?_
    rintro i f w6 N hag ⟨hi, h34, ks, cur, U, d, ps, h12, h11, hL, hE, H⟩ hN
    have f32 : f 32 = .slice Z R.length cz := hag 32 (by decide)
    have f33 : f 33 = .int .i64 R.length := hag 33 (by decide)
    have f4 : f 4 = .pointer (some ⟨b1, 0, none⟩) := hag 4 (by decide)
    have f1 : f 1 = .slice X tree.length c := hag 1 (by decide)
    have f2 : f 2 = .int .i64 a := hag 2 (by decide)
    simp only [f32, f33, f4, f1, f2, h34, h12, h11, go_sem, Nat.reduceEqDiff]
    have hcur := readR_words (readT_words (good_rule hg) fu) _ _ _ _ hE
    have hlk := readR_grow _ _ _ _ hE
    by_cases hlt2 : i < R.length
    · simp only [show (i : Int) < R.length from by omega, decide_true, go_sem, Nat.reduceEqDiff]
      rw [drop_getD hlt2] at hE
      have hRl := h4.is.le
      rw [ixn22 h4.is.ptr hlt2, ld3 ((h4.is.gr H.gr).cell i hlt2)]
      by_cases hneg : R.getD i 0 < 0
      · simp only [hneg, decide_true, go_sem, Nat.reduceEqDiff]
        rw [readR_tok hneg] at hE
        have hcur' := readR_words (readT_words (good_rule hg) fu) _ _ _ _ hE
        rw [List.length_append] at hcur'
        simp only [List.length_cons, List.length_nil] at hcur'
        rw [i64_of (by omega) (by omega), i64_of (by omega) (by omega)]
        exact hN _ _ hlt2 ⟨hlt2, rfl, ks, cur ++ [-1 - R.getD i 0], U, d, ps, by simp; rfl, h11, hL, hE, H⟩
      · simp only [hneg, decide_false, go_sem, Nat.reduceEqDiff]
        obtain ⟨kid, w7, hz, hE'⟩ := readR_non hneg hE
        have hkw := (readR_words (readT_words (good_rule hg) fu) _ _ _ _ hE').1
        obtain ⟨hkl, hkf, _⟩ := readT_laid _ _ _ _ _ _ _ _ hz
        have hkle := readT_le hz
        rw [ldB_agg agg37 sz37 rfl (H.box 0 rfl)]
        rw [i64_of (n := (a : Int) + _) (by omega) (by omega)]
        rw [show ((a : Int) + ((1 + (PT.partsL ks).length : Nat) : Int)) = ((a + 1 + (PT.partsL ks).length : Nat) : Int) from by omega]
        refine ih (non := R.getD i 0) ⟨Y, cy, rfl, hc, hy.gr H.gr⟩ (hx.gr H.gr) hz (by omega) fun w8 V d' ps' g8 o8 => ?_
        have H := H.addLss g8 o8
        simp only [go_sem, Nat.reduceEqDiff]
        refine appendSSH H 2 3 (by decide) rfl rfl (by simp [rowsP_length]; omega) rfl (by simp only [List.length_cons, rowsP_length]; omega) fun U' d' w9 ps'' H => ?_
        have H := H.erase 3
        rw [i64_of (by omega) (by omega)]
        refine hN _ _ hlt2 ⟨hlt2, rfl, ks ++ [kid], w7, U', d', ps'', rfl, ?_, ?_, ?_, ?_⟩
        · simp only [List.cons_append, List.length_cons, List.length_append, rowsP_length, partsL_append, PT.partsL, List.append_nil]
          rw [show (PT.partsL ks).length + kid.parts.length + 1 = 1 + ((PT.partsL ks).length + kid.parts.length) from by omega]
          rfl
        · rw [partsL_append]
          exact hL.append (by simpa [PT.partsL] using hkl)
        · rw [partsL_append]
          simp only [PT.partsL, List.append_nil, List.length_append]
          rw [show a + 1 + ((PT.partsL ks).length + kid.parts.length) = kid.fin from by omega]
          exact hE'
        · rw [partsL_append, rowsP_append]
          simp only [PT.partsL, List.append_nil]
          exact H
    · simp only [show ¬ (i : Int) < R.length from by omega, decide_false, go_sem, Nat.reduceEqDiff]
      rw [List.drop_eq_nil_of_le (by omega), readR] at hE
      simp only [Option.some.injEq, Prod.mk.injEq] at hE
      obtain ⟨rfl, rfl, rfl⟩ := hE
      have o := H.lssi 2 rfl
      have hU := o.ptr (by simp)
      have hi0 := (o.own 0 (by simp)).ptr (show 0 < 4 by decide)
      refine rdi (ix48_0 (fun _ => hU) (by omega)) (rdi (ld22 (o.cell (j := 0) (by simp))) (rdi (ix22_1 (fun _ => hi0) (show 1 < 4 by decide)) ?_))
      rw [i64_of (by omega) (by omega)]
      refine putSSH H 2 0 (m := 1) rfl (by simp) (show 1 < 4 by decide) fun w7 H => ?_
      simp only [List.set_cons_zero, List.set_cons_succ, rgt, List.getD_cons_zero] at H
      have o := H.lssi 2 rfl
      have hi0 := (o.own 0 (by simp)).ptr (show 0 < 4 by decide)
      refine rdi (ix48_0 (fun _ => hU) (by omega)) (rdi (ld22 (o.cell (j := 0) (by simp))) (rdi (ix22_3 (fun _ => hi0) (show 3 < 4 by decide)) ?_))
      refine putSSH H 2 0 (m := 3) rfl (by simp) (show 3 < 4 by decide) fun w8 H => ?_
      simp only [List.set_cons_zero, List.set_cons_succ, rgt, List.getD_cons_zero] at H
      have o := H.lssi 2 rfl
      have e1 : ((a : Int) + ((1 + (PT.partsL ks).length : Nat) : Int)) = ((a + 1 + (PT.partsL ks).length : Nat) : Int) := by omega
      rw [e1] at o
      have e2 : (rowsP (PT.mk non q a (a + 1 + (PT.partsL ks).length) ws.length cur.length ks).parts).length = 1 + (PT.partsL ks).length := by
        simp only [rowsP_length, PT.parts, List.length_cons]
        omega
      have := hk w8 U d ps H.gr (by simp only [PT.parts]; exact o)
      rwa [e2] at this
end Go.Proofs.Ytiohaeckagjebaa

/- Contracts: the parts of a tree in memory, and the two that can be pumped, by the program. -/
set_option linter.unusedVariables false
set_option linter.unusedSimpArgs false
set_option maxRecDepth 100000
namespace Go.Sh
open Go
theorem partsL_take {ks : List PT} {i : Nat} (h : i < ks.length) : PT.partsL (ks.take (i + 1)) = PT.partsL (ks.take i) ++ (ptn ks i).parts := by
  rw [List.take_succ_eq_append_getElem h, partsL_append, ptn_eq h]
  simp [PT.partsL]
theorem partsL_take_le {ks : List PT} (i : Nat) : (PT.partsL (ks.take i)).length ≤ (PT.partsL ks).length := by
  have e : PT.partsL ks = PT.partsL (ks.take i) ++ PT.partsL (ks.drop i) := by rw [← partsL_append, List.take_append_drop]
  rw [e, List.length_append]
  omega
theorem ptrs_one (bs : List Nat) : ∀ v ∈ bs.map ptrv, v.oneCell' = true := by
  intro v hv
  obtain ⟨b, _, rfl⟩ := List.mem_map.1 hv
  rfl
theorem ptrs_at {bs : List Nat} {i : Nat} (h : i < bs.length) : (bs.map ptrv)[i]? = some (ptrv (bs.getD i 0)) := by simp [List.getD_eq_getElem?_getD, h]
theorem ptn_drop {ps : List PT} {i n j : Nat} (hj : j < n) : ptn ((ps.drop i).take n) j = ptn ps (i + j) := by
  simp [ptn, List.getD_eq_getElem?_getD, List.getElem?_take, hj]
theorem kids_le (ks : List PT) : ks.length ≤ (PT.partsL ks).length := by
  induction ks with
  | nil => simp [PT.partsL]
  | cons k ks ih =>
    rw [PT.partsL, parts_cons]
    simp
    omega
theorem run_equal_nil {P : Program} {t e : TypeId} {a : Option Addr} (ht : P.underlying t = some (.pointer e)) (d : Nat) (w : World) : (Op.equalIn (d + 1) t (.pointer a) (.pointer none)).run P w = .ok a.isNone w := by
  cases a <;> simp [Op.equalIn, run_underlying ht]
theorem bin_eql_ptr {P : Program} {S : WS} {k : Value → Prop} {t e : TypeId} {c : Bool} {a : Option Addr} (ht : P.underlying t = some (.pointer e)) : Rd P S (sBin .eql t c (.pointer a) (.pointer none)) k = k (.bool a.isNone) := rd_eq fun w _ => by
  have e1 : (eqGuard .eql t (if c then .const undef else .tmp 0) (.tmp 0) (.pointer a) (.pointer none)).run P w = .ok () w := rfl
  have e2 : (binOp .eql t (.pointer a) (.pointer none)).run P w = .ok (.bool a.isNone) w := by
    show Sem.run P (do pure (Value.bool (← Op.equalIn (9999 + 1) t (.pointer a) (.pointer none)))) w = _
    simp only [Sem.run_bind, run_equal_nil ht 9999 w, Result.andThen]
    rfl
  simp only [sBin, Sem.run_bind, e1, Result.andThen, e2]
  rfl
end Go.Sh
namespace Go.Proofs.Ytiohaeckagjebaa
open Go Go.Sh Go.RowKit

theorem parts_c : ∀ (n : Nat) {F : Nat → Prop} {w : World} {p : PT} {b : Nat} {k : Value → World → Prop}, p.parts.length ≤ n → n ≤ 1000 → (∀ q, F q → q < w.heap.size) → PartAt F w p b →
    (∀ w' U d bs, Gr w w' → Row w' w.heap.size 86 1 U (List.length bs) d (bs.map ptrv) → AllPt F w' p.parts bs → k (.slice U (List.length bs) d) w') → CallK Try.prog 96 [ptrv b] k w := by
  intro n
  induction n with
  | zero =>
    intro F w p b k hn
    rw [parts_cons] at hn
    simp at hn
  | succ n ih =>
    intro F w p b k hn hn1 hF hp hk
    obtain ⟨X, c, hb, hX, hc, hks⟩ := hp.box
    refine enter96 ?_
    unfold S96
    rw [parts_cons] at hn hk
    simp only [List.length_cons] at hn
    have hkl := kids_le p.kids
    have H := Apt.nil w
    refine buildH H u91 inf86 [ptrv b] (by decide) (by decide) (by simp [Instr.fill, madeCells, Value.cells, rng1]) rfl fun b1 w1 H => ?_
    simp only [go_sem, Nat.reduceEqDiff]
    rw [ldB91 (hb.gr H.gr) rfl]
    simp only [go_sem, Nat.reduceEqDiff]
    refine loop_to p.kids.length 0 (fun i f w' => i ≤ p.kids.length ∧ f 13 = .int .i64 i ∧ ∃ (U : Option Addr) (d : Nat) (bs : List Nat), f 3 = .slice U bs.length d ∧ AllPt F w' (p :: PT.partsL (p.kids.take i)) bs ∧ Apt w w' [rwi 86 1 U bs.length d (bs.map ptrv)])
      ⟨Nat.zero_le _, rfl, _, _, [b], rfl, by simpa [PT.partsL] using AllPt.one (hp.gr H.gr), H⟩ ?_
    rintro i f w2 N hag ⟨hi, h13, U, d, bs, h3, hA, H⟩ hN
    have f11 : f 11 = .slice X p.kids.length c := hag 11 (by decide)
    have f12 : f 12 = .int .i64 p.kids.length := hag 12 (by decide)
    simp only [f11, f12, h13, h3, go_sem, Nat.reduceEqDiff]
    by_cases hlt : i < p.kids.length
    · simp only [show (i : Int) < p.kids.length from by omega, decide_true, go_sem, Nat.reduceEqDiff]
      obtain ⟨bk, hcell, hpart⟩ := hks.get hlt
      rw [Nat.zero_add] at hcell
      have hle := partsL_take_le (ks := p.kids) (i + 1)
      rw [partsL_take hlt, List.length_append] at hle
      have hAl := hA.1
      simp only [List.length_cons] at hAl
      rw [ixn91 hX hlt, ld86 (H.gr.cell hcell)]
      have G2 := H.gr
      refine ih (by omega) (by omega) (fun q hq => Nat.lt_of_lt_of_le (hF q hq) H.gr.size) (hpart.gr H.gr) fun w3 V d' cs g3 r3 a3 => ?_
      have H := H.addRow g3 r3
      have hal := a3.1
      refine appendH H 0 rfl u91 inf86 rfl (by decide) (Row.src (H.row 1 rfl)) (by simp) (ptrs_one cs) (by omega) (by omega) fun X' c' w4 H => ?_
      have H := H.erase 1
      have hA' := (hA.append (a3.across hF (gr_trans G2 g3) G2)).across hF G2 H.gr
      rw [i64_of (by omega) (by omega)]
      refine hN _ _ hlt ⟨hlt, rfl, X', c', bs ++ cs, by rw [List.length_append]; rfl, ?_, ?_⟩
      · rw [partsL_take hlt]
        exact hA'
      · rw [List.map_append, List.length_append]
        exact H
    · simp only [show ¬ (i : Int) < p.kids.length from by omega, decide_false, go_sem, Nat.reduceEqDiff]
      rw [List.take_of_length_le (by omega)] at hA
      exact hk _ U d bs H.gr (H.row 0 rfl) hA
end Go.Proofs.Ytiohaeckagjebaa

/- Contracts: what of a tree can be pumped, by the reference. -/
set_option linter.unusedVariables false
set_option linter.unusedSimpArgs false
set_option maxRecDepth 100000
namespace Go.Sh
open Go
theorem rgt_rowsP {ps : List PT} {i : Nat} (h : i < ps.length) : rgt (rowsP ps) i = (ptn ps i).row := by
  simp [rgt, rowsP, ptn, List.getD_eq_getElem?_getD, h]
theorem row_cells {w : World} {Y : Option Addr} {p : PT} (h : Ints w Y p.row) : Y = some (ad Y) ∧ w.cell? ((ad Y).add 0) = some (.int .i64 p.non) ∧ w.cell? ((ad Y).add 1) = some (.int .i64 p.fin) ∧ w.cell? ((ad Y).add 2) = some (.int .i64 p.fr) ∧ w.cell? ((ad Y).add 3) = some (.int .i64 p.to) :=
  ⟨h.ptr (by simp [PT.row]), h.cell 0 (by simp [PT.row]), h.cell 1 (by simp [PT.row]), h.cell 2 (by simp [PT.row]), h.cell 3 (by simp [PT.row])⟩
def pumpR (ps : List PT) (i j : Nat) : List Int := [i, j, (ptn ps i).fr, (ptn ps j).fr, (ptn ps j).to, (ptn ps i).to]
theorem dry_next {ps : List PT} {p q : Nat} (h : Dry ps p q) (hf : pairT (ptn ps p) (ptn ps q) = false) : Dry ps p (q + 1) := fun q' h1 h2 => by
  by_cases e : q' = q
  · rw [e]; exact hf
  · exact h q' h1 (by omega)
/-- The whole tree that a list of rules is. -/
structure Whole (gm : Gram) (tree : List Int) (p : PT) (ws : List Int) : Prop where
  good : goodG gm = true
  le : tree.length ≤ 60
  read : readT gm.rules tree tree.length 0 0 [] = some (p, ws)
  fin : p.fin = tree.length
theorem Whole.laid {gm : Gram} {tree : List Int} {p : PT} {ws : List Int} (h : Whole gm tree p ws) : Laid p.parts 0 := (readT_laid _ _ _ _ _ _ _ _ h.read).1
theorem Whole.len {gm : Gram} {tree : List Int} {p : PT} {ws : List Int} (h : Whole gm tree p ws) : p.parts.length = tree.length := by
  have := (readT_laid _ _ _ _ _ _ _ _ h.read).2.1
  have := h.fin
  omega
theorem Whole.words {gm : Gram} {tree : List Int} {p : PT} {ws : List Int} (h : Whole gm tree p ws) : ws.length ≤ 240 := by
  have := (readT_words (good_rule h.good) _ _ _ _ _ _ h.read).2
  have := h.len
  have := h.le
  simp at *
  omega
theorem asked_whole {gm : Gram} {tree : List Int} : (askedT gm tree = true → ∃ p ws, Whole gm tree p ws) ∧ (askedT gm tree = false → ∀ p ws, ¬ Whole gm tree p ws) := by
  have he := endT_eq gm.rules tree tree.length 0 0 []
  constructor
  · intro h
    simp only [askedT, isT, Bool.and_eq_true, decide_eq_true_eq] at h
    rw [h.2.2] at he
    cases hz : readT gm.rules tree tree.length 0 0 [] with
    | none => rw [hz] at he; cases he
    | some z =>
      rw [hz] at he
      exact ⟨z.1, z.2, h.1.1, h.1.2, hz, by simpa using he.symm⟩
  · intro h p ws hw
    have h1 : askedT gm tree = true := by
      simp only [askedT, isT, Bool.and_eq_true, decide_eq_true_eq]
      refine ⟨⟨hw.good, hw.le⟩, ?_, ?_⟩
      · have := hw.len
        rw [parts_cons] at this
        simp at this
        omega
      · rw [he, hw.read]
        simp [hw.fin]
    rw [h] at h1
    cases h1
end Go.Sh
namespace Go.Proofs.Ytiohaeckagjebaa
open Go Go.Sh Go.RowKit

theorem l18Pump_c {F : Nat → Prop} {w : World} {v : Value} {gm : Gram} {tree : List Int} {X : Option Addr} {n c : Nat} {p : PT} {ws : List Int} (hW : Whole gm tree p ws) (hv : GramV F w v gm) (hx : Ints w X tree) (hn : n = tree.length) {k : Value → World → Prop}
    (hk0 : pumpV p.parts = none → ∀ w', Gr w w' → k (.slice none 0 0) w') (hk1 : ∀ i j, pumpV p.parts = some (i, j) → ∀ w' U d, Gr w w' → Own 3 w' w.heap.size U d (pumpR p.parts i j) → k (.slice U 6 d) w') :
    CallK Try.prog 92 [v, .slice X n c] k w := by
  subst hn
  obtain ⟨Y, cy, rfl, hc, hy⟩ := hv
  have hlen := hW.len
  have h60 := hW.le
  have hlaid := hW.laid
  refine enter92 ?_
  unfold S92
  have H := Apt.nil w
  refine boxH H fun b1 w1 H => ?_
  rw [ldB_agg agg37 sz37 rfl (H.box 0 rfl)]
  refine l18Parts_c hW.good (by omega) tree.length (a := 0) (ws := []) ⟨Y, cy, rfl, hc, hy.gr H.gr⟩ (hx.gr H.gr) hW.read (by have := hW.words; omega) fun w2 U d ps g2 o2 => ?_
  have H := H.step g2
  have hss := o2.read
  simp only [go_sem, Nat.reduceEqDiff]
  rw [rowsP_length]
  generalize hP : p.parts = P at *
  refine loop_to P.length 0 (fun i f w' => i ≤ P.length ∧ f 19 = .int .i64 i ∧ (∀ p', p' < i → Dry P p' (ptn P p').fin) ∧ Gr w2 w' ∧ Apt w w' [bx b1 [.int .i64 gm.nons, .int .i64 gm.toks, .slice Y gm.rules.length cy] 37]) ⟨Nat.zero_le _, rfl, fun p' h => absurd h (Nat.not_lt_zero _), Gr.refl _, H⟩ ?_
  rintro i f w3 N hag ⟨hi, h19, hdry, G, H⟩ hN
  have f17 : f 17 = .slice U P.length d := hag 17 (by decide)
  have f18 : f 18 = .int .i64 P.length := hag 18 (by decide)
  have f5 : f 5 = .slice U P.length d := hag 5 (by decide)
  simp only [f17, f18, f5, h19, go_sem, Nat.reduceEqDiff]
  by_cases hlt : i < P.length
  case neg =>
    simp only [show ¬ (i : Int) < P.length from by omega, decide_false, go_sem, Nat.reduceEqDiff]
    obtain rfl : i = P.length := by omega
    exact hk0 (pumpV_none hdry) _ H.gr
  simp only [show (i : Int) < P.length from by omega, decide_true, go_sem, Nat.reduceEqDiff]
  obtain ⟨V, cV, hv1, hv2, hv3⟩ := hss.row i (by rw [rowsP_length]; exact hlt)
  rw [rgt_rowsP hlt] at hv1 hv2 hv3
  obtain ⟨x0, x1, x2, x3, x4⟩ := row_cells hv3
  have hU : 0 < P.length → U = some (ad U) := fun h => hss.ptr (by rw [rowsP_length]; exact h)
  rw [ixn48 hU hlt, ld22 (G.cell hv1)]
  rw [i64_of (by omega) (by omega)]
  obtain ⟨l1, l2, l3, l4⟩ := hlaid i hlt
  rw [← ptn_eq hlt] at l1 l2 l3 l4
  refine loop_to (ptn P i).fin (i + 1) (fun j f' w' => i + 1 ≤ j ∧ j ≤ (ptn P i).fin ∧ f' 9 = .int .i64 j ∧ Dry P i j ∧ Gr w2 w' ∧ Apt w w' [bx b1 [.int .i64 gm.nons, .int .i64 gm.toks, .slice Y gm.rules.length cy] 37]) ⟨Nat.le_refl _, by omega, rfl, fun q' h1 h2 => by omega, G, H⟩ ?_
  rintro j f' w4 N' hag' ⟨hj1, hj2, h9, hd, G, H⟩ hN'
  have f8 : f' 8 = .slice V 4 cV := hag' 8 (by decide)
  have f5' : f' 5 = .slice U P.length d := (hag' 5 (by decide)).trans f5
  have f7 : f' 7 = .int .i64 i := hag' 7 (by decide)
  have f19 : f' 19 = .int .i64 i := (hag' 19 (by decide)).trans h19
  simp only [f8, f5', f7, f19, h9, go_sem, Nat.reduceEqDiff]
  rw [ix22_1 (fun _ => x0) (by decide), ld3 (G.cell x2)]
  simp only [go_sem, Nat.reduceEqDiff]
  by_cases hltj : j < (ptn P i).fin
  case neg =>
    simp only [show ¬ (j : Int) < (ptn P i).fin from by omega, decide_false, go_sem, Nat.reduceEqDiff]
    obtain rfl : j = (ptn P i).fin := by omega
    rw [i64_of (by omega) (by omega)]
    refine hN _ _ hlt ⟨hlt, rfl, fun p' hp' => ?_, G, H⟩
    by_cases e : p' = i
    · rw [e]; exact hd
    · exact hdry p' (by omega)
  simp only [show (j : Int) < (ptn P i).fin from by omega, decide_true, go_sem, Nat.reduceEqDiff]
  have hjl : j < P.length := by omega
  obtain ⟨V2, cV2, hw1, hw2, hw3⟩ := hss.row j (by rw [rowsP_length]; exact hjl)
  rw [rgt_rowsP hjl] at hw1 hw2 hw3
  replace hw1 : w2.cell? ((ad U).add j) = some (.slice V2 4 cV2) := hw1
  obtain ⟨y0, y1, y2, y3, y4⟩ := row_cells hw3
  rw [ixn48 hU hjl, ld22 (G.cell hw1)]
  have Gd := gr_trans G (gr_drew w4)
  have Hd := H.drew
  rw [ix22_0 (fun _ => x0) (by decide), ld3 (Gd.cell x1), ix22_0 (fun _ => y0) (show 0 < 4 by decide), ld3 (Gd.cell y1)]
  simp only [go_sem, Nat.reduceEqDiff]
  by_cases hnon : (ptn P i).non = (ptn P j).non
  case neg =>
    simp only [hnon, decide_false, go_sem, Nat.reduceEqDiff]
    rw [i64_of (by omega) (by omega)]
    exact hN' _ _ hltj ⟨by omega, hltj, rfl, dry_next hd (by simp [pairT, hnon]), Gd, Hd⟩
  simp only [hnon, decide_true, go_sem, Nat.reduceEqDiff]
  rw [ix22_2 (fun _ => x0) (by decide), ld3 (Gd.cell x3), ix22_2 (fun _ => y0) (show 2 < 4 by decide), ld3 (Gd.cell y3)]
  simp only [Int.natCast_inj, go_sem, Nat.reduceEqDiff]
  have found : pairT (ptn P i) (ptn P j) = true → N' = N' → ∀ (w5 : World), Apt w w5 [bx b1 [.int .i64 gm.nons, .int .i64 gm.toks, .slice Y gm.rules.length cy] 37] → ∀ U d, Own 3 w5 w.heap.size U d (pumpR P i j) → k (.slice U 6 d) w5 := fun hp _ w5 H5 U d o =>
    hk1 i j (pumpV_some hlt (by omega) hltj hp hd hdry) w5 U d H5.gr o
  have Gd2 := gr_trans Gd (gr_drew _)
  have Hd2 := Hd.drew
  by_cases hfr : (ptn P i).fr = (ptn P j).fr
  case neg =>
    simp only [hfr, decide_false, Bool.not_false, go_sem, Nat.reduceEqDiff]
    rw [ix22_2 (fun _ => x0) (by decide), ld3 (Gd2.cell x3), ix22_2 (fun _ => y0) (show 2 < 4 by decide), ld3 (Gd2.cell y3), ix22_3 (fun _ => y0) (show 3 < 4 by decide), ld3 (Gd2.cell y4), ix22_3 (fun _ => x0) (by decide), ld3 (Gd2.cell x4)]
    refine buildH Hd2 u22 inf3 (ints (pumpR P i j)) (by decide) (by decide) (by simp [Instr.fill, madeCells, Value.cells, rng6, ints, pumpR]) rfl fun b5 w5 H5 => ?_
    exact found (by simp [pairT, hnon, hfr]) rfl w5 (H5.take 1) _ _ (H5.row 1 rfl)
  simp only [hfr, decide_true, Bool.not_true, go_sem, Nat.reduceEqDiff]
  rw [ix22_3 (fun _ => x0) (by decide), ld3 (Gd.cell x4), ix22_3 (fun _ => y0) (show 3 < 4 by decide), ld3 (Gd.cell y4)]
  simp only [Int.natCast_inj, go_sem, Nat.reduceEqDiff]
  by_cases hto : (ptn P i).to = (ptn P j).to
  case pos =>
    simp only [hto, decide_true, Bool.not_true, go_sem, Nat.reduceEqDiff]
    rw [i64_of (by omega) (by omega)]
    exact hN' _ _ hltj ⟨by omega, hltj, rfl, dry_next hd (by simp [pairT, hfr, hto]), Gd, Hd⟩
  simp only [hto, decide_false, Bool.not_false, go_sem, Nat.reduceEqDiff]
  rw [ix22_2 (fun _ => x0) (by decide), ld3 (Gd2.cell x3), ix22_2 (fun _ => y0) (show 2 < 4 by decide), ld3 (Gd2.cell y3), ix22_3 (fun _ => y0) (show 3 < 4 by decide), ld3 (Gd2.cell y4), ix22_3 (fun _ => x0) (by decide), ld3 (Gd2.cell x4)]
  refine buildH Hd2 u22 inf3 (ints (pumpR P i j)) (by decide) (by decide) (by simp [Instr.fill, madeCells, Value.cells, rng6, ints, pumpR]) rfl fun b5 w5 H5 => ?_
  exact found (by simp [pairT, hnon, hto]) rfl w5 (H5.take 1) _ _ (H5.row 1 rfl)
end Go.Proofs.Ytiohaeckagjebaa

/- Contracts: PumpOf, PathIn, PumpTree of the reference. -/
set_option linter.unusedVariables false
set_option linter.unusedSimpArgs false
set_option maxRecDepth 100000
namespace Go.Sh
open Go
def wholeP (gm : Gram) (tree : List Int) : Option PT := if askedT gm tree = true then (readT gm.rules tree tree.length 0 0 []).map fun z => z.1 else none
theorem whole_no {gm : Gram} {tree : List Int} (h : askedT gm tree = false) : wholeP gm tree = none := by
  unfold wholeP
  rw [h]
  rfl
theorem Whole.eq {gm : Gram} {tree : List Int} {p : PT} {ws : List Int} (h : Whole gm tree p ws) : wholeP gm tree = some p := by
  have ha : askedT gm tree = true := by
    cases e : askedT gm tree with
    | true => rfl
    | false => exact absurd h (asked_whole.2 e p ws)
  unfold wholeP
  rw [if_pos ha, h.read]
  rfl
def pumpOfV (gm : Gram) (tree : List Int) : List Int × Bool := match wholeP gm tree with
  | none => ([], false)
  | some p => match pumpV p.parts with
    | none => ([], false)
    | some (i, j) => (pumpR p.parts i j, true)
def pathInV (gm : Gram) (tree : List Int) : List (List Int) × Bool := match wholeP gm tree with
  | none => ([], false)
  | some p => (rowsP p.parts, true)
def treeCuts (ps : List PT) (i j : Nat) : List Int := [i, j, (ptn ps j).fin, (ptn ps i).fin]
def pumpTreeV (gm : Gram) (tree : List Int) (m : Int) : List Int × Bool := match wholeP gm tree with
  | none => ([], false)
  | some p => if inB m 0 4 = true then match pumpV p.parts with
      | none => ([], false)
      | some (i, j) => if (pumpL tree (treeCuts p.parts i j) m.toNat).length ≤ 60 then (pumpL tree (treeCuts p.parts i j) m.toNat, true) else ([], false)
    else ([], false)
def Good1 (q : PT) : Prop := Laid q.parts q.at_ ∧ q.fin = q.at_ + q.parts.length
theorem readR_each {rec : Int → Nat → List Int → Option (PT × List Int)} (h : ∀ x a w p w', rec x a w = some (p, w') → ∀ q ∈ p.parts, Good1 q) : ∀ (xs : List Int) (e : Nat) (w : List Int) (ks : List PT) {ks' : List PT} {e' : Nat} {w' : List Int}, readR rec xs e w ks = some (ks', e', w') → (∀ q ∈ PT.partsL ks, Good1 q) → ∀ q ∈ PT.partsL ks', Good1 q := by
  intro xs
  induction xs with
  | nil =>
    intro e w ks ks' e' w' hr hq
    simp only [readR, Option.some.injEq, Prod.mk.injEq] at hr
    obtain ⟨rfl, rfl, rfl⟩ := hr
    exact hq
  | cons x xs ih =>
    intro e w ks ks' e' w' hr hq
    unfold readR at hr
    split at hr
    · exact ih _ _ _ hr hq
    · split at hr
      · cases hr
      · rename_i k w1 hz
        refine ih _ _ _ hr fun q hm => ?_
        rw [partsL_append] at hm
        rcases List.mem_append.1 hm with hm | hm
        · exact hq q hm
        · simp only [PT.partsL, List.append_nil] at hm
          exact h _ _ _ _ _ hz q hm
theorem readT_each {rs : List RuleL} {tree : List Int} : ∀ (f : Nat) (non : Int) (a : Nat) (w : List Int) (p : PT) (w' : List Int), readT rs tree f non a w = some (p, w') → ∀ q ∈ p.parts, Good1 q := by
  intro f
  induction f with
  | zero => intro non a w p w' h; cases h
  | succ f ih =>
    intro non a w p w' h q hq
    obtain ⟨h1, h2, h3, _⟩ := readT_laid _ _ _ _ _ _ _ _ h
    rw [parts_cons] at hq
    rcases List.mem_cons.1 hq with rfl | hq
    · exact ⟨by rw [h3]; exact h1, by rw [h3]; exact h2⟩
    · obtain ⟨_, ks, e, _, _, _, _, hR, rfl⟩ := readT_some h
      exact readR_each (fun x a w p w' hh => ih x a w p w' hh) _ _ _ _ hR (fun q hm => by simp [PT.partsL] at hm) q hq
theorem Whole.nest {gm : Gram} {tree : List Int} {p : PT} {ws : List Int} (hW : Whole gm tree p ws) {i j : Nat} (hi : i < p.parts.length) (hij : i ≤ j) (hj : j < (ptn p.parts i).fin) : (ptn p.parts j).fin ≤ (ptn p.parts i).fin := by
  obtain ⟨l1, l2, l3, l4⟩ := hW.laid i hi
  have hg := readT_each _ _ _ _ _ _ hW.read (ptn p.parts i) (by rw [ptn_eq hi]; exact List.getElem_mem hi)
  rw [← ptn_eq hi] at l1 l2 l3 l4
  obtain ⟨g1, g2⟩ := hg
  have hd : j - i < (ptn p.parts i).parts.length := by omega
  have := (g1 (j - i) hd).2.1
  rw [← ptn_eq hd, l4, ptn_drop (by omega), show i + (j - i) = j from by omega, ← l4] at this
  omega
end Go.Sh
namespace Go.Proofs.Ytiohaeckagjebaa
open Go Go.Sh Go.RowKit

theorem specPumpOf_c {F : Nat → Prop} {w : World} {v : Value} {gm : Gram} {tree : List Int} {X : Option Addr} {n c : Nat} (hv : GramV F w v gm) (hx : Ints w X tree) (hn : n = tree.length) {k : Value → World → Prop}
    (hk : ∀ w' U d, Gr w w' → Own 3 w' w.heap.size U d (pumpOfV gm tree).1 → k (.tuple #[.slice U (pumpOfV gm tree).1.length d, .bool (pumpOfV gm tree).2]) w') :
    CallK Try.prog 42 [v, .slice X n c] k w := by
  subst hn
  obtain ⟨Y, cy, rfl, hc, hy⟩ := hv
  refine enter42 ?_
  unfold S42
  have H := Apt.nil w
  refine boxH H fun b1 w1 H => ?_
  rw [ldB_agg agg37 sz37 rfl (H.box 0 rfl)]
  refine l18Asked_c (gm := gm) (tree := tree) ⟨Y, cy, rfl, hc, hy.gr H.gr⟩ (hx.gr H.gr) rfl fun w2 g2 => ?_
  have H := H.step g2
  unfold pumpOfV at hk
  cases ha : askedT gm tree
  · simp only [Bool.not_false, go_sem, Nat.reduceEqDiff]
    rw [whole_no ha] at hk
    exact hk _ none 0 H.gr (Row.nil _ _ _ _)
  obtain ⟨p, ws, hW⟩ := asked_whole.1 ha
  rw [hW.eq] at hk
  simp only [Bool.not_true, go_sem, Nat.reduceEqDiff]
  rw [ldB_agg agg37 sz37 rfl (H.box 0 rfl)]
  refine l18Pump_c hW ⟨Y, cy, rfl, hc, hy.gr H.gr⟩ (hx.gr H.gr) rfl (fun he w3 g3 => ?_) fun i j he w3 U d g3 o3 => ?_
  · have H := H.step g3
    simp only [go_sem, Nat.reduceEqDiff]
    simp only [he] at hk
    exact hk _ none 0 H.gr (Row.nil _ _ _ _)
  · have G := H.gr
    have H := H.step g3
    simp only [go_sem, Nat.reduceEqDiff]
    simp only [he] at hk
    exact hk _ U d H.gr (Row.mono o3 G.size)
theorem specPathIn_c {F : Nat → Prop} {w : World} {v : Value} {gm : Gram} {tree : List Int} {X : Option Addr} {n c : Nat} (hv : GramV F w v gm) (hx : Ints w X tree) (hn : n = tree.length) {k : Value → World → Prop}
    (hk : ∀ w' U d ps, Gr w w' → OwnSS 22 3 w' w.heap.size U d (pathInV gm tree).1 ps → k (.tuple #[.slice U (pathInV gm tree).1.length d, .bool (pathInV gm tree).2]) w') :
    CallK Try.prog 44 [v, .slice X n c] k w := by
  subst hn
  obtain ⟨Y, cy, rfl, hc, hy⟩ := hv
  refine enter44 ?_
  unfold S44
  have H := Apt.nil w
  refine boxH H fun b1 w1 H => ?_
  rw [ldB_agg agg37 sz37 rfl (H.box 0 rfl)]
  refine l18Asked_c (gm := gm) (tree := tree) ⟨Y, cy, rfl, hc, hy.gr H.gr⟩ (hx.gr H.gr) rfl fun w2 g2 => ?_
  have H := H.step g2
  unfold pathInV at hk
  cases ha : askedT gm tree
  · simp only [Bool.not_false, go_sem, Nat.reduceEqDiff]
    rw [whole_no ha] at hk
    exact hk _ none 0 (fun _ => (none, 0)) H.gr (OwnSS.nil _ _ _ _ _)
  obtain ⟨p, ws, hW⟩ := asked_whole.1 ha
  rw [hW.eq] at hk
  simp only [Bool.not_true, go_sem, Nat.reduceEqDiff]
  rw [ldB_agg agg37 sz37 rfl (H.box 0 rfl)]
  have h60 := hW.le
  refine l18Parts_c hW.good (by omega) tree.length (a := 0) (ws := []) ⟨Y, cy, rfl, hc, hy.gr H.gr⟩ (hx.gr H.gr) hW.read (by have := hW.words; omega) fun w3 U d ps g3 o3 => ?_
  simp only [go_sem, Nat.reduceEqDiff]
  exact hk _ U d ps (gr_trans H.gr g3) (OwnSS.mono o3 H.gr.size)
theorem cuts_of {p : PT} {gm : Gram} {tree : List Int} {ws : List Int} (hW : Whole gm tree p ws) {i j : Nat} (he : pumpV p.parts = some (i, j)) : i < p.parts.length ∧ i < j ∧ j < (ptn p.parts i).fin ∧ j < p.parts.length ∧ Cuts (treeCuts p.parts i j) tree.length := by
  have hlen := hW.len
  have hlaid := hW.laid
  have key : i < p.parts.length ∧ i < j ∧ j < (ptn p.parts i).fin := by
    unfold pumpV at he
    obtain ⟨a, ha, h1⟩ := List.exists_of_findSome?_eq_some he
    obtain ⟨b, hb, h2⟩ := List.exists_of_findSome?_eq_some h1
    rw [List.mem_range] at ha
    rw [List.mem_range'_1] at hb
    split at h2
    · simp only [Option.some.injEq, Prod.mk.injEq] at h2
      obtain ⟨rfl, rfl⟩ := h2
      exact ⟨ha, by omega, by omega⟩
    · cases h2
  obtain ⟨h1, h2, h3⟩ := key
  obtain ⟨l1, l2, l3, l4⟩ := hlaid i h1
  rw [← ptn_eq h1] at l1 l2 l3 l4
  have hj : j < p.parts.length := by omega
  have hsub := hW.nest h1 (by omega) h3
  obtain ⟨m1, m2, m3, m4⟩ := hlaid j hj
  rw [← ptn_eq hj] at m1 m2 m3 m4
  refine ⟨h1, h2, h3, hj, rfl, ?_, ?_, ?_, ?_, ?_⟩ <;> simp only [treeCuts, List.getD_cons_zero, List.getD_cons_succ] <;> omega
theorem specPumpTree_c {F : Nat → Prop} {w : World} {v : Value} {gm : Gram} {tree : List Int} {X : Option Addr} {n c : Nat} {m : Int} (hv : GramV F w v gm) (hx : Ints w X tree) (hn : n = tree.length) (hcap : tree.length ≤ c) {k : Value → World → Prop}
    (hk : ∀ w' U d, Gr w w' → Own 3 w' w.heap.size U d (pumpTreeV gm tree m).1 → k (.tuple #[.slice U (pumpTreeV gm tree m).1.length d, .bool (pumpTreeV gm tree m).2]) w') :
    CallK Try.prog 59 [v, .slice X n c, .int .i64 m] k w := by
  subst hn
  obtain ⟨Y, cy, rfl, hc, hy⟩ := hv
  refine enter59 ?_
  unfold S59
  have H := Apt.nil w
  refine boxH H fun b1 w1 H => ?_
  rw [ldB_agg agg37 sz37 rfl (H.box 0 rfl)]
  refine l18Asked_c (gm := gm) (tree := tree) ⟨Y, cy, rfl, hc, hy.gr H.gr⟩ (hx.gr H.gr) rfl fun w2 g2 => ?_
  have H := H.step g2
  unfold pumpTreeV at hk
  cases ha : askedT gm tree
  · simp only [Bool.not_false, go_sem, Nat.reduceEqDiff]
    rw [whole_no ha] at hk
    exact hk _ none 0 H.gr (Row.nil _ _ _ _)
  obtain ⟨p, ws, hW⟩ := asked_whole.1 ha
  rw [hW.eq] at hk
  simp only [Bool.not_true, go_sem, Nat.reduceEqDiff]
  refine l1In_c ?_
  cases hm : inB m 0 4
  · simp only [Bool.not_false, go_sem, Nat.reduceEqDiff]
    simp only [hm, Bool.false_eq_true, if_false] at hk
    exact hk _ none 0 H.gr (Row.nil _ _ _ _)
  simp only [hm, if_true] at hk
  obtain ⟨m, rfl⟩ : ∃ m' : Nat, m = m' := by
    simp only [inB, Bool.and_eq_true, decide_eq_true_eq] at hm
    exact ⟨m.toNat, by omega⟩
  have hm4 : m ≤ 4 := by
    simp only [inB, Bool.and_eq_true, decide_eq_true_eq] at hm
    omega
  rw [Int.toNat_natCast] at hk
  simp only [Bool.not_true, go_sem, Nat.reduceEqDiff]
  rw [ldB_agg agg37 sz37 rfl (H.box 0 rfl)]
  have h60 := hW.le
  refine l18Pump_c hW ⟨Y, cy, rfl, hc, hy.gr H.gr⟩ (hx.gr H.gr) rfl (fun he w3 g3 => ?_) fun i j he w3 U d g3 o3 => ?_
  · have H := H.step g3
    simp only [go_sem, Nat.reduceEqDiff]
    simp only [he] at hk
    exact hk _ none 0 H.gr (Row.nil _ _ _ _)
  simp only [he] at hk
  obtain ⟨hi, hij, hjf, hj, hcuts⟩ := cuts_of hW he
  have H := H.addOwn g3 o3
  simp only [show ¬ (((6 : Nat) : Int) = 0) from by decide, decide_false, go_sem, Nat.reduceEqDiff]
  rw [ldB_agg agg37 sz37 rfl (H.box 0 rfl)]
  refine l18Parts_c hW.good (by omega) tree.length (a := 0) (ws := []) ⟨Y, cy, rfl, hc, hy.gr H.gr⟩ (hx.gr H.gr) hW.read (by have := hW.words; omega) fun w4 V d4 ps g4 o4 => ?_
  have H := ((H.step g4).drew).drew
  have hss := o4.read.gr (gr_trans (gr_drew _) (gr_drew _))
  have hUi := H.ints 1 rfl
  have hU0 : U = some (ad U) := hUi.ptr (by simp [pumpR])
  simp only [go_sem, Nat.reduceEqDiff]
  have hrl := rowsP_length p.parts
  obtain ⟨V1, c1, a1, a2, a3⟩ := hss.row j (by omega)
  obtain ⟨V2, c2, b1', b2', b3'⟩ := hss.row i (by omega)
  rw [rgt_rowsP hj] at a1 a2 a3
  rw [rgt_rowsP hi] at b1' b2' b3'
  obtain ⟨x0, x1, x2, x3, x4⟩ := row_cells a3
  obtain ⟨y0, y1, y2, y3, y4⟩ := row_cells b3'
  have hU2 := o3.ints.gr g4
  have hV : 0 < (rowsP p.parts).length → V = some (ad V) := fun h => hss.ptr h
  replace a1 : World.cell? _ _ = some (.slice V1 4 c1) := a1
  replace b1' : World.cell? _ _ = some (.slice V2 4 c2) := b1'
  refine rdi (ix22_0 (fun _ => hU0) (show 0 < 6 by decide)) (rdi (ld3 ((hU2.gr (gr_drew _)).cell 0 (by simp [pumpR]))) (rdi (ix22_1 (fun _ => hU0) (show 1 < 6 by decide)) (rdi (ld3 ((hU2.gr (gr_drew _)).cell 1 (by simp [pumpR]))) ?_)))
  refine rdi (ixn48 (i := j) hV (by omega)) (rdi (ld22 a1) (rdi (ix22_1 (fun _ => x0) (show 1 < 4 by decide)) (rdi (ld3 x2) ?_)))
  refine rdi (ixn48 (i := i) hV (by omega)) (rdi (ld22 b1') (rdi (ix22_1 (fun _ => y0) (show 1 < 4 by decide)) (rdi (ld3 y2) ?_)))
  refine buildH H u22 inf3 (ints (treeCuts p.parts i j)) (by decide) (by decide) (by simp [Instr.fill, madeCells, Value.cells, rng4, ints, treeCuts, pumpR]) rfl fun b5 w5 H => ?_
  refine l18Word_c (cs := treeCuts p.parts i j) (hx.gr H.gr) hcap (Own.ints (show Own 3 w5 w.heap.size _ 4 (treeCuts p.parts i j) from H.row 2 rfl)) hcuts (by omega) hm4 fun U6 d6 w6 g6 o6 => ?_
  have G := H.gr.size
  have H := H.step g6
  simp only [go_sem, Nat.reduceEqDiff]
  by_cases h60' : (pumpL tree (treeCuts p.parts i j) m).length ≤ 60
  · simp only [show ¬ ((60 : Int) < (pumpL tree (treeCuts p.parts i j) m).length) from by omega, decide_false, go_sem, Nat.reduceEqDiff]
    simp only [if_pos h60'] at hk
    exact hk _ U6 d6 H.gr (Row.mono o6 G)
  · simp only [show ((60 : Int) < (pumpL tree (treeCuts p.parts i j) m).length) from by omega, decide_true, go_sem, Nat.reduceEqDiff]
    simp only [if_neg h60'] at hk
    exact hk _ none 0 H.gr (Row.nil _ _ _ _)
end Go.Proofs.Ytiohaeckagjebaa

/- Contract: the first two parts that can be pumped, by the program. -/
set_option linter.unusedVariables false
set_option linter.unusedSimpArgs false
set_option maxRecDepth 100000
namespace Go.Proofs.Ytiohaeckagjebaa
open Go Go.Sh Go.RowKit

theorem pump_c {gm : Gram} {tree : List Int} {p : PT} {ws : List Int} (hW : Whole gm tree p ws) {F : Nat → Prop} {w : World} {b : Nat} (hF : ∀ q, F q → q < w.heap.size) (hp : PartAt F w p b) {k : Value → World → Prop}
    (hk0 : pumpV p.parts = none → ∀ w', Gr w w' → k (.tuple #[.pointer none, .pointer none]) w')
    (hk1 : ∀ i j, pumpV p.parts = some (i, j) → ∀ w' b1 b2, Gr w w' → PartAt F w' (ptn p.parts i) b1 → PartAt F w' (ptn p.parts j) b2 → k (.tuple #[ptrv b1, ptrv b2]) w') :
    CallK Try.prog 94 [ptrv b] k w := by
  have hlen := hW.len
  have h60 := hW.le
  have hlaid := hW.laid
  refine enter94 ?_
  unfold S94
  have H := Apt.nil w
  refine parts_c p.parts.length (Nat.le_refl _) (by omega) hF hp fun w1 U d bs g1 r1 a1 => ?_
  have H := H.addRow g1 r1
  generalize hP : p.parts = P at *
  have hbl := a1.1
  simp only [go_sem, Nat.reduceEqDiff]
  refine loop_to P.length 0 (fun i f w' => i ≤ P.length ∧ f 11 = .int .i64 i ∧ (∀ p', p' < i → Dry P p' (ptn P p').fin) ∧ Apt w w' [rwi 86 1 U bs.length d (bs.map ptrv)]) ⟨Nat.zero_le _, rfl, fun p' h => absurd h (Nat.not_lt_zero _), H⟩ ?_
  have g1' := g1
  rintro i f w3 N hag ⟨hi, h11, hdry, H⟩ hN
  have f9 : f 9 = .slice U bs.length d := hag 9 (by decide)
  have f10 : f 10 = .int .i64 bs.length := hag 10 (by decide)
  simp only [f9, f10, h11, go_sem, Nat.reduceEqDiff]
  by_cases hlt : i < P.length
  case neg =>
    simp only [show ¬ (i : Int) < bs.length from by omega, decide_false, go_sem, Nat.reduceEqDiff]
    obtain rfl : i = P.length := by omega
    exact hk0 (pumpV_none hdry) _ H.gr
  simp only [show (i : Int) < bs.length from by omega, decide_true, go_sem, Nat.reduceEqDiff]
  obtain ⟨l1, l2, l3, l4⟩ := hlaid i hlt
  rw [← ptn_eq hlt] at l1 l2 l3 l4
  have hpi := (a1.2 i hlt).across hF g1 H.gr
  have G3 := H.gr
  rw [ixn91 (Row.ptr (H.row 0 rfl)) (by omega), ld86 ((H.row 0 rfl).src.cell i _ (ptrs_at (by omega)))]
  have hF3 : ∀ q, F q → q < w3.heap.size := fun q hq => Nat.lt_of_lt_of_le (hF q hq) H.gr.size
  have hni : (ptn P i).parts.length = (ptn P i).fin - i := by
    rw [l4, List.length_take, List.length_drop]
    omega
  refine parts_c (ptn P i).parts.length (Nat.le_refl _) (by omega) hF3 hpi fun w4 V e cs g4 r4 a4 => ?_
  have g34 := gr_trans H.gr g4
  have H := H.addRow g4 r4
  have hcl := a4.1
  rw [sll91 (by decide) (by omega)]
  simp only [go_sem, Nat.reduceEqDiff]
  refine loop_to (cs.length - 1) 0 (fun j f' w' => j ≤ cs.length - 1 ∧ f' 19 = .int .i64 j ∧ Dry P i (i + 1 + j) ∧ Apt w w' [rwi 86 1 U bs.length d (bs.map ptrv), rwi 86 1 V cs.length e (cs.map ptrv)]) ⟨Nat.zero_le _, rfl, fun q' h1 h2 => by omega, H⟩ ?_
  rintro j f' w5 N' hag' ⟨hj1, h19, hd, H⟩ hN'
  have f17 : f' 17 = .slice (sub V (Int.toNat 1) e 1) (cs.length - Int.toNat 1) (e - Int.toNat 1) := hag' 17 (by decide)
  have f18 : f' 18 = .int .i64 ((cs.length - Int.toNat 1 : Nat) : Int) := hag' 18 (by decide)
  have f5 : f' 5 = ptrv (bs.getD i 0) := hag' 5 (by decide)
  have f11 : f' 11 = .int .i64 i := (hag' 11 (by decide)).trans h11
  simp only [f17, f18, f5, f11, h19, go_sem, Nat.reduceEqDiff]
  rw [show (1 : Int).toNat = 1 from rfl] at *
  by_cases hltj : j < cs.length - 1
  case neg =>
    simp only [show ¬ (j : Int) < (cs.length - 1 : Nat) from by omega, decide_false, go_sem, Nat.reduceEqDiff]
    rw [i64_of (by omega) (by omega)]
    refine hN _ _ hlt ⟨hlt, rfl, fun p' hp' => ?_, H.take 1⟩
    by_cases e : p' = i
    · rw [e]
      rw [show (ptn P i).fin = i + 1 + j from by omega]
      exact hd
    · exact hdry p' (by omega)
  simp only [show (j : Int) < (cs.length - 1 : Nat) from by omega, decide_true, go_sem, Nat.reduceEqDiff]
  have hsrc := (Row.src (H.row 1 rfl)).sub (l := 1) (c := e) (sz := 1) (by simp; omega) (by have := (H.row 1 rfl).cap; simp; omega) cs.length
  have hcell : (((cs.map ptrv).drop (1 * 1)).take cs.length)[j]? = some (ptrv (cs.getD (1 + j) 0)) := by
    rw [List.getElem?_take_of_lt (by omega), List.getElem?_drop, Nat.one_mul]
    exact ptrs_at (by omega)
  have hyi := a4.2 (1 + j) (by omega)
  have hq : ptn (ptn P i).parts (1 + j) = ptn P (i + 1 + j) := by
    rw [l4, ptn_drop (by omega)]
    congr 1
    omega
  rw [hq] at hyi
  have Hd := H.drew
  have hx5 : PartAt F w5.drew (ptn P i) (bs.getD i 0) := hpi.across hF G3 Hd.gr
  have hy5 : PartAt F w5.drew (ptn P (i + 1 + j)) (cs.getD (1 + j) 0) := hyi.across hF g34 Hd.gr
  obtain ⟨Xx, cx, bx, _, _, _⟩ := hx5.box
  obtain ⟨Xy, cy, by_, _, _, _⟩ := hy5.box
  have hj9 : i + 1 + j < (ptn P i).fin := by omega
  have found : pairT (ptn P i) (ptn P (i + 1 + j)) = true → k (.tuple #[ptrv (bs.getD i 0), ptrv (cs.getD (1 + j) 0)]) w5.drew := fun hp =>
    hk1 i (i + 1 + j) (pumpV_some hlt (by omega) hj9 hp hd hdry) _ _ _ Hd.gr hx5 hy5
  have next : pairT (ptn P i) (ptn P (i + 1 + j)) = false → Dry P i (i + 1 + (j + 1)) := fun hp => dry_next hd hp
  rw [ixn91 (fun _ => hsrc.ptr (by
    intro e0
    rw [e0] at hcell
    simp at hcell)) hltj, ld86 (hsrc.cell j _ hcell)]
  simp only [go_sem, Nat.reduceEqDiff]
  rw [ldB3 bx rfl, ldB3 by_ rfl]
  simp only [go_sem, Nat.reduceEqDiff]
  by_cases hnon : (ptn P i).non = (ptn P (i + 1 + j)).non
  case neg =>
    simp only [hnon, decide_false, go_sem, Nat.reduceEqDiff]
    rw [i64_of (by omega) (by omega)]
    exact hN' _ _ hltj ⟨hltj, rfl, next (by simp [pairT, hnon]), Hd⟩
  simp only [hnon, decide_true, go_sem, Nat.reduceEqDiff]
  rw [ldB3 bx rfl, ldB3 by_ rfl]
  simp only [Int.natCast_inj, go_sem, Nat.reduceEqDiff]
  by_cases hfr : (ptn P i).fr = (ptn P (i + 1 + j)).fr
  case neg =>
    simp only [hfr, decide_false, Bool.not_false, go_sem, Nat.reduceEqDiff]
    exact found (by simp [pairT, hnon, hfr])
  simp only [hfr, decide_true, Bool.not_true, go_sem, Nat.reduceEqDiff]
  rw [ldB3 bx rfl, ldB3 by_ rfl]
  simp only [Int.natCast_inj, go_sem, Nat.reduceEqDiff]
  by_cases hto : (ptn P i).to = (ptn P (i + 1 + j)).to
  case pos =>
    simp only [hto, decide_true, Bool.not_true, go_sem, Nat.reduceEqDiff]
    rw [i64_of (by omega) (by omega)]
    exact hN' _ _ hltj ⟨hltj, rfl, next (by simp [pairT, hfr, hto]), Hd⟩
  simp only [hto, decide_false, Bool.not_false, go_sem, Nat.reduceEqDiff]
  exact found (by simp [pairT, hnon, hto])
end Go.Proofs.Ytiohaeckagjebaa
