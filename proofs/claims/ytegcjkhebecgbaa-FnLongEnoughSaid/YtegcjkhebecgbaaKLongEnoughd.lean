/- Texts of this repository put together: Ca, ShZ3, ShZ4, ShZ5, ShZ6, ShZ7, ShG7, ShZ8, Cb, Ce, ShE1, ShE2, ShE3, ShD2, Sh60, Sh61. -/
import Derived.Test.YtegcjkhebecgbaaProg
import Derived.Test.YtegcjkhebecgbaaKLongEnougha
import Derived.Test.YtegcjkhebecgbaaKLongEnoughc
import Derived.Test.YtegcjkhebecgbaaKLongEnoughb

/- Ca: bodies of functions as terms of the frame calculus, printed by shgen.py of this repository. -/
set_option linter.unusedVariables false
set_option maxRecDepth 100000
namespace Go.Proofs.Ytegcjkhebecgbaa
open Go Go.Sh

/-! (*loop.example/g00758/spec.l1Cur).next -/
def pl247 : Plans := fun i => match i with
  | 2 => ⟨false, [], .step 0 .any (.step 1 .any (.step 2 .any (.step 3 .held (.step 4 .any (.step 5 .any (.step 6 .any (.step 7 .held (.step 8 .any (.step 9 .any (.nil))))))))))⟩
  | 3 => ⟨false, [10], .step 0 .any (.step 1 .any (.step 2 .any (.step 3 .held (.step 4 .any (.step 5 .any (.step 6 .any (.step 7 .held (.step 8 .any (.step 9 .held (.step 10 .last (.step 11 .any (.nil))))))))))))⟩
  | 6 => ⟨false, [], .step 0 .any (.step 1 .any (.step 2 .any (.step 3 .held (.step 4 .any (.step 5 .any (.step 6 .any (.step 7 .held (.step 8 .any (.step 9 .any (.nil))))))))))⟩
  | _ => ⟨false, [], .nil⟩
def S247 (v0 : Value) (k : Value → World → Prop) (w : World) : Prop :=
 Join (fun K1 =>
 Rd Try.prog WS.any (sNilCheck v0) fun t4 =>
 Rd Try.prog WS.any (sFieldAddr 114 t4 1) fun t5 =>
 Rd Try.prog (WS.at w.drew) (sLoad 3 t5) fun t6 =>
 Rd Try.prog WS.any (sNilCheck v0) fun t7 =>
 Rd Try.prog WS.any (sFieldAddr 114 t7 0) fun t8 =>
 Rd Try.prog (WS.at w.drew) (sLoad 22 t8) fun t9 =>
 Rd Try.prog WS.any (sBuiltin .len #[22] 3 [false] [t9]) fun t10 =>
 Rd Try.prog WS.any (sBin .lss 3 false t6 t10) fun t11 =>
 CondK t11
  (Rd Try.prog WS.any (sNilCheck v0) fun t12 =>
  Rd Try.prog WS.any (sFieldAddr 114 t12 0) fun t13 =>
  Rd Try.prog (WS.at w.drew.drew) (sLoad 22 t13) fun t14 =>
  Rd Try.prog WS.any (sNilCheck v0) fun t15 =>
  Rd Try.prog WS.any (sFieldAddr 114 t15 1) fun t16 =>
  Rd Try.prog (WS.at w.drew.drew) (sLoad 3 t16) fun t17 =>
  Rd Try.prog WS.any (sIndexAddr 22 t14 t17) fun t18 =>
  Rd Try.prog (WS.at w.drew.drew) (sLoad 5 t18) fun t19 =>
  Do Try.prog (sConvert 5 3 t19) (fun t20 w21 =>
  K1 (F.upd (F.upd (F.upd (F.upd (F.upd (F.upd (F.upd (F.upd (F.upd (F.upd (F.upd (F.upd (F.upd (F.upd (F.upd (F.upd (F.upd (F.upd (F.upd (F.upd (F.upd (F.upd (F.upd (F.upd (initF [v0]) 2 (.int .i64 0)) 3 (.int .i64 0)) 4 v0) 5 t4) 6 t5) 7 t6) 8 v0) 9 t7) 10 t8) 11 t9) 12 t10) 13 t11) 14 v0) 15 t12) 16 t13) 17 t14) 18 v0) 19 t15) 20 t16) 21 t17) 22 t18) 23 t19) 24 t20) 3 t20) w21) w.drew.drew)
  (K1 (F.upd (F.upd (F.upd (F.upd (F.upd (F.upd (F.upd (F.upd (F.upd (F.upd (F.upd (F.upd (initF [v0]) 2 (.int .i64 0)) 3 (.int .i64 0)) 4 v0) 5 t4) 6 t5) 7 t6) 8 v0) 9 t7) 10 t8) 11 t9) 12 t10) 13 t11) w.drew)) (fun f2 w3 =>
 Rd Try.prog (WS.at w3) (sNilCheck (f2 0)) fun t22 =>
 Rd Try.prog (WS.at w3) (sFieldAddr 114 t22 1) fun t23 =>
 Rd Try.prog (WS.at w3) (sLoad 3 t23) fun t24 =>
 Rd Try.prog (WS.at w3) (sBin .add 3 true t24 (.int .i64 1)) fun t25 =>
 Rd Try.prog (WS.at w3) (sNilCheck (f2 0)) fun t26 =>
 Rd Try.prog (WS.at w3) (sFieldAddr 114 t26 1) fun t27 =>
 Do Try.prog (sStore 3 t27 t25) (fun _ w28 =>
 Rd Try.prog (WS.at w28) (sNilCheck (f2 0)) fun t29 =>
 Rd Try.prog (WS.at w28) (sFieldAddr 114 t29 2) fun t30 =>
 Rd Try.prog (WS.at w28) (sLoad 112 t30) fun t31 =>
 Rd Try.prog (WS.at w28) (sBin .mul 112 true t31 (.int .u64 6364136223846793005)) fun t32 =>
 Do Try.prog (sConvert 3 112 (f2 3)) (fun t33 w34 =>
 Rd Try.prog (WS.at w34) (sBin .add 112 false t32 t33) fun t35 =>
 Rd Try.prog (WS.at w34) (sBin .add 112 true t35 (.int .u64 1442695040888963407)) fun t36 =>
 Rd Try.prog (WS.at w34) (sNilCheck (f2 0)) fun t37 =>
 Rd Try.prog (WS.at w34) (sFieldAddr 114 t37 2) fun t38 =>
 Do Try.prog (sStore 112 t38 t36) (fun _ w39 =>
 Rd Try.prog WS.any (sNilCheck (f2 0)) fun t40 =>
 Rd Try.prog WS.any (sFieldAddr 114 t40 1) fun t41 =>
 Rd Try.prog (WS.at w39.drew) (sLoad 3 t41) fun t42 =>
 Rd Try.prog WS.any (sNilCheck (f2 0)) fun t43 =>
 Rd Try.prog WS.any (sFieldAddr 114 t43 0) fun t44 =>
 Rd Try.prog (WS.at w39.drew) (sLoad 22 t44) fun t45 =>
 Rd Try.prog WS.any (sBuiltin .len #[22] 3 [false] [t45]) fun t46 =>
 Rd Try.prog WS.any (sBin .leq 3 false t42 t46) fun t47 =>
 CondK t47
  (k (f2 3) w39.drew)
  (Rd Try.prog (WS.at w39.drew) (sNilCheck (f2 0)) fun t48 =>
  Rd Try.prog (WS.at w39.drew) (sFieldAddr 114 t48 2) fun t49 =>
  Rd Try.prog (WS.at w39.drew) (sLoad 112 t49) fun t50 =>
  Rd Try.prog (WS.at w39.drew) (sBin .shr 112 true t50 (.int .u64 40)) fun t51 =>
  Rd Try.prog (WS.at w39.drew) (sBin .and 112 true t51 (.int .u64 255)) fun t52 =>
  Do Try.prog (sConvert 112 3 t52) (fun t53 w54 =>
  k t53 w54) w39.drew)) w34) w28) w3)
theorem body247 : Try.f247.body = some (bodyOf Try.f247) := by kernel_rfl
theorem same247 (v0 : Value) (k : Value → World → Prop) (w : World) : wpF Try.prog pl247 (bodyOf Try.f247) (bodyQ Try.prog Try.f247.results.toList k) (initF [v0]) w = S247 v0 k w := by kernel_rfl
theorem enter247 {v0 : Value} {k : Value → World → Prop} {w : World} (h : S247 v0 k w) : CallK Try.prog 247 [v0] k w :=
  call_of_wpF (pl := pl247) mixed Try.func247 body247 (by kernel_rfl) (of_decide_eq_true (by kernel_rfl)) (by kernel_rfl) (by kernel_rfl) (Eq.mpr (same247 v0 k w) h)

/-! (*loop.example/g00758/spec.l1Cur).pick -/
def pl146 : Plans := fun _ => ⟨false, [], .nil⟩
def S146 (v0 v1 : Value) (k : Value → World → Prop) (w : World) : Prop :=
 Rd Try.prog (WS.at w) (sBin .leq 3 true v1 (.int .i64 1)) fun t1 =>
 CondK t1
  (k (.int .i64 0) w)
  (CallK Try.prog 247 [v0] (fun t2 w3 =>
  Join (fun K4 =>
  Rd Try.prog (WS.at w3) (sBin .gtr 3 true v1 (.int .i64 200)) fun t7 =>
  CondK t7
   (Rd Try.prog (WS.at w3) (sBin .mul 3 true t2 (.int .i64 256)) fun t8 =>
   CallK Try.prog 247 [v0] (fun t9 w10 =>
   Rd Try.prog (WS.at w10) (sBin .add 3 false t8 t9) fun t11 =>
   K4 (F.upd (F.upd (F.upd (F.upd (F.upd (F.upd (F.upd (F.upd (F.upd (F.upd (F.upd (F.upd (F.upd (F.upd (initF [v0, v1]) 4 (.int .i64 0)) 6 v1) 7 t1) 8 v0) 9 t2) 5 t2) 10 v1) 11 t7) 12 t2) 13 t8) 14 v0) 15 t9) 16 t11) 5 t11) w10) w3)
   (K4 (F.upd (F.upd (F.upd (F.upd (F.upd (F.upd (F.upd (F.upd (initF [v0, v1]) 4 (.int .i64 0)) 6 v1) 7 t1) 8 v0) 9 t2) 5 t2) 10 v1) 11 t7) w3)) (fun f5 w6 =>
  Rd Try.prog (WS.at w6) (sBin .rem 3 false (f5 5) (f5 1)) fun t12 =>
  k t12 w6)) w)
theorem body146 : Try.f146.body = some (bodyOf Try.f146) := by kernel_rfl
theorem same146 (v0 v1 : Value) (k : Value → World → Prop) (w : World) : wpF Try.prog pl146 (bodyOf Try.f146) (bodyQ Try.prog Try.f146.results.toList k) (initF [v0, v1]) w = S146 v0 v1 k w := by kernel_rfl
theorem enter146 {v0 v1 : Value} {k : Value → World → Prop} {w : World} (h : S146 v0 v1 k w) : CallK Try.prog 146 [v0, v1] k w :=
  call_of_wpF (pl := pl146) mixed Try.func146 body146 (by kernel_rfl) (of_decide_eq_true (by kernel_rfl)) (by kernel_rfl) (by kernel_rfl) (Eq.mpr (same146 v0 v1 k w) h)

/-! (*loop.example/g00758/spec.l1Cur).one -/
def pl176 : Plans := fun _ => ⟨false, [], .nil⟩
def S176 (v0 v1 : Value) (k : Value → World → Prop) (w : World) : Prop :=
 CallK Try.prog 146 [v0, v1] (fun t1 w2 =>
 Rd Try.prog (WS.at w2) (sBin .eql 3 true t1 (.int .i64 0)) fun t3 =>
 k t3 w2) w
theorem body176 : Try.f176.body = some (bodyOf Try.f176) := by kernel_rfl
theorem same176 (v0 v1 : Value) (k : Value → World → Prop) (w : World) : wpF Try.prog pl176 (bodyOf Try.f176) (bodyQ Try.prog Try.f176.results.toList k) (initF [v0, v1]) w = S176 v0 v1 k w := by kernel_rfl
theorem enter176 {v0 v1 : Value} {k : Value → World → Prop} {w : World} (h : S176 v0 v1 k w) : CallK Try.prog 176 [v0, v1] k w :=
  call_of_wpF (pl := pl176) mixed Try.func176 body176 (by kernel_rfl) (of_decide_eq_true (by kernel_rfl)) (by kernel_rfl) (by kernel_rfl) (Eq.mpr (same176 v0 v1 k w) h)

/-! (*loop.example/g00758/spec.l1Cur).among -/
def pl156 : Plans := fun _ => ⟨false, [], .nil⟩
def S156 (v0 v1 : Value) (k : Value → World → Prop) (w : World) : Prop :=
 Rd Try.prog (WS.at w) (sBuiltin .len #[27] 3 [false] [v1]) fun t1 =>
 CallK Try.prog 146 [v0, t1] (fun t2 w3 =>
 Rd Try.prog (WS.at w3) (sIndexAddr 27 v1 t2) fun t4 =>
 Rd Try.prog (WS.at w3) (sLoad 3 t4) fun t5 =>
 k t5 w3) w
theorem body156 : Try.f156.body = some (bodyOf Try.f156) := by kernel_rfl
theorem same156 (v0 v1 : Value) (k : Value → World → Prop) (w : World) : wpF Try.prog pl156 (bodyOf Try.f156) (bodyQ Try.prog Try.f156.results.toList k) (initF [v0, v1]) w = S156 v0 v1 k w := by kernel_rfl
theorem enter156 {v0 v1 : Value} {k : Value → World → Prop} {w : World} (h : S156 v0 v1 k w) : CallK Try.prog 156 [v0, v1] k w :=
  call_of_wpF (pl := pl156) mixed Try.func156 body156 (by kernel_rfl) (of_decide_eq_true (by kernel_rfl)) (by kernel_rfl) (by kernel_rfl) (Eq.mpr (same156 v0 v1 k w) h)

/-! (*loop.example/g00758/spec.l1Cur).known -/
def pl303 : Plans := fun _ => ⟨false, [], .nil⟩
def S303 (v0 : Value) (k : Value → World → Prop) (w : World) : Prop :=
 Do Try.prog (sAlloc 26) (fun t1 w2 =>
 CallK Try.prog 146 [v0, (.int .i64 8)] (fun t3 w4 =>
 Rd Try.prog (WS.at w4) (sBin .eql 3 true t3 (.int .i64 0)) fun t5 =>
 CondK t5
  (Do Try.prog (sBuildSlice 27 3 [(0, (.int .i64 (-1))), (1, (.int .i64 0)), (2, (.int .i64 (-2)))]) (fun t6 w7 =>
  Rd Try.prog (WS.at w7) (sBuild 33 [(1, t6)]) fun t8 =>
  Rd Try.prog (WS.at w7) (sBuild 33 []) fun t9 =>
  Do Try.prog (sBuildSlice 24 2 [(0, t8), (1, t9)]) (fun t10 w11 =>
  Rd Try.prog (WS.at w11) (sBuild 26 [(0, (.int .i64 1)), (1, (.int .i64 2)), (2, t10)]) fun t12 =>
  Do Try.prog (sStore 26 t1 t12) (fun _ w13 =>
  Rd Try.prog (WS.at w13) (sLoadVar 26 t1) fun t14 => k t14 w13) w11) w7) w4)
  (Rd Try.prog (WS.at w4) (sBin .eql 3 true t3 (.int .i64 1)) fun t15 =>
  CondK t15
   (Do Try.prog (sBuildSlice 27 2 [(0, (.int .i64 0)), (1, (.int .i64 0))]) (fun t16 w17 =>
   Rd Try.prog (WS.at w17) (sBuild 33 [(1, t16)]) fun t18 =>
   Do Try.prog (sBuildSlice 27 3 [(0, (.int .i64 (-1))), (1, (.int .i64 0)), (2, (.int .i64 (-2)))]) (fun t19 w20 =>
   Rd Try.prog (WS.at w20) (sBuild 33 [(1, t19)]) fun t21 =>
   Do Try.prog (sBuildSlice 27 2 [(0, (.int .i64 (-1))), (1, (.int .i64 (-2)))]) (fun t22 w23 =>
   Rd Try.prog (WS.at w23) (sBuild 33 [(1, t22)]) fun t24 =>
   Do Try.prog (sBuildSlice 24 3 [(0, t18), (1, t21), (2, t24)]) (fun t25 w26 =>
   Rd Try.prog (WS.at w26) (sBuild 26 [(0, (.int .i64 1)), (1, (.int .i64 2)), (2, t25)]) fun t27 =>
   Do Try.prog (sStore 26 t1 t27) (fun _ w28 =>
   Rd Try.prog (WS.at w28) (sLoadVar 26 t1) fun t29 => k t29 w28) w26) w23) w20) w17) w4)
   (Rd Try.prog (WS.at w4) (sBin .eql 3 true t3 (.int .i64 2)) fun t30 =>
   CondK t30
    (Do Try.prog (sBuildSlice 27 3 [(0, (.int .i64 0)), (1, (.int .i64 (-3))), (2, (.int .i64 1))]) (fun t31 w32 =>
    Rd Try.prog (WS.at w32) (sBuild 33 [(1, t31)]) fun t33 =>
    Do Try.prog (sBuildSlice 27 1 [(0, (.int .i64 1))]) (fun t34 w35 =>
    Rd Try.prog (WS.at w35) (sBuild 33 [(1, t34)]) fun t36 =>
    Do Try.prog (sBuildSlice 27 1 [(0, (.int .i64 (-1)))]) (fun t37 w38 =>
    Rd Try.prog (WS.at w38) (sBuild 33 [(0, (.int .i64 1)), (1, t37)]) fun t39 =>
    Do Try.prog (sBuildSlice 27 3 [(0, (.int .i64 (-2))), (1, (.int .i64 0)), (2, (.int .i64 (-2)))]) (fun t40 w41 =>
    Rd Try.prog (WS.at w41) (sBuild 33 [(0, (.int .i64 1)), (1, t40)]) fun t42 =>
    Do Try.prog (sBuildSlice 24 4 [(0, t33), (1, t36), (2, t39), (3, t42)]) (fun t43 w44 =>
    Rd Try.prog (WS.at w44) (sBuild 26 [(0, (.int .i64 2)), (1, (.int .i64 3)), (2, t43)]) fun t45 =>
    Do Try.prog (sStore 26 t1 t45) (fun _ w46 =>
    Rd Try.prog (WS.at w46) (sLoadVar 26 t1) fun t47 => k t47 w46) w44) w41) w38) w35) w32) w4)
    (Rd Try.prog (WS.at w4) (sBin .eql 3 true t3 (.int .i64 3)) fun t48 =>
    CondK t48
     (Do Try.prog (sBuildSlice 27 2 [(0, (.int .i64 (-1))), (1, (.int .i64 1))]) (fun t49 w50 =>
     Rd Try.prog (WS.at w50) (sBuild 33 [(1, t49)]) fun t51 =>
     Do Try.prog (sBuildSlice 27 2 [(0, (.int .i64 (-2))), (1, (.int .i64 1))]) (fun t52 w53 =>
     Rd Try.prog (WS.at w53) (sBuild 33 [(0, (.int .i64 1)), (1, t52)]) fun t54 =>
     Do Try.prog (sBuildSlice 27 1 [(0, (.int .i64 (-2)))]) (fun t55 w56 =>
     Rd Try.prog (WS.at w56) (sBuild 33 [(0, (.int .i64 1)), (1, t55)]) fun t57 =>
     Rd Try.prog (WS.at w56) (sBuild 33 [(0, (.int .i64 1))]) fun t58 =>
     Do Try.prog (sBuildSlice 24 4 [(0, t51), (1, t54), (2, t57), (3, t58)]) (fun t59 w60 =>
     Rd Try.prog (WS.at w60) (sBuild 26 [(0, (.int .i64 2)), (1, (.int .i64 2)), (2, t59)]) fun t61 =>
     Do Try.prog (sStore 26 t1 t61) (fun _ w62 =>
     Rd Try.prog (WS.at w62) (sLoadVar 26 t1) fun t63 => k t63 w62) w60) w56) w53) w50) w4)
     (Rd Try.prog (WS.at w4) (sBin .eql 3 true t3 (.int .i64 4)) fun t64 =>
     CondK t64
      (Do Try.prog (sBuildSlice 27 1 [(0, (.int .i64 0))]) (fun t65 w66 =>
      Rd Try.prog (WS.at w66) (sBuild 33 [(1, t65)]) fun t67 =>
      Do Try.prog (sBuildSlice 27 1 [(0, (.int .i64 1))]) (fun t68 w69 =>
      Rd Try.prog (WS.at w69) (sBuild 33 [(1, t68)]) fun t70 =>
      Do Try.prog (sBuildSlice 27 2 [(0, (.int .i64 0)), (1, (.int .i64 1))]) (fun t71 w72 =>
      Rd Try.prog (WS.at w72) (sBuild 33 [(0, (.int .i64 1)), (1, t71)]) fun t73 =>
      Do Try.prog (sBuildSlice 27 1 [(0, (.int .i64 (-1)))]) (fun t74 w75 =>
      Rd Try.prog (WS.at w75) (sBuild 33 [(0, (.int .i64 1)), (1, t74)]) fun t76 =>
      Rd Try.prog (WS.at w75) (sBuild 33 [(0, (.int .i64 1))]) fun t77 =>
      Do Try.prog (sBuildSlice 24 5 [(0, t67), (1, t70), (2, t73), (3, t76), (4, t77)]) (fun t78 w79 =>
      Rd Try.prog (WS.at w79) (sBuild 26 [(0, (.int .i64 2)), (1, (.int .i64 1)), (2, t78)]) fun t80 =>
      Do Try.prog (sStore 26 t1 t80) (fun _ w81 =>
      Rd Try.prog (WS.at w81) (sLoadVar 26 t1) fun t82 => k t82 w81) w79) w75) w72) w69) w66) w4)
      (Rd Try.prog (WS.at w4) (sBin .eql 3 true t3 (.int .i64 5)) fun t83 =>
      CondK t83
       (Do Try.prog (sBuildSlice 27 3 [(0, (.int .i64 (-1))), (1, (.int .i64 0)), (2, (.int .i64 (-1)))]) (fun t84 w85 =>
       Rd Try.prog (WS.at w85) (sBuild 33 [(1, t84)]) fun t86 =>
       Do Try.prog (sBuildSlice 27 3 [(0, (.int .i64 (-2))), (1, (.int .i64 0)), (2, (.int .i64 (-2)))]) (fun t87 w88 =>
       Rd Try.prog (WS.at w88) (sBuild 33 [(1, t87)]) fun t89 =>
       Do Try.prog (sBuildSlice 27 1 [(0, (.int .i64 (-1)))]) (fun t90 w91 =>
       Rd Try.prog (WS.at w91) (sBuild 33 [(1, t90)]) fun t92 =>
       Do Try.prog (sBuildSlice 27 1 [(0, (.int .i64 (-2)))]) (fun t93 w94 =>
       Rd Try.prog (WS.at w94) (sBuild 33 [(1, t93)]) fun t95 =>
       Rd Try.prog (WS.at w94) (sBuild 33 []) fun t96 =>
       Do Try.prog (sBuildSlice 24 5 [(0, t86), (1, t89), (2, t92), (3, t95), (4, t96)]) (fun t97 w98 =>
       Rd Try.prog (WS.at w98) (sBuild 26 [(0, (.int .i64 1)), (1, (.int .i64 2)), (2, t97)]) fun t99 =>
       Do Try.prog (sStore 26 t1 t99) (fun _ w100 =>
       Rd Try.prog (WS.at w100) (sLoadVar 26 t1) fun t101 => k t101 w100) w98) w94) w91) w88) w85) w4)
       (Rd Try.prog (WS.at w4) (sBin .eql 3 true t3 (.int .i64 6)) fun t102 =>
       CondK t102
        (Do Try.prog (sBuildSlice 27 2 [(0, (.int .i64 1)), (1, (.int .i64 2))]) (fun t103 w104 =>
        Rd Try.prog (WS.at w104) (sBuild 33 [(1, t103)]) fun t105 =>
        Do Try.prog (sBuildSlice 27 2 [(0, (.int .i64 (-1))), (1, (.int .i64 1))]) (fun t106 w107 =>
        Rd Try.prog (WS.at w107) (sBuild 33 [(0, (.int .i64 1)), (1, t106)]) fun t108 =>
        Rd Try.prog (WS.at w107) (sBuild 33 [(0, (.int .i64 1))]) fun t109 =>
        Do Try.prog (sBuildSlice 27 2 [(0, (.int .i64 (-2))), (1, (.int .i64 2))]) (fun t110 w111 =>
        Rd Try.prog (WS.at w111) (sBuild 33 [(0, (.int .i64 2)), (1, t110)]) fun t112 =>
        Rd Try.prog (WS.at w111) (sBuild 33 [(0, (.int .i64 2))]) fun t113 =>
        Do Try.prog (sBuildSlice 24 5 [(0, t105), (1, t108), (2, t109), (3, t112), (4, t113)]) (fun t114 w115 =>
        Rd Try.prog (WS.at w115) (sBuild 26 [(0, (.int .i64 3)), (1, (.int .i64 2)), (2, t114)]) fun t116 =>
        Do Try.prog (sStore 26 t1 t116) (fun _ w117 =>
        Rd Try.prog (WS.at w117) (sLoadVar 26 t1) fun t118 => k t118 w117) w115) w111) w107) w104) w4)
        (Do Try.prog (sBuildSlice 27 2 [(0, (.int .i64 0)), (1, (.int .i64 0))]) (fun t119 w120 =>
        Rd Try.prog (WS.at w120) (sBuild 33 [(1, t119)]) fun t121 =>
        Do Try.prog (sBuildSlice 27 1 [(0, (.int .i64 (-1)))]) (fun t122 w123 =>
        Rd Try.prog (WS.at w123) (sBuild 33 [(1, t122)]) fun t124 =>
        Do Try.prog (sBuildSlice 27 2 [(0, (.int .i64 (-2))), (1, (.int .i64 1))]) (fun t125 w126 =>
        Rd Try.prog (WS.at w126) (sBuild 33 [(0, (.int .i64 1)), (1, t125)]) fun t127 =>
        Do Try.prog (sBuildSlice 24 3 [(0, t121), (1, t124), (2, t127)]) (fun t128 w129 =>
        Rd Try.prog (WS.at w129) (sBuild 26 [(0, (.int .i64 2)), (1, (.int .i64 2)), (2, t128)]) fun t130 =>
        Do Try.prog (sStore 26 t1 t130) (fun _ w131 =>
        Rd Try.prog (WS.at w131) (sLoadVar 26 t1) fun t132 => k t132 w131) w129) w126) w123) w120) w4)))))))) w2) w
theorem body303 : Try.f303.body = some (bodyOf Try.f303) := by kernel_rfl
theorem same303 (v0 : Value) (k : Value → World → Prop) (w : World) : wpF Try.prog pl303 (bodyOf Try.f303) (bodyQ Try.prog Try.f303.results.toList k) (initF [v0]) w = S303 v0 k w := by kernel_rfl
theorem enter303 {v0 : Value} {k : Value → World → Prop} {w : World} (h : S303 v0 k w) : CallK Try.prog 303 [v0] k w :=
  call_of_wpF (pl := pl303) mixed Try.func303 body303 (by kernel_rfl) (of_decide_eq_true (by kernel_rfl)) (by kernel_rfl) (by kernel_rfl) (Eq.mpr (same303 v0 k w) h)

/-! loop.example/g00758/spec.l1Put2 -/
def pl304 : Plans := fun _ => ⟨false, [], .nil⟩
def S304 (v0 v1 : Value) (k : Value → World → Prop) (w : World) : Prop :=
 Do Try.prog (sBox 33 v1) (fun t1 w2 =>
 Rd Try.prog (WS.at w2) (sBuiltin .len #[24] 3 [false] [v0]) fun t3 =>
 LoopF [10, 11, 12, 6, 13, 14, 15, 16, 4, 17, 9] (fun Q4 f5 w6 =>
  Rd Try.prog (WS.at w6) (sBin .lss 3 false (f5 9) (f5 8)) fun t7 =>
  CondK t7
   (Rd Try.prog (WS.at w6) (sIndexAddr 24 (f5 7) (f5 9)) fun t8 =>
   Rd Try.prog (WS.at w6) (sLoad 33 t8) fun t9 =>
   Do Try.prog (sAlloc 33) (fun t10 w11 =>
   Do Try.prog (sStore 33 t10 t9) (fun _ w12 =>
   Rd Try.prog (WS.at w12) (sLoad 33 (f5 3)) fun t13 =>
   Rd Try.prog (WS.at w12) (sLoad 33 t10) fun t14 =>
   CallK Try.prog 239 [t13, t14] (fun t15 w16 =>
   CondK t15
    (Q4 .ret (F.upd (F.upd (F.upd (F.upd (F.upd (F.upd (F.upd (F.upd (F.upd f5 10 t7) 11 t8) 12 t9) 6 t10) 13 t13) 14 t14) 15 t15) 16 (f5 0)) 4 (f5 0)) w16)
    (Rd Try.prog (WS.at w16) (sBin .add 3 true (f5 9) (.int .i64 1)) fun t17 =>
    Q4 .normal (F.upd (F.upd (F.upd (F.upd (F.upd (F.upd (F.upd (F.upd (F.upd f5 10 t7) 11 t8) 12 t9) 6 t10) 13 t13) 14 t14) 15 t15) 17 t17) 9 t17) w16)) w12) w11) w6)
   (Q4 (.exit 0) (F.upd f5 10 t7) w6))
  (blockQ 0 (seqQ (fun f18 w19 =>
 Rd Try.prog (WS.at w19) (sLoad 33 (f18 3)) fun t20 =>
 Do Try.prog (sBuildSlice 24 1 [(0, t20)]) (fun t21 w22 =>
 Do Try.prog (sBuiltin .append #[24, 24] 24 [false, false] [(f18 0), t21]) (fun t23 w24 =>
 k t23 w24) w22) w19) (bodyQ Try.prog [.tmp 4] k)))
  (F.upd (F.upd (F.upd (F.upd (F.upd (initF [v0, v1]) 3 t1) 4 (.slice none 0 0)) 7 v0) 8 t3) 9 (.int .i64 0)) w2) w
theorem body304 : Try.f304.body = some (bodyOf Try.f304) := by kernel_rfl
theorem same304 (v0 v1 : Value) (k : Value → World → Prop) (w : World) : wpF Try.prog pl304 (bodyOf Try.f304) (bodyQ Try.prog Try.f304.results.toList k) (initF [v0, v1]) w = S304 v0 v1 k w := by kernel_rfl
theorem enter304 {v0 v1 : Value} {k : Value → World → Prop} {w : World} (h : S304 v0 v1 k w) : CallK Try.prog 304 [v0, v1] k w :=
  call_of_wpF (pl := pl304) mixed Try.func304 body304 (by kernel_rfl) (of_decide_eq_true (by kernel_rfl)) (by kernel_rfl) (by kernel_rfl) (Eq.mpr (same304 v0 v1 k w) h)

/-! (*loop.example/g00758/spec.l1Cur).grammar -/
def pl246 : Plans := fun _ => ⟨false, [], .nil⟩
def S246 (v0 : Value) (k : Value → World → Prop) (w : World) : Prop :=
 Do Try.prog (sAlloc 26) (fun t1 w2 =>
 CallK Try.prog 176 [v0, (.int .i64 2)] (fun t3 w4 =>
 CondK t3
  (CallK Try.prog 303 [v0] (fun t5 w6 =>
  Do Try.prog (sStore 26 t1 t5) (fun _ w7 =>
  Rd Try.prog (WS.at w7) (sLoadVar 26 t1) fun t8 => k t8 w7) w6) w4)
  (CallK Try.prog 146 [v0, (.int .i64 3)] (fun t9 w10 =>
  Rd Try.prog (WS.at w10) (sBin .add 3 true (.int .i64 1) t9) fun t11 =>
  CallK Try.prog 146 [v0, (.int .i64 2)] (fun t12 w13 =>
  Rd Try.prog (WS.at w13) (sBin .add 3 true (.int .i64 1) t12) fun t14 =>
  Rd Try.prog (WS.at w13) (sBuild 26 [(0, t11), (1, t14)]) fun t15 =>
  Do Try.prog (sAlloc 26) (fun t16 w17 =>
  Do Try.prog (sStore 26 t16 t15) (fun _ w18 =>
  CallK Try.prog 146 [v0, (.int .i64 6)] (fun t19 w20 =>
  Rd Try.prog (WS.at w20) (sBin .add 3 true (.int .i64 1) t19) fun t21 =>
  LoopF [22, 23, 26, 27, 28, 29, 30, 5, 31, 32, 6, 33, 34, 37, 38, 39, 40, 7, 41, 42, 43, 44, 45, 46, 47, 7, 48, 49, 50, 51, 52, 53, 35, 36, 6, 54, 55, 56, 57, 58, 24, 25, 4] (fun Q22 f23 w24 =>
   Rd Try.prog (WS.at w24) (sBin .gtr 3 true (f23 4) (.int .i64 0)) fun t25 =>
   CondK t25
    (Rd Try.prog (WS.at w24) (sFieldAddr 26 (f23 3) 0) fun t26 =>
    Rd Try.prog (WS.at w24) (sLoad 3 t26) fun t27 =>
    CallK Try.prog 146 [(f23 0), t27] (fun t28 w29 =>
    Rd Try.prog (WS.at w29) (sBuild 33 [(0, t28)]) fun t30 =>
    Do Try.prog (sAlloc 33) (fun t31 w32 =>
    Do Try.prog (sStore 33 t31 t30) (fun _ w33 =>
    CallK Try.prog 146 [(f23 0), (.int .i64 4)] (fun t34 w35 =>
    LoopF [33, 34, 37, 38, 39, 40, 7, 41, 42, 43, 44, 45, 46, 47, 7, 48, 49, 50, 51, 52, 53, 35, 36, 6] (fun Q36 f37 w38 =>
     Rd Try.prog (WS.at w38) (sBin .gtr 3 true (f37 6) (.int .i64 0)) fun t39 =>
     CondK t39
      (Join (fun K40 =>
      Rd Try.prog (WS.at w38) (sFieldAddr 26 (f37 3) 0) fun t43 =>
      Rd Try.prog (WS.at w38) (sLoad 3 t43) fun t44 =>
      CallK Try.prog 146 [(f37 0), t44] (fun t45 w46 =>
      Join (fun K47 =>
      CallK Try.prog 176 [(f37 0), (.int .i64 2)] (fun t50 w51 =>
      CondK t50
       (Rd Try.prog (WS.at w51) (sFieldAddr 26 (f37 3) 1) fun t52 =>
       Rd Try.prog (WS.at w51) (sLoad 3 t52) fun t53 =>
       CallK Try.prog 146 [(f37 0), t53] (fun t54 w55 =>
       Rd Try.prog (WS.at w55) (sBin .sub 3 true (.int .i64 (-1)) t54) fun t56 =>
       K47 (F.upd (F.upd (F.upd (F.upd (F.upd (F.upd (F.upd (F.upd (F.upd (F.upd (F.upd (F.upd (F.upd (F.upd (F.upd f37 33 (f37 6)) 34 t39) 37 (f37 0)) 38 t43) 39 t44) 40 t45) 7 t45) 41 (f37 0)) 42 t50) 43 (f37 0)) 44 t52) 45 t53) 46 t54) 47 t56) 7 t56) w55) w51)
       (K47 (F.upd (F.upd (F.upd (F.upd (F.upd (F.upd (F.upd (F.upd (F.upd f37 33 (f37 6)) 34 t39) 37 (f37 0)) 38 t43) 39 t44) 40 t45) 7 t45) 41 (f37 0)) 42 t50) w51)) w46) (fun f48 w49 =>
      Rd Try.prog (WS.at w49) (sFieldAddr 33 (f48 5) 1) fun t57 =>
      Rd Try.prog (WS.at w49) (sLoad 27 t57) fun t58 =>
      Do Try.prog (sBuildSlice 27 1 [(0, (f48 7))]) (fun t59 w60 =>
      Do Try.prog (sBuiltin .append #[27, 27] 27 [false, false] [t58, t59]) (fun t61 w62 =>
      Rd Try.prog (WS.at w62) (sFieldAddr 33 (f48 5) 1) fun t63 =>
      Do Try.prog (sStore 27 t63 t61) (fun _ w64 =>
      K40 (F.upd (F.upd (F.upd (F.upd (F.upd (F.upd f48 48 t57) 49 t58) 50 (f48 7)) 51 t59) 52 t61) 53 t63) w64) w62) w60) w49)) w38) (fun f41 w42 =>
      Rd Try.prog (WS.at w42) (sBin .sub 3 true (f41 6) (.int .i64 1)) fun t65 =>
      Q36 .normal (F.upd (F.upd (F.upd f41 35 (f41 6)) 36 t65) 6 t65) w42))
      (Q36 (.exit 2) (F.upd (F.upd f37 33 (f37 6)) 34 t39) w38))
     (blockQ 2 (seqQ (fun f66 w67 =>
    Rd Try.prog (WS.at w67) (sFieldAddr 26 (f66 3) 2) fun t68 =>
    Rd Try.prog (WS.at w67) (sLoad 24 t68) fun t69 =>
    Rd Try.prog (WS.at w67) (sLoad 33 (f66 5)) fun t70 =>
    CallK Try.prog 304 [t69, t70] (fun t71 w72 =>
    Rd Try.prog (WS.at w72) (sFieldAddr 26 (f66 3) 2) fun t73 =>
    Do Try.prog (sStore 24 t73 t71) (fun _ w74 =>
    Rd Try.prog (WS.at w74) (sBin .sub 3 true (f66 4) (.int .i64 1)) fun t75 =>
    Q22 .normal (F.upd (F.upd (F.upd (F.upd (F.upd (F.upd (F.upd (F.upd f66 54 t68) 55 t69) 56 t70) 57 t71) 58 t73) 24 (f66 4)) 25 t75) 4 t75) w74) w72) w67) (blockQ 1 (seqQ (fun f76 w77 =>
    Rd Try.prog (WS.at w77) (sBin .sub 3 true (f76 4) (.int .i64 1)) fun t78 =>
    Q22 .normal (F.upd (F.upd (F.upd f76 24 (f76 4)) 25 t78) 4 t78) w77) Q22))))
     (F.upd (F.upd (F.upd (F.upd (F.upd (F.upd (F.upd (F.upd (F.upd (F.upd (F.upd f23 22 (f23 4)) 23 t25) 26 (f23 0)) 27 t26) 28 t27) 29 t28) 30 t30) 5 t31) 31 (f23 0)) 32 t34) 6 t34) w35) w33) w32) w29) w24)
    (Q22 (.exit 0) (F.upd (F.upd f23 22 (f23 4)) 23 t25) w24))
   (blockQ 0 (seqQ (fun f79 w80 =>
  Rd Try.prog (WS.at w80) (sLoad 26 (f79 3)) fun t81 =>
  Do Try.prog (sStore 26 (f79 2) t81) (fun _ w82 =>
  Rd Try.prog (WS.at w82) (sLoadVar 26 (f79 2)) fun t83 => k t83 w82) w80) (bodyQ Try.prog [.cell 2 26] k)))
   (F.upd (F.upd (F.upd (F.upd (F.upd (F.upd (F.upd (F.upd (F.upd (F.upd (F.upd (F.upd (F.upd (F.upd (F.upd (initF [v0]) 2 t1) 8 v0) 9 t3) 12 v0) 13 t9) 14 t11) 15 v0) 16 t12) 17 t14) 18 t15) 3 t16) 19 v0) 20 t19) 21 t21) 4 t21) w20) w18) w17) w13) w10) w4)) w2) w
theorem body246 : Try.f246.body = some (bodyOf Try.f246) := by kernel_rfl
theorem same246 (v0 : Value) (k : Value → World → Prop) (w : World) : wpF Try.prog pl246 (bodyOf Try.f246) (bodyQ Try.prog Try.f246.results.toList k) (initF [v0]) w = S246 v0 k w := by kernel_rfl
theorem enter246 {v0 : Value} {k : Value → World → Prop} {w : World} (h : S246 v0 k w) : CallK Try.prog 246 [v0] k w :=
  call_of_wpF (pl := pl246) mixed Try.func246 body246 (by kernel_rfl) (of_decide_eq_true (by kernel_rfl)) (by kernel_rfl) (by kernel_rfl) (Eq.mpr (same246 v0 k w) h)

/-! (*loop.example/g00758/spec.l1Cur).anyGrammar -/
def pl145 : Plans := fun i => match i with
  | 8 => ⟨true, [7, 9], .step 0 .any (.step 1 .held (.step 2 .any (.step 3 .held (.step 4 .any (.step 5 .held (.step 6 .one (.step 7 .last (.step 8 .any (.step 9 .last (.nil))))))))))⟩
  | 10 => ⟨true, [7], .step 0 .any (.step 1 .held (.step 2 .any (.step 3 .one (.step 4 .any (.step 5 .any (.step 6 .any (.step 7 .last (.nil))))))))⟩
  | _ => ⟨false, [], .nil⟩
def S145 (v0 : Value) (k : Value → World → Prop) (w : World) : Prop :=
 Do Try.prog (sAlloc 26) (fun t1 w2 =>
 CallK Try.prog 246 [v0] (fun t3 w4 =>
 Do Try.prog (sAlloc 26) (fun t5 w6 =>
 Do Try.prog (sStore 26 t5 t3) (fun _ w7 =>
 Join (fun K8 =>
 CallK Try.prog 146 [v0, (.int .i64 40)] (fun t11 w12 =>
 Rd Try.prog (WS.at w12) (sBin .eql 3 true t11 (.int .i64 0)) fun t13 =>
 CondK t13
  (Do Try.prog (sBuildSlice 27 3 [(0, (.int .i64 0)), (1, (.int .i64 6)), (2, (.int .i64 7))]) (fun t14 w15 =>
  CallK Try.prog 156 [v0, t14] (fun t16 w17 =>
  Rd Try.prog (WS.at w17) (sFieldAddr 26 t5 0) fun t18 =>
  Do Try.prog (sStore 3 t18 t16) (fun _ w19 =>
  K8 (F.upd (F.upd (F.upd (F.upd (F.upd (F.upd (F.upd (F.upd (F.upd (F.upd (F.upd (F.upd (initF [v0]) 2 t1) 4 v0) 5 t3) 3 t5) 6 v0) 7 t11) 9 t13) 8 t13) 10 v0) 11 t14) 12 t16) 13 t18) w19) w17) w15) w12)
  (Rd Try.prog (WS.at w12) (sBin .eql 3 true t11 (.int .i64 1)) fun t20 =>
  CondK t20
   (Do Try.prog (sBuildSlice 27 3 [(0, (.int .i64 0)), (1, (.int .i64 4)), (2, (.int .i64 5))]) (fun t21 w22 =>
   CallK Try.prog 156 [v0, t21] (fun t23 w24 =>
   Rd Try.prog (WS.at w24) (sFieldAddr 26 t5 1) fun t25 =>
   Do Try.prog (sStore 3 t25 t23) (fun _ w26 =>
   K8 (F.upd (F.upd (F.upd (F.upd (F.upd (F.upd (F.upd (F.upd (F.upd (F.upd (F.upd (F.upd (F.upd (F.upd (initF [v0]) 2 t1) 4 v0) 5 t3) 3 t5) 6 v0) 7 t11) 9 t13) 8 t13) 15 t20) 14 t20) 16 v0) 17 t21) 18 t23) 19 t25) w26) w24) w22) w12)
   (Rd Try.prog (WS.at w12) (sBin .eql 3 true t11 (.int .i64 2)) fun t27 =>
   CondK t27
    (∃ S28 : World → Prop, ∃ h29 : S28 w12.drew,
    Rd Try.prog WS.any (sFieldAddr 26 t5 2) fun t30 =>
    Rd Try.prog ⟨S28, w12.drew, h29⟩ (sLoad 24 t30) fun t31 =>
    Rd Try.prog WS.any (sFieldAddr 26 t5 2) fun t32 =>
    Rd Try.prog ⟨S28, w12.drew, h29⟩ (sLoad 24 t32) fun t33 =>
    Rd Try.prog WS.any (sIndexAddr 24 t33 (.int .i64 0)) fun t34 =>
    Rd Try.prog ⟨S28, w12.drew, h29⟩ (sLoad 33 t34) fun t35 =>
    Do Try.prog (sBuildSlice 24 1 [(0, t35)]) (fun t36 w37 =>
    S28 w37 ∧ Do Try.prog (sBuiltin .append #[24, 24] 24 [false, false] [t31, t36]) (fun t38 w39 =>
    Rd Try.prog WS.any (sFieldAddr 26 t5 2) fun t40 =>
    Do Try.prog (sStore 24 t40 t38) (fun _ w41 =>
    K8 (F.upd (F.upd (F.upd (F.upd (F.upd (F.upd (F.upd (F.upd (F.upd (F.upd (F.upd (F.upd (F.upd (F.upd (F.upd (F.upd (F.upd (F.upd (F.upd (F.upd (F.upd (initF [v0]) 2 t1) 4 v0) 5 t3) 3 t5) 6 v0) 7 t11) 9 t13) 8 t13) 15 t20) 14 t20) 21 t27) 20 t27) 22 t30) 23 t31) 24 t32) 25 t33) 26 t34) 27 t35) 28 t36) 29 t38) 30 t40) w41) w39) w37) w12.drew)
    (Rd Try.prog (WS.at w12) (sBin .eql 3 true t11 (.int .i64 3)) fun t42 =>
    CondK t42
     (∃ S43 : World → Prop, ∃ h44 : S43 w12.drew,
     Rd Try.prog WS.any (sFieldAddr 26 t5 2) fun t45 =>
     Rd Try.prog ⟨S43, w12.drew, h44⟩ (sLoad 24 t45) fun t46 =>
     CallK Try.prog 146 [v0, (.int .i64 8)] (fun t47 w48 =>
     S43 w48 ∧ Rd Try.prog WS.any (sBin .sub 3 true t47 (.int .i64 1)) fun t49 =>
     Rd Try.prog WS.any (sIndexAddr 24 t46 (.int .i64 0)) fun t50 =>
     Rd Try.prog WS.any (sFieldAddr 33 t50 0) fun t51 =>
     Do Try.prog (sStore 3 t51 t49) (fun _ w52 =>
     K8 (F.upd (F.upd (F.upd (F.upd (F.upd (F.upd (F.upd (F.upd (F.upd (F.upd (F.upd (F.upd (F.upd (F.upd (F.upd (F.upd (F.upd (F.upd (F.upd (F.upd (F.upd (initF [v0]) 2 t1) 4 v0) 5 t3) 3 t5) 6 v0) 7 t11) 9 t13) 8 t13) 15 t20) 14 t20) 21 t27) 20 t27) 32 t42) 31 t42) 33 t45) 34 t46) 35 v0) 36 t47) 37 t49) 38 t50) 39 t51) w52) w48) w12.drew)
     (K8 (F.upd (F.upd (F.upd (F.upd (F.upd (F.upd (F.upd (F.upd (F.upd (F.upd (F.upd (F.upd (F.upd (F.upd (initF [v0]) 2 t1) 4 v0) 5 t3) 3 t5) 6 v0) 7 t11) 9 t13) 8 t13) 15 t20) 14 t20) 21 t27) 20 t27) 32 t42) 31 t42) w12))))) w7) (fun f9 w10 =>
 Rd Try.prog (WS.at w10) (sLoad 26 (f9 3)) fun t53 =>
 Do Try.prog (sStore 26 (f9 2) t53) (fun _ w54 =>
 Rd Try.prog (WS.at w54) (sLoadVar 26 (f9 2)) fun t55 => k t55 w54) w10)) w6) w4) w2) w
theorem body145 : Try.f145.body = some (bodyOf Try.f145) := by kernel_rfl
theorem same145 (v0 : Value) (k : Value → World → Prop) (w : World) : wpF Try.prog pl145 (bodyOf Try.f145) (bodyQ Try.prog Try.f145.results.toList k) (initF [v0]) w = S145 v0 k w := by kernel_rfl
theorem enter145 {v0 : Value} {k : Value → World → Prop} {w : World} (h : S145 v0 k w) : CallK Try.prog 145 [v0] k w :=
  call_of_wpF (pl := pl145) mixed Try.func145 body145 (by kernel_rfl) (of_decide_eq_true (by kernel_rfl)) (by kernel_rfl) (by kernel_rfl) (Eq.mpr (same145 v0 k w) h)

/-! (*loop.example/g00758/spec.l1Cur).word -/
def pl218 : Plans := fun _ => ⟨false, [], .nil⟩
def S218 (v0 v1 v2 : Value) (k : Value → World → Prop) (w : World) : Prop :=
 Do Try.prog (sBox 26 v1) (fun t1 w2 =>
 Rd Try.prog (WS.at w2) (sBin .add 3 true v2 (.int .i64 1)) fun t3 =>
 CallK Try.prog 146 [v0, t3] (fun t4 w5 =>
 LoopF [13, 14, 17, 18, 19, 20, 21, 22, 23, 24, 7, 15, 16, 8] (fun Q6 f7 w8 =>
  Rd Try.prog (WS.at w8) (sBin .gtr 3 true (f7 8) (.int .i64 0)) fun t9 =>
  CondK t9
   (Rd Try.prog (WS.at w8) (sFieldAddr 26 (f7 4) 1) fun t10 =>
   Rd Try.prog (WS.at w8) (sLoad 3 t10) fun t11 =>
   CallK Try.prog 159 [(.int .i64 1), t11] (fun t12 w13 =>
   CallK Try.prog 146 [(f7 0), t12] (fun t14 w15 =>
   Do Try.prog (sBuildSlice 27 1 [(0, t14)]) (fun t16 w17 =>
   Do Try.prog (sBuiltin .append #[27, 27] 27 [false, false] [(f7 7), t16]) (fun t18 w19 =>
   Rd Try.prog (WS.at w19) (sBin .sub 3 true (f7 8) (.int .i64 1)) fun t20 =>
   Q6 .normal (F.upd (F.upd (F.upd (F.upd (F.upd (F.upd (F.upd (F.upd (F.upd (F.upd (F.upd (F.upd (F.upd (F.upd f7 13 (f7 8)) 14 t9) 17 (f7 7)) 18 (f7 0)) 19 t10) 20 t11) 21 t12) 22 t14) 23 t16) 24 t18) 7 t18) 15 (f7 8)) 16 t20) 8 t20) w19) w17) w15) w13) w8)
   (Q6 (.exit 0) (F.upd (F.upd f7 13 (f7 8)) 14 t9) w8))
  (blockQ 0 (seqQ (fun f21 w22 =>
 Join (fun K23 =>
 Rd Try.prog (WS.at w22) (sBuiltin .len #[27] 3 [false] [(f21 7)]) fun t26 =>
 Rd Try.prog (WS.at w22) (sBin .gtr 3 true t26 (.int .i64 0)) fun t27 =>
 GuardK t27 true (fun k w' => k (f21 0) w') (fun t28 w29 =>
 GuardK t27 true (fun k w' => CallK Try.prog 176 [t28, (.int .i64 60)] k w') (fun t30 w31 =>
 Rd Try.prog (WS.at w31) (sPick t27 t30 (.bool false)) fun t32 =>
 CondK t32
  (Do Try.prog (sBuildSlice 27 2 [(0, (.int .i64 (-1))), (1, (.int .i64 4))]) (fun t33 w34 =>
  CallK Try.prog 156 [(f21 0), t33] (fun t35 w36 =>
  Rd Try.prog (WS.at w36) (sIndexAddr 27 (f21 7) (.int .i64 0)) fun t37 =>
  Do Try.prog (sStore 3 t37 t35) (fun _ w38 =>
  K23 (F.upd (F.upd (F.upd (F.upd (F.upd (F.upd (F.upd (F.upd (F.upd (F.upd (F.upd (F.upd f21 25 (f21 7)) 26 t26) 27 t27) 28 t27) 29 t28) 30 t30) 31 t32) 32 (f21 7)) 33 (f21 0)) 34 t33) 35 t35) 36 t37) w38) w36) w34) w31)
  (K23 (F.upd (F.upd (F.upd (F.upd (F.upd (F.upd (F.upd f21 25 (f21 7)) 26 t26) 27 t27) 28 t27) 29 t28) 30 t30) 31 t32) w31)) w29) w22) (fun f24 w25 =>
 k (f24 7) w25)) (bodyQ Try.prog [.tmp 6] k)))
  (F.upd (F.upd (F.upd (F.upd (F.upd (F.upd (F.upd (F.upd (initF [v0, v1, v2]) 4 t1) 6 (.slice none 0 0)) 7 (.slice none 0 0)) 9 v0) 10 v2) 11 t3) 12 t4) 8 t4) w5) w2) w
theorem body218 : Try.f218.body = some (bodyOf Try.f218) := by kernel_rfl
theorem same218 (v0 v1 v2 : Value) (k : Value → World → Prop) (w : World) : wpF Try.prog pl218 (bodyOf Try.f218) (bodyQ Try.prog Try.f218.results.toList k) (initF [v0, v1, v2]) w = S218 v0 v1 v2 k w := by kernel_rfl
theorem enter218 {v0 v1 v2 : Value} {k : Value → World → Prop} {w : World} (h : S218 v0 v1 v2 k w) : CallK Try.prog 218 [v0, v1, v2] k w :=
  call_of_wpF (pl := pl218) mixed Try.func218 body218 (by kernel_rfl) (of_decide_eq_true (by kernel_rfl)) (by kernel_rfl) (by kernel_rfl) (Eq.mpr (same218 v0 v1 v2 k w) h)

/-! (*loop.example/g00758/spec.l1Cur).wordIn -/
def pl147 : Plans := fun _ => ⟨false, [], .nil⟩
def S147 (v0 v1 : Value) (k : Value → World → Prop) (w : World) : Prop :=
 Do Try.prog (sBox 26 v1) (fun t1 w2 =>
 Rd Try.prog (WS.at w2) (sLoad 26 t1) fun t3 =>
 CallK Try.prog 24 [t3, (.int .i64 3)] (fun t4 w5 =>
 Rd Try.prog (WS.at w5) (sExtract t4 0) fun t6 =>
 Rd Try.prog (WS.at w5) (sExtract t4 1) fun t7 =>
 GuardK t7 true (fun k w' => k t6 w') (fun t8 w9 =>
 GuardK t7 true (fun k w' => Rd Try.prog (WS.at w9) (sBuiltin .len #[35] 3 [false] [t8]) fun v => k v w') (fun t10 w11 =>
 GuardK t7 true (fun k w' => Rd Try.prog (WS.at w11) (sBin .gtr 3 true t10 (.int .i64 0)) fun v => k v w') (fun t12 w13 =>
 Rd Try.prog (WS.at w13) (sPick t7 t12 (.bool false)) fun t14 =>
 GuardK t14 true (fun k w' => k v0 w') (fun t15 w16 =>
 GuardK t14 true (fun k w' => CallK Try.prog 176 [t15, (.int .i64 2)] k w') (fun t17 w18 =>
 Rd Try.prog (WS.at w18) (sPick t14 t17 (.bool false)) fun t19 =>
 CondK t19
  (Rd Try.prog (WS.at w18) (sBuiltin .len #[35] 3 [false] [t6]) fun t20 =>
  CallK Try.prog 146 [v0, t20] (fun t21 w22 =>
  Rd Try.prog (WS.at w22) (sIndexAddr 35 t6 t21) fun t23 =>
  Rd Try.prog (WS.at w22) (sLoad 27 t23) fun t24 =>
  CallK Try.prog 158 [t24] (fun t25 w26 =>
  Join (fun K27 =>
  CallK Try.prog 176 [v0, (.int .i64 3)] (fun t30 w31 =>
  CondK t30
   (Do Try.prog (sBuiltin .append #[27, 27] 27 [false, false] [t25, t25]) (fun t32 w33 =>
   K27 (F.upd (F.upd (F.upd (F.upd (F.upd (F.upd (F.upd (F.upd (F.upd (F.upd (F.upd (F.upd (F.upd (F.upd (F.upd (F.upd (F.upd (F.upd (F.upd (F.upd (F.upd (F.upd (F.upd (F.upd (F.upd (F.upd (F.upd (F.upd (F.upd (F.upd (F.upd (F.upd (F.upd (F.upd (initF [v0, v1]) 3 t1) 4 (.slice none 0 0)) 9 t3) 10 t4) 8 t4) 11 t6) 12 t7) 5 t6) 6 t7) 13 t7) 14 t7) 15 t8) 16 t10) 17 t12) 18 t14) 19 t14) 20 t15) 21 t17) 22 t19) 23 t6) 24 v0) 25 t6) 26 t20) 27 t21) 28 t23) 29 t24) 30 t25) 7 t25) 31 v0) 32 t30) 33 t25) 34 t25) 35 t32) 7 t32) w33) w31)
   (K27 (F.upd (F.upd (F.upd (F.upd (F.upd (F.upd (F.upd (F.upd (F.upd (F.upd (F.upd (F.upd (F.upd (F.upd (F.upd (F.upd (F.upd (F.upd (F.upd (F.upd (F.upd (F.upd (F.upd (F.upd (F.upd (F.upd (F.upd (F.upd (F.upd (F.upd (initF [v0, v1]) 3 t1) 4 (.slice none 0 0)) 9 t3) 10 t4) 8 t4) 11 t6) 12 t7) 5 t6) 6 t7) 13 t7) 14 t7) 15 t8) 16 t10) 17 t12) 18 t14) 19 t14) 20 t15) 21 t17) 22 t19) 23 t6) 24 v0) 25 t6) 26 t20) 27 t21) 28 t23) 29 t24) 30 t25) 7 t25) 31 v0) 32 t30) w31)) w26) (fun f28 w29 =>
  k (f28 7) w29)) w22) w18)
  (Rd Try.prog (WS.at w18) (sLoad 26 t1) fun t34 =>
  CallK Try.prog 218 [v0, t34, (.int .i64 5)] (fun t35 w36 =>
  k t35 w36) w18)) w16) w13) w11) w9) w5) w2) w
theorem body147 : Try.f147.body = some (bodyOf Try.f147) := by kernel_rfl
theorem same147 (v0 v1 : Value) (k : Value → World → Prop) (w : World) : wpF Try.prog pl147 (bodyOf Try.f147) (bodyQ Try.prog Try.f147.results.toList k) (initF [v0, v1]) w = S147 v0 v1 k w := by kernel_rfl
theorem enter147 {v0 v1 : Value} {k : Value → World → Prop} {w : World} (h : S147 v0 v1 k w) : CallK Try.prog 147 [v0, v1] k w :=
  call_of_wpF (pl := pl147) mixed Try.func147 body147 (by kernel_rfl) (of_decide_eq_true (by kernel_rfl)) (by kernel_rfl) (by kernel_rfl) (Eq.mpr (same147 v0 v1 k w) h)

/-! (*loop.example/g00758/spec.l1Cur).two -/
end Go.Proofs.Ytegcjkhebecgbaa

/- Contracts: choices read from bytes (the reference's l1Cur: next, pick, one, among). -/
set_option linter.unusedVariables false
set_option linter.unusedSimpArgs false
set_option maxRecDepth 100000
namespace Go.Proofs.Ytegcjkhebecgbaa
open Go Go.Sh Go.RowKit
abbrev TC : Nat := 114
abbrev cur (bc : Nat) (cv : Value) (N : Nat) : Thing := curi TC bc cv N
section
variable {w0 w : World} {L : List Thing} {bc N : Nat} {C : Option Addr} {cap : Nat} {bs : List Int} {k : Value → World → Prop}
theorem set_set' {i : Nat} {a b : Thing} : (L.set i a).set i b = L.set i b := List.set_set ..
theorem get_set' {i : Nat} {a it : Thing} (hi : L[i]? = some it) : (L.set i a)[i]? = some a := by
  rw [List.getElem?_set, if_pos rfl, if_pos (get_lt hi)]
set_option maxHeartbeats 1600000 in
theorem next_c (H : Apt w0 w L) (i : Nat) (hi : L[i]? = some (cur bc (.slice C bs.length cap) N)) (hC : Byts w0 C bs) (hN : N ≤ 1000000000) (hk : ∀ w' (b : Int), 0 ≤ b → b ≤ 255 → Apt w0 w' (L.set i (cur bc (.slice C bs.length cap) (N + 1))) → k (.int .i64 b) w') :
    CallK Try.prog 247 [ptrv bc] k w := by
  refine enter247 ?_
  unfold S247
  obtain ⟨a, s, h0, h1, H⟩ := H.openCur i hi
  have hi1 := get_set' (a := bx bc [.slice C bs.length cap, .int .i64 a, .int .u64 s] TC) hi
  have hle := hC.le
  refine join_as (fun f w' => f 0 = ptrv bc ∧ (∃ b : Int, 0 ≤ b ∧ b ≤ 255 ∧ f 3 = .int .i64 b) ∧ Apt w0 w' (L.set i (bx bc [.slice C bs.length cap, .int .i64 a, .int .u64 s] TC))) (fun K hK => ?_) ?_
  · have H := H.drew
    simp only [zq18, zq19, zq20, zq21, zq22, zq23, zq24, zq25, zq26, zq27, zq28, zq4, zq3, zq1, zq2, zq0, zq29, zq30, zq14, zq15, zq16, zq17, zq13, zq10, zq12, zq11, zq7, zq5, zq6, zq9, zq8, zq31, zq32, ite_T, ite_F, zq33, zq34, zq35, Nat.reduceEqDiff, len22, len24, fa26_0, fa26_1, fa26_2, len27, fa33_0, fa33_1, len35, fa114_0, fa114_1, fa114_2, fa124_0, fa124_1, len134, len154, fa156_0, fa156_1, fa156_2, fa156_3, fa156_4, fa156_5, fa156_6, fa200_0, fa200_1, fa200_2, fa200_3]
    rw [ldB3 (H.box i hi1) rfl]
    rw [ldB22 (H.box i hi1) rfl]
    simp only [zq18, zq19, zq20, zq21, zq22, zq23, zq24, zq25, zq26, zq27, zq28, zq4, zq3, zq1, zq2, zq0, zq29, zq30, zq14, zq15, zq16, zq17, zq13, zq10, zq12, zq11, zq7, zq5, zq6, zq9, zq8, zq31, zq32, ite_T, ite_F, zq33, zq34, zq35, Nat.reduceEqDiff, len22, len24, fa26_0, fa26_1, fa26_2, len27, fa33_0, fa33_1, len35, fa114_0, fa114_1, fa114_2, fa124_0, fa124_1, len134, len154, fa156_0, fa156_1, fa156_2, fa156_3, fa156_4, fa156_5, fa156_6, fa200_0, fa200_1, fa200_2, fa200_3]
    by_cases hlt : a < bs.length
    · simp only [hlt, decide_true, zq18, zq19, zq20, zq21, zq22, zq23, zq24, zq25, zq26, zq27, zq28, zq4, zq3, zq1, zq2, zq0, zq29, zq30, zq14, zq15, zq16, zq17, zq13, zq10, zq12, zq11, zq7, zq5, zq6, zq9, zq8, zq31, zq32, ite_T, ite_F, zq33, zq34, zq35, Nat.reduceEqDiff, len22, len24, fa26_0, fa26_1, fa26_2, len27, fa33_0, fa33_1, len35, fa114_0, fa114_1, fa114_2, fa124_0, fa124_1, len134, len154, fa156_0, fa156_1, fa156_2, fa156_3, fa156_4, fa156_5, fa156_6, fa200_0, fa200_1, fa200_2, fa200_3]
      have H := H.drew
      rw [ldB22 (H.box i hi1) rfl]
      rw [ldB3 (H.box i hi1) rfl]
      obtain ⟨m, rfl⟩ : ∃ m : Nat, a = m := ⟨a.toNat, by omega⟩
      have hm : m < bs.length := by omega
      refine rdi (ixn22 hC.ptr hm) (rdi (ld5 ((hC.gr H.gr).cell m hm)) ?_)
      refine do_convert Try.underlying5 Try.underlying3 ?_
      have hs := hC.small m hm
      rw [i64_of (by omega) (by omega)]
      exact hK _ _ ⟨rfl, ⟨_, hs.1, hs.2, rfl⟩, H⟩
    · simp only [hlt, decide_false, zq18, zq19, zq20, zq21, zq22, zq23, zq24, zq25, zq26, zq27, zq28, zq4, zq3, zq1, zq2, zq0, zq29, zq30, zq14, zq15, zq16, zq17, zq13, zq10, zq12, zq11, zq7, zq5, zq6, zq9, zq8, zq31, zq32, ite_T, ite_F, zq33, zq34, zq35, Nat.reduceEqDiff, len22, len24, fa26_0, fa26_1, fa26_2, len27, fa33_0, fa33_1, len35, fa114_0, fa114_1, fa114_2, fa124_0, fa124_1, len134, len154, fa156_0, fa156_1, fa156_2, fa156_3, fa156_4, fa156_5, fa156_6, fa200_0, fa200_1, fa200_2, fa200_3]
      exact hK _ _ ⟨rfl, ⟨0, by omega, by omega, rfl⟩, H⟩
  · clear H
    rintro f w1 ⟨f0, ⟨b, hb0, hb1, f3⟩, H⟩
    simp only [f0, f3, zq18, zq19, zq20, zq21, zq22, zq23, zq24, zq25, zq26, zq27, zq28, zq4, zq3, zq1, zq2, zq0, zq29, zq30, zq14, zq15, zq16, zq17, zq13, zq10, zq12, zq11, zq7, zq5, zq6, zq9, zq8, zq31, zq32, ite_T, ite_F, zq33, zq34, zq35, Nat.reduceEqDiff, len22, len24, fa26_0, fa26_1, fa26_2, len27, fa33_0, fa33_1, len35, fa114_0, fa114_1, fa114_2, fa124_0, fa124_1, len134, len154, fa156_0, fa156_1, fa156_2, fa156_3, fa156_4, fa156_5, fa156_6, fa200_0, fa200_1, fa200_2, fa200_3]
    rw [ldB3 (H.box i hi1) rfl]
    simp only [zq18, zq19, zq20, zq21, zq22, zq23, zq24, zq25, zq26, zq27, zq28, zq4, zq3, zq1, zq2, zq0, zq29, zq30, zq14, zq15, zq16, zq17, zq13, zq10, zq12, zq11, zq7, zq5, zq6, zq9, zq8, zq31, zq32, ite_T, ite_F, zq33, zq34, zq35, Nat.reduceEqDiff, len22, len24, fa26_0, fa26_1, fa26_2, len27, fa33_0, fa33_1, len35, fa114_0, fa114_1, fa114_2, fa124_0, fa124_1, len134, len154, fa156_0, fa156_1, fa156_2, fa156_3, fa156_4, fa156_5, fa156_6, fa200_0, fa200_1, fa200_2, fa200_3]
    rw [i64_of (by omega) (by omega)]
    refine storeH H i hi1 sz3 rfl rfl rfl fun w2 H => ?_
    simp only [List.take_succ_cons, List.take_zero, List.drop_succ_cons, List.drop_zero, List.nil_append, List.cons_append, Value.cells, set_set'] at H
    have hi2 := get_set' (a := bx bc [.slice C bs.length cap, .int .i64 (a + 1), .int .u64 s] TC) hi
    rw [ldB112 (H.box i hi2) rfl]
    simp only [zq18, zq19, zq20, zq21, zq22, zq23, zq24, zq25, zq26, zq27, zq28, zq4, zq3, zq1, zq2, zq0, zq29, zq30, zq14, zq15, zq16, zq17, zq13, zq10, zq12, zq11, zq7, zq5, zq6, zq9, zq8, zq31, zq32, ite_T, ite_F, zq33, zq34, zq35, Nat.reduceEqDiff, len22, len24, fa26_0, fa26_1, fa26_2, len27, fa33_0, fa33_1, len35, fa114_0, fa114_1, fa114_2, fa124_0, fa124_1, len134, len154, fa156_0, fa156_1, fa156_2, fa156_3, fa156_4, fa156_5, fa156_6, fa200_0, fa200_1, fa200_2, fa200_3]
    refine do_convert Try.underlying3 Try.underlying112 ?_
    simp only [zq18, zq19, zq20, zq21, zq22, zq23, zq24, zq25, zq26, zq27, zq28, zq4, zq3, zq1, zq2, zq0, zq29, zq30, zq14, zq15, zq16, zq17, zq13, zq10, zq12, zq11, zq7, zq5, zq6, zq9, zq8, zq31, zq32, ite_T, ite_F, zq33, zq34, zq35, Nat.reduceEqDiff, len22, len24, fa26_0, fa26_1, fa26_2, len27, fa33_0, fa33_1, len35, fa114_0, fa114_1, fa114_2, fa124_0, fa124_1, len134, len154, fa156_0, fa156_1, fa156_2, fa156_3, fa156_4, fa156_5, fa156_6, fa200_0, fa200_1, fa200_2, fa200_3]
    refine storeH H i hi2 sz112 rfl rfl rfl fun w3 H => ?_
    simp only [List.take_succ_cons, List.take_zero, List.drop_succ_cons, List.drop_zero, List.nil_append, List.cons_append, Value.cells, set_set'] at H
    generalize IntKind.u64.wrap _ = z at H
    have hi3 := get_set' (a := bx bc [.slice C bs.length cap, .int .i64 (a + 1), .int .u64 z] TC) hi
    have H := H.drew
    rw [ldB3 (H.box i hi3) rfl]
    rw [ldB22 (H.box i hi3) rfl]
    simp only [zq18, zq19, zq20, zq21, zq22, zq23, zq24, zq25, zq26, zq27, zq28, zq4, zq3, zq1, zq2, zq0, zq29, zq30, zq14, zq15, zq16, zq17, zq13, zq10, zq12, zq11, zq7, zq5, zq6, zq9, zq8, zq31, zq32, ite_T, ite_F, zq33, zq34, zq35, Nat.reduceEqDiff, len22, len24, fa26_0, fa26_1, fa26_2, len27, fa33_0, fa33_1, len35, fa114_0, fa114_1, fa114_2, fa124_0, fa124_1, len134, len154, fa156_0, fa156_1, fa156_2, fa156_3, fa156_4, fa156_5, fa156_6, fa200_0, fa200_1, fa200_2, fa200_3]
    have fin : ∀ w' (b : Int), 0 ≤ b → b ≤ 255 → Apt w0 w' (L.set i (bx bc [.slice C bs.length cap, .int .i64 (a + 1), .int .u64 z] TC)) → k (.int .i64 b) w' := fun w' b hb hb' H => by
      have H := H.shutCur (N := N + 1) i hi3 (by omega) (by omega)
      rw [set_set'] at H
      exact hk w' b hb hb' H
    by_cases hle2 : a + 1 ≤ bs.length
    · simp only [hle2, decide_true, zq18, zq19, zq20, zq21, zq22, zq23, zq24, zq25, zq26, zq27, zq28, zq4, zq3, zq1, zq2, zq0, zq29, zq30, zq14, zq15, zq16, zq17, zq13, zq10, zq12, zq11, zq7, zq5, zq6, zq9, zq8, zq31, zq32, ite_T, ite_F, zq33, zq34, zq35, Nat.reduceEqDiff, len22, len24, fa26_0, fa26_1, fa26_2, len27, fa33_0, fa33_1, len35, fa114_0, fa114_1, fa114_2, fa124_0, fa124_1, len134, len154, fa156_0, fa156_1, fa156_2, fa156_3, fa156_4, fa156_5, fa156_6, fa200_0, fa200_1, fa200_2, fa200_3]
      exact fin _ b hb0 hb1 H
    · simp only [hle2, decide_false, zq18, zq19, zq20, zq21, zq22, zq23, zq24, zq25, zq26, zq27, zq28, zq4, zq3, zq1, zq2, zq0, zq29, zq30, zq14, zq15, zq16, zq17, zq13, zq10, zq12, zq11, zq7, zq5, zq6, zq9, zq8, zq31, zq32, ite_T, ite_F, zq33, zq34, zq35, Nat.reduceEqDiff, len22, len24, fa26_0, fa26_1, fa26_2, len27, fa33_0, fa33_1, len35, fa114_0, fa114_1, fa114_2, fa124_0, fa124_1, len134, len154, fa156_0, fa156_1, fa156_2, fa156_3, fa156_4, fa156_5, fa156_6, fa200_0, fa200_1, fa200_2, fa200_3]
      rw [ldB112 (H.box i hi3) rfl]
      refine rdi (bin_shr (by omega)) (rdi bin_and ?_)
      have h255 := and255 (z.fdiv (2 ^ (min (40 : Int).toNat IntKind.u64.bits)))
      generalize IntKind.u64.wrap _ = y at *
      refine do_convert Try.underlying112 Try.underlying3 ?_
      rw [i64_of (by omega) (by omega)]
      exact fin _ y h255.1 h255.2 H
theorem pick_c (H : Apt w0 w L) (i : Nat) (hi : L[i]? = some (cur bc (.slice C bs.length cap) N)) (hC : Byts w0 C bs) (hN : N ≤ 100000000) {n : Int} (hn : n ≤ 60000) (hk : ∀ w' (b : Nat), (n ≤ 1 → b = 0) → (1 < n → (b : Int) < n) → Apt w0 w' (L.set i (cur bc (.slice C bs.length cap) (N + 2))) → k (.int .i64 (b : Int)) w') :
    CallK Try.prog 146 [ptrv bc, .int .i64 n] k w := by
  refine enter146 ?_
  unfold S146
  have more : ∀ {w : World} {m : Nat}, m ≤ N + 2 → Apt w0 w (L.set i (cur bc (.slice C bs.length cap) m)) → Apt w0 w (L.set i (cur bc (.slice C bs.length cap) (N + 2))) := fun {w m} hm H => by
    have hj := get_set' (a := cur bc (.slice C bs.length cap) m) hi
    obtain ⟨a, s, h0, h1, H⟩ := H.openCur i hj
    rw [set_set'] at H
    have hj2 := get_set' (a := bx bc [.slice C bs.length cap, .int .i64 a, .int .u64 s] TC) hi
    have H := H.shutCur (N := N + 2) i hj2 h0 (by omega)
    rw [set_set'] at H
    exact H
  simp only [zq18, zq19, zq20, zq21, zq22, zq23, zq24, zq25, zq26, zq27, zq28, zq4, zq3, zq1, zq2, zq0, zq29, zq30, zq14, zq15, zq16, zq17, zq13, zq10, zq12, zq11, zq7, zq5, zq6, zq9, zq8, zq31, zq32, ite_T, ite_F, zq33, zq34, zq35, Nat.reduceEqDiff, len22, len24, fa26_0, fa26_1, fa26_2, len27, fa33_0, fa33_1, len35, fa114_0, fa114_1, fa114_2, fa124_0, fa124_1, len134, len154, fa156_0, fa156_1, fa156_2, fa156_3, fa156_4, fa156_5, fa156_6, fa200_0, fa200_1, fa200_2, fa200_3]
  by_cases h1 : n ≤ 1
  · simp only [h1, decide_true, zq18, zq19, zq20, zq21, zq22, zq23, zq24, zq25, zq26, zq27, zq28, zq4, zq3, zq1, zq2, zq0, zq29, zq30, zq14, zq15, zq16, zq17, zq13, zq10, zq12, zq11, zq7, zq5, zq6, zq9, zq8, zq31, zq32, ite_T, ite_F, zq33, zq34, zq35, Nat.reduceEqDiff, len22, len24, fa26_0, fa26_1, fa26_2, len27, fa33_0, fa33_1, len35, fa114_0, fa114_1, fa114_2, fa124_0, fa124_1, len134, len154, fa156_0, fa156_1, fa156_2, fa156_3, fa156_4, fa156_5, fa156_6, fa200_0, fa200_1, fa200_2, fa200_3]
    have e : L = L.set i (cur bc (.slice C bs.length cap) N) := by
      obtain ⟨h, e⟩ := List.getElem?_eq_some_iff.1 hi
      rw [← e, List.set_getElem_self]
    rw [e] at H
    exact hk w 0 (fun _ => rfl) (fun h => by omega) (more (by omega) H)
  simp only [h1, decide_false, zq18, zq19, zq20, zq21, zq22, zq23, zq24, zq25, zq26, zq27, zq28, zq4, zq3, zq1, zq2, zq0, zq29, zq30, zq14, zq15, zq16, zq17, zq13, zq10, zq12, zq11, zq7, zq5, zq6, zq9, zq8, zq31, zq32, ite_T, ite_F, zq33, zq34, zq35, Nat.reduceEqDiff, len22, len24, fa26_0, fa26_1, fa26_2, len27, fa33_0, fa33_1, len35, fa114_0, fa114_1, fa114_2, fa124_0, fa124_1, len134, len154, fa156_0, fa156_1, fa156_2, fa156_3, fa156_4, fa156_5, fa156_6, fa200_0, fa200_1, fa200_2, fa200_3]
  refine next_c H i hi hC (by omega) fun w1 b hb0 hb1 H => ?_
  have hj := get_set' (a := cur bc (.slice C bs.length cap) (N + 1)) hi
  have fin : ∀ (x : Int) (w' : World), 0 ≤ x → Apt w0 w' (L.set i (cur bc (.slice C bs.length cap) (N + 2))) → k (.int .i64 (x.tmod n)) w' := fun x w' hx H => by
    have e1 : x.tmod n = x % n := Int.tmod_eq_emod_of_nonneg hx
    have e2 := Int.emod_nonneg x (show n ≠ 0 by omega)
    have e3 := Int.emod_lt_of_pos x (show 0 < n by omega)
    have := hk w' (x % n).toNat (fun h => absurd h h1) (fun _ => by omega) H
    rw [Int.toNat_of_nonneg e2] at this
    rw [e1]
    exact this
  refine join_as (fun f w' => f 1 = .int .i64 n ∧ ∃ x : Int, 0 ≤ x ∧ f 5 = .int .i64 x ∧ Apt w0 w' (L.set i (cur bc (.slice C bs.length cap) (N + 2)))) (fun K hK => ?_) ?_
  · simp only [zq18, zq19, zq20, zq21, zq22, zq23, zq24, zq25, zq26, zq27, zq28, zq4, zq3, zq1, zq2, zq0, zq29, zq30, zq14, zq15, zq16, zq17, zq13, zq10, zq12, zq11, zq7, zq5, zq6, zq9, zq8, zq31, zq32, ite_T, ite_F, zq33, zq34, zq35, Nat.reduceEqDiff, len22, len24, fa26_0, fa26_1, fa26_2, len27, fa33_0, fa33_1, len35, fa114_0, fa114_1, fa114_2, fa124_0, fa124_1, len134, len154, fa156_0, fa156_1, fa156_2, fa156_3, fa156_4, fa156_5, fa156_6, fa200_0, fa200_1, fa200_2, fa200_3]
    by_cases h2 : 200 < n
    · simp only [h2, decide_true, zq18, zq19, zq20, zq21, zq22, zq23, zq24, zq25, zq26, zq27, zq28, zq4, zq3, zq1, zq2, zq0, zq29, zq30, zq14, zq15, zq16, zq17, zq13, zq10, zq12, zq11, zq7, zq5, zq6, zq9, zq8, zq31, zq32, ite_T, ite_F, zq33, zq34, zq35, Nat.reduceEqDiff, len22, len24, fa26_0, fa26_1, fa26_2, len27, fa33_0, fa33_1, len35, fa114_0, fa114_1, fa114_2, fa124_0, fa124_1, len134, len154, fa156_0, fa156_1, fa156_2, fa156_3, fa156_4, fa156_5, fa156_6, fa200_0, fa200_1, fa200_2, fa200_3]
      rw [i64_of (by omega) (by omega)]
      refine next_c H i hj hC (by omega) fun w2 b2 hc0 hc1 H => ?_
      rw [set_set'] at H
      simp only [zq18, zq19, zq20, zq21, zq22, zq23, zq24, zq25, zq26, zq27, zq28, zq4, zq3, zq1, zq2, zq0, zq29, zq30, zq14, zq15, zq16, zq17, zq13, zq10, zq12, zq11, zq7, zq5, zq6, zq9, zq8, zq31, zq32, ite_T, ite_F, zq33, zq34, zq35, Nat.reduceEqDiff, len22, len24, fa26_0, fa26_1, fa26_2, len27, fa33_0, fa33_1, len35, fa114_0, fa114_1, fa114_2, fa124_0, fa124_1, len134, len154, fa156_0, fa156_1, fa156_2, fa156_3, fa156_4, fa156_5, fa156_6, fa200_0, fa200_1, fa200_2, fa200_3]
      rw [i64_of (by omega) (by omega)]
      exact hK _ _ ⟨rfl, _, by omega, rfl, H⟩
    · simp only [h2, decide_false, zq18, zq19, zq20, zq21, zq22, zq23, zq24, zq25, zq26, zq27, zq28, zq4, zq3, zq1, zq2, zq0, zq29, zq30, zq14, zq15, zq16, zq17, zq13, zq10, zq12, zq11, zq7, zq5, zq6, zq9, zq8, zq31, zq32, ite_T, ite_F, zq33, zq34, zq35, Nat.reduceEqDiff, len22, len24, fa26_0, fa26_1, fa26_2, len27, fa33_0, fa33_1, len35, fa114_0, fa114_1, fa114_2, fa124_0, fa124_1, len134, len154, fa156_0, fa156_1, fa156_2, fa156_3, fa156_4, fa156_5, fa156_6, fa200_0, fa200_1, fa200_2, fa200_3]
      exact hK _ _ ⟨rfl, b, hb0, rfl, more (by omega) H⟩
  · rintro f w2 ⟨f1, x, hx, f5, H⟩
    simp only [f1, f5]
    refine rdi (bin_rem (by omega)) ?_
    exact fin x w2 hx H
theorem one_c (H : Apt w0 w L) (i : Nat) (hi : L[i]? = some (cur bc (.slice C bs.length cap) N)) (hC : Byts w0 C bs) (hN : N ≤ 100000000) {n : Int} (hn : n ≤ 60000) (hk : ∀ w' (b : Bool), Apt w0 w' (L.set i (cur bc (.slice C bs.length cap) (N + 2))) → k (.bool b) w') :
    CallK Try.prog 176 [ptrv bc, .int .i64 n] k w := by
  refine enter176 ?_
  unfold S176
  refine pick_c H i hi hC hN hn fun w1 b _ _ H => ?_
  simp only [zq18, zq19, zq20, zq21, zq22, zq23, zq24, zq25, zq26, zq27, zq28, zq4, zq3, zq1, zq2, zq0, zq29, zq30, zq14, zq15, zq16, zq17, zq13, zq10, zq12, zq11, zq7, zq5, zq6, zq9, zq8, zq31, zq32, ite_T, ite_F, zq33, zq34, zq35, Nat.reduceEqDiff, len22, len24, fa26_0, fa26_1, fa26_2, len27, fa33_0, fa33_1, len35, fa114_0, fa114_1, fa114_2, fa124_0, fa124_1, len134, len154, fa156_0, fa156_1, fa156_2, fa156_3, fa156_4, fa156_5, fa156_6, fa200_0, fa200_1, fa200_2, fa200_3]
  exact hk _ _ H
theorem among_c (H : Apt w0 w L) (i : Nat) (hi : L[i]? = some (cur bc (.slice C bs.length cap) N)) (hC : Byts w0 C bs) (hN : N ≤ 100000000) {Z : Option Addr} {n cz : Nat} {xs : List Int} (hZ : ∀ w', Apt w0 w' (L.set i (cur bc (.slice C bs.length cap) (N + 2))) → Ints w' Z xs) (hn : n = xs.length) (h0 : 0 < xs.length) (hl : xs.length ≤ 60000) (hk : ∀ w' (j : Nat), j < xs.length → Apt w0 w' (L.set i (cur bc (.slice C bs.length cap) (N + 2))) → k (.int .i64 (xs.getD j 0)) w') :
    CallK Try.prog 156 [ptrv bc, .slice Z n cz] k w := by
  subst hn
  refine enter156 ?_
  unfold S156
  simp only [zq18, zq19, zq20, zq21, zq22, zq23, zq24, zq25, zq26, zq27, zq28, zq4, zq3, zq1, zq2, zq0, zq29, zq30, zq14, zq15, zq16, zq17, zq13, zq10, zq12, zq11, zq7, zq5, zq6, zq9, zq8, zq31, zq32, ite_T, ite_F, zq33, zq34, zq35, Nat.reduceEqDiff, len22, len24, fa26_0, fa26_1, fa26_2, len27, fa33_0, fa33_1, len35, fa114_0, fa114_1, fa114_2, fa124_0, fa124_1, len134, len154, fa156_0, fa156_1, fa156_2, fa156_3, fa156_4, fa156_5, fa156_6, fa200_0, fa200_1, fa200_2, fa200_3]
  refine pick_c H i hi hC hN (by omega) fun w1 b h1 h2 H => ?_
  have hb : b < xs.length := by
    by_cases h : (xs.length : Int) ≤ 1
    · have := h1 h; omega
    · have := h2 (by omega); omega
  have hz := hZ w1 H
  refine rdi (ixn27 hz.ptr hb) (rdi (ld3 (hz.cell b hb)) ?_)
  exact hk w1 b hb H
end
end Go.Proofs.Ytegcjkhebecgbaa

/- Rules in memory whose right sides are read and whose row is owned. -/
set_option linter.unusedVariables false
set_option linter.unusedSimpArgs false
set_option maxRecDepth 100000
namespace Go.Sh
open Go
/-- The cells of rules. -/
inductive RuleCells (F : Nat → Prop) (w : World) : List RuleL → List Value → Prop
  | nil : RuleCells F w [] []
  | cons {r : RuleL} {rs : List RuleL} {Y : Option Addr} {c : Nat} {cells : List Value} : r.2.length ≤ c → IntsF F w Y r.2 → RuleCells F w rs cells → RuleCells F w (r :: rs) (.int .i64 r.1 :: .slice Y r.2.length c :: cells)
section
variable {F E : Nat → Prop} {w w' : World} {rs qs : List RuleL} {cells news : List Value}
theorem RuleCells.len (h : RuleCells F w rs cells) : cells.length = rs.length * 2 := by
  induction h with
  | nil => rfl
  | cons _ _ _ ih => simp only [List.length_cons, ih]; omega
theorem RuleCells.mono (h : RuleCells F w rs cells) (he : ∀ b, F b → E b) : RuleCells E w rs cells := by
  induction h with
  | nil => exact .nil
  | cons h1 h2 _ ih => exact .cons h1 (h2.mono he) ih
theorem RuleCells.gr (h : RuleCells F w rs cells) (g : Gr w w') : RuleCells F w' rs cells := by
  induction h with
  | nil => exact .nil
  | cons h1 h2 _ ih => exact .cons h1 (h2.gr g) ih
theorem IntsF.same' {X : Option Addr} {xs : List Int} (h : IntsF F w X xs) (hs : ∀ q, F q → w'.heap[q]? = w.heap[q]?) : IntsF F w' X xs :=
  ⟨⟨h.is.le, h.is.ptr, fun j hj => by
    have h1 := h.is.cell j hj
    have h2 : w'.heap[((ad X).add j).block]? = w.heap[((ad X).add j).block]? := hs _ (by rw [add_block]; exact h.foot (by omega))
    unfold World.cell? at h1 ⊢
    rw [h2]
    exact h1⟩, h.foot⟩
theorem RuleCells.same (h : RuleCells F w rs cells) (hs : ∀ q, F q → w'.heap[q]? = w.heap[q]?) : RuleCells F w' rs cells := by
  induction h with
  | nil => exact .nil
  | cons h1 h2 _ ih => exact .cons h1 (h2.same' hs) ih
theorem RuleCells.append (h : RuleCells F w rs cells) (h' : RuleCells F w qs news) : RuleCells F w (rs ++ qs) (cells ++ news) := by
  induction h with
  | nil => exact h'
  | cons h1 h2 _ ih => exact .cons h1 h2 ih
theorem RuleCells.one (h : RuleCells F w rs cells) : ∀ v ∈ cells, v.oneCell' = true := by
  induction h with
  | nil => intro v hv; simp at hv
  | cons h1 h2 _ ih =>
    intro v hv
    rcases List.mem_cons.1 hv with rfl | hv
    · rfl
    · rcases List.mem_cons.1 hv with rfl | hv
      · rfl
      · exact ih v hv
theorem RuleCells.lt (h : RuleCells F w rs cells) : RuleCells (fun b => F b ∧ b < w.heap.size) w rs cells := by
  induction h with
  | nil => exact .nil
  | @cons r rs Y c cells h1 h2 _ ih =>
    refine .cons h1 ⟨h2.is, fun hp => ⟨h2.foot hp, ?_⟩⟩ ih
    have h3 := h2.is.cell 0 hp
    have : ((ad Y).add 0).block < w.heap.size := by
      unfold World.cell? at h3
      cases hb : w.heap[((ad Y).add 0).block]? with
      | none => rw [hb] at h3; cases h3
      | some _ => exact (Array.getElem?_eq_some_iff.1 hb).1
    rwa [add_block] at this
theorem RuleCells.cell (h : RuleCells F w rs cells) : ∀ j, j < rs.length → ∃ Y c, cells[j * 2]? = some (.int .i64 (rul rs j).1) ∧ cells[j * 2 + 1]? = some (.slice Y (rul rs j).2.length c) ∧ (rul rs j).2.length ≤ c ∧ IntsF F w Y (rul rs j).2 := by
  induction h with
  | nil => intro j hj; simp at hj
  | cons h1 h2 _ ih =>
    intro j hj
    cases j with
    | zero => exact ⟨_, _, rfl, rfl, h1, h2⟩
    | succ j =>
      obtain ⟨Y, c, a1, a2, a3, a4⟩ := ih j (by simpa using hj)
      have e : ∀ (r : RuleL) (rs : List RuleL), rul (r :: rs) (j + 1) = rul rs j := fun r rs => by simp [rul]
      rw [e]
      refine ⟨Y, c, ?_, ?_, a3, a4⟩
      · rw [show (j + 1) * 2 = j * 2 + 1 + 1 from by omega]
        simpa using a1
      · rw [show (j + 1) * 2 + 1 = j * 2 + 1 + 1 + 1 from by omega]
        simpa using a2
/-- Owned: the row; its right sides are read. -/
def OwnG (e : Nat) (F : Nat → Prop) (w : World) (B : Nat) (X : Option Addr) (c : Nat) (rs : List RuleL) : Prop := ∃ cells, Row w B e 2 X rs.length c cells ∧ RuleCells (fun q => F q ∧ blk X ≠ some q) w rs cells
def gow (e : Nat) (ft : Nat → Prop) (X : Option Addr) (c : Nat) (rs : List RuleL) : Thing := ⟨fun w => OwnG e ft w 0 X c rs, fun q => blk X = some q ∨ ft q⟩
theorem gow_kept {e : Nat} {ft : Nat → Prop} {B c : Nat} {X : Option Addr} (h : OwnG e ft w B X c rs) : ∀ w', (∀ q, (gow e ft X c rs).ft q → w'.heap[q]? = w.heap[q]?) → (gow e ft X c rs).P w' := fun w' hs => by
  obtain ⟨cells, h1, h2⟩ := h
  exact ⟨cells, (Row.mono h1 (Nat.zero_le B)).same fun q hq => hs q (.inl hq), h2.same fun q hq => hs q (.inr hq.1)⟩
theorem OwnG.read {e : Nat} {B c : Nat} {X : Option Addr} (h : OwnG e F w B X c rs) : RulesF (fun _ => True) w X rs := by
  obtain ⟨cells, h1, h2⟩ := h
  have hcap := Row.cap h1
  refine ⟨by omega, fun hp => h1.ptr hp, fun _ => trivial, fun j hj => ?_⟩
  obtain ⟨Y, d, a1, a2, a3, a4⟩ := h2.cell j hj
  exact ⟨Y, d, h1.src.cell _ _ a1, h1.src.cell _ _ a2, a3, a4.mono fun _ _ => trivial⟩
theorem Apt.gow {w0 : World} {L : List Thing} (H : Apt w0 w L) (i : Nat) {e : Nat} {ft : Nat → Prop} {c : Nat} {X : Option Addr} (hi : L[i]? = some (Sh.gow e ft X c rs)) : OwnG e ft w 0 X c rs := H.get i hi
/-- What has been built since comes as one thing. -/
theorem Apt.addGow {w0 : World} {L : List Thing} {e c : Nat} {X : Option Addr} (H : Apt w0 w L) (g : Gr w w') (hr : Row w' w.heap.size e 2 X rs.length c cells) (hc : RuleCells (fun q => w.heap.size ≤ q ∧ blk X ≠ some q) w' rs cells) : Apt w0 w' (L ++ [Sh.gow e (fun q => w.heap.size ≤ q ∧ q < w'.heap.size) X c rs]) := by
  refine H.add g _ (fun q hq => ?_) (fun q hq => ?_) (gow_kept ⟨cells, hr, hc.lt.mono fun b hb => ⟨⟨hb.1.1, hb.2⟩, hb.1.2⟩⟩)
  · rcases hq with hq | hq
    · exact (hr.ge hq).1
    · exact hq.1
  · rcases hq with hq | hq
    · exact (hr.ge hq).2
    · exact hq.2
end
/-- A drawn grammar. -/
structure Drawn (m : Nat) (gm : Gram) : Prop where
  nons : 0 ≤ gm.nons ∧ gm.nons ≤ 1000
  toks : 0 ≤ gm.toks ∧ gm.toks ≤ 1000
  some : 0 < gm.rules.length
  few : gm.rules.length ≤ m
end Go.Sh

/- Contract: grammars that are known (the reference's l1Cur.known). -/
set_option linter.unusedVariables false
set_option linter.unusedSimpArgs false
set_option maxRecDepth 100000
namespace Go.Proofs.Ytegcjkhebecgbaa
open Go Go.Sh Go.RowKit
abbrev gth (ft : Nat → Prop) (X : Option Addr) (c : Nat) (rs : List RuleL) : Thing := gow 33 ft X c rs
theorem rng8 : Array.range 8 = #[0, 1, 2, 3, 4, 5, 6, 7] := by decide
theorem rng10 : Array.range 10 = #[0, 1, 2, 3, 4, 5, 6, 7, 8, 9] := by decide
section
variable {w0 w : World} {L : List Thing} {bc N : Nat} {C : Option Addr} {cap : Nat} {bs : List Int} {k : Value → World → Prop}
theorem nilF (F : Nat → Prop) (w : World) : IntsF F w none [] := ⟨⟨by simp, fun h => by simp at h, fun j hj => by simp at hj⟩, fun h => by simp at h⟩
theorem ltF {F : Nat → Prop} {w : World} {X : Option Addr} {xs : List Int} (h : IntsF F w X xs) : IntsF (fun b => F b ∧ b < w.heap.size) w X xs := ⟨h.is, fun hp => ⟨h.foot hp, (IntsF.of_ints h.is).foot hp⟩⟩
set_option maxHeartbeats 6400000 in
theorem known_c {E : List Thing} (H : Apt w0 w (cur bc (.slice C bs.length cap) N :: E)) (hC : Byts w0 C bs) (hN : N ≤ 10000000) (hk : ∀ w' gm ft X c, Drawn 100 gm → Apt w0 w' (cur bc (.slice C bs.length cap) (N + 2) :: gth ft X c gm.rules :: E) → k (.agg #[.int .i64 gm.nons, .int .i64 gm.toks, .slice X gm.rules.length c]) w') :
    CallK Try.prog 303 [ptrv bc] k w := by
  refine enter303 ?_
  unfold S303
  refine allocH H inf26 fun b1 w1 H => ?_
  have H := H.insert 1
  simp only [List.take_succ_cons, List.take_zero, List.drop_succ_cons, List.drop_zero, List.nil_append, List.cons_append] at H
  refine pick_c H 0 rfl hC (by omega) (by omega) fun wA b _ hb8 H => ?_
  have hb8 := hb8 (by omega)
  simp only [List.set_cons_zero] at H
  have fin : ∀ (wB : World) (bX c : Nat) (gm : Gram) (cells : List Value), Drawn 100 gm → Gr wA wB → Row wB wA.heap.size 33 2 (some ⟨bX, 0, none⟩) gm.rules.length c cells → RuleCells (fun q => wA.heap.size ≤ q ∧ blk (some (⟨bX, 0, none⟩ : Addr)) ≠ some q) wB gm.rules cells → Do Try.prog (sStore 26 (ptrv b1) (.agg #[.int .i64 gm.nons, .int .i64 gm.toks, .slice (some ⟨bX, 0, none⟩) gm.rules.length c])) (fun _ w' => Rd Try.prog (WS.at w') (sLoadVar 26 (ptrv b1)) fun v => k v w') wB := fun wB bX c gm cells hd g hr hc => by
    have H := H.addGow g hr hc
    have H := H.insert 1
    simp only [List.take_succ_cons, List.take_zero, List.drop_succ_cons, List.drop_zero, List.nil_append, List.cons_append] at H
    refine storeH H 2 rfl sz26 rfl rfl rfl fun w2 H => ?_
    simp only [List.set_cons_zero, List.set_cons_succ] at H
    rw [rd_loadVar, ldB_agg agg26 sz26 rfl (H.box 2 rfl)]
    have H := H.erase 2
    simp only [List.eraseIdx_cons_zero, List.eraseIdx_cons_succ] at H
    exact hk w2 gm _ _ c hd H
  obtain rfl | rfl | rfl | rfl | rfl | rfl | rfl | rfl : b = 0 ∨ b = 1 ∨ b = 2 ∨ b = 3 ∨ b = 4 ∨ b = 5 ∨ b = 6 ∨ b = 7 := by omega
  · simp only [show (((0 : Nat) : Int) = 0) from by omega, decide_true, decide_false, zq18, zq19, zq20, zq21, zq22, zq23, zq24, zq25, zq26, zq27, zq28, zq4, zq3, zq1, zq2, zq0, zq29, zq30, zq14, zq15, zq16, zq17, zq13, zq10, zq12, zq11, zq7, zq5, zq6, zq9, zq8, zq31, zq32, ite_T, ite_F, zq33, zq34, zq35, Nat.reduceEqDiff, len22, len24, fa26_0, fa26_1, fa26_2, len27, fa33_0, fa33_1, len35, fa114_0, fa114_1, fa114_2, fa124_0, fa124_1, len134, len154, fa156_0, fa156_1, fa156_2, fa156_3, fa156_4, fa156_5, fa156_6, fa200_0, fa200_1, fa200_2, fa200_3]
    refine do_build_of u27 inf3 (cells := ints [-1, 0, -2]) (by decide) (by decide) (by simp [Instr.fill, madeCells, Value.cells, rng3, ints]) rfl fun c0 v0 _ _ g0 _ r0 => ?_
    have i0 : IntsF (fun b => wA.heap.size ≤ b) v0 (some ⟨c0, 0, none⟩) [-1, 0, -2] := (IntsF.of_own (r0 _ (Nat.le_refl _))).mono fun b hb => Nat.le_trans (Gr.refl wA).size hb.1
    have G0 := g0
    rw [bd33 (cells := #[.int .i64 0, .slice (some ⟨c0, 0, none⟩) 3 3]) rfl]
    rw [bd33 (cells := #[.int .i64 0, .slice none 0 0]) rfl]
    refine do_build_of u24 inf33 (cells := [.int .i64 0, .slice (some ⟨c0, 0, none⟩) 3 3, .int .i64 0, .slice none 0 0]) (by decide) (by decide) (by simp [Instr.fill, madeCells, Value.cells, rng4]) rfl fun bX wB hX1 _ gB _ rB => ?_
    rw [bd26 (cells := #[.int .i64 1, .int .i64 2, .slice (some ⟨bX, 0, none⟩) 2 2]) rfl]
    have j0 := ((ltF i0).gr gB).mono (E := fun q => wA.heap.size ≤ q ∧ blk (some (⟨bX, 0, none⟩ : Addr)) ≠ some q) fun q hq => ⟨hq.1, fun e => absurd hq.2 (by have := Option.some.inj (show some bX = some q from e); omega)⟩
    exact fin wB bX 2 ⟨1, 2, [(0, [-1, 0, -2]), (0, [])]⟩ _ ⟨⟨by decide, by decide⟩, ⟨by decide, by decide⟩, by decide, by decide⟩ (gr_trans G0 gB) (rB _ G0.size) (.cons (r := (0, [-1, 0, -2])) (Nat.le_refl _) j0 (.cons (r := (0, [])) (Nat.le_refl _) (nilF _ _) .nil))
  · simp only [show ¬ (((1 : Nat) : Int) = 0) from by omega, show (((1 : Nat) : Int) = 1) from by omega, decide_true, decide_false, zq18, zq19, zq20, zq21, zq22, zq23, zq24, zq25, zq26, zq27, zq28, zq4, zq3, zq1, zq2, zq0, zq29, zq30, zq14, zq15, zq16, zq17, zq13, zq10, zq12, zq11, zq7, zq5, zq6, zq9, zq8, zq31, zq32, ite_T, ite_F, zq33, zq34, zq35, Nat.reduceEqDiff, len22, len24, fa26_0, fa26_1, fa26_2, len27, fa33_0, fa33_1, len35, fa114_0, fa114_1, fa114_2, fa124_0, fa124_1, len134, len154, fa156_0, fa156_1, fa156_2, fa156_3, fa156_4, fa156_5, fa156_6, fa200_0, fa200_1, fa200_2, fa200_3]
    refine do_build_of u27 inf3 (cells := ints [0, 0]) (by decide) (by decide) (by simp [Instr.fill, madeCells, Value.cells, rng2, ints]) rfl fun c0 v0 _ _ g0 _ r0 => ?_
    have i0 : IntsF (fun b => wA.heap.size ≤ b) v0 (some ⟨c0, 0, none⟩) [0, 0] := (IntsF.of_own (r0 _ (Nat.le_refl _))).mono fun b hb => Nat.le_trans (Gr.refl wA).size hb.1
    have G0 := g0
    rw [bd33 (cells := #[.int .i64 0, .slice (some ⟨c0, 0, none⟩) 2 2]) rfl]
    refine do_build_of u27 inf3 (cells := ints [-1, 0, -2]) (by decide) (by decide) (by simp [Instr.fill, madeCells, Value.cells, rng3, ints]) rfl fun c1 v1 _ _ g1 _ r1 => ?_
    have i1 : IntsF (fun b => wA.heap.size ≤ b) v1 (some ⟨c1, 0, none⟩) [-1, 0, -2] := (IntsF.of_own (r1 _ (Nat.le_refl _))).mono fun b hb => Nat.le_trans G0.size hb.1
    have G1 := gr_trans G0 g1
    rw [bd33 (cells := #[.int .i64 0, .slice (some ⟨c1, 0, none⟩) 3 3]) rfl]
    refine do_build_of u27 inf3 (cells := ints [-1, -2]) (by decide) (by decide) (by simp [Instr.fill, madeCells, Value.cells, rng2, ints]) rfl fun c2 v2 _ _ g2 _ r2 => ?_
    have i2 : IntsF (fun b => wA.heap.size ≤ b) v2 (some ⟨c2, 0, none⟩) [-1, -2] := (IntsF.of_own (r2 _ (Nat.le_refl _))).mono fun b hb => Nat.le_trans G1.size hb.1
    have G2 := gr_trans G1 g2
    rw [bd33 (cells := #[.int .i64 0, .slice (some ⟨c2, 0, none⟩) 2 2]) rfl]
    refine do_build_of u24 inf33 (cells := [.int .i64 0, .slice (some ⟨c0, 0, none⟩) 2 2, .int .i64 0, .slice (some ⟨c1, 0, none⟩) 3 3, .int .i64 0, .slice (some ⟨c2, 0, none⟩) 2 2]) (by decide) (by decide) (by simp [Instr.fill, madeCells, Value.cells, rng6]) rfl fun bX wB hX1 _ gB _ rB => ?_
    rw [bd26 (cells := #[.int .i64 1, .int .i64 2, .slice (some ⟨bX, 0, none⟩) 3 3]) rfl]
    have j0 := ((ltF ((i0.gr g1).gr g2)).gr gB).mono (E := fun q => wA.heap.size ≤ q ∧ blk (some (⟨bX, 0, none⟩ : Addr)) ≠ some q) fun q hq => ⟨hq.1, fun e => absurd hq.2 (by have := Option.some.inj (show some bX = some q from e); omega)⟩
    have j1 := ((ltF (i1.gr g2)).gr gB).mono (E := fun q => wA.heap.size ≤ q ∧ blk (some (⟨bX, 0, none⟩ : Addr)) ≠ some q) fun q hq => ⟨hq.1, fun e => absurd hq.2 (by have := Option.some.inj (show some bX = some q from e); omega)⟩
    have j2 := ((ltF i2).gr gB).mono (E := fun q => wA.heap.size ≤ q ∧ blk (some (⟨bX, 0, none⟩ : Addr)) ≠ some q) fun q hq => ⟨hq.1, fun e => absurd hq.2 (by have := Option.some.inj (show some bX = some q from e); omega)⟩
    exact fin wB bX 3 ⟨1, 2, [(0, [0, 0]), (0, [-1, 0, -2]), (0, [-1, -2])]⟩ _ ⟨⟨by decide, by decide⟩, ⟨by decide, by decide⟩, by decide, by decide⟩ (gr_trans G2 gB) (rB _ G2.size) (.cons (r := (0, [0, 0])) (Nat.le_refl _) j0 (.cons (r := (0, [-1, 0, -2])) (Nat.le_refl _) j1 (.cons (r := (0, [-1, -2])) (Nat.le_refl _) j2 .nil)))
  · simp only [show ¬ (((2 : Nat) : Int) = 0) from by omega, show ¬ (((2 : Nat) : Int) = 1) from by omega, show (((2 : Nat) : Int) = 2) from by omega, decide_true, decide_false, zq18, zq19, zq20, zq21, zq22, zq23, zq24, zq25, zq26, zq27, zq28, zq4, zq3, zq1, zq2, zq0, zq29, zq30, zq14, zq15, zq16, zq17, zq13, zq10, zq12, zq11, zq7, zq5, zq6, zq9, zq8, zq31, zq32, ite_T, ite_F, zq33, zq34, zq35, Nat.reduceEqDiff, len22, len24, fa26_0, fa26_1, fa26_2, len27, fa33_0, fa33_1, len35, fa114_0, fa114_1, fa114_2, fa124_0, fa124_1, len134, len154, fa156_0, fa156_1, fa156_2, fa156_3, fa156_4, fa156_5, fa156_6, fa200_0, fa200_1, fa200_2, fa200_3]
    refine do_build_of u27 inf3 (cells := ints [0, -3, 1]) (by decide) (by decide) (by simp [Instr.fill, madeCells, Value.cells, rng3, ints]) rfl fun c0 v0 _ _ g0 _ r0 => ?_
    have i0 : IntsF (fun b => wA.heap.size ≤ b) v0 (some ⟨c0, 0, none⟩) [0, -3, 1] := (IntsF.of_own (r0 _ (Nat.le_refl _))).mono fun b hb => Nat.le_trans (Gr.refl wA).size hb.1
    have G0 := g0
    rw [bd33 (cells := #[.int .i64 0, .slice (some ⟨c0, 0, none⟩) 3 3]) rfl]
    refine do_build_of u27 inf3 (cells := ints [1]) (by decide) (by decide) (by simp [Instr.fill, madeCells, Value.cells, rng1, ints]) rfl fun c1 v1 _ _ g1 _ r1 => ?_
    have i1 : IntsF (fun b => wA.heap.size ≤ b) v1 (some ⟨c1, 0, none⟩) [1] := (IntsF.of_own (r1 _ (Nat.le_refl _))).mono fun b hb => Nat.le_trans G0.size hb.1
    have G1 := gr_trans G0 g1
    rw [bd33 (cells := #[.int .i64 0, .slice (some ⟨c1, 0, none⟩) 1 1]) rfl]
    refine do_build_of u27 inf3 (cells := ints [-1]) (by decide) (by decide) (by simp [Instr.fill, madeCells, Value.cells, rng1, ints]) rfl fun c2 v2 _ _ g2 _ r2 => ?_
    have i2 : IntsF (fun b => wA.heap.size ≤ b) v2 (some ⟨c2, 0, none⟩) [-1] := (IntsF.of_own (r2 _ (Nat.le_refl _))).mono fun b hb => Nat.le_trans G1.size hb.1
    have G2 := gr_trans G1 g2
    rw [bd33 (cells := #[.int .i64 1, .slice (some ⟨c2, 0, none⟩) 1 1]) rfl]
    refine do_build_of u27 inf3 (cells := ints [-2, 0, -2]) (by decide) (by decide) (by simp [Instr.fill, madeCells, Value.cells, rng3, ints]) rfl fun c3 v3 _ _ g3 _ r3 => ?_
    have i3 : IntsF (fun b => wA.heap.size ≤ b) v3 (some ⟨c3, 0, none⟩) [-2, 0, -2] := (IntsF.of_own (r3 _ (Nat.le_refl _))).mono fun b hb => Nat.le_trans G2.size hb.1
    have G3 := gr_trans G2 g3
    rw [bd33 (cells := #[.int .i64 1, .slice (some ⟨c3, 0, none⟩) 3 3]) rfl]
    refine do_build_of u24 inf33 (cells := [.int .i64 0, .slice (some ⟨c0, 0, none⟩) 3 3, .int .i64 0, .slice (some ⟨c1, 0, none⟩) 1 1, .int .i64 1, .slice (some ⟨c2, 0, none⟩) 1 1, .int .i64 1, .slice (some ⟨c3, 0, none⟩) 3 3]) (by decide) (by decide) (by simp [Instr.fill, madeCells, Value.cells, rng8]) rfl fun bX wB hX1 _ gB _ rB => ?_
    rw [bd26 (cells := #[.int .i64 2, .int .i64 3, .slice (some ⟨bX, 0, none⟩) 4 4]) rfl]
    have j0 := ((ltF (((i0.gr g1).gr g2).gr g3)).gr gB).mono (E := fun q => wA.heap.size ≤ q ∧ blk (some (⟨bX, 0, none⟩ : Addr)) ≠ some q) fun q hq => ⟨hq.1, fun e => absurd hq.2 (by have := Option.some.inj (show some bX = some q from e); omega)⟩
    have j1 := ((ltF ((i1.gr g2).gr g3)).gr gB).mono (E := fun q => wA.heap.size ≤ q ∧ blk (some (⟨bX, 0, none⟩ : Addr)) ≠ some q) fun q hq => ⟨hq.1, fun e => absurd hq.2 (by have := Option.some.inj (show some bX = some q from e); omega)⟩
    have j2 := ((ltF (i2.gr g3)).gr gB).mono (E := fun q => wA.heap.size ≤ q ∧ blk (some (⟨bX, 0, none⟩ : Addr)) ≠ some q) fun q hq => ⟨hq.1, fun e => absurd hq.2 (by have := Option.some.inj (show some bX = some q from e); omega)⟩
    have j3 := ((ltF i3).gr gB).mono (E := fun q => wA.heap.size ≤ q ∧ blk (some (⟨bX, 0, none⟩ : Addr)) ≠ some q) fun q hq => ⟨hq.1, fun e => absurd hq.2 (by have := Option.some.inj (show some bX = some q from e); omega)⟩
    exact fin wB bX 4 ⟨2, 3, [(0, [0, -3, 1]), (0, [1]), (1, [-1]), (1, [-2, 0, -2])]⟩ _ ⟨⟨by decide, by decide⟩, ⟨by decide, by decide⟩, by decide, by decide⟩ (gr_trans G3 gB) (rB _ G3.size) (.cons (r := (0, [0, -3, 1])) (Nat.le_refl _) j0 (.cons (r := (0, [1])) (Nat.le_refl _) j1 (.cons (r := (1, [-1])) (Nat.le_refl _) j2 (.cons (r := (1, [-2, 0, -2])) (Nat.le_refl _) j3 .nil))))
  · simp only [show ¬ (((3 : Nat) : Int) = 0) from by omega, show ¬ (((3 : Nat) : Int) = 1) from by omega, show ¬ (((3 : Nat) : Int) = 2) from by omega, show (((3 : Nat) : Int) = 3) from by omega, decide_true, decide_false, zq18, zq19, zq20, zq21, zq22, zq23, zq24, zq25, zq26, zq27, zq28, zq4, zq3, zq1, zq2, zq0, zq29, zq30, zq14, zq15, zq16, zq17, zq13, zq10, zq12, zq11, zq7, zq5, zq6, zq9, zq8, zq31, zq32, ite_T, ite_F, zq33, zq34, zq35, Nat.reduceEqDiff, len22, len24, fa26_0, fa26_1, fa26_2, len27, fa33_0, fa33_1, len35, fa114_0, fa114_1, fa114_2, fa124_0, fa124_1, len134, len154, fa156_0, fa156_1, fa156_2, fa156_3, fa156_4, fa156_5, fa156_6, fa200_0, fa200_1, fa200_2, fa200_3]
    refine do_build_of u27 inf3 (cells := ints [-1, 1]) (by decide) (by decide) (by simp [Instr.fill, madeCells, Value.cells, rng2, ints]) rfl fun c0 v0 _ _ g0 _ r0 => ?_
    have i0 : IntsF (fun b => wA.heap.size ≤ b) v0 (some ⟨c0, 0, none⟩) [-1, 1] := (IntsF.of_own (r0 _ (Nat.le_refl _))).mono fun b hb => Nat.le_trans (Gr.refl wA).size hb.1
    have G0 := g0
    rw [bd33 (cells := #[.int .i64 0, .slice (some ⟨c0, 0, none⟩) 2 2]) rfl]
    refine do_build_of u27 inf3 (cells := ints [-2, 1]) (by decide) (by decide) (by simp [Instr.fill, madeCells, Value.cells, rng2, ints]) rfl fun c1 v1 _ _ g1 _ r1 => ?_
    have i1 : IntsF (fun b => wA.heap.size ≤ b) v1 (some ⟨c1, 0, none⟩) [-2, 1] := (IntsF.of_own (r1 _ (Nat.le_refl _))).mono fun b hb => Nat.le_trans G0.size hb.1
    have G1 := gr_trans G0 g1
    rw [bd33 (cells := #[.int .i64 1, .slice (some ⟨c1, 0, none⟩) 2 2]) rfl]
    refine do_build_of u27 inf3 (cells := ints [-2]) (by decide) (by decide) (by simp [Instr.fill, madeCells, Value.cells, rng1, ints]) rfl fun c2 v2 _ _ g2 _ r2 => ?_
    have i2 : IntsF (fun b => wA.heap.size ≤ b) v2 (some ⟨c2, 0, none⟩) [-2] := (IntsF.of_own (r2 _ (Nat.le_refl _))).mono fun b hb => Nat.le_trans G1.size hb.1
    have G2 := gr_trans G1 g2
    rw [bd33 (cells := #[.int .i64 1, .slice (some ⟨c2, 0, none⟩) 1 1]) rfl]
    rw [bd33 (cells := #[.int .i64 1, .slice none 0 0]) rfl]
    refine do_build_of u24 inf33 (cells := [.int .i64 0, .slice (some ⟨c0, 0, none⟩) 2 2, .int .i64 1, .slice (some ⟨c1, 0, none⟩) 2 2, .int .i64 1, .slice (some ⟨c2, 0, none⟩) 1 1, .int .i64 1, .slice none 0 0]) (by decide) (by decide) (by simp [Instr.fill, madeCells, Value.cells, rng8]) rfl fun bX wB hX1 _ gB _ rB => ?_
    rw [bd26 (cells := #[.int .i64 2, .int .i64 2, .slice (some ⟨bX, 0, none⟩) 4 4]) rfl]
    have j0 := ((ltF ((i0.gr g1).gr g2)).gr gB).mono (E := fun q => wA.heap.size ≤ q ∧ blk (some (⟨bX, 0, none⟩ : Addr)) ≠ some q) fun q hq => ⟨hq.1, fun e => absurd hq.2 (by have := Option.some.inj (show some bX = some q from e); omega)⟩
    have j1 := ((ltF (i1.gr g2)).gr gB).mono (E := fun q => wA.heap.size ≤ q ∧ blk (some (⟨bX, 0, none⟩ : Addr)) ≠ some q) fun q hq => ⟨hq.1, fun e => absurd hq.2 (by have := Option.some.inj (show some bX = some q from e); omega)⟩
    have j2 := ((ltF i2).gr gB).mono (E := fun q => wA.heap.size ≤ q ∧ blk (some (⟨bX, 0, none⟩ : Addr)) ≠ some q) fun q hq => ⟨hq.1, fun e => absurd hq.2 (by have := Option.some.inj (show some bX = some q from e); omega)⟩
    exact fin wB bX 4 ⟨2, 2, [(0, [-1, 1]), (1, [-2, 1]), (1, [-2]), (1, [])]⟩ _ ⟨⟨by decide, by decide⟩, ⟨by decide, by decide⟩, by decide, by decide⟩ (gr_trans G2 gB) (rB _ G2.size) (.cons (r := (0, [-1, 1])) (Nat.le_refl _) j0 (.cons (r := (1, [-2, 1])) (Nat.le_refl _) j1 (.cons (r := (1, [-2])) (Nat.le_refl _) j2 (.cons (r := (1, [])) (Nat.le_refl _) (nilF _ _) .nil))))
  · simp only [show ¬ (((4 : Nat) : Int) = 0) from by omega, show ¬ (((4 : Nat) : Int) = 1) from by omega, show ¬ (((4 : Nat) : Int) = 2) from by omega, show ¬ (((4 : Nat) : Int) = 3) from by omega, show (((4 : Nat) : Int) = 4) from by omega, decide_true, decide_false, zq18, zq19, zq20, zq21, zq22, zq23, zq24, zq25, zq26, zq27, zq28, zq4, zq3, zq1, zq2, zq0, zq29, zq30, zq14, zq15, zq16, zq17, zq13, zq10, zq12, zq11, zq7, zq5, zq6, zq9, zq8, zq31, zq32, ite_T, ite_F, zq33, zq34, zq35, Nat.reduceEqDiff, len22, len24, fa26_0, fa26_1, fa26_2, len27, fa33_0, fa33_1, len35, fa114_0, fa114_1, fa114_2, fa124_0, fa124_1, len134, len154, fa156_0, fa156_1, fa156_2, fa156_3, fa156_4, fa156_5, fa156_6, fa200_0, fa200_1, fa200_2, fa200_3]
    refine do_build_of u27 inf3 (cells := ints [0]) (by decide) (by decide) (by simp [Instr.fill, madeCells, Value.cells, rng1, ints]) rfl fun c0 v0 _ _ g0 _ r0 => ?_
    have i0 : IntsF (fun b => wA.heap.size ≤ b) v0 (some ⟨c0, 0, none⟩) [0] := (IntsF.of_own (r0 _ (Nat.le_refl _))).mono fun b hb => Nat.le_trans (Gr.refl wA).size hb.1
    have G0 := g0
    rw [bd33 (cells := #[.int .i64 0, .slice (some ⟨c0, 0, none⟩) 1 1]) rfl]
    refine do_build_of u27 inf3 (cells := ints [1]) (by decide) (by decide) (by simp [Instr.fill, madeCells, Value.cells, rng1, ints]) rfl fun c1 v1 _ _ g1 _ r1 => ?_
    have i1 : IntsF (fun b => wA.heap.size ≤ b) v1 (some ⟨c1, 0, none⟩) [1] := (IntsF.of_own (r1 _ (Nat.le_refl _))).mono fun b hb => Nat.le_trans G0.size hb.1
    have G1 := gr_trans G0 g1
    rw [bd33 (cells := #[.int .i64 0, .slice (some ⟨c1, 0, none⟩) 1 1]) rfl]
    refine do_build_of u27 inf3 (cells := ints [0, 1]) (by decide) (by decide) (by simp [Instr.fill, madeCells, Value.cells, rng2, ints]) rfl fun c2 v2 _ _ g2 _ r2 => ?_
    have i2 : IntsF (fun b => wA.heap.size ≤ b) v2 (some ⟨c2, 0, none⟩) [0, 1] := (IntsF.of_own (r2 _ (Nat.le_refl _))).mono fun b hb => Nat.le_trans G1.size hb.1
    have G2 := gr_trans G1 g2
    rw [bd33 (cells := #[.int .i64 1, .slice (some ⟨c2, 0, none⟩) 2 2]) rfl]
    refine do_build_of u27 inf3 (cells := ints [-1]) (by decide) (by decide) (by simp [Instr.fill, madeCells, Value.cells, rng1, ints]) rfl fun c3 v3 _ _ g3 _ r3 => ?_
    have i3 : IntsF (fun b => wA.heap.size ≤ b) v3 (some ⟨c3, 0, none⟩) [-1] := (IntsF.of_own (r3 _ (Nat.le_refl _))).mono fun b hb => Nat.le_trans G2.size hb.1
    have G3 := gr_trans G2 g3
    rw [bd33 (cells := #[.int .i64 1, .slice (some ⟨c3, 0, none⟩) 1 1]) rfl]
    rw [bd33 (cells := #[.int .i64 1, .slice none 0 0]) rfl]
    refine do_build_of u24 inf33 (cells := [.int .i64 0, .slice (some ⟨c0, 0, none⟩) 1 1, .int .i64 0, .slice (some ⟨c1, 0, none⟩) 1 1, .int .i64 1, .slice (some ⟨c2, 0, none⟩) 2 2, .int .i64 1, .slice (some ⟨c3, 0, none⟩) 1 1, .int .i64 1, .slice none 0 0]) (by decide) (by decide) (by simp [Instr.fill, madeCells, Value.cells, rng10]) rfl fun bX wB hX1 _ gB _ rB => ?_
    rw [bd26 (cells := #[.int .i64 2, .int .i64 1, .slice (some ⟨bX, 0, none⟩) 5 5]) rfl]
    have j0 := ((ltF (((i0.gr g1).gr g2).gr g3)).gr gB).mono (E := fun q => wA.heap.size ≤ q ∧ blk (some (⟨bX, 0, none⟩ : Addr)) ≠ some q) fun q hq => ⟨hq.1, fun e => absurd hq.2 (by have := Option.some.inj (show some bX = some q from e); omega)⟩
    have j1 := ((ltF ((i1.gr g2).gr g3)).gr gB).mono (E := fun q => wA.heap.size ≤ q ∧ blk (some (⟨bX, 0, none⟩ : Addr)) ≠ some q) fun q hq => ⟨hq.1, fun e => absurd hq.2 (by have := Option.some.inj (show some bX = some q from e); omega)⟩
    have j2 := ((ltF (i2.gr g3)).gr gB).mono (E := fun q => wA.heap.size ≤ q ∧ blk (some (⟨bX, 0, none⟩ : Addr)) ≠ some q) fun q hq => ⟨hq.1, fun e => absurd hq.2 (by have := Option.some.inj (show some bX = some q from e); omega)⟩
    have j3 := ((ltF i3).gr gB).mono (E := fun q => wA.heap.size ≤ q ∧ blk (some (⟨bX, 0, none⟩ : Addr)) ≠ some q) fun q hq => ⟨hq.1, fun e => absurd hq.2 (by have := Option.some.inj (show some bX = some q from e); omega)⟩
    exact fin wB bX 5 ⟨2, 1, [(0, [0]), (0, [1]), (1, [0, 1]), (1, [-1]), (1, [])]⟩ _ ⟨⟨by decide, by decide⟩, ⟨by decide, by decide⟩, by decide, by decide⟩ (gr_trans G3 gB) (rB _ G3.size) (.cons (r := (0, [0])) (Nat.le_refl _) j0 (.cons (r := (0, [1])) (Nat.le_refl _) j1 (.cons (r := (1, [0, 1])) (Nat.le_refl _) j2 (.cons (r := (1, [-1])) (Nat.le_refl _) j3 (.cons (r := (1, [])) (Nat.le_refl _) (nilF _ _) .nil)))))
  · simp only [show ¬ (((5 : Nat) : Int) = 0) from by omega, show ¬ (((5 : Nat) : Int) = 1) from by omega, show ¬ (((5 : Nat) : Int) = 2) from by omega, show ¬ (((5 : Nat) : Int) = 3) from by omega, show ¬ (((5 : Nat) : Int) = 4) from by omega, show (((5 : Nat) : Int) = 5) from by omega, decide_true, decide_false, zq18, zq19, zq20, zq21, zq22, zq23, zq24, zq25, zq26, zq27, zq28, zq4, zq3, zq1, zq2, zq0, zq29, zq30, zq14, zq15, zq16, zq17, zq13, zq10, zq12, zq11, zq7, zq5, zq6, zq9, zq8, zq31, zq32, ite_T, ite_F, zq33, zq34, zq35, Nat.reduceEqDiff, len22, len24, fa26_0, fa26_1, fa26_2, len27, fa33_0, fa33_1, len35, fa114_0, fa114_1, fa114_2, fa124_0, fa124_1, len134, len154, fa156_0, fa156_1, fa156_2, fa156_3, fa156_4, fa156_5, fa156_6, fa200_0, fa200_1, fa200_2, fa200_3]
    refine do_build_of u27 inf3 (cells := ints [-1, 0, -1]) (by decide) (by decide) (by simp [Instr.fill, madeCells, Value.cells, rng3, ints]) rfl fun c0 v0 _ _ g0 _ r0 => ?_
    have i0 : IntsF (fun b => wA.heap.size ≤ b) v0 (some ⟨c0, 0, none⟩) [-1, 0, -1] := (IntsF.of_own (r0 _ (Nat.le_refl _))).mono fun b hb => Nat.le_trans (Gr.refl wA).size hb.1
    have G0 := g0
    rw [bd33 (cells := #[.int .i64 0, .slice (some ⟨c0, 0, none⟩) 3 3]) rfl]
    refine do_build_of u27 inf3 (cells := ints [-2, 0, -2]) (by decide) (by decide) (by simp [Instr.fill, madeCells, Value.cells, rng3, ints]) rfl fun c1 v1 _ _ g1 _ r1 => ?_
    have i1 : IntsF (fun b => wA.heap.size ≤ b) v1 (some ⟨c1, 0, none⟩) [-2, 0, -2] := (IntsF.of_own (r1 _ (Nat.le_refl _))).mono fun b hb => Nat.le_trans G0.size hb.1
    have G1 := gr_trans G0 g1
    rw [bd33 (cells := #[.int .i64 0, .slice (some ⟨c1, 0, none⟩) 3 3]) rfl]
    refine do_build_of u27 inf3 (cells := ints [-1]) (by decide) (by decide) (by simp [Instr.fill, madeCells, Value.cells, rng1, ints]) rfl fun c2 v2 _ _ g2 _ r2 => ?_
    have i2 : IntsF (fun b => wA.heap.size ≤ b) v2 (some ⟨c2, 0, none⟩) [-1] := (IntsF.of_own (r2 _ (Nat.le_refl _))).mono fun b hb => Nat.le_trans G1.size hb.1
    have G2 := gr_trans G1 g2
    rw [bd33 (cells := #[.int .i64 0, .slice (some ⟨c2, 0, none⟩) 1 1]) rfl]
    refine do_build_of u27 inf3 (cells := ints [-2]) (by decide) (by decide) (by simp [Instr.fill, madeCells, Value.cells, rng1, ints]) rfl fun c3 v3 _ _ g3 _ r3 => ?_
    have i3 : IntsF (fun b => wA.heap.size ≤ b) v3 (some ⟨c3, 0, none⟩) [-2] := (IntsF.of_own (r3 _ (Nat.le_refl _))).mono fun b hb => Nat.le_trans G2.size hb.1
    have G3 := gr_trans G2 g3
    rw [bd33 (cells := #[.int .i64 0, .slice (some ⟨c3, 0, none⟩) 1 1]) rfl]
    rw [bd33 (cells := #[.int .i64 0, .slice none 0 0]) rfl]
    refine do_build_of u24 inf33 (cells := [.int .i64 0, .slice (some ⟨c0, 0, none⟩) 3 3, .int .i64 0, .slice (some ⟨c1, 0, none⟩) 3 3, .int .i64 0, .slice (some ⟨c2, 0, none⟩) 1 1, .int .i64 0, .slice (some ⟨c3, 0, none⟩) 1 1, .int .i64 0, .slice none 0 0]) (by decide) (by decide) (by simp [Instr.fill, madeCells, Value.cells, rng10]) rfl fun bX wB hX1 _ gB _ rB => ?_
    rw [bd26 (cells := #[.int .i64 1, .int .i64 2, .slice (some ⟨bX, 0, none⟩) 5 5]) rfl]
    have j0 := ((ltF (((i0.gr g1).gr g2).gr g3)).gr gB).mono (E := fun q => wA.heap.size ≤ q ∧ blk (some (⟨bX, 0, none⟩ : Addr)) ≠ some q) fun q hq => ⟨hq.1, fun e => absurd hq.2 (by have := Option.some.inj (show some bX = some q from e); omega)⟩
    have j1 := ((ltF ((i1.gr g2).gr g3)).gr gB).mono (E := fun q => wA.heap.size ≤ q ∧ blk (some (⟨bX, 0, none⟩ : Addr)) ≠ some q) fun q hq => ⟨hq.1, fun e => absurd hq.2 (by have := Option.some.inj (show some bX = some q from e); omega)⟩
    have j2 := ((ltF (i2.gr g3)).gr gB).mono (E := fun q => wA.heap.size ≤ q ∧ blk (some (⟨bX, 0, none⟩ : Addr)) ≠ some q) fun q hq => ⟨hq.1, fun e => absurd hq.2 (by have := Option.some.inj (show some bX = some q from e); omega)⟩
    have j3 := ((ltF i3).gr gB).mono (E := fun q => wA.heap.size ≤ q ∧ blk (some (⟨bX, 0, none⟩ : Addr)) ≠ some q) fun q hq => ⟨hq.1, fun e => absurd hq.2 (by have := Option.some.inj (show some bX = some q from e); omega)⟩
    exact fin wB bX 5 ⟨1, 2, [(0, [-1, 0, -1]), (0, [-2, 0, -2]), (0, [-1]), (0, [-2]), (0, [])]⟩ _ ⟨⟨by decide, by decide⟩, ⟨by decide, by decide⟩, by decide, by decide⟩ (gr_trans G3 gB) (rB _ G3.size) (.cons (r := (0, [-1, 0, -1])) (Nat.le_refl _) j0 (.cons (r := (0, [-2, 0, -2])) (Nat.le_refl _) j1 (.cons (r := (0, [-1])) (Nat.le_refl _) j2 (.cons (r := (0, [-2])) (Nat.le_refl _) j3 (.cons (r := (0, [])) (Nat.le_refl _) (nilF _ _) .nil)))))
  · simp only [show ¬ (((6 : Nat) : Int) = 0) from by omega, show ¬ (((6 : Nat) : Int) = 1) from by omega, show ¬ (((6 : Nat) : Int) = 2) from by omega, show ¬ (((6 : Nat) : Int) = 3) from by omega, show ¬ (((6 : Nat) : Int) = 4) from by omega, show ¬ (((6 : Nat) : Int) = 5) from by omega, show (((6 : Nat) : Int) = 6) from by omega, decide_true, decide_false, zq18, zq19, zq20, zq21, zq22, zq23, zq24, zq25, zq26, zq27, zq28, zq4, zq3, zq1, zq2, zq0, zq29, zq30, zq14, zq15, zq16, zq17, zq13, zq10, zq12, zq11, zq7, zq5, zq6, zq9, zq8, zq31, zq32, ite_T, ite_F, zq33, zq34, zq35, Nat.reduceEqDiff, len22, len24, fa26_0, fa26_1, fa26_2, len27, fa33_0, fa33_1, len35, fa114_0, fa114_1, fa114_2, fa124_0, fa124_1, len134, len154, fa156_0, fa156_1, fa156_2, fa156_3, fa156_4, fa156_5, fa156_6, fa200_0, fa200_1, fa200_2, fa200_3]
    refine do_build_of u27 inf3 (cells := ints [1, 2]) (by decide) (by decide) (by simp [Instr.fill, madeCells, Value.cells, rng2, ints]) rfl fun c0 v0 _ _ g0 _ r0 => ?_
    have i0 : IntsF (fun b => wA.heap.size ≤ b) v0 (some ⟨c0, 0, none⟩) [1, 2] := (IntsF.of_own (r0 _ (Nat.le_refl _))).mono fun b hb => Nat.le_trans (Gr.refl wA).size hb.1
    have G0 := g0
    rw [bd33 (cells := #[.int .i64 0, .slice (some ⟨c0, 0, none⟩) 2 2]) rfl]
    refine do_build_of u27 inf3 (cells := ints [-1, 1]) (by decide) (by decide) (by simp [Instr.fill, madeCells, Value.cells, rng2, ints]) rfl fun c1 v1 _ _ g1 _ r1 => ?_
    have i1 : IntsF (fun b => wA.heap.size ≤ b) v1 (some ⟨c1, 0, none⟩) [-1, 1] := (IntsF.of_own (r1 _ (Nat.le_refl _))).mono fun b hb => Nat.le_trans G0.size hb.1
    have G1 := gr_trans G0 g1
    rw [bd33 (cells := #[.int .i64 1, .slice (some ⟨c1, 0, none⟩) 2 2]) rfl]
    rw [bd33 (cells := #[.int .i64 1, .slice none 0 0]) rfl]
    refine do_build_of u27 inf3 (cells := ints [-2, 2]) (by decide) (by decide) (by simp [Instr.fill, madeCells, Value.cells, rng2, ints]) rfl fun c3 v3 _ _ g3 _ r3 => ?_
    have i3 : IntsF (fun b => wA.heap.size ≤ b) v3 (some ⟨c3, 0, none⟩) [-2, 2] := (IntsF.of_own (r3 _ (Nat.le_refl _))).mono fun b hb => Nat.le_trans G1.size hb.1
    have G3 := gr_trans G1 g3
    rw [bd33 (cells := #[.int .i64 2, .slice (some ⟨c3, 0, none⟩) 2 2]) rfl]
    rw [bd33 (cells := #[.int .i64 2, .slice none 0 0]) rfl]
    refine do_build_of u24 inf33 (cells := [.int .i64 0, .slice (some ⟨c0, 0, none⟩) 2 2, .int .i64 1, .slice (some ⟨c1, 0, none⟩) 2 2, .int .i64 1, .slice none 0 0, .int .i64 2, .slice (some ⟨c3, 0, none⟩) 2 2, .int .i64 2, .slice none 0 0]) (by decide) (by decide) (by simp [Instr.fill, madeCells, Value.cells, rng10]) rfl fun bX wB hX1 _ gB _ rB => ?_
    rw [bd26 (cells := #[.int .i64 3, .int .i64 2, .slice (some ⟨bX, 0, none⟩) 5 5]) rfl]
    have j0 := ((ltF ((i0.gr g1).gr g3)).gr gB).mono (E := fun q => wA.heap.size ≤ q ∧ blk (some (⟨bX, 0, none⟩ : Addr)) ≠ some q) fun q hq => ⟨hq.1, fun e => absurd hq.2 (by have := Option.some.inj (show some bX = some q from e); omega)⟩
    have j1 := ((ltF (i1.gr g3)).gr gB).mono (E := fun q => wA.heap.size ≤ q ∧ blk (some (⟨bX, 0, none⟩ : Addr)) ≠ some q) fun q hq => ⟨hq.1, fun e => absurd hq.2 (by have := Option.some.inj (show some bX = some q from e); omega)⟩
    have j3 := ((ltF i3).gr gB).mono (E := fun q => wA.heap.size ≤ q ∧ blk (some (⟨bX, 0, none⟩ : Addr)) ≠ some q) fun q hq => ⟨hq.1, fun e => absurd hq.2 (by have := Option.some.inj (show some bX = some q from e); omega)⟩
    exact fin wB bX 5 ⟨3, 2, [(0, [1, 2]), (1, [-1, 1]), (1, []), (2, [-2, 2]), (2, [])]⟩ _ ⟨⟨by decide, by decide⟩, ⟨by decide, by decide⟩, by decide, by decide⟩ (gr_trans G3 gB) (rB _ G3.size) (.cons (r := (0, [1, 2])) (Nat.le_refl _) j0 (.cons (r := (1, [-1, 1])) (Nat.le_refl _) j1 (.cons (r := (1, [])) (Nat.le_refl _) (nilF _ _) (.cons (r := (2, [-2, 2])) (Nat.le_refl _) j3 (.cons (r := (2, [])) (Nat.le_refl _) (nilF _ _) .nil)))))
  · simp only [show ¬ (((7 : Nat) : Int) = 0) from by omega, show ¬ (((7 : Nat) : Int) = 1) from by omega, show ¬ (((7 : Nat) : Int) = 2) from by omega, show ¬ (((7 : Nat) : Int) = 3) from by omega, show ¬ (((7 : Nat) : Int) = 4) from by omega, show ¬ (((7 : Nat) : Int) = 5) from by omega, show ¬ (((7 : Nat) : Int) = 6) from by omega, decide_true, decide_false, zq18, zq19, zq20, zq21, zq22, zq23, zq24, zq25, zq26, zq27, zq28, zq4, zq3, zq1, zq2, zq0, zq29, zq30, zq14, zq15, zq16, zq17, zq13, zq10, zq12, zq11, zq7, zq5, zq6, zq9, zq8, zq31, zq32, ite_T, ite_F, zq33, zq34, zq35, Nat.reduceEqDiff, len22, len24, fa26_0, fa26_1, fa26_2, len27, fa33_0, fa33_1, len35, fa114_0, fa114_1, fa114_2, fa124_0, fa124_1, len134, len154, fa156_0, fa156_1, fa156_2, fa156_3, fa156_4, fa156_5, fa156_6, fa200_0, fa200_1, fa200_2, fa200_3]
    refine do_build_of u27 inf3 (cells := ints [0, 0]) (by decide) (by decide) (by simp [Instr.fill, madeCells, Value.cells, rng2, ints]) rfl fun c0 v0 _ _ g0 _ r0 => ?_
    have i0 : IntsF (fun b => wA.heap.size ≤ b) v0 (some ⟨c0, 0, none⟩) [0, 0] := (IntsF.of_own (r0 _ (Nat.le_refl _))).mono fun b hb => Nat.le_trans (Gr.refl wA).size hb.1
    have G0 := g0
    rw [bd33 (cells := #[.int .i64 0, .slice (some ⟨c0, 0, none⟩) 2 2]) rfl]
    refine do_build_of u27 inf3 (cells := ints [-1]) (by decide) (by decide) (by simp [Instr.fill, madeCells, Value.cells, rng1, ints]) rfl fun c1 v1 _ _ g1 _ r1 => ?_
    have i1 : IntsF (fun b => wA.heap.size ≤ b) v1 (some ⟨c1, 0, none⟩) [-1] := (IntsF.of_own (r1 _ (Nat.le_refl _))).mono fun b hb => Nat.le_trans G0.size hb.1
    have G1 := gr_trans G0 g1
    rw [bd33 (cells := #[.int .i64 0, .slice (some ⟨c1, 0, none⟩) 1 1]) rfl]
    refine do_build_of u27 inf3 (cells := ints [-2, 1]) (by decide) (by decide) (by simp [Instr.fill, madeCells, Value.cells, rng2, ints]) rfl fun c2 v2 _ _ g2 _ r2 => ?_
    have i2 : IntsF (fun b => wA.heap.size ≤ b) v2 (some ⟨c2, 0, none⟩) [-2, 1] := (IntsF.of_own (r2 _ (Nat.le_refl _))).mono fun b hb => Nat.le_trans G1.size hb.1
    have G2 := gr_trans G1 g2
    rw [bd33 (cells := #[.int .i64 1, .slice (some ⟨c2, 0, none⟩) 2 2]) rfl]
    refine do_build_of u24 inf33 (cells := [.int .i64 0, .slice (some ⟨c0, 0, none⟩) 2 2, .int .i64 0, .slice (some ⟨c1, 0, none⟩) 1 1, .int .i64 1, .slice (some ⟨c2, 0, none⟩) 2 2]) (by decide) (by decide) (by simp [Instr.fill, madeCells, Value.cells, rng6]) rfl fun bX wB hX1 _ gB _ rB => ?_
    rw [bd26 (cells := #[.int .i64 2, .int .i64 2, .slice (some ⟨bX, 0, none⟩) 3 3]) rfl]
    have j0 := ((ltF ((i0.gr g1).gr g2)).gr gB).mono (E := fun q => wA.heap.size ≤ q ∧ blk (some (⟨bX, 0, none⟩ : Addr)) ≠ some q) fun q hq => ⟨hq.1, fun e => absurd hq.2 (by have := Option.some.inj (show some bX = some q from e); omega)⟩
    have j1 := ((ltF (i1.gr g2)).gr gB).mono (E := fun q => wA.heap.size ≤ q ∧ blk (some (⟨bX, 0, none⟩ : Addr)) ≠ some q) fun q hq => ⟨hq.1, fun e => absurd hq.2 (by have := Option.some.inj (show some bX = some q from e); omega)⟩
    have j2 := ((ltF i2).gr gB).mono (E := fun q => wA.heap.size ≤ q ∧ blk (some (⟨bX, 0, none⟩ : Addr)) ≠ some q) fun q hq => ⟨hq.1, fun e => absurd hq.2 (by have := Option.some.inj (show some bX = some q from e); omega)⟩
    exact fin wB bX 3 ⟨2, 2, [(0, [0, 0]), (0, [-1]), (1, [-2, 1])]⟩ _ ⟨⟨by decide, by decide⟩, ⟨by decide, by decide⟩, by decide, by decide⟩ (gr_trans G2 gB) (rB _ G2.size) (.cons (r := (0, [0, 0])) (Nat.le_refl _) j0 (.cons (r := (0, [-1])) (Nat.le_refl _) j1 (.cons (r := (1, [-2, 1])) (Nat.le_refl _) j2 .nil)))
end
end Go.Proofs.Ytegcjkhebecgbaa

/- Contracts: a rule comes to others once; grammars that are drawn (l1Put2, grammar, anyGrammar). -/
set_option linter.unusedVariables false
set_option linter.unusedSimpArgs false
set_option maxRecDepth 100000
namespace Go.Proofs.Ytegcjkhebecgbaa
open Go Go.Sh Go.RowKit
section
variable {w0 w : World} {L E : List Thing} {bc N : Nat} {C : Option Addr} {cap : Nat} {bs : List Int} {k : Value → World → Prop}
theorem curMore {n m : Nat} {cv : Value} (H : Apt w0 w (cur bc cv n :: E)) (h : n ≤ m) : Apt w0 w (cur bc cv m :: E) := by
  obtain ⟨a, s, h0, h1, H⟩ := H.openCur 0 rfl
  simp only [List.set_cons_zero] at H
  have H := H.shutCur (N := m) 0 rfl h0 (by omega)
  simpa only [List.set_cons_zero] using H
theorem nilGow {e : Nat} (H : Apt w0 w L) : Apt w0 w (L ++ [gow e (fun _ => False) none 0 []]) :=
  H.add (Gr.refl w) _ (fun q hq => by rcases hq with hq | hq; cases hq; exact hq.elim) (fun q hq => by rcases hq with hq | hq; cases hq; exact hq.elim) (gow_kept (B := 0) ⟨[], Row.nil _ _ _ _, .nil⟩)
theorem set_same {i : Nat} {a : Thing} (hi : L[i]? = some a) : L.set i a = L := by
  obtain ⟨h, e⟩ := List.getElem?_eq_some_iff.1 hi
  rw [← e, List.set_getElem_self]
theorem forget (H : Apt w0 w L) (j : Nat) {a : Thing} (hj : L[j]? = some a) : Apt w0 w (L.set j emp) :=
  H.weaken j hj (fun q hq => hq.elim) (fun _ _ _ => trivial) fun _ _ _ _ => trivial
theorem blk_ad {w : World} {B e sz n c : Nat} {X : Option Addr} {cells : List Value} (h : Row w B e sz X n c cells) (hn : 0 < n) : blk X = some (ad X).block := by
  have := h.ptr hn
  conv => lhs; rw [this]
  rfl
set_option maxHeartbeats 1600000 in
theorem put2_c (H : Apt w0 w L) (i j : Nat) (hij : i ≠ j) {X Y : Option Addr} {c d : Nat} {rs : List RuleL} {r : RuleL} {ft : Nat → Prop} (hi : L[i]? = some (gth ft X c rs)) (hj : L[j]? = some (ows Y d r.2)) (hl : rs.length ≤ 1000)
    (hk : ∀ w' ft' X' c' rs', (rs' = rs ∧ 0 < rs.length ∨ rs' = rs ++ [r]) → Apt w0 w' ((L.set i (gth ft' X' c' rs')).set j emp) → k (.slice X' (List.length rs') c') w') :
    CallK Try.prog 304 [.slice X rs.length c, .agg #[.int .i64 r.1, .slice Y r.2.length d]] k w := by
  refine enter304 ?_
  unfold S304
  refine do_box fun b1 w1 g1 hb1 hB1 => ?_
  have H := H.step g1
  have hR := (H.gow i hi).read
  have hY := H.own j hj
  simp only [zq18, zq19, zq20, zq21, zq22, zq23, zq24, zq25, zq26, zq27, zq28, zq4, zq3, zq1, zq2, zq0, zq29, zq30, zq14, zq15, zq16, zq17, zq13, zq10, zq12, zq11, zq7, zq5, zq6, zq9, zq8, zq31, zq32, ite_T, ite_F, zq33, zq34, zq35, Nat.reduceEqDiff, len22, len24, fa26_0, fa26_1, fa26_2, len27, fa33_0, fa33_1, len35, fa114_0, fa114_1, fa114_2, fa124_0, fa124_1, len134, len154, fa156_0, fa156_1, fa156_2, fa156_3, fa156_4, fa156_5, fa156_6, fa200_0, fa200_1, fa200_2, fa200_3]
  refine loop_to rs.length 0 (fun q f w' => q ≤ rs.length ∧ f 9 = .int .i64 q ∧ Gr w1 w') ⟨Nat.zero_le _, rfl, Gr.refl _⟩ ?_
  rintro q f w2 NN hag ⟨hq, h9, g2⟩ hN
  have f0 : f 0 = .slice X rs.length c := hag 0 (by decide)
  have f3 : f 3 = ptrv b1 := hag 3 (by decide)
  have f7 : f 7 = .slice X rs.length c := hag 7 (by decide)
  have f8 : f 8 = .int .i64 rs.length := hag 8 (by decide)
  simp only [f0, f3, f7, f8, h9, zq18, zq19, zq20, zq21, zq22, zq23, zq24, zq25, zq26, zq27, zq28, zq4, zq3, zq1, zq2, zq0, zq29, zq30, zq14, zq15, zq16, zq17, zq13, zq10, zq12, zq11, zq7, zq5, zq6, zq9, zq8, zq31, zq32, ite_T, ite_F, zq33, zq34, zq35, Nat.reduceEqDiff, len22, len24, fa26_0, fa26_1, fa26_2, len27, fa33_0, fa33_1, len35, fa114_0, fa114_1, fa114_2, fa124_0, fa124_1, len134, len154, fa156_0, fa156_1, fa156_2, fa156_3, fa156_4, fa156_5, fa156_6, fa200_0, fa200_1, fa200_2, fa200_3]
  have H2 := H.step g2
  have hB2 := hB1.gr g2
  by_cases hlt : q < rs.length
  case neg =>
    simp only [show ¬ ((q : Int) < rs.length) from by omega, decide_false, zq18, zq19, zq20, zq21, zq22, zq23, zq24, zq25, zq26, zq27, zq28, zq4, zq3, zq1, zq2, zq0, zq29, zq30, zq14, zq15, zq16, zq17, zq13, zq10, zq12, zq11, zq7, zq5, zq6, zq9, zq8, zq31, zq32, ite_T, ite_F, zq33, zq34, zq35, Nat.reduceEqDiff, len22, len24, fa26_0, fa26_1, fa26_2, len27, fa33_0, fa33_1, len35, fa114_0, fa114_1, fa114_2, fa124_0, fa124_1, len134, len154, fa156_0, fa156_1, fa156_2, fa156_3, fa156_4, fa156_5, fa156_6, fa200_0, fa200_1, fa200_2, fa200_3]
    rw [ldB_agg agg33 sz33 rfl hB2]
    refine do_build_of u24 inf33 (cells := [.int .i64 r.1, .slice Y r.2.length d]) (by decide) (by decide) (by simp [Instr.fill, madeCells, Value.cells, rng1, rng2]) rfl fun b5 w5 hb5 hb6 g5 _ r5 => ?_
    have H5 := H2.step g5
    obtain ⟨cells, hrow, hrc⟩ := H5.gow i hi
    have hY5 := H5.own j hj
    have hXY : ∀ q, blk Y = some q → blk X ≠ some q := fun q hq e => H5.two i j _ _ hij hi hj q (.inl e) hq
    refine do_append2 u24 inf33 rfl (by decide) hrow (Row.src (r5 _ (Nat.le_refl _))) rfl (by intro v hv; simp at hv; rcases hv with rfl | rfl <;> rfl) (by omega) (by omega) (Nat.zero_le _) fun X' c' w' hr' hg hmv => ?_
    have hnew : ∀ q, q < w5.heap.size → blk X ≠ some q → blk X' ≠ some q := fun q hq hn e => by
      rcases hmv with h1 | h1
      · exact hn (h1 ▸ e)
      · have := h1 q e
        omega
    have hrc2 : RuleCells (fun q => (ft q ∨ blk Y = some q) ∧ blk X' ≠ some q) w' (rs ++ [r]) (cells ++ [.int .i64 r.1, .slice Y r.2.length d]) := by
      refine RuleCells.append ((hrc.lt.same fun q hq => hg.block q hq.2 fun e => hq.1.2 e.symm).mono fun q hq => ⟨.inl hq.1.1, hnew q hq.2 hq.1.2⟩) (.cons (Row.cap hY5).1 ?_ .nil)
      have hf : IntsF (fun q => blk Y = some q ∧ q < w5.heap.size) w5 Y r.2 := ⟨Own.ints hY5, fun hp => ⟨blk_ad hY5 hp, ((IntsF.of_own hY5).foot hp).2⟩⟩
      exact (hf.same' fun q hq => hg.block q hq.2 fun e => hXY q hq.1 e.symm).mono fun q hq => ⟨.inr hq.1, hnew q hq.2 (hXY q hq.1)⟩
    have hlen : rs.length + 1 = (rs ++ [r]).length := by simp
    rw [hlen] at hr' ⊢
    refine hk w' (fun q => ft q ∨ blk Y = some q) X' c' (rs ++ [r]) (.inr rfl) (H5.join (it := gth (fun q => ft q ∨ blk Y = some q) X' c' (rs ++ [r])) hij hi hj (gx_of hg fun q hq => .inl (.inl hq)) (fun q hq => ?_) (fun q hq => ?_) (gow_kept ⟨_, hr', hrc2⟩))
    · rcases hq with hq | hq | hq
      · rcases hmv with e | e
        · exact .inl (.inl (e ▸ hq))
        · exact .inr (.inr (e q hq))
      · exact .inl (.inr hq)
      · exact .inr (.inl hq)
    · rcases hq with hq | hq | hq
      · exact (hr'.ge hq).2
      · exact Nat.lt_of_lt_of_le ((H5.ok i _ hi).hi q (.inr hq)) hg.size
      · exact Nat.lt_of_lt_of_le ((H5.ok j _ hj).hi q hq) hg.size
  simp only [show ((q : Int) < rs.length) from by omega, decide_true, zq18, zq19, zq20, zq21, zq22, zq23, zq24, zq25, zq26, zq27, zq28, zq4, zq3, zq1, zq2, zq0, zq29, zq30, zq14, zq15, zq16, zq17, zq13, zq10, zq12, zq11, zq7, zq5, zq6, zq9, zq8, zq31, zq32, ite_T, ite_F, zq33, zq34, zq35, Nat.reduceEqDiff, len22, len24, fa26_0, fa26_1, fa26_2, len27, fa33_0, fa33_1, len35, fa114_0, fa114_1, fa114_2, fa124_0, fa124_1, len134, len154, fa156_0, fa156_1, fa156_2, fa156_3, fa156_4, fa156_5, fa156_6, fa200_0, fa200_1, fa200_2, fa200_3]
  obtain ⟨Z, cz, t1, t2, t3, t4⟩ := hR.row q hlt
  refine rdi (ixn24 hR.ptr hlt) ?_
  rw [ld_agg agg33 sz33 (cs := [.int .i64 (rul rs q).1, .slice Z (rul rs q).2.length cz]) rfl (fun j hj => by
    match j, hj with
    | 0, _ => rw [add_add, Nat.add_zero]; exact g2.cell t1
    | 1, _ => rw [add_add]; exact g2.cell t2)]
  have G := Apt.nil w2
  refine allocH G inf33 fun b4 w4 G => ?_
  simp only [List.nil_append] at G
  refine storeH G 0 rfl sz33 rfl rfl rfl fun w5 G => ?_
  simp only [List.set_cons_zero] at G
  rw [ldB_agg agg33 sz33 rfl (hB2.gr G.gr), ldB_agg agg33 sz33 rfl (G.box 0 rfl)]
  refine l1SameRule_c (F := fun _ => True) (E := fun _ => True) (r := r) (q := rul rs q) ⟨Y, d, rfl, (Row.cap hY).1, ⟨(Own.ints hY).gr (gr_trans g2 G.gr), fun _ => trivial⟩⟩ ⟨Z, cz, rfl, t3, (t4.gr (gr_trans g2 G.gr)).mono fun _ _ => trivial⟩ fun w6 g6 => ?_
  have g26 := gr_trans g2 (gr_trans G.gr g6)
  by_cases he : r = rul rs q
  · rw [decide_eq_true he]
    simp only [zq18, zq19, zq20, zq21, zq22, zq23, zq24, zq25, zq26, zq27, zq28, zq4, zq3, zq1, zq2, zq0, zq29, zq30, zq14, zq15, zq16, zq17, zq13, zq10, zq12, zq11, zq7, zq5, zq6, zq9, zq8, zq31, zq32, ite_T, ite_F, zq33, zq34, zq35, Nat.reduceEqDiff, len22, len24, fa26_0, fa26_1, fa26_2, len27, fa33_0, fa33_1, len35, fa114_0, fa114_1, fa114_2, fa124_0, fa124_1, len134, len154, fa156_0, fa156_1, fa156_2, fa156_3, fa156_4, fa156_5, fa156_6, fa200_0, fa200_1, fa200_2, fa200_3]
    have H6 := forget (H.step g26) j hj
    have := hk w6 ft X c rs (.inl ⟨rfl, by omega⟩)
    rw [set_same hi] at this
    exact this H6
  · rw [decide_eq_false he]
    simp only [zq18, zq19, zq20, zq21, zq22, zq23, zq24, zq25, zq26, zq27, zq28, zq4, zq3, zq1, zq2, zq0, zq29, zq30, zq14, zq15, zq16, zq17, zq13, zq10, zq12, zq11, zq7, zq5, zq6, zq9, zq8, zq31, zq32, ite_T, ite_F, zq33, zq34, zq35, Nat.reduceEqDiff, len22, len24, fa26_0, fa26_1, fa26_2, len27, fa33_0, fa33_1, len35, fa114_0, fa114_1, fa114_2, fa124_0, fa124_1, len134, len154, fa156_0, fa156_1, fa156_2, fa156_3, fa156_4, fa156_5, fa156_6, fa200_0, fa200_1, fa200_2, fa200_3]
    rw [i64_of (by omega) (by omega)]
    exact hN _ _ hlt ⟨hlt, rfl, g26⟩
end
end Go.Proofs.Ytegcjkhebecgbaa

/- Contracts: grammars that are drawn (grammar, anyGrammar). -/
set_option linter.unusedVariables false
set_option linter.unusedSimpArgs false
set_option maxRecDepth 100000
namespace Go.Proofs.Ytegcjkhebecgbaa
open Go Go.Sh Go.RowKit
section
variable {w0 w : World} {E : List Thing} {bc N : Nat} {C : Option Addr} {cap : Nat} {bs : List Int} {k : Value → World → Prop}
set_option maxHeartbeats 6400000 in
theorem grammar_c (H : Apt w0 w (cur bc (.slice C bs.length cap) N :: E)) (hC : Byts w0 C bs) (hN : N ≤ 1000000) (hk : ∀ w' gm ft X c, Drawn 100 gm → Apt w0 w' (cur bc (.slice C bs.length cap) (N + 500) :: gth ft X c gm.rules :: E) → k (.agg #[.int .i64 gm.nons, .int .i64 gm.toks, .slice X gm.rules.length c]) w') :
    CallK Try.prog 246 [ptrv bc] k w := by
  refine enter246 ?_
  unfold S246
  refine allocH H inf26 fun b1 w1 H => ?_
  have H := H.insert 1
  simp only [List.take_succ_cons, List.take_zero, List.drop_succ_cons, List.drop_zero, List.nil_append, List.cons_append] at H
  refine one_c H 0 rfl hC (by omega) (by omega) fun w2 b H => ?_
  simp only [List.set_cons_zero] at H
  cases b
  case true =>
    simp only [zq18, zq19, zq20, zq21, zq22, zq23, zq24, zq25, zq26, zq27, zq28, zq4, zq3, zq1, zq2, zq0, zq29, zq30, zq14, zq15, zq16, zq17, zq13, zq10, zq12, zq11, zq7, zq5, zq6, zq9, zq8, zq31, zq32, ite_T, ite_F, zq33, zq34, zq35, Nat.reduceEqDiff, len22, len24, fa26_0, fa26_1, fa26_2, len27, fa33_0, fa33_1, len35, fa114_0, fa114_1, fa114_2, fa124_0, fa124_1, len134, len154, fa156_0, fa156_1, fa156_2, fa156_3, fa156_4, fa156_5, fa156_6, fa200_0, fa200_1, fa200_2, fa200_3]
    refine known_c H hC (by omega) fun w3 gm ft X c hd H => ?_
    refine storeH H 2 rfl sz26 rfl rfl rfl fun w4 H => ?_
    simp only [List.set_cons_zero, List.set_cons_succ] at H
    rw [rd_loadVar, ldB_agg agg26 sz26 rfl (H.box 2 rfl)]
    have H := H.erase 2
    simp only [List.eraseIdx_cons_zero, List.eraseIdx_cons_succ] at H
    exact hk w4 gm ft X c hd (curMore H (by omega))
  simp only [zq18, zq19, zq20, zq21, zq22, zq23, zq24, zq25, zq26, zq27, zq28, zq4, zq3, zq1, zq2, zq0, zq29, zq30, zq14, zq15, zq16, zq17, zq13, zq10, zq12, zq11, zq7, zq5, zq6, zq9, zq8, zq31, zq32, ite_T, ite_F, zq33, zq34, zq35, Nat.reduceEqDiff, len22, len24, fa26_0, fa26_1, fa26_2, len27, fa33_0, fa33_1, len35, fa114_0, fa114_1, fa114_2, fa124_0, fa124_1, len134, len154, fa156_0, fa156_1, fa156_2, fa156_3, fa156_4, fa156_5, fa156_6, fa200_0, fa200_1, fa200_2, fa200_3]
  refine pick_c H 0 rfl hC (by omega) (by omega) fun w3 a _ ha H => ?_
  simp only [List.set_cons_zero, zq18, zq19, zq20, zq21, zq22, zq23, zq24, zq25, zq26, zq27, zq28, zq4, zq3, zq1, zq2, zq0, zq29, zq30, zq14, zq15, zq16, zq17, zq13, zq10, zq12, zq11, zq7, zq5, zq6, zq9, zq8, zq31, zq32, ite_T, ite_F, zq33, zq34, zq35, Nat.reduceEqDiff, len22, len24, fa26_0, fa26_1, fa26_2, len27, fa33_0, fa33_1, len35, fa114_0, fa114_1, fa114_2, fa124_0, fa124_1, len134, len154, fa156_0, fa156_1, fa156_2, fa156_3, fa156_4, fa156_5, fa156_6, fa200_0, fa200_1, fa200_2, fa200_3] at H ⊢
  have ha := ha (by omega)
  refine pick_c H 0 rfl hC (by omega) (by omega) fun w4 t _ ht H => ?_
  simp only [List.set_cons_zero, zq18, zq19, zq20, zq21, zq22, zq23, zq24, zq25, zq26, zq27, zq28, zq4, zq3, zq1, zq2, zq0, zq29, zq30, zq14, zq15, zq16, zq17, zq13, zq10, zq12, zq11, zq7, zq5, zq6, zq9, zq8, zq31, zq32, ite_T, ite_F, zq33, zq34, zq35, Nat.reduceEqDiff, len22, len24, fa26_0, fa26_1, fa26_2, len27, fa33_0, fa33_1, len35, fa114_0, fa114_1, fa114_2, fa124_0, fa124_1, len134, len154, fa156_0, fa156_1, fa156_2, fa156_3, fa156_4, fa156_5, fa156_6, fa200_0, fa200_1, fa200_2, fa200_3] at H ⊢
  have ht := ht (by omega)
  rw [i64_of (n := 1 + (a : Int)) (by omega) (by omega), i64_of (n := 1 + (t : Int)) (by omega) (by omega)]
  rw [bd26 (cells := #[.int .i64 (1 + (a : Int)), .int .i64 (1 + (t : Int)), .slice none 0 0]) rfl]
  refine allocH H inf26 fun b2 w5 H => ?_
  have H := H.insert 1
  simp only [List.take_succ_cons, List.take_zero, List.drop_succ_cons, List.drop_zero, List.nil_append, List.cons_append] at H
  refine storeH H 1 rfl sz26 rfl rfl rfl fun w6 H => ?_
  simp only [List.set_cons_zero, List.set_cons_succ] at H
  refine pick_c H 0 rfl hC (by omega) (by omega) fun w7 n0 _ hn0 H => ?_
  simp only [List.set_cons_zero, zq18, zq19, zq20, zq21, zq22, zq23, zq24, zq25, zq26, zq27, zq28, zq4, zq3, zq1, zq2, zq0, zq29, zq30, zq14, zq15, zq16, zq17, zq13, zq10, zq12, zq11, zq7, zq5, zq6, zq9, zq8, zq31, zq32, ite_T, ite_F, zq33, zq34, zq35, Nat.reduceEqDiff, len22, len24, fa26_0, fa26_1, fa26_2, len27, fa33_0, fa33_1, len35, fa114_0, fa114_1, fa114_2, fa124_0, fa124_1, len134, len154, fa156_0, fa156_1, fa156_2, fa156_3, fa156_4, fa156_5, fa156_6, fa200_0, fa200_1, fa200_2, fa200_3] at H ⊢
  have hn0 := hn0 (by omega)
  rw [i64_of (n := 1 + (n0 : Int)) (by omega) (by omega)]
  have H := (nilGow (e := 33) H).insert 1
  simp only [List.take_succ_cons, List.take_zero, List.drop_succ_cons, List.drop_zero, List.nil_append, List.cons_append] at H
  refine loop_ghost (fun m f w' => m ≤ 1 + n0 ∧ f 4 = .int .i64 (m : Int) ∧ ∃ N' ft X c, ∃ rs : List RuleL, N' ≤ N + 20 + (1 + n0 - m) * 40 ∧ rs.length ≤ 1 + n0 - m ∧ (m < 1 + n0 → 0 < rs.length) ∧ Apt w0 w' (cur bc (.slice C bs.length cap) N' :: gth ft X c rs :: bx b2 [.int .i64 (1 + (a : Int)), .int .i64 (1 + (t : Int)), .slice X rs.length c] 26 :: bx b1 [.int .i64 0, .int .i64 0, .slice none 0 0] 26 :: E)) (fun m => m) (1 + n0)
    ⟨Nat.le_refl _, rfl, _, _, none, 0, [], by omega, by simp, fun h => by omega, H⟩ ?_
  clear H
  rintro m f w8 NN hag ⟨hm, f4, N', ft, X, c, rs, hN', hrs, hpos, H⟩ hN2
  have f0 : f 0 = ptrv bc := hag 0 (by decide)
  have f2 : f 2 = ptrv b1 := hag 2 (by decide)
  have f3 : f 3 = ptrv b2 := hag 3 (by decide)
  simp only [f0, f3, f4, zq18, zq19, zq20, zq21, zq22, zq23, zq24, zq25, zq26, zq27, zq28, zq4, zq3, zq1, zq2, zq0, zq29, zq30, zq14, zq15, zq16, zq17, zq13, zq10, zq12, zq11, zq7, zq5, zq6, zq9, zq8, zq31, zq32, ite_T, ite_F, zq33, zq34, zq35, Nat.reduceEqDiff, len22, len24, fa26_0, fa26_1, fa26_2, len27, fa33_0, fa33_1, len35, fa114_0, fa114_1, fa114_2, fa124_0, fa124_1, len134, len154, fa156_0, fa156_1, fa156_2, fa156_3, fa156_4, fa156_5, fa156_6, fa200_0, fa200_1, fa200_2, fa200_3]
  by_cases hm0 : 0 < m
  case neg =>
    simp only [show ¬ ((0 : Int) < (m : Int)) from by omega, decide_false, zq18, zq19, zq20, zq21, zq22, zq23, zq24, zq25, zq26, zq27, zq28, zq4, zq3, zq1, zq2, zq0, zq29, zq30, zq14, zq15, zq16, zq17, zq13, zq10, zq12, zq11, zq7, zq5, zq6, zq9, zq8, zq31, zq32, ite_T, ite_F, zq33, zq34, zq35, Nat.reduceEqDiff, len22, len24, fa26_0, fa26_1, fa26_2, len27, fa33_0, fa33_1, len35, fa114_0, fa114_1, fa114_2, fa124_0, fa124_1, len134, len154, fa156_0, fa156_1, fa156_2, fa156_3, fa156_4, fa156_5, fa156_6, fa200_0, fa200_1, fa200_2, fa200_3]
    simp only [f2, f3, zq18, zq19, zq20, zq21, zq22, zq23, zq24, zq25, zq26, zq27, zq28, zq4, zq3, zq1, zq2, zq0, zq29, zq30, zq14, zq15, zq16, zq17, zq13, zq10, zq12, zq11, zq7, zq5, zq6, zq9, zq8, zq31, zq32, ite_T, ite_F, zq33, zq34, zq35, Nat.reduceEqDiff, len22, len24, fa26_0, fa26_1, fa26_2, len27, fa33_0, fa33_1, len35, fa114_0, fa114_1, fa114_2, fa124_0, fa124_1, len134, len154, fa156_0, fa156_1, fa156_2, fa156_3, fa156_4, fa156_5, fa156_6, fa200_0, fa200_1, fa200_2, fa200_3]
    rw [ldB_agg agg26 sz26 rfl (H.box 2 rfl)]
    refine storeH H 3 rfl sz26 rfl rfl rfl fun w9 H => ?_
    simp only [List.set_cons_zero, List.set_cons_succ] at H
    rw [rd_loadVar, ldB_agg agg26 sz26 rfl (H.box 3 rfl)]
    have H := (H.erase 3).erase 2
    simp only [List.eraseIdx_cons_zero, List.eraseIdx_cons_succ] at H
    exact hk w9 ⟨1 + (a : Int), 1 + (t : Int), rs⟩ ft X c ⟨⟨by show 0 ≤ 1 + (a : Int); omega, by show 1 + (a : Int) ≤ 1000; omega⟩, ⟨by show 0 ≤ 1 + (t : Int); omega, by show 1 + (t : Int) ≤ 1000; omega⟩, hpos (by omega), by show rs.length ≤ 100; omega⟩ (curMore H (by omega))
  simp only [show ((0 : Int) < (m : Int)) from by omega, decide_true, zq18, zq19, zq20, zq21, zq22, zq23, zq24, zq25, zq26, zq27, zq28, zq4, zq3, zq1, zq2, zq0, zq29, zq30, zq14, zq15, zq16, zq17, zq13, zq10, zq12, zq11, zq7, zq5, zq6, zq9, zq8, zq31, zq32, ite_T, ite_F, zq33, zq34, zq35, Nat.reduceEqDiff, len22, len24, fa26_0, fa26_1, fa26_2, len27, fa33_0, fa33_1, len35, fa114_0, fa114_1, fa114_2, fa124_0, fa124_1, len134, len154, fa156_0, fa156_1, fa156_2, fa156_3, fa156_4, fa156_5, fa156_6, fa200_0, fa200_1, fa200_2, fa200_3]
  rw [ldB3 (H.box 2 rfl) rfl]
  refine pick_c H 0 rfl hC (by omega) (by omega) fun w9 l _ hl H => ?_
  simp only [List.set_cons_zero] at H
  rw [bd33 (cells := #[.int .i64 (l : Int), .slice none 0 0]) rfl]
  refine allocH H inf33 fun b3 w10 H => ?_
  have H := H.insert 2
  simp only [List.take_succ_cons, List.take_zero, List.drop_succ_cons, List.drop_zero, List.nil_append, List.cons_append] at H
  refine storeH H 2 rfl sz33 rfl rfl rfl fun w11 H => ?_
  simp only [List.set_cons_zero, List.set_cons_succ] at H
  refine pick_c H 0 rfl hC (by omega) (by omega) fun w12 kk _ hkk H => ?_
  simp only [List.set_cons_zero] at H
  have hkk := hkk (by omega)
  have H := (H.addOwn (Gr.refl _) (show Own 3 w12 w12.heap.size none 0 [] from Row.nil _ _ _ _)).insert 3
  simp only [List.take_succ_cons, List.take_zero, List.drop_succ_cons, List.drop_zero, List.nil_append, List.cons_append] at H
  refine loop_ghost (fun o f w' => o ≤ kk ∧ f 6 = .int .i64 (o : Int) ∧ f 4 = .int .i64 (m : Int) ∧ ∃ N2 Z d, ∃ xs : List Int, N2 ≤ N' + 4 + (kk - o) * 6 ∧ xs.length ≤ kk - o ∧ Apt w0 w' (cur bc (.slice C bs.length cap) N2 :: gth ft X c rs :: bx b3 [.int .i64 (l : Int), .slice Z xs.length d] 33 :: ows Z d xs :: bx b2 [.int .i64 (1 + (a : Int)), .int .i64 (1 + (t : Int)), .slice X rs.length c] 26 :: bx b1 [.int .i64 0, .int .i64 0, .slice none 0 0] 26 :: E)) (fun o => o) kk
    ⟨Nat.le_refl _, rfl, f4, _, none, 0, [], by omega, by simp, H⟩ ?_
  clear H
  rintro o g w13 N3 hag2 ⟨ho, g6, g4, N2, Z, d, xs, hN2', hxs, H⟩ hN4
  have g0 : g 0 = ptrv bc := (hag2 0 (by decide)).trans f0
  have g3 : g 3 = ptrv b2 := (hag2 3 (by decide)).trans f3
  have g5 : g 5 = ptrv b3 := hag2 5 (by decide)
  simp only [g0, g3, g6, zq18, zq19, zq20, zq21, zq22, zq23, zq24, zq25, zq26, zq27, zq28, zq4, zq3, zq1, zq2, zq0, zq29, zq30, zq14, zq15, zq16, zq17, zq13, zq10, zq12, zq11, zq7, zq5, zq6, zq9, zq8, zq31, zq32, ite_T, ite_F, zq33, zq34, zq35, Nat.reduceEqDiff, len22, len24, fa26_0, fa26_1, fa26_2, len27, fa33_0, fa33_1, len35, fa114_0, fa114_1, fa114_2, fa124_0, fa124_1, len134, len154, fa156_0, fa156_1, fa156_2, fa156_3, fa156_4, fa156_5, fa156_6, fa200_0, fa200_1, fa200_2, fa200_3]
  by_cases ho0 : 0 < o
  case neg =>
    simp only [show ¬ ((0 : Int) < (o : Int)) from by omega, decide_false, zq18, zq19, zq20, zq21, zq22, zq23, zq24, zq25, zq26, zq27, zq28, zq4, zq3, zq1, zq2, zq0, zq29, zq30, zq14, zq15, zq16, zq17, zq13, zq10, zq12, zq11, zq7, zq5, zq6, zq9, zq8, zq31, zq32, ite_T, ite_F, zq33, zq34, zq35, Nat.reduceEqDiff, len22, len24, fa26_0, fa26_1, fa26_2, len27, fa33_0, fa33_1, len35, fa114_0, fa114_1, fa114_2, fa124_0, fa124_1, len134, len154, fa156_0, fa156_1, fa156_2, fa156_3, fa156_4, fa156_5, fa156_6, fa200_0, fa200_1, fa200_2, fa200_3]
    simp only [g3, g4, g5, zq18, zq19, zq20, zq21, zq22, zq23, zq24, zq25, zq26, zq27, zq28, zq4, zq3, zq1, zq2, zq0, zq29, zq30, zq14, zq15, zq16, zq17, zq13, zq10, zq12, zq11, zq7, zq5, zq6, zq9, zq8, zq31, zq32, ite_T, ite_F, zq33, zq34, zq35, Nat.reduceEqDiff, len22, len24, fa26_0, fa26_1, fa26_2, len27, fa33_0, fa33_1, len35, fa114_0, fa114_1, fa114_2, fa124_0, fa124_1, len134, len154, fa156_0, fa156_1, fa156_2, fa156_3, fa156_4, fa156_5, fa156_6, fa200_0, fa200_1, fa200_2, fa200_3]
    rw [ldB24 (H.box 4 rfl) rfl, ldB_agg agg33 sz33 rfl (H.box 2 rfl)]
    refine put2_c (r := ((l : Int), xs)) H 1 3 (by decide) rfl rfl (by omega) fun w14 ft' X' c' rs' hrs' H => ?_
    simp only [List.set_cons_zero, List.set_cons_succ] at H
    refine storeH H 4 rfl sz24 rfl rfl rfl fun w15 H => ?_
    simp only [List.set_cons_zero, List.set_cons_succ] at H
    have H := (H.erase 3).erase 2
    simp only [List.eraseIdx_cons_zero, List.eraseIdx_cons_succ] at H
    rw [i64_of (by omega) (by omega), show (m : Int) - 1 = ((m - 1 : Nat) : Int) from by omega]
    have hl' : rs'.length ≤ rs.length + 1 ∧ 0 < rs'.length := by
      rcases hrs' with ⟨e, h0⟩ | e
      · rw [e]
        exact ⟨by omega, h0⟩
      · rw [e, List.length_append, List.length_singleton]
        omega
    exact hN2 (m - 1) _ _ ⟨by omega, rfl, N2, ft', X', c', rs', by omega, by omega, fun _ => hl'.2, H⟩ (by omega)
  simp only [show ((0 : Int) < (o : Int)) from by omega, decide_true, zq18, zq19, zq20, zq21, zq22, zq23, zq24, zq25, zq26, zq27, zq28, zq4, zq3, zq1, zq2, zq0, zq29, zq30, zq14, zq15, zq16, zq17, zq13, zq10, zq12, zq11, zq7, zq5, zq6, zq9, zq8, zq31, zq32, ite_T, ite_F, zq33, zq34, zq35, Nat.reduceEqDiff, len22, len24, fa26_0, fa26_1, fa26_2, len27, fa33_0, fa33_1, len35, fa114_0, fa114_1, fa114_2, fa124_0, fa124_1, len134, len154, fa156_0, fa156_1, fa156_2, fa156_3, fa156_4, fa156_5, fa156_6, fa200_0, fa200_1, fa200_2, fa200_3]
  refine join_as (fun g w' => g 6 = .int .i64 (o : Int) ∧ g 4 = .int .i64 (m : Int) ∧ ∃ N2 Z d, ∃ xs : List Int, N2 ≤ N' + 4 + (kk - o) * 6 + 6 ∧ xs.length ≤ kk - o + 1 ∧ Apt w0 w' (cur bc (.slice C bs.length cap) N2 :: gth ft X c rs :: bx b3 [.int .i64 (l : Int), .slice Z xs.length d] 33 :: ows Z d xs :: bx b2 [.int .i64 (1 + (a : Int)), .int .i64 (1 + (t : Int)), .slice X rs.length c] 26 :: bx b1 [.int .i64 0, .int .i64 0, .slice none 0 0] 26 :: E)) (fun K1 hK1 => ?_) ?_
  case refine_2 =>
    rintro g w' ⟨g6, g4, N2, Z, d, xs, h1, h2, H⟩
    simp only [g6, zq18, zq19, zq20, zq21, zq22, zq23, zq24, zq25, zq26, zq27, zq28, zq4, zq3, zq1, zq2, zq0, zq29, zq30, zq14, zq15, zq16, zq17, zq13, zq10, zq12, zq11, zq7, zq5, zq6, zq9, zq8, zq31, zq32, ite_T, ite_F, zq33, zq34, zq35, Nat.reduceEqDiff, len22, len24, fa26_0, fa26_1, fa26_2, len27, fa33_0, fa33_1, len35, fa114_0, fa114_1, fa114_2, fa124_0, fa124_1, len134, len154, fa156_0, fa156_1, fa156_2, fa156_3, fa156_4, fa156_5, fa156_6, fa200_0, fa200_1, fa200_2, fa200_3]
    rw [i64_of (by omega) (by omega), show (o : Int) - 1 = ((o - 1 : Nat) : Int) from by omega]
    exact hN4 (o - 1) _ _ ⟨by omega, rfl, g4, N2, Z, d, xs, by omega, by omega, H⟩ (by omega)
  rw [ldB3 (H.box 4 rfl) rfl]
  refine pick_c H 0 rfl hC (by omega) (by omega) fun w14 x _ hx H => ?_
  simp only [List.set_cons_zero] at H
  refine join_as (fun g w' => g 6 = .int .i64 (o : Int) ∧ g 4 = .int .i64 (m : Int) ∧ g 5 = ptrv b3 ∧ (∃ x : Int, g 7 = .int .i64 x) ∧ ∃ N2, N2 ≤ N' + 4 + (kk - o) * 6 + 6 ∧ Apt w0 w' (cur bc (.slice C bs.length cap) N2 :: gth ft X c rs :: bx b3 [.int .i64 (l : Int), .slice Z xs.length d] 33 :: ows Z d xs :: bx b2 [.int .i64 (1 + (a : Int)), .int .i64 (1 + (t : Int)), .slice X rs.length c] 26 :: bx b1 [.int .i64 0, .int .i64 0, .slice none 0 0] 26 :: E)) (fun K2 hK2 => ?_) ?_
  · refine one_c H 0 rfl hC (by omega) (by omega) fun w15 b H => ?_
    simp only [List.set_cons_zero] at H
    cases b
    · simp only [zq18, zq19, zq20, zq21, zq22, zq23, zq24, zq25, zq26, zq27, zq28, zq4, zq3, zq1, zq2, zq0, zq29, zq30, zq14, zq15, zq16, zq17, zq13, zq10, zq12, zq11, zq7, zq5, zq6, zq9, zq8, zq31, zq32, ite_T, ite_F, zq33, zq34, zq35, Nat.reduceEqDiff, len22, len24, fa26_0, fa26_1, fa26_2, len27, fa33_0, fa33_1, len35, fa114_0, fa114_1, fa114_2, fa124_0, fa124_1, len134, len154, fa156_0, fa156_1, fa156_2, fa156_3, fa156_4, fa156_5, fa156_6, fa200_0, fa200_1, fa200_2, fa200_3]
      exact hK2 _ _ ⟨g6, g4, g5, ⟨_, rfl⟩, _, by omega, H⟩
    · simp only [zq18, zq19, zq20, zq21, zq22, zq23, zq24, zq25, zq26, zq27, zq28, zq4, zq3, zq1, zq2, zq0, zq29, zq30, zq14, zq15, zq16, zq17, zq13, zq10, zq12, zq11, zq7, zq5, zq6, zq9, zq8, zq31, zq32, ite_T, ite_F, zq33, zq34, zq35, Nat.reduceEqDiff, len22, len24, fa26_0, fa26_1, fa26_2, len27, fa33_0, fa33_1, len35, fa114_0, fa114_1, fa114_2, fa124_0, fa124_1, len134, len154, fa156_0, fa156_1, fa156_2, fa156_3, fa156_4, fa156_5, fa156_6, fa200_0, fa200_1, fa200_2, fa200_3]
      rw [ldB3 (H.box 4 rfl) rfl]
      refine pick_c H 0 rfl hC (by omega) (by omega) fun w16 y _ hy H => ?_
      simp only [List.set_cons_zero, zq18, zq19, zq20, zq21, zq22, zq23, zq24, zq25, zq26, zq27, zq28, zq4, zq3, zq1, zq2, zq0, zq29, zq30, zq14, zq15, zq16, zq17, zq13, zq10, zq12, zq11, zq7, zq5, zq6, zq9, zq8, zq31, zq32, ite_T, ite_F, zq33, zq34, zq35, Nat.reduceEqDiff, len22, len24, fa26_0, fa26_1, fa26_2, len27, fa33_0, fa33_1, len35, fa114_0, fa114_1, fa114_2, fa124_0, fa124_1, len134, len154, fa156_0, fa156_1, fa156_2, fa156_3, fa156_4, fa156_5, fa156_6, fa200_0, fa200_1, fa200_2, fa200_3] at H ⊢
      exact hK2 _ _ ⟨g6, g4, g5, ⟨_, rfl⟩, _, by omega, H⟩
  · clear H
    rintro g w15 ⟨g6, g4, g5, ⟨y, g7⟩, N5, hN5, H⟩
    simp only [g5, g7, zq18, zq19, zq20, zq21, zq22, zq23, zq24, zq25, zq26, zq27, zq28, zq4, zq3, zq1, zq2, zq0, zq29, zq30, zq14, zq15, zq16, zq17, zq13, zq10, zq12, zq11, zq7, zq5, zq6, zq9, zq8, zq31, zq32, ite_T, ite_F, zq33, zq34, zq35, Nat.reduceEqDiff, len22, len24, fa26_0, fa26_1, fa26_2, len27, fa33_0, fa33_1, len35, fa114_0, fa114_1, fa114_2, fa124_0, fa124_1, len134, len154, fa156_0, fa156_1, fa156_2, fa156_3, fa156_4, fa156_5, fa156_6, fa200_0, fa200_1, fa200_2, fa200_3]
    rw [ldB27 (H.box 2 rfl) rfl]
    refine pushH H 3 rfl rfl (by omega) fun t1 Z2 d2 w16 H => ?_
    simp only [List.set_cons_zero, List.set_cons_succ, zq18, zq19, zq20, zq21, zq22, zq23, zq24, zq25, zq26, zq27, zq28, zq4, zq3, zq1, zq2, zq0, zq29, zq30, zq14, zq15, zq16, zq17, zq13, zq10, zq12, zq11, zq7, zq5, zq6, zq9, zq8, zq31, zq32, ite_T, ite_F, zq33, zq34, zq35, Nat.reduceEqDiff, len22, len24, fa26_0, fa26_1, fa26_2, len27, fa33_0, fa33_1, len35, fa114_0, fa114_1, fa114_2, fa124_0, fa124_1, len134, len154, fa156_0, fa156_1, fa156_2, fa156_3, fa156_4, fa156_5, fa156_6, fa200_0, fa200_1, fa200_2, fa200_3] at H ⊢
    refine storeH H 2 rfl sz27 rfl rfl rfl fun w17 H => ?_
    simp only [List.set_cons_zero, List.set_cons_succ, List.take_succ_cons, List.take_zero, List.drop_succ_cons, List.drop_zero, List.nil_append, List.cons_append, List.drop_nil, Value.cells] at H
    exact hK1 _ _ ⟨g6, g4, N5, Z2, d2, xs ++ [y], hN5, by rw [List.length_append, List.length_singleton]; omega, H⟩
end
end Go.Proofs.Ytegcjkhebecgbaa

/- Contracts: how long a word must be, by the reference and by the program. -/
set_option linter.unusedVariables false
set_option linter.unusedSimpArgs false
set_option maxRecDepth 100000
namespace Go.Sh
open Go
def mostN (rs : List RuleL) : Nat → Int
  | 0 => 2
  | i + 1 => if mostN rs i < (rul rs i).2.length then (rul rs i).2.length else mostN rs i
def powN (m : Int) : Nat → Int
  | 0 => 1
  | j + 1 => IntKind.i64.wrap (powN m j * m)
def longV (g : Gram) : Value :=
  if goodG g = true then
    if 1000 < IntKind.i64.wrap (powN (mostN g.rules g.rules.length) g.nons.toNat + 1) then .tuple #[.int .i64 0, .bool false]
    else .tuple #[.int .i64 (IntKind.i64.wrap (powN (mostN g.rules g.rules.length) g.nons.toNat + 1)), .bool true]
  else .tuple #[.int .i64 0, .bool false]
end Go.Sh
namespace Go.Proofs.Ytegcjkhebecgbaa
open Go Go.Sh Go.RowKit

theorem l1Most_c {x y : Int} {w : World} {k : Value → World → Prop} (hk : k (.int .i64 (if x < y then y else x)) w) : CallK Try.prog 159 [.int .i64 x, .int .i64 y] k w := by
  refine enter159 ?_
  unfold S159
  simp only [go_sem, Nat.reduceEqDiff]
  by_cases h : y < x
  · simp only [h, decide_true, go_sem, Nat.reduceEqDiff]
    rwa [if_neg (by omega)] at hk
  · simp only [h, decide_false, go_sem, Nat.reduceEqDiff]
    by_cases h2 : x < y
    · rwa [if_pos h2] at hk
    · rw [if_neg h2] at hk
      have : x = y := by omega
      rwa [this] at hk
theorem specLongEnough_c {F : Nat → Prop} {w : World} {v : Value} {gm : Gram} (hv : GramV F w v gm) {k : Value → World → Prop} (hk : ∀ w', Gr w w' → k (longV gm) w') :
    CallK Try.prog 122 [v] k w := by
  have hv0 := hv
  obtain ⟨Y, c, rfl, hc, hy⟩ := hv
  refine enter122 ?_
  unfold S122
  refine do_box fun b w1 g1 hb1 hB => ?_
  rw [ldB_agg agg26 sz26 rfl hB]
  refine goodGrammar_c (gm := gm) ⟨Y, c, rfl, hc, hy.gr g1⟩ fun w2 g2 => ?_
  have g := gr_trans g1 g2
  cases hg : goodG gm
  · simp only [Bool.not_false, go_sem, Nat.reduceEqDiff]
    have := hk _ g
    rwa [show longV gm = .tuple #[.int .i64 0, .bool false] from by simp only [longV, hg]; rfl] at this
  simp only [Bool.not_true, go_sem, Nat.reduceEqDiff]
  have hB := hB.gr g2
  rw [ldB24 hB rfl]
  simp only [go_sem, Nat.reduceEqDiff]
  have hle := hy.le
  have hn : 0 ≤ gm.nons ∧ gm.nons ≤ 6 := by
    have h : inB gm.nons 1 6 = true := by
      simp only [goodG, Bool.and_eq_true] at hg
      exact hg.1.1.1
    have : 1 ≤ gm.nons ∧ gm.nons ≤ 6 := by simpa [inB] using h
    omega
  refine ⟨fun f w' => ∃ i : Nat, i ≤ gm.rules.length ∧ f 15 = .int .i64 i ∧ f 4 = .int .i64 (mostN gm.rules i) ∧ Gr w2 w', fun f _ => gm.rules.length - (intOf (f 15)).toNat, ⟨0, Nat.zero_le _, rfl, rfl, Gr.refl w2⟩, ?_⟩
  rintro f w3 hag ⟨i, hi, hsi, h4, g3⟩
  have f1 : f 1 = .pointer (some ⟨b, 0, none⟩) := hag 1 (by decide)
  have fs : f 13 = .slice Y gm.rules.length c := hag 13 (by decide)
  have fl : f 14 = .int .i64 gm.rules.length := hag 14 (by decide)
  simp only [f1, fs, fl, hsi, h4, go_sem, Nat.reduceEqDiff]
  have g' := gr_trans g g3
  by_cases hlt : i < gm.rules.length
  · have hlt' : (i : Int) < gm.rules.length := by omega
    simp only [hlt', decide_true, go_sem, Nat.reduceEqDiff]
    rw [ixn24 hy.ptr hlt]
    refine ld_rule agg33 sz33 (hy.gr g') hlt fun v hv => ?_
    obtain ⟨Z, d, rfl, hd, hz⟩ := hv
    refine do_alloc_of inf33 fun b3 w4 g4 hb3 h3 => ?_
    refine do_store sz33 rfl (by intro u hu; simp [Value.cells] at hu; rcases hu with rfl | rfl <;> rfl) h3 (by simp [Value.cells]) fun w5 g5 s5 h5 => ?_
    simp only [go_sem, Nat.reduceEqDiff]
    rw [ldB27 h5 rfl]
    simp only [go_sem, Nat.reduceEqDiff]
    refine l1Most_c ?_
    rw [i64_of (by omega) (by omega)]
    refine ⟨⟨i + 1, hlt, rfl, rfl, gr_put (gr_trans g3 g4) g5 (Nat.le_trans g3.size hb3)⟩, ?_⟩
    simp only [intOf]
    omega
  simp only [show ¬ (i : Int) < gm.rules.length from by omega, decide_false, go_sem, Nat.reduceEqDiff]
  obtain rfl : i = gm.rules.length := by omega
  obtain ⟨n, hnn⟩ := Int.eq_ofNat_of_zero_le hn.1
  refine ⟨fun f w' => ∃ j : Nat, j ≤ n ∧ f 8 = .int .i64 j ∧ f 7 = .int .i64 (powN (mostN gm.rules gm.rules.length) j) ∧ Gr w3 w', fun f _ => n - (intOf (f 8)).toNat, ⟨0, Nat.zero_le _, rfl, rfl, Gr.refl w3⟩, ?_⟩
  rintro f2 w4 hag2 ⟨j, hj, h8, h7, g4⟩
  have e1 : f2 1 = .pointer (some ⟨b, 0, none⟩) := (hag2 1 (by decide)).trans f1
  have e4 : f2 4 = .int .i64 (mostN gm.rules gm.rules.length) := (hag2 4 (by decide)).trans h4
  simp only [e1, e4, h7, h8, go_sem, Nat.reduceEqDiff]
  rw [ldB3 (hB.gr (gr_trans g3 g4)) rfl]
  simp only [go_sem, Nat.reduceEqDiff]
  rw [hnn]
  by_cases hlt : j < n
  · have hlt' : (j : Int) < ((n : Nat) : Int) := by omega
    simp only [hlt', decide_true, go_sem, Nat.reduceEqDiff]
    rw [i64_of (n := (j : Int) + 1) (by omega) (by omega)]
    refine ⟨⟨j + 1, hlt, rfl, rfl, g4⟩, ?_⟩
    simp only [intOf]
    omega
  simp only [show ¬ (j : Int) < ((n : Nat) : Int) from by omega, decide_false, go_sem, Nat.reduceEqDiff]
  obtain rfl : j = n := by omega
  have := hk _ (gr_trans g' g4)
  by_cases h9 : 1000 < IntKind.i64.wrap (powN (mostN gm.rules gm.rules.length) j + 1)
  · simp only [h9, decide_true, go_sem, Nat.reduceEqDiff]
    rwa [show longV gm = .tuple #[.int .i64 0, .bool false] from by simp only [longV, hg, hnn, Int.toNat_natCast, h9, if_true]] at this
  · simp only [h9, decide_false, go_sem, Nat.reduceEqDiff]
    rwa [show longV gm = .tuple #[.int .i64 (IntKind.i64.wrap (powN (mostN gm.rules gm.rules.length) j + 1)), .bool true] from by simp only [longV, hg, hnn, Int.toNat_natCast, h9, if_true, if_false]] at this
theorem implLongEnough_c {F : Nat → Prop} {w : World} {v : Value} {gm : Gram} (hv : GramV F w v gm) {k : Value → World → Prop} (hk : ∀ w', Gr w w' → k (longV gm) w') :
    CallK Try.prog 121 [v] k w := by
  have hv0 := hv
  obtain ⟨Y, c, rfl, hc, hy⟩ := hv
  refine enter121 ?_
  unfold S121
  refine do_box fun b w1 g1 hb1 hB => ?_
  rw [ldB_agg agg26 sz26 rfl hB]
  refine isGrammar_c (gm := gm) ⟨Y, c, rfl, hc, hy.gr g1⟩ fun w2 g2 => ?_
  have g := gr_trans g1 g2
  cases hg : goodG gm
  · simp only [Bool.not_false, go_sem, Nat.reduceEqDiff]
    have := hk _ g
    rwa [show longV gm = .tuple #[.int .i64 0, .bool false] from by simp only [longV, hg]; rfl] at this
  simp only [Bool.not_true, go_sem, Nat.reduceEqDiff]
  have hB := hB.gr g2
  rw [ldB24 hB rfl]
  simp only [go_sem, Nat.reduceEqDiff]
  have hle := hy.le
  have hn : 0 ≤ gm.nons ∧ gm.nons ≤ 6 := by
    have h : inB gm.nons 1 6 = true := by
      simp only [goodG, Bool.and_eq_true] at hg
      exact hg.1.1.1
    have : 1 ≤ gm.nons ∧ gm.nons ≤ 6 := by simpa [inB] using h
    omega
  refine ⟨fun f w' => ∃ i : Nat, i ≤ gm.rules.length ∧ f 14 = .int .i64 i ∧ f 4 = .int .i64 (mostN gm.rules i) ∧ Gr w2 w', fun f _ => gm.rules.length - (intOf (f 14)).toNat, ⟨0, Nat.zero_le _, rfl, rfl, Gr.refl w2⟩, ?_⟩
  rintro f w3 hag ⟨i, hi, hsi, h4, g3⟩
  have f1 : f 1 = .pointer (some ⟨b, 0, none⟩) := hag 1 (by decide)
  have fs : f 12 = .slice Y gm.rules.length c := hag 12 (by decide)
  have fl : f 13 = .int .i64 gm.rules.length := hag 13 (by decide)
  simp only [f1, fs, fl, hsi, h4, go_sem, Nat.reduceEqDiff]
  have g' := gr_trans g g3
  by_cases hlt : i < gm.rules.length
  · have hlt' : (i : Int) < gm.rules.length := by omega
    simp only [hlt', decide_true, go_sem, Nat.reduceEqDiff]
    rw [ixn24 hy.ptr hlt]
    refine ld_rule agg33 sz33 (hy.gr g') hlt fun v hv => ?_
    obtain ⟨Z, d, rfl, hd, hz⟩ := hv
    refine do_alloc_of inf33 fun b3 w4 g4 hb3 h3 => ?_
    refine do_store sz33 rfl (by intro u hu; simp [Value.cells] at hu; rcases hu with rfl | rfl <;> rfl) h3 (by simp [Value.cells]) fun w5 g5 s5 h5 => ?_
    simp only [go_sem, Nat.reduceEqDiff]
    rw [ldB27 h5 rfl]
    simp only [go_sem, Nat.reduceEqDiff]
    rw [max_int]
    rw [i64_of (by omega) (by omega)]
    refine ⟨⟨i + 1, hlt, rfl, rfl, gr_put (gr_trans g3 g4) g5 (Nat.le_trans g3.size hb3)⟩, ?_⟩
    simp only [intOf]
    omega
  simp only [show ¬ (i : Int) < gm.rules.length from by omega, decide_false, go_sem, Nat.reduceEqDiff]
  obtain rfl : i = gm.rules.length := by omega
  rw [ldB3 (hB.gr g3) rfl]
  obtain ⟨n, hnn⟩ := Int.eq_ofNat_of_zero_le hn.1
  rw [hnn]
  refine ⟨fun f w' => ∃ j : Nat, j ≤ n ∧ f 26 = .int .i64 j ∧ f 7 = .int .i64 (powN (mostN gm.rules gm.rules.length) j) ∧ Gr w3 w', fun f _ => n - (intOf (f 26)).toNat, ⟨0, Nat.zero_le _, rfl, rfl, Gr.refl w3⟩, ?_⟩
  rintro f2 w4 hag2 ⟨j, hj, h8, h7, g4⟩
  have e4 : f2 4 = .int .i64 (mostN gm.rules gm.rules.length) := (hag2 4 (by decide)).trans h4
  have e25 : f2 25 = .int .i64 ((n : Nat) : Int) := hag2 25 (by decide)
  simp only [e4, e25, h7, h8, go_sem, Nat.reduceEqDiff]
  by_cases hlt : j < n
  · have hlt' : (j : Int) < ((n : Nat) : Int) := by omega
    simp only [hlt', decide_true, go_sem, Nat.reduceEqDiff]
    rw [i64_of (n := (j : Int) + 1) (by omega) (by omega)]
    refine ⟨⟨j + 1, hlt, rfl, rfl, g4⟩, ?_⟩
    simp only [intOf]
    omega
  simp only [show ¬ (j : Int) < ((n : Nat) : Int) from by omega, decide_false, go_sem, Nat.reduceEqDiff]
  obtain rfl : j = n := by omega
  have := hk _ (gr_trans g' g4)
  by_cases h9 : 1000 < IntKind.i64.wrap (powN (mostN gm.rules gm.rules.length) j + 1)
  · simp only [h9, decide_true, go_sem, Nat.reduceEqDiff]
    rwa [show longV gm = .tuple #[.int .i64 0, .bool false] from by simp only [longV, hg, hnn, Int.toNat_natCast, h9, if_true]] at this
  · simp only [h9, decide_false, go_sem, Nat.reduceEqDiff]
    rwa [show longV gm = .tuple #[.int .i64 (IntKind.i64.wrap (powN (mostN gm.rules gm.rules.length) j + 1)), .bool true] from by simp only [longV, hg, hnn, Int.toNat_natCast, h9, if_true, if_false]] at this
end Go.Proofs.Ytegcjkhebecgbaa

/- Contracts: any grammar, a word, a word of a language often (anyGrammar, word, wordIn). -/
set_option linter.unusedVariables false
set_option linter.unusedSimpArgs false
set_option maxRecDepth 100000
namespace Go.Proofs.Ytegcjkhebecgbaa
open Go Go.Sh Go.RowKit
section
variable {w0 w : World} {L E : List Thing} {bc N : Nat} {C : Option Addr} {cap : Nat} {bs : List Int} {k : Value → World → Prop}
theorem leftH (H : Apt w0 w L) (i : Nat) {ft : Nat → Prop} {X : Option Addr} {c : Nat} {r : RuleL} {rs : List RuleL} {v : Int} (hi : L[i]? = some (gth ft X c (r :: rs))) (h : ∀ w', Apt w0 w' (L.set i (gth ft X c ((v, r.2) :: rs))) → k undef w') : Do Try.prog (sStore 3 (.pointer (some ((ad X).add 0))) (.int .i64 v)) k w := by
  obtain ⟨cells, hrow, hrc⟩ := H.gow i hi
  refine do_store_row sz3 rfl rfl hrow (by rw [List.length_cons]; omega) fun w' hg hs hr => ?_
  cases hrc with
  | @cons _ _ Y d cells h1 h2 h3 =>
    refine h w' (H.set hi (it' := gth ft X c ((v, r.2) :: rs)) (gx_of hg fun q hq => .inl hq) (fun q hq => .inl hq) (fun q hq => Nat.lt_of_lt_of_le ((H.ok i _ hi).hi q hq) hg.size) (gow_kept (B := 0) ⟨_, hr, ?_⟩))
    refine .cons (r := (v, r.2)) h1 ?_ ?_
    · have hf : IntsF (fun q => (ft q ∧ blk X ≠ some q) ∧ q < w.heap.size) w Y r.2 := ltF h2
      exact (hf.same' fun q hq => hg.block q hq.2 fun e => hq.1.2 e.symm).mono fun q hq => hq.1
    · exact (h3.lt.same fun q hq => hg.block q hq.2 fun e => hq.1.2 e.symm).mono fun q hq => hq.1
set_option maxHeartbeats 3200000 in
theorem any_c (H : Apt w0 w (cur bc (.slice C bs.length cap) N :: E)) (hC : Byts w0 C bs) (hN : N ≤ 1000000) (hk : ∀ w' gm ft X c, Drawn 101 gm → Apt w0 w' (cur bc (.slice C bs.length cap) (N + 600) :: gth ft X c gm.rules :: E) → k (.agg #[.int .i64 gm.nons, .int .i64 gm.toks, .slice X gm.rules.length c]) w') :
    CallK Try.prog 145 [ptrv bc] k w := by
  refine enter145 ?_
  unfold S145
  refine allocH H inf26 fun b1 w1 H => ?_
  have H := H.insert 1
  simp only [List.take_succ_cons, List.take_zero, List.drop_succ_cons, List.drop_zero, List.nil_append, List.cons_append] at H
  refine grammar_c H hC hN fun w2 gm ft X c hd H => ?_
  refine allocH H inf26 fun b5 w3 H => ?_
  have H := H.insert 2
  simp only [List.take_succ_cons, List.take_zero, List.drop_succ_cons, List.drop_zero, List.nil_append, List.cons_append] at H
  refine storeH H 2 rfl sz26 rfl rfl rfl fun w4 H => ?_
  simp only [List.set_cons_zero, List.set_cons_succ, List.take_zero, List.drop_succ_cons, List.drop_zero, List.nil_append, List.append_nil, Value.cells] at H
  refine join_as (fun f w' => f 2 = ptrv b1 ∧ f 3 = ptrv b5 ∧ ∃ gm ft X c, Drawn 101 gm ∧ Apt w0 w' (cur bc (.slice C bs.length cap) (N + 600) :: gth ft X c gm.rules :: bx b5 [.int .i64 gm.nons, .int .i64 gm.toks, .slice X gm.rules.length c] 26 :: bx b1 [.int .i64 0, .int .i64 0, .slice none 0 0] 26 :: E)) (fun K hK => ?_) ?_
  case refine_2 =>
    clear H
    rintro f w5 ⟨f2, f3, gm, ft, X, c, hd, H⟩
    simp only [f2, f3]
    rw [ldB_agg agg26 sz26 rfl (H.box 2 rfl)]
    refine storeH H 3 rfl sz26 rfl rfl rfl fun w9 H => ?_
    simp only [List.set_cons_zero, List.set_cons_succ] at H
    rw [rd_loadVar, ldB_agg agg26 sz26 rfl (H.box 3 rfl)]
    have H := (H.erase 3).erase 2
    simp only [List.eraseIdx_cons_zero, List.eraseIdx_cons_succ] at H
    exact hk w9 gm ft X c hd H
  refine pick_c H 0 rfl hC (by omega) (by omega) fun w5 t _ ht H => ?_
  simp only [List.set_cons_zero] at H
  have ht := ht (by omega)
  have amongs : ∀ (x y z : Int), (0 ≤ x ∧ x ≤ 1000) → (0 ≤ y ∧ y ≤ 1000) → (0 ≤ z ∧ z ≤ 1000) → ∀ (kk : Value → Value → World → Prop), (∀ v : Int, 0 ≤ v ∧ v ≤ 1000 → ∀ u w', Apt w0 w' (cur bc (.slice C bs.length cap) (N + 504) :: gth ft X c gm.rules :: bx b5 [.int .i64 gm.nons, .int .i64 gm.toks, .slice X gm.rules.length c] 26 :: bx b1 [.int .i64 0, .int .i64 0, .slice none 0 0] 26 :: E) → kk u (.int .i64 v) w') → Do Try.prog (sBuildSlice 27 3 [(0, .int .i64 x), (1, .int .i64 y), (2, .int .i64 z)]) (fun t14 w15 => CallK Try.prog 156 [ptrv bc, t14] (fun t16 w17 => kk t14 t16 w17) w15) w5 := fun x y z hx hy hz kk hkk => by
    refine buildH H u27 inf3 (ints [x, y, z]) (by decide) (by decide) (by simp [Instr.fill, madeCells, Value.cells, rng3, ints]) rfl fun b7 w6 H => ?_
    have H := H.insert 1
    simp only [List.take_succ_cons, List.take_zero, List.drop_succ_cons, List.drop_zero, List.nil_append, List.cons_append] at H
    refine among_c (xs := [x, y, z]) H 0 rfl hC (by omega) (fun w' H => Apt.ints H 1 (xs := [x, y, z]) rfl) rfl (by simp) (by simp) fun w7 j hj H => ?_
    have H := H.erase 1
    simp only [List.set_cons_zero, List.eraseIdx_cons_zero, List.eraseIdx_cons_succ] at H
    refine hkk _ ?_ _ _ H
    have hj : j = 0 ∨ j = 1 ∨ j = 2 := by simp at hj; omega
    rcases hj with rfl | rfl | rfl
    · exact hx
    · exact hy
    · exact hz
  simp only [zq18, zq19, zq20, zq21, zq22, zq23, zq24, zq25, zq26, zq27, zq28, zq4, zq3, zq1, zq2, zq0, zq29, zq30, zq14, zq15, zq16, zq17, zq13, zq10, zq12, zq11, zq7, zq5, zq6, zq9, zq8, zq31, zq32, ite_T, ite_F, zq33, zq34, zq35, Nat.reduceEqDiff, len22, len24, fa26_0, fa26_1, fa26_2, len27, fa33_0, fa33_1, len35, fa114_0, fa114_1, fa114_2, fa124_0, fa124_1, len134, len154, fa156_0, fa156_1, fa156_2, fa156_3, fa156_4, fa156_5, fa156_6, fa200_0, fa200_1, fa200_2, fa200_3]
  by_cases h0 : t = 0
  · subst h0
    simp only [show (((0 : Nat) : Int) = 0) from rfl, decide_true, zq18, zq19, zq20, zq21, zq22, zq23, zq24, zq25, zq26, zq27, zq28, zq4, zq3, zq1, zq2, zq0, zq29, zq30, zq14, zq15, zq16, zq17, zq13, zq10, zq12, zq11, zq7, zq5, zq6, zq9, zq8, zq31, zq32, ite_T, ite_F, zq33, zq34, zq35, Nat.reduceEqDiff, len22, len24, fa26_0, fa26_1, fa26_2, len27, fa33_0, fa33_1, len35, fa114_0, fa114_1, fa114_2, fa124_0, fa124_1, len134, len154, fa156_0, fa156_1, fa156_2, fa156_3, fa156_4, fa156_5, fa156_6, fa200_0, fa200_1, fa200_2, fa200_3]
    refine amongs 0 6 7 (by omega) (by omega) (by omega) _ fun v hv u w7 H => ?_
    refine storeH H 2 rfl sz3 rfl rfl rfl fun w8 H => ?_
    simp only [List.set_cons_zero, List.set_cons_succ, List.take_succ_cons, List.take_zero, List.drop_succ_cons, List.drop_zero, List.nil_append, List.cons_append, Value.cells] at H
    exact hK _ _ ⟨rfl, rfl, ⟨v, gm.toks, gm.rules⟩, ft, X, c, ⟨hv, hd.toks, hd.some, by have := hd.few; show List.length gm.rules ≤ 101; omega⟩, curMore (m := N + 600) H (by omega)⟩
  simp only [show ¬ ((t : Int) = 0) from by omega, decide_false, zq18, zq19, zq20, zq21, zq22, zq23, zq24, zq25, zq26, zq27, zq28, zq4, zq3, zq1, zq2, zq0, zq29, zq30, zq14, zq15, zq16, zq17, zq13, zq10, zq12, zq11, zq7, zq5, zq6, zq9, zq8, zq31, zq32, ite_T, ite_F, zq33, zq34, zq35, Nat.reduceEqDiff, len22, len24, fa26_0, fa26_1, fa26_2, len27, fa33_0, fa33_1, len35, fa114_0, fa114_1, fa114_2, fa124_0, fa124_1, len134, len154, fa156_0, fa156_1, fa156_2, fa156_3, fa156_4, fa156_5, fa156_6, fa200_0, fa200_1, fa200_2, fa200_3]
  by_cases h1 : t = 1
  · subst h1
    simp only [show (((1 : Nat) : Int) = 1) from rfl, decide_true, zq18, zq19, zq20, zq21, zq22, zq23, zq24, zq25, zq26, zq27, zq28, zq4, zq3, zq1, zq2, zq0, zq29, zq30, zq14, zq15, zq16, zq17, zq13, zq10, zq12, zq11, zq7, zq5, zq6, zq9, zq8, zq31, zq32, ite_T, ite_F, zq33, zq34, zq35, Nat.reduceEqDiff, len22, len24, fa26_0, fa26_1, fa26_2, len27, fa33_0, fa33_1, len35, fa114_0, fa114_1, fa114_2, fa124_0, fa124_1, len134, len154, fa156_0, fa156_1, fa156_2, fa156_3, fa156_4, fa156_5, fa156_6, fa200_0, fa200_1, fa200_2, fa200_3]
    refine amongs 0 4 5 (by omega) (by omega) (by omega) _ fun v hv u w7 H => ?_
    refine storeH H 2 rfl sz3 rfl rfl rfl fun w8 H => ?_
    simp only [List.set_cons_zero, List.set_cons_succ, List.take_succ_cons, List.take_zero, List.drop_succ_cons, List.drop_zero, List.nil_append, List.cons_append, Value.cells] at H
    exact hK _ _ ⟨rfl, rfl, ⟨gm.nons, v, gm.rules⟩, ft, X, c, ⟨hd.nons, hv, hd.some, by have := hd.few; show List.length gm.rules ≤ 101; omega⟩, curMore (m := N + 600) H (by omega)⟩
  simp only [show ¬ ((t : Int) = 1) from by omega, decide_false, zq18, zq19, zq20, zq21, zq22, zq23, zq24, zq25, zq26, zq27, zq28, zq4, zq3, zq1, zq2, zq0, zq29, zq30, zq14, zq15, zq16, zq17, zq13, zq10, zq12, zq11, zq7, zq5, zq6, zq9, zq8, zq31, zq32, ite_T, ite_F, zq33, zq34, zq35, Nat.reduceEqDiff, len22, len24, fa26_0, fa26_1, fa26_2, len27, fa33_0, fa33_1, len35, fa114_0, fa114_1, fa114_2, fa124_0, fa124_1, len134, len154, fa156_0, fa156_1, fa156_2, fa156_3, fa156_4, fa156_5, fa156_6, fa200_0, fa200_1, fa200_2, fa200_3]
  obtain ⟨nn, tt, rules⟩ := gm
  cases rules with
  | nil => exact absurd hd.some (by simp)
  | cons r rs =>
  by_cases h2 : t = 2
  · subst h2
    simp only [show (((2 : Nat) : Int) = 2) from rfl, decide_true, zq18, zq19, zq20, zq21, zq22, zq23, zq24, zq25, zq26, zq27, zq28, zq4, zq3, zq1, zq2, zq0, zq29, zq30, zq14, zq15, zq16, zq17, zq13, zq10, zq12, zq11, zq7, zq5, zq6, zq9, zq8, zq31, zq32, ite_T, ite_F, zq33, zq34, zq35, Nat.reduceEqDiff, len22, len24, fa26_0, fa26_1, fa26_2, len27, fa33_0, fa33_1, len35, fa114_0, fa114_1, fa114_2, fa124_0, fa124_1, len134, len154, fa156_0, fa156_1, fa156_2, fa156_3, fa156_4, fa156_5, fa156_6, fa200_0, fa200_1, fa200_2, fa200_3]
    have H := H.drew
    obtain ⟨cells, hrow, hrc⟩ := H.gow 1 rfl
    refine ⟨fun w' => Gr w5.drew w', Gr.refl _, ?_⟩
    refine rdi (rdG one24 (H.box 2 rfl) rfl) (rdi (rdG one24 (H.box 2 rfl) rfl) ?_)
    refine rdi (ix24_0 (fun _ => hrow.ptr (by simp)) (by simp)) ?_
    have hsrc := hrow.src
    obtain ⟨Y, d, a1, a2, a3, a4⟩ := hrc.cell 0 (by simp)
    rw [rd_loadAgg agg33 sz33 (cs := [.int .i64 r.1, .slice Y r.2.length d]) rfl (fun w' hw j hj => by
      match j, hj with
      | 0, _ => rw [add_add]; exact hw.cell (hsrc.cell _ _ a1)
      | 1, _ => rw [add_add]; exact hw.cell (hsrc.cell _ _ a2))]
    refine do_build_of u24 inf33 (cells := [.int .i64 r.1, .slice Y r.2.length d]) (by decide) (by decide) (by simp [Instr.fill, madeCells, Value.cells, rng1, rng2]) rfl fun b6 w6 hb5 hb6 g6 _ r6 => ?_
    refine ⟨g6, ?_⟩
    have H := H.step g6
    obtain ⟨cells, hrow, hrc⟩ := H.gow 1 rfl
    refine do_append2 u24 inf33 rfl (by decide) hrow (Row.src (r6 _ (Nat.le_refl _))) rfl (by intro v hv; simp at hv; rcases hv with rfl | rfl <;> rfl) (by have := hd.few; simp only [List.length_cons] at this ⊢; omega) (by have := hd.few; simp only [List.length_cons] at this ⊢; omega) (Nat.zero_le _) fun X' c' w' hr' hg hmv => ?_
    have hnew : ∀ q, q < w6.heap.size → blk X ≠ some q → blk X' ≠ some q := fun q hq hn e => by
      rcases hmv with h1 | h1
      · exact hn (h1 ▸ e)
      · have := h1 q e
        omega
    have hrc2 : RuleCells (fun q => ft q ∧ blk X' ≠ some q) w' ((r :: rs) ++ [r]) (cells ++ [.int .i64 r.1, .slice Y r.2.length d]) := by
      refine RuleCells.append ((hrc.lt.same fun q hq => hg.block q hq.2 fun e => hq.1.2 e.symm).mono fun q hq => ⟨hq.1.1, hnew q hq.2 hq.1.2⟩) (.cons a3 ?_ .nil)
      exact ((ltF (a4.gr g6)).same' fun q hq => hg.block q hq.2 fun e => hq.1.2 e.symm).mono fun q hq => ⟨hq.1.1, hnew q hq.2 hq.1.2⟩
    have hlen : (r :: rs).length + 1 = ((r :: rs) ++ [r]).length := by simp
    rw [hlen] at hr' ⊢
    have H := H.set (i := 1) rfl (it' := gth ft X' c' ((r :: rs) ++ [r])) (gx_of hg fun q hq => .inl hq) (fun q hq => by
      rcases hq with hq | hq
      · rcases hmv with e | e
        · exact .inl (.inl (e ▸ hq))
        · exact .inr (e q hq)
      · exact .inl (.inr hq)) (fun q hq => by
      rcases hq with hq | hq
      · exact (hr'.ge hq).2
      · exact Nat.lt_of_lt_of_le ((H.ok 1 _ rfl).hi q (.inr hq)) hg.size) (gow_kept ⟨_, hr', hrc2⟩)
    simp only [List.set_cons_zero, List.set_cons_succ] at H
    simp only [zq18, zq19, zq20, zq21, zq22, zq23, zq24, zq25, zq26, zq27, zq28, zq4, zq3, zq1, zq2, zq0, zq29, zq30, zq14, zq15, zq16, zq17, zq13, zq10, zq12, zq11, zq7, zq5, zq6, zq9, zq8, zq31, zq32, ite_T, ite_F, zq33, zq34, zq35, Nat.reduceEqDiff, len22, len24, fa26_0, fa26_1, fa26_2, len27, fa33_0, fa33_1, len35, fa114_0, fa114_1, fa114_2, fa124_0, fa124_1, len134, len154, fa156_0, fa156_1, fa156_2, fa156_3, fa156_4, fa156_5, fa156_6, fa200_0, fa200_1, fa200_2, fa200_3]
    refine storeH H 2 rfl sz24 rfl rfl rfl fun w8 H => ?_
    simp only [List.set_cons_zero, List.set_cons_succ, List.take_succ_cons, List.take_zero, List.drop_succ_cons, List.drop_zero, List.nil_append, List.cons_append, Value.cells] at H
    exact hK _ _ ⟨rfl, rfl, ⟨nn, tt, (r :: rs) ++ [r]⟩, ft, X', c', ⟨hd.nons, hd.toks, by simp, by have := hd.few; simp only [List.length_append, List.length_cons, List.length_nil] at this ⊢; omega⟩, curMore (m := N + 600) H (by omega)⟩
  simp only [show ¬ ((t : Int) = 2) from by omega, decide_false, zq18, zq19, zq20, zq21, zq22, zq23, zq24, zq25, zq26, zq27, zq28, zq4, zq3, zq1, zq2, zq0, zq29, zq30, zq14, zq15, zq16, zq17, zq13, zq10, zq12, zq11, zq7, zq5, zq6, zq9, zq8, zq31, zq32, ite_T, ite_F, zq33, zq34, zq35, Nat.reduceEqDiff, len22, len24, fa26_0, fa26_1, fa26_2, len27, fa33_0, fa33_1, len35, fa114_0, fa114_1, fa114_2, fa124_0, fa124_1, len134, len154, fa156_0, fa156_1, fa156_2, fa156_3, fa156_4, fa156_5, fa156_6, fa200_0, fa200_1, fa200_2, fa200_3]
  by_cases h3 : t = 3
  · subst h3
    simp only [show (((3 : Nat) : Int) = 3) from rfl, decide_true, zq18, zq19, zq20, zq21, zq22, zq23, zq24, zq25, zq26, zq27, zq28, zq4, zq3, zq1, zq2, zq0, zq29, zq30, zq14, zq15, zq16, zq17, zq13, zq10, zq12, zq11, zq7, zq5, zq6, zq9, zq8, zq31, zq32, ite_T, ite_F, zq33, zq34, zq35, Nat.reduceEqDiff, len22, len24, fa26_0, fa26_1, fa26_2, len27, fa33_0, fa33_1, len35, fa114_0, fa114_1, fa114_2, fa124_0, fa124_1, len134, len154, fa156_0, fa156_1, fa156_2, fa156_3, fa156_4, fa156_5, fa156_6, fa200_0, fa200_1, fa200_2, fa200_3]
    have H := H.drew
    refine ⟨fun w' => Box w' b5 [.int .i64 nn, .int .i64 tt, .slice X (r :: rs).length c] 26, H.box 2 rfl, ?_⟩
    refine rdi (ldS24 (a := ⟨b5, 0 + 2, none⟩) fun w' hw' => (hw'.cell (0 + 2)).trans rfl) ?_
    refine pick_c H 0 rfl hC (by omega) (by omega) fun w6 y _ hy H => ?_
    simp only [List.set_cons_zero, zq18, zq19, zq20, zq21, zq22, zq23, zq24, zq25, zq26, zq27, zq28, zq4, zq3, zq1, zq2, zq0, zq29, zq30, zq14, zq15, zq16, zq17, zq13, zq10, zq12, zq11, zq7, zq5, zq6, zq9, zq8, zq31, zq32, ite_T, ite_F, zq33, zq34, zq35, Nat.reduceEqDiff, len22, len24, fa26_0, fa26_1, fa26_2, len27, fa33_0, fa33_1, len35, fa114_0, fa114_1, fa114_2, fa124_0, fa124_1, len134, len154, fa156_0, fa156_1, fa156_2, fa156_3, fa156_4, fa156_5, fa156_6, fa200_0, fa200_1, fa200_2, fa200_3] at H ⊢
    refine ⟨H.box 2 rfl, ?_⟩
    obtain ⟨cells, hrow, hrc⟩ := H.gow 1 rfl
    refine rdi (ix24_0 (fun _ => hrow.ptr (by simp)) (by simp)) ?_
    simp only [zq18, zq19, zq20, zq21, zq22, zq23, zq24, zq25, zq26, zq27, zq28, zq4, zq3, zq1, zq2, zq0, zq29, zq30, zq14, zq15, zq16, zq17, zq13, zq10, zq12, zq11, zq7, zq5, zq6, zq9, zq8, zq31, zq32, ite_T, ite_F, zq33, zq34, zq35, Nat.reduceEqDiff, len22, len24, fa26_0, fa26_1, fa26_2, len27, fa33_0, fa33_1, len35, fa114_0, fa114_1, fa114_2, fa124_0, fa124_1, len134, len154, fa156_0, fa156_1, fa156_2, fa156_3, fa156_4, fa156_5, fa156_6, fa200_0, fa200_1, fa200_2, fa200_3]
    generalize IntKind.i64.wrap ((y : Int) - 1) = v
    refine leftH H 1 rfl fun w8 H => ?_
    simp only [List.set_cons_zero, List.set_cons_succ] at H
    exact hK _ _ ⟨rfl, rfl, ⟨nn, tt, (v, r.2) :: rs⟩, ft, X, c, ⟨hd.nons, hd.toks, by simp, by have := hd.few; simp only [List.length_cons] at this ⊢; omega⟩, curMore (m := N + 600) H (by omega)⟩
  simp only [show ¬ ((t : Int) = 3) from by omega, decide_false, zq18, zq19, zq20, zq21, zq22, zq23, zq24, zq25, zq26, zq27, zq28, zq4, zq3, zq1, zq2, zq0, zq29, zq30, zq14, zq15, zq16, zq17, zq13, zq10, zq12, zq11, zq7, zq5, zq6, zq9, zq8, zq31, zq32, ite_T, ite_F, zq33, zq34, zq35, Nat.reduceEqDiff, len22, len24, fa26_0, fa26_1, fa26_2, len27, fa33_0, fa33_1, len35, fa114_0, fa114_1, fa114_2, fa124_0, fa124_1, len134, len154, fa156_0, fa156_1, fa156_2, fa156_3, fa156_4, fa156_5, fa156_6, fa200_0, fa200_1, fa200_2, fa200_3]
  exact hK _ _ ⟨rfl, rfl, ⟨nn, tt, r :: rs⟩, ft, X, c, ⟨hd.nons, hd.toks, hd.some, by have := hd.few; simp only [List.length_cons] at this ⊢; omega⟩, curMore (m := N + 600) H (by omega)⟩
set_option maxHeartbeats 1600000 in
theorem word_c (H : Apt w0 w (cur bc (.slice C bs.length cap) N :: E)) (hC : Byts w0 C bs) (hN : N ≤ 10000000) {nons toks : Int} {g : Value} {most : Int} (hm : 0 ≤ most ∧ most ≤ 10) (ht : 0 ≤ toks ∧ toks ≤ 1000) (hk : ∀ w' Z d ws, ws.length ≤ 10 → Apt w0 w' (cur bc (.slice C bs.length cap) (N + 100) :: ows Z d ws :: E) → k (.slice Z ws.length d) w') :
    CallK Try.prog 218 [ptrv bc, .agg #[.int .i64 nons, .int .i64 toks, g], .int .i64 most] k w := by
  refine enter218 ?_
  unfold S218
  refine boxH H fun b1 w1 H => ?_
  have H := H.insert 1
  simp only [List.take_succ_cons, List.take_zero, List.drop_succ_cons, List.drop_zero, List.nil_append, List.cons_append] at H
  simp only [zq18, zq19, zq20, zq21, zq22, zq23, zq24, zq25, zq26, zq27, zq28, zq4, zq3, zq1, zq2, zq0, zq29, zq30, zq14, zq15, zq16, zq17, zq13, zq10, zq12, zq11, zq7, zq5, zq6, zq9, zq8, zq31, zq32, ite_T, ite_F, zq33, zq34, zq35, Nat.reduceEqDiff, len22, len24, fa26_0, fa26_1, fa26_2, len27, fa33_0, fa33_1, len35, fa114_0, fa114_1, fa114_2, fa124_0, fa124_1, len134, len154, fa156_0, fa156_1, fa156_2, fa156_3, fa156_4, fa156_5, fa156_6, fa200_0, fa200_1, fa200_2, fa200_3]
  rw [i64_of (by omega) (by omega)]
  refine pick_c H 0 rfl hC (by omega) (by omega) fun w2 n0 h1 h2 H => ?_
  simp only [List.set_cons_zero] at H
  have hn0 : n0 ≤ 10 := by
    by_cases h : most + 1 ≤ 1
    · have := h1 h; omega
    · have := h2 (by omega); omega
  have H := (H.addOwn (Gr.refl _) (show Own 3 w2 w2.heap.size none 0 [] from Row.nil _ _ _ _)).insert 1
  simp only [List.take_succ_cons, List.take_zero, List.drop_succ_cons, List.drop_zero, List.nil_append, List.cons_append] at H
  refine loop_ghost (fun o f w' => o ≤ n0 ∧ f 8 = .int .i64 (o : Int) ∧ ∃ N2 Z d, ∃ xs : List Int, f 7 = .slice Z xs.length d ∧ N2 ≤ N + 2 + (n0 - o) * 2 ∧ xs.length ≤ n0 - o ∧ Apt w0 w' (cur bc (.slice C bs.length cap) N2 :: ows Z d xs :: bx b1 (Value.agg #[.int .i64 nons, .int .i64 toks, g]).cells.toList 26 :: E)) (fun o => o) n0
    ⟨Nat.le_refl _, rfl, _, none, 0, [], rfl, by omega, by simp, H⟩ ?_
  clear H
  rintro o f w3 NN hag ⟨ho, f8, N2, Z, d, xs, f7, hN2, hxs, H⟩ hN'
  have f0 : f 0 = ptrv bc := hag 0 (by decide)
  have f4 : f 4 = ptrv b1 := hag 4 (by decide)
  simp only [f0, f4, f7, f8, zq18, zq19, zq20, zq21, zq22, zq23, zq24, zq25, zq26, zq27, zq28, zq4, zq3, zq1, zq2, zq0, zq29, zq30, zq14, zq15, zq16, zq17, zq13, zq10, zq12, zq11, zq7, zq5, zq6, zq9, zq8, zq31, zq32, ite_T, ite_F, zq33, zq34, zq35, Nat.reduceEqDiff, len22, len24, fa26_0, fa26_1, fa26_2, len27, fa33_0, fa33_1, len35, fa114_0, fa114_1, fa114_2, fa124_0, fa124_1, len134, len154, fa156_0, fa156_1, fa156_2, fa156_3, fa156_4, fa156_5, fa156_6, fa200_0, fa200_1, fa200_2, fa200_3]
  by_cases ho0 : 0 < o
  case neg =>
    simp only [show ¬ ((0 : Int) < (o : Int)) from by omega, decide_false, zq18, zq19, zq20, zq21, zq22, zq23, zq24, zq25, zq26, zq27, zq28, zq4, zq3, zq1, zq2, zq0, zq29, zq30, zq14, zq15, zq16, zq17, zq13, zq10, zq12, zq11, zq7, zq5, zq6, zq9, zq8, zq31, zq32, ite_T, ite_F, zq33, zq34, zq35, Nat.reduceEqDiff, len22, len24, fa26_0, fa26_1, fa26_2, len27, fa33_0, fa33_1, len35, fa114_0, fa114_1, fa114_2, fa124_0, fa124_1, len134, len154, fa156_0, fa156_1, fa156_2, fa156_3, fa156_4, fa156_5, fa156_6, fa200_0, fa200_1, fa200_2, fa200_3]
    have fin : ∀ w' N2 Z d ws, N2 ≤ N + 100 → List.length ws ≤ 10 → Apt w0 w' (cur bc (.slice C bs.length cap) N2 :: ows Z d ws :: bx b1 (Value.agg #[.int .i64 nons, .int .i64 toks, g]).cells.toList 26 :: E) → k (.slice Z ws.length d) w' := fun w' N2 Z d ws hn hl H => by
      have H := H.erase 2
      simp only [List.eraseIdx_cons_zero, List.eraseIdx_cons_succ] at H
      exact hk w' Z d ws hl (curMore H hn)
    refine join_as (fun f w' => ∃ N2 Z d, ∃ ws : List Int, f 7 = .slice Z ws.length d ∧ N2 ≤ N + 100 ∧ ws.length ≤ 10 ∧ Apt w0 w' (cur bc (.slice C bs.length cap) N2 :: ows Z d ws :: bx b1 (Value.agg #[.int .i64 nons, .int .i64 toks, g]).cells.toList 26 :: E)) (fun K hK => ?_) ?_
    case refine_2 =>
      rintro f w' ⟨N2, Z, d, ws, f7, h1, h2, H⟩
      rw [f7]
      exact fin w' N2 Z d ws h1 h2 H
    by_cases hx0 : xs.length = 0
    · simp only [show ¬ ((0 : Int) < (xs.length : Int)) from by omega, decide_false, zq18, zq19, zq20, zq21, zq22, zq23, zq24, zq25, zq26, zq27, zq28, zq4, zq3, zq1, zq2, zq0, zq29, zq30, zq14, zq15, zq16, zq17, zq13, zq10, zq12, zq11, zq7, zq5, zq6, zq9, zq8, zq31, zq32, ite_T, ite_F, zq33, zq34, zq35, Nat.reduceEqDiff, len22, len24, fa26_0, fa26_1, fa26_2, len27, fa33_0, fa33_1, len35, fa114_0, fa114_1, fa114_2, fa124_0, fa124_1, len134, len154, fa156_0, fa156_1, fa156_2, fa156_3, fa156_4, fa156_5, fa156_6, fa200_0, fa200_1, fa200_2, fa200_3]
      exact hK _ _ ⟨N2, Z, d, xs, f7, by omega, by omega, H⟩
    simp only [show ((0 : Int) < (xs.length : Int)) from by omega, decide_true, zq18, zq19, zq20, zq21, zq22, zq23, zq24, zq25, zq26, zq27, zq28, zq4, zq3, zq1, zq2, zq0, zq29, zq30, zq14, zq15, zq16, zq17, zq13, zq10, zq12, zq11, zq7, zq5, zq6, zq9, zq8, zq31, zq32, ite_T, ite_F, zq33, zq34, zq35, Nat.reduceEqDiff, len22, len24, fa26_0, fa26_1, fa26_2, len27, fa33_0, fa33_1, len35, fa114_0, fa114_1, fa114_2, fa124_0, fa124_1, len134, len154, fa156_0, fa156_1, fa156_2, fa156_3, fa156_4, fa156_5, fa156_6, fa200_0, fa200_1, fa200_2, fa200_3]
    refine one_c H 0 rfl hC (by omega) (by omega) fun w4 b H => ?_
    simp only [List.set_cons_zero] at H
    cases b
    · simp only [zq18, zq19, zq20, zq21, zq22, zq23, zq24, zq25, zq26, zq27, zq28, zq4, zq3, zq1, zq2, zq0, zq29, zq30, zq14, zq15, zq16, zq17, zq13, zq10, zq12, zq11, zq7, zq5, zq6, zq9, zq8, zq31, zq32, ite_T, ite_F, zq33, zq34, zq35, Nat.reduceEqDiff, len22, len24, fa26_0, fa26_1, fa26_2, len27, fa33_0, fa33_1, len35, fa114_0, fa114_1, fa114_2, fa124_0, fa124_1, len134, len154, fa156_0, fa156_1, fa156_2, fa156_3, fa156_4, fa156_5, fa156_6, fa200_0, fa200_1, fa200_2, fa200_3]
      exact hK _ _ ⟨_, Z, d, xs, f7, by omega, by omega, H⟩
    simp only [zq18, zq19, zq20, zq21, zq22, zq23, zq24, zq25, zq26, zq27, zq28, zq4, zq3, zq1, zq2, zq0, zq29, zq30, zq14, zq15, zq16, zq17, zq13, zq10, zq12, zq11, zq7, zq5, zq6, zq9, zq8, zq31, zq32, ite_T, ite_F, zq33, zq34, zq35, Nat.reduceEqDiff, len22, len24, fa26_0, fa26_1, fa26_2, len27, fa33_0, fa33_1, len35, fa114_0, fa114_1, fa114_2, fa124_0, fa124_1, len134, len154, fa156_0, fa156_1, fa156_2, fa156_3, fa156_4, fa156_5, fa156_6, fa200_0, fa200_1, fa200_2, fa200_3]
    refine buildH H u27 inf3 (ints [-1, 4]) (by decide) (by decide) (by simp [Instr.fill, madeCells, Value.cells, rng2, ints]) rfl fun b7 w6 H => ?_
    have H := H.insert 1
    simp only [List.take_succ_cons, List.take_zero, List.drop_succ_cons, List.drop_zero, List.nil_append, List.cons_append] at H
    refine among_c (xs := [-1, 4]) H 0 rfl hC (by omega) (fun w' H => Apt.ints H 1 (xs := [-1, 4]) rfl) rfl (by simp) (by simp) fun w7 j hj H => ?_
    have H := H.erase 1
    simp only [List.set_cons_zero, List.eraseIdx_cons_zero, List.eraseIdx_cons_succ] at H
    have hrow := H.own 1 rfl
    refine rdi (ix27_0 (fun _ => hrow.ptr (by omega)) (by omega)) ?_
    generalize ([-1, 4] : List Int).getD j 0 = y
    refine do_store_row sz3 rfl rfl hrow (by omega) fun w8 hg hs hr => ?_
    have hl : (xs.set 0 y).length = xs.length := List.length_set
    have hr2 : Own 3 w8 w0.heap.size Z d (xs.set 0 y) := by
      show Row w8 w0.heap.size 3 1 Z (xs.set 0 y).length d (ints (xs.set 0 y))
      rw [hl, show ints (xs.set 0 y) = (ints xs).set 0 (.int .i64 y) from by simp [ints]]
      exact hr
    have H := H.set (i := 1) rfl (it' := ows Z d (xs.set 0 y)) (gx_of hg fun q hq => hq) (fun q hq => .inl hq) (fun q hq => (Row.ge hr2 hq).2) (rwi_kept hr2)
    simp only [List.set_cons_zero, List.set_cons_succ] at H
    exact hK _ _ ⟨_, Z, d, xs.set 0 y, by rw [hl]; exact f7, by omega, by omega, H⟩
  simp only [show ((0 : Int) < (o : Int)) from by omega, decide_true, zq18, zq19, zq20, zq21, zq22, zq23, zq24, zq25, zq26, zq27, zq28, zq4, zq3, zq1, zq2, zq0, zq29, zq30, zq14, zq15, zq16, zq17, zq13, zq10, zq12, zq11, zq7, zq5, zq6, zq9, zq8, zq31, zq32, ite_T, ite_F, zq33, zq34, zq35, Nat.reduceEqDiff, len22, len24, fa26_0, fa26_1, fa26_2, len27, fa33_0, fa33_1, len35, fa114_0, fa114_1, fa114_2, fa124_0, fa124_1, len134, len154, fa156_0, fa156_1, fa156_2, fa156_3, fa156_4, fa156_5, fa156_6, fa200_0, fa200_1, fa200_2, fa200_3]
  rw [ldB3 (H.box 2 rfl) rfl]
  refine l1Most_c ?_
  refine pick_c H 0 rfl hC (by omega) (by split <;> omega) fun w4 y _ _ H => ?_
  simp only [List.set_cons_zero] at H
  refine pushH H 1 rfl rfl (by omega) fun t1 Z2 d2 w5 H => ?_
  simp only [List.set_cons_zero, List.set_cons_succ, zq18, zq19, zq20, zq21, zq22, zq23, zq24, zq25, zq26, zq27, zq28, zq4, zq3, zq1, zq2, zq0, zq29, zq30, zq14, zq15, zq16, zq17, zq13, zq10, zq12, zq11, zq7, zq5, zq6, zq9, zq8, zq31, zq32, ite_T, ite_F, zq33, zq34, zq35, Nat.reduceEqDiff, len22, len24, fa26_0, fa26_1, fa26_2, len27, fa33_0, fa33_1, len35, fa114_0, fa114_1, fa114_2, fa124_0, fa124_1, len134, len154, fa156_0, fa156_1, fa156_2, fa156_3, fa156_4, fa156_5, fa156_6, fa200_0, fa200_1, fa200_2, fa200_3] at H ⊢
  rw [i64_of (by omega) (by omega), show (o : Int) - 1 = ((o - 1 : Nat) : Int) from by omega]
  exact hN' (o - 1) _ _ ⟨by omega, rfl, _, Z2, d2, xs ++ [(y : Int)], rfl, by omega, by rw [List.length_append, List.length_singleton]; omega, H⟩ (by omega)
set_option maxHeartbeats 1600000 in
theorem wordIn_c (H : Apt w0 w (cur bc (.slice C bs.length cap) N :: E)) (hC : Byts w0 C bs) (hN : N ≤ 1000000) {gm : Gram} {Y : Option Addr} {cy : Nat} (hc : gm.rules.length ≤ cy) (hy : RulesF (fun _ => True) w Y gm.rules) (ht : 0 ≤ gm.toks ∧ gm.toks ≤ 1000) (hk : ∀ w' Z d ws, ws.length ≤ 20 → Apt w0 w' (cur bc (.slice C bs.length cap) (N + 200) :: ows Z d ws :: E) → k (.slice Z ws.length d) w') :
    CallK Try.prog 147 [ptrv bc, .agg #[.int .i64 gm.nons, .int .i64 gm.toks, .slice Y gm.rules.length cy]] k w := by
  refine enter147 ?_
  unfold S147
  refine do_box fun b1 w1 g1 hb1 hB1 => ?_
  have H := (H.addBox g1 hb1 hB1).insert 1
  simp only [List.take_succ_cons, List.take_zero, List.drop_succ_cons, List.drop_zero, List.nil_append, List.cons_append] at H
  rw [ldB_agg agg26 sz26 rfl (H.box 1 rfl)]
  refine specShortWords_c (gm := gm) (most := 3) ⟨Y, cy, rfl, hc, hy.gr g1⟩ fun w2 U d ps g2 o2 => ?_
  have H := (H.addLss g2 o2).insert 1
  simp only [List.take_succ_cons, List.take_zero, List.drop_succ_cons, List.drop_zero, List.nil_append, List.cons_append] at H
  have hsv : ∀ x ∈ (shortV gm 3).1, x.length ≤ 4 := fun x hx => by
    unfold shortV at hx
    split at hx
    · have := (shortW_mem hx).1
      simp at this
      omega
    · simp at hx
  have hsl : (shortV gm 3).1.length ≤ 10000 := by
    unfold shortV
    split
    · rename_i hh
      simp only [Bool.and_eq_true] at hh
      have := shortW_len (gm := gm) (n := (3 : Int).toNat + 1) (by have := (good_toks hh.1).2; omega) (by decide)
      simp at this ⊢
      omega
    · simp
  generalize hSW : (shortV gm 3).1 = SW at *
  generalize (shortV gm 3).2 = okb at *
  have sec : ∀ {w' : World} {N' : Nat}, N' ≤ N + 100 → Apt w0 w' (cur bc (.slice C bs.length cap) N' :: lss U d SW ps :: bx b1 (Value.agg #[.int .i64 gm.nons, .int .i64 gm.toks, .slice Y gm.rules.length cy]).cells.toList 26 :: E) → Rd Try.prog (WS.at w') (sLoad 26 (ptrv b1)) fun t34 => CallK Try.prog 218 [ptrv bc, t34, .int .i64 5] (fun t35 w36 => k t35 w36) w' := fun {w' N'} hn H => by
    rw [ldB_agg agg26 sz26 rfl (H.box 2 rfl)]
    have H := (H.erase 2).erase 1
    simp only [List.eraseIdx_cons_zero, List.eraseIdx_cons_succ] at H
    refine word_c H hC (by omega) (by omega) ht fun w3 Z d ws hl H => ?_
    exact hk w3 Z d ws (by omega) (curMore H (by omega))
  simp only [zq18, zq19, zq20, zq21, zq22, zq23, zq24, zq25, zq26, zq27, zq28, zq4, zq3, zq1, zq2, zq0, zq29, zq30, zq14, zq15, zq16, zq17, zq13, zq10, zq12, zq11, zq7, zq5, zq6, zq9, zq8, zq31, zq32, ite_T, ite_F, zq33, zq34, zq35, Nat.reduceEqDiff, len22, len24, fa26_0, fa26_1, fa26_2, len27, fa33_0, fa33_1, len35, fa114_0, fa114_1, fa114_2, fa124_0, fa124_1, len134, len154, fa156_0, fa156_1, fa156_2, fa156_3, fa156_4, fa156_5, fa156_6, fa200_0, fa200_1, fa200_2, fa200_3]
  cases okb
  · simp only [zq18, zq19, zq20, zq21, zq22, zq23, zq24, zq25, zq26, zq27, zq28, zq4, zq3, zq1, zq2, zq0, zq29, zq30, zq14, zq15, zq16, zq17, zq13, zq10, zq12, zq11, zq7, zq5, zq6, zq9, zq8, zq31, zq32, ite_T, ite_F, zq33, zq34, zq35, Nat.reduceEqDiff, len22, len24, fa26_0, fa26_1, fa26_2, len27, fa33_0, fa33_1, len35, fa114_0, fa114_1, fa114_2, fa124_0, fa124_1, len134, len154, fa156_0, fa156_1, fa156_2, fa156_3, fa156_4, fa156_5, fa156_6, fa200_0, fa200_1, fa200_2, fa200_3]
    exact sec (by omega) H
  simp only [zq18, zq19, zq20, zq21, zq22, zq23, zq24, zq25, zq26, zq27, zq28, zq4, zq3, zq1, zq2, zq0, zq29, zq30, zq14, zq15, zq16, zq17, zq13, zq10, zq12, zq11, zq7, zq5, zq6, zq9, zq8, zq31, zq32, ite_T, ite_F, zq33, zq34, zq35, Nat.reduceEqDiff, len22, len24, fa26_0, fa26_1, fa26_2, len27, fa33_0, fa33_1, len35, fa114_0, fa114_1, fa114_2, fa124_0, fa124_1, len134, len154, fa156_0, fa156_1, fa156_2, fa156_3, fa156_4, fa156_5, fa156_6, fa200_0, fa200_1, fa200_2, fa200_3]
  by_cases hl0 : SW.length = 0
  · simp only [show ¬ ((0 : Int) < (SW.length : Int)) from by omega, decide_false, zq18, zq19, zq20, zq21, zq22, zq23, zq24, zq25, zq26, zq27, zq28, zq4, zq3, zq1, zq2, zq0, zq29, zq30, zq14, zq15, zq16, zq17, zq13, zq10, zq12, zq11, zq7, zq5, zq6, zq9, zq8, zq31, zq32, ite_T, ite_F, zq33, zq34, zq35, Nat.reduceEqDiff, len22, len24, fa26_0, fa26_1, fa26_2, len27, fa33_0, fa33_1, len35, fa114_0, fa114_1, fa114_2, fa124_0, fa124_1, len134, len154, fa156_0, fa156_1, fa156_2, fa156_3, fa156_4, fa156_5, fa156_6, fa200_0, fa200_1, fa200_2, fa200_3]
    exact sec (by omega) H
  simp only [show ((0 : Int) < (SW.length : Int)) from by omega, decide_true, zq18, zq19, zq20, zq21, zq22, zq23, zq24, zq25, zq26, zq27, zq28, zq4, zq3, zq1, zq2, zq0, zq29, zq30, zq14, zq15, zq16, zq17, zq13, zq10, zq12, zq11, zq7, zq5, zq6, zq9, zq8, zq31, zq32, ite_T, ite_F, zq33, zq34, zq35, Nat.reduceEqDiff, len22, len24, fa26_0, fa26_1, fa26_2, len27, fa33_0, fa33_1, len35, fa114_0, fa114_1, fa114_2, fa124_0, fa124_1, len134, len154, fa156_0, fa156_1, fa156_2, fa156_3, fa156_4, fa156_5, fa156_6, fa200_0, fa200_1, fa200_2, fa200_3]
  refine one_c H 0 rfl hC (by omega) (by omega) fun w4 b H => ?_
  simp only [List.set_cons_zero] at H
  cases b
  · simp only [zq18, zq19, zq20, zq21, zq22, zq23, zq24, zq25, zq26, zq27, zq28, zq4, zq3, zq1, zq2, zq0, zq29, zq30, zq14, zq15, zq16, zq17, zq13, zq10, zq12, zq11, zq7, zq5, zq6, zq9, zq8, zq31, zq32, ite_T, ite_F, zq33, zq34, zq35, Nat.reduceEqDiff, len22, len24, fa26_0, fa26_1, fa26_2, len27, fa33_0, fa33_1, len35, fa114_0, fa114_1, fa114_2, fa124_0, fa124_1, len134, len154, fa156_0, fa156_1, fa156_2, fa156_3, fa156_4, fa156_5, fa156_6, fa200_0, fa200_1, fa200_2, fa200_3]
    exact sec (by omega) H
  simp only [zq18, zq19, zq20, zq21, zq22, zq23, zq24, zq25, zq26, zq27, zq28, zq4, zq3, zq1, zq2, zq0, zq29, zq30, zq14, zq15, zq16, zq17, zq13, zq10, zq12, zq11, zq7, zq5, zq6, zq9, zq8, zq31, zq32, ite_T, ite_F, zq33, zq34, zq35, Nat.reduceEqDiff, len22, len24, fa26_0, fa26_1, fa26_2, len27, fa33_0, fa33_1, len35, fa114_0, fa114_1, fa114_2, fa124_0, fa124_1, len134, len154, fa156_0, fa156_1, fa156_2, fa156_3, fa156_4, fa156_5, fa156_6, fa200_0, fa200_1, fa200_2, fa200_3]
  refine pick_c H 0 rfl hC (by omega) (by omega) fun w5 j h1 h2 H => ?_
  simp only [List.set_cons_zero] at H
  have hj : j < SW.length := by
    by_cases h : (SW.length : Int) ≤ 1
    · have := h1 h; omega
    · have := h2 (by omega); omega
  have hr := (H.lssi 1 rfl).read
  obtain ⟨Z, cz, t1, t2, t3⟩ := hr.row j hj
  have hx4 := hsv _ (rgt_mem hj)
  refine rdi (ixn35 hr.ptr hj) (rdi (ld27 t1) ?_)
  refine l1Own_c t3 rfl (by omega) fun X1 d1 w6 g6 o6 => ?_
  have H := (H.addOwn g6 o6).insert 1
  simp only [List.take_succ_cons, List.take_zero, List.drop_succ_cons, List.drop_zero, List.nil_append, List.cons_append] at H
  refine join_as (fun f w' => ∃ N2 Z d, ∃ ws : List Int, f 7 = .slice Z ws.length d ∧ N2 ≤ N + 200 ∧ ws.length ≤ 20 ∧ Apt w0 w' (cur bc (.slice C bs.length cap) N2 :: ows Z d ws :: E)) (fun K hK => ?_) ?_
  case refine_2 =>
    rintro f w' ⟨N2, Z, d, ws, f7, h1, h2, H⟩
    rw [f7]
    exact hk w' Z d ws h2 (curMore H h1)
  refine one_c H 0 rfl hC (by omega) (by omega) fun w7 b H => ?_
  simp only [List.set_cons_zero] at H
  have H := (H.erase 3).erase 2
  simp only [List.eraseIdx_cons_zero, List.eraseIdx_cons_succ] at H
  cases b
  · simp only [zq18, zq19, zq20, zq21, zq22, zq23, zq24, zq25, zq26, zq27, zq28, zq4, zq3, zq1, zq2, zq0, zq29, zq30, zq14, zq15, zq16, zq17, zq13, zq10, zq12, zq11, zq7, zq5, zq6, zq9, zq8, zq31, zq32, ite_T, ite_F, zq33, zq34, zq35, Nat.reduceEqDiff, len22, len24, fa26_0, fa26_1, fa26_2, len27, fa33_0, fa33_1, len35, fa114_0, fa114_1, fa114_2, fa124_0, fa124_1, len134, len154, fa156_0, fa156_1, fa156_2, fa156_3, fa156_4, fa156_5, fa156_6, fa200_0, fa200_1, fa200_2, fa200_3]
    exact hK _ _ ⟨_, X1, d1, rgt SW j, rfl, by omega, by omega, H⟩
  simp only [zq18, zq19, zq20, zq21, zq22, zq23, zq24, zq25, zq26, zq27, zq28, zq4, zq3, zq1, zq2, zq0, zq29, zq30, zq14, zq15, zq16, zq17, zq13, zq10, zq12, zq11, zq7, zq5, zq6, zq9, zq8, zq31, zq32, ite_T, ite_F, zq33, zq34, zq35, Nat.reduceEqDiff, len22, len24, fa26_0, fa26_1, fa26_2, len27, fa33_0, fa33_1, len35, fa114_0, fa114_1, fa114_2, fa124_0, fa124_1, len134, len154, fa156_0, fa156_1, fa156_2, fa156_3, fa156_4, fa156_5, fa156_6, fa200_0, fa200_1, fa200_2, fa200_3]
  refine apH H 1 rfl (H.ints 1 rfl) rfl rfl (by omega) fun X2 d2 w8 H => ?_
  simp only [List.set_cons_zero, List.set_cons_succ] at H
  exact hK _ _ ⟨_, X2, d2, rgt SW j ++ rgt SW j, rfl, by omega, by rw [List.length_append]; omega, H⟩
end
end Go.Proofs.Ytegcjkhebecgbaa

/- Cb: bodies of functions as terms of the frame calculus, printed by shgen.py of this repository. -/
set_option linter.unusedVariables false
set_option maxRecDepth 100000
namespace Go.Proofs.Ytegcjkhebecgbaa
open Go Go.Sh

/-! loop.example/g00758/laws.big -/
def pl15 : Plans := fun _ => ⟨false, [], .nil⟩
def S15 (v0 v1 : Value) (k : Value → World → Prop) (w : World) : Prop :=
 Rd Try.prog (WS.at w) (sBuiltin .len #[22] 3 [false] [v0]) fun t1 =>
 Rd Try.prog (WS.at w) (sBin .gtr 3 true t1 (.int .i64 1048576)) fun t2 =>
 GuardK t2 false (fun k w' => k v1 w') (fun t3 w4 =>
 GuardK t2 false (fun k w' => Rd Try.prog (WS.at w4) (sBuiltin .len #[22] 3 [false] [t3]) fun v => k v w') (fun t5 w6 =>
 GuardK t2 false (fun k w' => k v0 w') (fun t7 w8 =>
 GuardK t2 false (fun k w' => Rd Try.prog (WS.at w8) (sBuiltin .len #[22] 3 [false] [t7]) fun v => k v w') (fun t9 w10 =>
 GuardK t2 false (fun k w' => Rd Try.prog (WS.at w10) (sBin .sub 3 true (.int .i64 1048576) t9) fun v => k v w') (fun t11 w12 =>
 GuardK t2 false (fun k w' => Rd Try.prog (WS.at w12) (sBin .gtr 3 false t5 t11) fun v => k v w') (fun t13 w14 =>
 Rd Try.prog (WS.at w14) (sPick t2 (.bool true) t13) fun t15 =>
 k t15 w14) w12) w10) w8) w6) w4) w
theorem body15 : Try.f15.body = some (bodyOf Try.f15) := by kernel_rfl
theorem same15 (v0 v1 : Value) (k : Value → World → Prop) (w : World) : wpF Try.prog pl15 (bodyOf Try.f15) (bodyQ Try.prog Try.f15.results.toList k) (initF [v0, v1]) w = S15 v0 v1 k w := by kernel_rfl
theorem enter15 {v0 v1 : Value} {k : Value → World → Prop} {w : World} (h : S15 v0 v1 k w) : CallK Try.prog 15 [v0, v1] k w :=
  call_of_wpF (pl := pl15) mixed Try.func15 body15 (by kernel_rfl) (of_decide_eq_true (by kernel_rfl)) (by kernel_rfl) (by kernel_rfl) (Eq.mpr (same15 v0 v1 k w) h)

/-! loop.example/g00758/impl.Derives -/
/-! loop.example/g00758/spec.Derives -/
/-! loop.example/g00758/impl.SequenceDerives -/
/-! loop.example/g00758/impl.SpansOf -/
/-! loop.example/g00758/laws.containsList -/
/-! loop.example/g00758/spec.DrawShortWords -/
/-! loop.example/g00758/spec.DrawDerives -/
/-! loop.example/g00758/laws.sameLists -/
/-! loop.example/g00758/impl.InLanguage -/
/-! loop.example/g00758/spec.DrawSequenceDerives -/
/-! loop.example/g00758/spec.SequenceDerives -/
def S28 (v0 v1 v2 : Value) (k : Value → World → Prop) (w : World) : Prop :=
 Do Try.prog (sBox 26 v0) (fun t1 w2 =>
 Rd Try.prog (WS.at w2) (sLoad 26 t1) fun t3 =>
 CallK Try.prog 128 [t3, v2] (fun t4 w5 =>
 Rd Try.prog (WS.at w5) (sUn .not t4) fun t6 =>
 GuardK t6 false (fun k w' => Rd Try.prog (WS.at w5) (sLoad 26 t1) fun v => k v w') (fun t7 w8 =>
 GuardK t6 false (fun k w' => k v1 w') (fun t9 w10 =>
 GuardK t6 false (fun k w' => CallK Try.prog 160 [t7, t9, (.int .i64 4)] k w') (fun t11 w12 =>
 GuardK t6 false (fun k w' => Rd Try.prog (WS.at w12) (sUn .not t11) fun v => k v w') (fun t13 w14 =>
 Rd Try.prog (WS.at w14) (sPick t6 (.bool true) t13) fun t15 =>
 CondK t15
  (k (.tuple #[(.bool false), (.bool false)]) w14)
  (Rd Try.prog (WS.at w14) (sLoad 26 t1) fun t16 =>
  CallK Try.prog 162 [t16, v2] (fun t17 w18 =>
  Rd Try.prog (WS.at w18) (sBuiltin .len #[27] 3 [false] [v2]) fun t19 =>
  CallK Try.prog 161 [t17, v2, v1, (.int .i64 0), t19] (fun t20 w21 =>
  k (.tuple #[t20, (.bool true)]) w21) w18) w14)) w12) w10) w8) w5) w2) w
/-! loop.example/g00758/spec.DrawSpansOf -/
/-! loop.example/g00758/spec.SpansOf -/
/-! loop.example/g00758/laws.sameInts -/
/-! loop.example/g00758/spec.DrawInLanguage -/
def pl43 : Plans := fun i => match i with
  | 3 => ⟨true, [4], .step 0 .held (.step 1 .any (.step 2 .held (.step 3 .one (.step 4 .last (.step 5 .any (.nil))))))⟩
  | _ => ⟨false, [], .nil⟩
def S43 (v0 : Value) (k : Value → World → Prop) (w : World) : Prop :=
 Do Try.prog (sAlloc 26) (fun t1 w2 =>
 Rd Try.prog (WS.at w2) (sBuild 114 [(0, v0)]) fun t3 =>
 Do Try.prog (sBox 114 t3) (fun t4 w5 =>
 CallK Try.prog 145 [t4] (fun t6 w7 =>
 Do Try.prog (sAlloc 26) (fun t8 w9 =>
 Do Try.prog (sStore 26 t8 t6) (fun _ w10 =>
 ∃ S11 : World → Prop, ∃ h12 : S11 w10.drew,
 Rd Try.prog ⟨S11, w10.drew, h12⟩ (sLoad 26 t8) fun t13 =>
 Rd Try.prog ⟨S11, w10.drew, h12⟩ (sLoad 26 t8) fun t14 =>
 CallK Try.prog 147 [t4, t14] (fun t15 w16 =>
 S11 w16 ∧ Do Try.prog (sStore 26 t1 t13) (fun _ w17 =>
 Rd Try.prog (WS.at w17) (sLoadVar 26 t1) fun t18 => k (.tuple #[t18, t15]) w17) w16) w10.drew) w9) w7) w5) w2) w
theorem body43 : Try.f43.body = some (bodyOf Try.f43) := by kernel_rfl
theorem same43 (v0 : Value) (k : Value → World → Prop) (w : World) : wpF Try.prog pl43 (bodyOf Try.f43) (bodyQ Try.prog Try.f43.results.toList k) (initF [v0]) w = S43 v0 k w := by kernel_rfl
theorem enter43 {v0 : Value} {k : Value → World → Prop} {w : World} (h : S43 v0 k w) : CallK Try.prog 43 [v0] k w :=
  call_of_wpF (pl := pl43) mixed Try.func43 body43 (by kernel_rfl) (of_decide_eq_true (by kernel_rfl)) (by kernel_rfl) (by kernel_rfl) (Eq.mpr (same43 v0 k w) h)

/-! loop.example/g00758/spec.l4Form -/
/-! loop.example/g00758/laws.FnDerives -/
def S3 (v0 v1 : Value) (k : Value → World → Prop) (w : World) : Prop :=
 CallK Try.prog 15 [v0, v1] (fun t1 w2 =>
 CondK t1
  (k (.bool true) w2)
  (CallK Try.prog 16 [v0] (fun t3 w4 =>
  Rd Try.prog (WS.at w4) (sExtract t3 0) fun t5 =>
  Rd Try.prog (WS.at w4) (sExtract t3 1) fun t6 =>
  Rd Try.prog (WS.at w4) (sExtract t3 2) fun t7 =>
  Do Try.prog (sAlloc 26) (fun t8 w9 =>
  Do Try.prog (sStore 26 t8 t5) (fun _ w10 =>
  Rd Try.prog (WS.at w10) (sLoad 26 t8) fun t11 =>
  CallK Try.prog 17 [t11, t6, t7] (fun t12 w13 =>
  Rd Try.prog (WS.at w13) (sExtract t12 0) fun t14 =>
  Rd Try.prog (WS.at w13) (sExtract t12 1) fun t15 =>
  Rd Try.prog (WS.at w13) (sLoad 26 t8) fun t16 =>
  CallK Try.prog 18 [t16, t6, t7] (fun t17 w18 =>
  Rd Try.prog (WS.at w18) (sExtract t17 0) fun t19 =>
  Rd Try.prog (WS.at w18) (sExtract t17 1) fun t20 =>
  Rd Try.prog (WS.at w18) (sBin .neq 4 false t15 t20) fun t21 =>
  GuardK t21 false (fun k w' => k t14 w') (fun t22 w23 =>
  GuardK t21 false (fun k w' => k t19 w') (fun t24 w25 =>
  GuardK t21 false (fun k w' => Rd Try.prog (WS.at w25) (sBin .neq 4 false t22 t24) fun v => k v w') (fun t26 w27 =>
  Rd Try.prog (WS.at w27) (sPick t21 (.bool true) t26) fun t28 =>
  CondK t28
   (k (.bool false) w27)
   (Join (fun K29 =>
   CondK t15
    (Rd Try.prog (WS.at w27) (sFieldAddr 26 t8 2) fun t32 =>
    Rd Try.prog (WS.at w27) (sLoad 24 t32) fun t33 =>
    Rd Try.prog (WS.at w27) (sBuiltin .len #[24] 3 [false] [t33]) fun t34 =>
    LoopF [78, 79, 80, 14, 82, 83, 84, 85, 86, 81, 87, 88, 15, 16, 89, 90, 4, 91, 92, 93, 94, 95, 96, 97, 98, 99, 100, 12, 101, 77] (fun Q35 f36 w37 =>
     Rd Try.prog (WS.at w37) (sBin .lss 3 false (f36 77) (f36 76)) fun t38 =>
     CondK t38
      (Rd Try.prog (WS.at w37) (sIndexAddr 24 (f36 75) (f36 77)) fun t39 =>
      Rd Try.prog (WS.at w37) (sLoad 33 t39) fun t40 =>
      Do Try.prog (sAlloc 33) (fun t41 w42 =>
      Do Try.prog (sStore 33 t41 t40) (fun _ w43 =>
      Rd Try.prog (WS.at w43) (sLoad 26 (f36 5)) fun t44 =>
      Rd Try.prog (WS.at w43) (sFieldAddr 33 t41 1) fun t45 =>
      Rd Try.prog (WS.at w43) (sLoad 27 t45) fun t46 =>
      CallK Try.prog 19 [t44, t46, (f36 7)] (fun t47 w48 =>
      Rd Try.prog (WS.at w48) (sExtract t47 0) fun t49 =>
      Rd Try.prog (WS.at w48) (sExtract t47 1) fun t50 =>
      Rd Try.prog (WS.at w48) (sUn .not t50) fun t51 =>
      CondK t51
       (Q35 .ret (F.upd (F.upd (F.upd (F.upd (F.upd (F.upd (F.upd (F.upd (F.upd (F.upd (F.upd (F.upd (F.upd (F.upd (F.upd (F.upd (F.upd f36 78 t38) 79 t39) 80 t40) 14 t41) 82 t44) 83 t45) 84 t46) 85 (f36 7)) 86 t47) 81 t47) 87 t49) 88 t50) 15 t49) 16 t50) 89 t50) 90 t51) 4 (.bool false)) w48)
       (GuardK (f36 12) false (fun k w' => Rd Try.prog (WS.at w48) (sFieldAddr 33 t41 0) fun v => k v w') (fun t52 w53 =>
       GuardK (f36 12) false (fun k w' => Rd Try.prog (WS.at w53) (sLoad 3 t52) fun v => k v w') (fun t54 w55 =>
       GuardK (f36 12) false (fun k w' => k (f36 6) w') (fun t56 w57 =>
       GuardK (f36 12) false (fun k w' => Rd Try.prog (WS.at w57) (sBin .eql 3 false t54 t56) fun v => k v w') (fun t58 w59 =>
       GuardK (f36 12) false (fun k w' => k t58 w') (fun t60 w61 =>
       GuardK t60 true (fun k w' => k t49 w') (fun t62 w63 =>
       GuardK (f36 12) false (fun k w' => Rd Try.prog (WS.at w63) (sPick t60 t62 (.bool false)) fun v => k v w') (fun t64 w65 =>
       Rd Try.prog (WS.at w65) (sPick (f36 12) (.bool true) t64) fun t66 =>
       Rd Try.prog (WS.at w65) (sBin .add 3 true (f36 77) (.int .i64 1)) fun t67 =>
       Q35 .normal (F.upd (F.upd (F.upd (F.upd (F.upd (F.upd (F.upd (F.upd (F.upd (F.upd (F.upd (F.upd (F.upd (F.upd (F.upd (F.upd (F.upd (F.upd (F.upd (F.upd (F.upd (F.upd (F.upd (F.upd (F.upd (F.upd (F.upd (F.upd (F.upd f36 78 t38) 79 t39) 80 t40) 14 t41) 82 t44) 83 t45) 84 t46) 85 (f36 7)) 86 t47) 81 t47) 87 t49) 88 t50) 15 t49) 16 t50) 89 t50) 90 t51) 91 (f36 12)) 92 (f36 12)) 93 t52) 94 t54) 95 t56) 96 t58) 97 t60) 98 t62) 99 t64) 100 t66) 12 t66) 101 t67) 77 t67) w65) w63) w61) w59) w57) w55) w53) w48)) w43) w42) w37)
      (Q35 (.exit 0) (F.upd f36 78 t38) w37))
     (blockQ 0 (seqQ (fun f68 w69 =>
    Rd Try.prog (WS.at w69) (sLoad 26 (f68 5)) fun t70 =>
    CallK Try.prog 20 [t70, (f68 7)] (fun t71 w72 =>
    Rd Try.prog (WS.at w72) (sExtract t71 0) fun t73 =>
    Rd Try.prog (WS.at w72) (sExtract t71 1) fun t74 =>
    Rd Try.prog (WS.at w72) (sBin .neq 4 false (f68 12) (f68 8)) fun t75 =>
    GuardK t75 false (fun k w' => k t74 w') (fun t76 w77 =>
    GuardK t75 false (fun k w' => Rd Try.prog (WS.at w77) (sUn .not t76) fun v => k v w') (fun t78 w79 =>
    Rd Try.prog (WS.at w79) (sPick t75 (.bool true) t78) fun t80 =>
    GuardK t80 false (fun k w' => k t73 w') (fun t81 w82 =>
    GuardK t80 false (fun k w' => k (f68 7) w') (fun t83 w84 =>
    GuardK t80 false (fun k w' => Rd Try.prog (WS.at w84) (sBuiltin .len #[27] 3 [false] [t83]) fun v => k v w') (fun t85 w86 =>
    GuardK t80 false (fun k w' => k (f68 6) w') (fun t87 w88 =>
    GuardK t80 false (fun k w' => Do Try.prog (sBuildSlice 27 3 [(0, (.int .i64 0)), (1, t85), (2, t87)]) k w') (fun t89 w90 =>
    GuardK t80 false (fun k w' => CallK Try.prog 21 [t81, t89] k w') (fun t91 w92 =>
    GuardK t80 false (fun k w' => k (f68 8) w') (fun t93 w94 =>
    GuardK t80 false (fun k w' => Rd Try.prog (WS.at w94) (sBin .neq 4 false t91 t93) fun v => k v w') (fun t95 w96 =>
    Rd Try.prog (WS.at w96) (sPick t80 (.bool true) t95) fun t97 =>
    CondK t97
     (k (.bool false) w96)
     (K29 (F.upd (F.upd (F.upd (F.upd (F.upd (F.upd (F.upd (F.upd (F.upd (F.upd (F.upd (F.upd (F.upd (F.upd (F.upd (F.upd (F.upd (F.upd (F.upd (F.upd (F.upd (F.upd (F.upd (F.upd (F.upd f68 103 t70) 104 (f68 7)) 105 t71) 102 t71) 106 t73) 107 t74) 17 t73) 18 t74) 108 (f68 12)) 109 (f68 8)) 110 t75) 111 t75) 112 t76) 113 t78) 114 t80) 115 t80) 116 t81) 117 t83) 118 t85) 119 t87) 120 t89) 121 t91) 122 t93) 123 t95) 124 t97) w96)) w94) w92) w90) w88) w86) w84) w82) w79) w77) w72) w69) (seqQ K29 (bodyQ Try.prog [.tmp 4] k))))
     (F.upd (F.upd (F.upd (F.upd (F.upd (F.upd (F.upd (F.upd (F.upd (F.upd (F.upd (F.upd (F.upd (F.upd (F.upd (F.upd (F.upd (F.upd (F.upd (F.upd (F.upd (F.upd (F.upd (F.upd (F.upd (F.upd (F.upd (F.upd (F.upd (F.upd (F.upd (F.upd (F.upd (F.upd (F.upd (F.upd (F.upd (F.upd (F.upd (F.upd (F.upd (F.upd (F.upd (F.upd (F.upd (initF [v0, v1]) 4 (.bool false)) 42 v0) 43 v1) 44 t1) 46 v0) 47 t3) 45 t3) 48 t5) 49 t6) 50 t7) 5 t8) 6 t6) 7 t7) 52 t11) 53 t6) 54 t7) 55 t12) 51 t12) 56 t14) 57 t15) 8 t14) 9 t15) 59 t16) 60 t6) 61 t7) 62 t17) 58 t17) 63 t19) 64 t20) 10 t19) 11 t20) 65 t15) 66 t20) 67 t21) 68 t21) 69 t22) 70 t24) 71 t26) 72 t28) 73 t15) 12 (.bool false)) 74 t32) 75 t33) 76 t34) 77 (.int .i64 0)) w27)
    (K29 (F.upd (F.upd (F.upd (F.upd (F.upd (F.upd (F.upd (F.upd (F.upd (F.upd (F.upd (F.upd (F.upd (F.upd (F.upd (F.upd (F.upd (F.upd (F.upd (F.upd (F.upd (F.upd (F.upd (F.upd (F.upd (F.upd (F.upd (F.upd (F.upd (F.upd (F.upd (F.upd (F.upd (F.upd (F.upd (F.upd (F.upd (F.upd (F.upd (F.upd (initF [v0, v1]) 4 (.bool false)) 42 v0) 43 v1) 44 t1) 46 v0) 47 t3) 45 t3) 48 t5) 49 t6) 50 t7) 5 t8) 6 t6) 7 t7) 52 t11) 53 t6) 54 t7) 55 t12) 51 t12) 56 t14) 57 t15) 8 t14) 9 t15) 59 t16) 60 t6) 61 t7) 62 t17) 58 t17) 63 t19) 64 t20) 10 t19) 11 t20) 65 t15) 66 t20) 67 t21) 68 t21) 69 t22) 70 t24) 71 t26) 72 t28) 73 t15) w27)) (fun f30 w31 =>
   CallK Try.prog 22 [(f30 1)] (fun t100 w101 =>
   Rd Try.prog (WS.at w101) (sExtract t100 0) fun t102 =>
   Rd Try.prog (WS.at w101) (sExtract t100 1) fun t103 =>
   Do Try.prog (sAlloc 26) (fun t104 w105 =>
   Do Try.prog (sStore 26 t104 t102) (fun _ w106 =>
   Rd Try.prog (WS.at w106) (sLoad 26 t104) fun t107 =>
   CallK Try.prog 23 [t107, t103] (fun t108 w109 =>
   Rd Try.prog (WS.at w109) (sExtract t108 0) fun t110 =>
   Rd Try.prog (WS.at w109) (sExtract t108 1) fun t111 =>
   Rd Try.prog (WS.at w109) (sLoad 26 t104) fun t112 =>
   CallK Try.prog 24 [t112, t103] (fun t113 w114 =>
   Rd Try.prog (WS.at w114) (sExtract t113 0) fun t115 =>
   Rd Try.prog (WS.at w114) (sExtract t113 1) fun t116 =>
   Rd Try.prog (WS.at w114) (sBin .neq 4 false t111 t116) fun t117 =>
   GuardK t117 false (fun k w' => k t110 w') (fun t118 w119 =>
   GuardK t117 false (fun k w' => k t115 w') (fun t120 w121 =>
   GuardK t117 false (fun k w' => CallK Try.prog 25 [t118, t120] k w') (fun t122 w123 =>
   GuardK t117 false (fun k w' => Rd Try.prog (WS.at w123) (sUn .not t122) fun v => k v w') (fun t124 w125 =>
   Rd Try.prog (WS.at w125) (sPick t117 (.bool true) t124) fun t126 =>
   CondK t126
    (k (.bool false) w125)
    (Rd Try.prog (WS.at w125) (sBuiltin .len #[35] 3 [false] [t110]) fun t127 =>
    LoopF [154, 155, 156, 157, 25, 26, 159, 160, 161, 158, 162, 163, 27, 28, 164, 165, 166, 167, 168, 169, 170, 171, 172, 173, 174, 175, 176, 177, 178, 179, 180, 181, 182, 183, 184, 4, 185, 153] (fun Q128 f129 w130 =>
     Rd Try.prog (WS.at w130) (sBin .lss 3 false (f129 153) (f129 152)) fun t131 =>
     CondK t131
      (Rd Try.prog (WS.at w130) (sIndexAddr 35 (f129 151) (f129 153)) fun t132 =>
      Rd Try.prog (WS.at w130) (sLoad 27 t132) fun t133 =>
      Rd Try.prog (WS.at w130) (sLoad 26 (f129 19)) fun t134 =>
      CallK Try.prog 26 [t134, t133] (fun t135 w136 =>
      Rd Try.prog (WS.at w136) (sExtract t135 0) fun t137 =>
      Rd Try.prog (WS.at w136) (sExtract t135 1) fun t138 =>
      Rd Try.prog (WS.at w136) (sUn .not t138) fun t139 =>
      GuardK t139 false (fun k w' => k t137 w') (fun t140 w141 =>
      GuardK t139 false (fun k w' => Rd Try.prog (WS.at w141) (sUn .not t140) fun v => k v w') (fun t142 w143 =>
      Rd Try.prog (WS.at w143) (sPick t139 (.bool true) t142) fun t144 =>
      GuardK t144 false (fun k w' => k (f129 153) w') (fun t145 w146 =>
      GuardK t144 false (fun k w' => Rd Try.prog (WS.at w146) (sBin .gtr 3 true t145 (.int .i64 0)) fun v => k v w') (fun t147 w148 =>
      GuardK t144 false (fun k w' => k t147 w') (fun t149 w150 =>
      GuardK t149 true (fun k w' => k (f129 21) w') (fun t151 w152 =>
      GuardK t149 true (fun k w' => k (f129 153) w') (fun t153 w154 =>
      GuardK t149 true (fun k w' => Rd Try.prog (WS.at w154) (sBin .sub 3 true t153 (.int .i64 1)) fun v => k v w') (fun t155 w156 =>
      GuardK t149 true (fun k w' => Rd Try.prog (WS.at w156) (sIndexAddr 35 t151 t155) fun v => k v w') (fun t157 w158 =>
      GuardK t149 true (fun k w' => Rd Try.prog (WS.at w158) (sLoad 27 t157) fun v => k v w') (fun t159 w160 =>
      GuardK t149 true (fun k w' => Rd Try.prog (WS.at w160) (sBuiltin .len #[27] 3 [false] [t159]) fun v => k v w') (fun t161 w162 =>
      GuardK t149 true (fun k w' => k t133 w') (fun t163 w164 =>
      GuardK t149 true (fun k w' => Rd Try.prog (WS.at w164) (sBuiltin .len #[27] 3 [false] [t163]) fun v => k v w') (fun t165 w166 =>
      GuardK t149 true (fun k w' => Rd Try.prog (WS.at w166) (sBin .gtr 3 false t161 t165) fun v => k v w') (fun t167 w168 =>
      GuardK t144 false (fun k w' => Rd Try.prog (WS.at w168) (sPick t149 t167 (.bool false)) fun v => k v w') (fun t169 w170 =>
      Rd Try.prog (WS.at w170) (sPick t144 (.bool true) t169) fun t171 =>
      CondK t171
       (Q128 .ret (F.upd (F.upd (F.upd (F.upd (F.upd (F.upd (F.upd (F.upd (F.upd (F.upd (F.upd (F.upd (F.upd (F.upd (F.upd (F.upd (F.upd (F.upd (F.upd (F.upd (F.upd (F.upd (F.upd (F.upd (F.upd (F.upd (F.upd (F.upd (F.upd (F.upd (F.upd (F.upd (F.upd (F.upd (F.upd (F.upd f129 154 t131) 155 (f129 153)) 156 t132) 157 t133) 25 (f129 153)) 26 t133) 159 t134) 160 t133) 161 t135) 158 t135) 162 t137) 163 t138) 27 t137) 28 t138) 164 t138) 165 t139) 166 t139) 167 t140) 168 t142) 169 t144) 170 t144) 171 t145) 172 t147) 173 t149) 174 t151) 175 t153) 176 t155) 177 t157) 178 t159) 179 t161) 180 t163) 181 t165) 182 t167) 183 t169) 184 t171) 4 (.bool false)) w170)
       (Rd Try.prog (WS.at w170) (sBin .add 3 true (f129 153) (.int .i64 1)) fun t172 =>
       Q128 .normal (F.upd (F.upd (F.upd (F.upd (F.upd (F.upd (F.upd (F.upd (F.upd (F.upd (F.upd (F.upd (F.upd (F.upd (F.upd (F.upd (F.upd (F.upd (F.upd (F.upd (F.upd (F.upd (F.upd (F.upd (F.upd (F.upd (F.upd (F.upd (F.upd (F.upd (F.upd (F.upd (F.upd (F.upd (F.upd (F.upd (F.upd f129 154 t131) 155 (f129 153)) 156 t132) 157 t133) 25 (f129 153)) 26 t133) 159 t134) 160 t133) 161 t135) 158 t135) 162 t137) 163 t138) 27 t137) 28 t138) 164 t138) 165 t139) 166 t139) 167 t140) 168 t142) 169 t144) 170 t144) 171 t145) 172 t147) 173 t149) 174 t151) 175 t153) 176 t155) 177 t157) 178 t159) 179 t161) 180 t163) 181 t165) 182 t167) 183 t169) 184 t171) 185 t172) 153 t172) w170)) w168) w166) w164) w162) w160) w158) w156) w154) w152) w150) w148) w146) w143) w141) w136) w130)
      (Q128 (.exit 2) (F.upd f129 154 t131) w130))
     (blockQ 2 (seqQ (fun f173 w174 =>
    CallK Try.prog 27 [(f173 1)] (fun t175 w176 =>
    Rd Try.prog (WS.at w176) (sExtract t175 0) fun t177 =>
    Rd Try.prog (WS.at w176) (sExtract t175 1) fun t178 =>
    Rd Try.prog (WS.at w176) (sExtract t175 2) fun t179 =>
    Do Try.prog (sAlloc 26) (fun t180 w181 =>
    Do Try.prog (sStore 26 t180 t177) (fun _ w182 =>
    Rd Try.prog (WS.at w182) (sLoad 26 t180) fun t183 =>
    CallK Try.prog 19 [t183, t178, t179] (fun t184 w185 =>
    Rd Try.prog (WS.at w185) (sExtract t184 0) fun t186 =>
    Rd Try.prog (WS.at w185) (sExtract t184 1) fun t187 =>
    Rd Try.prog (WS.at w185) (sLoad 26 t180) fun t188 =>
    CallK Try.prog 28 [t188, t178, t179] (fun t189 w190 =>
    Rd Try.prog (WS.at w190) (sExtract t189 0) fun t191 =>
    Rd Try.prog (WS.at w190) (sExtract t189 1) fun t192 =>
    CallK Try.prog 29 [(f173 1)] (fun t193 w194 =>
    Rd Try.prog (WS.at w194) (sExtract t193 0) fun t195 =>
    Rd Try.prog (WS.at w194) (sExtract t193 1) fun t196 =>
    Do Try.prog (sAlloc 26) (fun t197 w198 =>
    Do Try.prog (sStore 26 t197 t195) (fun _ w199 =>
    Rd Try.prog (WS.at w199) (sLoad 26 t197) fun t200 =>
    CallK Try.prog 20 [t200, t196] (fun t201 w202 =>
    Rd Try.prog (WS.at w202) (sExtract t201 0) fun t203 =>
    Rd Try.prog (WS.at w202) (sExtract t201 1) fun t204 =>
    Rd Try.prog (WS.at w202) (sLoad 26 t197) fun t205 =>
    CallK Try.prog 30 [t205, t196] (fun t206 w207 =>
    Rd Try.prog (WS.at w207) (sExtract t206 0) fun t208 =>
    Rd Try.prog (WS.at w207) (sExtract t206 1) fun t209 =>
    Rd Try.prog (WS.at w207) (sBin .eql 4 false t187 t192) fun t210 =>
    GuardK t210 true (fun k w' => k t186 w') (fun t211 w212 =>
    GuardK t210 true (fun k w' => k t191 w') (fun t213 w214 =>
    GuardK t210 true (fun k w' => Rd Try.prog (WS.at w214) (sBin .eql 4 false t211 t213) fun v => k v w') (fun t215 w216 =>
    Rd Try.prog (WS.at w216) (sPick t210 t215 (.bool false)) fun t217 =>
    GuardK t217 true (fun k w' => k t204 w') (fun t218 w219 =>
    GuardK t217 true (fun k w' => k t209 w') (fun t220 w221 =>
    GuardK t217 true (fun k w' => Rd Try.prog (WS.at w221) (sBin .eql 4 false t218 t220) fun v => k v w') (fun t222 w223 =>
    Rd Try.prog (WS.at w223) (sPick t217 t222 (.bool false)) fun t224 =>
    GuardK t224 true (fun k w' => k t203 w') (fun t225 w226 =>
    GuardK t224 true (fun k w' => k t208 w') (fun t227 w228 =>
    GuardK t224 true (fun k w' => CallK Try.prog 25 [t225, t227] k w') (fun t229 w230 =>
    Rd Try.prog (WS.at w230) (sPick t224 t229 (.bool false)) fun t231 =>
    k t231 w230) w228) w226) w223) w221) w219) w216) w214) w212) w207) w202) w199) w198) w194) w190) w185) w182) w181) w176) w174) (bodyQ Try.prog [.tmp 4] k)))
     (F.upd (F.upd (F.upd (F.upd (F.upd (F.upd (F.upd (F.upd (F.upd (F.upd (F.upd (F.upd (F.upd (F.upd (F.upd (F.upd (F.upd (F.upd (F.upd (F.upd (F.upd (F.upd (F.upd (F.upd (F.upd (F.upd (F.upd (F.upd (F.upd (F.upd (F.upd (F.upd (F.upd (F.upd (F.upd f30 126 (f30 1)) 127 t100) 125 t100) 128 t102) 129 t103) 19 t104) 20 t103) 131 t107) 132 t103) 133 t108) 130 t108) 134 t110) 135 t111) 21 t110) 22 t111) 137 t112) 138 t103) 139 t113) 136 t113) 140 t115) 141 t116) 23 t115) 24 t116) 142 t111) 143 t116) 144 t117) 145 t117) 146 t118) 147 t120) 148 t122) 149 t124) 150 t126) 151 t110) 152 t127) 153 (.int .i64 0)) w125)) w123) w121) w119) w114) w109) w106) w105) w101) w31))) w25) w23) w18) w13) w10) w9) w4) w2)) w
end Go.Proofs.Ytegcjkhebecgbaa

/- Ce: bodies of functions as terms of the frame calculus, printed by shgen.py of this repository. -/
set_option linter.unusedVariables false
set_option maxRecDepth 100000
namespace Go.Proofs.Ytegcjkhebecgbaa
open Go Go.Sh

/-! loop.example/g00758/laws.FnFinite -/
/-! loop.example/g00758/laws.FnUseful -/
/-! loop.example/g00758/laws.FnUnlike -/
/-! loop.example/g00758/laws.has -/
/-! loop.example/g00758/laws.sameGrammar -/
/-! loop.example/g00758/laws.sameRules -/
/-! loop.example/g00758/spec.DrawSameUpTo -/
/-! loop.example/g00758/spec.DrawCountByLong -/
/-! loop.example/g00758/spec.DrawUnionOf -/
/-! loop.example/g00758/laws.FnBeside -/
/-! loop.example/g00758/impl.GoodGrammar -/
/-! loop.example/g00758/impl.GoodWord -/
end Go.Proofs.Ytegcjkhebecgbaa

/- What is known and stays so; the laws' own small functions: big, sameInts, sameLists, containsList, sameRules, sameGrammar, has. -/
set_option linter.unusedVariables false
set_option linter.unusedSimpArgs false
set_option maxRecDepth 100000
namespace Go.Sh
open Go
/-- Facts that hold in each world to come. -/
def Kn (w : World) (L : List (World → Prop)) : Prop := ∀ (i : Nat) (P : World → Prop), L[i]? = some P → ∀ w', Gr w w' → P w'
section
variable {w w' : World} {L : List (World → Prop)} {P : World → Prop}
theorem Kn.step (H : Kn w L) (g : Gr w w') : Kn w' L := fun i P hi w'' g' => H i P hi w'' (gr_trans g g')
theorem Kn.drew (H : Kn w L) : Kn w.drew L := H.step (gr_drew w)
theorem Kn.get (H : Kn w L) (i : Nat) (hi : L[i]? = some P) : P w := H i P hi w (Gr.refl w)
theorem Kn.nil (w : World) : Kn w [fun w' => Gr w w'] := fun i P hi w' g => by
  match i, hi with
  | 0, hi => obtain rfl := Option.some.inj hi; exact g
  | i + 1, hi => simp at hi
theorem Kn.add (H : Kn w L) (h : ∀ w', Gr w w' → P w') : Kn w (L ++ [P]) := fun i Q hi w' g => by
  rw [List.getElem?_append] at hi
  split at hi
  · exact H i Q hi w' g
  · rename_i hn
    match hk : i - L.length, hi with
    | 0, hi => simp at hi; subst hi; exact h w' g
    | k + 1, hi => simp at hi
end
abbrev kI (X : Option Addr) (xs : List Int) (c : Nat) : World → Prop := fun w => Ints w X xs ∧ xs.length ≤ c
abbrev kG (Y : Option Addr) (cy : Nat) (rs : List RuleL) : World → Prop := fun w => rs.length ≤ cy ∧ RulesF (fun _ => True) w Y rs
abbrev kS (X : Option Addr) (ls : List (List Int)) : World → Prop := fun w => Intss w X ls
abbrev kB (b : Nat) (cs : List Value) (t : TypeId) : World → Prop := fun w => Box w b cs t
section
variable {w w' : World} {L : List (World → Prop)}
theorem Kn.addI (H : Kn w L) {X : Option Addr} {xs : List Int} {c : Nat} (h : Ints w X xs) (hc : xs.length ≤ c) : Kn w (L ++ [kI X xs c]) := H.add fun w' g => ⟨h.gr g, hc⟩
theorem Kn.addG (H : Kn w L) {Y : Option Addr} {cy : Nat} {rs : List RuleL} (hc : rs.length ≤ cy) (h : RulesF (fun _ => True) w Y rs) : Kn w (L ++ [kG Y cy rs]) := H.add fun w' g => ⟨hc, h.gr g⟩
theorem Kn.addS (H : Kn w L) {X : Option Addr} {ls : List (List Int)} (h : Intss w X ls) : Kn w (L ++ [kS X ls]) := H.add fun w' g => h.gr g
theorem Kn.addB (H : Kn w L) {b : Nat} {cs : List Value} {t : TypeId} (h : Box w b cs t) : Kn w (L ++ [kB b cs t]) := H.add fun w' g => h.gr g
theorem gvK {Y : Option Addr} {cy : Nat} {gm : Gram} (h : kG Y cy gm.rules w) : GramV (fun _ => True) w (.agg #[.int .i64 gm.nons, .int .i64 gm.toks, .slice Y gm.rules.length cy]) gm := ⟨Y, cy, rfl, h.1, h.2⟩
end
/-- A box filled at once. -/
theorem do_new {P : Program} {k : Value → World → Prop} {w : World} {L : List (World → Prop)} {t sz by' : Nat} {z : Value} {cs : List Value} (H : Kn w L) (I : Inf P t z sz by') (hs : szOf P t sz) (hz : z.cells.size = sz) (hl : cs.length = sz) (h1 : cs.all Value.oneCell' = true) (hv : (Value.agg cs.toArray).cells = cs.toArray)
    (h : ∀ b w', Kn w' (L ++ [kB b cs t]) → k (.pointer (some ⟨b, 0, none⟩)) w') : Do P (sAlloc t) (fun p w1 => Do P (sStore t p (.agg cs.toArray)) (fun _ w2 => k p w2) w1) w := by
  refine do_alloc_of I fun b w1 g1 hb B1 => ?_
  refine do_store (n := sz) hs (by rw [hv]; simpa using hl) (fun u hu => ?_) B1 (by simp [hz]) fun w2 g2 _ B2 => ?_
  · rw [hv] at hu
    exact List.all_eq_true.1 h1 u (by simpa using hu)
  · have g : Gr w w2 := gr_mod g1 g2 fun q hq => by
      obtain rfl := Option.some.inj hq
      exact hb
    refine h b w2 ((H.step g).addB ?_)
    have e : List.take 0 z.cells.toList ++ (Value.agg cs.toArray).cells.toList ++ List.drop (0 + sz) z.cells.toList = cs := by
      rw [hv, List.drop_eq_nil_of_le (by simp [hz])]
      simp
    rw [← e]
    exact B2
end Go.Sh
namespace Go.Proofs.Ytegcjkhebecgbaa
open Go Go.Sh Go.RowKit
theorem big_c {w : World} {X Y : Option Addr} {n m c d : Nat} (hn : n ≤ 9223372036854775807) (hm : m ≤ 9223372036854775807) {k : Value → World → Prop} (hk : ∀ b, k (.bool b) w) :
    CallK Try.prog 15 [.slice X n c, .slice Y m d] k w := by
  refine enter15 ?_
  unfold S15
  simp only [zq18, zq19, zq20, zq21, zq22, zq23, zq24, zq25, zq26, zq27, zq28, zq4, zq3, zq1, zq2, zq0, zq29, zq30, zq14, zq15, zq16, zq17, zq13, zq10, zq12, zq11, zq7, zq5, zq6, zq9, zq8, zq31, zq32, ite_T, ite_F, zq33, zq34, zq35, Nat.reduceEqDiff, len22, len24, fa26_0, fa26_1, fa26_2, len27, fa33_0, fa33_1, len35, fa114_0, fa114_1, fa114_2, fa124_0, fa124_1, len134, len154, fa156_0, fa156_1, fa156_2, fa156_3, fa156_4, fa156_5, fa156_6, fa200_0, fa200_1, fa200_2, fa200_3]
  by_cases h : (1048576 : Int) < n
  · simp only [h, decide_true, zq18, zq19, zq20, zq21, zq22, zq23, zq24, zq25, zq26, zq27, zq28, zq4, zq3, zq1, zq2, zq0, zq29, zq30, zq14, zq15, zq16, zq17, zq13, zq10, zq12, zq11, zq7, zq5, zq6, zq9, zq8, zq31, zq32, ite_T, ite_F, zq33, zq34, zq35, Nat.reduceEqDiff, len22, len24, fa26_0, fa26_1, fa26_2, len27, fa33_0, fa33_1, len35, fa114_0, fa114_1, fa114_2, fa124_0, fa124_1, len134, len154, fa156_0, fa156_1, fa156_2, fa156_3, fa156_4, fa156_5, fa156_6, fa200_0, fa200_1, fa200_2, fa200_3]
    exact hk _
  · simp only [h, decide_false, zq18, zq19, zq20, zq21, zq22, zq23, zq24, zq25, zq26, zq27, zq28, zq4, zq3, zq1, zq2, zq0, zq29, zq30, zq14, zq15, zq16, zq17, zq13, zq10, zq12, zq11, zq7, zq5, zq6, zq9, zq8, zq31, zq32, ite_T, ite_F, zq33, zq34, zq35, Nat.reduceEqDiff, len22, len24, fa26_0, fa26_1, fa26_2, len27, fa33_0, fa33_1, len35, fa114_0, fa114_1, fa114_2, fa124_0, fa124_1, len134, len154, fa156_0, fa156_1, fa156_2, fa156_3, fa156_4, fa156_5, fa156_6, fa200_0, fa200_1, fa200_2, fa200_3]
    exact hk _
end Go.Proofs.Ytegcjkhebecgbaa

/- Contracts: Derives, InLanguage, SequenceDerives. -/
set_option linter.unusedVariables false
set_option linter.unusedSimpArgs false
set_option maxRecDepth 100000
namespace Go.Sh
open Go
end Go.Sh
namespace Go.Proofs.Ytegcjkhebecgbaa
open Go Go.Sh Go.RowKit
section
variable {w : World} {X Z Y : Option Addr} {cx cz cy : Nat} {gm : Gram} {ws xs : List Int} {k : Value → World → Prop}
abbrev grv (gm : Gram) (Y : Option Addr) (cy : Nat) : Value := .agg #[.int .i64 gm.nons, .int .i64 gm.toks, .slice Y gm.rules.length cy]
end
end Go.Proofs.Ytegcjkhebecgbaa

/- Contracts: SpansOf. -/
set_option linter.unusedVariables false
set_option linter.unusedSimpArgs false
set_option maxRecDepth 100000
namespace Go.Sh
open Go
end Go.Sh
namespace Go.Proofs.Ytegcjkhebecgbaa
open Go Go.Sh Go.RowKit
section
variable {w : World} {X Z Y : Option Addr} {cx cz cy : Nat} {gm : Gram} {ws xs : List Int} {k : Value → World → Prop}
end
end Go.Proofs.Ytegcjkhebecgbaa

/- Plain: short words are words of the language, in order; rules and spans. -/
set_option linter.unusedVariables false
set_option linter.unusedSimpArgs false
set_option maxRecDepth 100000
namespace Go.Sh
open Go
theorem good_lefts {gm : Gram} (hg : goodG gm = true) : ∀ r ∈ gm.rules, 0 ≤ r.1 := fun r hr => by
  obtain ⟨i, hi, rfl⟩ := List.getElem_of_mem hr
  have := (good_left hg hi).1
  rwa [rul_eq hi] at this
theorem good_rights {gm : Gram} (hg : goodG gm = true) {q : Nat} (hq : q < gm.rules.length) : (rul gm.rules q).2.length ≤ 4 ∧ ∀ x ∈ (rul gm.rules q).2, -gm.toks ≤ x ∧ x ≤ gm.nons - 1 := by
  simp only [goodG, Bool.and_eq_true] at hg
  have h := List.all_eq_true.1 hg.2 q (List.mem_range.2 hq)
  simp only [goodR, Bool.and_eq_true, decide_eq_true_eq] at h
  refine ⟨by have := h.1.1.2; omega, fun x hx => ?_⟩
  have := List.all_eq_true.1 h.1.2 x hx
  simpa [symB, inB] using this
where
  any_congr' {l : List RuleL} {p q : RuleL → Bool} (h : ∀ r ∈ l, p r = q r) : l.any p = l.any q := by
    rw [Bool.eq_iff_iff, List.any_eq_true, List.any_eq_true]
    constructor
    · rintro ⟨r, hr, h1⟩
      exact ⟨r, hr, by rw [← h r hr]; exact h1⟩
    · rintro ⟨r, hr, h1⟩
      exact ⟨r, hr, by rw [h r hr]; exact h1⟩
end Go.Sh

/- Plain: trees and their words; a part of a tree is exchanged; what is pumped. -/
set_option linter.unusedVariables false
set_option linter.unusedSimpArgs false
set_option maxRecDepth 100000
namespace Go.Sh
open Go Go.Proofs.Ytegcjkhebecgbaa
/-- A list of rules is a tree for a word. -/
inductive Tr (rs : List RuleL) : Nat ⊕ List Int → List Int → List Int → Prop
  | tree {A q : Nat} {r u : List Int} : q < rs.length → (rul rs q).1 = (A : Int) → Tr rs (.inr (rul rs q).2) r u → Tr rs (.inl A) ((q : Int) :: r) u
  | nil : Tr rs (.inr []) [] []
  | tok {x : Int} {xs r u : List Int} : x < 0 → Tr rs (.inr xs) r u → Tr rs (.inr (x :: xs)) r ((-1 - x) :: u)
  | non {x : Int} {xs a b u v : List Int} : ¬ x < 0 → Tr rs (.inl x.toNat) a u → Tr rs (.inr xs) b v → Tr rs (.inr (x :: xs)) (a ++ b) (u ++ v)
section
variable {rs : List RuleL} {tree : List Int}
theorem tr_yi {c : Nat ⊕ List Int} {t u : List Int} (h : Tr rs c t u) : Yi rs c u := by
  induction h with
  | tree h1 h2 _ ih => exact .rule (by rw [rul_eq h1]; exact List.getElem_mem h1) h2 ih
  | nil => exact .nil
  | tok hx _ ih => exact .tok hx ih
  | non hx _ _ ih1 ih2 => exact .non hx ih1 ih2
theorem tr_der' {c : Nat ⊕ List Int} {t u : List Int} (h : Tr rs c t u) : ∀ (a b : List Int), ∃ s, Der rs (a ++ u ++ b) c a.length (a.length + u.length) s t := by
  induction h with
  | tree h1 h2 _ ih =>
    intro a b
    obtain ⟨s, hd⟩ := ih a b
    exact ⟨_, .tree h1 h2 hd⟩
  | nil =>
    intro a b
    exact ⟨_, .nil⟩
  | @tok x xs r u hx _ ih =>
    intro a b
    obtain ⟨s, hd⟩ := ih (a ++ [-1 - x]) b
    refine ⟨s, .tok hx (by simp) ?_ ?_⟩
    · simp [List.getD_eq_getElem?_getD]
    · have e : a ++ (-1 - x) :: u ++ b = a ++ [-1 - x] ++ u ++ b := by simp
      rw [e]
      have e2 : a.length + ((-1 - x) :: u).length = (a ++ [-1 - x]).length + u.length := by simp; omega
      rw [e2]
      have e3 : a.length + 1 = (a ++ [-1 - x]).length := by simp
      rw [e3]
      exact hd
  | @non x xs t1 t2 u v hx _ _ ih1 ih2 =>
    intro a b
    obtain ⟨s1, h1⟩ := ih1 a (v ++ b)
    obtain ⟨s2, h2⟩ := ih2 (a ++ u) b
    have e1 : a ++ u ++ (v ++ b) = a ++ (u ++ v) ++ b := by simp
    have e2 : a ++ u ++ v ++ b = a ++ (u ++ v) ++ b := by simp
    rw [e1] at h1
    rw [e2] at h2
    have e3 : (a ++ u).length = a.length + u.length := by simp
    have e4 : (a ++ u).length + v.length = a.length + (u ++ v).length := by simp; omega
    rw [e4, e3] at h2
    exact ⟨_, .non hx (by omega) (by simp) h1 h2⟩
theorem der_tr {ws : List Int} {c : Nat ⊕ List Int} {i j s : Nat} {t : List Int} (h : Der rs ws c i j s t) : j ≤ ws.length → Tr rs c t (cut ws i j) := by
  induction h with
  | tree h1 h2 _ ih => exact fun hj => .tree h1 h2 (ih hj)
  | nil =>
    intro _
    rw [cut_nil]
    exact .nil
  | tok h1 h2 h3 _ ih =>
    intro hj
    rw [cut_cons h2 hj, h3]
    exact .tok h1 (ih hj)
  | non h1 h2 h3 _ _ ih1 ih2 =>
    intro hj
    rw [cut_append h2 h3 hj]
    exact .non h1 (ih1 (by omega)) (ih2 hj)
theorem tr_der {ws t : List Int} {A : Nat} : Tr rs (.inl A) t ws ↔ ∃ s, Der rs ws (.inl A) 0 ws.length s t := by
  constructor
  · intro h
    obtain ⟨s, hd⟩ := tr_der' h [] []
    simp only [List.nil_append, List.append_nil, List.length_nil, Nat.zero_add] at hd
    exact ⟨s, hd⟩
  · rintro ⟨s, hd⟩
    have := der_tr hd (Nat.le_refl _)
    rwa [cut_all] at this
/-- A tree is read as it is. -/
theorem tr_read {c : Nat ⊕ List Int} {t u : List Int} (h : Tr rs c t u) : ∀ (pre post w : List Int) (f : Nat), tree = pre ++ t ++ post → t.length ≤ f →
    match c with
    | .inl A => ∃ p, readT rs tree f (A : Int) pre.length w = some (p, w ++ u) ∧ p.fin = pre.length + t.length
    | .inr xs => ∀ ks, ∃ ks', readR (readT rs tree f) xs pre.length w ks = some (ks', pre.length + t.length, w ++ u) := by
  induction h with
  | @tree A q r u h1 h2 _ ih =>
    intro pre post w f he hf
    rw [List.length_cons] at hf
    obtain ⟨f, rfl⟩ : ∃ f', f = f' + 1 := ⟨f - 1, by omega⟩
    have hget : tree.getD pre.length 0 = (q : Int) := by
      rw [he, List.getD_eq_getElem?_getD, List.append_assoc, List.getElem?_append_right (Nat.le_refl _)]
      simp
    have hlen : pre.length < tree.length := by rw [he]; simp
    have hok : okT rs tree (A : Int) pre.length = true := by
      unfold okT
      rw [hget, Int.toNat_natCast]
      simp only [Bool.and_eq_true, decide_eq_true_eq]
      exact ⟨⟨hlen, by omega, by omega⟩, h2⟩
    have hr : rgtT rs tree pre.length = (rul rs q).2 := by unfold rgtT; rw [hget, Int.toNat_natCast]
    have he2 : tree = (pre ++ [(q : Int)]) ++ r ++ post := by rw [he]; simp
    obtain ⟨ks', hk⟩ := ih (pre ++ [(q : Int)]) post w f he2 (by omega) []
    rw [List.length_append, List.length_singleton] at hk
    dsimp only
    rw [readT, if_pos hok, hr, hk]
    exact ⟨_, rfl, by simp [PT.fin]; omega⟩
  | nil =>
    intro pre post w f he hf ks
    exact ⟨ks, by simp [readR]⟩
  | @tok x xs r u hx _ ih =>
    intro pre post w f he hf ks
    obtain ⟨ks', hk⟩ := ih pre post (w ++ [-1 - x]) f he hf ks
    exact ⟨ks', by rw [readR, if_pos hx, hk]; simp⟩
  | @non x xs a b u v hx _ _ ih1 ih2 =>
    intro pre post w f he hf ks
    rw [List.length_append] at hf
    obtain ⟨p, hp, hfin⟩ := ih1 pre (b ++ post) w f (by rw [he]; simp) (by omega)
    obtain ⟨ks', hk⟩ := ih2 (pre ++ a) post (w ++ u) f (by rw [he]; simp) (by omega) (ks ++ [p])
    refine ⟨ks', ?_⟩
    rw [readR, if_neg hx]
    have e : ((x.toNat : Nat) : Int) = x := by omega
    rw [e] at hp
    rw [hp]
    dsimp only
    rw [hfin, ← List.length_append, hk]
    simp
    omega
/-- A part of a tree, and what is around it. -/
structure Ctx (rs : List RuleL) (tree : List Int) (c : Nat ⊕ List Int) (a b : Nat) (w w' : List Int) (q : PT) : Prop where
  ex : ∃ (f : Nat) (w1 w2 x y z : List Int), readT rs tree f q.non q.at_ w1 = some (q, w2) ∧ w1 = w ++ x ∧ w2 = w1 ++ y ∧ w' = w2 ++ z ∧ Tr rs (.inl q.non.toNat) (cut tree q.at_ q.fin) y ∧
    ∀ s' y', Tr rs (.inl q.non.toNat) s' y' → Tr rs c (cut tree a q.at_ ++ s' ++ cut tree q.fin b) (x ++ y' ++ z)
  non : 0 ≤ q.non
  lo : a ≤ q.at_
  mid : q.at_ ≤ q.fin
  hi : q.fin ≤ b
structure RD (rs : List RuleL) (tree : List Int) (c : Nat ⊕ List Int) (a b : Nat) (w w' : List Int) (qs : List PT) : Prop where
  le : a ≤ b
  hi : b ≤ tree.length
  tr : ∃ u, w' = w ++ u ∧ Tr rs c (cut tree a b) u
  ctx : ∀ q ∈ qs, Ctx rs tree c a b w w' q
theorem readR_ctx {f : Nat} (hrec : ∀ x a w p w', 0 ≤ x → readT rs tree f x a w = some (p, w') → RD rs tree (.inl x.toNat) a p.fin w w' p.parts) :
    ∀ (xs : List Int) (e : Nat) (w : List Int) (ks : List PT) {ks' : List PT} {e' : Nat} {w' : List Int}, e ≤ tree.length → readR (readT rs tree f) xs e w ks = some (ks', e', w') → ∃ new, ks' = ks ++ new ∧ RD rs tree (.inr xs) e e' w w' (PT.partsL new) := by
  intro xs
  induction xs with
  | nil =>
    intro e w ks ks' e' w' he h
    rw [readR] at h
    obtain ⟨rfl, rfl, rfl⟩ : ks = ks' ∧ e = e' ∧ w = w' := by simpa using h
    exact ⟨[], by simp, Nat.le_refl _, he, ⟨[], by simp, by rw [cut_nil]; exact .nil⟩, fun q hq => by simp [PT.partsL] at hq⟩
  | cons x xs ih =>
    intro e w ks ks' e' w' he h
    rw [readR] at h
    by_cases hx : x < 0
    · rw [if_pos hx] at h
      obtain ⟨new, e1, R⟩ := ih e _ ks he h
      obtain ⟨u, eu, hu⟩ := R.tr
      refine ⟨new, e1, R.le, R.hi, ⟨_, by rw [eu, List.append_assoc, List.singleton_append], .tok hx hu⟩, fun q hq => ?_⟩
      have C := R.ctx q hq
      obtain ⟨f1, w1, w2, x0, y, z, a1, a2, a3, a4, a5, a6⟩ := C.ex
      exact ⟨⟨f1, w1, w2, (-1 - x) :: x0, y, z, a1, by rw [a2, List.append_assoc, List.singleton_append], a3, a4, a5, fun s' y' ht => .tok hx (a6 s' y' ht)⟩, C.non, C.lo, C.mid, C.hi⟩
    · rw [if_neg hx] at h
      cases hr : readT rs tree f x e w with
      | none => rw [hr] at h; cases h
      | some z =>
        obtain ⟨k, w1⟩ := z
        rw [hr] at h
        dsimp only at h
        have K := hrec x e w k w1 (by omega) hr
        obtain ⟨new, e1, R⟩ := ih k.fin w1 (ks ++ [k]) K.hi h
        obtain ⟨u1, eu1, hu1⟩ := K.tr
        obtain ⟨u2, eu2, hu2⟩ := R.tr
        refine ⟨k :: new, by rw [e1]; simp, Nat.le_trans K.le R.le, R.hi, ⟨u1 ++ u2, by rw [eu2, eu1, List.append_assoc], ?_⟩, fun q hq => ?_⟩
        · rw [cut_append K.le R.le R.hi]
          exact .non hx hu1 hu2
        · rw [PT.partsL, List.mem_append] at hq
          rcases hq with hq | hq
          · have C := K.ctx q hq
            obtain ⟨f1, v1, v2, x0, y, z, a1, a2, a3, a4, a5, a6⟩ := C.ex
            refine ⟨⟨f1, v1, v2, x0, y, z ++ u2, a1, a2, a3, by rw [eu2, a4, List.append_assoc], a5, fun s' y' ht => ?_⟩, C.non, C.lo, C.mid, Nat.le_trans C.hi R.le⟩
            have := Tr.non hx (a6 s' y' ht) hu2
            rw [cut_append C.hi R.le R.hi]
            simpa [List.append_assoc] using this
          · have C := R.ctx q hq
            obtain ⟨f1, v1, v2, x0, y, z, a1, a2, a3, a4, a5, a6⟩ := C.ex
            refine ⟨⟨f1, v1, v2, u1 ++ x0, y, z, a1, by rw [a2, eu1, List.append_assoc], a3, a4, a5, fun s' y' ht => ?_⟩, C.non, Nat.le_trans K.le C.lo, C.mid, C.hi⟩
            have := Tr.non hx hu1 (a6 s' y' ht)
            rw [cut_append K.le C.lo (Nat.le_trans (Nat.le_trans C.mid C.hi) R.hi)]
            simpa [List.append_assoc] using this
theorem readT_ctx : ∀ (f : Nat) (x : Int) (a : Nat) (w : List Int) (p : PT) (w' : List Int), 0 ≤ x → readT rs tree f x a w = some (p, w') → RD rs tree (.inl x.toNat) a p.fin w w' p.parts := by
  intro f
  induction f with
  | zero => intro x a w p w' _ h; cases h
  | succ f ih =>
    intro x a w p w' hx h
    have h0 := h
    rw [readT] at h
    split at h
    · rename_i hok
      split at h
      · cases h
      · rename_i ks e w2 hr
        obtain ⟨rfl, rfl⟩ : _ = p ∧ w2 = w' := by simpa using h
        unfold okT at hok
        simp only [Bool.and_eq_true, decide_eq_true_eq] at hok
        obtain ⟨⟨o1, o2, o3⟩, o4⟩ := hok
        obtain ⟨new, e1, R⟩ := readR_ctx (fun x a w p w' hx h => ih x a w p w' hx h) _ _ _ _ o1 hr
        rw [List.nil_append] at e1
        subst e1
        obtain ⟨u, eu, hu⟩ := R.tr
        have hq : (tree.getD a 0).toNat < rs.length := by omega
        have eq : ((tree.getD a 0).toNat : Int) = tree.getD a 0 := by omega
        have hle : a < e := R.le
        have wrap : ∀ {r y : List Int}, Tr rs (.inr (rgtT rs tree a)) r y → Tr rs (.inl x.toNat) (tree.getD a 0 :: r) y := fun {r y} ht => by
          have := Tr.tree (A := x.toNat) hq (by rw [o4]; omega) ht
          rwa [eq] at this
        have whole : Tr rs (.inl x.toNat) (cut tree a e) u := by
          rw [cut_cons hle R.hi]
          exact wrap hu
        show RD rs tree (.inl x.toNat) a e w w2 (PT.parts (.mk x (tree.getD a 0).toNat a e w.length w2.length ks))
        refine ⟨by omega, R.hi, ⟨u, eu, whole⟩, fun q hq => ?_⟩
        rw [PT.parts, List.mem_cons] at hq
        rcases hq with rfl | hq
        · refine ⟨⟨f + 1, w, w2, [], u, [], h0, by simp, eu, by simp, whole, fun s' y' ht => ?_⟩, hx, Nat.le_refl _, Nat.le_of_lt hle, Nat.le_refl _⟩
          show Tr rs (.inl x.toNat) (cut tree a a ++ s' ++ cut tree e e) _
          rw [cut_nil, cut_nil]
          have ht' : Tr rs (.inl x.toNat) s' y' := ht
          simpa using ht'
        · have C := R.ctx q hq
          obtain ⟨f1, v1, v2, x0, y, z, a1, a2, a3, a4, a5, a6⟩ := C.ex
          have hlo := C.lo
          refine ⟨⟨f1, v1, v2, x0, y, z, a1, a2, a3, a4, a5, fun s' y' ht => ?_⟩, C.non, by omega, C.mid, C.hi⟩
          rw [cut_cons (by omega) (Nat.le_trans (Nat.le_trans C.mid C.hi) R.hi)]
          have := wrap (a6 s' y' ht)
          simpa using this
    · cases h
end
theorem seg_cut (xs : List Int) (a b : Nat) : seg xs (a : Int) (b : Int) = cut xs a b := by simp [seg, cut]
theorem rep_tr {rs : List RuleL} {A : Nat} {a b x z : List Int} (h : ∀ s' y', Tr rs (.inl A) s' y' → Tr rs (.inl A) (a ++ s' ++ b) (x ++ y' ++ z)) {s y : List Int} (h0 : Tr rs (.inl A) s y) : ∀ m : Nat, Tr rs (.inl A) (rep m a ++ s ++ rep m b) (rep m x ++ y ++ rep m z) := by
  have rep_left : ∀ (l : List Int) (m : Nat), rep (m + 1) l = l ++ rep m l := fun l m => by simp [rep, List.replicate_succ]
  intro m
  induction m with
  | zero => simpa [rep] using h0
  | succ m ih =>
    have := h _ _ ih
    rw [rep_left a, rep_succ m b, rep_left x, rep_succ m z]
    simpa [List.append_assoc] using this
theorem read_words {rs : List RuleL} {tree : List Int} {f : Nat} {x : Int} {a : Nat} {w w' : List Int} {p : PT} (h : readT rs tree f x a w = some (p, w')) : p.fr = w.length ∧ p.to = w'.length ∧ p.at_ = a ∧ p.non = x := by
  have := readT_laid rs tree f x a w p w' h
  exact ⟨this.2.2.2.2.1, this.2.2.2.2.2.1, this.2.2.1, this.2.2.2.1⟩
/-- Of a tree with two parts of one nonterminal, one in the other, what is between them can be done again or left out. -/
theorem pump_tr {gm : Gram} {tree ws : List Int} {p : PT} (hW : Whole gm tree p ws) {i j : Nat} (he : pumpV p.parts = some (i, j)) (hp : pairT (ptn p.parts i) (ptn p.parts j) = true) (m : Nat) :
    Tr gm.rules (.inl 0) (pumpL tree (treeCuts p.parts i j) m) (pumpL ws [((ptn p.parts i).fr : Int), ((ptn p.parts j).fr : Int), ((ptn p.parts j).to : Int), ((ptn p.parts i).to : Int)] m) := by
  obtain ⟨hi, hij, hjf, hj, _⟩ := cuts_of hW he
  have D := readT_ctx (rs := gm.rules) (tree := tree) _ 0 0 [] p ws (by omega) hW.read
  have hmi : ptn p.parts i ∈ p.parts := by rw [ptn_eq hi]; exact List.getElem_mem hi
  have Li := hW.laid i hi
  have Lj := hW.laid j hj
  rw [← ptn_eq hi] at Li
  rw [← ptn_eq hj] at Lj
  have Ci := D.ctx _ hmi
  obtain ⟨f1, w1, w2, x1, y1, z1, a1, a2, a3, a4, a5, a6⟩ := Ci.ex
  have D2 := readT_ctx f1 _ _ _ _ _ Ci.non a1
  have hmj : ptn p.parts j ∈ (ptn p.parts i).parts := by
    rw [Li.2.2.2, ptn_eq hj, List.mem_take_iff_getElem]
    refine ⟨j - i, by simp; omega, ?_⟩
    rw [List.getElem_drop]
    congr 1
    omega
  have Cj := D2.ctx _ hmj
  obtain ⟨f2, v1, v2, x2, y2, z2, b1, b2, b3, b4, b5, b6⟩ := Cj.ex
  have hnon : (ptn p.parts i).non = (ptn p.parts j).non := by
    unfold pairT at hp
    simp only [Bool.and_eq_true, decide_eq_true_eq] at hp
    exact hp.1
  have ri := read_words a1
  have rj := read_words b1
  have hati : (ptn p.parts i).at_ = i := by rw [Li.1]; omega
  have hatj : (ptn p.parts j).at_ = j := by rw [Lj.1]; omega
  rw [← hnon] at b5 b6
  have key := a6 _ _ (rep_tr b6 b5 m)
  rw [List.nil_append] at a2
  subst a2
  -- the tree
  have e1 : pumpL tree (treeCuts p.parts i j) m = cut tree 0 (ptn p.parts i).at_ ++ (rep m (cut tree (ptn p.parts i).at_ (ptn p.parts j).at_) ++ cut tree (ptn p.parts j).at_ (ptn p.parts j).fin ++ rep m (cut tree (ptn p.parts j).fin (ptn p.parts i).fin)) ++ cut tree (ptn p.parts i).fin p.fin := by
    unfold pumpL treeCuts
    simp only [List.getD_cons_zero, List.getD_cons_succ]
    rw [show (0 : Int) = ((0 : Nat) : Int) from rfl, seg_cut, seg_cut, seg_cut, seg_cut, seg_cut, hW.fin, hati, hatj]
    simp [List.append_assoc]
  have hw : ws = w1 ++ (x2 ++ y2 ++ z2) ++ z1 := by
    rw [a4, b4, b3, b2]
    simp [List.append_assoc]
  have l1 : (ptn p.parts i).fr = w1.length := ri.1
  have l2 : (ptn p.parts j).fr = (w1 ++ x2).length := by rw [rj.1, b2]
  have l3 : (ptn p.parts j).to = (w1 ++ x2 ++ y2).length := by rw [rj.2.1, b3, b2]
  have l4 : (ptn p.parts i).to = (w1 ++ x2 ++ y2 ++ z2).length := by rw [ri.2.1, b4, b3, b2]
  have c1 : cut ws 0 w1.length = w1 := by rw [hw]; simp [cut, List.append_assoc]
  have c2 : cut ws w1.length (w1 ++ x2).length = x2 := by
    have := cut_mid w1 x2 (y2 ++ z2 ++ z1)
    rw [hw, List.length_append]
    simpa [List.append_assoc] using this
  have c3 : cut ws (w1 ++ x2).length (w1 ++ x2 ++ y2).length = y2 := by
    have := cut_mid (w1 ++ x2) y2 (z2 ++ z1)
    rw [hw, @List.length_append _ (w1 ++ x2)]
    simpa [List.append_assoc] using this
  have c4 : cut ws (w1 ++ x2 ++ y2).length (w1 ++ x2 ++ y2 ++ z2).length = z2 := by
    have := cut_mid (w1 ++ x2 ++ y2) z2 z1
    rw [hw, @List.length_append _ (w1 ++ x2 ++ y2)]
    simpa [List.append_assoc] using this
  have c5 : cut ws (w1 ++ x2 ++ y2 ++ z2).length ws.length = z1 := by
    have := cut_mid (w1 ++ x2 ++ y2 ++ z2) z1 []
    have e : ws = w1 ++ x2 ++ y2 ++ z2 ++ z1 := by rw [hw]; simp [List.append_assoc]
    rw [e, @List.length_append _ (w1 ++ x2 ++ y2 ++ z2)]
    simpa using this
  have e2 : pumpL ws [((ptn p.parts i).fr : Int), ((ptn p.parts j).fr : Int), ((ptn p.parts j).to : Int), ((ptn p.parts i).to : Int)] m = w1 ++ (rep m x2 ++ y2 ++ rep m z2) ++ z1 := by
    unfold pumpL
    simp only [List.getD_cons_zero, List.getD_cons_succ]
    rw [show (0 : Int) = ((0 : Nat) : Int) from rfl, seg_cut, seg_cut, seg_cut, seg_cut, seg_cut, l1, l2, l3, l4, c1, c2, c3, c4, c5]
    simp [List.append_assoc]
  rw [e1, e2]
  exact key
end Go.Sh

/- Plain: a tree of a word that is long enough has two parts that can be pumped. -/
set_option linter.unusedVariables false
set_option linter.unusedSimpArgs false
set_option maxRecDepth 100000
namespace Go.Sh
open Go
theorem pumpV_pair {l : List PT} {i j : Nat} (h : pumpV l = some (i, j)) : pairT (ptn l i) (ptn l j) = true := by
  unfold pumpV at h
  obtain ⟨p, hp, h1⟩ := List.exists_of_findSome?_eq_some h
  obtain ⟨q, hq, h2⟩ := List.exists_of_findSome?_eq_some h1
  split at h2
  · rename_i hc
    obtain ⟨rfl, rfl⟩ : p = i ∧ q = j := by simpa using h2
    exact hc
  · cases h2
theorem pumpV_noPair {l : List PT} (h : pumpV l = none) {i j : Nat} (hi : i < l.length) (h1 : i < j) (h2 : j < (ptn l i).fin) : pairT (ptn l i) (ptn l j) = false := by
  unfold pumpV at h
  rw [List.findSome?_eq_none_iff] at h
  have := h i (List.mem_range.2 hi)
  rw [List.findSome?_eq_none_iff] at this
  have := this j (List.mem_range'_1.2 (by omega))
  split at this
  · cases this
  · rename_i hc
    simpa using hc
theorem mem_partsL {ks : List PT} {q : PT} : q ∈ PT.partsL ks ↔ ∃ k ∈ ks, q ∈ k.parts := by
  induction ks with
  | nil => simp [PT.partsL]
  | cons k ks ih =>
    rw [PT.partsL, List.mem_append, ih]
    constructor
    · rintro (h | ⟨k', h1, h2⟩)
      · exact ⟨k, List.mem_cons_self .., h⟩
      · exact ⟨k', List.mem_cons_of_mem _ h1, h2⟩
    · rintro ⟨k', h1, h2⟩
      rcases List.mem_cons.1 h1 with rfl | h1
      · exact .inl h2
      · exact .inr ⟨k', h1, h2⟩
theorem self_parts (p : PT) : p ∈ p.parts := by rw [parts_cons]; exact List.mem_cons_self ..
theorem partsL_len {ks : List PT} {k : PT} (h : k ∈ ks) : k.parts.length ≤ (PT.partsL ks).length := by
  induction ks with
  | nil => cases h
  | cons a ks ih =>
    rw [PT.partsL, List.length_append]
    rcases List.mem_cons.1 h with rfl | h
    · omega
    · have := ih h
      omega
theorem parts_trans : ∀ (n : Nat) (p : PT), p.parts.length ≤ n → ∀ {q q' : PT}, q ∈ p.parts → q' ∈ q.parts → q' ∈ p.parts ∧ q.parts.length ≤ p.parts.length := by
  intro n
  induction n with
  | zero =>
    intro p h
    rw [parts_cons] at h
    simp at h
  | succ n ih =>
    intro p h q q' hq hq'
    have h0 := h
    rw [parts_cons] at h hq
    rw [List.length_cons] at h
    rcases List.mem_cons.1 hq with rfl | hq
    · exact ⟨hq', Nat.le_refl _⟩
    · obtain ⟨k, hk, hqk⟩ := mem_partsL.1 hq
      have hl := partsL_len hk
      have := ih k (by omega) hqk hq'
      rw [parts_cons p]
      exact ⟨List.mem_cons_of_mem _ (mem_partsL.2 ⟨k, hk, this.1⟩), by rw [List.length_cons]; omega⟩
def NoPump (p : PT) : Prop := ∀ q ∈ p.parts, ∀ q' ∈ q.parts, q.non = q'.non → q.fr = q'.fr ∧ q.to = q'.to
theorem noPump_in {p q : PT} (h : NoPump p) (hq : q ∈ p.parts) : NoPump q := fun q1 h1 q2 h2 he => h q1 (parts_trans _ p (Nat.le_refl _) hq h1).1 q2 h2 he
/-- It came of reading. -/
def ReadP (rs : List RuleL) (tree : List Int) (p : PT) : Prop := ∃ (f : Nat) (x : Int) (a : Nat) (w w' : List Int), 0 ≤ x ∧ readT rs tree f x a w = some (p, w')
section
variable {rs : List RuleL} {tree : List Int}
theorem ReadP.part {p q : PT} (h : ReadP rs tree p) (hq : q ∈ p.parts) : ReadP rs tree q := by
  obtain ⟨f, x, a, w, w', h0, h1⟩ := h
  have C := (readT_ctx f x a w p w' h0 h1).ctx q hq
  obtain ⟨f1, w1, w2, _, _, _, a1, _⟩ := C.ex
  exact ⟨f1, _, _, w1, w2, C.non, a1⟩
theorem readR_kids {f : Nat} {M : Nat} (hM : 1 ≤ M) : ∀ (xs : List Int) (e : Nat) (w : List Int) (ks : List PT) {ks' : List PT} {e' : Nat} {w' : List Int}, readR (readT rs tree f) xs e w ks = some (ks', e', w') →
    (∀ k ∈ ks, k ∈ ks') ∧ ((∀ k ∈ ks', k.to ≤ k.fr + M) → w'.length ≤ w.length + xs.length * M) := by
  intro xs
  induction xs with
  | nil =>
    intro e w ks ks' e' w' h
    rw [readR] at h
    obtain ⟨rfl, rfl, rfl⟩ : ks = ks' ∧ e = e' ∧ w = w' := by simpa using h
    exact ⟨fun k hk => hk, fun _ => by simp⟩
  | cons x xs ih =>
    intro e w ks ks' e' w' h
    rw [readR] at h
    rw [List.length_cons, Nat.add_mul, Nat.one_mul]
    by_cases hx : x < 0
    · rw [if_pos hx] at h
      have := ih _ _ _ h
      refine ⟨this.1, fun hk => ?_⟩
      have := this.2 hk
      rw [List.length_append, List.length_singleton] at this
      omega
    · rw [if_neg hx] at h
      cases hr : readT rs tree f x e w with
      | none => rw [hr] at h; cases h
      | some z =>
        obtain ⟨k, w1⟩ := z
        rw [hr] at h
        dsimp only at h
        have := ih _ _ _ h
        refine ⟨fun k' hk' => this.1 k' (List.mem_append.2 (.inl hk')), fun hk => ?_⟩
        have h2 := this.2 hk
        have h3 := hk k (this.1 k (List.mem_append.2 (.inr (List.mem_singleton.2 rfl))))
        have h4 := read_words hr
        rw [h4.1, h4.2.1] at h3
        omega
theorem read_len {B M : Nat} (hM : 1 ≤ M) (hB : ∀ q, q < rs.length → (rul rs q).2.length ≤ B) {p : PT} (h : ReadP rs tree p) (hk : ∀ k ∈ p.kids, k.to ≤ k.fr + M) : p.to ≤ p.fr + B * M := by
  obtain ⟨f, x, a, w, w', h0, h1⟩ := h
  cases f with
  | zero => cases h1
  | succ f =>
    rw [readT] at h1
    split at h1
    · rename_i hok
      split at h1
      · cases h1
      · rename_i ks e w2 hr
        obtain ⟨rfl, rfl⟩ : _ = p ∧ w2 = w' := by simpa using h1
        unfold okT at hok
        simp only [Bool.and_eq_true, decide_eq_true_eq] at hok
        have h2 := (readR_kids (rs := rs) (tree := tree) hM _ _ _ _ hr).2 hk
        have h3 := hB (tree.getD a 0).toNat (by omega)
        have h4 : (rgtT rs tree a).length * M ≤ B * M := Nat.mul_le_mul_right _ h3
        show w2.length ≤ w.length + B * M
        omega
    · cases h1
theorem short_noPump {B : Nat} (h1 : 1 ≤ B) (hB : ∀ q, q < rs.length → (rul rs q).2.length ≤ B) : ∀ (n : Nat) (S : List Int), S.length ≤ n → ∀ (m : Nat) (p : PT), p.parts.length ≤ m → ReadP rs tree p → NoPump p → (∀ q ∈ p.parts, q.non ∈ S) → p.to ≤ p.fr + B ^ n := by
  intro n
  induction n with
  | zero =>
    intro S hS m p hp hr hn hin
    have := hin p (self_parts p)
    have e : S = [] := List.eq_nil_of_length_eq_zero (by omega)
    rw [e] at this
    cases this
  | succ n ihn =>
    intro S hS m
    induction m with
    | zero =>
      intro p hp
      rw [parts_cons] at hp
      simp at hp
    | succ m ihm =>
      intro p hp hr hn hin
      by_cases hex : ∃ q ∈ PT.partsL p.kids, q.non = p.non
      · obtain ⟨q, hq, he⟩ := hex
        have hqp : q ∈ p.parts := by rw [parts_cons]; exact List.mem_cons_of_mem _ hq
        have hs := hn p (self_parts p) q hqp he.symm
        obtain ⟨k, hk, hqk⟩ := mem_partsL.1 hq
        have hl1 := partsL_len hk
        have hl2 := (parts_trans _ k (Nat.le_refl _) hqk (self_parts q)).2
        rw [parts_cons, List.length_cons] at hp
        have := ihm q (by omega) (hr.part hqp) (noPump_in hn hqp) fun q' hq' => hin q' (parts_trans _ p (Nat.le_refl _) hqp hq').1
        rw [← hs.1, ← hs.2] at this
        exact this
      · have hM : 1 ≤ B ^ n := Nat.one_le_pow _ _ h1
        rw [Nat.pow_succ, Nat.mul_comm]
        refine read_len hM hB hr fun k hk => ?_
        have hkp : k ∈ p.parts := by rw [parts_cons]; exact List.mem_cons_of_mem _ (mem_partsL.2 ⟨k, hk, self_parts k⟩)
        have hpS := hin p (self_parts p)
        refine ihn (S.erase p.non) ?_ k.parts.length k (Nat.le_refl _) (hr.part hkp) (noPump_in hn hkp) fun q hq => ?_
        · have := List.length_erase_of_mem hpS
          have := List.length_pos_of_mem hpS
          omega
        · have hqL : q ∈ PT.partsL p.kids := mem_partsL.2 ⟨k, hk, hq⟩
          rw [List.mem_erase_of_ne fun e => hex ⟨q, hqL, e⟩]
          exact hin q (by rw [parts_cons]; exact List.mem_cons_of_mem _ hqL)
theorem ReadP.rule {p : PT} (h : ReadP rs tree p) : ∃ q, q < rs.length ∧ (rul rs q).1 = p.non := by
  obtain ⟨f, x, a, w, w', h0, h1⟩ := h
  have e := (read_words h1).2.2.2
  cases f with
  | zero => cases h1
  | succ f =>
    rw [readT] at h1
    split at h1
    · rename_i hok
      unfold okT at hok
      simp only [Bool.and_eq_true, decide_eq_true_eq] at hok
      exact ⟨(tree.getD a 0).toNat, by omega, by rw [e]; exact hok.2⟩
    · cases h1
end
theorem noPump_of {gm : Gram} {tree ws : List Int} {p : PT} (hW : Whole gm tree p ws) (h : pumpV p.parts = none) : NoPump p := by
  intro q hq q' hq' he
  obtain ⟨i, hi, rfl⟩ := List.getElem_of_mem hq
  obtain ⟨l1, l2, l3, l4⟩ := hW.laid i hi
  rw [l4, List.mem_take_iff_getElem] at hq'
  obtain ⟨d, hd, rfl⟩ := hq'
  rw [List.getElem_drop] at he ⊢
  have hlt : i + d < p.parts.length := by simp at hd; omega
  by_cases hd0 : d = 0
  · subst hd0
    exact ⟨rfl, rfl⟩
  · have := pumpV_noPair h (i := i) (j := i + d) hi (by omega) (by rw [ptn_eq hi]; simp at hd; omega)
    rw [ptn_eq hi, ptn_eq hlt] at this
    unfold pairT at this
    rw [decide_eq_true he] at this
    simp at this
    exact this
theorem mostN_ge (rs : List RuleL) : ∀ n, 2 ≤ mostN rs n ∧ ∀ q, q < n → ((rul rs q).2.length : Int) ≤ mostN rs n := by
  intro n
  induction n with
  | zero => exact ⟨by simp [mostN], fun q hq => by omega⟩
  | succ n ih =>
    rw [mostN]
    split
    · refine ⟨by omega, fun q hq => ?_⟩
      by_cases e : q = n
      · subst e; omega
      · have := ih.2 q (by omega)
        omega
    · refine ⟨ih.1, fun q hq => ?_⟩
      by_cases e : q = n
      · subst e; omega
      · exact ih.2 q (by omega)
theorem mostN_le {rs : List RuleL} (h4 : ∀ q, q < rs.length → (rul rs q).2.length ≤ 4) : ∀ n, n ≤ rs.length → mostN rs n ≤ 4 := by
  intro n
  induction n with
  | zero => intro _; simp [mostN]
  | succ n ih =>
    intro hn
    rw [mostN]
    have := ih (by omega)
    have := h4 n (by omega)
    split <;> omega
theorem powN_eq {m : Nat} (hm : m ≤ 4) : ∀ j, j ≤ 6 → powN (m : Int) j = ((m ^ j : Nat) : Int) := by
  intro j
  induction j with
  | zero => intro _; simp [powN]
  | succ j ih =>
    intro hj
    rw [powN, ih (by omega), ← Int.natCast_mul, ← Nat.pow_succ]
    have h1 : m ^ (j + 1) ≤ 4 ^ (j + 1) := Nat.pow_le_pow_left hm _
    have h2 : 4 ^ (j + 1) ≤ 4 ^ 6 := Nat.pow_le_pow_right (by decide) hj
    have : (4 : Nat) ^ 6 = 4096 := rfl
    obtain ⟨P, hP⟩ : ∃ P : Nat, m ^ (j + 1) = P := ⟨_, rfl⟩
    rw [hP] at h1 ⊢
    exact i64_of (by omega) (by omega)
/-- What LongEnough tells. -/
theorem longV_long {gm : Gram} {n : Int} (h : longV gm = .tuple #[.int .i64 n, .bool true]) : goodG gm = true ∧ ∃ B : Nat, 1 ≤ B ∧ (∀ q, q < gm.rules.length → (rul gm.rules q).2.length ≤ B) ∧ n = ((B ^ gm.nons.toNat + 1 : Nat) : Int) ∧ n ≤ 1000 := by
  unfold longV at h
  split at h
  · rename_i hg
    have hn := good_nons hg
    have h4 : ∀ q, q < gm.rules.length → (rul gm.rules q).2.length ≤ 4 := fun q hq => (good_rights hg hq).1
    have hge := mostN_ge gm.rules gm.rules.length
    have hle := mostN_le h4 _ (Nat.le_refl _)
    obtain ⟨B, hB⟩ : ∃ B : Nat, mostN gm.rules gm.rules.length = B := ⟨(mostN gm.rules gm.rules.length).toNat, by omega⟩
    rw [hB] at h hge hle
    have hp := powN_eq (m := B) (by omega) gm.nons.toNat (by omega)
    rw [hp] at h
    have h1 : B ^ gm.nons.toNat ≤ 4 ^ gm.nons.toNat := Nat.pow_le_pow_left (by omega) _
    have h2 : 4 ^ gm.nons.toNat ≤ 4 ^ 6 := Nat.pow_le_pow_right (by decide) (by omega)
    have : (4 : Nat) ^ 6 = 4096 := rfl
    obtain ⟨P, hP⟩ : ∃ P : Nat, B ^ gm.nons.toNat = P := ⟨_, rfl⟩
    rw [hP] at h h1
    rw [i64_of (by omega) (by omega)] at h
    split at h
    · simp at h
    · simp at h
      refine ⟨hg, B, by omega, fun q hq => by have := hge.2 q hq; omega, ?_, by omega⟩
      rw [← h, hP]
      simp
  · simp at h
theorem long_pump {gm : Gram} {tree ws : List Int} {p : PT} {B : Nat} (hW : Whole gm tree p ws) (h1 : 1 ≤ B) (hB : ∀ q, q < gm.rules.length → (rul gm.rules q).2.length ≤ B) (hl : B ^ gm.nons.toNat < ws.length) : ∃ i j, pumpV p.parts = some (i, j) := by
  cases hp : pumpV p.parts with
  | some z => exact ⟨z.1, z.2, rfl⟩
  | none =>
    exfalso
    have hg := hW.good
    have hn := good_nons hg
    have hr : ReadP gm.rules tree p := ⟨_, 0, 0, [], ws, by omega, hW.read⟩
    have := short_noPump (rs := gm.rules) (tree := tree) h1 hB gm.nons.toNat ((List.range gm.nons.toNat).map fun (a : Nat) => (a : Int)) (by simp) p.parts.length p (Nat.le_refl _) hr (noPump_of hW hp) fun q hq => by
      obtain ⟨z, hz, e⟩ := (hr.part hq).rule
      have h1 := good_left hg hz
      rw [e] at h1
      rw [List.mem_map]
      exact ⟨q.non.toNat, List.mem_range.2 (by omega), by omega⟩
    have hw := read_words hW.read
    rw [hw.1, hw.2.1] at this
    simp at this
    omega
end Go.Sh
