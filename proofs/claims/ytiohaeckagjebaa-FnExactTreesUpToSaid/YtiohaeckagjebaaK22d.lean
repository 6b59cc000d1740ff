/- Texts of this repository put together: Bk, ShX4, ShX6, ShX7, ShX8, ShX9, ShY5, ShW0, ShW2, ShY6, ShX3, ShX5, ShXA, ShXB, ShY7, ShY8, ShY9, ShO1, ShYA, ShYB, ShM8, ShM9. -/
import Derived.Test.YtiohaeckagjebaaProg
import Derived.Test.YtiohaeckagjebaaK22a
import Derived.Test.YtiohaeckagjebaaK22c
import Derived.Test.YtiohaeckagjebaaK22b
import Derived.Shelf.Spec.SlicesInsert
import Derived.Shelf.Spec.SlicesInsertGrow
import Derived.Shelf.Slices.Delete
import Derived.WideKeyArr
import Derived.WideMake
import Derived.Shelf.SlSortCmp.Whole1

/- Bk: bodies of functions as terms of the frame calculus, printed by shgen.py of this repository. -/
set_option linter.unusedVariables false
set_option maxRecDepth 100000
namespace Go.Proofs.Ytiohaeckagjebaa
open Go Go.Sh

/-! loop.example/g00758/laws.FnExactCountSized -/
/-! loop.example/g00758/spec.CountSized -/
/-! loop.example/g00758/impl.CountSized -/
/-! loop.example/g00758/spec.l10Sized -/
def pl117 : Plans := fun i => match i with
  | 10 => ⟨true, [9], .step 0 .any (.step 1 .any (.step 2 .any (.step 3 .held (.step 4 .any (.step 5 .any (.step 6 .any (.step 7 .one (.step 8 .any (.step 9 .last (.nil))))))))))⟩
  | 26 => ⟨true, [26], .step 0 .any (.step 1 .any (.step 2 .held (.step 3 .any (.step 4 .held (.step 5 .any (.step 6 .any (.step 7 .any (.step 8 .any (.step 9 .any (.step 10 .any (.step 11 .held (.step 12 .any (.step 13 .any (.step 14 .any (.step 15 .any (.step 16 .any (.step 17 .held (.step 18 .any (.step 19 .any (.step 20 .any (.step 21 .any (.step 22 .one (.step 23 .any (.step 24 .one (.step 25 .any (.step 26 .last (.nil)))))))))))))))))))))))))))⟩
  | _ => ⟨false, [], .nil⟩
def S117 (v0 v1 v2 : Value) (k : Value → World → Prop) (w : World) : Prop :=
 Do Try.prog (sBox 37 v0) (fun t1 w2 =>
 Rd Try.prog (WS.at w2) (sBuiltin .len #[22] 3 [false] [v1]) fun t3 =>
 Rd Try.prog (WS.at w2) (sBin .add 3 true t3 (.int .i64 1)) fun t4 =>
 Rd Try.prog (WS.at w2) (sFieldAddr 37 t1 0) fun t5 =>
 Rd Try.prog (WS.at w2) (sLoad 3 t5) fun t6 =>
 Do Try.prog (sMakeSlice 126 t6 t6) (fun t7 w8 =>
 Rd Try.prog (WS.at w8) (sBuiltin .len #[126] 3 [false] [t7]) fun t9 =>
 LoopF [26, 27, 9, 28, 29, 30, 31, 32, 33, 34, 35, 36, 37, 38, 39, 40, 41, 42, 10, 43, 44, 45, 46, 47, 48, 49, 50, 51, 52, 40, 53, 25] (fun Q10 f11 w12 =>
  Rd Try.prog (WS.at w12) (sBin .lss 3 false (f11 25) (f11 24)) fun t13 =>
  CondK t13
   (Rd Try.prog (WS.at w12) (sBin .mul 3 false (f11 7) (f11 7)) fun t14 =>
   Do Try.prog (sMakeSlice 48 t14 t14) (fun t15 w16 =>
   Rd Try.prog (WS.at w16) (sIndexAddr 126 (f11 8) (f11 25)) fun t17 =>
   Do Try.prog (sStore 48 t17 t15) (fun _ w18 =>
   Rd Try.prog (WS.at w18) (sIndexAddr 126 (f11 8) (f11 25)) fun t19 =>
   Rd Try.prog (WS.at w18) (sLoad 48 t19) fun t20 =>
   Rd Try.prog (WS.at w18) (sBuiltin .len #[48] 3 [false] [t20]) fun t21 =>
   LoopF [41, 42, 10, 43, 44, 45, 46, 47, 48, 49, 50, 51, 52, 40] (fun Q22 f23 w24 =>
    Rd Try.prog (WS.at w24) (sBin .lss 3 false (f23 40) (f23 39)) fun t25 =>
    CondK t25
     (∃ S26 : World → Prop, ∃ h27 : S26 w24.drew,
     Rd Try.prog WS.any (sIndexAddr 126 (f23 8) (f23 9)) fun t28 =>
     Rd Try.prog ⟨S26, w24.drew, h27⟩ (sLoad 48 t28) fun t29 =>
     Rd Try.prog WS.any (sBin .add 3 true (f23 2) (.int .i64 1)) fun t30 =>
     Do Try.prog (sMakeSlice 22 t30 t30) (fun t31 w32 =>
     S26 w32 ∧ Rd Try.prog WS.any (sIndexAddr 48 t29 (f23 40)) fun t33 =>
     Do Try.prog (sStore 22 t33 t31) (fun _ w34 =>
     Rd Try.prog (WS.at w34) (sBin .add 3 true (f23 40) (.int .i64 1)) fun t35 =>
     Q22 .normal (F.upd (F.upd (F.upd (F.upd (F.upd (F.upd (F.upd (F.upd (F.upd (F.upd (F.upd (F.upd (F.upd (F.upd f23 41 t25) 42 (f23 40)) 10 (f23 40)) 43 (f23 8)) 44 (f23 9)) 45 t28) 46 t29) 47 (f23 40)) 48 (f23 2)) 49 t30) 50 t31) 51 t33) 52 t35) 40 t35) w34) w32) w24.drew)
     (Q22 (.exit 2) (F.upd f23 41 t25) w24))
    (blockQ 2 (blockQ 1 (seqQ (fun f36 w37 =>
   Rd Try.prog (WS.at w37) (sBin .add 3 true (f36 25) (.int .i64 1)) fun t38 =>
   Q10 .normal (F.upd (F.upd f36 53 t38) 25 t38) w37) Q10)))
    (F.upd (F.upd (F.upd (F.upd (F.upd (F.upd (F.upd (F.upd (F.upd (F.upd (F.upd (F.upd (F.upd (F.upd (F.upd (F.upd f11 26 t13) 27 (f11 25)) 9 (f11 25)) 28 (f11 8)) 29 (f11 25)) 30 (f11 7)) 31 (f11 7)) 32 t14) 33 t15) 34 t17) 35 (f11 8)) 36 (f11 25)) 37 t19) 38 t20) 39 t21) 40 (.int .i64 0)) w18) w16) w12)
   (Q10 (.exit 0) (F.upd f11 26 t13) w12))
  (blockQ 0 (seqQ (fun f39 w40 =>
 LoopF [54, 55, 56, 59, 60, 61, 62, 63, 64, 65, 13, 14, 66, 67, 68, 71, 15, 72, 73, 74, 77, 78, 79, 80, 81, 82, 83, 84, 85, 86, 87, 88, 89, 90, 91, 16, 92, 93, 94, 95, 96, 97, 98, 99, 100, 101, 102, 103, 104, 105, 106, 107, 108, 109, 110, 111, 112, 113, 114, 115, 116, 117, 75, 76, 15, 69, 70, 14, 118, 62, 57, 58, 11] (fun Q41 f42 w43 =>
  Rd Try.prog (WS.at w43) (sBin .leq 3 false (f42 11) (f42 2)) fun t44 =>
  CondK t44
   (Rd Try.prog (WS.at w43) (sFieldAddr 37 (f42 3) 2) fun t45 =>
   Rd Try.prog (WS.at w43) (sLoad 35 t45) fun t46 =>
   Rd Try.prog (WS.at w43) (sBuiltin .len #[35] 3 [false] [t46]) fun t47 =>
   LoopF [63, 64, 65, 13, 14, 66, 67, 68, 71, 15, 72, 73, 74, 77, 78, 79, 80, 81, 82, 83, 84, 85, 86, 87, 88, 89, 90, 91, 16, 92, 93, 94, 95, 96, 97, 98, 99, 100, 101, 102, 103, 104, 105, 106, 107, 108, 109, 110, 111, 112, 113, 114, 115, 116, 117, 75, 76, 15, 69, 70, 14, 118, 62] (fun Q48 f49 w50 =>
    Rd Try.prog (WS.at w50) (sBin .lss 3 false (f49 62) (f49 61)) fun t51 =>
    CondK t51
     (Rd Try.prog (WS.at w50) (sIndexAddr 35 (f49 60) (f49 62)) fun t52 =>
     Rd Try.prog (WS.at w50) (sLoad 77 t52) fun t53 =>
     Do Try.prog (sAlloc 77) (fun t54 w55 =>
     Do Try.prog (sStore 77 t54 t53) (fun _ w56 =>
     LoopF [66, 67, 68, 71, 15, 72, 73, 74, 77, 78, 79, 80, 81, 82, 83, 84, 85, 86, 87, 88, 89, 90, 91, 16, 92, 93, 94, 95, 96, 97, 98, 99, 100, 101, 102, 103, 104, 105, 106, 107, 108, 109, 110, 111, 112, 113, 114, 115, 116, 117, 75, 76, 15, 69, 70, 14] (fun Q57 f58 w59 =>
      Rd Try.prog (WS.at w59) (sBin .lss 3 false (f58 14) (f58 7)) fun t60 =>
      CondK t60
       (LoopF [72, 73, 74, 77, 78, 79, 80, 81, 82, 83, 84, 85, 86, 87, 88, 89, 90, 91, 16, 92, 93, 94, 95, 96, 97, 98, 99, 100, 101, 102, 103, 104, 105, 106, 107, 108, 109, 110, 111, 112, 113, 114, 115, 116, 117, 75, 76, 15] (fun Q61 f62 w63 =>
        Rd Try.prog (WS.at w63) (sBin .lss 3 false (f62 15) (f62 7)) fun t64 =>
        CondK t64
         (Rd Try.prog (WS.at w63) (sFieldAddr 77 (f62 13) 0) fun t65 =>
         Rd Try.prog (WS.at w63) (sLoad 3 t65) fun t66 =>
         Rd Try.prog (WS.at w63) (sIndexAddr 126 (f62 8) t66) fun t67 =>
         Rd Try.prog (WS.at w63) (sLoad 48 t67) fun t68 =>
         Rd Try.prog (WS.at w63) (sBin .mul 3 false (f62 14) (f62 7)) fun t69 =>
         Rd Try.prog (WS.at w63) (sBin .add 3 false t69 (f62 15)) fun t70 =>
         Rd Try.prog (WS.at w63) (sIndexAddr 48 t68 t70) fun t71 =>
         Rd Try.prog (WS.at w63) (sLoad 22 t71) fun t72 =>
         Rd Try.prog (WS.at w63) (sIndexAddr 22 t72 (f62 11)) fun t73 =>
         Rd Try.prog (WS.at w63) (sLoad 3 t73) fun t74 =>
         ∃ S75 : World → Prop, ∃ h76 : S75 w63.drew,
         Rd Try.prog WS.any (sFieldAddr 77 (f62 13) 0) fun t77 =>
         Rd Try.prog ⟨S75, w63.drew, h76⟩ (sLoad 3 t77) fun t78 =>
         Rd Try.prog WS.any (sIndexAddr 126 (f62 8) t78) fun t79 =>
         Rd Try.prog ⟨S75, w63.drew, h76⟩ (sLoad 48 t79) fun t80 =>
         Rd Try.prog WS.any (sBin .mul 3 false (f62 14) (f62 7)) fun t81 =>
         Rd Try.prog WS.any (sBin .add 3 false t81 (f62 15)) fun t82 =>
         Rd Try.prog WS.any (sIndexAddr 48 t80 t82) fun t83 =>
         Rd Try.prog ⟨S75, w63.drew, h76⟩ (sLoad 22 t83) fun t84 =>
         Rd Try.prog WS.any (sFieldAddr 77 (f62 13) 1) fun t85 =>
         Rd Try.prog ⟨S75, w63.drew, h76⟩ (sLoad 22 t85) fun t86 =>
         Rd Try.prog WS.any (sBin .sub 3 true (f62 11) (.int .i64 1)) fun t87 =>
         CallK Try.prog 156 [(f62 8), (f62 1), t86, (f62 14), (f62 15), t87] (fun t88 w89 =>
         S75 w89 ∧ Rd Try.prog WS.any (sBin .add 3 false t74 t88) fun t90 =>
         CallK Try.prog 155 [t90] (fun t91 w92 =>
         S75 w92 ∧ Rd Try.prog WS.any (sIndexAddr 22 t84 (f62 11)) fun t93 =>
         Do Try.prog (sStore 3 t93 t91) (fun _ w94 =>
         Rd Try.prog (WS.at w94) (sBin .add 3 true (f62 15) (.int .i64 1)) fun t95 =>
         Q61 .normal (F.upd (F.upd (F.upd (F.upd (F.upd (F.upd (F.upd (F.upd (F.upd (F.upd (F.upd (F.upd (F.upd (F.upd (F.upd (F.upd (F.upd (F.upd (F.upd (F.upd (F.upd (F.upd (F.upd (F.upd (F.upd (F.upd (F.upd (F.upd (F.upd (F.upd (F.upd (F.upd (F.upd (F.upd (F.upd (F.upd (F.upd (F.upd (F.upd (F.upd (F.upd (F.upd (F.upd (F.upd (F.upd (F.upd (F.upd (F.upd f62 72 (f62 15)) 73 (f62 7)) 74 t64) 77 (f62 8)) 78 t65) 79 t66) 80 t67) 81 t68) 82 (f62 14)) 83 (f62 7)) 84 t69) 85 (f62 15)) 86 t70) 87 t71) 88 t72) 89 (f62 11)) 90 t73) 91 t74) 16 t74) 92 (f62 8)) 93 t77) 94 t78) 95 t79) 96 t80) 97 (f62 14)) 98 (f62 7)) 99 t81) 100 (f62 15)) 101 t82) 102 t83) 103 t84) 104 (f62 11)) 105 t74) 106 (f62 8)) 107 (f62 1)) 108 t85) 109 t86) 110 (f62 14)) 111 (f62 15)) 112 (f62 11)) 113 t87) 114 t88) 115 t90) 116 t91) 117 t93) 75 (f62 15)) 76 t95) 15 t95) w94) w92) w89) w63.drew)
         (Q61 (.exit 10) (F.upd (F.upd (F.upd f62 72 (f62 15)) 73 (f62 7)) 74 t64) w63))
        (blockQ 10 (blockQ 9 (seqQ (fun f96 w97 =>
       Rd Try.prog (WS.at w97) (sBin .add 3 true (f96 14) (.int .i64 1)) fun t98 =>
       Q57 .normal (F.upd (F.upd (F.upd f96 69 (f96 14)) 70 t98) 14 t98) w97) Q57)))
        (F.upd (F.upd (F.upd (F.upd (F.upd f58 66 (f58 14)) 67 (f58 7)) 68 t60) 71 (f58 14)) 15 (f58 14)) w59)
       (Q57 (.exit 8) (F.upd (F.upd (F.upd f58 66 (f58 14)) 67 (f58 7)) 68 t60) w59))
      (blockQ 8 (blockQ 7 (seqQ (fun f99 w100 =>
     Rd Try.prog (WS.at w100) (sBin .add 3 true (f99 62) (.int .i64 1)) fun t101 =>
     Q48 .normal (F.upd (F.upd f99 118 t101) 62 t101) w100) Q48)))
      (F.upd (F.upd (F.upd (F.upd (F.upd f49 63 t51) 64 t52) 65 t53) 13 t54) 14 (.int .i64 0)) w56) w55) w50)
     (Q48 (.exit 6) (F.upd f49 63 t51) w50))
    (blockQ 6 (blockQ 5 (seqQ (fun f102 w103 =>
   Rd Try.prog (WS.at w103) (sBin .add 3 true (f102 11) (.int .i64 1)) fun t104 =>
   Q41 .normal (F.upd (F.upd (F.upd f102 57 (f102 11)) 58 t104) 11 t104) w103) Q41)))
    (F.upd (F.upd (F.upd (F.upd (F.upd (F.upd (F.upd f42 54 (f42 11)) 55 (f42 2)) 56 t44) 59 t45) 60 t46) 61 t47) 62 (.int .i64 0)) w43)
   (Q41 (.exit 4) (F.upd (F.upd (F.upd f42 54 (f42 11)) 55 (f42 2)) 56 t44) w43))
  (blockQ 4 (seqQ (fun f105 w106 =>
 k (f105 8) w106) (bodyQ Try.prog [.tmp 6] k)))
  (F.upd f39 11 (.int .i64 1)) w40) (bodyQ Try.prog [.tmp 6] k)))
  (F.upd (F.upd (F.upd (F.upd (F.upd (F.upd (F.upd (F.upd (F.upd (F.upd (F.upd (F.upd (F.upd (initF [v0, v1, v2]) 3 t1) 6 (.slice none 0 0)) 17 v1) 18 t3) 19 t4) 7 t4) 20 t5) 21 t6) 22 t7) 8 t7) 23 t7) 24 t9) 25 (.int .i64 0)) w8) w2) w
theorem body117 : Try.f117.body = some (bodyOf Try.f117) := by kernel_rfl
theorem same117 (v0 v1 v2 : Value) (k : Value → World → Prop) (w : World) : wpF Try.prog pl117 (bodyOf Try.f117) (bodyQ Try.prog Try.f117.results.toList k) (initF [v0, v1, v2]) w = S117 v0 v1 v2 k w := by kernel_rfl
theorem enter117 {v0 v1 v2 : Value} {k : Value → World → Prop} {w : World} (h : S117 v0 v1 v2 k w) : CallK Try.prog 117 [v0, v1, v2] k w :=
  call_of_wpF (pl := pl117) mixed Try.func117 body117 (by kernel_rfl) (of_decide_eq_true (by kernel_rfl)) (by kernel_rfl) (by kernel_rfl) (same117 v0 v1 v2 k w ▸ h)

/-! (*loop.example/g00758/impl.sizedCount).trees -/
/-! loop.example/g00758/spec.l10Cap -/
def pl155 : Plans := fun _ => ⟨false, [], .nil⟩
def S155 (v0 : Value) (k : Value → World → Prop) (w : World) : Prop :=
 CallK Try.prog 161 [v0, (.int .i64 1000000000)] (fun t1 w2 =>
 k t1 w2) w
theorem body155 : Try.f155.body = some (bodyOf Try.f155) := by kernel_rfl
theorem same155 (v0 : Value) (k : Value → World → Prop) (w : World) : wpF Try.prog pl155 (bodyOf Try.f155) (bodyQ Try.prog Try.f155.results.toList k) (initF [v0]) w = S155 v0 k w := by kernel_rfl
theorem enter155 {v0 : Value} {k : Value → World → Prop} {w : World} (h : S155 v0 k w) : CallK Try.prog 155 [v0] k w :=
  call_of_wpF (pl := pl155) mixed Try.func155 body155 (by kernel_rfl) (of_decide_eq_true (by kernel_rfl)) (by kernel_rfl) (by kernel_rfl) (same155 v0 k w ▸ h)

/-! loop.example/g00758/spec.l10Row -/
def pl156 : Plans := fun _ => ⟨false, [], .nil⟩
def S156 (v0 v1 v2 v3 v4 v5 : Value) (k : Value → World → Prop) (w : World) : Prop :=
 Rd Try.prog (WS.at w) (sBuiltin .len #[22] 3 [false] [v2]) fun t1 =>
 Rd Try.prog (WS.at w) (sBin .eql 3 true t1 (.int .i64 0)) fun t2 =>
 CondK t2
  (Rd Try.prog (WS.at w) (sBin .eql 3 false v3 v4) fun t3 =>
  GuardK t3 true (fun k w' => k v5 w') (fun t4 w5 =>
  GuardK t3 true (fun k w' => Rd Try.prog (WS.at w5) (sBin .eql 3 true t4 (.int .i64 0)) fun v => k v w') (fun t6 w7 =>
  Rd Try.prog (WS.at w7) (sPick t3 t6 (.bool false)) fun t8 =>
  CondK t8
   (k (.int .i64 1) w7)
   (k (.int .i64 0) w7)) w5) w)
  (Rd Try.prog (WS.at w) (sIndexAddr 22 v2 (.int .i64 0)) fun t9 =>
  Rd Try.prog (WS.at w) (sLoad 3 t9) fun t10 =>
  Rd Try.prog (WS.at w) (sBin .lss 3 true t10 (.int .i64 0)) fun t11 =>
  CondK t11
   (Rd Try.prog (WS.at w) (sBin .lss 3 false v3 v4) fun t12 =>
   GuardK t12 true (fun k w' => k v1 w') (fun t13 w14 =>
   GuardK t12 true (fun k w' => k v3 w') (fun t15 w16 =>
   GuardK t12 true (fun k w' => Rd Try.prog (WS.at w16) (sIndexAddr 22 t13 t15) fun v => k v w') (fun t17 w18 =>
   GuardK t12 true (fun k w' => Rd Try.prog (WS.at w18) (sLoad 3 t17) fun v => k v w') (fun t19 w20 =>
   GuardK t12 true (fun k w' => k t10 w') (fun t21 w22 =>
   GuardK t12 true (fun k w' => Rd Try.prog (WS.at w22) (sBin .sub 3 true (.int .i64 (-1)) t21) fun v => k v w') (fun t23 w24 =>
   GuardK t12 true (fun k w' => Rd Try.prog (WS.at w24) (sBin .eql 3 false t19 t23) fun v => k v w') (fun t25 w26 =>
   Rd Try.prog (WS.at w26) (sPick t12 t25 (.bool false)) fun t27 =>
   CondK t27
    (Rd Try.prog (WS.at w26) (sSlice 22 v2 (some (.int .i64 1)) none none) fun t28 =>
    Rd Try.prog (WS.at w26) (sBin .add 3 true v3 (.int .i64 1)) fun t29 =>
    CallK Try.prog 156 [v0, v1, t28, t29, v4, v5] (fun t30 w31 =>
    k t30 w31) w26)
    (k (.int .i64 0) w26)) w24) w22) w20) w18) w16) w14) w)
   (LoopF [55, 56, 57, 16, 60, 61, 62, 65, 66, 67, 68, 69, 70, 71, 72, 73, 74, 75, 76, 77, 78, 79, 80, 17, 81, 82, 83, 84, 85, 86, 87, 88, 89, 90, 91, 92, 93, 94, 95, 96, 97, 14, 63, 64, 16, 58, 59, 15] (fun Q32 f33 w34 =>
    Rd Try.prog (WS.at w34) (sBin .leq 3 false (f33 15) (f33 4)) fun t35 =>
    CondK t35
     (LoopF [60, 61, 62, 65, 66, 67, 68, 69, 70, 71, 72, 73, 74, 75, 76, 77, 78, 79, 80, 17, 81, 82, 83, 84, 85, 86, 87, 88, 89, 90, 91, 92, 93, 94, 95, 96, 97, 14, 63, 64, 16] (fun Q36 f37 w38 =>
      Rd Try.prog (WS.at w38) (sBin .leq 3 false (f37 16) (f37 5)) fun t39 =>
      CondK t39
       (Join (fun K40 =>
       Rd Try.prog (WS.at w38) (sIndexAddr 126 (f37 0) (f37 13)) fun t43 =>
       Rd Try.prog (WS.at w38) (sLoad 48 t43) fun t44 =>
       Rd Try.prog (WS.at w38) (sBuiltin .len #[22] 3 [false] [(f37 1)]) fun t45 =>
       Rd Try.prog (WS.at w38) (sBin .add 3 true t45 (.int .i64 1)) fun t46 =>
       Rd Try.prog (WS.at w38) (sBin .mul 3 false (f37 3) t46) fun t47 =>
       Rd Try.prog (WS.at w38) (sBin .add 3 false t47 (f37 15)) fun t48 =>
       Rd Try.prog (WS.at w38) (sIndexAddr 48 t44 t48) fun t49 =>
       Rd Try.prog (WS.at w38) (sLoad 22 t49) fun t50 =>
       Rd Try.prog (WS.at w38) (sIndexAddr 22 t50 (f37 16)) fun t51 =>
       Rd Try.prog (WS.at w38) (sLoad 3 t51) fun t52 =>
       Rd Try.prog (WS.at w38) (sBin .gtr 3 true t52 (.int .i64 0)) fun t53 =>
       CondK t53
        (Rd Try.prog (WS.at w38) (sSlice 22 (f37 2) (some (.int .i64 1)) none none) fun t54 =>
        Rd Try.prog (WS.at w38) (sBin .sub 3 false (f37 5) (f37 16)) fun t55 =>
        CallK Try.prog 156 [(f37 0), (f37 1), t54, (f37 15), (f37 4), t55] (fun t56 w57 =>
        Rd Try.prog (WS.at w57) (sBin .mul 3 false t52 t56) fun t58 =>
        Rd Try.prog (WS.at w57) (sBin .add 3 false (f37 14) t58) fun t59 =>
        CallK Try.prog 155 [t59] (fun t60 w61 =>
        K40 (F.upd (F.upd (F.upd (F.upd (F.upd (F.upd (F.upd (F.upd (F.upd (F.upd (F.upd (F.upd (F.upd (F.upd (F.upd (F.upd (F.upd (F.upd (F.upd (F.upd (F.upd (F.upd (F.upd (F.upd (F.upd (F.upd (F.upd (F.upd (F.upd (F.upd (F.upd (F.upd (F.upd (F.upd (F.upd (F.upd (F.upd (F.upd f37 60 (f37 16)) 61 (f37 5)) 62 t39) 65 (f37 0)) 66 (f37 13)) 67 t43) 68 t44) 69 (f37 3)) 70 (f37 1)) 71 t45) 72 t46) 73 t47) 74 (f37 15)) 75 t48) 76 t49) 77 t50) 78 (f37 16)) 79 t51) 80 t52) 17 t52) 81 t52) 82 t53) 83 (f37 14)) 84 t52) 85 (f37 0)) 86 (f37 1)) 87 (f37 2)) 88 t54) 89 (f37 15)) 90 (f37 4)) 91 (f37 5)) 92 (f37 16)) 93 t55) 94 t56) 95 t58) 96 t59) 97 t60) 14 t60) w61) w57) w38)
        (K40 (F.upd (F.upd (F.upd (F.upd (F.upd (F.upd (F.upd (F.upd (F.upd (F.upd (F.upd (F.upd (F.upd (F.upd (F.upd (F.upd (F.upd (F.upd (F.upd (F.upd (F.upd (F.upd f37 60 (f37 16)) 61 (f37 5)) 62 t39) 65 (f37 0)) 66 (f37 13)) 67 t43) 68 t44) 69 (f37 3)) 70 (f37 1)) 71 t45) 72 t46) 73 t47) 74 (f37 15)) 75 t48) 76 t49) 77 t50) 78 (f37 16)) 79 t51) 80 t52) 17 t52) 81 t52) 82 t53) w38)) (fun f41 w42 =>
       Rd Try.prog (WS.at w42) (sBin .add 3 true (f41 16) (.int .i64 1)) fun t62 =>
       Q36 .normal (F.upd (F.upd (F.upd f41 63 (f41 16)) 64 t62) 16 t62) w42))
       (Q36 (.exit 2) (F.upd (F.upd (F.upd f37 60 (f37 16)) 61 (f37 5)) 62 t39) w38))
      (blockQ 2 (blockQ 1 (seqQ (fun f63 w64 =>
     Rd Try.prog (WS.at w64) (sBin .add 3 true (f63 15) (.int .i64 1)) fun t65 =>
     Q32 .normal (F.upd (F.upd (F.upd f63 58 (f63 15)) 59 t65) 15 t65) w64) Q32)))
      (F.upd (F.upd (F.upd (F.upd f33 55 (f33 15)) 56 (f33 4)) 57 t35) 16 (.int .i64 1)) w34)
     (Q32 (.exit 0) (F.upd (F.upd (F.upd f33 55 (f33 15)) 56 (f33 4)) 57 t35) w34))
    (blockQ 0 (seqQ (fun f66 w67 =>
   k (f66 14) w67) (bodyQ Try.prog [.tmp 12] k)))
    (F.upd (F.upd (F.upd (F.upd (F.upd (F.upd (F.upd (F.upd (F.upd (F.upd (F.upd (F.upd (F.upd (initF [v0, v1, v2, v3, v4, v5]) 12 (.int .i64 0)) 18 v2) 19 t1) 20 t2) 28 v2) 29 t9) 30 t10) 13 t10) 31 t10) 32 t11) 14 (.int .i64 0)) 54 v3) 15 v3) w))
theorem body156 : Try.f156.body = some (bodyOf Try.f156) := by kernel_rfl
theorem same156 (v0 v1 v2 v3 v4 v5 : Value) (k : Value → World → Prop) (w : World) : wpF Try.prog pl156 (bodyOf Try.f156) (bodyQ Try.prog Try.f156.results.toList k) (initF [v0, v1, v2, v3, v4, v5]) w = S156 v0 v1 v2 v3 v4 v5 k w := by kernel_rfl
theorem enter156 {v0 v1 v2 v3 v4 v5 : Value} {k : Value → World → Prop} {w : World} (h : S156 v0 v1 v2 v3 v4 v5 k w) : CallK Try.prog 156 [v0, v1, v2, v3, v4, v5] k w :=
  call_of_wpF (pl := pl156) mixed Try.func156 body156 (by kernel_rfl) (of_decide_eq_true (by kernel_rfl)) (by kernel_rfl) (by kernel_rfl) (same156 v0 v1 v2 v3 v4 v5 k w ▸ h)

/-! loop.example/g00758/impl.plus -/
/-! (*loop.example/g00758/impl.sizedCount).rest -/
/-! loop.example/g00758/impl.times -/
end Go.Proofs.Ytiohaeckagjebaa

/- Contract: in how many ways symbols have trees of a size (the reference's l10Row). -/
set_option linter.unusedVariables false
set_option linter.unusedSimpArgs false
set_option maxRecDepth 100000
namespace Go.Sh
open Go
/-- A table of counts in memory: nonterminal, from and to, size. -/
structure TabR (w : World) (X : Option Addr) (nons n m : Nat) (t : Nat → Nat → Nat → Nat → Nat) : Prop where
  ptr : 0 < nons → X = some (ad X)
  row : ∀ A, A < nons → ∃ Y c, w.cell? ((ad X).add A) = some (.slice Y (n * n) c) ∧ Y = some (ad Y) ∧ ∀ i j, i < n → j < n → ∃ Z z, w.cell? ((ad Y).add (i * n + j)) = some (.slice Z (m + 1) z) ∧ Z = some (ad Z) ∧ ∀ k, k ≤ m → w.cell? ((ad Z).add k) = some (.int .i64 (t A i j k))
theorem TabR.gr {w w' : World} {X : Option Addr} {nons n m : Nat} {t : Nat → Nat → Nat → Nat → Nat} (h : TabR w X nons n m t) (g : Gr w w') : TabR w' X nons n m t := ⟨h.ptr, fun A hA => by
  obtain ⟨Y, c, h1, h2, h3⟩ := h.row A hA
  refine ⟨Y, c, g.cell h1, h2, fun i j hi hj => ?_⟩
  obtain ⟨Z, z, h4, h5, h6⟩ := h3 i j hi hj
  exact ⟨Z, z, g.cell h4, h5, fun k hk => g.cell (h6 k hk)⟩⟩
end Go.Sh
namespace Go.Proofs.Ytiohaeckagjebaa
open Go Go.Sh Go.RowKit
theorem l10Cap_c {w : World} {x y M : Nat} (hM : M = 1000000000) (hy : y = min M x) {k : Value → World → Prop} (hk : k (.int .i64 (y : Int)) w) : CallK Try.prog 155 [.int .i64 (x : Int)] k w := by
  have key : ∀ L : Int, L = 1000000000 → CallK Try.prog 161 [.int .i64 (x : Int), .int .i64 L] k w := fun L hL => by
    refine enter161 ?_
    unfold S161
    simp only [go_sem, Nat.reduceEqDiff]
    by_cases h : (x : Int) < L
    · simp only [h, decide_true, go_sem, Nat.reduceEqDiff]
      have e : y = x := by omega
      rwa [e] at hk
    · simp only [h, decide_false, go_sem, Nat.reduceEqDiff]
      have e : (y : Int) = L := by omega
      rwa [e] at hk
  refine enter155 ?_
  exact key _ rfl
theorem l10Row_c {w : World} {X W : Option Addr} {nons m cX cW M : Nat} {t c : Nat → Nat → Nat → Nat → Nat} {ws : List Int} (hM : M = 1000000000) (T : TabR w X nons (ws.length + 1) m t) (hW : Ints w W ws) (hl : ws.length ≤ 10) (hwv : ∀ x ∈ ws, 0 ≤ x ∧ x ≤ 100) (hno : nons ≤ 6) (hm : m ≤ 20) :
    ∀ {xs : List Int} {R : Option Addr} {cR i j s : Nat} {k : Value → World → Prop}, Ints w R xs → xs.length ≤ cR → xs.length ≤ 100 → (∀ x ∈ xs, -100 ≤ x ∧ x < nons) → i ≤ ws.length → j ≤ ws.length → s ≤ m → (∀ A i j k, k ≤ s → t A i j k = min M (c A i j k)) →
    (∀ y : Nat, y = min M (cntR c ws xs i j s) → k (.int .i64 (y : Int)) w) →
    CallK Try.prog 156 [.slice X nons cX, .slice W ws.length cW, .slice R xs.length cR, .int .i64 i, .int .i64 j, .int .i64 s] k w := by
  intro xs
  induction xs with
  | nil =>
    intro R cR i j s k hR hc hlx hx hi hj hs ht hk
    refine enter156 ?_
    unfold S156
    simp only [List.length_nil, show (((0 : Nat) : Int) = 0) from rfl, decide_true, go_sem, Nat.reduceEqDiff]
    rw [cntR] at hk
    by_cases hij : i = j
    · subst hij
      by_cases h0 : s = 0
      · subst h0
        simp only [show (((0 : Nat) : Int) = 0) from rfl, decide_true, go_sem, Nat.reduceEqDiff]
        exact hk 1 (by rw [if_pos ⟨rfl, rfl⟩]; omega)
      · simp only [show ¬ ((s : Int) = 0) from by omega, decide_true, decide_false, go_sem, Nat.reduceEqDiff]
        exact hk 0 (by rw [if_neg (fun h => h0 h.2)]; omega)
    · simp only [show ¬ ((i : Int) = j) from by omega, decide_false, go_sem, Nat.reduceEqDiff]
      exact hk 0 (by rw [if_neg (fun h => hij h.1)]; omega)
  | cons x xs ih =>
    intro R cR i j s k hR hc hlx hx hi hj hs ht hk
    refine enter156 ?_
    unfold S156
    rw [List.length_cons] at hc hlx
    have hxx := hx x (List.mem_cons_self ..)
    simp only [show ¬ (((x :: xs).length : Int) = 0) from by rw [List.length_cons]; omega, decide_false, go_sem, Nat.reduceEqDiff]
    refine rdi (ix22_0 hR.ptr (by simp)) (rdi (ld3 (hR.cell 0 (by simp))) ?_)
    have hsub := hR.sub (l := 1) (c := cR) (by simp) (by simp; omega) xs.length
    rw [List.drop_one, List.tail_cons, List.take_length] at hsub
    simp only [List.getD_cons_zero, go_sem, Nat.reduceEqDiff]
    rw [cntR] at hk
    by_cases hx0 : x < 0
    · simp only [hx0, decide_true, go_sem, Nat.reduceEqDiff]
      rw [if_pos hx0] at hk
      by_cases hij : i < j
      case neg =>
        simp only [show ¬ ((i : Int) < j) from by omega, decide_false, go_sem, Nat.reduceEqDiff]
        exact hk 0 (by rw [if_neg (fun h => hij h.1)]; omega)
      simp only [show ((i : Int) < j) from by omega, decide_true, go_sem, Nat.reduceEqDiff]
      refine rdi (ixn22 hW.ptr (by omega)) (rdi (ld3 (hW.cell i (by omega))) ?_)
      simp only [go_sem, Nat.reduceEqDiff]
      rw [i64_of (by omega) (by omega)]
      by_cases htk : ws.getD i 0 = -1 - x
      case neg =>
        simp only [htk, decide_false, go_sem, Nat.reduceEqDiff]
        exact hk 0 (by rw [if_neg (fun h => htk h.2)]; omega)
      simp only [htk, decide_true, go_sem, Nat.reduceEqDiff]
      refine rdi (sll22 (by omega) (by rw [List.length_cons]; omega)) ?_
      rw [i64_of (by omega) (by omega)]
      rw [if_pos ⟨hij, htk⟩] at hk
      refine ih (i := i + 1) hsub (by show xs.length ≤ cR - 1; omega) (by omega) (fun y hy => hx y (List.mem_cons_of_mem _ hy)) (by omega) hj hs ht ?_
      exact hk
    · simp only [hx0, decide_false, go_sem, Nat.reduceEqDiff]
      rw [if_neg hx0] at hk
      obtain ⟨A, rfl⟩ : ∃ A : Nat, x = A := ⟨x.toNat, by omega⟩
      rw [Int.toNat_natCast] at hk
      have hA : A < nons := by omega
      refine loop_to (j + 1 - i) 0 (fun q f w' => q ≤ j + 1 - i ∧ f 15 = .int .i64 ((i + q : Nat) : Int) ∧ w' = w ∧ ∃ y : Nat, f 14 = .int .i64 (y : Int) ∧ y = min M (sumN (fun m => sumN (fun k => c A i (i + m) (k + 1) * cntR c ws xs (i + m) j (s - (k + 1))) s) q))
        ⟨Nat.zero_le _, rfl, rfl, 0, rfl, by simp [sumN]⟩ ?_
      rintro q f w1 N hag ⟨hq, h15, rfl, y, h14, hy⟩ hN
      have f0 : f 0 = .slice X nons cX := hag 0 (by decide)
      have f1 : f 1 = .slice W ws.length cW := hag 1 (by decide)
      have f2 : f 2 = .slice R (((A : Int) :: xs).length) cR := hag 2 (by decide)
      have f3 : f 3 = .int .i64 i := hag 3 (by decide)
      have f4 : f 4 = .int .i64 j := hag 4 (by decide)
      have f5 : f 5 = .int .i64 s := hag 5 (by decide)
      have f13 : f 13 = .int .i64 (A : Int) := hag 13 (by decide)
      simp only [f4, h15, h14, go_sem, Nat.reduceEqDiff]
      by_cases hle : i + q ≤ j
      case neg =>
        simp only [show ¬ (((i + q : Nat) : Int) ≤ j) from by omega, decide_false, go_sem, Nat.reduceEqDiff]
        obtain rfl : q = j + 1 - i := by omega
        exact hk y hy
      simp only [show (((i + q : Nat) : Int) ≤ j) from by omega, decide_true, go_sem, Nat.reduceEqDiff]
      refine loop_to s 0 (fun kk f w' => kk ≤ s ∧ f 16 = .int .i64 ((kk + 1 : Nat) : Int) ∧ w' = w1 ∧ ∃ y : Nat, f 14 = .int .i64 (y : Int) ∧ y = min M (sumN (fun m => sumN (fun k => c A i (i + m) (k + 1) * cntR c ws xs (i + m) j (s - (k + 1))) s) q + sumN (fun k => c A i (i + q) (k + 1) * cntR c ws xs (i + q) j (s - (k + 1))) kk))
        ⟨Nat.zero_le _, rfl, rfl, y, h14, by simpa [sumN] using hy⟩ ?_
      rintro kk g w2 N2 hag2 ⟨hkk, h16, rfl, y2, h14', hy2⟩ hN2
      have g0 : g 0 = .slice X nons cX := (hag2 0 (by decide)).trans f0
      have g1 : g 1 = .slice W ws.length cW := (hag2 1 (by decide)).trans f1
      have g2 : g 2 = .slice R (((A : Int) :: xs).length) cR := (hag2 2 (by decide)).trans f2
      have g3 : g 3 = .int .i64 i := (hag2 3 (by decide)).trans f3
      have g4 : g 4 = .int .i64 j := (hag2 4 (by decide)).trans f4
      have g5 : g 5 = .int .i64 s := (hag2 5 (by decide)).trans f5
      have g13 : g 13 = .int .i64 (A : Int) := (hag2 13 (by decide)).trans f13
      have g15 : g 15 = .int .i64 ((i + q : Nat) : Int) := (hag2 15 (by decide)).trans h15
      simp only [g0, g1, g2, g3, g4, g5, g13, g15, h16, h14', go_sem, Nat.reduceEqDiff]
      by_cases hlt : kk < s
      case neg =>
        simp only [show ¬ (((kk + 1 : Nat) : Int) ≤ s) from by omega, decide_false, go_sem, Nat.reduceEqDiff]
        obtain rfl : kk = s := by omega
        rw [i64_of (by omega) (by omega)]
        exact hN _ _ (by omega) ⟨by omega, by show Value.int .i64 (((i + q : Nat) : Int) + 1) = _; congr 1, rfl, y2, h14', by rw [sumN]; exact hy2⟩
      simp only [show (((kk + 1 : Nat) : Int) ≤ s) from by omega, decide_true, go_sem, Nat.reduceEqDiff]
      obtain ⟨Y, cY, hc1, hYp, hrow⟩ := T.row A hA
      obtain ⟨Z, cZ, hc2, hZp, hcell⟩ := hrow i (i + q) (by omega) (by omega)
      have hmul : i * (ws.length + 1) ≤ 10 * 11 := Nat.mul_le_mul (by omega) (by omega)
      have hmul2 : i * (ws.length + 1) + (ws.length + 1) ≤ (ws.length + 1) * (ws.length + 1) := by
        rw [← Nat.succ_mul]
        exact Nat.mul_le_mul_right _ (by omega)
      refine rdi (ixn126 T.ptr hA) (rdi (ld48 hc1) ?_)
      rw [i64_of (n := (ws.length : Int) + 1) (by omega) (by omega), show (i : Int) * ((ws.length : Int) + 1) = ((i * (ws.length + 1) : Nat) : Int) from by simp, i64_of (n := ((i * (ws.length + 1) : Nat) : Int)) (by omega) (by omega), i64_of (n := ((i * (ws.length + 1) : Nat) : Int) + ((i + q : Nat) : Int)) (by omega) (by omega), show ((i * (ws.length + 1) : Nat) : Int) + ((i + q : Nat) : Int) = ((i * (ws.length + 1) + (i + q) : Nat) : Int) from by omega]
      refine rdi (ixn48 (fun _ => hYp) (by omega)) (rdi (ld22 hc2) ?_)
      refine rdi (ixn22 (fun _ => hZp) (by omega)) (rdi (ld3 (hcell (kk + 1) (by omega))) ?_)
      have htv := ht A i (i + q) (kk + 1) (by omega)
      simp only [go_sem, Nat.reduceEqDiff]
      by_cases h0 : t A i (i + q) (kk + 1) = 0
      · simp only [h0, show ¬ ((0 : Int) < ((0 : Nat) : Int)) from by omega, decide_false, go_sem, Nat.reduceEqDiff]
        have hc0 : c A i (i + q) (kk + 1) = 0 := by omega
        rw [i64_of (by omega) (by omega)]
        exact hN2 _ _ hlt ⟨by omega, by show Value.int .i64 (((kk + 1 : Nat) : Int) + 1) = _; congr 1, rfl, y2, h14', by rw [sumN, hc0, Nat.zero_mul, Nat.add_zero]; exact hy2⟩
      · simp only [show ((0 : Int) < (t A i (i + q) (kk + 1) : Int)) from by omega, decide_true, go_sem, Nat.reduceEqDiff]
        refine rdi (sll22 (by omega) (by rw [List.length_cons]; omega)) ?_
        rw [i64_of (n := (s : Int) - ((kk + 1 : Nat) : Int)) (by omega) (by omega), show (s : Int) - ((kk + 1 : Nat) : Int) = ((s - (kk + 1) : Nat) : Int) from by omega]
        refine ih (i := i + q) hsub (by show xs.length ≤ cR - 1; omega) (by omega) (fun y hy => hx y (List.mem_cons_of_mem _ hy)) (by omega) hj (by omega) (fun A i j k hk => ht A i j k (by omega)) fun y3 hy3 => ?_
        have hb : t A i (i + q) (kk + 1) * y3 ≤ 1000000000 * 1000000000 := Nat.mul_le_mul (by omega) (by omega)
        simp only [go_sem, Nat.reduceEqDiff]
        rw [show (t A i (i + q) (kk + 1) : Int) * (y3 : Int) = ((t A i (i + q) (kk + 1) * y3 : Nat) : Int) from by simp, i64_of (n := ((t A i (i + q) (kk + 1) * y3 : Nat) : Int)) (by omega) (by omega), i64_of (n := (y2 : Int) + ((t A i (i + q) (kk + 1) * y3 : Nat) : Int)) (by omega) (by omega), show (y2 : Int) + ((t A i (i + q) (kk + 1) * y3 : Nat) : Int) = ((y2 + t A i (i + q) (kk + 1) * y3 : Nat) : Int) from by omega]
        refine l10Cap_c hM rfl ?_
        rw [i64_of (by omega) (by omega)]
        refine hN2 _ _ hlt ⟨by omega, by show Value.int .i64 (((kk + 1 : Nat) : Int) + 1) = _; congr 1, rfl, _, rfl, ?_⟩
        rw [sumN, ← Nat.add_assoc, hy2, hy3, htv, cap_mul_add]
end Go.Proofs.Ytiohaeckagjebaa

/- A family of slices of numbers that are owned (their heads lie elsewhere). -/
set_option linter.unusedVariables false
set_option linter.unusedSimpArgs false
set_option maxRecDepth 100000
namespace Go.Sh
open Go
structure Fam (e : Nat) (w : World) (B : Nat) (ls : List (List Int)) (ps : Nat → Option Addr × Nat) : Prop where
  own : ∀ j, j < ls.length → Own e w B (ps j).1 (ps j).2 (rgt ls j)
  two : ∀ i j, i < ls.length → j < ls.length → i ≠ j → blk (ps i).1 = none ∨ blk (ps i).1 ≠ blk (ps j).1
def FootL (ps : Nat → Option Addr × Nat) (n q : Nat) : Prop := ∃ l, l < n ∧ blk (ps l).1 = some q
section
variable {e B B' : Nat} {w w' w0 : World} {ls : List (List Int)} {ps : Nat → Option Addr × Nat} {L : List Thing}
theorem Fam.same (h : Fam e w B ls ps) (hs : ∀ q, FootL ps ls.length q → w'.heap[q]? = w.heap[q]?) : Fam e w' B ls ps :=
  ⟨fun j hj => Row.same (h.own j hj) fun q hq => hs q ⟨j, hj, hq⟩, h.two⟩
theorem Fam.up (h : Fam e w B ls ps) (hs : ∀ q, FootL ps ls.length q → B' ≤ q) : Fam e w B' ls ps :=
  ⟨fun j hj => Row.up (h.own j hj) fun q hq => hs q ⟨j, hj, hq⟩, h.two⟩
theorem Fam.mono (h : Fam e w B ls ps) (hb : B' ≤ B) : Fam e w B' ls ps := ⟨fun j hj => Row.mono (h.own j hj) hb, h.two⟩
theorem Fam.foot (h : Fam e w B ls ps) {q : Nat} (hq : FootL ps ls.length q) : B ≤ q ∧ q < w.heap.size := by
  obtain ⟨l, hl, hq⟩ := hq
  exact Row.ge (h.own l hl) hq
def fami (e : Nat) (ls : List (List Int)) (ps : Nat → Option Addr × Nat) : Thing := ⟨fun w => Fam e w 0 ls ps, FootL ps ls.length⟩
theorem fami_kept (h : Fam e w B ls ps) : ∀ w', (∀ q, (fami e ls ps).ft q → w'.heap[q]? = w.heap[q]?) → (fami e ls ps).P w' := fun w' hq => (h.mono (Nat.zero_le B)).same hq
theorem Apt.fam (H : Apt w0 w L) (i : Nat) (hi : L[i]? = some (fami e ls ps)) : Fam e w w0.heap.size ls ps := Fam.up (H.get i hi) (H.ok i _ hi).lo
theorem Apt.addFam (H : Apt w0 w L) (e : Nat) (ps : Nat → Option Addr × Nat) : Apt w0 w (L ++ [fami e [] ps]) :=
  H.add (Gr.refl w) _ (fun q hq => by obtain ⟨l, hl, _⟩ := hq; simp at hl) (fun q hq => by obtain ⟨l, hl, _⟩ := hq; simp at hl) fun w'' _ => ⟨fun j hj => by simp at hj, fun i j hi => by simp at hi⟩
/-- One more slice comes to the family. -/
theorem Apt.famPush (H : Apt w0 w L) {i j : Nat} (hij : i ≠ j) {d : Nat} {Y : Option Addr} {ys : List Int} (hi : L[i]? = some (fami e ls ps)) (hj : L[j]? = some (rwi e 1 Y ys.length d (Sh.ints ys))) : Apt w0 w ((L.set i (fami e (ls ++ [ys]) fun l => if l = ls.length then (Y, d) else ps l)).set j emp) := by
  have f := H.fam i hi
  have o := H.row j hj
  have hne : ∀ l, l < ls.length → blk (ps l).1 = none ∨ blk (ps l).1 ≠ blk Y := fun l hl => by
    cases hq : blk (ps l).1 with
    | none => exact .inl rfl
    | some q => exact .inr fun e' => H.two i j _ _ hij hi hj q ⟨l, hl, hq⟩ (show blk Y = some q from e'.symm)
  have f' : Fam e w w0.heap.size (ls ++ [ys]) fun l => if l = ls.length then (Y, d) else ps l := by
    refine ⟨fun l hl => ?_, fun a b ha hb hab => ?_⟩
    · by_cases h1 : l < ls.length
      · rw [if_neg (by omega), rgt_left h1]
        exact f.own l h1
      · obtain rfl : l = ls.length := by simp at hl; omega
        rw [if_pos rfl, rgt_last]
        exact o
    · rw [List.length_append] at ha hb
      simp only [List.length_cons, List.length_nil] at ha hb
      by_cases h1 : a < ls.length <;> by_cases h2 : b < ls.length
      · rw [if_neg (by omega), if_neg (by omega)]
        exact f.two a b h1 h2 hab
      · obtain rfl : b = ls.length := by omega
        rw [if_neg (by omega), if_pos rfl]
        exact hne a h1
      · obtain rfl : a = ls.length := by omega
        rw [if_pos rfl, if_neg (by omega)]
        exact blk_sym (hne b h2)
      · omega
  refine H.join hij hi hj (Gx.refl _ w) (fun q hq => ?_) (fun q hq => (f'.foot hq).2) (fami_kept f')
  obtain ⟨l, hl, hq⟩ := hq
  rw [List.length_append] at hl
  simp only [List.length_cons, List.length_nil] at hl
  by_cases h1 : l = ls.length
  · subst h1
    simp only [if_true] at hq
    exact .inr (.inl hq)
  · simp only [h1, if_false] at hq
    exact .inl ⟨l, by omega, hq⟩
end
end Go.Sh
namespace Go.Proofs.Ytiohaeckagjebaa
open Go Go.Sh Go.RowKit
/-- A store of one number into one slice of the family. -/
theorem famPut {k : Value → World → Prop} {w0 w : World} {L : List Thing} (H : Apt w0 w L) (i j : Nat) {m : Nat} {ls : List (List Int)} {ps : Nat → Option Addr × Nat} {x : Int} (hi : L[i]? = some (fami 3 ls ps)) (hj : j < ls.length) (hm : m < (rgt ls j).length)
    (h : ∀ w', Apt w0 w' (L.set i (fami 3 (ls.set j ((rgt ls j).set m x)) ps)) → k undef w') : Do Try.prog (sStore 3 (.pointer (some ((ad (ps j).1).add m))) (.int .i64 x)) k w := by
  have f := H.fam i hi
  refine do_store_row sz3 rfl rfl (f.own j hj) (by omega) fun w' g hs hr => ?_
  have hr' : Row w' w0.heap.size 3 1 (ps j).1 (rgt ls j).length (ps j).2 (ints ((rgt ls j).set m x)) := by
    rw [show ints ((rgt ls j).set m x) = (ints (rgt ls j)).set m (.int .i64 x) from by simp [ints]]
    exact hr
  have hg : ∀ l, rgt (ls.set j ((rgt ls j).set m x)) l = if l = j then (rgt ls j).set m x else rgt ls l := fun l => by
    simp only [rgt, List.getD_eq_getElem?_getD, List.getElem?_set]
    by_cases hij : j = l
    · subst hij
      simp [hj]
    · rw [if_neg hij, if_neg (fun e => hij e.symm)]
  have f' : Fam 3 w' w0.heap.size (ls.set j ((rgt ls j).set m x)) ps := by
    refine ⟨fun l hl => ?_, fun a b ha hb hab => ?_⟩
    · rw [List.length_set] at hl
      rw [hg l]
      by_cases hlj : l = j
      · subst hlj
        rw [if_pos rfl]
        unfold Own
        rw [List.length_set]
        exact hr'
      · rw [if_neg hlj]
        exact Row.kept (f.own l hl) g (f.two l j hl hj hlj)
    · rw [List.length_set] at ha hb
      exact f.two a b ha hb hab
  refine h w' (H.set hi (gx_of g fun q hq => ⟨j, hj, hq⟩) (fun q hq => .inl ?_) (fun q hq => (f'.foot hq).2) (fami_kept f'))
  obtain ⟨l, hl, hq⟩ := hq
  rw [List.length_set] at hl
  exact ⟨l, hl, hq⟩
end Go.Proofs.Ytiohaeckagjebaa

/- A table of counts: heads and leaves. -/
set_option linter.unusedVariables false
set_option linter.unusedSimpArgs false
set_option maxRecDepth 100000
namespace Go.Sh
open Go
/-- Where a leaf of a table stands. -/
def idxT (n A i j : Nat) : Nat := A * (n * n) + (i * n + j)
theorem idxT_lt {nons n A i j : Nat} (hA : A < nons) (hi : i < n) (hj : j < n) : idxT n A i j < nons * (n * n) := by
  have h1 := place_lt hi hj
  have h2 : (A + 1) * (n * n) ≤ nons * (n * n) := Nat.mul_le_mul_right _ hA
  rw [Nat.add_mul] at h2
  unfold idxT
  omega
theorem idxT_inj {n A i j A' i' j' : Nat} (hi : i < n) (hj : j < n) (hi' : i' < n) (hj' : j' < n) (h : idxT n A i j = idxT n A' i' j') : A = A' ∧ i = i' ∧ j = j' := by
  have h1 := place_lt hi hj
  have h2 := place_lt hi' hj'
  have hn : 0 < n := by omega
  have hnn : 0 < n * n := Nat.mul_pos hn hn
  unfold idxT at h
  have e1 : A = A' := by
    have := congrArg (· / (n * n)) h
    simp only [Nat.mul_comm _ (n * n), Nat.mul_add_div hnn, Nat.div_eq_of_lt h1, Nat.div_eq_of_lt h2, Nat.add_zero] at this
    exact this
  subst e1
  have h3 : i * n + j = i' * n + j' := by omega
  have e2 : i = i' := by
    have := congrArg (· / n) h3
    simp only [Nat.mul_comm _ n, Nat.mul_add_div hn, Nat.div_eq_of_lt hj, Nat.div_eq_of_lt hj', Nat.add_zero] at this
    exact this
  subst e2
  exact ⟨rfl, rfl, by omega⟩
theorem rgt_put {ls : List (List Int)} {i j : Nat} {l : List Int} (hi : i < ls.length) : rgt (ls.set i l) j = if j = i then l else rgt ls j := by
  simp only [rgt, List.getD_eq_getElem?_getD, List.getElem?_set]
  by_cases hij : i = j
  · subst hij
    simp [hi]
  · rw [if_neg hij, if_neg (fun e => hij e.symm)]
theorem getD_put {l : List Int} {i j : Nat} {x : Int} (hi : i < l.length) : (l.set i x).getD j 0 = if j = i then x else l.getD j 0 := by
  simp only [List.getD_eq_getElem?_getD, List.getElem?_set]
  by_cases hij : i = j
  · subst hij
    simp [hi]
  · rw [if_neg hij, if_neg (fun e => hij e.symm)]
structure LeafT (ls : List (List Int)) (nons n m : Nat) (t : Nat → Nat → Nat → Nat → Nat) : Prop where
  len : ls.length = nons * (n * n)
  row : ∀ A i j, A < nons → i < n → j < n → (rgt ls (idxT n A i j)).length = m + 1
  val : ∀ A i j k, A < nons → i < n → j < n → k ≤ m → (rgt ls (idxT n A i j)).getD k 0 = (t A i j k : Int)
theorem LeafT.congr {ls : List (List Int)} {nons n m : Nat} {t t' : Nat → Nat → Nat → Nat → Nat} (h : LeafT ls nons n m t) (he : ∀ A i j k, A < nons → i < n → j < n → k ≤ m → t' A i j k = t A i j k) : LeafT ls nons n m t' :=
  ⟨h.len, h.row, fun A i j k hA hi hj hk => by rw [h.val A i j k hA hi hj hk, he A i j k hA hi hj hk]⟩
theorem LeafT.put {ls : List (List Int)} {nons n m : Nat} {t t' : Nat → Nat → Nat → Nat → Nat} (h : LeafT ls nons n m t) {A i j k v : Nat} (hA : A < nons) (hi : i < n) (hj : j < n) (hk : k ≤ m) (h1 : t' A i j k = v)
    (h2 : ∀ A' i' j' k', A' < nons → i' < n → j' < n → k' ≤ m → ¬ (A' = A ∧ i' = i ∧ j' = j ∧ k' = k) → t' A' i' j' k' = t A' i' j' k') : LeafT (ls.set (idxT n A i j) ((rgt ls (idxT n A i j)).set k (v : Int))) nons n m t' := by
  have hlt : idxT n A i j < ls.length := by rw [h.len]; exact idxT_lt hA hi hj
  refine ⟨by rw [List.length_set]; exact h.len, fun A' i' j' hA' hi' hj' => ?_, fun A' i' j' k' hA' hi' hj' hk' => ?_⟩
  · rw [rgt_put hlt]
    split
    · rw [List.length_set]; exact h.row A i j hA hi hj
    · exact h.row A' i' j' hA' hi' hj'
  · rw [rgt_put hlt]
    split
    · rename_i he
      obtain ⟨rfl, rfl, rfl⟩ := idxT_inj hi' hj' hi hj he
      rw [getD_put (by rw [h.row _ _ _ hA hi hj]; omega)]
      split
      · rename_i hkk
        subst hkk
        rw [h1]
      · rename_i hkk
        rw [h.val _ _ _ _ hA hi hj hk', h2 _ _ _ _ hA hi hj hk' (fun hh => hkk hh.2.2.2)]
    · rename_i he
      rw [h.val _ _ _ _ hA' hi' hj' hk', h2 _ _ _ _ hA' hi' hj' hk' (fun hh => he (by rw [hh.1, hh.2.1, hh.2.2.1]))]
theorem leafT_zero {nons n m : Nat} : LeafT (List.replicate (nons * (n * n)) (List.replicate (m + 1) 0)) nons n m fun _ _ _ _ => 0 := by
  have hr : ∀ l, l < nons * (n * n) → rgt (List.replicate (nons * (n * n)) (List.replicate (m + 1) (0 : Int))) l = List.replicate (m + 1) 0 := fun l hl => by
    rw [rgt_eq (by simpa using hl)]
    simp
  refine ⟨by simp, fun A i j hA hi hj => ?_, fun A i j k hA hi hj hk => ?_⟩
  · rw [hr _ (idxT_lt hA hi hj)]
    simp
  · rw [hr _ (idxT_lt hA hi hj)]
    simp only [List.getD_eq_getElem?_getD, List.getElem?_replicate]
    split <;> rfl
structure HeadT (hs : List (List Value)) (ps : Nat → Option Addr × Nat) (nons n m : Nat) : Prop where
  len : hs.length = nons
  row : ∀ A, A < nons → (vls hs A).length = n * n
  val : ∀ A p, A < nons → p < n * n → (vls hs A)[p]? = some (.slice (ps (A * (n * n) + p)).1 (m + 1) (ps (A * (n * n) + p)).2)
section
variable {e e1 e2 nons n m c B1 B2 : Nat} {w : World} {X : Option Addr} {hs : List (List Value)} {hp ps : Nat → Option Addr × Nat} {ls : List (List Int)} {t : Nat → Nat → Nat → Nat → Nat}
theorem head_cell (o : OwnV e1 e2 w B1 X c hs hp) (hh : HeadT hs ps nons n m) {A : Nat} (hA : A < nons) : w.cell? ((ad X).add A) = some (.slice (hp A).1 (n * n) (hp A).2) := by
  have := o.cell (j := A) (by rw [hh.len]; exact hA)
  rwa [hh.row A hA] at this
theorem head_ptr (o : OwnV e1 e2 w B1 X c hs hp) (hh : HeadT hs ps nons n m) {A : Nat} (hA : A < nons) (hn : 0 < n) : (hp A).1 = some (ad (hp A).1) := by
  have := o.own A (by rw [hh.len]; exact hA)
  rw [hh.row A hA] at this
  exact this.ptr (Nat.mul_pos hn hn)
theorem head_leaf (o : OwnV e1 e2 w B1 X c hs hp) (hh : HeadT hs ps nons n m) {A i j : Nat} (hA : A < nons) (hi : i < n) (hj : j < n) : w.cell? ((ad (hp A).1).add (i * n + j)) = some (.slice (ps (idxT n A i j)).1 (m + 1) (ps (idxT n A i j)).2) := by
  have := o.own A (by rw [hh.len]; exact hA)
  exact this.src.cell _ _ (hh.val A _ hA (place_lt hi hj))
theorem leaf_ptr (f : Fam e w B2 ls ps) (hl : LeafT ls nons n m t) {A i j : Nat} (hA : A < nons) (hi : i < n) (hj : j < n) : (ps (idxT n A i j)).1 = some (ad (ps (idxT n A i j)).1) := by
  have := f.own (idxT n A i j) (by rw [hl.len]; exact idxT_lt hA hi hj)
  unfold Own at this
  rw [hl.row A i j hA hi hj] at this
  exact this.ptr (by omega)
theorem leaf_cell (f : Fam e w B2 ls ps) (hl : LeafT ls nons n m t) {A i j k : Nat} (hA : A < nons) (hi : i < n) (hj : j < n) (hk : k ≤ m) : w.cell? ((ad (ps (idxT n A i j)).1).add k) = some (.int .i64 (t A i j k)) := by
  have := f.own (idxT n A i j) (by rw [hl.len]; exact idxT_lt hA hi hj)
  have hlen := hl.row A i j hA hi hj
  rw [← hl.val A i j k hA hi hj hk]
  refine this.src.cell _ _ ?_
  simp only [Sh.ints, List.getElem?_map, List.getD_eq_getElem?_getD]
  rw [List.getElem?_eq_getElem (by omega)]
  rfl
theorem tabR_of (o : OwnV e1 e2 w B1 X c hs hp) (f : Fam e w B2 ls ps) (hh : HeadT hs ps nons n m) (hl : LeafT ls nons n m t) (hn : 0 < n) : TabR w X nons n m t :=
  ⟨fun h => o.ptr (by rw [hh.len]; exact h), fun A hA => ⟨_, _, head_cell o hh hA, head_ptr o hh hA hn, fun i j hi hj => ⟨_, _, head_leaf o hh hA hi hj, leaf_ptr f hl hA hi hj, fun k hk => leaf_cell f hl hA hi hj hk⟩⟩⟩
end
/-- Nothing between two places the wrong way round. -/
theorem cntR_back {c : Nat → Nat → Nat → Nat → Nat} {ws : List Int} {xs : List Int} {i j s : Nat} (h : j < i) : cntR c ws xs i j s = 0 := by
  cases xs with
  | nil => rw [cntR, if_neg (by omega)]
  | cons x xs =>
    rw [cntR]
    split
    · rw [if_neg (by omega)]
    · rw [show j + 1 - i = 0 from by omega]
      rfl
/-- What rules add. -/
def addP (rs : List RuleL) (ws : List Int) (s A i j : Nat) (r : RuleL) : Nat := if r.1 = (A : Int) then cntR (cntC rs ws) ws r.2 i j (s - 1) else 0
theorem cntC_sum {rs : List RuleL} {ws : List Int} {A i j s : Nat} (hs : 0 < s) : cntC rs ws A i j s = sumR rs (addP rs ws s A i j) := by
  obtain ⟨s, rfl⟩ : ∃ s', s = s' + 1 := ⟨s - 1, by omega⟩
  rw [cntC_succ]
  rfl
/-- The table while it is filled: sizes below s are done, at s the first q rules, of the next rule all before (a, b). -/
def fillT (M : Nat) (rs : List RuleL) (ws : List Int) (s q a b : Nat) (A i j k : Nat) : Nat :=
  if k < s then min M (cntC rs ws A i j k)
  else if k = s then min M (sumR (rs.take q) (addP rs ws s A i j) + if i < a ∨ (i = a ∧ j < b) then addP rs ws s A i j (rul rs q) else 0)
  else 0
theorem sumR_take {rs : List RuleL} {q : Nat} (h : q < rs.length) (p : RuleL → Nat) : sumR (rs.take (q + 1)) p = sumR (rs.take q) p + p (rul rs q) := by
  rw [List.take_succ_eq_append_getElem h, sumR_snoc, rul_eq h]
theorem fillT_row {M : Nat} {rs : List RuleL} {ws : List Int} {s q a : Nat} {n : Nat} {A i j k : Nat} (hj : j < n) : fillT M rs ws s q (a + 1) 0 A i j k = fillT M rs ws s q a n A i j k := by
  unfold fillT
  split
  · rfl
  · split
    · by_cases h1 : i < a ∨ (i = a ∧ j < n)
      · rw [if_pos h1, if_pos (by omega)]
      · rw [if_neg h1, if_neg (by omega)]
    · rfl
theorem fillT_col {M : Nat} {rs : List RuleL} {ws : List Int} {s q a : Nat} {A i j k : Nat} : fillT M rs ws s q a a A i j k = fillT M rs ws s q a 0 A i j k := by
  unfold fillT
  split
  · rfl
  · split
    · by_cases h1 : i < a
      · rw [if_pos (.inl h1), if_pos (.inl h1)]
      · by_cases h2 : i = a ∧ j < a
        · rw [if_pos (.inr h2), if_neg (by omega)]
          have : addP rs ws s A i j (rul rs q) = 0 := by
            unfold addP
            split
            · exact cntR_back (by omega)
            · rfl
          rw [this]
        · rw [if_neg (by omega), if_neg (by omega)]
    · rfl
theorem fillT_rule {M : Nat} {rs : List RuleL} {ws : List Int} {s q n : Nat} {A i j k : Nat} (hq : q < rs.length) (hi : i < n) : fillT M rs ws s (q + 1) 0 0 A i j k = fillT M rs ws s q n 0 A i j k := by
  unfold fillT
  split
  · rfl
  · split
    · rw [if_neg (by omega), if_pos (.inl hi), sumR_take hq, Nat.add_zero]
    · rfl
theorem fillT_size {M : Nat} {rs : List RuleL} {ws : List Int} {s : Nat} {A i j k : Nat} (hs : 0 < s) : fillT M rs ws (s + 1) 0 0 0 A i j k = fillT M rs ws s rs.length 0 0 A i j k := by
  unfold fillT
  by_cases h1 : k < s
  · rw [if_pos (by omega), if_pos h1]
  · rw [if_neg h1]
    by_cases h2 : k = s
    · subst h2
      rw [if_pos (by omega), if_pos rfl, if_neg (by omega), List.take_length, Nat.add_zero, cntC_sum hs]
    · rw [if_neg h2, if_neg (by omega)]
      split
      · rw [if_neg (by omega)]
        simp [sumR]
      · rfl
theorem fillT_start {M : Nat} {rs : List RuleL} {ws : List Int} {A i j k : Nat} : fillT M rs ws 1 0 0 0 A i j k = 0 := by
  unfold fillT
  by_cases h1 : k < 1
  · rw [if_pos h1]
    obtain rfl : k = 0 := by omega
    rw [cntC_zero]
    omega
  · rw [if_neg h1]
    split
    · rw [if_neg (by omega)]
      simp [sumR]
    · rfl
theorem fillT_done {M : Nat} {rs : List RuleL} {ws : List Int} {s A i j k : Nat} (hk : k < s) {q a b : Nat} : fillT M rs ws s q a b A i j k = min M (cntC rs ws A i j k) := by
  unfold fillT
  rw [if_pos hk]
theorem fillT_step {M : Nat} {rs : List RuleL} {ws : List Int} {s q a b x A i j k : Nat} (hx : (rul rs q).1 = (x : Int)) (h : ¬ (A = x ∧ i = a ∧ j = b ∧ k = s)) : fillT M rs ws s q a (b + 1) A i j k = fillT M rs ws s q a b A i j k := by
  unfold fillT
  split
  · rfl
  · split
    · rename_i h1 h2
      by_cases h3 : i = a ∧ j = b
      · have hA : ¬ (x : Int) = (A : Int) := fun e => h ⟨by omega, h3.1, h3.2, h2⟩
        have : addP rs ws s A i j (rul rs q) = 0 := by
          unfold addP
          rw [hx, if_neg hA]
        rw [this]
        simp
      · by_cases h4 : i < a ∨ (i = a ∧ j < b)
        · rw [if_pos h4, if_pos (by omega)]
        · rw [if_neg h4, if_neg (by omega)]
    · rfl
theorem fillT_at {M : Nat} {rs : List RuleL} {ws : List Int} {s q a b x : Nat} (hx : (rul rs q).1 = (x : Int)) : fillT M rs ws s q a (b + 1) x a b s = min M (fillT M rs ws s q a b x a b s + min M (cntR (cntC rs ws) ws (rul rs q).2 a b (s - 1))) := by
  unfold fillT
  rw [if_neg (Nat.lt_irrefl s), if_pos rfl, if_pos (.inr ⟨rfl, by omega⟩), if_neg (Nat.lt_irrefl s), if_pos rfl, if_neg (by omega), Nat.add_zero, cap_add]
  unfold addP
  rw [if_pos hx]
end Go.Sh

/- Contract: the reference's numbers of trees of all sizes (l10Sized). -/
set_option linter.unusedVariables false
set_option linter.unusedSimpArgs false
set_option maxRecDepth 100000
namespace Go.Sh
open Go
/-- Heads while they are laid: kk rows, c leaves. -/
structure HeadP (hs : List (List Value)) (ps : Nat → Option Addr × Nat) (nons nn m kk c : Nat) : Prop where
  len : hs.length = nons
  row : ∀ A, A < kk → (vls hs A).length = nn
  val : ∀ A p, A < kk → p < nn → A * nn + p < c → (vls hs A)[p]? = some (.slice (ps (A * nn + p)).1 (m + 1) (ps (A * nn + p)).2)
theorem headP_row {hs : List (List Value)} {ps : Nat → Option Addr × Nat} {nons nn m k : Nat} {l : List Value} (h : HeadP hs ps nons nn m k (k * nn)) (hk : k < nons) (hl : l.length = nn) : HeadP (hs.set k l) ps nons nn m (k + 1) (k * nn + 0) := by
  have hlen := h.len
  refine ⟨by rw [List.length_set]; exact hlen, fun A hA => ?_, fun A p hA hp hc => ?_⟩
  · rw [vls_set (by omega)]
    split
    · exact hl
    · exact h.row A (by omega)
  · have hne : A ≠ k := fun e => by subst e; omega
    rw [vls_set (by omega), if_neg hne]
    exact h.val A p (by omega) hp hc
theorem headP_put {hs : List (List Value)} {ps : Nat → Option Addr × Nat} {nons nn m k i d : Nat} {Y : Option Addr} (h : HeadP hs ps nons nn m (k + 1) (k * nn + i)) (hk : k < nons) (hi : i < nn) :
    HeadP (hs.set k ((vls hs k).set i (.slice Y (m + 1) d))) (fun l => if l = k * nn + i then (Y, d) else ps l) nons nn m (k + 1) (k * nn + (i + 1)) := by
  have hlen := h.len
  have hkl := h.row k (by omega)
  refine ⟨by rw [List.length_set]; exact hlen, fun A hA => ?_, fun A p hA hp hc => ?_⟩
  · rw [vls_set (by omega)]
    split
    · rw [List.length_set]; exact hkl
    · exact h.row A hA
  · rw [vls_set (by omega)]
    by_cases e : A = k
    · subst e
      rw [if_pos rfl, List.getElem?_set]
      by_cases e2 : i = p
      · subst e2
        simp only [if_true]
        rw [if_pos (by omega)]
      · rw [if_neg e2]
        simp only [show ¬ (A * nn + p = A * nn + i) from by omega, if_false]
        exact h.val A p hA hp (by omega)
    · rw [if_neg e]
      have h2 : (A + 1) * nn ≤ k * nn := Nat.mul_le_mul_right _ (by omega)
      rw [Nat.add_mul] at h2
      simp only [show ¬ (A * nn + p = k * nn + i) from by omega, if_false]
      exact h.val A p hA hp (by omega)
theorem headP_done {hs : List (List Value)} {ps : Nat → Option Addr × Nat} {nons n m : Nat} (h : HeadP hs ps nons (n * n) m nons (nons * (n * n))) : HeadT hs ps nons n m :=
  ⟨h.len, h.row, fun A p hA hp => h.val A p hA hp (by
    have h2 : (A + 1) * (n * n) ≤ nons * (n * n) := Nat.mul_le_mul_right _ hA
    rw [Nat.add_mul] at h2
    omega)⟩
section
variable {P : Program} {k : Value → World → Prop} {w0 w : World} {L : List Thing}
theorem makeHG (H : Apt w0 w L) {t e sz by' : Nat} {z : Value} (ht : P.underlying t = some (.slice e)) (I : Inf P e z sz by') {kl kc : IntKind} {n : Nat} (hm : by' * n ≤ 281474976710656) (hmax : n ≤ 9223372036854775807)
    (h : ∀ b w', Gr w w' → Apt w0 w' (L ++ [rwi e sz (some ⟨b, 0, none⟩) n n (madeCells z.cells (n * sz)).toList]) → k (.slice (some ⟨b, 0, none⟩) n n) w') : Do P (sMakeSlice t (.int kl n) (.int kc n)) k w :=
  do_make_of ht I hm hmax fun b w' hb hb' g hr => h b w' g (H.addRow g (hr _ (Nat.le_refl _)))
end
theorem ints_rep (n : Nat) : List.replicate n (Value.int .i64 0) = Sh.ints (List.replicate n 0) := by simp [Sh.ints]
end Go.Sh
namespace Go.Proofs.Ytiohaeckagjebaa
open Go Go.Sh Go.RowKit
set_option maxHeartbeats 1600000 in
theorem l10Sized_c {F : Nat → Prop} {w : World} {v : Value} {gm : Gram} {X : Option Addr} {cx n0 m M : Nat} {ws : List Int} (hM : M = 1000000000) (hv : GramV F w v gm) (hg : goodG gm = true) (hX : Ints w X ws) (hn : n0 = ws.length) (hl : ws.length ≤ 10) (hw : ∀ x ∈ ws, 0 ≤ x ∧ x ≤ 100) (hm : m ≤ 20) {k : Value → World → Prop}
    (hk : ∀ w' U c nons hs hp ls ps, gm.nons = (nons : Nat) → Apt w w' [vvi 48 22 U c hs hp, fami 3 ls ps] → HeadT hs ps nons (ws.length + 1) m → LeafT ls nons (ws.length + 1) m (fun A i j k => min M (cntC gm.rules ws A i j k)) → k (.slice U nons c) w') :
    CallK Try.prog 117 [v, .slice X n0 cx, .int .i64 m] k w := by
  subst hn
  obtain ⟨Y, cy, rfl, hc, hy⟩ := hv
  have hn6 := good_nons hg
  have hr16 := good_len hg
  have hleft6 := good_left6 hg
  obtain ⟨nons, hnn⟩ : ∃ n : Nat, gm.nons = n := ⟨gm.nons.toNat, by omega⟩
  refine enter117 ?_
  unfold S117
  have H := Apt.nil w
  refine boxH H fun b1 w1 H => ?_
  rw [hnn] at H
  simp only [go_sem, Nat.reduceEqDiff]
  rw [ldB3 (H.box 0 rfl) rfl]
  rw [i64_of (by omega) (by omega)]
  refine makeH H u126 inf48 (by omega) (by omega) fun b2 w2 H => ?_
  rw [show (Value.slice none 0 0).cells = #[.slice none 0 0] from rfl, madeCells_one] at H
  have H := H.nilVV 1 22 rfl
  simp only [List.nil_append, List.cons_append, List.set_cons_zero, List.set_cons_succ] at H
  have H := H.addFam 3 fun _ => (none, 0)
  simp only [List.nil_append, List.cons_append] at H
  simp only [go_sem, Nat.reduceEqDiff]
  generalize hN : ws.length + 1 = n at *
  have hNi : ((ws.length : Int) + 1) = (n : Int) := by omega
  rw [hNi]
  have hnn11 : n * n ≤ 11 * 11 := Nat.mul_le_mul (by omega) (by omega)
  have hn0 : 0 < n := by omega
  refine loop_to nons 0 (fun i f w' => i ≤ nons ∧ f 25 = .int .i64 i ∧ ∃ (hs : List (List Value)) (hp ps : Nat → Option Addr × Nat), HeadP hs ps nons (n * n) m i (i * (n * n)) ∧ Apt w w' [bx b1 [.int .i64 nons, .int .i64 gm.toks, .slice Y gm.rules.length cy] 37, vvi 48 22 (some ⟨b2, 0, none⟩) nons hs hp, fami 3 (List.replicate (i * (n * n)) (List.replicate (m + 1) 0)) ps])
    ⟨Nat.zero_le _, rfl, List.replicate nons [], _, _, ⟨List.length_replicate, fun A hA => by omega, fun A p hA => by omega⟩, by rw [Nat.zero_mul]; exact H⟩ ?_
  rintro i f w3 N hag ⟨hi, h25, hs, hp, ps, hP, H⟩ hN'
  have f24 : f 24 = .int .i64 nons := hag 24 (by decide)
  have f7 : f 7 = .int .i64 n := hag 7 (by decide)
  have f8 : f 8 = .slice (some ⟨b2, 0, none⟩) nons nons := hag 8 (by decide)
  have f3 : f 3 = ptrv b1 := hag 3 (by decide)
  have f2 : f 2 = .int .i64 m := hag 2 (by decide)
  have f1 : f 1 = .slice X ws.length cx := hag 1 (by decide)
  simp only [f24, f7, f8, h25, go_sem, Nat.reduceEqDiff]
  by_cases hlt : i < nons
  · simp only [show (i : Int) < nons from by omega, decide_true, go_sem, Nat.reduceEqDiff]
    rw [show (n : Int) * (n : Int) = ((n * n : Nat) : Int) from by push_cast; rfl, i64_of (by omega) (by omega)]
    refine makeH H (n := n * n) u48 inf22 (by omega) (by omega) fun b3 w4 H => ?_
    rw [show (Value.slice none 0 0).cells = #[.slice none 0 0] from rfl, madeCells_one] at H
    rw [ixn126 (fun _ => rfl) hlt]
    refine setRowVV H 1 3 i (by decide) rfl rfl (by simp) (by decide) sz48 (by rw [hP.len]; omega) fun w5 hp' H => ?_
    have H := H.erase 3
    simp only [List.nil_append, List.cons_append, List.set_cons_zero, List.set_cons_succ, List.eraseIdx_cons_zero, List.eraseIdx_cons_succ] at H
    have hP := headP_row hP hlt (l := List.replicate (n * n) (.slice none 0 0)) (by simp)
    generalize hs.set i (List.replicate (n * n) (.slice none 0 0)) = hs' at *
    have hil : i < hs'.length := by rw [hP.len]; exact hlt
    have hcell := (H.vv 1 rfl).cell hil
    rw [hP.row i (by omega)] at hcell
    refine rdi (ixn126 (fun _ => rfl) hlt) (rdi (ld48 hcell) ?_)
    simp only [go_sem, Nat.reduceEqDiff]
    refine loop_to (n * n) 0 (fun a f w' => a ≤ n * n ∧ f 40 = .int .i64 a ∧ ∃ (hs : List (List Value)) (hp ps : Nat → Option Addr × Nat), HeadP hs ps nons (n * n) m (i + 1) (i * (n * n) + a) ∧ Apt w w' [bx b1 [.int .i64 nons, .int .i64 gm.toks, .slice Y gm.rules.length cy] 37, vvi 48 22 (some ⟨b2, 0, none⟩) nons hs hp, fami 3 (List.replicate (i * (n * n) + a) (List.replicate (m + 1) 0)) ps])
      ⟨Nat.zero_le _, rfl, _, _, _, hP, H⟩ ?_
    clear hcell hil hP H
    rintro a g w6 N2 hag2 ⟨ha, h40, hs, hp, ps, hP, H⟩ hN2
    have g39 : g 39 = .int .i64 (n * n : Nat) := hag2 39 (by decide)
    have g8 : g 8 = .slice (some ⟨b2, 0, none⟩) nons nons := (hag2 8 (by decide)).trans f8
    have g9 : g 9 = .int .i64 i := hag2 9 (by decide)
    have g2 : g 2 = .int .i64 m := (hag2 2 (by decide)).trans f2
    have g25 : g 25 = .int .i64 i := (hag2 25 (by decide)).trans h25
    simp only [g39, g8, g9, g2, g25, h40, go_sem, Nat.reduceEqDiff]
    by_cases hla : a < n * n
    case neg =>
      simp only [show ¬ ((a : Int) < ((n * n : Nat) : Int)) from by omega, decide_false, go_sem, Nat.reduceEqDiff]
      rw [i64_of (by omega) (by omega)]
      obtain rfl : a = n * n := by omega
      refine hN' _ _ hlt ⟨hlt, rfl, hs, hp, ps, ?_, ?_⟩
      · rw [Nat.add_mul, Nat.one_mul]
        exact hP
      · rw [Nat.add_mul, Nat.one_mul]
        exact H
    simp only [show ((a : Int) < ((n * n : Nat) : Int)) from by omega, decide_true, go_sem, Nat.reduceEqDiff]
    have hil : i < hs.length := by rw [hP.len]; exact hlt
    have H := H.drew
    have hcell := (H.vv 1 rfl).cell hil
    have hown := (H.vv 1 rfl).own i hil
    have hrl := hP.row i (by omega)
    rw [hrl] at hcell hown
    refine ⟨fun w' => Gr w6.drew w', Gr.refl _, ?_⟩
    refine rdi (ixn126 (fun _ => rfl) hlt) (rdi (ldS48 fun w' g' => g'.cell hcell) ?_)
    simp only [go_sem, Nat.reduceEqDiff]
    rw [i64_of (by omega) (by omega), show (m : Int) + 1 = ((m + 1 : Nat) : Int) from rfl]
    refine makeHG H (n := m + 1) u22 inf3 (by omega) (by omega) fun b4 w7 g7 H' => ?_
    refine ⟨g7, ?_⟩
    rw [show (Value.int .i64 0).cells = #[.int .i64 0] from rfl, madeCells_one, ints_rep] at H'
    refine rdi (ixn48 (fun h => hown.ptr (by omega)) hla) ?_
    refine storeVV H' 1 i (m := a) rfl (by decide) sz22 rfl rfl hil (by omega) fun w8 H => ?_
    simp only [List.nil_append, List.cons_append, List.set_cons_zero, List.set_cons_succ] at H
    have H := H.famPush (i := 2) (j := 3) (by decide) (ys := List.replicate (m + 1) 0) rfl (by rw [List.length_replicate]; rfl)
    have H := H.erase 3
    simp only [List.nil_append, List.cons_append, List.set_cons_zero, List.set_cons_succ, List.eraseIdx_cons_zero, List.eraseIdx_cons_succ, List.length_replicate] at H
    rw [← List.replicate_succ'] at H
    rw [i64_of (by omega) (by omega)]
    exact hN2 _ _ hla ⟨hla, rfl, _, _, _, headP_put hP hlt hla, H⟩
  have hin : i = nons := by omega
  simp only [show ¬ ((i : Int) < nons) from by omega, decide_false, go_sem, Nat.reduceEqDiff]
  subst hin
  have hh := headP_done hP
  have hlf := (leafT_zero (nons := i) (n := n) (m := m)).congr (t' := fillT M gm.rules ws 1 0 0 0) fun A i' j' k' _ _ _ _ => fillT_start
  clear hN' h25 hi hlt hP
  generalize List.replicate (i * (n * n)) (List.replicate (m + 1) (0 : Int)) = ls at *
  refine loop_to m 0 (fun s f w' => s ≤ m ∧ f 11 = .int .i64 ((s + 1 : Nat) : Int) ∧ ∃ ls, LeafT ls i n m (fillT M gm.rules ws (s + 1) 0 0 0) ∧ Apt w w' [bx b1 [.int .i64 i, .int .i64 gm.toks, .slice Y gm.rules.length cy] 37, vvi 48 22 (some ⟨b2, 0, none⟩) i hs hp, fami 3 ls ps])
    ⟨Nat.zero_le _, rfl, _, hlf, H⟩ ?_
  clear hlf
  rintro s g0 w6 N2 hag2 ⟨hs1, h11, ls, hlf, H⟩ hN2
  have c2 : g0 2 = .int .i64 m := (hag2 2 (by decide)).trans f2
  have c3 : g0 3 = ptrv b1 := (hag2 3 (by decide)).trans f3
  have c8 : g0 8 = .slice (some ⟨b2, 0, none⟩) i i := (hag2 8 (by decide)).trans f8
  have c7 : g0 7 = .int .i64 n := (hag2 7 (by decide)).trans f7
  have c1 : g0 1 = .slice X ws.length cx := (hag2 1 (by decide)).trans f1
  simp only [c2, c3, h11, go_sem, Nat.reduceEqDiff]
  by_cases hlm : s < m
  case neg =>
    simp only [show ¬ (((s + 1 : Nat) : Int) ≤ (m : Int)) from by omega, decide_false, go_sem, Nat.reduceEqDiff]
    obtain rfl : s = m := by omega
    rw [c8]
    refine hk _ _ _ i hs hp ls ps hnn (H.erase 0) hh (hlf.congr fun A i' j' k' _ _ _ hk' => (fillT_done (by omega)).symm)
  simp only [show (((s + 1 : Nat) : Int) ≤ (m : Int)) from by omega, decide_true, go_sem, Nat.reduceEqDiff]
  rw [ldB35 (H.box 0 rfl) rfl]
  simp only [go_sem, Nat.reduceEqDiff]
  refine loop_to gm.rules.length 0 (fun q f w' => q ≤ gm.rules.length ∧ f 62 = .int .i64 q ∧ ∃ ls, LeafT ls i n m (fillT M gm.rules ws (s + 1) q 0 0) ∧ Apt w w' [bx b1 [.int .i64 i, .int .i64 gm.toks, .slice Y gm.rules.length cy] 37, vvi 48 22 (some ⟨b2, 0, none⟩) i hs hp, fami 3 ls ps])
    ⟨Nat.zero_le _, rfl, _, hlf, H⟩ ?_
  clear hlf
  rintro q g1 w7 N3 hag3 ⟨hq, h62, ls, hlf, H⟩ hN3
  have e60 : g1 60 = .slice Y gm.rules.length cy := hag3 60 (by decide)
  have e61 : g1 61 = .int .i64 gm.rules.length := hag3 61 (by decide)
  have e11 : g1 11 = .int .i64 ((s + 1 : Nat) : Int) := (hag3 11 (by decide)).trans h11
  have e7 : g1 7 = .int .i64 n := (hag3 7 (by decide)).trans c7
  have e8 : g1 8 = .slice (some ⟨b2, 0, none⟩) i i := (hag3 8 (by decide)).trans c8
  have e1 : g1 1 = .slice X ws.length cx := (hag3 1 (by decide)).trans c1
  simp only [e60, e61, e11, h62, go_sem, Nat.reduceEqDiff]
  by_cases hlq : q < gm.rules.length
  case neg =>
    simp only [show ¬ ((q : Int) < gm.rules.length) from by omega, decide_false, go_sem, Nat.reduceEqDiff]
    obtain rfl : q = gm.rules.length := by omega
    rw [i64_of (by omega) (by omega)]
    exact hN2 _ _ hlm ⟨by omega, by show Value.int .i64 (((s + 1 : Nat) : Int) + 1) = _; congr 1, ls, hlf.congr fun A i' j' k' _ _ _ _ => fillT_size (by omega), H⟩
  simp only [show ((q : Int) < gm.rules.length) from by omega, decide_true, go_sem, Nat.reduceEqDiff]
  obtain ⟨Z, cz, t1, t2, t3, t4⟩ := hy.row q hlq
  have hleft := good_left hg hlq
  have hright := good_right hg hlq
  have hR4 := good_rule hg q hlq
  obtain ⟨xl, hxl⟩ : ∃ x : Nat, (rul gm.rules q).1 = x := ⟨(rul gm.rules q).1.toNat, by omega⟩
  rw [hxl] at t1 hleft
  rw [ixn35 hy.ptr hlq, ld_agg agg77 sz77 (cs := [.int .i64 xl, .slice Z (rul gm.rules q).2.length cz]) rfl (fun j hj => by
    match j, hj with
    | 0, _ => rw [add_add, Nat.add_zero]; exact H.gr.cell t1
    | 1, _ => rw [add_add]; exact H.gr.cell t2)]
  refine allocH H inf77 fun b3 w8 H => ?_
  refine storeH H 3 rfl sz77 rfl rfl rfl fun w9 H => ?_
  simp only [List.nil_append, List.cons_append, List.set_cons_zero, List.set_cons_succ] at H
  refine loop_to n 0 (fun a f w' => a ≤ n ∧ f 14 = .int .i64 a ∧ ∃ ls, LeafT ls i n m (fillT M gm.rules ws (s + 1) q a 0) ∧ Apt w w' [bx b1 [.int .i64 i, .int .i64 gm.toks, .slice Y gm.rules.length cy] 37, vvi 48 22 (some ⟨b2, 0, none⟩) i hs hp, fami 3 ls ps, bx b3 [.int .i64 xl, .slice Z (rul gm.rules q).2.length cz] 77])
    ⟨Nat.zero_le _, rfl, _, hlf, H⟩ ?_
  clear hlf
  rintro a g2 w10 N4 hag4 ⟨ha, h14, ls, hlf, H⟩ hN4
  have k7 : g2 7 = .int .i64 n := (hag4 7 (by decide)).trans e7
  have k8 : g2 8 = .slice (some ⟨b2, 0, none⟩) i i := (hag4 8 (by decide)).trans e8
  have k1 : g2 1 = .slice X ws.length cx := (hag4 1 (by decide)).trans e1
  have k13 : g2 13 = ptrv b3 := hag4 13 (by decide)
  have k62 : g2 62 = .int .i64 q := (hag4 62 (by decide)).trans h62
  have k11 : g2 11 = .int .i64 ((s + 1 : Nat) : Int) := (hag4 11 (by decide)).trans e11
  simp only [k7, h14, k62, go_sem, Nat.reduceEqDiff]
  by_cases hla : a < n
  case neg =>
    simp only [show ¬ ((a : Int) < n) from by omega, decide_false, go_sem, Nat.reduceEqDiff]
    rw [i64_of (by omega) (by omega)]
    obtain rfl : a = n := by omega
    exact hN3 _ _ hlq ⟨hlq, rfl, ls, hlf.congr fun A i' j' k' _ hi' _ _ => fillT_rule hlq hi', H.take 3⟩
  simp only [show ((a : Int) < n) from by omega, decide_true, go_sem, Nat.reduceEqDiff]
  refine loop_to n a (fun b f w' => a ≤ b ∧ b ≤ n ∧ f 15 = .int .i64 b ∧ ∃ ls, LeafT ls i n m (fillT M gm.rules ws (s + 1) q a b) ∧ Apt w w' [bx b1 [.int .i64 i, .int .i64 gm.toks, .slice Y gm.rules.length cy] 37, vvi 48 22 (some ⟨b2, 0, none⟩) i hs hp, fami 3 ls ps, bx b3 [.int .i64 xl, .slice Z (rul gm.rules q).2.length cz] 77])
    ⟨Nat.le_refl _, by omega, rfl, _, hlf.congr fun A i' j' k' _ _ _ _ => fillT_col, H⟩ ?_
  clear hlf
  rintro b g3 w11 N5 hag5 ⟨hb1, hb2, h15, ls, hlf, H⟩ hN5
  have m7 : g3 7 = .int .i64 n := (hag5 7 (by decide)).trans k7
  have m8 : g3 8 = .slice (some ⟨b2, 0, none⟩) i i := (hag5 8 (by decide)).trans k8
  have m1 : g3 1 = .slice X ws.length cx := (hag5 1 (by decide)).trans k1
  have m13 : g3 13 = ptrv b3 := (hag5 13 (by decide)).trans k13
  have m14 : g3 14 = .int .i64 a := (hag5 14 (by decide)).trans h14
  have m11 : g3 11 = .int .i64 ((s + 1 : Nat) : Int) := (hag5 11 (by decide)).trans k11
  simp only [m7, m8, m1, m13, m14, m11, h15, go_sem, Nat.reduceEqDiff]
  by_cases hlb : b < n
  case neg =>
    simp only [show ¬ ((b : Int) < n) from by omega, decide_false, go_sem, Nat.reduceEqDiff]
    rw [i64_of (by omega) (by omega)]
    obtain rfl : b = n := by omega
    exact hN4 _ _ hla ⟨hla, rfl, ls, hlf.congr fun A i' j' k' _ _ hj' _ => fillT_row hj', H⟩
  simp only [show ((b : Int) < n) from by omega, decide_true, go_sem, Nat.reduceEqDiff]
  have hxn : xl < i := by omega
  have hab := place_lt (n := n) (show a < n by omega) hlb
  have hab' : (a : Int) * (n : Int) = ((a * n : Nat) : Int) := by push_cast; rfl
  have hidx : IntKind.i64.wrap (IntKind.i64.wrap ((a : Int) * (n : Int)) + (b : Int)) = ((a * n + b : Nat) : Int) := by
    rw [hab', i64_of (n := ((a * n : Nat) : Int)) (by omega) (by omega), i64_of (by omega) (by omega)]
    rfl
  have o := H.vv 1 rfl
  have fm := H.fam 2 rfl
  rw [hidx, ldB3 (H.box 3 rfl) rfl]
  refine rdi (ixn126 (fun _ => rfl) hxn) (rdi (ld48 (head_cell o hh hxn)) (rdi (ixn48 (fun _ => head_ptr o hh hxn hn0) hab) (rdi (ld22 (head_leaf o hh hxn hla hlb)) (rdi (ixn22 (fun _ => leaf_ptr fm hlf hxn hla hlb) (by omega)) (rdi (ld3 (leaf_cell fm hlf hxn hla hlb (by omega))) ?_)))))
  simp only [go_sem, Nat.reduceEqDiff]
  have H := H.drew
  have o := H.vv 1 rfl
  have fm := H.fam 2 rfl
  have hT := tabR_of o fm hh hlf hn0
  refine ⟨fun w' => Gr w11.drew w', Gr.refl _, ?_⟩
  refine rdi (rdG one3 (H.box 3 rfl) rfl) ?_
  refine rdi (ixn126 (fun _ => rfl) hxn) (rdi (ldS48 fun w' g' => g'.cell (head_cell o hh hxn)) ?_)
  simp only [go_sem, Nat.reduceEqDiff]
  refine rdi (ixn48 (fun _ => head_ptr o hh hxn hn0) hab) (rdi (ldS22 fun w' g' => g'.cell (head_leaf o hh hxn hla hlb)) ?_)
  refine rdi (rdG one22 (H.box 3 rfl) rfl) ?_
  rw [i64_of (by omega) (by omega), show ((s + 1 : Nat) : Int) - 1 = (s : Int) from by omega]
  rw [← hN] at hT hlf
  refine l10Row_c (c := cntC gm.rules ws) hM hT (hX.gr H.gr) hl hw (by omega) hm (t4.is.gr H.gr) t3 (by omega) (fun x hx => by have := hright x hx; omega) (by omega) (by omega) (by omega) (fun A i' j' k' hk' => fillT_done (by omega)) fun y hy => ?_
  rw [hN] at hlf
  refine ⟨Gr.refl _, ?_⟩
  have hle : fillT M gm.rules ws (s + 1) q a b xl a b (s + 1) ≤ M := by
    unfold fillT
    rw [if_neg (by omega), if_pos rfl]
    exact Nat.min_le_left _ _
  simp only [go_sem, Nat.reduceEqDiff]
  rw [i64_of (by omega) (by omega)]
  rw [show ((fillT M gm.rules ws (s + 1) q a b xl a b (s + 1) : Nat) : Int) + (y : Int) = ((fillT M gm.rules ws (s + 1) q a b xl a b (s + 1) + y : Nat) : Int) from by push_cast; rfl]
  have hat := fillT_at (M := M) (ws := ws) (s := s + 1) (a := a) (b := b) hxl
  rw [show s + 1 - 1 = s from rfl, ← hy] at hat
  refine l10Cap_c hM hat ?_
  refine ⟨Gr.refl _, ?_⟩
  refine rdi (ixn22 (fun _ => leaf_ptr fm hlf hxn hla hlb) (by omega)) ?_
  refine famPut H 2 (idxT n xl a b) (m := s + 1) rfl (by rw [hlf.len]; exact idxT_lt hxn hla hlb) (by rw [hlf.row xl a b hxn hla hlb]; omega) fun w12 H => ?_
  simp only [List.nil_append, List.cons_append, List.set_cons_zero, List.set_cons_succ] at H
  simp only [go_sem, Nat.reduceEqDiff]
  rw [i64_of (n := (b : Int) + 1) (by omega) (by omega)]
  exact hN5 _ _ hlb ⟨by omega, hlb, rfl, _, hlf.put hxn hla hlb (by omega) rfl fun A' i' j' k' _ _ _ _ hne => fillT_step hxl hne, H⟩
end Go.Proofs.Ytiohaeckagjebaa

/- Contract: CountSized of the reference. -/
set_option linter.unusedVariables false
set_option linter.unusedSimpArgs false
set_option maxRecDepth 100000
namespace Go.Sh
open Go
def capM : Nat := 1000000000
end Go.Sh
namespace Go.Proofs.Ytiohaeckagjebaa
open Go Go.Sh Go.RowKit
end Go.Proofs.Ytiohaeckagjebaa

/- Contracts: trees of a size in order (the reference's l11Make). -/
set_option linter.unusedVariables false
set_option linter.unusedSimpArgs false
set_option maxRecDepth 100000
namespace Go.Sh
open Go
/-- What the reference's functions read. -/
structure EnvT (gm : Gram) (ws : List Int) (m nons bc : Nat) (Y : Option Addr) (cy : Nat) (X : Option Addr) (cx : Nat) (U : Option Addr) (cu : Nat) (w : World) : Prop where
  box : Box w bc [.int .i64 gm.nons, .int .i64 gm.toks, .slice Y gm.rules.length cy, .slice X ws.length cx, .slice U nons cu] 175
  hc : gm.rules.length ≤ cy
  hy : RulesF (fun _ => True) w Y gm.rules
  hX : Ints w X ws
  tab : TabR w U nons (ws.length + 1) m fun A i j k => min capM (cntC gm.rules ws A i j k)
theorem EnvT.gr {gm : Gram} {ws : List Int} {m nons bc cy cx cu : Nat} {Y X U : Option Addr} {w w' : World} (h : EnvT gm ws m nons bc Y cy X cx U cu w) (g : Gr w w') : EnvT gm ws m nons bc Y cy X cx U cu w' := ⟨h.box.gr g, h.hc, h.hy.gr g, h.hX.gr g, h.tab.gr g⟩
end Go.Sh
namespace Go.Proofs.Ytiohaeckagjebaa
open Go Go.Sh Go.RowKit
section
variable {gm : Gram} {ws : List Int} {m nons bc cy cx cu : Nat} {Y X U : Option Addr}
set_option maxHeartbeats 6400000 in
theorem l11Row_of (hg : goodG gm = true) (hl : ws.length ≤ 10) (hw : ∀ t ∈ ws, 0 ≤ t ∧ t ≤ 100) (hnn : gm.nons = (nons : Nat)) (hm : m ≤ 12) {N : Nat} (hNm : N ≤ m)
    (hTrees : ∀ {w : World} {A i j s M : Nat} {k : Value → World → Prop}, EnvT gm ws m nons bc Y cy X cx U cu w → s ≤ N → A < nons → i ≤ j → j ≤ ws.length → 0 < M → M ≤ 60 → (∀ w' X' c' ls ps, Gr w w' → OwnSS 22 3 w' w.heap.size X' c' ls ps → Firsts M (Der gm.rules ws (.inl A) i j s) ls → k (.slice X' ls.length c') w') →
      CallK Try.prog 168 [ptrv bc, .int .i64 A, .int .i64 i, .int .i64 j, .int .i64 s, .int .i64 (M : Int)] k w) :
    ∀ (xs : List Int) {w : World} {R : Option Addr} {cr i j s M : Nat} {k : Value → World → Prop}, EnvT gm ws m nons bc Y cy X cx U cu w → Ints w R xs → xs.length ≤ cr → xs.length ≤ 4 → (∀ x ∈ xs, -100 ≤ x ∧ x < nons) → i ≤ j → j ≤ ws.length → s ≤ N → 0 < M → M ≤ 60 → (∀ w' X' c' ls, Gr w w' → IssF (fun b => w.heap.size ≤ b) w' X' ls → ls.length ≤ c' → Firsts M (Der gm.rules ws (.inr xs) i j s) ls → k (.slice X' ls.length c') w') →
      CallK Try.prog 189 [ptrv bc, .slice R xs.length cr, .int .i64 i, .int .i64 j, .int .i64 s, .int .i64 (M : Int)] k w := by
  have hn6 := good_nons hg
  intro xs
  induction xs with
  | nil =>
    intro w R cr i j s M k hE hR hcr h4 hx hij hj hsN hM hM60 hk
    refine enter189 ?_
    unfold S189
    have E := hE.gr (gr_drew w)
    simp only [bin_add, bin_sub, bin_mul, bin_eql, bin_neq, bin_lss, bin_leq, bin_gtr, bin_geq, un_not, un_neg, pick_true, pick_false, extract_two_0, extract_two_1, nilCheck_pointer, cond_true', cond_false', guard_tt, guard_ff, guard_tf, guard_ft, guard_undef, seqQ_normal, seqQ_ret, seqQ_exit, blockQ_ret, blockQ_normal, blockQ_exit, bodyQ_ret, bodyQ_normal, resK_nil, resK_tmp, ite_T, ite_F, upd_at, add_plain, add_zero', len22, len35, len48, fa37_0, fa37_1, fa37_2, fa77_0, fa77_1, fa103_0, fa103_1, fa111_0, fa111_1, fa143_0, fa143_1, fa143_2, fa143_3, fa175_0, fa175_1, fa175_2, fa125_0, fa125_1, fa125_2, fa125_3, fa125_4, Nat.reduceEqDiff]
    refine rdi (ldB126 E.box rfl) (rdi (ldB22 E.box rfl) ?_)
    refine l10Row_c (M := capM) rfl E.tab E.hX hl hw (by omega) (by omega) (xs := []) (hR.gr (gr_drew w)) (by simp) (by simp) (fun x hx => by simp at hx) (by omega) hj (by omega) (fun A i j k _ => rfl) fun y hy => ?_
    by_cases h0 : i = j ∧ s = 0
    · have hy1 : y = 1 := by
        rw [hy, cntR, if_pos h0]
        rfl
      subst hy1
      simp only [show ¬ (((1 : Nat) : Int) = 0) from by omega, show ¬ ((M : Int) ≤ 0) from by omega, decide_false, List.length_nil, show (((0 : Nat) : Int) = 0) from rfl, decide_true, bin_add, bin_sub, bin_mul, bin_eql, bin_neq, bin_lss, bin_leq, bin_gtr, bin_geq, un_not, un_neg, pick_true, pick_false, extract_two_0, extract_two_1, nilCheck_pointer, cond_true', cond_false', guard_tt, guard_ff, guard_tf, guard_ft, guard_undef, seqQ_normal, seqQ_ret, seqQ_exit, blockQ_ret, blockQ_normal, blockQ_exit, bodyQ_ret, bodyQ_normal, resK_nil, resK_tmp, ite_T, ite_F, upd_at, add_plain, add_zero', len22, len35, len48, fa37_0, fa37_1, fa37_2, fa77_0, fa77_1, fa103_0, fa103_1, fa111_0, fa111_1, fa143_0, fa143_1, fa143_2, fa143_3, fa175_0, fa175_1, fa175_2, fa125_0, fa125_1, fa125_2, fa125_3, fa125_4, Nat.reduceEqDiff]
      have H := Apt.nil w.drew
      refine buildH H u48 inf22 [.slice none 0 0] (by decide) (by decide) (by simp [Instr.fill, madeCells, Value.cells, rng1]) rfl fun b1 w1 H => ?_
      simp only [List.nil_append] at H
      have hr := H.row 0 rfl
      exact hk w1 _ 1 [[]] (gr_trans (gr_drew w) H.gr) (IssF.of hr.src (Slots.single (x := []) (Nat.le_refl _) (IntsF.nil _ _)) (by simp) fun _ => row_foot hr (by omega)) (by simp) (der_row0 hM h0)
    · have hy0 : y = 0 := by
        rw [hy, cntR, if_neg h0]
        rfl
      subst hy0
      simp only [show (((0 : Nat) : Int) = 0) from rfl, decide_true, bin_add, bin_sub, bin_mul, bin_eql, bin_neq, bin_lss, bin_leq, bin_gtr, bin_geq, un_not, un_neg, pick_true, pick_false, extract_two_0, extract_two_1, nilCheck_pointer, cond_true', cond_false', guard_tt, guard_ff, guard_tf, guard_ft, guard_undef, seqQ_normal, seqQ_ret, seqQ_exit, blockQ_ret, blockQ_normal, blockQ_exit, bodyQ_ret, bodyQ_normal, resK_nil, resK_tmp, ite_T, ite_F, upd_at, add_plain, add_zero', len22, len35, len48, fa37_0, fa37_1, fa37_2, fa77_0, fa77_1, fa103_0, fa103_1, fa111_0, fa111_1, fa143_0, fa143_1, fa143_2, fa143_3, fa175_0, fa175_1, fa175_2, fa125_0, fa125_1, fa125_2, fa125_3, fa125_4, Nat.reduceEqDiff]
      refine hk _ none 0 [] (gr_drew w) (IssF.nil _ _) (Nat.le_refl _) (Firsts.nil _ fun x hx => h0 ?_)
      have := der_nil.1 hx
      exact ⟨this.1, this.2.1⟩
  | cons x xs ih =>
    intro w R cr i j s M k hE hR hcr h4 hx hij hj hsN hM hM60 hk
    refine enter189 ?_
    unfold S189
    have hxx := hx x (List.mem_cons_self ..)
    have hx' : ∀ y ∈ xs, -100 ≤ y ∧ y < nons := fun y hy => hx y (List.mem_cons_of_mem _ hy)
    have E := hE.gr (gr_drew w)
    have hcr' := hcr
    have h4' := h4
    rw [List.length_cons] at hcr h4
    have hsub := hR.sub (l := 1) (c := cr) (by simp) (by simp; omega) xs.length
    rw [List.drop_one, List.tail_cons, List.take_length] at hsub
    simp only [bin_add, bin_sub, bin_mul, bin_eql, bin_neq, bin_lss, bin_leq, bin_gtr, bin_geq, un_not, un_neg, pick_true, pick_false, extract_two_0, extract_two_1, nilCheck_pointer, cond_true', cond_false', guard_tt, guard_ff, guard_tf, guard_ft, guard_undef, seqQ_normal, seqQ_ret, seqQ_exit, blockQ_ret, blockQ_normal, blockQ_exit, bodyQ_ret, bodyQ_normal, resK_nil, resK_tmp, ite_T, ite_F, upd_at, add_plain, add_zero', len22, len35, len48, fa37_0, fa37_1, fa37_2, fa77_0, fa77_1, fa103_0, fa103_1, fa111_0, fa111_1, fa143_0, fa143_1, fa143_2, fa143_3, fa175_0, fa175_1, fa175_2, fa125_0, fa125_1, fa125_2, fa125_3, fa125_4, Nat.reduceEqDiff]
    refine rdi (ldB126 E.box rfl) (rdi (ldB22 E.box rfl) ?_)
    refine l10Row_c (M := capM) rfl E.tab E.hX hl hw (by omega) (by omega) (xs := x :: xs) (hR.gr (gr_drew w)) hcr' (by omega) hx (by omega) hj (by omega) (fun A i j k _ => rfl) fun y hy => ?_
    by_cases hy0 : y = 0
    · subst hy0
      simp only [show (((0 : Nat) : Int) = 0) from rfl, decide_true, bin_add, bin_sub, bin_mul, bin_eql, bin_neq, bin_lss, bin_leq, bin_gtr, bin_geq, un_not, un_neg, pick_true, pick_false, extract_two_0, extract_two_1, nilCheck_pointer, cond_true', cond_false', guard_tt, guard_ff, guard_tf, guard_ft, guard_undef, seqQ_normal, seqQ_ret, seqQ_exit, blockQ_ret, blockQ_normal, blockQ_exit, bodyQ_ret, bodyQ_normal, resK_nil, resK_tmp, ite_T, ite_F, upd_at, add_plain, add_zero', len22, len35, len48, fa37_0, fa37_1, fa37_2, fa77_0, fa77_1, fa103_0, fa103_1, fa111_0, fa111_1, fa143_0, fa143_1, fa143_2, fa143_3, fa175_0, fa175_1, fa175_2, fa125_0, fa125_1, fa125_2, fa125_3, fa125_4, Nat.reduceEqDiff]
      refine hk _ none 0 [] (gr_drew w) (IssF.nil _ _) (Nat.le_refl _) (Firsts.nil _ fun t ht => ?_)
      have := der_posR ht
      unfold capM at hy
      omega
    simp only [show ¬ ((y : Int) = 0) from by omega, show ¬ ((M : Int) ≤ 0) from by omega, decide_false, show ¬ (((x :: xs).length : Int) = 0) from by rw [List.length_cons]; omega, bin_add, bin_sub, bin_mul, bin_eql, bin_neq, bin_lss, bin_leq, bin_gtr, bin_geq, un_not, un_neg, pick_true, pick_false, extract_two_0, extract_two_1, nilCheck_pointer, cond_true', cond_false', guard_tt, guard_ff, guard_tf, guard_ft, guard_undef, seqQ_normal, seqQ_ret, seqQ_exit, blockQ_ret, blockQ_normal, blockQ_exit, bodyQ_ret, bodyQ_normal, resK_nil, resK_tmp, ite_T, ite_F, upd_at, add_plain, add_zero', len22, len35, len48, fa37_0, fa37_1, fa37_2, fa77_0, fa77_1, fa103_0, fa103_1, fa111_0, fa111_1, fa143_0, fa143_1, fa143_2, fa143_3, fa175_0, fa175_1, fa175_2, fa125_0, fa125_1, fa125_2, fa125_3, fa125_4, Nat.reduceEqDiff]
    refine rdi (ix22_0 hR.ptr (by simp)) (rdi (ld3 ((hR.gr (gr_drew w)).cell 0 (by simp))) ?_)
    simp only [List.getD_cons_zero, bin_add, bin_sub, bin_mul, bin_eql, bin_neq, bin_lss, bin_leq, bin_gtr, bin_geq, un_not, un_neg, pick_true, pick_false, extract_two_0, extract_two_1, nilCheck_pointer, cond_true', cond_false', guard_tt, guard_ff, guard_tf, guard_ft, guard_undef, seqQ_normal, seqQ_ret, seqQ_exit, blockQ_ret, blockQ_normal, blockQ_exit, bodyQ_ret, bodyQ_normal, resK_nil, resK_tmp, ite_T, ite_F, upd_at, add_plain, add_zero', len22, len35, len48, fa37_0, fa37_1, fa37_2, fa77_0, fa77_1, fa103_0, fa103_1, fa111_0, fa111_1, fa143_0, fa143_1, fa143_2, fa143_3, fa175_0, fa175_1, fa175_2, fa125_0, fa125_1, fa125_2, fa125_3, fa125_4, Nat.reduceEqDiff]
    by_cases hx0 : x < 0
    · simp only [hx0, decide_true, bin_add, bin_sub, bin_mul, bin_eql, bin_neq, bin_lss, bin_leq, bin_gtr, bin_geq, un_not, un_neg, pick_true, pick_false, extract_two_0, extract_two_1, nilCheck_pointer, cond_true', cond_false', guard_tt, guard_ff, guard_tf, guard_ft, guard_undef, seqQ_normal, seqQ_ret, seqQ_exit, blockQ_ret, blockQ_normal, blockQ_exit, bodyQ_ret, bodyQ_normal, resK_nil, resK_tmp, ite_T, ite_F, upd_at, add_plain, add_zero', len22, len35, len48, fa37_0, fa37_1, fa37_2, fa77_0, fa77_1, fa103_0, fa103_1, fa111_0, fa111_1, fa143_0, fa143_1, fa143_2, fa143_3, fa175_0, fa175_1, fa175_2, fa125_0, fa125_1, fa125_2, fa125_3, fa125_4, Nat.reduceEqDiff]
      have hij' : i < j ∧ ws.getD i 0 = -1 - x := by
        by_cases h : i < j ∧ ws.getD i 0 = -1 - x
        · exact h
        · exfalso
          rw [cntR, if_pos hx0, if_neg h] at hy
          omega
      refine rdi (sll22 (by omega) (by rw [List.length_cons]; omega)) ?_
      rw [i64_of (by omega) (by omega)]
      refine ih (i := i + 1) E (hsub.gr (gr_drew w)) (by show xs.length ≤ cr - 1; omega) (by omega) hx' (by omega) hj hsN hM hM60 fun w2 X2 c2 ls g2 h2 h3 h4 => ?_
      exact hk _ _ _ _ (gr_trans (gr_drew w) g2) (h2.mono fun b hb => hb) h3 (h4.congr fun t => (der_tok hx0).trans ⟨fun h => h.2.2, fun h => ⟨hij'.1, hij'.2, h⟩⟩)
    simp only [hx0, decide_false, bin_add, bin_sub, bin_mul, bin_eql, bin_neq, bin_lss, bin_leq, bin_gtr, bin_geq, un_not, un_neg, pick_true, pick_false, extract_two_0, extract_two_1, nilCheck_pointer, cond_true', cond_false', guard_tt, guard_ff, guard_tf, guard_ft, guard_undef, seqQ_normal, seqQ_ret, seqQ_exit, blockQ_ret, blockQ_normal, blockQ_exit, bodyQ_ret, bodyQ_normal, resK_nil, resK_tmp, ite_T, ite_F, upd_at, add_plain, add_zero', len22, len35, len48, fa37_0, fa37_1, fa37_2, fa77_0, fa77_1, fa103_0, fa103_1, fa111_0, fa111_1, fa143_0, fa143_1, fa143_2, fa143_3, fa175_0, fa175_1, fa175_2, fa125_0, fa125_1, fa125_2, fa125_3, fa125_4, Nat.reduceEqDiff]
    obtain ⟨A, rfl⟩ : ∃ A : Nat, x = A := ⟨x.toNat, by omega⟩
    refine loop_to (j + 1 - i) 0 (fun q f w' => q ≤ j + 1 - i ∧ f 14 = .int .i64 ((i + q : Nat) : Int) ∧ ∃ X' c', ∃ ls : List (List Int), f 13 = .slice X' ls.length c' ∧ Gr w w' ∧ IssF (fun b => w.heap.size ≤ b) w' X' ls ∧ ls.length ≤ c' ∧ Firsts M (SeenD gm.rules ws (A : Int) xs i j s q 0) ls)
      ⟨Nat.zero_le _, rfl, none, 0, [], rfl, gr_drew w, IssF.nil _ _, Nat.le_refl _, Firsts.nil _ fun t => seen_none⟩ ?_
    rintro q f w1 NN hag ⟨hq, h14, X1, c1, ls, h13, g1, hS, hlc, hF⟩ hN
    have f0 : f 0 = ptrv bc := hag 0 (by decide)
    have f1 : f 1 = .slice R (((A : Int) :: xs).length) cr := hag 1 (by decide)
    have f2 : f 2 = .int .i64 i := hag 2 (by decide)
    have f3 : f 3 = .int .i64 j := hag 3 (by decide)
    have f4 : f 4 = .int .i64 s := hag 4 (by decide)
    have f5 : f 5 = .int .i64 (M : Int) := hag 5 (by decide)
    simp only [f3, h14, bin_add, bin_sub, bin_mul, bin_eql, bin_neq, bin_lss, bin_leq, bin_gtr, bin_geq, un_not, un_neg, pick_true, pick_false, extract_two_0, extract_two_1, nilCheck_pointer, cond_true', cond_false', guard_tt, guard_ff, guard_tf, guard_ft, guard_undef, seqQ_normal, seqQ_ret, seqQ_exit, blockQ_ret, blockQ_normal, blockQ_exit, bodyQ_ret, bodyQ_normal, resK_nil, resK_tmp, ite_T, ite_F, upd_at, add_plain, add_zero', len22, len35, len48, fa37_0, fa37_1, fa37_2, fa77_0, fa77_1, fa103_0, fa103_1, fa111_0, fa111_1, fa143_0, fa143_1, fa143_2, fa143_3, fa175_0, fa175_1, fa175_2, fa125_0, fa125_1, fa125_2, fa125_3, fa125_4, Nat.reduceEqDiff]
    by_cases hle : i + q ≤ j
    case neg =>
      simp only [show ¬ (((i + q : Nat) : Int) ≤ j) from by omega, decide_false, bin_add, bin_sub, bin_mul, bin_eql, bin_neq, bin_lss, bin_leq, bin_gtr, bin_geq, un_not, un_neg, pick_true, pick_false, extract_two_0, extract_two_1, nilCheck_pointer, cond_true', cond_false', guard_tt, guard_ff, guard_tf, guard_ft, guard_undef, seqQ_normal, seqQ_ret, seqQ_exit, blockQ_ret, blockQ_normal, blockQ_exit, bodyQ_ret, bodyQ_normal, resK_nil, resK_tmp, ite_T, ite_F, upd_at, add_plain, add_zero', len22, len35, len48, fa37_0, fa37_1, fa37_2, fa77_0, fa77_1, fa103_0, fa103_1, fa111_0, fa111_1, fa143_0, fa143_1, fa143_2, fa143_3, fa175_0, fa175_1, fa175_2, fa125_0, fa125_1, fa125_2, fa125_3, fa125_4, Nat.reduceEqDiff]
      rw [h13]
      exact hk _ _ _ _ g1 hS hlc (hF.congr fun t => seen_all hx0 (by omega))
    simp only [show (((i + q : Nat) : Int) ≤ j) from by omega, decide_true, bin_add, bin_sub, bin_mul, bin_eql, bin_neq, bin_lss, bin_leq, bin_gtr, bin_geq, un_not, un_neg, pick_true, pick_false, extract_two_0, extract_two_1, nilCheck_pointer, cond_true', cond_false', guard_tt, guard_ff, guard_tf, guard_ft, guard_undef, seqQ_normal, seqQ_ret, seqQ_exit, blockQ_ret, blockQ_normal, blockQ_exit, bodyQ_ret, bodyQ_normal, resK_nil, resK_tmp, ite_T, ite_F, upd_at, add_plain, add_zero', len22, len35, len48, fa37_0, fa37_1, fa37_2, fa77_0, fa77_1, fa103_0, fa103_1, fa111_0, fa111_1, fa143_0, fa143_1, fa143_2, fa143_3, fa175_0, fa175_1, fa175_2, fa125_0, fa125_1, fa125_2, fa125_3, fa125_4, Nat.reduceEqDiff]
    refine loop_to s 0 (fun kk f w' => kk ≤ s ∧ f 15 = .int .i64 ((kk + 1 : Nat) : Int) ∧ f 14 = .int .i64 ((i + q : Nat) : Int) ∧ ∃ X' c', ∃ ls : List (List Int), f 13 = .slice X' ls.length c' ∧ Gr w w' ∧ IssF (fun b => w.heap.size ≤ b) w' X' ls ∧ ls.length ≤ c' ∧ Firsts M (SeenD gm.rules ws (A : Int) xs i j s q kk) ls)
      ⟨Nat.zero_le _, rfl, h14, X1, c1, ls, h13, g1, hS, hlc, hF⟩ ?_
    clear hF hS hlc h13 ls c1 X1
    rintro kk g w2 N2 hag2 ⟨hkk, h15, h14, X1, c1, ls, h13, g2, hS, hlc, hF⟩ hN2
    have a0 : g 0 = ptrv bc := (hag2 0 (by decide)).trans f0
    have a1 : g 1 = .slice R (((A : Int) :: xs).length) cr := (hag2 1 (by decide)).trans f1
    have a2 : g 2 = .int .i64 i := (hag2 2 (by decide)).trans f2
    have a3 : g 3 = .int .i64 j := (hag2 3 (by decide)).trans f3
    have a4 : g 4 = .int .i64 s := (hag2 4 (by decide)).trans f4
    have a5 : g 5 = .int .i64 (M : Int) := (hag2 5 (by decide)).trans f5
    simp only [a4, h15, bin_add, bin_sub, bin_mul, bin_eql, bin_neq, bin_lss, bin_leq, bin_gtr, bin_geq, un_not, un_neg, pick_true, pick_false, extract_two_0, extract_two_1, nilCheck_pointer, cond_true', cond_false', guard_tt, guard_ff, guard_tf, guard_ft, guard_undef, seqQ_normal, seqQ_ret, seqQ_exit, blockQ_ret, blockQ_normal, blockQ_exit, bodyQ_ret, bodyQ_normal, resK_nil, resK_tmp, ite_T, ite_F, upd_at, add_plain, add_zero', len22, len35, len48, fa37_0, fa37_1, fa37_2, fa77_0, fa77_1, fa103_0, fa103_1, fa111_0, fa111_1, fa143_0, fa143_1, fa143_2, fa143_3, fa175_0, fa175_1, fa175_2, fa125_0, fa125_1, fa125_2, fa125_3, fa125_4, Nat.reduceEqDiff]
    by_cases hlk : kk < s
    case neg =>
      simp only [show ¬ (((kk + 1 : Nat) : Int) ≤ s) from by omega, decide_false, bin_add, bin_sub, bin_mul, bin_eql, bin_neq, bin_lss, bin_leq, bin_gtr, bin_geq, un_not, un_neg, pick_true, pick_false, extract_two_0, extract_two_1, nilCheck_pointer, cond_true', cond_false', guard_tt, guard_ff, guard_tf, guard_ft, guard_undef, seqQ_normal, seqQ_ret, seqQ_exit, blockQ_ret, blockQ_normal, blockQ_exit, bodyQ_ret, bodyQ_normal, resK_nil, resK_tmp, ite_T, ite_F, upd_at, add_plain, add_zero', len22, len35, len48, fa37_0, fa37_1, fa37_2, fa77_0, fa77_1, fa103_0, fa103_1, fa111_0, fa111_1, fa143_0, fa143_1, fa143_2, fa143_3, fa175_0, fa175_1, fa175_2, fa125_0, fa125_1, fa125_2, fa125_3, fa125_4, Nat.reduceEqDiff]
      simp only [h14, bin_add, bin_sub, bin_mul, bin_eql, bin_neq, bin_lss, bin_leq, bin_gtr, bin_geq, un_not, un_neg, pick_true, pick_false, extract_two_0, extract_two_1, nilCheck_pointer, cond_true', cond_false', guard_tt, guard_ff, guard_tf, guard_ft, guard_undef, seqQ_normal, seqQ_ret, seqQ_exit, blockQ_ret, blockQ_normal, blockQ_exit, bodyQ_ret, bodyQ_normal, resK_nil, resK_tmp, ite_T, ite_F, upd_at, add_plain, add_zero', len22, len35, len48, fa37_0, fa37_1, fa37_2, fa77_0, fa77_1, fa103_0, fa103_1, fa111_0, fa111_1, fa143_0, fa143_1, fa143_2, fa143_3, fa175_0, fa175_1, fa175_2, fa125_0, fa125_1, fa125_2, fa125_3, fa125_4, Nat.reduceEqDiff]
      rw [i64_of (by omega) (by omega)]
      obtain rfl : kk = s := by omega
      exact hN _ _ (by omega) ⟨by omega, by show Value.int .i64 (((i + q : Nat) : Int) + 1) = _; congr 1, X1, c1, ls, h13, g2, hS, hlc, hF.congr fun t => seen_row⟩
    simp only [show (((kk + 1 : Nat) : Int) ≤ s) from by omega, decide_true, bin_add, bin_sub, bin_mul, bin_eql, bin_neq, bin_lss, bin_leq, bin_gtr, bin_geq, un_not, un_neg, pick_true, pick_false, extract_two_0, extract_two_1, nilCheck_pointer, cond_true', cond_false', guard_tt, guard_ff, guard_tf, guard_ft, guard_undef, seqQ_normal, seqQ_ret, seqQ_exit, blockQ_ret, blockQ_normal, blockQ_exit, bodyQ_ret, bodyQ_normal, resK_nil, resK_tmp, ite_T, ite_F, upd_at, add_plain, add_zero', len22, len35, len48, fa37_0, fa37_1, fa37_2, fa77_0, fa77_1, fa103_0, fa103_1, fa111_0, fa111_1, fa143_0, fa143_1, fa143_2, fa143_3, fa175_0, fa175_1, fa175_2, fa125_0, fa125_1, fa125_2, fa125_3, fa125_4, Nat.reduceEqDiff]
    refine join_as (fun g w' => g 15 = .int .i64 ((kk + 1 : Nat) : Int) ∧ g 14 = .int .i64 ((i + q : Nat) : Int) ∧ ∃ X' c', ∃ ls : List (List Int), g 13 = .slice X' ls.length c' ∧ Gr w w' ∧ IssF (fun b => w.heap.size ≤ b) w' X' ls ∧ ls.length ≤ c' ∧ Firsts M (SeenD gm.rules ws (A : Int) xs i j s q (kk + 1)) ls) (fun K hK => ?_) ?_
    case refine_2 =>
      rintro g w' ⟨b15, b14, X', c', ls, b13, g', hS, hlc, hF⟩
      simp only [b15, go_sem, Nat.reduceEqDiff]
      rw [i64_of (by omega) (by omega)]
      exact hN2 _ _ hlk ⟨hlk, by show Value.int .i64 (((kk + 1 : Nat) : Int) + 1) = _; congr 1, b14, X', c', ls, b13, g', hS, hlc, hF⟩
    simp only [a0, a1, a2, a3, a4, a5, h14, h15, bin_add, bin_sub, bin_mul, bin_eql, bin_neq, bin_lss, bin_leq, bin_gtr, bin_geq, un_not, un_neg, pick_true, pick_false, extract_two_0, extract_two_1, nilCheck_pointer, cond_true', cond_false', guard_tt, guard_ff, guard_tf, guard_ft, guard_undef, seqQ_normal, seqQ_ret, seqQ_exit, blockQ_ret, blockQ_normal, blockQ_exit, bodyQ_ret, bodyQ_normal, resK_nil, resK_tmp, ite_T, ite_F, upd_at, add_plain, add_zero', len22, len35, len48, fa37_0, fa37_1, fa37_2, fa77_0, fa77_1, fa103_0, fa103_1, fa111_0, fa111_1, fa143_0, fa143_1, fa143_2, fa143_3, fa175_0, fa175_1, fa175_2, fa125_0, fa125_1, fa125_2, fa125_3, fa125_4, Nat.reduceEqDiff]
    refine rdi (sll22 (by omega) (by rw [List.length_cons]; omega)) ?_
    rw [i64_of (n := (s : Int) - ((kk + 1 : Nat) : Int)) (by omega) (by omega), show (s : Int) - ((kk + 1 : Nat) : Int) = ((s - (kk + 1) : Nat) : Int) from by omega]
    refine ih (i := i + q) (hE.gr g2) (hsub.gr g2) (by show xs.length ≤ cr - 1; omega) (by omega) hx' hle hj (by omega) hM hM60 fun w3 Xr cr' rl g3 hr3 hrc hrF => ?_
    have hrl := hrF.len
    simp only [bin_add, bin_sub, bin_mul, bin_eql, bin_neq, bin_lss, bin_leq, bin_gtr, bin_geq, un_not, un_neg, pick_true, pick_false, extract_two_0, extract_two_1, nilCheck_pointer, cond_true', cond_false', guard_tt, guard_ff, guard_tf, guard_ft, guard_undef, seqQ_normal, seqQ_ret, seqQ_exit, blockQ_ret, blockQ_normal, blockQ_exit, bodyQ_ret, bodyQ_normal, resK_nil, resK_tmp, ite_T, ite_F, upd_at, add_plain, add_zero', len22, len35, len48, fa37_0, fa37_1, fa37_2, fa77_0, fa77_1, fa103_0, fa103_1, fa111_0, fa111_1, fa143_0, fa143_1, fa143_2, fa143_3, fa175_0, fa175_1, fa175_2, fa125_0, fa125_1, fa125_2, fa125_3, fa125_4, Nat.reduceEqDiff]
    by_cases hr0 : rl.length = 0
    · simp only [show ((rl.length : Int) = 0) from by omega, decide_true, bin_add, bin_sub, bin_mul, bin_eql, bin_neq, bin_lss, bin_leq, bin_gtr, bin_geq, un_not, un_neg, pick_true, pick_false, extract_two_0, extract_two_1, nilCheck_pointer, cond_true', cond_false', guard_tt, guard_ff, guard_tf, guard_ft, guard_undef, seqQ_normal, seqQ_ret, seqQ_exit, blockQ_ret, blockQ_normal, blockQ_exit, bodyQ_ret, bodyQ_normal, resK_nil, resK_tmp, ite_T, ite_F, upd_at, add_plain, add_zero', len22, len35, len48, fa37_0, fa37_1, fa37_2, fa77_0, fa77_1, fa103_0, fa103_1, fa111_0, fa111_1, fa143_0, fa143_1, fa143_2, fa143_3, fa175_0, fa175_1, fa175_2, fa125_0, fa125_1, fa125_2, fa125_3, fa125_4, Nat.reduceEqDiff]
      obtain rfl := List.eq_nil_of_length_eq_zero hr0
      refine hK _ _ ⟨h15, h14, X1, c1, ls, h13, gr_trans g2 g3, hS.gr g3, hlc, hF.congr fun t => ?_⟩
      rw [seen_step hle hlk]
      exact ⟨fun h => h.resolve_right (partD_none (fun t => hrF.none hM t) t), .inl⟩
    simp only [show ¬ ((rl.length : Int) = 0) from by omega, decide_false, bin_add, bin_sub, bin_mul, bin_eql, bin_neq, bin_lss, bin_leq, bin_gtr, bin_geq, un_not, un_neg, pick_true, pick_false, extract_two_0, extract_two_1, nilCheck_pointer, cond_true', cond_false', guard_tt, guard_ff, guard_tf, guard_ft, guard_undef, seqQ_normal, seqQ_ret, seqQ_exit, blockQ_ret, blockQ_normal, blockQ_exit, bodyQ_ret, bodyQ_normal, resK_nil, resK_tmp, ite_T, ite_F, upd_at, add_plain, add_zero', len22, len35, len48, fa37_0, fa37_1, fa37_2, fa77_0, fa77_1, fa103_0, fa103_1, fa111_0, fa111_1, fa143_0, fa143_1, fa143_2, fa143_3, fa175_0, fa175_1, fa175_2, fa125_0, fa125_1, fa125_2, fa125_3, fa125_4, Nat.reduceEqDiff]
    have g23 := gr_trans g2 g3
    refine rdi (ix22_0 hR.ptr (by simp)) (rdi (ld3 ((hR.gr g23).cell 0 (by simp))) ?_)
    simp only [List.getD_cons_zero]
    refine hTrees (hE.gr g23) (A := A) (i := i) (j := i + q) (s := kk + 1) (by omega) (by omega) (by omega) (by omega) hM hM60 fun w4 Xf cf fl ps g4 hf4 hfF => ?_
    have hfl := hfF.len
    have hfS := hf4.read
    have hr3 := hr3.is
    simp only [bin_add, bin_sub, bin_mul, bin_eql, bin_neq, bin_lss, bin_leq, bin_gtr, bin_geq, un_not, un_neg, pick_true, pick_false, extract_two_0, extract_two_1, nilCheck_pointer, cond_true', cond_false', guard_tt, guard_ff, guard_tf, guard_ft, guard_undef, seqQ_normal, seqQ_ret, seqQ_exit, blockQ_ret, blockQ_normal, blockQ_exit, bodyQ_ret, bodyQ_normal, resK_nil, resK_tmp, ite_T, ite_F, upd_at, add_plain, add_zero', len22, len35, len48, fa37_0, fa37_1, fa37_2, fa77_0, fa77_1, fa103_0, fa103_1, fa111_0, fa111_1, fa143_0, fa143_1, fa143_2, fa143_3, fa175_0, fa175_1, fa175_2, fa125_0, fa125_1, fa125_2, fa125_3, fa125_4, Nat.reduceEqDiff]
    have g24 := gr_trans g23 g4
    have hpart : ∀ {t : List Int}, t ∈ prodL fl rl → PartD gm.rules ws (A : Int) xs i j s (i + q) (kk + 1) t := fun {t} ht => by
      obtain ⟨a, b, ha, hb, rfl⟩ := mem_prodL.1 ht
      exact ⟨a, b, hfF.mem a ha, hrF.mem b hb, rfl⟩
    refine loop_to fl.length 0 (fun ia f w' => ia ≤ fl.length ∧ f 90 = .int .i64 (ia : Int) ∧ f 15 = .int .i64 ((kk + 1 : Nat) : Int) ∧ f 14 = .int .i64 ((i + q : Nat) : Int) ∧ ∃ X' c', ∃ ls : List (List Int), f 13 = .slice X' ls.length c' ∧ Gr w4 w' ∧ IssF (fun b => w.heap.size ≤ b) w' X' ls ∧ ls.length ≤ c' ∧ Firsts M (fun z => SeenD gm.rules ws (A : Int) xs i j s q kk z ∨ z ∈ partL fl rl ia 0) ls)
      ⟨Nat.zero_le _, rfl, h15, h14, X1, c1, ls, h13, Gr.refl _, hS.gr (gr_trans g3 g4), hlc, hF.congr fun t => by rw [partL_zero]; simp⟩ ?_
    clear hF hS hlc h13 ls c1 X1
    rintro ia p w5 N3 hag3 ⟨hia, p90, p15, p14, X1, c1, ls, p13, g5, hS, hlc, hF⟩ hN3
    have p89 : p 89 = .int .i64 (fl.length : Int) := hag3 89 (by decide)
    have p88 : p 88 = .slice Xf fl.length cf := hag3 88 (by decide)
    have p16 : p 16 = .slice Xr rl.length cr' := hag3 16 (by decide)
    have p5 : p 5 = .int .i64 (M : Int) := (hag3 5 (by decide)).trans a5
    simp only [p89, p90, bin_add, bin_sub, bin_mul, bin_eql, bin_neq, bin_lss, bin_leq, bin_gtr, bin_geq, un_not, un_neg, pick_true, pick_false, extract_two_0, extract_two_1, nilCheck_pointer, cond_true', cond_false', guard_tt, guard_ff, guard_tf, guard_ft, guard_undef, seqQ_normal, seqQ_ret, seqQ_exit, blockQ_ret, blockQ_normal, blockQ_exit, bodyQ_ret, bodyQ_normal, resK_nil, resK_tmp, ite_T, ite_F, upd_at, add_plain, add_zero', len22, len35, len48, fa37_0, fa37_1, fa37_2, fa77_0, fa77_1, fa103_0, fa103_1, fa111_0, fa111_1, fa143_0, fa143_1, fa143_2, fa143_3, fa175_0, fa175_1, fa175_2, fa125_0, fa125_1, fa125_2, fa125_3, fa125_4, Nat.reduceEqDiff]
    by_cases hla : ia < fl.length
    case neg =>
      simp only [show ¬ ((ia : Int) < fl.length) from by omega, decide_false, bin_add, bin_sub, bin_mul, bin_eql, bin_neq, bin_lss, bin_leq, bin_gtr, bin_geq, un_not, un_neg, pick_true, pick_false, extract_two_0, extract_two_1, nilCheck_pointer, cond_true', cond_false', guard_tt, guard_ff, guard_tf, guard_ft, guard_undef, seqQ_normal, seqQ_ret, seqQ_exit, blockQ_ret, blockQ_normal, blockQ_exit, bodyQ_ret, bodyQ_normal, resK_nil, resK_tmp, ite_T, ite_F, upd_at, add_plain, add_zero', len22, len35, len48, fa37_0, fa37_1, fa37_2, fa77_0, fa77_1, fa103_0, fa103_1, fa111_0, fa111_1, fa143_0, fa143_1, fa143_2, fa143_3, fa175_0, fa175_1, fa175_2, fa125_0, fa125_1, fa125_2, fa125_3, fa125_4, Nat.reduceEqDiff]
      obtain rfl : ia = fl.length := by omega
      rw [partL_done (Nat.le_refl _)] at hF
      exact hK _ _ ⟨p15, p14, X1, c1, ls, p13, gr_trans g24 g5, hS, hlc, (Firsts.part der_free hfF hrF hF).congr fun t => seen_step hle hlk⟩
    simp only [show ((ia : Int) < fl.length) from by omega, decide_true, bin_add, bin_sub, bin_mul, bin_eql, bin_neq, bin_lss, bin_leq, bin_gtr, bin_geq, un_not, un_neg, pick_true, pick_false, extract_two_0, extract_two_1, nilCheck_pointer, cond_true', cond_false', guard_tt, guard_ff, guard_tf, guard_ft, guard_undef, seqQ_normal, seqQ_ret, seqQ_exit, blockQ_ret, blockQ_normal, blockQ_exit, bodyQ_ret, bodyQ_normal, resK_nil, resK_tmp, ite_T, ite_F, upd_at, add_plain, add_zero', len22, len35, len48, fa37_0, fa37_1, fa37_2, fa77_0, fa77_1, fa103_0, fa103_1, fa111_0, fa111_1, fa143_0, fa143_1, fa143_2, fa143_3, fa175_0, fa175_1, fa175_2, fa125_0, fa125_1, fa125_2, fa125_3, fa125_4, Nat.reduceEqDiff]
    simp only [p88, p16, bin_add, bin_sub, bin_mul, bin_eql, bin_neq, bin_lss, bin_leq, bin_gtr, bin_geq, un_not, un_neg, pick_true, pick_false, extract_two_0, extract_two_1, nilCheck_pointer, cond_true', cond_false', guard_tt, guard_ff, guard_tf, guard_ft, guard_undef, seqQ_normal, seqQ_ret, seqQ_exit, blockQ_ret, blockQ_normal, blockQ_exit, bodyQ_ret, bodyQ_normal, resK_nil, resK_tmp, ite_T, ite_F, upd_at, add_plain, add_zero', len22, len35, len48, fa37_0, fa37_1, fa37_2, fa77_0, fa77_1, fa103_0, fa103_1, fa111_0, fa111_1, fa143_0, fa143_1, fa143_2, fa143_3, fa175_0, fa175_1, fa175_2, fa125_0, fa125_1, fa125_2, fa125_3, fa125_4, Nat.reduceEqDiff]
    obtain ⟨Za, ca, ta1, ta2, ta3⟩ := (hfS.gr g5).row ia hla
    have hal : (rgt fl ia).length = kk + 1 := der_len (hfF.mem _ (rgt_mem hla))
    refine rdi (ixn48 hfS.ptr hla) (rdi (ld22 ta1) ?_)
    refine loop_to rl.length 0 (fun ib f w' => ib ≤ rl.length ∧ f 96 = .int .i64 (ib : Int) ∧ f 90 = .int .i64 (ia : Int) ∧ f 15 = .int .i64 ((kk + 1 : Nat) : Int) ∧ f 14 = .int .i64 ((i + q : Nat) : Int) ∧ ∃ X' c', ∃ ls : List (List Int), f 13 = .slice X' ls.length c' ∧ Gr w5 w' ∧ IssF (fun b => w.heap.size ≤ b) w' X' ls ∧ ls.length ≤ c' ∧ Firsts M (fun z => SeenD gm.rules ws (A : Int) xs i j s q kk z ∨ z ∈ partL fl rl ia ib) ls)
      ⟨Nat.zero_le _, rfl, p90, p15, p14, X1, c1, ls, p13, Gr.refl _, hS, hlc, hF⟩ ?_
    clear hF hS hlc p13 ls c1 X1
    rintro ib p' w6 N4 hag4 ⟨hib, r96, r90, r15, r14, X1, c1, ls, r13, g6, hS, hlc, hF⟩ hN4
    have r95 : p' 95 = .int .i64 (rl.length : Int) := hag4 95 (by decide)
    have r94 : p' 94 = .slice Xr rl.length cr' := hag4 94 (by decide)
    have r18 : p' 18 = .slice Za (rgt fl ia).length ca := hag4 18 (by decide)
    have r5 : p' 5 = .int .i64 (M : Int) := (hag4 5 (by decide)).trans p5
    simp only [r95, r96, bin_add, bin_sub, bin_mul, bin_eql, bin_neq, bin_lss, bin_leq, bin_gtr, bin_geq, un_not, un_neg, pick_true, pick_false, extract_two_0, extract_two_1, nilCheck_pointer, cond_true', cond_false', guard_tt, guard_ff, guard_tf, guard_ft, guard_undef, seqQ_normal, seqQ_ret, seqQ_exit, blockQ_ret, blockQ_normal, blockQ_exit, bodyQ_ret, bodyQ_normal, resK_nil, resK_tmp, ite_T, ite_F, upd_at, add_plain, add_zero', len22, len35, len48, fa37_0, fa37_1, fa37_2, fa77_0, fa77_1, fa103_0, fa103_1, fa111_0, fa111_1, fa143_0, fa143_1, fa143_2, fa143_3, fa175_0, fa175_1, fa175_2, fa125_0, fa125_1, fa125_2, fa125_3, fa125_4, Nat.reduceEqDiff]
    by_cases hlb : ib < rl.length
    case neg =>
      simp only [show ¬ ((ib : Int) < rl.length) from by omega, decide_false, bin_add, bin_sub, bin_mul, bin_eql, bin_neq, bin_lss, bin_leq, bin_gtr, bin_geq, un_not, un_neg, pick_true, pick_false, extract_two_0, extract_two_1, nilCheck_pointer, cond_true', cond_false', guard_tt, guard_ff, guard_tf, guard_ft, guard_undef, seqQ_normal, seqQ_ret, seqQ_exit, blockQ_ret, blockQ_normal, blockQ_exit, bodyQ_ret, bodyQ_normal, resK_nil, resK_tmp, ite_T, ite_F, upd_at, add_plain, add_zero', len22, len35, len48, fa37_0, fa37_1, fa37_2, fa77_0, fa77_1, fa103_0, fa103_1, fa111_0, fa111_1, fa143_0, fa143_1, fa143_2, fa143_3, fa175_0, fa175_1, fa175_2, fa125_0, fa125_1, fa125_2, fa125_3, fa125_4, Nat.reduceEqDiff]
      simp only [r90, bin_add, bin_sub, bin_mul, bin_eql, bin_neq, bin_lss, bin_leq, bin_gtr, bin_geq, un_not, un_neg, pick_true, pick_false, extract_two_0, extract_two_1, nilCheck_pointer, cond_true', cond_false', guard_tt, guard_ff, guard_tf, guard_ft, guard_undef, seqQ_normal, seqQ_ret, seqQ_exit, blockQ_ret, blockQ_normal, blockQ_exit, bodyQ_ret, bodyQ_normal, resK_nil, resK_tmp, ite_T, ite_F, upd_at, add_plain, add_zero', len22, len35, len48, fa37_0, fa37_1, fa37_2, fa77_0, fa77_1, fa103_0, fa103_1, fa111_0, fa111_1, fa143_0, fa143_1, fa143_2, fa143_3, fa175_0, fa175_1, fa175_2, fa125_0, fa125_1, fa125_2, fa125_3, fa125_4, Nat.reduceEqDiff]
      rw [i64_of (by omega) (by omega)]
      exact hN3 _ _ hla ⟨hla, rfl, r15, r14, X1, c1, ls, r13, gr_trans g5 g6, hS, hlc, hF.congr fun t => by rw [partL_row hla (by omega)]⟩
    simp only [show ((ib : Int) < rl.length) from by omega, decide_true, bin_add, bin_sub, bin_mul, bin_eql, bin_neq, bin_lss, bin_leq, bin_gtr, bin_geq, un_not, un_neg, pick_true, pick_false, extract_two_0, extract_two_1, nilCheck_pointer, cond_true', cond_false', guard_tt, guard_ff, guard_tf, guard_ft, guard_undef, seqQ_normal, seqQ_ret, seqQ_exit, blockQ_ret, blockQ_normal, blockQ_exit, bodyQ_ret, bodyQ_normal, resK_nil, resK_tmp, ite_T, ite_F, upd_at, add_plain, add_zero', len22, len35, len48, fa37_0, fa37_1, fa37_2, fa77_0, fa77_1, fa103_0, fa103_1, fa111_0, fa111_1, fa143_0, fa143_1, fa143_2, fa143_3, fa175_0, fa175_1, fa175_2, fa125_0, fa125_1, fa125_2, fa125_3, fa125_4, Nat.reduceEqDiff]
    simp only [r94, r18, r13, r5, bin_add, bin_sub, bin_mul, bin_eql, bin_neq, bin_lss, bin_leq, bin_gtr, bin_geq, un_not, un_neg, pick_true, pick_false, extract_two_0, extract_two_1, nilCheck_pointer, cond_true', cond_false', guard_tt, guard_ff, guard_tf, guard_ft, guard_undef, seqQ_normal, seqQ_ret, seqQ_exit, blockQ_ret, blockQ_normal, blockQ_exit, bodyQ_ret, bodyQ_normal, resK_nil, resK_tmp, ite_T, ite_F, upd_at, add_plain, add_zero', len22, len35, len48, fa37_0, fa37_1, fa37_2, fa77_0, fa77_1, fa103_0, fa103_1, fa111_0, fa111_1, fa143_0, fa143_1, fa143_2, fa143_3, fa175_0, fa175_1, fa175_2, fa125_0, fa125_1, fa125_2, fa125_3, fa125_4, Nat.reduceEqDiff]
    obtain ⟨Zb, cb, tb1, tb2, tb3⟩ := (hr3.gr (gr_trans g4 (gr_trans g5 g6))).row ib hlb
    have hbl : (rgt rl ib).length = s - (kk + 1) := der_len (hrF.mem _ (rgt_mem hlb))
    refine rdi (ixn48 hr3.ptr hlb) (rdi (ld22 tb1) ?_)
    refine l1Own_c (ta3.gr g6) rfl (by omega) fun X7 c7 w7 g7 o7 => ?_
    have H := (Apt.nil w6).addOwn g7 o7
    simp only [List.nil_append] at H
    refine apH H 0 rfl (tb3.gr g7) rfl rfl (by omega) fun X8 c8 w8 H => ?_
    simp only [List.set_cons_zero] at H
    have o8 := H.own 0 rfl
    have hlM := hF.len
    refine l11Insert_c (F := (fun b => w.heap.size ≤ b)) (fun q hq => ?_) (hS.gr H.gr) ((IntsF.of_own o8).mono fun b hb => ?_) rfl rfl hlc (Row.cap o8).1 (by omega) fun w9 X9 c9 mm hins g9 hS9 hlc9 => ?_
    · have := (gr_trans g24 (gr_trans g5 (gr_trans g6 H.gr))).size
      omega
    · have := (gr_trans g24 (gr_trans g5 g6)).size
      have := hb.1
      omega
    have hx_new : ¬ (SeenD gm.rules ws (A : Int) xs i j s q kk (rgt fl ia ++ rgt rl ib) ∨ rgt fl ia ++ rgt rl ib ∈ partL fl rl ia ib) := by
      rintro (h | h)
      · exact seen_apart h ⟨_, _, hfF.mem _ (rgt_mem hla), hrF.mem _ (rgt_mem hlb), rfl⟩
      · exact partL_new (A := Der gm.rules ws (.inl A) i (i + q) (kk + 1)) der_free hfF.rise hrF.rise hfF.mem hla hlb h
    have hF9 := hF.ins hx_new hins
    rw [i64_of (by omega) (by omega)]
    refine hN4 _ _ hlb ⟨hlb, rfl, r90, r15, r14, X9, c9, _, rfl, gr_trans g6 (gr_trans H.gr g9), hS9, hlc9, hF9.congr fun t => ?_⟩
    rw [partL_step hlb, List.mem_append, List.mem_singleton, or_assoc]
end
end Go.Proofs.Ytiohaeckagjebaa

/- slices.Insert and slices.Delete at []int: the library's contracts, laid over this program. -/
set_option linter.unusedVariables false
set_option linter.unusedSimpArgs false
set_option maxRecDepth 100000
namespace Go.Proofs.Ytiohaeckagjebaa
open Go Go.Sh Go.RowKit Go.Shelf
end Go.Proofs.Ytiohaeckagjebaa

/- slices.Delete and slices.Insert of one number, among things that lie apart. -/
set_option linter.unusedVariables false
set_option linter.unusedSimpArgs false
set_option maxRecDepth 100000
namespace Go.Sh
open Go
section
variable {w : World} {B e n c g : Nat} {X : Option Addr} {cells : List Value}
theorem Row.full (h : Row w B e 1 X n c cells) (hX : X ≠ none) : ∃ g tl, X = some ⟨g, 0, none⟩ ∧ tl.length = c - n ∧ n ≤ c ∧ c ≤ 9223372036854775807 ∧ Row w B e 1 X c c (cells ++ tl) := by
  rcases h.2 with h2 | ⟨g, cap, cur, e1, e2, e3, e4, e5, e6, e7⟩
  · simp only [Value.slice.injEq] at h2
    exact absurd h2.1.1 hX
  · simp only [Value.slice.injEq] at e1
    obtain ⟨rfl, _, rfl⟩ := e1
    have e6' : cur.toList.length = c := by simpa using e6
    refine ⟨g, cur.toList.drop n, rfl, by rw [List.length_drop]; omega, e4, by simpa [maxLen] using e5, ?_⟩
    have ec : cells ++ cur.toList.drop n = cur.toList := by rw [← e7, Nat.mul_one, List.take_append_drop]
    rw [ec]
    exact ⟨by omega, .inr ⟨g, c, cur, rfl, e2, e3, Nat.le_refl _, e5, e6, by rw [Nat.mul_one, List.take_of_length_le (by omega)]⟩⟩
theorem Row.cut (h : Row w B e 1 X n c cells) {m : Nat} (hm : m ≤ n) : Row w B e 1 X m c (cells.take m) := by
  have hl := h.1
  rcases h.2 with ⟨h2, h3⟩ | ⟨g, cap, cur, e1, e2, e3, e4, e5, e6, e7⟩
  · subst h3
    obtain rfl : m = 0 := by omega
    simp only [Value.slice.injEq] at h2
    obtain ⟨rfl, _, rfl⟩ := h2
    exact Row.nil _ _ _ _
  · simp only [Value.slice.injEq] at e1
    obtain ⟨rfl, _, rfl⟩ := e1
    refine ⟨by rw [List.length_take]; omega, .inr ⟨g, c, cur, rfl, e2, e3, by omega, e5, e6, ?_⟩⟩
    rw [← e7, Nat.mul_one, Nat.mul_one, List.take_take, Nat.min_eq_left hm]
theorem Row.put {d xs : List Int} (h : Row w B e 1 (some ⟨g, 0, none⟩) n c (ints xs)) (hd : d.length = n) : Row (Sort.putRow (.int .i64) w g 0 d.toArray) B e 1 (some ⟨g, 0, none⟩) n c (ints d) ∧ w.grownBy (Sort.putRow (.int .i64) w g 0 d.toArray) (some g) := by
  rcases h.2 with h2 | ⟨g', cap, cur, e1, e2, e3, e4, e5, e6, e7⟩
  · simp at h2
  · simp only [Value.slice.injEq, Option.some.injEq, Addr.mk.injEq, and_true, true_and] at e1
    obtain ⟨rfl, rfl⟩ := e1
    have e6' : cur.size = c := by simpa using e6
    refine ⟨⟨by rw [ints_length]; omega, .inr ⟨g, c, Sort.putCells (.int .i64) 0 d.toArray cur, rfl, e2, ?_, e4, e5, ?_, ?_⟩⟩, ⟨rfl, rfl, rfl, ?_, fun k hk hn => ?_⟩⟩
    · simp only [Sort.putRow, Sort.mapBlock, Array.getElem?_modify, if_true, e3, Option.map_some, Sort.onCells]
    · simp [Sort.putCells, e6']
    · apply List.ext_getElem?
      intro j
      rw [Nat.mul_one, List.getElem?_take]
      by_cases hj : j < n
      · rw [if_pos hj, Array.getElem?_toList]
        simp only [Sort.putCells, Array.getElem?_mapIdx]
        have hc : j < cur.size := by omega
        rw [Array.getElem?_eq_getElem hc]
        simp [ints, hd, hj]
      · rw [if_neg hj, List.getElem?_eq_none (by rw [ints_length]; omega)]
    · simp [Sort.putRow, Sort.mapBlock]
    · simp only [Sort.putRow, Sort.mapBlock, Array.getElem?_modify]
      rw [if_neg (fun e => hn (by rw [e]))]
theorem Row.holds {xs : List Int} (h : Row w B e 1 (some ⟨g, 0, none⟩) n c (ints xs)) : Sort.Holds (.int .i64) w g 0 xs.toArray := by
  rcases h.2 with h2 | ⟨g', cap, cur, e1, e2, e3, e4, e5, e6, e7⟩
  · simp at h2
  · simp only [Value.slice.injEq, Option.some.injEq, Addr.mk.injEq, and_true, true_and] at e1
    obtain ⟨rfl, rfl⟩ := e1
    intro j hj
    have hj' : j < xs.length := by simpa using hj
    refine ⟨?_, ?_⟩
    · have := h.src.cell j (.int .i64 xs[j]) (by simp [ints, hj'])
      rw [show (ad (some (⟨g, 0, none⟩ : Addr))).add j = ⟨g, 0 + j, none⟩ from by show (⟨g, 0, none⟩ : Addr).add j = _; rw [add_plain]] at this
      rw [this]
      simp [hj']
    · simp only [World.frozen?, e3]
      simp
theorem Row.facts (h : Row w B e 1 (some ⟨g, 0, none⟩) n c cells) : (∀ (j : Nat) (v : Value), cells[j]? = some v → w.cell? ⟨g, 0 + j, none⟩ = some v) ∧ (∀ j : Nat, w.frozen? ⟨g, j, none⟩ = false) ∧ w.shape? g = some (e, c) := by
  refine ⟨fun j v hv => ?_, ?_⟩
  · have := h.src.cell j v hv
    rwa [show (ad (some (⟨g, 0, none⟩ : Addr))).add j = ⟨g, 0 + j, none⟩ from by show (⟨g, 0, none⟩ : Addr).add j = _; rw [add_plain]] at this
  · rcases h.2 with h2 | ⟨g', cap, cur, e1, e2, e3, e4, e5, e6, e7⟩
    · simp at h2
    · simp only [Value.slice.injEq, Option.some.injEq, Addr.mk.injEq, and_true, true_and] at e1
      obtain ⟨rfl, rfl⟩ := e1
      refine ⟨fun j => ?_, ?_⟩
      · simp only [World.frozen?, e3]
        simp
      · simp only [World.shape?, e3]
        rw [show cur.size = c from by simpa using e6]
end
end Go.Sh
namespace Go.Proofs.Ytiohaeckagjebaa
open Go Go.Sh Go.RowKit Go.Shelf
section
variable {k : Value → World → Prop} {w0 w : World} {L : List Thing}
end
end Go.Proofs.Ytiohaeckagjebaa

/- Contract: trees of a nonterminal in order (the reference's l11Make.trees). -/
set_option linter.unusedVariables false
set_option linter.unusedSimpArgs false
set_option maxRecDepth 100000
namespace Go.Sh
open Go
theorem rulesOf_lt {rs : List RuleL} {A n a b : Nat} (hab : a < b) (hb : b < (rulesOf rs A n).length) : (rulesOf rs A n).getD a 0 < (rulesOf rs A n).getD b 0 := by
  have hp : (rulesOf rs A n).Pairwise (· < ·) := by
    unfold rulesOf
    refine List.pairwise_map.2 ((List.pairwise_lt_range.filter _).imp fun h => ?_)
    omega
  rw [List.getD_eq_getElem?_getD, List.getD_eq_getElem?_getD, List.getElem?_eq_getElem (by omega), List.getElem?_eq_getElem hb]
  exact List.pairwise_iff_getElem.1 hp a b (by omega) hb hab
theorem rulesOf_has {rs : List RuleL} {A n q : Nat} (hq : q < n) (hA : (rul rs q).1 = (A : Int)) : ∃ l, l < (rulesOf rs A n).length ∧ (rulesOf rs A n).getD l 0 = (q : Int) := by
  have hm : (q : Int) ∈ rulesOf rs A n := by
    unfold rulesOf
    refine List.mem_map.2 ⟨q, List.mem_filter.2 ⟨List.mem_range.2 hq, by simpa using hA⟩, rfl⟩
  obtain ⟨l, hl, e⟩ := List.getElem_of_mem hm
  refine ⟨l, hl, ?_⟩
  rw [List.getD_eq_getElem?_getD, List.getElem?_eq_getElem hl]
  exact e
/-- The trees of the first l rules of a nonterminal. -/
def RuleS (rs : List RuleL) (ws : List Int) (A i j s l : Nat) (t : List Int) : Prop := ∃ l' q, l' < l ∧ l' < (rulesOf rs A rs.length).length ∧ (rulesOf rs A rs.length).getD l' 0 = ((q : Nat) : Int) ∧ ∃ r, Der rs ws (.inr (rul rs q).2) i j s r ∧ t = (q : Int) :: r
theorem ruleS_all {rs : List RuleL} {ws : List Int} {A i j s : Nat} {t : List Int} : Der rs ws (.inl A) i j (s + 1) t ↔ RuleS rs ws A i j s (rulesOf rs A rs.length).length t := by
  rw [ruleD_all]
  constructor
  · rintro ⟨p, h1, h2, h3, r, h4, rfl⟩
    obtain ⟨l, hl, e⟩ := rulesOf_has h2 h3
    exact ⟨l, p, hl, hl, e, r, h4, rfl⟩
  · rintro ⟨l', q, h1, h2, h3, r, h4, rfl⟩
    obtain ⟨q', e, h5, h6, _⟩ := rulesOf_at h2
    rw [h3] at e
    have e := Int.natCast_inj.1 e
    subst e
    exact ⟨q, h5, h5, h6, r, h4, rfl⟩
theorem ruleS_none {rs : List RuleL} {ws : List Int} {A i j s : Nat} {t : List Int} : ¬ RuleS rs ws A i j s 0 t := by
  rintro ⟨l', q, h1, _⟩
  omega
theorem ruleS_step {rs : List RuleL} {ws : List Int} {A i j s l q : Nat} {t : List Int} (hl : l < (rulesOf rs A rs.length).length) (hq : (rulesOf rs A rs.length).getD l 0 = (q : Int)) : RuleS rs ws A i j s (l + 1) t ↔ RuleS rs ws A i j s l t ∨ ∃ r, Der rs ws (.inr (rul rs q).2) i j s r ∧ t = (q : Int) :: r := by
  constructor
  · rintro ⟨l', q', h1, h2, h3, r, h4, rfl⟩
    by_cases e : l' = l
    · subst e
      rw [hq] at h3
      have e := Int.natCast_inj.1 h3
      subst e
      exact .inr ⟨r, h4, rfl⟩
    · exact .inl ⟨l', q', by omega, h2, h3, r, h4, rfl⟩
  · rintro (⟨l', q', h1, h2, h3, r, h4, rfl⟩ | ⟨r, h4, rfl⟩)
    · exact ⟨l', q', by omega, h2, h3, r, h4, rfl⟩
    · exact ⟨l, q, by omega, hl, hq, r, h4, rfl⟩
theorem ruleS_lt {rs : List RuleL} {ws : List Int} {A i j s l q : Nat} {x y r : List Int} (hl : l < (rulesOf rs A rs.length).length) (hq : (rulesOf rs A rs.length).getD l 0 = (q : Int)) (hx : RuleS rs ws A i j s l x) (hy : y = (q : Int) :: r) : ltL x y := by
  obtain ⟨l', q', h1, h2, h3, r', _, rfl⟩ := hx
  subst hy
  have := rulesOf_lt h1 hl
  rw [h3, hq] at this
  exact ltL_cons.2 (.inl this)
/-- Enough of them. -/
theorem ruleS_full {rs : List RuleL} {ws : List Int} {A i j s l M : Nat} {ls : List (List Int)} (h : Firsts M (RuleS rs ws A i j s l) ls) (hM : ls.length = M) : Firsts M (Der rs ws (.inl A) i j (s + 1)) ls := by
  refine h.more (fun x hx => ?_) fun x hx => ?_
  · rw [ruleS_all]
    obtain ⟨l', q', h1, h2, h3⟩ := hx
    exact ⟨l', q', h2, h2, h3⟩
  · rw [ruleS_all] at hx
    obtain ⟨l', q', h1, h2, h3, r, h4, rfl⟩ := hx
    by_cases hl : l' < l
    · exact .inl ⟨l', q', hl, h2, h3, r, h4, rfl⟩
    · refine .inr ⟨ls, h.rise, hM, fun y hy => ⟨h.mem y hy, ?_⟩⟩
      obtain ⟨l2, q2, g1, g2, g3, r2, _, rfl⟩ := h.mem y hy
      have := rulesOf_lt (a := l2) (b := l') (by omega) h2
      rw [g3, h3] at this
      exact ltL_cons.2 (.inl this)
theorem sub_own {w : World} {B e n c sz : Nat} {X : Option Addr} {cells : List Value} (h : Row w B e sz X n c cells) : sub X 0 c 1 = X := by
  unfold Sh.sub
  split
  · rfl
  · rcases h.at_ with ⟨rfl, _⟩ | ⟨g, rfl, _⟩
    · rfl
    · simp [add_plain]
theorem OwnSS.cut {e1 e2 : Nat} {w : World} {B c m : Nat} {X : Option Addr} {ls : List (List Int)} {ps : Nat → Option Addr × Nat} (h : OwnSS e1 e2 w B X c ls ps) (hm : m ≤ ls.length) : OwnSS e1 e2 w B X c (ls.take m) ps := by
  obtain ⟨⟨cells, hr, hc⟩, ho, ht⟩ := h
  have hl : (ls.take m).length = m := by rw [List.length_take]; omega
  refine ⟨⟨cells.take m, ?_, fun j hj => ?_⟩, fun j hj => ?_, fun a b ha hb hab => ?_⟩
  · rw [hl]
    exact hr.cut hm
  · rw [hl] at hj
    rw [List.getElem?_take, if_pos hj, rgt_take hj]
    exact hc j (by omega)
  · rw [hl] at hj
    rw [rgt_take hj]
    exact ho j (by omega)
  · rw [hl] at ha hb
    exact ht a b (by omega) (by omega) hab
theorem OwnSS.sub0 {e1 e2 : Nat} {w : World} {B c : Nat} {X : Option Addr} {ls : List (List Int)} {ps : Nat → Option Addr × Nat} (h : OwnSS e1 e2 w B X c ls ps) : sub X 0 c 1 = X := by
  obtain ⟨⟨cells, hr, hc⟩, ho, ht⟩ := h
  exact sub_own hr
theorem OwnSS.cap {e1 e2 : Nat} {w : World} {B c : Nat} {X : Option Addr} {ls : List (List Int)} {ps : Nat → Option Addr × Nat} (h : OwnSS e1 e2 w B X c ls ps) : ls.length ≤ c := by
  obtain ⟨⟨cells, hr, hc⟩, ho, ht⟩ := h
  exact (Row.cap hr).1
end Go.Sh
namespace Go.Proofs.Ytiohaeckagjebaa
open Go Go.Sh Go.RowKit
section
variable {gm : Gram} {ws : List Int} {m nons bc cy cx cu : Nat} {Y X U : Option Addr}
set_option maxHeartbeats 6400000 in
theorem l11Trees_of (hg : goodG gm = true) (hl : ws.length ≤ 10) (hw : ∀ t ∈ ws, 0 ≤ t ∧ t ≤ 100) (hnn : gm.nons = (nons : Nat)) (hm : m ≤ 12) {N : Nat} (hNm : N ≤ m)
    (hRow : ∀ (xs : List Int) {w : World} {R : Option Addr} {cr i j s M : Nat} {k : Value → World → Prop}, EnvT gm ws m nons bc Y cy X cx U cu w → Ints w R xs → xs.length ≤ cr → xs.length ≤ 4 → (∀ x ∈ xs, -100 ≤ x ∧ x < nons) → i ≤ j → j ≤ ws.length → s + 1 ≤ N → 0 < M → M ≤ 60 → (∀ w' X' c' ls, Gr w w' → IssF (fun b => w.heap.size ≤ b) w' X' ls → ls.length ≤ c' → Firsts M (Der gm.rules ws (.inr xs) i j s) ls → k (.slice X' ls.length c') w') →
      CallK Try.prog 189 [ptrv bc, .slice R xs.length cr, .int .i64 i, .int .i64 j, .int .i64 s, .int .i64 (M : Int)] k w)
    {w : World} {A i j s M : Nat} {k : Value → World → Prop} (hE : EnvT gm ws m nons bc Y cy X cx U cu w) (hsN : s ≤ N) (hA : A < nons) (hij : i ≤ j) (hj : j ≤ ws.length) (hM : 0 < M) (hM60 : M ≤ 60) (hk : ∀ w' X' c' ls ps, Gr w w' → OwnSS 22 3 w' w.heap.size X' c' ls ps → Firsts M (Der gm.rules ws (.inl A) i j s) ls → k (.slice X' ls.length c') w') :
      CallK Try.prog 168 [ptrv bc, .int .i64 A, .int .i64 i, .int .i64 j, .int .i64 s, .int .i64 (M : Int)] k w := by
  have hn6 := good_nons hg
  have hr16 := good_len hg
  refine enter168 ?_
  unfold S168
  have E := hE.gr (gr_drew w)
  simp only [bin_add, bin_sub, bin_mul, bin_eql, bin_neq, bin_lss, bin_leq, bin_gtr, bin_geq, un_not, un_neg, pick_true, pick_false, extract_two_0, extract_two_1, nilCheck_pointer, cond_true', cond_false', guard_tt, guard_ff, guard_tf, guard_ft, guard_undef, seqQ_normal, seqQ_ret, seqQ_exit, blockQ_ret, blockQ_normal, blockQ_exit, bodyQ_ret, bodyQ_normal, resK_nil, resK_tmp, ite_T, ite_F, upd_at, add_plain, add_zero', len22, len35, len48, fa37_0, fa37_1, fa37_2, fa77_0, fa77_1, fa103_0, fa103_1, fa111_0, fa111_1, fa143_0, fa143_1, fa143_2, fa143_3, fa175_0, fa175_1, fa175_2, fa125_0, fa125_1, fa125_2, fa125_3, fa125_4, Nat.reduceEqDiff]
  refine rdi (ldB126 E.box rfl) ?_
  obtain ⟨U1, c1, h1, h2, h3⟩ := E.tab.row A hA
  obtain ⟨U2, c2, h4, h5, h6⟩ := h3 i j (by omega) (by omega)
  have hab := place_lt (n := ws.length + 1) (show i < ws.length + 1 by omega) (show j < ws.length + 1 by omega)
  have hnn' : (ws.length + 1) * (ws.length + 1) ≤ 11 * 11 := Nat.mul_le_mul (by omega) (by omega)
  refine rdi (ixn126 (fun h => E.tab.ptr h) hA) (rdi (ld48 h1) (rdi (ldB22 E.box rfl) ?_))
  simp only [bin_add, bin_sub, bin_mul, bin_eql, bin_neq, bin_lss, bin_leq, bin_gtr, bin_geq, un_not, un_neg, pick_true, pick_false, extract_two_0, extract_two_1, nilCheck_pointer, cond_true', cond_false', guard_tt, guard_ff, guard_tf, guard_ft, guard_undef, seqQ_normal, seqQ_ret, seqQ_exit, blockQ_ret, blockQ_normal, blockQ_exit, bodyQ_ret, bodyQ_normal, resK_nil, resK_tmp, ite_T, ite_F, upd_at, add_plain, add_zero', len22, len35, len48, fa37_0, fa37_1, fa37_2, fa77_0, fa77_1, fa103_0, fa103_1, fa111_0, fa111_1, fa143_0, fa143_1, fa143_2, fa143_3, fa175_0, fa175_1, fa175_2, fa125_0, fa125_1, fa125_2, fa125_3, fa125_4, Nat.reduceEqDiff]
  rw [i64_of (n := (ws.length : Int) + 1) (by omega) (by omega), show (i : Int) * ((ws.length : Int) + 1) = ((i * (ws.length + 1) : Nat) : Int) from by push_cast; rfl, i64_of (n := ((i * (ws.length + 1) : Nat) : Int)) (by omega) (by omega), i64_of (n := ((i * (ws.length + 1) : Nat) : Int) + (j : Int)) (by omega) (by omega)]
  rw [show (((i * (ws.length + 1) : Nat) : Int) + (j : Int)) = ((i * (ws.length + 1) + j : Nat) : Int) from by push_cast; rfl]
  refine rdi (ixn48 (fun _ => h2) hab) (rdi (ld22 h4) ?_)
  refine rdi (ixn22 (fun _ => h5) (by omega)) (rdi (ld3 (h6 s (by omega))) ?_)
  simp only [bin_add, bin_sub, bin_mul, bin_eql, bin_neq, bin_lss, bin_leq, bin_gtr, bin_geq, un_not, un_neg, pick_true, pick_false, extract_two_0, extract_two_1, nilCheck_pointer, cond_true', cond_false', guard_tt, guard_ff, guard_tf, guard_ft, guard_undef, seqQ_normal, seqQ_ret, seqQ_exit, blockQ_ret, blockQ_normal, blockQ_exit, bodyQ_ret, bodyQ_normal, resK_nil, resK_tmp, ite_T, ite_F, upd_at, add_plain, add_zero', len22, len35, len48, fa37_0, fa37_1, fa37_2, fa77_0, fa77_1, fa103_0, fa103_1, fa111_0, fa111_1, fa143_0, fa143_1, fa143_2, fa143_3, fa175_0, fa175_1, fa175_2, fa125_0, fa125_1, fa125_2, fa125_3, fa125_4, Nat.reduceEqDiff]
  by_cases h0 : min capM (cntC gm.rules ws A i j s) = 0
  · simp only [show ((min capM (cntC gm.rules ws A i j s) : Nat) : Int) = 0 from by omega, decide_true, bin_add, bin_sub, bin_mul, bin_eql, bin_neq, bin_lss, bin_leq, bin_gtr, bin_geq, un_not, un_neg, pick_true, pick_false, extract_two_0, extract_two_1, nilCheck_pointer, cond_true', cond_false', guard_tt, guard_ff, guard_tf, guard_ft, guard_undef, seqQ_normal, seqQ_ret, seqQ_exit, blockQ_ret, blockQ_normal, blockQ_exit, bodyQ_ret, bodyQ_normal, resK_nil, resK_tmp, ite_T, ite_F, upd_at, add_plain, add_zero', len22, len35, len48, fa37_0, fa37_1, fa37_2, fa77_0, fa77_1, fa103_0, fa103_1, fa111_0, fa111_1, fa143_0, fa143_1, fa143_2, fa143_3, fa175_0, fa175_1, fa175_2, fa125_0, fa125_1, fa125_2, fa125_3, fa125_4, Nat.reduceEqDiff]
    refine hk _ none 0 [] (fun _ => (none, 0)) (gr_drew w) (OwnSS.nil _ _ _ _ _) (Firsts.nil _ fun t ht => ?_)
    have := der_posC ht
    unfold capM at h0
    omega
  simp only [show ¬ (((min capM (cntC gm.rules ws A i j s) : Nat) : Int) = 0) from by omega, decide_false, bin_add, bin_sub, bin_mul, bin_eql, bin_neq, bin_lss, bin_leq, bin_gtr, bin_geq, un_not, un_neg, pick_true, pick_false, extract_two_0, extract_two_1, nilCheck_pointer, cond_true', cond_false', guard_tt, guard_ff, guard_tf, guard_ft, guard_undef, seqQ_normal, seqQ_ret, seqQ_exit, blockQ_ret, blockQ_normal, blockQ_exit, bodyQ_ret, bodyQ_normal, resK_nil, resK_tmp, ite_T, ite_F, upd_at, add_plain, add_zero', len22, len35, len48, fa37_0, fa37_1, fa37_2, fa77_0, fa77_1, fa103_0, fa103_1, fa111_0, fa111_1, fa143_0, fa143_1, fa143_2, fa143_3, fa175_0, fa175_1, fa175_2, fa125_0, fa125_1, fa125_2, fa125_3, fa125_4, Nat.reduceEqDiff]
  obtain ⟨s, rfl⟩ : ∃ s', s = s' + 1 := ⟨s - 1, by
    have : s ≠ 0 := by
      rintro rfl
      rw [cntC_zero] at h0
      exact h0 (Nat.min_zero _)
    omega⟩
  clear h0
  rw [ld_agg agg37 sz37 (cs := [.int .i64 gm.nons, .int .i64 gm.toks, .slice Y gm.rules.length cy]) rfl (fun j hj => by
    have := E.box.cell j
    rw [add_plain]
    rw [Nat.zero_add]
    rw [this]
    simp at hj
    match j, hj with
    | 0, _ => rfl
    | 1, _ => rfl
    | 2, _ => rfl)]
  refine l1Rules_c (gm := gm) (F := fun _ => True) ⟨Y, cy, rfl, E.hc, E.hy⟩ hg fun w2 UL dL g2 oL => ?_
  have hLl := rulesOf_len gm.rules A gm.rules.length
  simp only [bin_add, bin_sub, bin_mul, bin_eql, bin_neq, bin_lss, bin_leq, bin_gtr, bin_geq, un_not, un_neg, pick_true, pick_false, extract_two_0, extract_two_1, nilCheck_pointer, cond_true', cond_false', guard_tt, guard_ff, guard_tf, guard_ft, guard_undef, seqQ_normal, seqQ_ret, seqQ_exit, blockQ_ret, blockQ_normal, blockQ_exit, bodyQ_ret, bodyQ_normal, resK_nil, resK_tmp, ite_T, ite_F, upd_at, add_plain, add_zero', len22, len35, len48, fa37_0, fa37_1, fa37_2, fa77_0, fa77_1, fa103_0, fa103_1, fa111_0, fa111_1, fa143_0, fa143_1, fa143_2, fa143_3, fa175_0, fa175_1, fa175_2, fa125_0, fa125_1, fa125_2, fa125_3, fa125_4, Nat.reduceEqDiff]
  have H := (((Apt.nil w).step (gr_drew w)).addOwn g2 oL).addLss (Gr.refl w2) (OwnSS.nil w2 w2.heap.size 22 3 fun _ => (none, 0))
  simp only [List.nil_append, List.cons_append] at H
  refine loop_to (rulesOf gm.rules A gm.rules.length).length 0 (fun l f w' => l ≤ (rulesOf gm.rules A gm.rules.length).length ∧ f 48 = .int .i64 l ∧ ∃ X' c' ps, ∃ ls : List (List Int), f 13 = .slice X' ls.length c' ∧ Apt w w' [ows UL dL (rulesOf gm.rules A gm.rules.length), lss X' c' ls ps] ∧ Firsts M (RuleS gm.rules ws A i j s l) ls ∧ ls.length < M)
    ⟨Nat.zero_le _, rfl, none, 0, _, [], rfl, H, Firsts.nil _ fun t => ruleS_none, hM⟩ ?_
  clear H
  rintro l f w3 NN hag ⟨hll, h48, X1, c1, ps, ls, h13, H, hF, hlM⟩ hN
  have f0 : f 0 = ptrv bc := hag 0 (by decide)
  have f2 : f 2 = .int .i64 i := hag 2 (by decide)
  have f3 : f 3 = .int .i64 j := hag 3 (by decide)
  have f4 : f 4 = .int .i64 ((s + 1 : Nat) : Int) := hag 4 (by decide)
  have f5 : f 5 = .int .i64 (M : Int) := hag 5 (by decide)
  have f46 : f 46 = .slice UL (rulesOf gm.rules A gm.rules.length).length dL := hag 46 (by decide)
  have f47 : f 47 = .int .i64 (rulesOf gm.rules A gm.rules.length).length := hag 47 (by decide)
  simp only [f0, f2, f3, f4, f5, f46, f47, h48, h13, bin_add, bin_sub, bin_mul, bin_eql, bin_neq, bin_lss, bin_leq, bin_gtr, bin_geq, un_not, un_neg, pick_true, pick_false, extract_two_0, extract_two_1, nilCheck_pointer, cond_true', cond_false', guard_tt, guard_ff, guard_tf, guard_ft, guard_undef, seqQ_normal, seqQ_ret, seqQ_exit, blockQ_ret, blockQ_normal, blockQ_exit, bodyQ_ret, bodyQ_normal, resK_nil, resK_tmp, ite_T, ite_F, upd_at, add_plain, add_zero', len22, len35, len48, fa37_0, fa37_1, fa37_2, fa77_0, fa77_1, fa103_0, fa103_1, fa111_0, fa111_1, fa143_0, fa143_1, fa143_2, fa143_3, fa175_0, fa175_1, fa175_2, fa125_0, fa125_1, fa125_2, fa125_3, fa125_4, Nat.reduceEqDiff]
  by_cases hlt : l < (rulesOf gm.rules A gm.rules.length).length
  case neg =>
    simp only [show ¬ ((l : Int) < (rulesOf gm.rules A gm.rules.length).length) from by omega, decide_false, bin_add, bin_sub, bin_mul, bin_eql, bin_neq, bin_lss, bin_leq, bin_gtr, bin_geq, un_not, un_neg, pick_true, pick_false, extract_two_0, extract_two_1, nilCheck_pointer, cond_true', cond_false', guard_tt, guard_ff, guard_tf, guard_ft, guard_undef, seqQ_normal, seqQ_ret, seqQ_exit, blockQ_ret, blockQ_normal, blockQ_exit, bodyQ_ret, bodyQ_normal, resK_nil, resK_tmp, ite_T, ite_F, upd_at, add_plain, add_zero', len22, len35, len48, fa37_0, fa37_1, fa37_2, fa77_0, fa77_1, fa103_0, fa103_1, fa111_0, fa111_1, fa143_0, fa143_1, fa143_2, fa143_3, fa175_0, fa175_1, fa175_2, fa125_0, fa125_1, fa125_2, fa125_3, fa125_4, Nat.reduceEqDiff]
    obtain rfl : l = (rulesOf gm.rules A gm.rules.length).length := by omega
    exact hk _ X1 c1 ls ps H.gr (H.lssi 1 rfl) (hF.congr fun t => ruleS_all)
  simp only [show ((l : Int) < (rulesOf gm.rules A gm.rules.length).length) from by omega, decide_true, bin_add, bin_sub, bin_mul, bin_eql, bin_neq, bin_lss, bin_leq, bin_gtr, bin_geq, un_not, un_neg, pick_true, pick_false, extract_two_0, extract_two_1, nilCheck_pointer, cond_true', cond_false', guard_tt, guard_ff, guard_tf, guard_ft, guard_undef, seqQ_normal, seqQ_ret, seqQ_exit, blockQ_ret, blockQ_normal, blockQ_exit, bodyQ_ret, bodyQ_normal, resK_nil, resK_tmp, ite_T, ite_F, upd_at, add_plain, add_zero', len22, len35, len48, fa37_0, fa37_1, fa37_2, fa77_0, fa77_1, fa103_0, fa103_1, fa111_0, fa111_1, fa143_0, fa143_1, fa143_2, fa143_3, fa175_0, fa175_1, fa175_2, fa125_0, fa125_1, fa125_2, fa125_3, fa125_4, Nat.reduceEqDiff]
  obtain ⟨q, hqv, hlq, hqA, hqf⟩ := rulesOf_at hlt
  have hLi := H.ints 0 rfl
  have hcl := hLi.cell l hlt
  rw [hqv] at hcl
  refine rdi (ixn22 hLi.ptr hlt) (rdi (ld3 hcl) ?_)
  have E3 := hE.gr H.gr
  rw [ldB35 E3.box rfl]
  obtain ⟨Z, cz, t1, t2, t3, t4⟩ := E3.hy.row q hlq
  have hright := good_right hg hlq
  have hR4 := good_rule hg q hlq
  refine rdi (ixn35 E3.hy.ptr hlq) ?_
  rw [fa77_1, add_add]
  refine rdi (ld22 t2) ?_
  have hrr : ∀ x ∈ (rul gm.rules q).2, -100 ≤ x ∧ x < nons := fun x hx => by have := hright x hx; omega
  rw [i64_of (by omega) (by omega), i64_of (by omega) (by omega), show (((s + 1 : Nat) : Int) - 1) = (s : Int) from by omega, show (M : Int) - (ls.length : Int) = ((M - ls.length : Nat) : Int) from by omega]
  refine hRow _ E3 t4.is t3 hR4 hrr hij hj hsN (by omega) (by omega) fun w4 Xr cr rl g4 hr4 hrc hrF => ?_
  have hrl := hrF.len
  simp only [bin_add, bin_sub, bin_mul, bin_eql, bin_neq, bin_lss, bin_leq, bin_gtr, bin_geq, un_not, un_neg, pick_true, pick_false, extract_two_0, extract_two_1, nilCheck_pointer, cond_true', cond_false', guard_tt, guard_ff, guard_tf, guard_ft, guard_undef, seqQ_normal, seqQ_ret, seqQ_exit, blockQ_ret, blockQ_normal, blockQ_exit, bodyQ_ret, bodyQ_normal, resK_nil, resK_tmp, ite_T, ite_F, upd_at, add_plain, add_zero', len22, len35, len48, fa37_0, fa37_1, fa37_2, fa77_0, fa77_1, fa103_0, fa103_1, fa111_0, fa111_1, fa143_0, fa143_1, fa143_2, fa143_3, fa175_0, fa175_1, fa175_2, fa125_0, fa125_1, fa125_2, fa125_3, fa125_4, Nat.reduceEqDiff]
  have H := H.addRdy g4 hr4
  simp only [List.nil_append, List.cons_append] at H
  refine loop_to rl.length 0 (fun a f w' => a ≤ rl.length ∧ f 72 = .int .i64 a ∧ f 48 = .int .i64 l ∧ ∃ X' c' ps, f 13 = .slice X' (ls ++ (rl.take a).map ((q : Int) :: ·)).length c' ∧ Apt w w' [ows UL dL (rulesOf gm.rules A gm.rules.length), lss X' c' (ls ++ (rl.take a).map ((q : Int) :: ·)) ps, rdy w3.heap.size w4.heap.size Xr rl])
    ⟨Nat.zero_le _, rfl, h48, X1, c1, ps, by simp only [List.take_zero, List.map_nil, List.append_nil]; exact h13, by simp only [List.take_zero, List.map_nil, List.append_nil]; exact H⟩ ?_
  clear H
  rintro a g w5 N2 hag2 ⟨ha, a72, a48, X2, c2, ps2, a13, H⟩ hN2
  have a5 : g 5 = .int .i64 (M : Int) := (hag2 5 (by decide)).trans f5
  have a71 : g 71 = .int .i64 rl.length := hag2 71 (by decide)
  have a70 : g 70 = .slice Xr rl.length cr := hag2 70 (by decide)
  have a15 : g 15 = .int .i64 (q : Int) := hag2 15 (by decide)
  simp only [a71, a72, bin_add, bin_sub, bin_mul, bin_eql, bin_neq, bin_lss, bin_leq, bin_gtr, bin_geq, un_not, un_neg, pick_true, pick_false, extract_two_0, extract_two_1, nilCheck_pointer, cond_true', cond_false', guard_tt, guard_ff, guard_tf, guard_ft, guard_undef, seqQ_normal, seqQ_ret, seqQ_exit, blockQ_ret, blockQ_normal, blockQ_exit, bodyQ_ret, bodyQ_normal, resK_nil, resK_tmp, ite_T, ite_F, upd_at, add_plain, add_zero', len22, len35, len48, fa37_0, fa37_1, fa37_2, fa77_0, fa77_1, fa103_0, fa103_1, fa111_0, fa111_1, fa143_0, fa143_1, fa143_2, fa143_3, fa175_0, fa175_1, fa175_2, fa125_0, fa125_1, fa125_2, fa125_3, fa125_4, Nat.reduceEqDiff]
  by_cases hal : a < rl.length
  case neg =>
    simp only [show ¬ ((a : Int) < rl.length) from by omega, decide_false, bin_add, bin_sub, bin_mul, bin_eql, bin_neq, bin_lss, bin_leq, bin_gtr, bin_geq, un_not, un_neg, pick_true, pick_false, extract_two_0, extract_two_1, nilCheck_pointer, cond_true', cond_false', guard_tt, guard_ff, guard_tf, guard_ft, guard_undef, seqQ_normal, seqQ_ret, seqQ_exit, blockQ_ret, blockQ_normal, blockQ_exit, bodyQ_ret, bodyQ_normal, resK_nil, resK_tmp, ite_T, ite_F, upd_at, add_plain, add_zero', len22, len35, len48, fa37_0, fa37_1, fa37_2, fa77_0, fa77_1, fa103_0, fa103_1, fa111_0, fa111_1, fa143_0, fa143_1, fa143_2, fa143_3, fa175_0, fa175_1, fa175_2, fa125_0, fa125_1, fa125_2, fa125_3, fa125_4, Nat.reduceEqDiff]
    obtain rfl : a = rl.length := by omega
    rw [List.take_of_length_le (Nat.le_refl _)] at a13 H
    simp only [a13, a5, a48, bin_add, bin_sub, bin_mul, bin_eql, bin_neq, bin_lss, bin_leq, bin_gtr, bin_geq, un_not, un_neg, pick_true, pick_false, extract_two_0, extract_two_1, nilCheck_pointer, cond_true', cond_false', guard_tt, guard_ff, guard_tf, guard_ft, guard_undef, seqQ_normal, seqQ_ret, seqQ_exit, blockQ_ret, blockQ_normal, blockQ_exit, bodyQ_ret, bodyQ_normal, resK_nil, resK_tmp, ite_T, ite_F, upd_at, add_plain, add_zero', len22, len35, len48, fa37_0, fa37_1, fa37_2, fa77_0, fa77_1, fa103_0, fa103_1, fa111_0, fa111_1, fa143_0, fa143_1, fa143_2, fa143_3, fa175_0, fa175_1, fa175_2, fa125_0, fa125_1, fa125_2, fa125_3, fa125_4, Nat.reduceEqDiff]
    have hF2 : Firsts M (RuleS gm.rules ws A i j s (l + 1)) (ls ++ rl.map ((q : Int) :: ·)) := by
      refine (hF.append (hrF.map q) fun x y hx hy => ?_).congr fun t => ?_
      · obtain ⟨r, _, rfl⟩ := hy
        exact ruleS_lt hlt hqv hx rfl
      · exact ruleS_step hlt hqv
    have hl2 := hF2.len
    generalize hLS : ls ++ rl.map ((q : Int) :: ·) = LS at *
    by_cases hfull : LS.length = M
    · simp only [show (M : Int) ≤ (LS.length : Int) from by omega, decide_true, bin_add, bin_sub, bin_mul, bin_eql, bin_neq, bin_lss, bin_leq, bin_gtr, bin_geq, un_not, un_neg, pick_true, pick_false, extract_two_0, extract_two_1, nilCheck_pointer, cond_true', cond_false', guard_tt, guard_ff, guard_tf, guard_ft, guard_undef, seqQ_normal, seqQ_ret, seqQ_exit, blockQ_ret, blockQ_normal, blockQ_exit, bodyQ_ret, bodyQ_normal, resK_nil, resK_tmp, ite_T, ite_F, upd_at, add_plain, add_zero', len22, len35, len48, fa37_0, fa37_1, fa37_2, fa77_0, fa77_1, fa103_0, fa103_1, fa111_0, fa111_1, fa143_0, fa143_1, fa143_2, fa143_3, fa175_0, fa175_1, fa175_2, fa125_0, fa125_1, fa125_2, fa125_3, fa125_4, Nat.reduceEqDiff]
      have o := H.lssi 1 rfl
      refine rdi (slh48 (by omega) (by have := o.cap; omega)) ?_
      rw [o.sub0, show ((M : Nat) : Int).toNat = LS.length from by omega]
      exact hk _ X2 c2 LS ps2 H.gr o (ruleS_full hF2 hfull)
    · simp only [show ¬ ((M : Int) ≤ (LS.length : Int)) from by omega, decide_false, bin_add, bin_sub, bin_mul, bin_eql, bin_neq, bin_lss, bin_leq, bin_gtr, bin_geq, un_not, un_neg, pick_true, pick_false, extract_two_0, extract_two_1, nilCheck_pointer, cond_true', cond_false', guard_tt, guard_ff, guard_tf, guard_ft, guard_undef, seqQ_normal, seqQ_ret, seqQ_exit, blockQ_ret, blockQ_normal, blockQ_exit, bodyQ_ret, bodyQ_normal, resK_nil, resK_tmp, ite_T, ite_F, upd_at, add_plain, add_zero', len22, len35, len48, fa37_0, fa37_1, fa37_2, fa77_0, fa77_1, fa103_0, fa103_1, fa111_0, fa111_1, fa143_0, fa143_1, fa143_2, fa143_3, fa175_0, fa175_1, fa175_2, fa125_0, fa125_1, fa125_2, fa125_3, fa125_4, Nat.reduceEqDiff]
      rw [i64_of (by omega) (by omega)]
      exact hN _ _ hlt ⟨hlt, rfl, X2, c2, ps2, LS, a13, H.take 2, hF2, by omega⟩
  simp only [show ((a : Int) < rl.length) from by omega, decide_true, bin_add, bin_sub, bin_mul, bin_eql, bin_neq, bin_lss, bin_leq, bin_gtr, bin_geq, un_not, un_neg, pick_true, pick_false, extract_two_0, extract_two_1, nilCheck_pointer, cond_true', cond_false', guard_tt, guard_ff, guard_tf, guard_ft, guard_undef, seqQ_normal, seqQ_ret, seqQ_exit, blockQ_ret, blockQ_normal, blockQ_exit, bodyQ_ret, bodyQ_normal, resK_nil, resK_tmp, ite_T, ite_F, upd_at, add_plain, add_zero', len22, len35, len48, fa37_0, fa37_1, fa37_2, fa77_0, fa77_1, fa103_0, fa103_1, fa111_0, fa111_1, fa143_0, fa143_1, fa143_2, fa143_3, fa175_0, fa175_1, fa175_2, fa125_0, fa125_1, fa125_2, fa125_3, fa125_4, Nat.reduceEqDiff]
  simp only [a70, a15, a13, bin_add, bin_sub, bin_mul, bin_eql, bin_neq, bin_lss, bin_leq, bin_gtr, bin_geq, un_not, un_neg, pick_true, pick_false, extract_two_0, extract_two_1, nilCheck_pointer, cond_true', cond_false', guard_tt, guard_ff, guard_tf, guard_ft, guard_undef, seqQ_normal, seqQ_ret, seqQ_exit, blockQ_ret, blockQ_normal, blockQ_exit, bodyQ_ret, bodyQ_normal, resK_nil, resK_tmp, ite_T, ite_F, upd_at, add_plain, add_zero', len22, len35, len48, fa37_0, fa37_1, fa37_2, fa77_0, fa77_1, fa103_0, fa103_1, fa111_0, fa111_1, fa143_0, fa143_1, fa143_2, fa143_3, fa175_0, fa175_1, fa175_2, fa125_0, fa125_1, fa125_2, fa125_3, fa125_4, Nat.reduceEqDiff]
  obtain ⟨Zb, cb, tb1, tb2, tb3⟩ := (H.rdy 2 rfl).row a hal
  have hbl : (rgt rl a).length = s := der_len (hrF.mem _ (rgt_mem hal))
  refine rdi (ixn48 hr4.ptr hal) (rdi (ld22 tb1) ?_)
  have hll2 : (ls ++ (rl.take a).map ((q : Int) :: ·)).length ≤ 200 := by
    rw [List.length_append, List.length_map, List.length_take]
    omega
  refine do_build_of u22 inf3 (cells := [.int .i64 (q : Int)]) (by decide) (by decide) (by simp [Instr.fill, madeCells, Value.cells, rng1]) rfl fun b1 w6 hb1 hb2 g6 hB6 hr6 => ?_
  have H6 := H.addOwn (xs := [(q : Int)]) g6 (hr6 _ (Nat.le_refl _))
  simp only [List.nil_append, List.cons_append] at H6
  refine apH H6 3 rfl (tb3.is.gr g6) rfl rfl (by simp; omega) fun X7 c7 w7 H7 => ?_
  simp only [List.set_cons_zero, List.set_cons_succ] at H7
  refine pushSSH H7 1 3 (by decide) rfl rfl rfl rfl (by omega) fun t8 X8 c8 w8 ps8 H8 => ?_
  simp only [List.set_cons_zero, List.set_cons_succ] at H8
  have H8 := H8.take 3
  simp only [List.take_succ_cons, List.take_zero] at H8
  rw [i64_of (by omega) (by omega)]
  have e : ls ++ (rl.take (a + 1)).map ((q : Int) :: ·) = ls ++ (rl.take a).map ((q : Int) :: ·) ++ [[(q : Int)] ++ rgt rl a] := by
    rw [take_snoc_rgt hal, List.map_append, List.append_assoc]
    rfl
  refine hN2 _ _ hal ⟨hal, rfl, a48, X8, c8, ps8, ?_, ?_⟩
  · rw [e]
    rfl
  · rw [e]
    exact H8
end
end Go.Proofs.Ytiohaeckagjebaa

/- A map as memory, among things that lie apart: every entry is right. -/
set_option linter.unusedVariables false
set_option linter.unusedSimpArgs false
set_option maxRecDepth 100000
namespace Go.Sh
open Go Go.WideMaps
/-- A map's block; every entry is right. -/
def mpi (Good : Value → Value → Prop) (b : Nat) : Thing := ⟨fun w => ∃ es clock, w.heap[b]? = some (.map es clock) ∧ ∀ e ∈ es.toList, Good e.key e.val, fun q => q = b⟩
section
variable {P : Program} {k : Value → World → Prop} {w0 w : World} {L : List Thing} {Good : Value → Value → Prop}
end
end Go.Sh
namespace Go.Proofs.Ytiohaeckagjebaa
open Go Go.Sh Go.RowKit Go.WideMaps
theorem arr186 : ArrKey Try.prog 186 3 5 := ⟨by kernel_rfl, by kernel_rfl, by kernel_rfl, by kernel_rfl⟩
theorem wf64 {n : Int} (h : -9223372036854775808 ≤ n ∧ n ≤ 9223372036854775807) : (Lit.int .i64 n).wf = true := by
  simp [Lit.wf, show IntKind.i64.min = -9223372036854775808 from rfl, show IntKind.i64.max = 9223372036854775807 from rfl]
  omega
theorem formed186 (a b c d e : Int) : (Value.agg #[.int .i64 a, .int .i64 b, .int .i64 c, .int .i64 d, .int .i64 e]).formed Try.prog 186 = true := by
  kernel_rfl
theorem lits186 {a b c d e : Int} (ha : (Lit.int .i64 a).wf = true) (hb : (Lit.int .i64 b).wf = true) (hc : (Lit.int .i64 c).wf = true) (hd : (Lit.int .i64 d).wf = true) (he : (Lit.int .i64 e).wf = true) (m : Nat) :
    Program.keyLits Try.prog (m + 2) 186 [.int .i64 a, .int .i64 b, .int .i64 c, .int .i64 d, .int .i64 e] = some [.int .i64 a, .int .i64 b, .int .i64 c, .int .i64 d, .int .i64 e] := by
  have h1 : ∀ {x : Int}, (Lit.int .i64 x).wf = true → Program.keyLits Try.prog (m + 1) 3 [.int .i64 x] = some [.int .i64 x] := fun hx => by
    simp only [Program.keyLits, Try.underlying3, hx, and_self, if_true]
  have hu : Try.prog.underlying 186 = some (.array 5 3) := by kernel_rfl
  have e1 : Try.prog.cellsOf 3 = 1 := by kernel_rfl
  have e5 : Try.prog.cellsOf 186 = 5 := by kernel_rfl
  have hr : List.range 5 = [0, 1, 2, 3, 4] := by decide
  simp [Program.keyLits, hu, e1, e5, hr, h1 ha, h1 hb, h1 hc, h1 hd, h1 he, ha, hb, hc, hd, he]
theorem key186 {a b c d e : Int} (ha : (Lit.int .i64 a).wf = true) (hb : (Lit.int .i64 b).wf = true) (hc : (Lit.int .i64 c).wf = true) (hd : (Lit.int .i64 d).wf = true) (he : (Lit.int .i64 e).wf = true) :
    ∃ l, keyOf Try.prog 186 (.agg #[.int .i64 a, .int .i64 b, .int .i64 c, .int .i64 d, .int .i64 e]) = some l := by
  have hu : Try.prog.underlying 186 = some (.array 5 3) := by kernel_rfl
  have hk : Try.prog.keyType 186 = true := by kernel_rfl
  obtain ⟨m, hm⟩ : ∃ m, Try.prog.types.size + 1 = m + 2 := ⟨Try.prog.types.size - 1, by kernel_rfl⟩
  refine ⟨.string (keyBytes [.int .i64 a, .int .i64 b, .int .i64 c, .int .i64 d, .int .i64 e]), ?_⟩
  unfold keyOf
  rw [hu]
  dsimp only
  rw [hk, formed186, hm]
  show Option.map _ (Program.keyLits Try.prog (m + 2) 186 [.int .i64 a, .int .i64 b, .int .i64 c, .int .i64 d, .int .i64 e]) = _
  rw [lits186 ha hb hc hd he m]
  rfl
end Go.Proofs.Ytiohaeckagjebaa

/- Contracts: sums and products kept at most one more than is told (the program's plus, times). -/
set_option linter.unusedVariables false
set_option linter.unusedSimpArgs false
set_option maxRecDepth 100000
namespace Go.Proofs.Ytiohaeckagjebaa
open Go Go.Sh Go.RowKit
end Go.Proofs.Ytiohaeckagjebaa

/- Contract: the program's numbers of trees by size (trees, rest). -/
set_option linter.unusedVariables false
set_option linter.unusedSimpArgs false
set_option maxRecDepth 100000
namespace Go.Sh
open Go
def keyV (a b c d : Nat) : Value := .agg #[.int .i64 (a : Int), .int .i64 (b : Int), .int .i64 (c : Int), .int .i64 (d : Int), .int .i64 0]
theorem keyV_inj {a b c d a' b' c' d' : Nat} (h : keyV a b c d = keyV a' b' c' d') : a = a' ∧ b = b' ∧ c = c' ∧ d = d' := by
  simp only [keyV, Value.agg.injEq, Array.mk.injEq, List.cons.injEq, Value.int.injEq, true_and, and_true, Int.natCast_inj] at h
  exact h
/-- What the memory holds. -/
def GoodC (M : Nat) (rs : List RuleL) (ws : List Int) (key v : Value) : Prop :=
  ∃ q p i j s : Nat, q ≤ 16 ∧ p ≤ 4 ∧ i ≤ 10 ∧ j ≤ 10 ∧ s ≤ 20 ∧ key = keyV (q * 5 + p) i j s ∧ v = .int .i64 ((min M (cntR (cntC rs ws) ws ((rul rs q).2.drop p) i j s) : Nat) : Int)
theorem GoodC.get {M : Nat} {rs : List RuleL} {ws : List Int} {q p i j s : Nat} {v : Value} (hp : p ≤ 4) (h : GoodC M rs ws (keyV (q * 5 + p) i j s) v) : v = .int .i64 ((min M (cntR (cntC rs ws) ws ((rul rs q).2.drop p) i j s) : Nat) : Int) := by
  obtain ⟨q', p', i', j', s', h1, h2, h3, h4, h5, h6, rfl⟩ := h
  obtain ⟨e1, rfl, rfl, rfl⟩ := keyV_inj h6
  obtain ⟨rfl, rfl⟩ : q = q' ∧ p = p' := by omega
  rfl
theorem rd_buildA {P : Program} {S : WS} {k : Value → Prop} {t e n sz by' : Nat} {z : Value} {qs : List (Nat × Value)} {cells : Array Value} {m : Nat} (ht : P.underlying t = some (.array n e)) (he : szOf P e m) (H : Inf P t z sz by') (hf : Instr.fill (fun i => some (i * m, m)) z.cells qs = some cells) : Rd P S (sBuild t qs) k = k (.agg cells) := rd_eq fun w _ => by
  obtain ⟨i, hi, hz, _, _⟩ := H
  have e0 : (zeroValue t).run P w = .ok z w := by simp [zeroValue, run_info hi, hz]
  simp only [sBuild, Instr.build, Sem.run_bind, e0, Result.andThen, run_underlying ht, run_size he, hf]
  rfl
end Go.Sh
namespace Go.Proofs.Ytiohaeckagjebaa
open Go Go.Sh Go.RowKit Go.WideMaps
theorem inf186' : Inf Try.prog 186 (.agg #[.int .i64 0, .int .i64 0, .int .i64 0, .int .i64 0, .int .i64 0]) 5 40 := inf_of (by kernel_rfl)
theorem bd186 {S : WS} {k : Value → Prop} {a b c d : Int} : Rd Try.prog S (sBuild 186 [(0, .int .i64 a), (1, .int .i64 b), (2, .int .i64 c), (3, .int .i64 d)]) k = k (.agg #[.int .i64 a, .int .i64 b, .int .i64 c, .int .i64 d, .int .i64 0]) :=
  rd_buildA u186 sz3 inf186' rfl
theorem keyV_key {a b c d : Nat} (ha : a ≤ 1000) (hb : b ≤ 1000) (hc : c ≤ 1000) (hd : d ≤ 1000) : ∃ l, keyOf Try.prog 186 (keyV a b c d) = some l :=
  key186 (wf64 (by omega)) (wf64 (by omega)) (wf64 (by omega)) (wf64 (by omega)) (wf64 (by omega))
end Go.Proofs.Ytiohaeckagjebaa

/- Contract: CountSized of the program. -/
set_option linter.unusedVariables false
set_option linter.unusedSimpArgs false
set_option maxRecDepth 100000
namespace Go.Sh
open Go
section
variable {P : Program} {k : Value → World → Prop} {w0 w : World} {L : List Thing} {Good : Value → Value → Prop}
theorem makeMapHG (H : Apt w0 w L) {t : TypeId} (h : ∀ b w', Gr w w' → Apt w0 w' (L ++ [mpi Good b]) → k (.map (some b)) w') : Do P (sMakeMap t) k w := by
  have e' : (sMakeMap t).run P w = .ok (.value (.map (some w.heap.size))) (w.alloc (.map #[] 0)) := by
    simp only [sMakeMap, Sem.run_bind, run_makeMap_plain]
    rfl
  rw [do_value e']
  refine h _ _ (gr_alloc w _) (H.add (gr_alloc w _) (mpi Good w.heap.size) (fun q hq => by cases hq; exact Nat.le_refl _) (fun q hq => by cases hq; exact (Array.getElem?_eq_some_iff.1 (heap_alloc_new w (.map #[] 0))).1) fun w'' hs => ⟨#[], 0, ?_, fun e he => by simp at he⟩)
  rw [hs _ rfl]
  exact heap_alloc_new w _
theorem boxHG (H : Apt w0 w L) {t : TypeId} {v : Value} (h : ∀ b w', Gr w w' → Apt w0 w' (L ++ [bx b v.cells.toList t]) → k (.pointer (some ⟨b, 0, none⟩)) w') : Do P (sBox t v) k w :=
  do_box fun b w' g hb hB => h b w' g (H.addBox g hb hB)
end
end Go.Sh
namespace Go.Proofs.Ytiohaeckagjebaa
open Go Go.Sh Go.RowKit
end Go.Proofs.Ytiohaeckagjebaa

/- Contract: TreesUpTo of the reference. -/
set_option linter.unusedVariables false
set_option linter.unusedSimpArgs false
set_option maxRecDepth 100000
namespace Go.Sh
open Go
/-- The first M of a set, if there is a list of them. -/
noncomputable def firstsOf (M : Nat) (S : List Int → Prop) : List (List Int) := open Classical in if h : ∃ l, Firsts M S l then Classical.choose h else []
theorem firstsOf_eq {M : Nat} {S : List Int → Prop} {l : List (List Int)} (h : Firsts M S l) : firstsOf M S = l := by
  unfold firstsOf
  have hx : ∃ l, Firsts M S l := ⟨l, h⟩
  rw [dif_pos hx]
  exact (Classical.choose_spec hx).uniq h
/-- The trees that are told, of the sizes up to n. -/
noncomputable def toldL (S : Nat → List Int → Prop) (many : Nat) : Nat → List (List Int)
  | 0 => []
  | n + 1 => if (toldL S many n).length < many then toldL S many n ++ firstsOf (many - (toldL S many n).length) (S (n + 1)) else toldL S many n
theorem toldL_full {S : Nat → List Int → Prop} {many n : Nat} (h : ¬ (toldL S many n).length < many) : ∀ {m : Nat}, n ≤ m → toldL S many m = toldL S many n := by
  intro m
  induction m with
  | zero => intro hm; rw [show n = 0 from by omega]
  | succ m ih =>
    intro hm
    by_cases e : n = m + 1
    · rw [e]
    · have := ih (by omega)
      rw [toldL, this, if_neg h]
theorem toldL_all {S : Nat → List Int → Prop} {many : Nat} (hp : ∀ s x, S s x → x.length = s) : ∀ n x, x ∈ toldL S many n → x.length ≤ n := by
  intro n
  induction n with
  | zero => intro x hx; simp [toldL] at hx
  | succ n ih =>
    intro x hx
    rw [toldL] at hx
    split at hx
    · rcases List.mem_append.1 hx with h | h
      · have := ih x h
        omega
      · unfold firstsOf at h
        split at h
        · rename_i hh
          have := hp _ x ((Classical.choose_spec hh).mem x h)
          omega
        · simp at h
    · have := ih x hx
      omega
theorem toldL_len {S : Nat → List Int → Prop} {many : Nat} : ∀ n, (toldL S many n).length ≤ many := by
  intro n
  induction n with
  | zero => exact Nat.zero_le _
  | succ n ih =>
    rw [toldL]
    split
    · rw [List.length_append]
      have : (firstsOf (many - (toldL S many n).length) (S (n + 1))).length ≤ many - (toldL S many n).length := by
        unfold firstsOf
        split
        · rename_i hh
          exact (Classical.choose_spec hh).len
        · simp
      omega
    · exact ih
def topD (gm : Gram) (ws : List Int) (s : Nat) : List Int → Prop := Der gm.rules ws (.inl 0) 0 ws.length s
noncomputable def treesV (gm : Gram) (ws : List Int) (most many : Int) : List (List Int) × Bool := if (((goodG gm && wordB gm.toks ws) && inB most 0 12) && inB many 0 60) = true then (toldL (topD gm ws) many.toNat most.toNat, true) else ([], false)
theorem total_bound {N : Nat} : ∀ {ls : List (List Int)}, (∀ x ∈ ls, x.length ≤ N) → total ls ≤ ls.length * N := by
  intro ls
  induction ls with
  | nil => intro _; simp [total]
  | cons a ls ih =>
    intro h
    have h1 := ih fun x hx => h x (List.mem_cons_of_mem _ hx)
    have h2 := h a (List.mem_cons_self ..)
    simp only [total, List.map_cons, List.sum_cons, List.length_cons] at h1 ⊢
    rw [Nat.add_mul]
    omega
end Go.Sh
namespace Go.Proofs.Ytiohaeckagjebaa
open Go Go.Sh Go.RowKit
theorem l11Make_c {gm : Gram} {ws : List Int} {m nons bc cy cx cu : Nat} {Y X U : Option Addr} (hg : goodG gm = true) (hl : ws.length ≤ 10) (hw : ∀ t ∈ ws, 0 ≤ t ∧ t ≤ 100) (hnn : gm.nons = (nons : Nat)) (hm : m ≤ 12) : ∀ (N : Nat), N ≤ m →
    ∀ {w : World} {A i j s M : Nat} {k : Value → World → Prop}, EnvT gm ws m nons bc Y cy X cx U cu w → s ≤ N → A < nons → i ≤ j → j ≤ ws.length → 0 < M → M ≤ 60 → (∀ w' X' c' ls ps, Gr w w' → OwnSS 22 3 w' w.heap.size X' c' ls ps → Firsts M (Der gm.rules ws (.inl A) i j s) ls → k (.slice X' ls.length c') w') →
      CallK Try.prog 168 [ptrv bc, .int .i64 A, .int .i64 i, .int .i64 j, .int .i64 s, .int .i64 (M : Int)] k w := by
  intro N
  induction N with
  | zero =>
    intro hN w A i j s M k hE hs hA hij hj hM hM60 hk
    exact l11Trees_of hg hl hw hnn hm hN (fun xs {w R cr i j s M k} _ _ _ _ _ _ _ h => absurd h (by omega)) hE hs hA hij hj hM hM60 hk
  | succ N ih =>
    intro hN w A i j s M k hE hs hA hij hj hM hM60 hk
    have hRow := l11Row_of (Y := Y) (X := X) (U := U) (bc := bc) (cy := cy) (cx := cx) (cu := cu) hg hl hw hnn hm (N := N) (by omega) (ih (by omega))
    exact l11Trees_of hg hl hw hnn hm hN (fun xs {w R cr i j s M k} h1 h2 h3 h4 h5 h6 h7 h8 => hRow xs h1 h2 h3 h4 h5 h6 h7 (by omega)) hE hs hA hij hj hM hM60 hk
theorem inf175' : Inf Try.prog 175 (.agg #[.int .i64 0, .int .i64 0, .slice none 0 0, .slice none 0 0, .slice none 0 0]) 5 88 := inf_of (by kernel_rfl)
theorem bd175 {S : WS} {k : Value → Prop} {a b c p m : Value} (ha : a.cells = #[a]) (hb : b.cells = #[b]) (hc : c.cells = #[c]) (hp : p.cells = #[p]) (hm : m.cells = #[m]) : Rd Try.prog S (sBuild 175 [(0, .agg #[a, b, c]), (1, p), (2, m)]) k = k (.agg #[a, b, c, p, m]) :=
  rd_buildN (ps := [(0, 3), (3, 1), (4, 1)]) Try.underlying175 inf175' ⟨⟨rfl, sz37⟩, ⟨rfl, sz22⟩, ⟨rfl, sz126⟩, trivial⟩ (by
    have e : (Value.agg #[a, b, c]).cells = #[a, b, c] := rfl
    have e2 : (Value.agg #[Value.int .i64 0, .int .i64 0, .slice none 0 0, .slice none 0 0, .slice none 0 0]).cells = #[Value.int .i64 0, .int .i64 0, .slice none 0 0, .slice none 0 0, .slice none 0 0] := rfl
    simp [Instr.fill, hp, hm, e, e2])
set_option maxHeartbeats 1600000 in
theorem l11Trees_c {F : Nat → Prop} {w : World} {v : Value} {gm : Gram} {X : Option Addr} {cx n0 most many : Nat} {ws : List Int} (hv : GramV F w v gm) (hg : goodG gm = true) (hX : Ints w X ws) (hn : n0 = ws.length) (hl : ws.length ≤ 10) (hw : ∀ x ∈ ws, 0 ≤ x ∧ x ≤ 100) (hm : most ≤ 12) (hM : many ≤ 60) {k : Value → World → Prop}
    (hk : ∀ w' X' c' ps, Gr w w' → OwnSS 22 3 w' w.heap.size X' c' (toldL (topD gm ws) many most) ps → k (.slice X' (toldL (topD gm ws) many most).length c') w') :
    CallK Try.prog 127 [v, .slice X n0 cx, .int .i64 most, .int .i64 many] k w := by
  subst hn
  obtain ⟨Y, cy, rfl, hc, hy⟩ := hv
  have hn6 := good_nons hg
  refine enter127 ?_
  unfold S127
  have H := Apt.nil w
  refine boxH H fun b1 w1 H => ?_
  have H := H.drew
  refine ⟨fun w' => Gr w1.drew w', Gr.refl _, ?_⟩
  rw [rdG_agg agg37 sz37 rfl (H.box 0 rfl)]
  rw [rdG_agg agg37 sz37 rfl (H.box 0 rfl)]
  refine l10Sized_c (M := capM) (gm := gm) rfl ⟨Y, cy, rfl, hc, hy.gr H.gr⟩ hg (hX.gr H.gr) rfl hl hw (by omega) fun w3 U c nons hs hp ls ps hnn H3 hh hlf => ?_
  have htab := tabR_of (H3.vv 0 rfl) (H3.fam 1 rfl) hh hlf (by omega)
  have g3 := gr_trans H.gr H3.gr
  refine ⟨H3.gr, ?_⟩
  refine rdi (bd175 rfl rfl rfl rfl rfl) ?_
  refine boxHG (Apt.nil w3) fun b2 w5 g5 H5 => ?_
  have E : EnvT gm ws most nons b2 Y cy X cx U c w5 := ⟨H5.box 0 rfl, hc, (hy.gr (gr_trans g3 g5)).mono fun _ _ => trivial, hX.gr (gr_trans g3 g5), htab.gr g5⟩
  clear H H3 H5
  have gw5 := gr_trans g3 g5
  have H := (Apt.nil w5).addLss (Gr.refl w5) (OwnSS.nil w5 w5.heap.size 22 3 fun _ => (none, 0))
  simp only [List.nil_append] at H
  refine loop_to most 0 (fun n f w' => n ≤ most ∧ f 11 = .int .i64 ((n + 1 : Nat) : Int) ∧ ∃ X' c' ps, f 10 = .slice X' (toldL (topD gm ws) many n).length c' ∧ Apt w5 w' [lss X' c' (toldL (topD gm ws) many n) ps])
    ⟨Nat.zero_le _, rfl, none, 0, _, rfl, H⟩ ?_
  clear H
  rintro n f w6 NN hag ⟨hnm, h11, X1, c1, ps1, h10, H⟩ hN
  have f1 : f 1 = .slice X ws.length cx := hag 1 (by decide)
  have f2 : f 2 = .int .i64 most := hag 2 (by decide)
  have f3 : f 3 = .int .i64 many := hag 3 (by decide)
  have f9 : f 9 = ptrv b2 := hag 9 (by decide)
  have hlen := toldL_len (S := topD gm ws) (many := many) n
  have fin : toldL (topD gm ws) many most = toldL (topD gm ws) many n → k (.slice X1 (toldL (topD gm ws) many n).length c1) w6 := fun e => by
    have := hk w6 X1 c1 ps1 (gr_trans gw5 H.gr)
    rw [e] at this
    exact this ((H.lssi 0 rfl).mono gw5.size)
  simp only [f1, f2, f3, f9, h11, h10, bin_add, bin_sub, bin_mul, bin_eql, bin_neq, bin_lss, bin_leq, bin_gtr, bin_geq, un_not, un_neg, pick_true, pick_false, extract_two_0, extract_two_1, nilCheck_pointer, cond_true', cond_false', guard_tt, guard_ff, guard_tf, guard_ft, guard_undef, seqQ_normal, seqQ_ret, seqQ_exit, blockQ_ret, blockQ_normal, blockQ_exit, bodyQ_ret, bodyQ_normal, resK_nil, resK_tmp, ite_T, ite_F, upd_at, add_plain, add_zero', len22, len35, len48, fa37_0, fa37_1, fa37_2, fa77_0, fa77_1, fa103_0, fa103_1, fa111_0, fa111_1, fa143_0, fa143_1, fa143_2, fa143_3, fa175_0, fa175_1, fa175_2, fa125_0, fa125_1, fa125_2, fa125_3, fa125_4, Nat.reduceEqDiff]
  by_cases hlt : n < most
  case neg =>
    simp only [show ¬ (((n + 1 : Nat) : Int) ≤ most) from by omega, decide_false, bin_add, bin_sub, bin_mul, bin_eql, bin_neq, bin_lss, bin_leq, bin_gtr, bin_geq, un_not, un_neg, pick_true, pick_false, extract_two_0, extract_two_1, nilCheck_pointer, cond_true', cond_false', guard_tt, guard_ff, guard_tf, guard_ft, guard_undef, seqQ_normal, seqQ_ret, seqQ_exit, blockQ_ret, blockQ_normal, blockQ_exit, bodyQ_ret, bodyQ_normal, resK_nil, resK_tmp, ite_T, ite_F, upd_at, add_plain, add_zero', len22, len35, len48, fa37_0, fa37_1, fa37_2, fa77_0, fa77_1, fa103_0, fa103_1, fa111_0, fa111_1, fa143_0, fa143_1, fa143_2, fa143_3, fa175_0, fa175_1, fa175_2, fa125_0, fa125_1, fa125_2, fa125_3, fa125_4, Nat.reduceEqDiff]
    exact fin (by rw [show most = n from by omega])
  simp only [show (((n + 1 : Nat) : Int) ≤ most) from by omega, decide_true, bin_add, bin_sub, bin_mul, bin_eql, bin_neq, bin_lss, bin_leq, bin_gtr, bin_geq, un_not, un_neg, pick_true, pick_false, extract_two_0, extract_two_1, nilCheck_pointer, cond_true', cond_false', guard_tt, guard_ff, guard_tf, guard_ft, guard_undef, seqQ_normal, seqQ_ret, seqQ_exit, blockQ_ret, blockQ_normal, blockQ_exit, bodyQ_ret, bodyQ_normal, resK_nil, resK_tmp, ite_T, ite_F, upd_at, add_plain, add_zero', len22, len35, len48, fa37_0, fa37_1, fa37_2, fa77_0, fa77_1, fa103_0, fa103_1, fa111_0, fa111_1, fa143_0, fa143_1, fa143_2, fa143_3, fa175_0, fa175_1, fa175_2, fa125_0, fa125_1, fa125_2, fa125_3, fa125_4, Nat.reduceEqDiff]
  by_cases hfull : (toldL (topD gm ws) many n).length < many
  case neg =>
    simp only [show ¬ (((toldL (topD gm ws) many n).length : Int) < many) from by omega, decide_false, bin_add, bin_sub, bin_mul, bin_eql, bin_neq, bin_lss, bin_leq, bin_gtr, bin_geq, un_not, un_neg, pick_true, pick_false, extract_two_0, extract_two_1, nilCheck_pointer, cond_true', cond_false', guard_tt, guard_ff, guard_tf, guard_ft, guard_undef, seqQ_normal, seqQ_ret, seqQ_exit, blockQ_ret, blockQ_normal, blockQ_exit, bodyQ_ret, bodyQ_normal, resK_nil, resK_tmp, ite_T, ite_F, upd_at, add_plain, add_zero', len22, len35, len48, fa37_0, fa37_1, fa37_2, fa77_0, fa77_1, fa103_0, fa103_1, fa111_0, fa111_1, fa143_0, fa143_1, fa143_2, fa143_3, fa175_0, fa175_1, fa175_2, fa125_0, fa125_1, fa125_2, fa125_3, fa125_4, Nat.reduceEqDiff]
    exact fin (toldL_full hfull (by omega))
  simp only [show (((toldL (topD gm ws) many n).length : Int) < many) from by omega, decide_true, bin_add, bin_sub, bin_mul, bin_eql, bin_neq, bin_lss, bin_leq, bin_gtr, bin_geq, un_not, un_neg, pick_true, pick_false, extract_two_0, extract_two_1, nilCheck_pointer, cond_true', cond_false', guard_tt, guard_ff, guard_tf, guard_ft, guard_undef, seqQ_normal, seqQ_ret, seqQ_exit, blockQ_ret, blockQ_normal, blockQ_exit, bodyQ_ret, bodyQ_normal, resK_nil, resK_tmp, ite_T, ite_F, upd_at, add_plain, add_zero', len22, len35, len48, fa37_0, fa37_1, fa37_2, fa77_0, fa77_1, fa103_0, fa103_1, fa111_0, fa111_1, fa143_0, fa143_1, fa143_2, fa143_3, fa175_0, fa175_1, fa175_2, fa125_0, fa125_1, fa125_2, fa125_3, fa125_4, Nat.reduceEqDiff]
  rw [i64_of (by omega) (by omega), show (many : Int) - ((toldL (topD gm ws) many n).length : Int) = ((many - (toldL (topD gm ws) many n).length : Nat) : Int) from by omega]
  refine l11Make_c hg hl hw hnn hm most (Nat.le_refl _) (A := 0) (i := 0) (j := ws.length) (s := n + 1) (E.gr H.gr) (by omega) (by omega) (Nat.zero_le _) (Nat.le_refl _) (by omega) (by omega) fun w7 X7 c7 ls7 ps7 g7 o7 hF => ?_
  have H := H.addLss g7 o7
  simp only [List.nil_append, List.cons_append] at H
  have hF' : firstsOf (many - (toldL (topD gm ws) many n).length) (topD gm ws (n + 1)) = ls7 := firstsOf_eq hF
  have hl7 := hF.len
  have e : toldL (topD gm ws) many (n + 1) = toldL (topD gm ws) many n ++ ls7 := by rw [toldL, if_pos hfull, hF']
  refine appendSSH H 0 1 (by decide) rfl rfl rfl rfl (by omega) fun X8 c8 w8 ps8 H8 => ?_
  simp only [List.set_cons_zero, List.set_cons_succ] at H8
  have H8 := H8.take 1
  simp only [List.take_succ_cons, List.take_zero] at H8
  rw [i64_of (by omega) (by omega)]
  rw [← e] at H8 ⊢
  exact hN _ _ hlt ⟨hlt, rfl, X8, c8, ps8, rfl, H8⟩
theorem treesV_len (gm : Gram) (ws : List Int) (most many : Int) : total (treesV gm ws most many).1 ≤ 1000000 := by
  unfold treesV
  split
  · rename_i h
    simp only [Bool.and_eq_true, inB, decide_eq_true_eq] at h
    have h1 := toldL_len (S := topD gm ws) (many := many.toNat) most.toNat
    have h2 := total_bound (N := 12) (ls := toldL (topD gm ws) many.toNat most.toNat) fun x hx => by
      have := toldL_all (S := topD gm ws) (many := many.toNat) (fun s x h => der_len h) _ x hx
      omega
    dsimp only
    omega
  · exact Nat.zero_le _
set_option maxHeartbeats 1600000 in
theorem specTreesUpTo_c {F : Nat → Prop} {w : World} {v : Value} {gm : Gram} {X : Option Addr} {n cx : Nat} {ws : List Int} {most many : Int} (hv : GramV F w v gm) (hX : Ints w X ws) (hn : n = ws.length) {k : Value → World → Prop}
    (hk : ∀ w' U d ps, Gr w w' → OwnSS 22 3 w' w.heap.size U d (treesV gm ws most many).1 ps → k (.tuple #[.slice U (treesV gm ws most many).1.length d, .bool (treesV gm ws most many).2]) w') :
    CallK Try.prog 73 [v, .slice X n cx, .int .i64 most, .int .i64 many] k w := by
  subst hn
  obtain ⟨Y, cy, rfl, hc, hy⟩ := hv
  refine enter73 ?_
  unfold S73
  have H := Apt.nil w
  refine boxH H fun b1 w1 H => ?_
  rw [ldB_agg agg37 sz37 rfl (H.box 0 rfl)]
  refine goodWord_c (gm := gm) ⟨Y, cy, rfl, hc, hy.gr H.gr⟩ (hX.gr H.gr) rfl fun w2 g2 => ?_
  have H := H.step g2
  have no : (((goodG gm && wordB gm.toks ws) && inB most 0 12) && inB many 0 60) = false → ∀ w', Gr w w' → k (.tuple #[.slice none 0 0, .bool false]) w' := fun h w' g => by
    have := hk w' none 0 (fun _ => (none, 0)) g
    unfold treesV at this
    rw [h, if_neg Bool.false_ne_true] at this
    exact this (OwnSS.nil _ _ _ _ _)
  cases hgw : goodG gm && wordB gm.toks ws
  · simp only [Bool.not_false, go_sem, Nat.reduceEqDiff]
    exact no (by rw [hgw]; rfl) _ H.gr
  simp only [Bool.not_true, go_sem, Nat.reduceEqDiff]
  refine l1In_c ?_
  cases hm : inB most 0 12
  · simp only [Bool.not_false, go_sem, Nat.reduceEqDiff]
    exact no (by rw [hgw, hm]; rfl) _ H.gr
  simp only [Bool.not_true, go_sem, Nat.reduceEqDiff]
  refine l1In_c ?_
  cases hm2 : inB many 0 60
  · simp only [Bool.not_false, go_sem, Nat.reduceEqDiff]
    exact no (by rw [hgw, hm, hm2]; rfl) _ H.gr
  simp only [Bool.not_true, go_sem, Nat.reduceEqDiff]
  unfold treesV at hk
  rw [hgw, hm, hm2, if_pos (show ((true && true) && true) = true from rfl)] at hk
  dsimp only at hk
  simp only [Bool.and_eq_true] at hgw
  simp only [inB, Bool.and_eq_true, decide_eq_true_eq] at hm hm2
  obtain ⟨most, rfl⟩ : ∃ m' : Nat, most = m' := ⟨most.toNat, by omega⟩
  obtain ⟨many, rfl⟩ : ∃ m' : Nat, many = m' := ⟨many.toNat, by omega⟩
  rw [Int.toNat_natCast, Int.toNat_natCast] at hk
  rw [ldB_agg agg37 sz37 rfl (H.box 0 rfl)]
  refine l11Trees_c (gm := gm) ⟨Y, cy, rfl, hc, hy.gr H.gr⟩ hgw.1 (hX.gr H.gr) rfl (wordB_len hgw.2) (wordB_tok hgw.2 (good_toks hgw.1).2) (by omega) (by omega) fun w3 X3 c3 ps3 g3 o3 => ?_
  exact hk _ _ _ _ (gr_trans H.gr g3) (o3.mono H.gr.size)
end Go.Proofs.Ytiohaeckagjebaa

/- slices.SortFunc at [][]int with slices.Compare: the library's contract, laid over this program. -/
set_option linter.unusedVariables false
set_option linter.unusedSimpArgs false
set_option maxRecDepth 100000
namespace Go.Proofs.Ytiohaeckagjebaa
open Go Go.Sh Go.RowKit Go.Shelf
def rhoS : Ren := ⟨fun x => match x with
  | 6 => 190
  | 14 => 195
  | 15 => 196
  | 20 => 198
  | 21 => 199
  | 22 => 200
  | 23 => 201
  | 24 => 202
  | 25 => 203
  | 26 => 204
  | 27 => 205
  | 28 => 206
  | 29 => 207
  | 46 => 208
  | 47 => 209
  | 48 => 210
  | 49 => 211
  | 50 => 212
  | 57 => 213
  | x => x, fun x => match x with
  | 22 => 48
  | 24 => 22
  | 25 => 135
  | 39 => 194
  | 45 => 196
  | 46 => 197
  | 50 => 33
  | 53 => 203
  | 55 => 205
  | 66 => 206
  | 70 => 160
  | 76 => 211
  | 77 => 212
  | x => x, fun x => x⟩
set_option maxHeartbeats 4000000 in
theorem layS : SlLaysF.n6 Try.prog rhoS where
  mixed := by kernel_rfl
  f6 := ⟨ "slices.SortFunc[[][]int,[]int]", by decide, by kernel_rfl⟩
  f14 := ⟨ "slices.pdqsortCmpFunc[[]int]", by decide, by kernel_rfl⟩
  f15 := by kernel_rfl
  f20 := ⟨ "slices.insertionSortCmpFunc[[]int]", by decide, by kernel_rfl⟩
  f21 := ⟨ "slices.heapSortCmpFunc[[]int]", by decide, by kernel_rfl⟩
  f22 := ⟨ "slices.breakPatternsCmpFunc[[]int]", by decide, by kernel_rfl⟩
  f23 := ⟨ "slices.choosePivotCmpFunc[[]int]", by decide, by kernel_rfl⟩
  f24 := ⟨ "slices.reverseRangeCmpFunc[[]int]", by decide, by kernel_rfl⟩
  f25 := ⟨ "slices.partialInsertionSortCmpFunc[[]int]", by decide, by kernel_rfl⟩
  f26 := ⟨ "slices.partitionEqualCmpFunc[[]int]", by decide, by kernel_rfl⟩
  f27 := ⟨ "slices.partitionCmpFunc[[]int]", by decide, by kernel_rfl⟩
  f28 := by kernel_rfl
  f29 := by kernel_rfl
  f46 := ⟨ "slices.siftDownCmpFunc[[]int]", by decide, by kernel_rfl⟩
  f47 := by kernel_rfl
  f48 := by kernel_rfl
  f49 := ⟨ "slices.medianAdjacentCmpFunc[[]int]", by decide, by kernel_rfl⟩
  f50 := ⟨ "slices.medianCmpFunc[[]int]", by decide, by kernel_rfl⟩
  f57 := ⟨ "slices.order2CmpFunc[[]int]", by decide, by kernel_rfl⟩
  t0 := by kernel_rfl
  a0 := fun w => by kernel_rfl
  z0 := fun w => by kernel_rfl
  v0 := fun w => by kernel_rfl
  t3 := by kernel_rfl
  a3 := fun w => by kernel_rfl
  z3 := fun w => by kernel_rfl
  v3 := fun w => by kernel_rfl
  t4 := by kernel_rfl
  a4 := fun w => by kernel_rfl
  z4 := fun w => by kernel_rfl
  v4 := fun w => by kernel_rfl
  t5 := by kernel_rfl
  a5 := fun w => by kernel_rfl
  z5 := fun w => by kernel_rfl
  v5 := fun w => by kernel_rfl
  t9 := by kernel_rfl
  a9 := fun w => by kernel_rfl
  z9 := fun w => by kernel_rfl
  v9 := fun w => by kernel_rfl
  t22 := by kernel_rfl
  a22 := fun w => by kernel_rfl
  z22 := fun w => by kernel_rfl
  v22 := fun w => by kernel_rfl
  a24 := fun w => by kernel_rfl
  z24 := fun w => by kernel_rfl
  t25 := by kernel_rfl
  a25 := fun w => by kernel_rfl
  z25 := fun w => by kernel_rfl
  v25 := fun w => by kernel_rfl
  t39 := by kernel_rfl
  a39 := fun w => by kernel_rfl
  z39 := fun w => by kernel_rfl
  v39 := fun w => by kernel_rfl
  t45 := by kernel_rfl
  a45 := fun w => by kernel_rfl
  z45 := fun w => by kernel_rfl
  v45 := fun w => by kernel_rfl
  t46 := by kernel_rfl
  a46 := fun w => by kernel_rfl
  z46 := fun w => by kernel_rfl
  v46 := fun w => by kernel_rfl
  t50 := by kernel_rfl
  a50 := fun w => by kernel_rfl
  z50 := fun w => by kernel_rfl
  v50 := fun w => by kernel_rfl
  t53 := by kernel_rfl
  a53 := fun w => by kernel_rfl
  z53 := fun w => by kernel_rfl
  v53 := fun w => by kernel_rfl
  t55 := by kernel_rfl
  a55 := fun w => by kernel_rfl
  z55 := fun w => by kernel_rfl
  v55 := fun w => by kernel_rfl
  t66 := by kernel_rfl
  a66 := fun w => by kernel_rfl
  z66 := fun w => by kernel_rfl
  v66 := fun w => by kernel_rfl
  t70 := by kernel_rfl
  a70 := fun w => by kernel_rfl
  z70 := fun w => by kernel_rfl
  v70 := fun w => by kernel_rfl
  t76 := by kernel_rfl
  a76 := fun w => by kernel_rfl
  z76 := fun w => by kernel_rfl
  v76 := fun w => by kernel_rfl
  t77 := by kernel_rfl
  a77 := fun w => by kernel_rfl
  z77 := fun w => by kernel_rfl
  v77 := fun w => by kernel_rfl
end Go.Proofs.Ytiohaeckagjebaa

/- Lists are sorted and cut, among things that lie apart (the program's firsts). -/
set_option linter.unusedVariables false
set_option linter.unusedSimpArgs false
set_option maxRecDepth 100000
namespace Go.Sh
open Go
/-- A slice of slices that is read; where each of them is. -/
structure IssP (F : Nat → Prop) (w : World) (X : Option Addr) (ls : List (List Int)) (ys : Nat → Option Addr × Nat) : Prop where
  le : ls.length ≤ 9223372036854775807
  ptr : 0 < ls.length → X = some (ad X)
  foot : 0 < ls.length → F (ad X).block
  row : ∀ j, j < ls.length → w.cell? ((ad X).add j) = some (.slice (ys j).1 (rgt ls j).length (ys j).2) ∧ (rgt ls j).length ≤ (ys j).2 ∧ IntsF F w (ys j).1 (rgt ls j)
theorem IssF.pick {F : Nat → Prop} {w : World} {X : Option Addr} {ls : List (List Int)} (h : IssF F w X ls) : ∃ ys, IssP F w X ls ys := by
  classical
  have key : ∀ j, ∃ y : Option Addr × Nat, j < ls.length → w.cell? ((ad X).add j) = some (.slice y.1 (rgt ls j).length y.2) ∧ (rgt ls j).length ≤ y.2 ∧ IntsF F w y.1 (rgt ls j) := fun j => by
    by_cases hj : j < ls.length
    · obtain ⟨Y, c, hr⟩ := h.row j hj
      exact ⟨(Y, c), fun _ => hr⟩
    · exact ⟨(none, 0), fun h => absurd h hj⟩
  exact ⟨fun j => Classical.choose (key j), h.le, h.ptr, h.foot, fun j hj => Classical.choose_spec (key j) hj⟩
theorem IssP.same {F : Nat → Prop} {w w' : World} {X : Option Addr} {ls : List (List Int)} {ys : Nat → Option Addr × Nat} (h : IssP F w X ls ys) (hs : ∀ q, F q → w'.heap[q]? = w.heap[q]?) : IssP F w' X ls ys := ⟨h.le, h.ptr, h.foot, fun j hj => by
  obtain ⟨h1, h2, h3⟩ := h.row j hj
  exact ⟨cell_same h1 (hs _ (by rw [add_block]; exact h.foot (by omega))), h2, h3.same hs⟩⟩
/-- What is read, as a thing. -/
def rdf (ft : Nat → Prop) (X : Option Addr) (ls : List (List Int)) (ys : Nat → Option Addr × Nat) : Thing := ⟨fun w => IssP ft w X ls ys, ft⟩
theorem Apt.rdf {w0 w : World} {L : List Thing} (H : Apt w0 w L) (i : Nat) {ft : Nat → Prop} {X : Option Addr} {ls : List (List Int)} {ys : Nat → Option Addr × Nat} (hi : L[i]? = some (Sh.rdf ft X ls ys)) : IssP ft w X ls ys := H.get i hi
theorem Apt.addRdf {w0 w w' : World} {L : List Thing} {X : Option Addr} {ls : List (List Int)} (H : Apt w0 w L) (g : Gr w w') (h : IssF (fun q => w.heap.size ≤ q) w' X ls) : ∃ ft ys, Apt w0 w' (L ++ [Sh.rdf ft X ls ys]) := by
  obtain ⟨ys, hy⟩ := h.lt.pick
  exact ⟨_, ys, H.add g (Sh.rdf _ X ls ys) (fun q hq => hq.1) (fun q hq => hq.2) fun w'' hs => hy.same hs⟩
theorem IssP.take {F : Nat → Prop} {w : World} {X : Option Addr} {ls : List (List Int)} {ys : Nat → Option Addr × Nat} (h : IssP F w X ls ys) (m : Nat) : IssP F w X (ls.take m) ys := by
  refine ⟨by rw [List.length_take]; have := h.le; omega, fun hp => h.ptr (by rw [List.length_take] at hp; omega), fun hp => h.foot (by rw [List.length_take] at hp; omega), fun j hj => ?_⟩
  rw [List.length_take] at hj
  rw [rgt_take (by omega)]
  exact h.row j (by omega)
/-- A slice that can be read. -/
def Slot (F : Nat → Prop) (w : World) (x : Option Addr × Nat × List Int) : Prop := x.2.2.length ≤ x.2.1 ∧ IntsF F w x.1 x.2.2
def El (F : Nat → Prop) (w : World) : Type := { x : Option Addr × Nat × List Int // Slot F w x }
instance (F : Nat → Prop) (w : World) : Inhabited (El F w) := ⟨⟨(none, 0, []), Nat.le_refl _, IntsF.nil F w⟩⟩
def encE {F : Nat → Prop} {w : World} (x : El F w) : Value := .slice x.1.1 x.1.2.2.length x.1.2.1
def contE {F : Nat → Prop} {w : World} (x : El F w) : List Int := x.1.2.2
def cfE {F : Nat → Prop} {w : World} (x y : El F w) : Int := cmpL x.1.2.2 y.1.2.2
theorem cfE_order (F : Nat → Prop) (w : World) : Sort.SWO (Go.Proofs.ltOf (cfE (F := F) (w := w))) where
  irrefl := fun x => decide_eq_false (p := cmpL x.1.2.2 x.1.2.2 < 0) (ltL_irrefl _)
  trans := fun x y z h1 h2 => decide_eq_true (p := cmpL x.1.2.2 z.1.2.2 < 0) (ltL_trans (of_decide_eq_true (p := cmpL x.1.2.2 y.1.2.2 < 0) h1) (of_decide_eq_true (p := cmpL y.1.2.2 z.1.2.2 < 0) h2))
  ntrans := fun x y z h1 h2 => decide_eq_false (p := cmpL x.1.2.2 z.1.2.2 < 0) fun h3 => by
    have h1 := of_decide_eq_false (p := cmpL x.1.2.2 y.1.2.2 < 0) h1
    have h2 := of_decide_eq_false (p := cmpL y.1.2.2 z.1.2.2 < 0) h2
    rcases ltL_tri x.1.2.2 y.1.2.2 with h | h | h
    · exact h1 h
    · exact h2 (by show ltL y.1.2.2 z.1.2.2; rw [← h]; exact h3)
    · exact h2 (ltL_trans h h3)
theorem sortWorld_block {α : Type} [Inhabited α] {enc : α → Value} {w : World} {g off m : Nat} {dk : Array α} {os : Array Obj} {q : Nat} (hq : q < w.heap.size) (hn : q ≠ g) : (Go.Proofs.sortWorld enc w g off m dk os).heap[q]? = w.heap[q]? := by
  have hs : q < (Sort.putRow enc (Sort.ahead w m) g off dk).heap.size := by
    simpa [Sort.putRow, Sort.mapBlock, Sort.ahead] using hq
  show ((Sort.putRow enc (Sort.ahead w m) g off dk).heap ++ os)[q]? = _
  rw [Array.getElem?_append_left hs]
  simp only [Sort.putRow, Sort.mapBlock, Array.getElem?_modify]
  rw [if_neg (fun e => hn e.symm)]
  rfl
theorem gr_grow (w : World) (os : Array Obj) : Gr w (Sort.grow w os) := ⟨rfl, rfl, rfl, by simp [Sort.grow], fun q hq _ => by
  show (w.heap ++ os)[q]? = _
  rw [Array.getElem?_append_left hq]⟩
def FootS (X : Option Addr) (ps : Nat → Option Addr × Nat) (n g : Nat) (q : Nat) : Prop := q ≠ g ∧ Foot X ps n q
theorem Row.putE {α : Type} [Inhabited α] {enc : α → Value} {w : World} {B e n c g : Nat} {cells : List Value} {d : Array α} (h : Row w B e 1 (some ⟨g, 0, none⟩) n c cells) (hd : d.size = n) : Row (Sort.putRow enc w g 0 d) B e 1 (some ⟨g, 0, none⟩) n c (d.toList.map enc) ∧ w.grownBy (Sort.putRow enc w g 0 d) (some g) := by
  rcases h.2 with h2 | ⟨g', cap, cur, e1, e2, e3, e4, e5, e6, e7⟩
  · simp at h2
  · simp only [Value.slice.injEq, Option.some.injEq, Addr.mk.injEq, and_true, true_and] at e1
    obtain ⟨rfl, rfl⟩ := e1
    have e6' : cur.size = c := by simpa using e6
    refine ⟨⟨by simp; omega, .inr ⟨g, c, Sort.putCells enc 0 d cur, rfl, e2, ?_, e4, e5, ?_, ?_⟩⟩, ⟨rfl, rfl, rfl, ?_, fun k hk hn => ?_⟩⟩
    · simp only [Sort.putRow, Sort.mapBlock, Array.getElem?_modify, if_true, e3, Option.map_some, Sort.onCells]
    · simp [Sort.putCells, e6']
    · apply List.ext_getElem?
      intro j
      rw [Nat.mul_one, List.getElem?_take]
      by_cases hj : j < n
      · rw [if_pos hj, Array.getElem?_toList]
        simp only [Sort.putCells, Array.getElem?_mapIdx]
        have hc : j < cur.size := by omega
        rw [Array.getElem?_eq_getElem hc]
        simp [hd, hj]
      · rw [if_neg hj, List.getElem?_eq_none (by simp; omega)]
    · simp [Sort.putRow, Sort.mapBlock]
    · simp only [Sort.putRow, Sort.mapBlock, Array.getElem?_modify]
      rw [if_neg (fun e => hn (by rw [e]))]
end Go.Sh
namespace Go.Proofs.Ytiohaeckagjebaa
open Go Go.Sh Go.RowKit Go.Shelf
theorem has190 : HasBody Try.prog 190 := ⟨_, Try.func190, by kernel_rfl, by kernel_rfl⟩
theorem has164 : HasBody Try.prog 164 := ⟨_, Try.func164, by kernel_rfl, by kernel_rfl⟩
theorem enters_has {P : Program} {g : FuncId} (h : HasBody P g) : Enters P g := by
  obtain ⟨fn, hf, hb, hn⟩ := h
  cases hbody : fn.body with
  | none => rw [hbody] at hb; cases hb
  | some c => exact enters_of hf hn hbody
theorem cmp_lays {F : Nat → Prop} {w : World} {g size : Nat} (hF : ∀ q, F q → q ≠ g) : CmpLays1 Try.prog 164 #[] (encE (F := F) (w := w)) cfE g 0 size w := by
  intro m os dk hs x y
  have key : ∀ x : El F w, Ints (sortWorld encE w g 0 m dk os) x.1.1 x.1.2.2 := fun x =>
    (x.2.2.lt.same fun q hq => sortWorld_block hq.2 (hF q hq.1)).is
  refine Calls.mono (compareL_c (c := x.1.2.1) (d := y.1.2.1) (key x) (key y) (k := fun v w' => v = .int .i64 (cfE x y) ∧ w' = sortWorld encE w g 0 m dk os) ⟨rfl, rfl⟩).2 ?_
  intro e w' he
  cases e with
  | returned v =>
    obtain ⟨h1, h2⟩ := he
    exact ⟨by rw [h1], 0, #[], by rw [Sort.grow_empty]; exact h2⟩
  | panicked c => exact he.elim
  | outgrown => exact he.elim
section
variable {k : Value → World → Prop} {w0 w : World} {L : List Thing}
set_option maxHeartbeats 1600000 in
theorem sortH (H : Apt w0 w L) (i : Nat) {n c : Nat} {X : Option Addr} {ls : List (List Int)} {ps : Nat → Option Addr × Nat} (hi : L[i]? = some (lss X c ls ps)) (hX : X ≠ none) (hn : n = ls.length) (hlen : ls.length ≤ 1000000)
    (h : ∀ (w' : World) (ls' : List (List Int)) (ys : Nat → Option Addr × Nat), ls'.Perm ls → ls'.Pairwise (fun a b => ¬ ltL b a) → Apt w0 w' (L.set i (rdf (Foot X ps ls.length) X ls' ys)) → k (.tuple #[]) w') : CallK Try.prog 190 [.slice X n c, .func (.func 164) #[] #[]] k w := by
  subst hn
  have o := H.lssi i hi
  obtain ⟨⟨cells, hr, hc⟩, ho, ht⟩ := id o
  obtain ⟨g, tl, rfl, _, hnc, hcm, _⟩ := Row.full hr hX
  obtain ⟨f1, f2, f3⟩ := Row.facts hr
  obtain ⟨F, hF⟩ : ∃ F, F = FootS (some ⟨g, 0, none⟩) ps ls.length g := ⟨_, rfl⟩
  have slot : ∀ j, j < ls.length → Slot F w ((ps j).1, (ps j).2, rgt ls j) := fun j hj => by
    have hj' := ho j hj
    subst hF
    refine ⟨(Row.cap hj').1, Own.ints hj', fun hp => ?_⟩
    have hptr := Row.ptr hj' hp
    have hblk : blk (ps j).1 = some (ad (ps j).1).block := by
      conv => lhs; rw [hptr]
      rfl
    have hne := row_ne hj' hr (by decide)
    refine ⟨fun e => ?_, .inr ⟨j, hj, hblk⟩⟩
    rcases hne with h1 | h1
    · rw [hblk] at h1; cases h1
    · exact h1 (by rw [hblk, e]; rfl)
  obtain ⟨d, hd⟩ : ∃ d : Array (El F w), d = Array.ofFn (n := ls.length) fun j => ⟨((ps j.1).1, (ps j.1).2, rgt ls j.1), slot j.1 j.2⟩ := ⟨_, rfl⟩
  have hds : d.size = ls.length := by rw [hd]; exact Array.size_ofFn
  have hdg : ∀ j (hj : j < ls.length), d[j]! = ⟨((ps j).1, (ps j).2, rgt ls j), slot j hj⟩ := fun j hj => by
    rw [getElem!_pos d j (by rw [hds]; exact hj)]
    subst hd
    exact Array.getElem_ofFn ..
  have hH : Sort.Holds encE w g 0 d := fun j hj => by
    rw [hds] at hj
    refine ⟨?_, by rw [Nat.zero_add]; exact f2 j⟩
    rw [hdg j hj]
    exact f1 j _ (hc j hj)
  have hlt : g < w.heap.size := (hr.ge (q := g) rfl).2
  have hcall := Any.slices_SortFunc layS (encE (F := F) (w := w)) (fun x => rfl) cfE (cfE_order F w) 164 #[] g 0 c d w (enters_has has164) (cmp_lays fun q hq => by rw [hF] at hq; exact hq.1) hH hlt (by rw [hds]; omega)
  rw [hds] at hcall
  refine ⟨has190, Calls.mono hcall ?_⟩
  rintro e w' ⟨rfl, d', m, os, hperm, hsort, rfl⟩
  have hsz : d'.size = ls.length := by rw [hperm.1, hds]
  have hp : d'.toList.Perm d.toList := by
    have := hperm.2.2
    rwa [Array.extract_eq_self_of_le (by omega), Array.extract_eq_self_of_le (by omega)] at this
  have hdl : d.toList.map contE = ls := by
    refine List.ext_getElem (by simp [hds]) fun j h1 h2 => ?_
    have := hdg j h2
    rw [getElem!_pos d j (by rw [hds]; exact h2)] at this
    rw [List.getElem_map, Array.getElem_toList, this]
    exact rgt_eq h2
  have hlsl : (d'.toList.map contE).length = ls.length := by simp [hsz]
  have hgx : Gx (fun q => blk (some (⟨g, 0, none⟩ : Addr)) = some q) w (sortWorld encE w g 0 m d' os) :=
    ⟨rfl, rfl, rfl, by
      show w.heap.size ≤ ((Sort.putRow encE (Sort.ahead w m) g 0 d').heap ++ os).size
      simp [Sort.putRow, Sort.mapBlock, Sort.ahead], fun q hq hn => sortWorld_block hq fun e => hn (by rw [e]; rfl)⟩
  have hr1 : Row (Sort.ahead w m) w0.heap.size 22 1 (some ⟨g, 0, none⟩) ls.length c cells := hr
  have hr2 := (Row.putE (enc := encE) hr1 hsz).1.gr (gr_grow _ os)
  have hiss : IssF (Foot (some ⟨g, 0, none⟩) ps ls.length) (sortWorld encE w g 0 m d' os) (some ⟨g, 0, none⟩) (d'.toList.map contE) := by
    refine IssF.of (Row.src hr2) ⟨by simp, fun j v hv => ?_⟩ (by rw [hlsl]; omega) fun _ => .inl rfl
    have hj : j < d'.size := by
      have := (List.getElem?_eq_some_iff.1 hv).1
      simpa using this
    have hv' : encE d'[j] = v := by
      rw [List.getElem?_map, Array.getElem?_toList, Array.getElem?_eq_getElem hj] at hv
      exact Option.some.inj hv
    have hrg : rgt (d'.toList.map contE) j = contE d'[j] := by
      rw [rgt_eq (by simpa using hj)]
      simp
    rw [hrg]
    refine ⟨_, _, hv'.symm, d'[j].2.1, (d'[j].2.2.lt.same fun q hq => ?_).mono fun q hq => ?_⟩
    · rw [hF] at hq
      exact sortWorld_block hq.2 hq.1.1
    · rw [hF] at hq
      exact hq.1.2
  obtain ⟨ys, hys⟩ := hiss.pick
  refine h _ (d'.toList.map contE) ys ?_ ?_ (H.set hi (it' := rdf (Foot (some ⟨g, 0, none⟩) ps ls.length) (some ⟨g, 0, none⟩) (d'.toList.map contE) ys) ⟨hgx.os, hgx.tape, hgx.output, hgx.size, fun q hq hn => hgx.block q hq fun e => hn (.inl e)⟩ (fun q hq => .inl hq) (fun q hq => Nat.lt_of_lt_of_le ((H.ok i _ hi).hi q hq) hgx.size) fun w'' hs => hys.same hs)
  · have := hp.map contE
    rwa [hdl] at this
  · refine List.pairwise_iff_getElem.2 fun a b ha hb hab => ?_
    rw [hlsl] at ha hb
    have := hsort a b (Nat.zero_le _) hab hb
    have := of_decide_eq_false this
    simp only [List.getElem_map, Array.getElem_toList]
    rw [getElem!_pos d' a (by omega), getElem!_pos d' b (by omega)] at this
    exact this
/-- The program's firsts. -/
theorem firsts_c (H : Apt w0 w L) (i j : Nat) (hij : i ≠ j) {n c be M : Nat} {X : Option Addr} {ls : List (List Int)} {ps : Nat → Option Addr × Nat} {cells : List Value} (hi : L[i]? = some (lss X c ls ps)) (hj : L[j]? = some (bx be cells 143)) (hm : cells[4]? = some (.int .i64 (M : Int))) (hX : X ≠ none) (hn : n = ls.length) (hlen : ls.length ≤ 1000000)
    (h : ∀ (w' : World) (ls' : List (List Int)) (ys : Nat → Option Addr × Nat), ls'.Perm ls → ls'.Pairwise (fun a b => ¬ ltL b a) → Apt w0 w' (L.set i (rdf (Foot X ps ls.length) X (ls'.take M) ys)) → (ls'.take M).length ≤ c → k (.slice X (ls'.take M).length c) w') : CallK Try.prog 170 [ptrv be, .slice X n c] k w := by
  subst hn
  have o := H.lssi i hi
  have hcap := o.cap
  have hsub := o.sub0
  refine enter170 ?_
  unfold S170
  refine sortH H i hi hX rfl hlen fun w1 ls' ys hp hs H1 => ?_
  have hl' := hp.length_eq
  simp only [bin_add, bin_sub, bin_mul, bin_eql, bin_neq, bin_lss, bin_leq, bin_gtr, bin_geq, un_not, un_neg, pick_true, pick_false, extract_two_0, extract_two_1, nilCheck_pointer, cond_true', cond_false', guard_tt, guard_ff, guard_tf, guard_ft, guard_undef, seqQ_normal, seqQ_ret, seqQ_exit, blockQ_ret, blockQ_normal, blockQ_exit, bodyQ_ret, bodyQ_normal, resK_nil, resK_tmp, ite_T, ite_F, upd_at, add_plain, add_zero', len22, len35, len48, fa37_0, fa37_1, fa37_2, fa77_0, fa77_1, fa103_0, fa103_1, fa111_0, fa111_1, fa143_0, fa143_1, fa143_2, fa143_3, fa175_0, fa175_1, fa175_2, fa125_0, fa125_1, fa125_2, fa125_3, fa125_4, Nat.reduceEqDiff]
  have hb : Box w1 be cells 143 := H1.box j (by rw [List.getElem?_set, if_neg hij]; exact hj)
  rw [ldB3 hb hm]
  refine rdi min_int ?_
  have e : (if (M : Int) < (ls.length : Int) then (M : Int) else (ls.length : Int)) = (((ls'.take M).length : Nat) : Int) := by
    rw [List.length_take, hl']
    split <;> omega
  rw [e]
  have hle : (ls'.take M).length ≤ c := by rw [List.length_take]; omega
  refine rdi (slh48 (by omega) (by omega)) ?_
  rw [hsub, Int.toNat_natCast]
  have hlt := (H.ok i _ hi).hi
  have hi1 : (L.set i (rdf (Foot X ps ls.length) X ls' ys))[i]? = some (rdf (Foot X ps ls.length) X ls' ys) := by
    rw [List.getElem?_set, if_pos rfl, if_pos (get_lt hi)]
  have H2 := H1.set hi1 (it' := rdf (Foot X ps ls.length) X (ls'.take M) ys) (Gx.refl _ w1) (fun q hq => .inl hq) (fun q hq => (H1.ok i _ hi1).hi q hq) fun w'' hs => ((H1.rdf i hi1).take M).same hs
  rw [List.set_set] at H2
  exact h w1 ls' ys hp hs H2 hle
end
end Go.Proofs.Ytiohaeckagjebaa

/- A map whose values lie in memory of their own, among things that lie apart. -/
set_option linter.unusedVariables false
set_option linter.unusedSimpArgs false
set_option maxRecDepth 100000
namespace Go.Sh
open Go Go.WideMaps
structure Ent where
  key : Value
  val : Value
  it : Thing
/-- It holds, and holds on while its blocks stay. -/
def Robust (it : Thing) (w : World) : Prop := ∀ w', (∀ q, it.ft q → w'.heap[q]? = w.heap[q]?) → it.P w'
theorem Robust.here {it : Thing} {w : World} (h : Robust it w) : it.P w := h w fun _ _ => rfl
theorem Robust.next {it : Thing} {w w' : World} (h : Robust it w) (hs : ∀ q, it.ft q → w'.heap[q]? = w.heap[q]?) : Robust it w' := fun w'' h' => h w'' fun q hq => (h' q hq).trans (hs q hq)
structure MapG (b : Nat) (ents : List Ent) (has : List Value) (w : World) : Prop where
  blk : ∃ es clock, w.heap[b]? = some (.map es clock) ∧ (∀ e ∈ es.toList, ∃ t ∈ ents, e.key = t.key ∧ e.val = t.val) ∧ ∀ x ∈ has, ∃ e ∈ es.toList, e.key = x
  sub : ∀ t ∈ ents, Robust t.it w
  off : ∀ t ∈ ents, ¬ t.it.ft b
def mpG (b : Nat) (ents : List Ent) (has : List Value) : Thing := ⟨MapG b ents has, fun q => q = b ∨ ∃ t ∈ ents, t.it.ft q⟩
theorem MapG.same {b : Nat} {ents : List Ent} {has : List Value} {w w' : World} (h : MapG b ents has w) (hs : ∀ q, (mpG b ents has).ft q → w'.heap[q]? = w.heap[q]?) : MapG b ents has w' := by
  obtain ⟨⟨es, clock, h1, h2, h3⟩, h4, h5⟩ := h
  exact ⟨⟨es, clock, by rw [hs b (.inl rfl)]; exact h1, h2, h3⟩, fun t ht => (h4 t ht).next fun q hq => hs q (.inr ⟨t, ht, hq⟩), h5⟩
section
variable {P : Program} {k : Value → World → Prop} {w0 w : World} {L : List Thing} {ents : List Ent} {has : List Value}
/-- A map with nothing in it. -/
theorem Apt.emptyG (H : Apt w0 w L) (i : Nat) {b : Nat} (hi : L[i]? = some (mpi (fun _ _ => False) b)) : Apt w0 w (L.set i (mpG b [] [])) := by
  have key : ∀ w', (mpi (fun _ _ => False) b).P w' → MapG b [] [] w' := fun w' h => by
    obtain ⟨es, clock, h1, h2⟩ := h
    exact ⟨⟨es, clock, h1, fun e he => (h2 e he).elim, fun x hx => by simp at hx⟩, fun t ht => by simp at ht, fun t ht => by simp at ht⟩
  refine H.weaken i hi (fun q hq => ?_) (fun w' _ h => key w' h) (fun w' w'' hs h => MapG.same h hs)
  rcases hq with hq | ⟨t, ht, _⟩
  · exact hq
  · simp at ht
theorem lookupG (H : Apt w0 w L) (i : Nat) {b : Nat} (hi : L[i]? = some (mpG b ents has)) {t kt et : TypeId} {x z : Value} {lx : Lit} (ht : P.underlying t = some (.map kt et)) (K : KeyLaw P kt) (hx : keyOf P kt x = some lx) (hG : ∀ e ∈ ents, ∃ l, keyOf P kt e.key = some l) (hz : ∀ w, (zeroValue et).run P w = .ok z w) (ok : Bool)
    (h0 : x ∉ has → k (if ok then .tuple #[z, .bool false] else z) w) (h1 : ∀ e ∈ ents, e.key = x → e.it.P w → k (if ok then .tuple #[e.val, .bool true] else e.val) w) : Do P (sLookup t (.map (some b)) x ok) k w := by
  obtain ⟨⟨es, clock, hb, hes, hhas⟩, hsub, hoff⟩ := H.get i hi
  have hget : (getObj b).run P w = .ok (.map es clock) w := by simp [getObj, Sem.run, hb]
  have hG' : ∀ e ∈ es.toList, ∃ l, keyOf P kt e.key = some l := fun e he => by
    obtain ⟨t, ht, e1, _⟩ := hes e he
    rw [e1]
    exact hG t ht
  rcases K.find w hx es.toList hG' with ⟨hf, hno⟩ | ⟨j, e, hf, hj, hk⟩
  · have e' : (sLookup t (.map (some b)) x ok).run P w = .ok (.value (if ok then .tuple #[z, .bool false] else z)) w := by
      cases ok <;> simp [sLookup, Instr.lookup, run_underlying ht, hget, K.check w _ hx, hf, hz]
    rw [do_value e']
    refine h0 fun hm => ?_
    obtain ⟨e, he, hke⟩ := hhas x hm
    exact hno e he hke
  · have e' : (sLookup t (.map (some b)) x ok).run P w = .ok (.value (if ok then .tuple #[e.val, .bool true] else e.val)) w := by
      cases ok <;> simp [sLookup, Instr.lookup, run_underlying ht, hget, K.check w _ hx, hf]
    rw [do_value e']
    obtain ⟨t, ht, e1, e2⟩ := hes e (List.mem_of_getElem? hj)
    rw [e2]
    exact h1 t ht (by rw [← e1, hk]) (hsub t ht).here
/-- A value that lies in a thing of its own comes into the map. -/
theorem updateG (H : Apt w0 w L) (i j : Nat) (hij : i ≠ j) {b : Nat} (hi : L[i]? = some (mpG b ents has)) {it : Thing} (hj : L[j]? = some it) {t kt et : TypeId} {x v : Value} {lx : Lit} (ht : P.underlying t = some (.map kt et)) (K : KeyLaw P kt) (hx : keyOf P kt x = some lx) (hG : ∀ e ∈ ents, ∃ l, keyOf P kt e.key = some l)
    (h : ∀ w', Gx (fun q => q = b) w w' → Apt w0 w' ((L.set i (mpG b (⟨x, v, it⟩ :: ents) (x :: has))).set j emp) → k undef w') : Do P (sMapUpdate t (.map (some b)) x v) k w := by
  obtain ⟨⟨es, clock, hb, hes, hhas⟩, hsub, hoff⟩ := H.get i hi
  have hget : (getObj b).run P w = .ok (.map es clock) w := MapKept.run_getObj_map hb
  have hG' : ∀ e ∈ es.toList, ∃ l, keyOf P kt e.key = some l := fun e he => by
    obtain ⟨t, ht, e1, _⟩ := hes e he
    rw [e1]
    exact hG t ht
  have hbj : ¬ it.ft b := fun hb' => H.two i j _ _ hij hi hj b (.inl rfl) hb'
  have fin : ∀ (es' : Array MapEntry) (clock' : Nat), (∀ e ∈ es'.toList, ∃ t ∈ (⟨x, v, it⟩ :: ents : List Ent), e.key = t.key ∧ e.val = t.val) → (∀ y ∈ x :: has, ∃ e ∈ es'.toList, e.key = y) → (Instr.mapUpdate t (.map (some b)) x v).run P w = .ok () { w with heap := w.heap.setIfInBounds b (.map es' clock') } → Do P (sMapUpdate t (.map (some b)) x v) k w := fun es' clock' h1 h2 hr => by
    have e' : (sMapUpdate t (.map (some b)) x v).run P w = .ok .skip { w with heap := w.heap.setIfInBounds b (.map es' clock') } := by
      simp only [sMapUpdate, Sem.run_bind, hr]
      rfl
    rw [do_skip e']
    have hlt := (Array.getElem?_eq_some_iff.1 hb).1
    have gx : Gx (fun q => q = b) w { w with heap := w.heap.setIfInBounds b (.map es' clock') } := ⟨rfl, rfl, rfl, by simp, fun q hq hn => Array.getElem?_setIfInBounds_ne (fun e => hn e.symm)⟩
    have hother : ∀ q, q ≠ b → ({ w with heap := w.heap.setIfInBounds b (.map es' clock') } : World).heap[q]? = w.heap[q]? := fun q hq => Array.getElem?_setIfInBounds_ne (fun e => hq e.symm)
    have hm : MapG b (⟨x, v, it⟩ :: ents) (x :: has) { w with heap := w.heap.setIfInBounds b (.map es' clock') } := by
      refine ⟨⟨es', clock', by simp [hlt], h1, h2⟩, fun t ht => ?_, fun t ht => ?_⟩
      · rcases List.mem_cons.1 ht with rfl | ht
        · intro w'' hs
          refine (H.ok j _ hj).kept w'' fun q hq => (hs q hq).trans (hother q fun e => hbj (e ▸ hq))
        · exact (hsub t ht).next fun q hq => hother q fun e => hoff t ht (e ▸ hq)
      · rcases List.mem_cons.1 ht with rfl | ht
        · exact hbj
        · exact hoff t ht
    refine h _ gx (H.join (it := mpG b (⟨x, v, it⟩ :: ents) (x :: has)) hij hi hj ⟨rfl, rfl, rfl, by simp, fun q hq hn => hother q fun e => hn (.inl (.inl e))⟩ (fun q hq => ?_) (fun q hq => ?_) fun w'' hs => hm.same hs)
    · rcases hq with hq | ⟨t, ht, hq⟩
      · exact .inl (.inl hq)
      · rcases List.mem_cons.1 ht with rfl | ht
        · exact .inr (.inl hq)
        · exact .inl (.inr ⟨t, ht, hq⟩)
    · show q < (w.heap.setIfInBounds b (.map es' clock')).size
      rw [Array.size_setIfInBounds]
      rcases hq with hq | ⟨t, ht, hq⟩
      · exact (H.ok i _ hi).hi q (.inl hq)
      · rcases List.mem_cons.1 ht with rfl | ht
        · exact (H.ok j _ hj).hi q hq
        · exact (H.ok i _ hi).hi q (.inr ⟨t, ht, hq⟩)
  rcases K.find w hx es.toList hG' with ⟨hf, _⟩ | ⟨m, e, hf, hm, hk⟩
  · refine fin (es.push { key := x, val := v, born := clock }) (clock + 1) (fun e he => ?_) (fun y hy => ?_) ?_
    · rw [Array.toList_push] at he
      rcases List.mem_append.1 he with he | he
      · obtain ⟨t, ht, h1⟩ := hes e he
        exact ⟨t, List.mem_cons_of_mem _ ht, h1⟩
      · obtain rfl := List.mem_singleton.1 he
        exact ⟨_, List.mem_cons_self .., rfl, rfl⟩
    · rw [Array.toList_push]
      rcases List.mem_cons.1 hy with rfl | hy
      · exact ⟨_, List.mem_append_right _ (List.mem_singleton.2 rfl), rfl⟩
      · obtain ⟨e, he, h1⟩ := hhas y hy
        exact ⟨e, List.mem_append_left _ he, h1⟩
    · simp [Instr.mapUpdate, run_underlying ht, hget, K.check w _ hx, hf, MapKept.run_setObj_map _ hb]
  · have hk2 : (es[m]?).map (·.key) = some x := by
      rw [← Array.getElem?_toList, hm, ← hk]
      rfl
    refine fin (es.modify m fun e => { e with key := x, val := v }) clock (fun e' he' => ?_) (fun y hy => ?_) ?_
    · obtain ⟨q, hq⟩ := List.getElem?_of_mem he'
      rw [Array.getElem?_toList, Array.getElem?_modify] at hq
      split at hq
      · cases h3 : es[q]? with
        | none => rw [h3] at hq; cases hq
        | some e0 =>
          rw [h3] at hq
          simp only [Option.map_some, Option.some.injEq] at hq
          rw [← hq]
          exact ⟨_, List.mem_cons_self .., rfl, rfl⟩
      · obtain ⟨t, ht, h1⟩ := hes e' (by
          rw [← Array.getElem?_toList] at hq
          exact List.mem_of_getElem? hq)
        exact ⟨t, List.mem_cons_of_mem _ ht, h1⟩
    · have key : ∃ e ∈ es.toList, e.key = y := by
        rcases List.mem_cons.1 hy with rfl | hy
        · exact ⟨e, List.mem_of_getElem? hm, hk⟩
        · exact hhas y hy
      obtain ⟨e0, he0, h0⟩ := key
      obtain ⟨q, hq⟩ := List.getElem?_of_mem he0
      rw [Array.getElem?_toList] at hq
      by_cases hmq : m = q
      · subst hmq
        rw [← Array.getElem?_toList, hm] at hq
        cases hq
        refine ⟨{ e with key := x, val := v }, List.mem_of_getElem? (i := m) ?_, by rw [← h0, hk]⟩
        rw [Array.getElem?_toList, Array.getElem?_modify, if_pos rfl, ← Array.getElem?_toList, hm]
        rfl
      · refine ⟨e0, List.mem_of_getElem? (i := q) ?_, h0⟩
        rw [Array.getElem?_toList, Array.getElem?_modify, if_neg hmq, hq]
    · simp [Instr.mapUpdate, run_underlying ht, hget, K.check w _ hx, hf, hk2, K.stays w hx, MapKept.run_setObj_map _ hb]
end
end Go.Sh
namespace Go.Proofs.Ytiohaeckagjebaa
open Go Go.Sh Go.RowKit Go.WideMaps
end Go.Proofs.Ytiohaeckagjebaa

/- What the program collects: the plain law; results that are held. -/
set_option linter.unusedVariables false
set_option linter.unusedSimpArgs false
set_option maxRecDepth 100000
namespace Go.Sh
open Go
theorem rise_nodup {l : List (List Int)} (h : Rise l) : l.Nodup := h.imp fun h e => by
  subst e
  exact ltL_irrefl _ h
/-- Enough of a set has been collected for its first M. -/
structure Coll (M : Nat) (S : List Int → Prop) (l : List (List Int)) : Prop where
  nodup : l.Nodup
  mem : ∀ x ∈ l, S x
  all : ∀ x, S x → x ∈ l ∨ Under M (fun y => y ∈ l) x
section
variable {M : Nat} {S S' : List Int → Prop} {l l' : List (List Int)}
theorem Coll.nil (h : ∀ x, ¬ S x) : Coll M S [] := ⟨List.nodup_nil, fun x hx => by simp at hx, fun x hx => absurd hx (h x)⟩
theorem Coll.congr (h : Coll M S l) (e : ∀ x, S' x ↔ S x) : Coll M S' l := ⟨h.nodup, fun x hx => (e x).2 (h.mem x hx), fun x hx => h.all x ((e x).1 hx)⟩
theorem Coll.append (h : Coll M S l) (h' : Firsts M S' l') (hd : ∀ x, S x → ¬ S' x) : Coll M (fun z => S z ∨ S' z) (l ++ l') := by
  refine ⟨List.nodup_append.2 ⟨h.nodup, rise_nodup h'.rise, fun a ha b hb e => ?_⟩, fun x hx => ?_, fun x hx => ?_⟩
  · subst e
    exact hd a (h.mem a ha) (h'.mem a hb)
  · rcases List.mem_append.1 hx with e | e
    · exact .inl (h.mem x e)
    · exact .inr (h'.mem x e)
  · rcases hx with hx | hx
    · rcases h.all x hx with e | e
      · exact .inl (List.mem_append_left _ e)
      · exact .inr (e.mono fun y hy => List.mem_append_left _ hy)
    · rcases h'.all x hx with e | ⟨e1, e2⟩
      · exact .inl (List.mem_append_right _ e)
      · exact .inr ⟨l', h'.rise, e1, fun y hy => ⟨List.mem_append_right _ hy, e2 y hy⟩⟩
/-- There is enough without those that come behind. -/
theorem Coll.full (h : Coll M S l) (hr : Rise l) (hM : M ≤ l.length) (hl : ∀ x y, S x → S' y → ltL x y) : Coll M (fun z => S z ∨ S' z) l := by
  refine ⟨h.nodup, fun x hx => .inl (h.mem x hx), fun x hx => ?_⟩
  rcases hx with hx | hx
  · exact h.all x hx
  · refine .inr ⟨l.take M, hr.sublist (List.take_sublist _ _), by rw [List.length_take]; omega, fun y hy => ?_⟩
    have := (List.take_sublist _ _).subset hy
    exact ⟨this, hl y x (h.mem y this) hx⟩
theorem Coll.done (h : Coll M S l) (hp : l'.Perm l) (hs : l'.Pairwise (fun a b => ¬ ltL b a)) : Firsts M S (l'.take M) := Firsts.sorted hp hs h.nodup h.mem h.all
end
theorem take_step {α : Type} {l : List α} {x : α} {M : Nat} : (l ++ [x]).take M = if l.length < M then l.take M ++ [x] else l.take M := by
  by_cases h : l.length < M
  · rw [if_pos h, List.take_of_length_le (by simp; omega), List.take_of_length_le (by omega)]
  · rw [if_neg h, List.take_append_of_le_length (by omega)]
theorem partL_len {F R : List (List Int)} {a b : Nat} (ha : a ≤ F.length) (hb : b ≤ R.length) : (partL F R a b).length = a * R.length + b := by
  unfold partL prodL
  rw [List.length_append, List.length_map, List.length_take, List.length_flatMap]
  have h : ∀ l : List (List Int), (l.map fun x => (R.map (x ++ ·)).length).sum = l.length * R.length := by
    intro l
    induction l with
    | nil => simp
    | cons x l ih =>
      rw [List.map_cons, List.sum_cons, ih, List.length_map, List.length_cons, Nat.add_mul]
      omega
  rw [h, List.length_take]
  rw [Nat.min_eq_left ha, Nat.min_eq_left hb]
/-! ### What is held -/
/-- All that is known is right. -/
def GoodT (M : Nat) (rs : List RuleL) (ws : List Int) (ents : List Ent) : Prop :=
  ∀ t ∈ ents, ∃ a i j s, a ≤ 1000 ∧ i ≤ 1000 ∧ j ≤ 1000 ∧ s ≤ 1000 ∧ t.key = keyV a i j s ∧ ∃ X c l ft ys, t.val = .slice X (List.length l) c ∧ t.it = rdf ft X l ys ∧ l.length ≤ c ∧ ∀ q p, a = q * 5 + p → p ≤ 4 → q < 100 → Firsts M (Der rs ws (.inr ((rul rs q).2.drop p)) i j s) l
def Held (ents : List Ent) (X : Option Addr) (l : List (List Int)) : Prop := l = [] ∨ ∃ t ∈ ents, ∃ ft ys, t.it = rdf ft X l ys
theorem Held.mono {ents ents' : List Ent} {X : Option Addr} {l : List (List Int)} (h : Held ents X l) (hs : ∀ t ∈ ents, t ∈ ents') : Held ents' X l := by
  rcases h with h | ⟨t, ht, ft, ys, e⟩
  · exact .inl h
  · exact .inr ⟨t, hs t ht, ft, ys, e⟩
theorem Held.read {ents : List Ent} {X : Option Addr} {l : List (List Int)} (h : Held ents X l) : ∃ ys, ∀ {w0 w : World} {L : List Thing} {b : Nat} {has : List Value}, Apt w0 w L → (i : Nat) → L[i]? = some (mpG b ents has) → IssP (fun _ => True) w X l ys := by
  rcases h with rfl | ⟨t, ht, ft, ys, e⟩
  · exact ⟨fun _ => (none, 0), fun {w0 w L b has} H i hi => ⟨by simp, fun h => by simp at h, fun h => trivial, fun j h => by simp at h⟩⟩
  · refine ⟨ys, fun {w0 w L b has} H i hi => ?_⟩
    have h1 : MapG b ents has w := H.get i hi
    have h2 := (h1.sub t ht).here
    rw [e] at h2
    have h3 : IssP ft w X l ys := h2
    exact ⟨h3.le, h3.ptr, fun _ => trivial, fun j hj => by
      obtain ⟨a, b, c⟩ := h3.row j hj
      exact ⟨a, b, c.mono fun _ _ => trivial⟩⟩
/-- A thing comes to those that are held. -/
theorem Apt.absorb {w0 w : World} {L : List Thing} (H : Apt w0 w L) (i j : Nat) (hij : i ≠ j) {b : Nat} {ents : List Ent} {has : List Value} {it : Thing} (hi : L[i]? = some (mpG b ents has)) (hj : L[j]? = some it) (x v : Value) : Apt w0 w ((L.set i (mpG b (⟨x, v, it⟩ :: ents) has)).set j emp) := by
  obtain ⟨⟨es, clock, hb, hes, hhas⟩, hsub, hoff⟩ : MapG b ents has w := H.get i hi
  have hm : MapG b (⟨x, v, it⟩ :: ents) has w := by
    refine ⟨⟨es, clock, hb, fun e he => ?_, hhas⟩, fun t ht => ?_, fun t ht => ?_⟩
    · obtain ⟨t, ht, h1⟩ := hes e he
      exact ⟨t, List.mem_cons_of_mem _ ht, h1⟩
    · rcases List.mem_cons.1 ht with rfl | ht
      · exact (H.ok j _ hj).kept
      · exact hsub t ht
    · rcases List.mem_cons.1 ht with rfl | ht
      · exact fun hb' => H.two i j _ _ hij hi hj b (.inl rfl) hb'
      · exact hoff t ht
  refine H.join (it := mpG b (⟨x, v, it⟩ :: ents) has) hij hi hj (Gx.refl _ w) (fun q hq => ?_) (fun q hq => ?_) fun w'' hs => hm.same hs
  · rcases hq with hq | ⟨t, ht, hq⟩
    · exact .inl (.inl hq)
    · rcases List.mem_cons.1 ht with rfl | ht
      · exact .inr (.inl hq)
      · exact .inl (.inr ⟨t, ht, hq⟩)
  · rcases hq with hq | ⟨t, ht, hq⟩
    · exact (H.ok i _ hi).hi q (.inl hq)
    · rcases List.mem_cons.1 ht with rfl | ht
      · exact (H.ok j _ hj).hi q hq
      · exact (H.ok i _ hi).hi q (.inr ⟨t, ht, hq⟩)
theorem GoodT.dummy {M : Nat} {rs : List RuleL} {ws : List Int} {ents : List Ent} (h : GoodT M rs ws ents) {X : Option Addr} {c : Nat} {l : List (List Int)} {ft : Nat → Prop} {ys : Nat → Option Addr × Nat} (hc : l.length ≤ c) : GoodT M rs ws (⟨keyV 1000 0 0 0, .slice X l.length c, rdf ft X l ys⟩ :: ents) := fun t ht => by
  rcases List.mem_cons.1 ht with rfl | ht
  · exact ⟨1000, 0, 0, 0, by omega, by omega, by omega, by omega, rfl, X, c, l, ft, ys, rfl, rfl, hc, fun q p h1 h2 h3 => by omega⟩
  · exact h t ht
theorem GoodT.real {M : Nat} {rs : List RuleL} {ws : List Int} {ents : List Ent} (h : GoodT M rs ws ents) {X : Option Addr} {c : Nat} {l : List (List Int)} {ft : Nat → Prop} {ys : Nat → Option Addr × Nat} (hc : l.length ≤ c) {q p i j s : Nat} (hq : q < 100) (hp : p ≤ 4) (hi : i ≤ 1000) (hj : j ≤ 1000) (hs : s ≤ 1000) (hf : Firsts M (Der rs ws (.inr ((rul rs q).2.drop p)) i j s) l) : GoodT M rs ws (⟨keyV (q * 5 + p) i j s, .slice X l.length c, rdf ft X l ys⟩ :: ents) := fun t ht => by
  rcases List.mem_cons.1 ht with rfl | ht
  · refine ⟨q * 5 + p, i, j, s, by omega, hi, hj, hs, rfl, X, c, l, ft, ys, rfl, rfl, hc, fun q' p' h1 h2 h3 => ?_⟩
    obtain ⟨rfl, rfl⟩ : q = q' ∧ p = p' := by omega
    exact hf
  · exact h t ht
theorem GoodT.get {M : Nat} {rs : List RuleL} {ws : List Int} {ents : List Ent} (h : GoodT M rs ws ents) {e : Ent} (he : e ∈ ents) {q p i j s : Nat} (hk : e.key = keyV (q * 5 + p) i j s) (hp : p ≤ 4) (hq : q < 100) : ∃ X c l ft ys, e.val = .slice X (List.length l) c ∧ e.it = rdf ft X l ys ∧ l.length ≤ c ∧ Firsts M (Der rs ws (.inr ((rul rs q).2.drop p)) i j s) l := by
  obtain ⟨a, i', j', s', h1, h2, h3, h4, h5, X, c, l, ft, ys, h6, h7, h8, h9⟩ := h e he
  rw [h5] at hk
  obtain ⟨e1, e2, e3, e4⟩ := keyV_inj hk
  subst e2 e3 e4
  exact ⟨X, c, l, ft, ys, h6, h7, h8, h9 q p e1 hp hq⟩
end Go.Sh
namespace Go.Proofs.Ytiohaeckagjebaa
open Go Go.Sh Go.RowKit Go.WideMaps
theorem map141 : Try.prog.underlying 141 = some (.map 186 48) := by kernel_rfl
theorem zero48 (w : World) : (zeroValue 48).run Try.prog w = .ok (.slice none 0 0) w := by
  obtain ⟨i, hi, hz, _, _⟩ := inf48
  simp [zeroValue, run_info hi, hz]
theorem goodT_key {M : Nat} {rs : List RuleL} {ws : List Int} {ents : List Ent} (h : GoodT M rs ws ents) : ∀ e ∈ ents, ∃ l, keyOf Try.prog 186 e.key = some l := fun e he => by
  obtain ⟨a, i, j, s, h1, h2, h3, h4, h5, _⟩ := h e he
  rw [h5]
  exact keyV_key h1 h2 h3 h4
def cellsTold (gm : Gram) (Y : Option Addr) (cy bt M bm : Nat) : List Value := [.int .i64 gm.nons, .int .i64 gm.toks, .slice Y gm.rules.length cy, ptrv bt, .int .i64 (M : Int), .map (some bm)]
section
variable {k : Value → World → Prop} {w0 w : World} {L : List Thing}
theorem newSSH (H : Apt w0 w L) (h : ∀ b w', Apt w0 w' (L ++ [lss (some ⟨b, 0, none⟩) 0 [] fun _ => (none, 0)]) → k (.slice (some ⟨b, 0, none⟩) 0 0) w') : Do Try.prog (sBuildSlice 48 0 []) k w :=
  do_build_of u48 inf22 (cells := []) (by decide) (by decide) (by simp [Instr.fill, madeCells]) rfl fun b w1 hb1 hb2 g hB hr => h b w1 (H.addLss g ⟨⟨[], hr _ (Nat.le_refl _), fun j hj => by simp at hj⟩, fun j hj => by simp at hj, fun i j hi => by simp at hi⟩)
end
/-- What the program's trees and rest do. -/
def TreesC (be : Nat) (gm : Gram) (ws : List Int) (M : Nat) (w0 : World) (L : List Ent → List Value → List Thing → List Thing) (N : Nat) : Prop :=
  ∀ ⦃A i j s : Nat⦄ ⦃w : World⦄ ⦃ents : List Ent⦄ ⦃has : List Value⦄ ⦃E : List Thing⦄ ⦃k : Value → World → Prop⦄, s * 10 ≤ N → A < 6 → i ≤ j → j ≤ ws.length → s ≤ 12 → GoodT M gm.rules ws ents → Apt w0 w (L ents has E) →
    (∀ w' ents' has' X c l, GoodT M gm.rules ws ents' → (∀ t ∈ ents, t ∈ ents') → Apt w0 w' (L ents' has' E) → Held ents' X l → l.length ≤ c → Firsts M (Der gm.rules ws (.inl A) i j s) l → k (.slice X l.length c) w') →
    CallK Try.prog 128 [ptrv be, .int .i64 A, .int .i64 i, .int .i64 j, .int .i64 s] k w
def RestC (be : Nat) (gm : Gram) (ws : List Int) (M : Nat) (w0 : World) (L : List Ent → List Value → List Thing → List Thing) (N : Nat) : Prop :=
  ∀ ⦃q p i j s : Nat⦄ ⦃w : World⦄ ⦃ents : List Ent⦄ ⦃has : List Value⦄ ⦃E : List Thing⦄ ⦃k : Value → World → Prop⦄, s * 10 + ((rul gm.rules q).2.length - p) + 1 ≤ N → q < gm.rules.length → p ≤ (rul gm.rules q).2.length → i ≤ j → j ≤ ws.length → s ≤ 12 → GoodT M gm.rules ws ents → Apt w0 w (L ents has E) →
    (∀ w' ents' has' X c l, GoodT M gm.rules ws ents' → (∀ t ∈ ents, t ∈ ents') → Apt w0 w' (L ents' has' E) → Held ents' X l → l.length ≤ c → Firsts M (Der gm.rules ws (.inr ((rul gm.rules q).2.drop p)) i j s) l → k (.slice X l.length c) w') →
    CallK Try.prog 169 [ptrv be, .int .i64 q, .int .i64 p, .int .i64 i, .int .i64 j, .int .i64 s] k w
end Go.Proofs.Ytiohaeckagjebaa

/- Contract: the first trees of a nonterminal (the program's told.trees). -/
set_option linter.unusedVariables false
set_option linter.unusedSimpArgs false
set_option maxRecDepth 100000
namespace Go.Proofs.Ytiohaeckagjebaa
open Go Go.Sh Go.RowKit Go.WideMaps
section
variable {F : Nat → Prop} {w0 : World} {gm : Gram} {X Y : Option Addr} {cx cy be bt bm M : Nat} {ws : List Int} {L : List Ent → List Value → List Thing → List Thing}
set_option maxHeartbeats 6400000 in
theorem trees_step (hM1 : 0 < M) (hM60 : M ≤ 60) (hg : goodG gm = true) (hy : RulesF F w0 Y gm.rules) (hl : ws.length ≤ 10)
    (hL : ∀ ents has E, L ents has E = bx be (cellsTold gm Y cy bt M bm) 143 :: bx bt (.slice X ws.length cx :: cellsT (spanT gm.rules ws)) 111 :: mpG bm ents has :: E) {N : Nat}
    (ihR : ∀ N', N = N' + 1 → RestC be gm ws M w0 L N') : TreesC be gm ws M w0 L N := by
  have hn6 := good_nons hg
  have hr16 := good_len hg
  have hleft6 := good_left6 hg
  have hB : ∀ {w : World} ents has (E : List Thing), Apt w0 w (bx be (cellsTold gm Y cy bt M bm) 143 :: bx bt (.slice X ws.length cx :: cellsT (spanT gm.rules ws)) 111 :: mpG bm ents has :: E) → Apt w0 w (L ents has E) := fun ents has E h => by rw [hL]; exact h
  intro A i j s w ents has E k hN hA hij hj hs hG H hk
  refine enter128 ?_
  unfold S128
  rw [hL] at H
  refine newSSH H fun b5 w1 H => ?_
  have H := H.insert 3
  simp only [List.take_succ_cons, List.take_zero, List.drop_succ_cons, List.drop_zero, List.nil_append, List.cons_append] at H
  have none_ : (∀ t, ¬ Der gm.rules ws (.inl A) i j s t) → k (.slice (some ⟨b5, 0, none⟩) 0 0) w1 := fun hno => by
    have H := H.erase 3
    simp only [List.eraseIdx_cons_zero, List.eraseIdx_cons_succ] at H
    exact hk w1 ents has _ 0 [] hG (fun t ht => ht) (hB _ _ _ H) (.inl rfl) (Nat.le_refl _) (Firsts.nil _ hno)
  by_cases hs0 : s = 0
  · subst hs0
    simp only [show (((0 : Nat) : Int) < 1) from by omega, decide_true, bin_add, bin_sub, bin_mul, bin_eql, bin_neq, bin_lss, bin_leq, bin_gtr, bin_geq, un_not, un_neg, pick_true, pick_false, extract_two_0, extract_two_1, nilCheck_pointer, cond_true', cond_false', guard_tt, guard_ff, guard_tf, guard_ft, guard_undef, seqQ_normal, seqQ_ret, seqQ_exit, blockQ_ret, blockQ_normal, blockQ_exit, bodyQ_ret, bodyQ_normal, resK_nil, resK_tmp, ite_T, ite_F, upd_at, add_plain, add_zero', len22, len35, len48, fa37_0, fa37_1, fa37_2, fa77_0, fa77_1, fa103_0, fa103_1, fa111_0, fa111_1, fa143_0, fa143_1, fa143_2, fa143_3, fa175_0, fa175_1, fa175_2, fa125_0, fa125_1, fa125_2, fa125_3, fa125_4, Nat.reduceEqDiff]
    refine none_ fun t ht => ?_
    have := der_posC ht
    rw [cntC_zero] at this
    omega
  simp only [show ¬ ((s : Int) < 1) from by omega, decide_false, bin_add, bin_sub, bin_mul, bin_eql, bin_neq, bin_lss, bin_leq, bin_gtr, bin_geq, un_not, un_neg, pick_true, pick_false, extract_two_0, extract_two_1, nilCheck_pointer, cond_true', cond_false', guard_tt, guard_ff, guard_tf, guard_ft, guard_undef, seqQ_normal, seqQ_ret, seqQ_exit, blockQ_ret, blockQ_normal, blockQ_exit, bodyQ_ret, bodyQ_normal, resK_nil, resK_tmp, ite_T, ite_F, upd_at, add_plain, add_zero', len22, len35, len48, fa37_0, fa37_1, fa37_2, fa77_0, fa77_1, fa103_0, fa103_1, fa111_0, fa111_1, fa143_0, fa143_1, fa143_2, fa143_3, fa175_0, fa175_1, fa175_2, fa125_0, fa125_1, fa125_2, fa125_3, fa125_4, Nat.reduceEqDiff]
  rw [ldB112 (H.box 0 rfl) rfl]
  simp only [bin_add, bin_sub, bin_mul, bin_eql, bin_neq, bin_lss, bin_leq, bin_gtr, bin_geq, un_not, un_neg, pick_true, pick_false, extract_two_0, extract_two_1, nilCheck_pointer, cond_true', cond_false', guard_tt, guard_ff, guard_tf, guard_ft, guard_undef, seqQ_normal, seqQ_ret, seqQ_exit, blockQ_ret, blockQ_normal, blockQ_exit, bodyQ_ret, bodyQ_normal, resK_nil, resK_tmp, ite_T, ite_F, upd_at, add_plain, add_zero', len22, len35, len48, fa37_0, fa37_1, fa37_2, fa77_0, fa77_1, fa103_0, fa103_1, fa111_0, fa111_1, fa143_0, fa143_1, fa143_2, fa143_3, fa175_0, fa175_1, fa175_2, fa125_0, fa125_1, fa125_2, fa125_3, fa125_4, Nat.reduceEqDiff]
  rw [ixa109 (by omega) (by omega), ixa108 (by omega) (by omega), ixa107 (by omega) (by omega)]
  simp only [Int.toNat_natCast, bin_add, bin_sub, bin_mul, bin_eql, bin_neq, bin_lss, bin_leq, bin_gtr, bin_geq, un_not, un_neg, pick_true, pick_false, extract_two_0, extract_two_1, nilCheck_pointer, cond_true', cond_false', guard_tt, guard_ff, guard_tf, guard_ft, guard_undef, seqQ_normal, seqQ_ret, seqQ_exit, blockQ_ret, blockQ_normal, blockQ_exit, bodyQ_ret, bodyQ_normal, resK_nil, resK_tmp, ite_T, ite_F, upd_at, add_plain, add_zero', len22, len35, len48, fa37_0, fa37_1, fa37_2, fa77_0, fa77_1, fa103_0, fa103_1, fa111_0, fa111_1, fa143_0, fa143_1, fa143_2, fa143_3, fa175_0, fa175_1, fa175_2, fa125_0, fa125_1, fa125_2, fa125_3, fa125_4, Nat.reduceEqDiff]
  rw [ldB4 (off := 0 + 1 + A * 121 + i * 11 + j) (H.box 1 rfl) (by rw [show 0 + 1 + A * 121 + i * 11 + j = A * 121 + i * 11 + j + 1 from by omega]; exact cellsT_at (by omega) (by omega) (by omega))]
  simp only [bin_add, bin_sub, bin_mul, bin_eql, bin_neq, bin_lss, bin_leq, bin_gtr, bin_geq, un_not, un_neg, pick_true, pick_false, extract_two_0, extract_two_1, nilCheck_pointer, cond_true', cond_false', guard_tt, guard_ff, guard_tf, guard_ft, guard_undef, seqQ_normal, seqQ_ret, seqQ_exit, blockQ_ret, blockQ_normal, blockQ_exit, bodyQ_ret, bodyQ_normal, resK_nil, resK_tmp, ite_T, ite_F, upd_at, add_plain, add_zero', len22, len35, len48, fa37_0, fa37_1, fa37_2, fa77_0, fa77_1, fa103_0, fa103_1, fa111_0, fa111_1, fa143_0, fa143_1, fa143_2, fa143_3, fa175_0, fa175_1, fa175_2, fa125_0, fa125_1, fa125_2, fa125_3, fa125_4, Nat.reduceEqDiff]
  cases hT : spanT gm.rules ws A i j
  · simp only [Bool.not_false, bin_add, bin_sub, bin_mul, bin_eql, bin_neq, bin_lss, bin_leq, bin_gtr, bin_geq, un_not, un_neg, pick_true, pick_false, extract_two_0, extract_two_1, nilCheck_pointer, cond_true', cond_false', guard_tt, guard_ff, guard_tf, guard_ft, guard_undef, seqQ_normal, seqQ_ret, seqQ_exit, blockQ_ret, blockQ_normal, blockQ_exit, bodyQ_ret, bodyQ_normal, resK_nil, resK_tmp, ite_T, ite_F, upd_at, add_plain, add_zero', len22, len35, len48, fa37_0, fa37_1, fa37_2, fa77_0, fa77_1, fa103_0, fa103_1, fa111_0, fa111_1, fa143_0, fa143_1, fa143_2, fa143_3, fa175_0, fa175_1, fa175_2, fa125_0, fa125_1, fa125_2, fa125_3, fa125_4, Nat.reduceEqDiff]
    refine none_ fun t ht => ?_
    rw [der_span hleft6 hl hj ht] at hT
    cases hT
  clear none_
  obtain ⟨s, rfl⟩ : ∃ s', s = s' + 1 := ⟨s - 1, by omega⟩
  obtain ⟨N', rfl⟩ : ∃ N', N = N' + 1 := ⟨N - 1, by omega⟩
  have ihR := ihR N' rfl
  simp only [Bool.not_true, bin_add, bin_sub, bin_mul, bin_eql, bin_neq, bin_lss, bin_leq, bin_gtr, bin_geq, un_not, un_neg, pick_true, pick_false, extract_two_0, extract_two_1, nilCheck_pointer, cond_true', cond_false', guard_tt, guard_ff, guard_tf, guard_ft, guard_undef, seqQ_normal, seqQ_ret, seqQ_exit, blockQ_ret, blockQ_normal, blockQ_exit, bodyQ_ret, bodyQ_normal, resK_nil, resK_tmp, ite_T, ite_F, upd_at, add_plain, add_zero', len22, len35, len48, fa37_0, fa37_1, fa37_2, fa77_0, fa77_1, fa103_0, fa103_1, fa111_0, fa111_1, fa143_0, fa143_1, fa143_2, fa143_3, fa175_0, fa175_1, fa175_2, fa125_0, fa125_1, fa125_2, fa125_3, fa125_4, Nat.reduceEqDiff]
  rw [ldB35 (H.box 0 rfl) rfl]
  simp only [bin_add, bin_sub, bin_mul, bin_eql, bin_neq, bin_lss, bin_leq, bin_gtr, bin_geq, un_not, un_neg, pick_true, pick_false, extract_two_0, extract_two_1, nilCheck_pointer, cond_true', cond_false', guard_tt, guard_ff, guard_tf, guard_ft, guard_undef, seqQ_normal, seqQ_ret, seqQ_exit, blockQ_ret, blockQ_normal, blockQ_exit, bodyQ_ret, bodyQ_normal, resK_nil, resK_tmp, ite_T, ite_F, upd_at, add_plain, add_zero', len22, len35, len48, fa37_0, fa37_1, fa37_2, fa77_0, fa77_1, fa103_0, fa103_1, fa111_0, fa111_1, fa143_0, fa143_1, fa143_2, fa143_3, fa175_0, fa175_1, fa175_2, fa125_0, fa125_1, fa125_2, fa125_3, fa125_4, Nat.reduceEqDiff]
  refine loop_to gm.rules.length 0 (fun q f w' => q ≤ gm.rules.length ∧ f 42 = .int .i64 q ∧ ∃ ents' has' X1 c1 ps1, ∃ ls : List (List Int), f 11 = .slice X1 ls.length c1 ∧ X1 ≠ none ∧ GoodT M gm.rules ws ents' ∧ (∀ t ∈ ents, t ∈ ents') ∧ Apt w0 w' (L ents' has' (lss X1 c1 ls ps1 :: E)) ∧ Rise ls ∧ Coll M (RuleD gm.rules ws A i j s q) ls ∧ ls.length ≤ 200)
    ⟨Nat.zero_le _, rfl, ents, has, _, 0, _, [], rfl, by simp, hG, fun t ht => ht, hB _ _ _ H, List.Pairwise.nil, Coll.nil (fun x hx => by obtain ⟨p, h1, _⟩ := hx; omega), by simp⟩ ?_
  clear H hG
  rintro q f w2 K hag ⟨hq, h42, ents1, has1, X1, c1, ps1, ls, h11, hX1, hG, hsub, H, hrise, hcoll, hlen⟩ hK
  rw [hL] at H
  have f40 : f 40 = .slice Y gm.rules.length cy := hag 40 (by decide)
  have f41 : f 41 = .int .i64 gm.rules.length := hag 41 (by decide)
  have f0 : f 0 = ptrv be := hag 0 (by decide)
  have f1 : f 1 = .int .i64 A := hag 1 (by decide)
  have f2 : f 2 = .int .i64 i := hag 2 (by decide)
  have f3 : f 3 = .int .i64 j := hag 3 (by decide)
  have f4 : f 4 = .int .i64 ((s + 1 : Nat) : Int) := hag 4 (by decide)
  simp only [f40, f41, f0, f1, f2, f3, f4, h42, h11, bin_add, bin_sub, bin_mul, bin_eql, bin_neq, bin_lss, bin_leq, bin_gtr, bin_geq, un_not, un_neg, pick_true, pick_false, extract_two_0, extract_two_1, nilCheck_pointer, cond_true', cond_false', guard_tt, guard_ff, guard_tf, guard_ft, guard_undef, seqQ_normal, seqQ_ret, seqQ_exit, blockQ_ret, blockQ_normal, blockQ_exit, bodyQ_ret, bodyQ_normal, resK_nil, resK_tmp, ite_T, ite_F, upd_at, add_plain, add_zero', len22, len35, len48, fa37_0, fa37_1, fa37_2, fa77_0, fa77_1, fa103_0, fa103_1, fa111_0, fa111_1, fa143_0, fa143_1, fa143_2, fa143_3, fa175_0, fa175_1, fa175_2, fa125_0, fa125_1, fa125_2, fa125_3, fa125_4, Nat.reduceEqDiff]
  by_cases hlq : q < gm.rules.length
  case neg =>
    simp only [show ¬ ((q : Int) < gm.rules.length) from by omega, decide_false, bin_add, bin_sub, bin_mul, bin_eql, bin_neq, bin_lss, bin_leq, bin_gtr, bin_geq, un_not, un_neg, pick_true, pick_false, extract_two_0, extract_two_1, nilCheck_pointer, cond_true', cond_false', guard_tt, guard_ff, guard_tf, guard_ft, guard_undef, seqQ_normal, seqQ_ret, seqQ_exit, blockQ_ret, blockQ_normal, blockQ_exit, bodyQ_ret, bodyQ_normal, resK_nil, resK_tmp, ite_T, ite_F, upd_at, add_plain, add_zero', len22, len35, len48, fa37_0, fa37_1, fa37_2, fa77_0, fa77_1, fa103_0, fa103_1, fa111_0, fa111_1, fa143_0, fa143_1, fa143_2, fa143_3, fa175_0, fa175_1, fa175_2, fa125_0, fa125_1, fa125_2, fa125_3, fa125_4, Nat.reduceEqDiff]
    obtain rfl : q = gm.rules.length := by omega
    refine firsts_c H 3 0 (by decide) (M := M) rfl rfl rfl hX1 rfl (by omega) fun w3 ls' ys' hp hs' H hle => ?_
    simp only [List.set_cons_zero, List.set_cons_succ] at H
    have H := (H.absorb 2 3 (by decide) rfl rfl (keyV 1000 0 0 0) (.slice X1 (ls'.take M).length c1)).erase 3
    simp only [List.set_cons_zero, List.set_cons_succ, List.eraseIdx_cons_zero, List.eraseIdx_cons_succ] at H
    exact hk w3 _ has1 X1 c1 (ls'.take M) (hG.dummy hle) (fun t ht => List.mem_cons_of_mem _ (hsub t ht)) (hB _ _ _ H) (.inr ⟨_, List.mem_cons_self .., _, _, rfl⟩) hle ((hcoll.done hp hs').congr fun t => ruleD_all)
  simp only [show ((q : Int) < gm.rules.length) from by omega, decide_true, bin_add, bin_sub, bin_mul, bin_eql, bin_neq, bin_lss, bin_leq, bin_gtr, bin_geq, un_not, un_neg, pick_true, pick_false, extract_two_0, extract_two_1, nilCheck_pointer, cond_true', cond_false', guard_tt, guard_ff, guard_tf, guard_ft, guard_undef, seqQ_normal, seqQ_ret, seqQ_exit, blockQ_ret, blockQ_normal, blockQ_exit, bodyQ_ret, bodyQ_normal, resK_nil, resK_tmp, ite_T, ite_F, upd_at, add_plain, add_zero', len22, len35, len48, fa37_0, fa37_1, fa37_2, fa77_0, fa77_1, fa103_0, fa103_1, fa111_0, fa111_1, fa143_0, fa143_1, fa143_2, fa143_3, fa175_0, fa175_1, fa175_2, fa125_0, fa125_1, fa125_2, fa125_3, fa125_4, Nat.reduceEqDiff]
  refine join_as (fun g w' => g 42 = .int .i64 q ∧ ∃ ents' has' X1 c1 ps1, ∃ ls : List (List Int), g 11 = .slice X1 ls.length c1 ∧ X1 ≠ none ∧ GoodT M gm.rules ws ents' ∧ (∀ t ∈ ents, t ∈ ents') ∧ Apt w0 w' (L ents' has' (lss X1 c1 ls ps1 :: E)) ∧ Rise ls ∧ Coll M (RuleD gm.rules ws A i j s (q + 1)) ls ∧ ls.length ≤ 200) (fun K1 hK1 => ?_) ?_
  case refine_2 =>
    rintro g w' ⟨g42, hrest⟩
    simp only [g42, bin_add, bin_sub, bin_mul, bin_eql, bin_neq, bin_lss, bin_leq, bin_gtr, bin_geq, un_not, un_neg, pick_true, pick_false, extract_two_0, extract_two_1, nilCheck_pointer, cond_true', cond_false', guard_tt, guard_ff, guard_tf, guard_ft, guard_undef, seqQ_normal, seqQ_ret, seqQ_exit, blockQ_ret, blockQ_normal, blockQ_exit, bodyQ_ret, bodyQ_normal, resK_nil, resK_tmp, ite_T, ite_F, upd_at, add_plain, add_zero', len22, len35, len48, fa37_0, fa37_1, fa37_2, fa77_0, fa77_1, fa103_0, fa103_1, fa111_0, fa111_1, fa143_0, fa143_1, fa143_2, fa143_3, fa175_0, fa175_1, fa175_2, fa125_0, fa125_1, fa125_2, fa125_3, fa125_4, Nat.reduceEqDiff]
    rw [i64_of (by omega) (by omega)]
    exact hK _ _ hlq ⟨hlq, rfl, hrest⟩
  obtain ⟨Z, cz, t1, t2, t3, t4⟩ := hy.row q hlq
  have hleft := good_left hg hlq
  have hR4 := good_rule hg q hlq
  obtain ⟨xl, hxl⟩ : ∃ x : Nat, (rul gm.rules q).1 = x := ⟨(rul gm.rules q).1.toNat, by omega⟩
  rw [hxl] at t1 hleft
  refine rdi (ixn35 hy.ptr hlq) ?_
  rw [ld_agg agg77 sz77 (cs := [.int .i64 xl, .slice Z (rul gm.rules q).2.length cz]) rfl (fun j hj => by
    match j, hj with
    | 0, _ => rw [add_add, Nat.add_zero]; exact H.gr.cell t1
    | 1, _ => rw [add_add]; exact H.gr.cell t2)]
  refine allocH H inf77 fun b3 w8 H => ?_
  have H := H.insert 3
  simp only [List.take_succ_cons, List.take_zero, List.drop_succ_cons, List.drop_zero, List.nil_append, List.cons_append] at H
  refine storeH H 3 rfl sz77 rfl rfl rfl fun w9 H => ?_
  simp only [List.nil_append, List.cons_append, List.set_cons_zero, List.set_cons_succ] at H
  simp only [bin_add, bin_sub, bin_mul, bin_eql, bin_neq, bin_lss, bin_leq, bin_gtr, bin_geq, un_not, un_neg, pick_true, pick_false, extract_two_0, extract_two_1, nilCheck_pointer, cond_true', cond_false', guard_tt, guard_ff, guard_tf, guard_ft, guard_undef, seqQ_normal, seqQ_ret, seqQ_exit, blockQ_ret, blockQ_normal, blockQ_exit, bodyQ_ret, bodyQ_normal, resK_nil, resK_tmp, ite_T, ite_F, upd_at, add_plain, add_zero', len22, len35, len48, fa37_0, fa37_1, fa37_2, fa77_0, fa77_1, fa103_0, fa103_1, fa111_0, fa111_1, fa143_0, fa143_1, fa143_2, fa143_3, fa175_0, fa175_1, fa175_2, fa125_0, fa125_1, fa125_2, fa125_3, fa125_4, Nat.reduceEqDiff]
  rw [ldB3 (H.box 3 rfl) rfl]
  have H := H.erase 3
  simp only [List.eraseIdx_cons_zero, List.eraseIdx_cons_succ] at H
  simp only [bin_add, bin_sub, bin_mul, bin_eql, bin_neq, bin_lss, bin_leq, bin_gtr, bin_geq, un_not, un_neg, pick_true, pick_false, extract_two_0, extract_two_1, nilCheck_pointer, cond_true', cond_false', guard_tt, guard_ff, guard_tf, guard_ft, guard_undef, seqQ_normal, seqQ_ret, seqQ_exit, blockQ_ret, blockQ_normal, blockQ_exit, bodyQ_ret, bodyQ_normal, resK_nil, resK_tmp, ite_T, ite_F, upd_at, add_plain, add_zero', len22, len35, len48, fa37_0, fa37_1, fa37_2, fa77_0, fa77_1, fa103_0, fa103_1, fa111_0, fa111_1, fa143_0, fa143_1, fa143_2, fa143_3, fa175_0, fa175_1, fa175_2, fa125_0, fa125_1, fa125_2, fa125_3, fa125_4, Nat.reduceEqDiff]
  by_cases hA' : xl = A
  case neg =>
    simp only [show ¬ ((xl : Int) = (A : Int)) from by omega, decide_false, Bool.not_false, bin_add, bin_sub, bin_mul, bin_eql, bin_neq, bin_lss, bin_leq, bin_gtr, bin_geq, un_not, un_neg, pick_true, pick_false, extract_two_0, extract_two_1, nilCheck_pointer, cond_true', cond_false', guard_tt, guard_ff, guard_tf, guard_ft, guard_undef, seqQ_normal, seqQ_ret, seqQ_exit, blockQ_ret, blockQ_normal, blockQ_exit, bodyQ_ret, bodyQ_normal, resK_nil, resK_tmp, ite_T, ite_F, upd_at, add_plain, add_zero', len22, len35, len48, fa37_0, fa37_1, fa37_2, fa77_0, fa77_1, fa103_0, fa103_1, fa111_0, fa111_1, fa143_0, fa143_1, fa143_2, fa143_3, fa175_0, fa175_1, fa175_2, fa125_0, fa125_1, fa125_2, fa125_3, fa125_4, Nat.reduceEqDiff]
    exact hK1 _ _ ⟨h42, ents1, has1, X1, c1, ps1, ls, h11, hX1, hG, hsub, hB _ _ _ H, hrise, hcoll.congr fun t => ruleD_skip (by omega), hlen⟩
  subst hA'
  simp only [show ((xl : Int) = (xl : Int)) from rfl, decide_true, Bool.not_true, bin_add, bin_sub, bin_mul, bin_eql, bin_neq, bin_lss, bin_leq, bin_gtr, bin_geq, un_not, un_neg, pick_true, pick_false, extract_two_0, extract_two_1, nilCheck_pointer, cond_true', cond_false', guard_tt, guard_ff, guard_tf, guard_ft, guard_undef, seqQ_normal, seqQ_ret, seqQ_exit, blockQ_ret, blockQ_normal, blockQ_exit, bodyQ_ret, bodyQ_normal, resK_nil, resK_tmp, ite_T, ite_F, upd_at, add_plain, add_zero', len22, len35, len48, fa37_0, fa37_1, fa37_2, fa77_0, fa77_1, fa103_0, fa103_1, fa111_0, fa111_1, fa143_0, fa143_1, fa143_2, fa143_3, fa175_0, fa175_1, fa175_2, fa125_0, fa125_1, fa125_2, fa125_3, fa125_4, Nat.reduceEqDiff]
  rw [ldB3 (H.box 0 rfl) rfl]
  simp only [bin_add, bin_sub, bin_mul, bin_eql, bin_neq, bin_lss, bin_leq, bin_gtr, bin_geq, un_not, un_neg, pick_true, pick_false, extract_two_0, extract_two_1, nilCheck_pointer, cond_true', cond_false', guard_tt, guard_ff, guard_tf, guard_ft, guard_undef, seqQ_normal, seqQ_ret, seqQ_exit, blockQ_ret, blockQ_normal, blockQ_exit, bodyQ_ret, bodyQ_normal, resK_nil, resK_tmp, ite_T, ite_F, upd_at, add_plain, add_zero', len22, len35, len48, fa37_0, fa37_1, fa37_2, fa77_0, fa77_1, fa103_0, fa103_1, fa111_0, fa111_1, fa143_0, fa143_1, fa143_2, fa143_3, fa175_0, fa175_1, fa175_2, fa125_0, fa125_1, fa125_2, fa125_3, fa125_4, Nat.reduceEqDiff]
  have hltr : ∀ x y, RuleD gm.rules ws xl i j s q x → (∃ r, Der gm.rules ws (.inr (rul gm.rules q).2) i j s r ∧ y = (q : Int) :: r) → ltL x y := fun x y hx hy => ruleD_lt hx hy
  by_cases hfull : M ≤ ls.length
  · simp only [show ((M : Int) ≤ (ls.length : Int)) from by omega, decide_true, bin_add, bin_sub, bin_mul, bin_eql, bin_neq, bin_lss, bin_leq, bin_gtr, bin_geq, un_not, un_neg, pick_true, pick_false, extract_two_0, extract_two_1, nilCheck_pointer, cond_true', cond_false', guard_tt, guard_ff, guard_tf, guard_ft, guard_undef, seqQ_normal, seqQ_ret, seqQ_exit, blockQ_ret, blockQ_normal, blockQ_exit, bodyQ_ret, bodyQ_normal, resK_nil, resK_tmp, ite_T, ite_F, upd_at, add_plain, add_zero', len22, len35, len48, fa37_0, fa37_1, fa37_2, fa77_0, fa77_1, fa103_0, fa103_1, fa111_0, fa111_1, fa143_0, fa143_1, fa143_2, fa143_3, fa175_0, fa175_1, fa175_2, fa125_0, fa125_1, fa125_2, fa125_3, fa125_4, Nat.reduceEqDiff]
    exact hK1 _ _ ⟨h42, ents1, has1, X1, c1, ps1, ls, h11, hX1, hG, hsub, hB _ _ _ H, hrise, (hcoll.full hrise hfull hltr).congr fun t => ruleD_step hlq hxl, hlen⟩
  simp only [show ¬ ((M : Int) ≤ (ls.length : Int)) from by omega, decide_false, bin_add, bin_sub, bin_mul, bin_eql, bin_neq, bin_lss, bin_leq, bin_gtr, bin_geq, un_not, un_neg, pick_true, pick_false, extract_two_0, extract_two_1, nilCheck_pointer, cond_true', cond_false', guard_tt, guard_ff, guard_tf, guard_ft, guard_undef, seqQ_normal, seqQ_ret, seqQ_exit, blockQ_ret, blockQ_normal, blockQ_exit, bodyQ_ret, bodyQ_normal, resK_nil, resK_tmp, ite_T, ite_F, upd_at, add_plain, add_zero', len22, len35, len48, fa37_0, fa37_1, fa37_2, fa77_0, fa77_1, fa103_0, fa103_1, fa111_0, fa111_1, fa143_0, fa143_1, fa143_2, fa143_3, fa175_0, fa175_1, fa175_2, fa125_0, fa125_1, fa125_2, fa125_3, fa125_4, Nat.reduceEqDiff]
  rw [i64_of (by omega) (by omega), show ((s + 1 : Nat) : Int) - 1 = (s : Int) from by omega]
  refine ihR (q := q) (p := 0) (i := i) (j := j) (s := s) (by omega) hlq (Nat.zero_le _) hij hj (by omega) hG (hB _ _ _ H) fun w3 ents2 has2 Xr cr rl hG2 hsub2 H hheld hrc hrF => ?_
  rw [List.drop_zero] at hrF
  have hrl := hrF.len
  obtain ⟨ysr, hheldr⟩ := hheld.read
  simp only [bin_add, bin_sub, bin_mul, bin_eql, bin_neq, bin_lss, bin_leq, bin_gtr, bin_geq, un_not, un_neg, pick_true, pick_false, extract_two_0, extract_two_1, nilCheck_pointer, cond_true', cond_false', guard_tt, guard_ff, guard_tf, guard_ft, guard_undef, seqQ_normal, seqQ_ret, seqQ_exit, blockQ_ret, blockQ_normal, blockQ_exit, bodyQ_ret, bodyQ_normal, resK_nil, resK_tmp, ite_T, ite_F, upd_at, add_plain, add_zero', len22, len35, len48, fa37_0, fa37_1, fa37_2, fa77_0, fa77_1, fa103_0, fa103_1, fa111_0, fa111_1, fa143_0, fa143_1, fa143_2, fa143_3, fa175_0, fa175_1, fa175_2, fa125_0, fa125_1, fa125_2, fa125_3, fa125_4, Nat.reduceEqDiff]
  have hsub' : ∀ t ∈ ents, t ∈ ents2 := fun t ht => hsub2 t (hsub t ht)
  refine loop_to rl.length 0 (fun a g w' => a ≤ rl.length ∧ g 68 = .int .i64 a ∧ g 42 = .int .i64 q ∧ ∃ X1 c1 ps1, g 11 = .slice X1 (ls ++ (rl.take a).map ((q : Int) :: ·)).length c1 ∧ X1 ≠ none ∧ Apt w0 w' (L ents2 has2 (lss X1 c1 (ls ++ (rl.take a).map ((q : Int) :: ·)) ps1 :: E)))
    ⟨Nat.zero_le _, rfl, h42, X1, c1, ps1, by simp only [List.take_zero, List.map_nil, List.append_nil]; exact h11, hX1, by simp only [List.take_zero, List.map_nil, List.append_nil]; exact H⟩ ?_
  clear H
  rintro a g w4 K2 hag2 ⟨ha, a68, a42, X2, c2, ps2, a11, hX2, H⟩ hK2
  have a67 : g 67 = .int .i64 rl.length := hag2 67 (by decide)
  have a66 : g 66 = .slice Xr rl.length cr := hag2 66 (by decide)
  have a12 : g 12 = .int .i64 q := hag2 12 (by decide)
  simp only [a67, a68, bin_add, bin_sub, bin_mul, bin_eql, bin_neq, bin_lss, bin_leq, bin_gtr, bin_geq, un_not, un_neg, pick_true, pick_false, extract_two_0, extract_two_1, nilCheck_pointer, cond_true', cond_false', guard_tt, guard_ff, guard_tf, guard_ft, guard_undef, seqQ_normal, seqQ_ret, seqQ_exit, blockQ_ret, blockQ_normal, blockQ_exit, bodyQ_ret, bodyQ_normal, resK_nil, resK_tmp, ite_T, ite_F, upd_at, add_plain, add_zero', len22, len35, len48, fa37_0, fa37_1, fa37_2, fa77_0, fa77_1, fa103_0, fa103_1, fa111_0, fa111_1, fa143_0, fa143_1, fa143_2, fa143_3, fa175_0, fa175_1, fa175_2, fa125_0, fa125_1, fa125_2, fa125_3, fa125_4, Nat.reduceEqDiff]
  by_cases hal : a < rl.length
  case neg =>
    simp only [show ¬ ((a : Int) < rl.length) from by omega, decide_false, bin_add, bin_sub, bin_mul, bin_eql, bin_neq, bin_lss, bin_leq, bin_gtr, bin_geq, un_not, un_neg, pick_true, pick_false, extract_two_0, extract_two_1, nilCheck_pointer, cond_true', cond_false', guard_tt, guard_ff, guard_tf, guard_ft, guard_undef, seqQ_normal, seqQ_ret, seqQ_exit, blockQ_ret, blockQ_normal, blockQ_exit, bodyQ_ret, bodyQ_normal, resK_nil, resK_tmp, ite_T, ite_F, upd_at, add_plain, add_zero', len22, len35, len48, fa37_0, fa37_1, fa37_2, fa77_0, fa77_1, fa103_0, fa103_1, fa111_0, fa111_1, fa143_0, fa143_1, fa143_2, fa143_3, fa175_0, fa175_1, fa175_2, fa125_0, fa125_1, fa125_2, fa125_3, fa125_4, Nat.reduceEqDiff]
    obtain rfl : a = rl.length := by omega
    rw [List.take_of_length_le (Nat.le_refl _)] at a11 H
    have hF2 := hrF.map (q : Int)
    refine hK1 _ _ ⟨a42, ents2, has2, X2, c2, ps2, _, a11, hX2, hG2, hsub', H, ?_, ?_, ?_⟩
    · refine List.pairwise_append.2 ⟨hrise, hF2.rise, fun x hx y hy => hltr x y (hcoll.mem x hx) (hF2.mem y hy)⟩
    · refine (hcoll.append hF2 fun x hx hx' => ltL_irrefl x (hltr x x hx hx')).congr fun t => ruleD_step hlq hxl
    · rw [List.length_append, List.length_map]
      omega
  simp only [show ((a : Int) < rl.length) from by omega, decide_true, bin_add, bin_sub, bin_mul, bin_eql, bin_neq, bin_lss, bin_leq, bin_gtr, bin_geq, un_not, un_neg, pick_true, pick_false, extract_two_0, extract_two_1, nilCheck_pointer, cond_true', cond_false', guard_tt, guard_ff, guard_tf, guard_ft, guard_undef, seqQ_normal, seqQ_ret, seqQ_exit, blockQ_ret, blockQ_normal, blockQ_exit, bodyQ_ret, bodyQ_normal, resK_nil, resK_tmp, ite_T, ite_F, upd_at, add_plain, add_zero', len22, len35, len48, fa37_0, fa37_1, fa37_2, fa77_0, fa77_1, fa103_0, fa103_1, fa111_0, fa111_1, fa143_0, fa143_1, fa143_2, fa143_3, fa175_0, fa175_1, fa175_2, fa125_0, fa125_1, fa125_2, fa125_3, fa125_4, Nat.reduceEqDiff]
  simp only [a66, a12, a11, bin_add, bin_sub, bin_mul, bin_eql, bin_neq, bin_lss, bin_leq, bin_gtr, bin_geq, un_not, un_neg, pick_true, pick_false, extract_two_0, extract_two_1, nilCheck_pointer, cond_true', cond_false', guard_tt, guard_ff, guard_tf, guard_ft, guard_undef, seqQ_normal, seqQ_ret, seqQ_exit, blockQ_ret, blockQ_normal, blockQ_exit, bodyQ_ret, bodyQ_normal, resK_nil, resK_tmp, ite_T, ite_F, upd_at, add_plain, add_zero', len22, len35, len48, fa37_0, fa37_1, fa37_2, fa77_0, fa77_1, fa103_0, fa103_1, fa111_0, fa111_1, fa143_0, fa143_1, fa143_2, fa143_3, fa175_0, fa175_1, fa175_2, fa125_0, fa125_1, fa125_2, fa125_3, fa125_4, Nat.reduceEqDiff]
  rw [hL] at H
  have hread := hheldr H 2 rfl
  obtain ⟨tb1, tb2, tb3⟩ := hread.row a hal
  have tb3 := tb3.is
  have hbl : (rgt rl a).length = s := der_len (hrF.mem _ (rgt_mem hal))
  refine rdi (ixn48 hread.ptr hal) (rdi (ld22 tb1) ?_)
  have hll2 : (ls ++ (rl.take a).map ((q : Int) :: ·)).length ≤ 300 := by
    rw [List.length_append, List.length_map, List.length_take]
    omega
  refine do_build_of u22 inf3 (cells := [.int .i64 (q : Int)]) (by decide) (by decide) (by simp [Instr.fill, madeCells, Value.cells, rng1]) rfl fun b1 w6 hb1 hb2 g6 hB6 hr6 => ?_
  have H := H.addOwn (xs := [(q : Int)]) g6 (hr6 _ (Nat.le_refl _))
  have H := H.insert 4
  simp only [List.take_succ_cons, List.take_zero, List.drop_succ_cons, List.drop_zero, List.nil_append, List.cons_append] at H
  refine apH H 4 rfl (tb3.gr g6) rfl rfl (by simp; omega) fun X7 c7 w7 H => ?_
  simp only [List.set_cons_zero, List.set_cons_succ] at H
  refine pushSSH H 3 4 (by decide) rfl rfl rfl rfl (by omega) fun t8 X8 c8 w8 ps8 H => ?_
  simp only [List.set_cons_zero, List.set_cons_succ] at H
  have H := H.erase 4
  simp only [List.eraseIdx_cons_zero, List.eraseIdx_cons_succ] at H
  have hX8 : X8 ≠ none := fun e => by
    have := (H.lssi 3 rfl).ptr (by rw [List.length_append, List.length_singleton]; omega)
    rw [e] at this
    cases this
  rw [i64_of (by omega) (by omega)]
  have e : ls ++ (rl.take (a + 1)).map ((q : Int) :: ·) = ls ++ (rl.take a).map ((q : Int) :: ·) ++ [[(q : Int)] ++ rgt rl a] := by
    rw [take_snoc_rgt hal, List.map_append, List.append_assoc]
    rfl
  refine hK2 _ _ hal ⟨hal, rfl, a42, X8, c8, ps8, ?_, hX8, ?_⟩
  · rw [e]
    rfl
  · rw [e]
    exact hB _ _ _ H
end
end Go.Proofs.Ytiohaeckagjebaa

/- Contracts: how few changes make a symbol, a row of symbols (the program's one, rest). -/
set_option linter.unusedVariables false
set_option linter.unusedSimpArgs false
set_option maxRecDepth 100000
namespace Go.Proofs.Ytiohaeckagjebaa
open Go Go.Sh Go.RowKit
end Go.Proofs.Ytiohaeckagjebaa

/- Contract: the program's table of mending (mends). -/
set_option linter.unusedVariables false
set_option linter.unusedSimpArgs false
set_option maxRecDepth 100000
namespace Go.Proofs.Ytiohaeckagjebaa
open Go Go.Sh Go.RowKit
end Go.Proofs.Ytiohaeckagjebaa
