/- Bb: bodies of functions as terms of the frame calculus, printed by shgen.py of this repository. -/
import Derived.Test.YtiohaeckagjebaaProg
import Derived.Test.YtiohaeckagjebaaSh1
import Derived.Test.YtiohaeckagjebaaShA
set_option linter.unusedVariables false
set_option maxRecDepth 100000
namespace Go.Proofs.Ytiohaeckagjebaa
open Go Go.Sh

/-! loop.example/g00758/laws.FnExactLongEnough -/
def pl4 : Plans := fun i => match i with
  | 10 => ⟨true, [3], .step 0 .held (.step 1 .held (.step 2 .one (.step 3 .last (.step 4 .any (.nil)))))⟩
  | _ => ⟨false, [], .nil⟩
def S4 (v0 : Value) (k : Value → World → Prop) (w : World) : Prop :=
 Do Try.prog (sBox 31 v0) (fun t1 w2 =>
 Rd Try.prog (WS.at w2) (sLoad 31 t1) fun t3 =>
 CallK Try.prog 29 [t3, (.int .i64 1048576)] (fun t4 w5 =>
 Rd Try.prog (WS.at w5) (sBin .lss 3 true t4 (.int .i64 0)) fun t6 =>
 CondK t6
  (k (.bool true) w5)
  (Rd Try.prog (WS.at w5) (sLoad 31 t1) fun t7 =>
  CallK Try.prog 31 [t7] (fun t8 w9 =>
  CallK Try.prog 30 [t8] (fun t10 w11 =>
  Rd Try.prog (WS.at w11) (sExtract t10 0) fun t12 =>
  Rd Try.prog (WS.at w11) (sExtract t10 1) fun t13 =>
  Rd Try.prog (WS.at w11) (sLoad 31 t1) fun t14 =>
  CallK Try.prog 31 [t14] (fun t15 w16 =>
  Do Try.prog (sAlloc 37) (fun t17 w18 =>
  Do Try.prog (sStore 37 t17 t15) (fun _ w19 =>
  Rd Try.prog (WS.at w19) (sLoad 37 t17) fun t20 =>
  CallK Try.prog 32 [t20] (fun t21 w22 =>
  Rd Try.prog (WS.at w22) (sExtract t21 0) fun t23 =>
  Rd Try.prog (WS.at w22) (sExtract t21 1) fun t24 =>
  Rd Try.prog (WS.at w22) (sBin .neq 3 false t23 t12) fun t25 =>
  GuardK t25 false (fun k w' => k t24 w') (fun t26 w27 =>
  GuardK t25 false (fun k w' => k t13 w') (fun t28 w29 =>
  GuardK t25 false (fun k w' => Rd Try.prog (WS.at w29) (sBin .neq 4 false t26 t28) fun v => k v w') (fun t30 w31 =>
  Rd Try.prog (WS.at w31) (sPick t25 (.bool true) t30) fun t32 =>
  CondK t32
   (k (.bool false) w31)
   (∃ S33 : World → Prop, ∃ h34 : S33 w31.drew,
   Rd Try.prog ⟨S33, w31.drew, h34⟩ (sLoad 37 t17) fun t35 =>
   Rd Try.prog ⟨S33, w31.drew, h34⟩ (sLoad 31 t1) fun t36 =>
   CallK Try.prog 31 [t36] (fun t37 w38 =>
   S33 w38 ∧ CallK Try.prog 33 [t35, t37] (fun t39 w40 =>
   Rd Try.prog WS.any (sUn .not t39) fun t41 =>
   CondK t41
    (k (.bool false) w40)
    (k (.bool true) w40)) w38) w31.drew)) w29) w27) w22) w19) w18) w16) w11) w9) w5)) w2) w
theorem body4 : Try.f4.body = some (bodyOf Try.f4) := by kernel_rfl
theorem same4 (v0 : Value) (k : Value → World → Prop) (w : World) : wpF Try.prog pl4 (bodyOf Try.f4) (bodyQ Try.prog Try.f4.results.toList k) (initF [v0]) w = S4 v0 k w := by kernel_rfl
theorem enter4 {v0 : Value} {k : Value → World → Prop} {w : World} (h : S4 v0 k w) : CallK Try.prog 4 [v0] k w :=
  call_of_wpF (pl := pl4) mixed Try.func4 body4 (by kernel_rfl) (of_decide_eq_true (by kernel_rfl)) (by kernel_rfl) (by kernel_rfl) (same4 v0 k w ▸ h)

/-! loop.example/g00758/laws.szGrammar -/
def pl29 : Plans := fun _ => ⟨false, [], .nil⟩
def S29 (v0 v1 : Value) (k : Value → World → Prop) (w : World) : Prop :=
 Do Try.prog (sBox 31 v0) (fun t1 w2 =>
 Rd Try.prog (WS.at w2) (sFieldAddr 31 t1 2) fun t3 =>
 Rd Try.prog (WS.at w2) (sLoad 29 t3) fun t4 =>
 CallK Try.prog 80 [t4, v1] (fun t5 w6 =>
 Rd Try.prog (WS.at w6) (sBin .lss 3 true t5 (.int .i64 0)) fun t7 =>
 CondK t7
  (k (.int .i64 (-1)) w6)
  (k t5 w6)) w2) w
theorem body29 : Try.f29.body = some (bodyOf Try.f29) := by kernel_rfl
theorem same29 (v0 v1 : Value) (k : Value → World → Prop) (w : World) : wpF Try.prog pl29 (bodyOf Try.f29) (bodyQ Try.prog Try.f29.results.toList k) (initF [v0, v1]) w = S29 v0 v1 k w := by kernel_rfl
theorem enter29 {v0 v1 : Value} {k : Value → World → Prop} {w : World} (h : S29 v0 v1 k w) : CallK Try.prog 29 [v0, v1] k w :=
  call_of_wpF (pl := pl29) mixed Try.func29 body29 (by kernel_rfl) (of_decide_eq_true (by kernel_rfl)) (by kernel_rfl) (by kernel_rfl) (same29 v0 v1 k w ▸ h)

/-! loop.example/g00758/spec.LongEnough -/
def pl30 : Plans := fun _ => ⟨false, [], .nil⟩
def S30 (v0 : Value) (k : Value → World → Prop) (w : World) : Prop :=
 Do Try.prog (sBox 37 v0) (fun t1 w2 =>
 Rd Try.prog (WS.at w2) (sLoad 37 t1) fun t3 =>
 CallK Try.prog 81 [t3] (fun t4 w5 =>
 Rd Try.prog (WS.at w5) (sUn .not t4) fun t6 =>
 CondK t6
  (k (.tuple #[(.int .i64 0), (.bool false)]) w5)
  (Rd Try.prog (WS.at w5) (sFieldAddr 37 t1 2) fun t7 =>
  Rd Try.prog (WS.at w5) (sLoad 35 t7) fun t8 =>
  Rd Try.prog (WS.at w5) (sBuiltin .len #[35] 3 [false] [t8]) fun t9 =>
  LoopF [16, 17, 18, 6, 19, 20, 21, 22, 23, 4, 24, 15] (fun Q10 f11 w12 =>
   Rd Try.prog (WS.at w12) (sBin .lss 3 false (f11 15) (f11 14)) fun t13 =>
   CondK t13
    (Rd Try.prog (WS.at w12) (sIndexAddr 35 (f11 13) (f11 15)) fun t14 =>
    Rd Try.prog (WS.at w12) (sLoad 77 t14) fun t15 =>
    Do Try.prog (sAlloc 77) (fun t16 w17 =>
    Do Try.prog (sStore 77 t16 t15) (fun _ w18 =>
    Rd Try.prog (WS.at w18) (sFieldAddr 77 t16 1) fun t19 =>
    Rd Try.prog (WS.at w18) (sLoad 22 t19) fun t20 =>
    Rd Try.prog (WS.at w18) (sBuiltin .len #[22] 3 [false] [t20]) fun t21 =>
    CallK Try.prog 82 [(f11 4), t21] (fun t22 w23 =>
    Rd Try.prog (WS.at w23) (sBin .add 3 true (f11 15) (.int .i64 1)) fun t24 =>
    Q10 .normal (F.upd (F.upd (F.upd (F.upd (F.upd (F.upd (F.upd (F.upd (F.upd (F.upd (F.upd (F.upd f11 16 t13) 17 t14) 18 t15) 6 t16) 19 (f11 4)) 20 t19) 21 t20) 22 t21) 23 t22) 4 t22) 24 t24) 15 t24) w23) w18) w17) w12)
    (Q10 (.exit 0) (F.upd f11 16 t13) w12))
   (blockQ 0 (seqQ (fun f25 w26 =>
  LoopF [25, 26, 27, 28, 31, 32, 33, 7, 29, 30, 8] (fun Q27 f28 w29 =>
   Rd Try.prog (WS.at w29) (sFieldAddr 37 (f28 1) 0) fun t30 =>
   Rd Try.prog (WS.at w29) (sLoad 3 t30) fun t31 =>
   Rd Try.prog (WS.at w29) (sBin .lss 3 false (f28 8) t31) fun t32 =>
   CondK t32
    (Rd Try.prog (WS.at w29) (sBin .mul 3 false (f28 7) (f28 4)) fun t33 =>
    Rd Try.prog (WS.at w29) (sBin .add 3 true (f28 8) (.int .i64 1)) fun t34 =>
    Q27 .normal (F.upd (F.upd (F.upd (F.upd (F.upd (F.upd (F.upd (F.upd (F.upd (F.upd (F.upd f28 25 (f28 8)) 26 t30) 27 t31) 28 t32) 31 (f28 7)) 32 (f28 4)) 33 t33) 7 t33) 29 (f28 8)) 30 t34) 8 t34) w29)
    (Q27 (.exit 2) (F.upd (F.upd (F.upd (F.upd f28 25 (f28 8)) 26 t30) 27 t31) 28 t32) w29))
   (blockQ 2 (seqQ (fun f35 w36 =>
  Rd Try.prog (WS.at w36) (sBin .add 3 true (f35 7) (.int .i64 1)) fun t37 =>
  Rd Try.prog (WS.at w36) (sBin .gtr 3 true t37 (.int .i64 1000)) fun t38 =>
  CondK t38
   (k (.tuple #[(.int .i64 0), (.bool false)]) w36)
   (Rd Try.prog (WS.at w36) (sBin .add 3 true (f35 7) (.int .i64 1)) fun t39 =>
   k (.tuple #[t39, (.bool true)]) w36)) (bodyQ Try.prog [.tmp 2, .tmp 3] k)))
   (F.upd (F.upd f25 7 (.int .i64 1)) 8 (.int .i64 0)) w26) (bodyQ Try.prog [.tmp 2, .tmp 3] k)))
   (F.upd (F.upd (F.upd (F.upd (F.upd (F.upd (F.upd (F.upd (F.upd (F.upd (F.upd (initF [v0]) 1 t1) 2 (.int .i64 0)) 3 (.bool false)) 9 t3) 10 t4) 11 t6) 4 (.int .i64 2)) 12 t7) 13 t8) 14 t9) 15 (.int .i64 0)) w5)) w2) w
theorem body30 : Try.f30.body = some (bodyOf Try.f30) := by kernel_rfl
theorem same30 (v0 : Value) (k : Value → World → Prop) (w : World) : wpF Try.prog pl30 (bodyOf Try.f30) (bodyQ Try.prog Try.f30.results.toList k) (initF [v0]) w = S30 v0 k w := by kernel_rfl
theorem enter30 {v0 : Value} {k : Value → World → Prop} {w : World} (h : S30 v0 k w) : CallK Try.prog 30 [v0] k w :=
  call_of_wpF (pl := pl30) mixed Try.func30 body30 (by kernel_rfl) (of_decide_eq_true (by kernel_rfl)) (by kernel_rfl) (by kernel_rfl) (same30 v0 k w ▸ h)

/-! loop.example/g00758/laws.toGrammar -/
def pl31 : Plans := fun _ => ⟨false, [], .nil⟩
def S31 (v0 : Value) (k : Value → World → Prop) (w : World) : Prop :=
 Do Try.prog (sBox 31 v0) (fun t1 w2 =>
 Do Try.prog (sAlloc 37) (fun t3 w4 =>
 Do Try.prog (sAlloc 37) (fun t5 w6 =>
 Rd Try.prog (WS.at w6) (sFieldAddr 31 t1 0) fun t7 =>
 Rd Try.prog (WS.at w6) (sLoad 3 t7) fun t8 =>
 Rd Try.prog (WS.at w6) (sFieldAddr 37 t5 0) fun t9 =>
 Do Try.prog (sStore 3 t9 t8) (fun _ w10 =>
 Rd Try.prog (WS.at w10) (sFieldAddr 31 t1 1) fun t11 =>
 Rd Try.prog (WS.at w10) (sLoad 3 t11) fun t12 =>
 Rd Try.prog (WS.at w10) (sFieldAddr 37 t5 1) fun t13 =>
 Do Try.prog (sStore 3 t13 t12) (fun _ w14 =>
 Rd Try.prog (WS.at w14) (sFieldAddr 31 t1 2) fun t15 =>
 Rd Try.prog (WS.at w14) (sLoad 29 t15) fun t16 =>
 CallK Try.prog 83 [t16] (fun t17 w18 =>
 Rd Try.prog (WS.at w18) (sFieldAddr 37 t5 2) fun t19 =>
 Do Try.prog (sStore 35 t19 t17) (fun _ w20 =>
 Rd Try.prog (WS.at w20) (sLoad 37 t5) fun t21 =>
 Do Try.prog (sStore 37 t3 t21) (fun _ w22 =>
 Rd Try.prog (WS.at w22) (sLoadVar 37 t3) fun t23 => k t23 w22) w20) w18) w14) w10) w6) w4) w2) w
theorem body31 : Try.f31.body = some (bodyOf Try.f31) := by kernel_rfl
theorem same31 (v0 : Value) (k : Value → World → Prop) (w : World) : wpF Try.prog pl31 (bodyOf Try.f31) (bodyQ Try.prog Try.f31.results.toList k) (initF [v0]) w = S31 v0 k w := by kernel_rfl
theorem enter31 {v0 : Value} {k : Value → World → Prop} {w : World} (h : S31 v0 k w) : CallK Try.prog 31 [v0] k w :=
  call_of_wpF (pl := pl31) mixed Try.func31 body31 (by kernel_rfl) (of_decide_eq_true (by kernel_rfl)) (by kernel_rfl) (by kernel_rfl) (same31 v0 k w ▸ h)

/-! loop.example/g00758/impl.LongEnough -/
def pl32 : Plans := fun _ => ⟨false, [], .nil⟩
def S32 (v0 : Value) (k : Value → World → Prop) (w : World) : Prop :=
 Do Try.prog (sBox 37 v0) (fun t1 w2 =>
 Rd Try.prog (WS.at w2) (sLoad 37 t1) fun t3 =>
 CallK Try.prog 84 [t3] (fun t4 w5 =>
 Rd Try.prog (WS.at w5) (sUn .not t4) fun t6 =>
 CondK t6
  (k (.tuple #[(.int .i64 0), (.bool false)]) w5)
  (Rd Try.prog (WS.at w5) (sFieldAddr 37 t1 2) fun t7 =>
  Rd Try.prog (WS.at w5) (sLoad 35 t7) fun t8 =>
  Rd Try.prog (WS.at w5) (sBuiltin .len #[35] 3 [false] [t8]) fun t9 =>
  LoopF [15, 16, 17, 6, 18, 19, 20, 21, 22, 4, 23, 14] (fun Q10 f11 w12 =>
   Rd Try.prog (WS.at w12) (sBin .lss 3 false (f11 14) (f11 13)) fun t13 =>
   CondK t13
    (Rd Try.prog (WS.at w12) (sIndexAddr 35 (f11 12) (f11 14)) fun t14 =>
    Rd Try.prog (WS.at w12) (sLoad 77 t14) fun t15 =>
    Do Try.prog (sAlloc 77) (fun t16 w17 =>
    Do Try.prog (sStore 77 t16 t15) (fun _ w18 =>
    Rd Try.prog (WS.at w18) (sFieldAddr 77 t16 1) fun t19 =>
    Rd Try.prog (WS.at w18) (sLoad 22 t19) fun t20 =>
    Rd Try.prog (WS.at w18) (sBuiltin .len #[22] 3 [false] [t20]) fun t21 =>
    Rd Try.prog (WS.at w18) (sBuiltin .max #[3, 3] 3 [false, false] [(f11 4), t21]) fun t22 =>
    Rd Try.prog (WS.at w18) (sBin .add 3 true (f11 14) (.int .i64 1)) fun t23 =>
    Q10 .normal (F.upd (F.upd (F.upd (F.upd (F.upd (F.upd (F.upd (F.upd (F.upd (F.upd (F.upd (F.upd f11 15 t13) 16 t14) 17 t15) 6 t16) 18 (f11 4)) 19 t19) 20 t20) 21 t21) 22 t22) 4 t22) 23 t23) 14 t23) w18) w17) w12)
    (Q10 (.exit 0) (F.upd f11 15 t13) w12))
   (blockQ 0 (seqQ (fun f24 w25 =>
  Rd Try.prog (WS.at w25) (sFieldAddr 37 (f24 1) 0) fun t26 =>
  Rd Try.prog (WS.at w25) (sLoad 3 t26) fun t27 =>
  LoopF [27, 28, 29, 30, 7, 31, 26] (fun Q28 f29 w30 =>
   Rd Try.prog (WS.at w30) (sBin .lss 3 false (f29 26) (f29 25)) fun t31 =>
   CondK t31
    (Rd Try.prog (WS.at w30) (sBin .mul 3 false (f29 7) (f29 4)) fun t32 =>
    Rd Try.prog (WS.at w30) (sBin .add 3 true (f29 26) (.int .i64 1)) fun t33 =>
    Q28 .normal (F.upd (F.upd (F.upd (F.upd (F.upd (F.upd (F.upd f29 27 t31) 28 (f29 7)) 29 (f29 4)) 30 t32) 7 t32) 31 t33) 26 t33) w30)
    (Q28 (.exit 2) (F.upd f29 27 t31) w30))
   (blockQ 2 (seqQ (fun f34 w35 =>
  Rd Try.prog (WS.at w35) (sBin .add 3 true (f34 7) (.int .i64 1)) fun t36 =>
  Rd Try.prog (WS.at w35) (sBin .gtr 3 true t36 (.int .i64 1000)) fun t37 =>
  CondK t37
   (k (.tuple #[(.int .i64 0), (.bool false)]) w35)
   (Rd Try.prog (WS.at w35) (sBin .add 3 true (f34 7) (.int .i64 1)) fun t38 =>
   k (.tuple #[t38, (.bool true)]) w35)) (bodyQ Try.prog [.tmp 2, .tmp 3] k)))
   (F.upd (F.upd (F.upd (F.upd f24 7 (.int .i64 1)) 24 t26) 25 t27) 26 (.int .i64 0)) w25) (bodyQ Try.prog [.tmp 2, .tmp 3] k)))
   (F.upd (F.upd (F.upd (F.upd (F.upd (F.upd (F.upd (F.upd (F.upd (F.upd (F.upd (initF [v0]) 1 t1) 2 (.int .i64 0)) 3 (.bool false)) 8 t3) 9 t4) 10 t6) 4 (.int .i64 2)) 11 t7) 12 t8) 13 t9) 14 (.int .i64 0)) w5)) w2) w
theorem body32 : Try.f32.body = some (bodyOf Try.f32) := by kernel_rfl
theorem same32 (v0 : Value) (k : Value → World → Prop) (w : World) : wpF Try.prog pl32 (bodyOf Try.f32) (bodyQ Try.prog Try.f32.results.toList k) (initF [v0]) w = S32 v0 k w := by kernel_rfl
theorem enter32 {v0 : Value} {k : Value → World → Prop} {w : World} (h : S32 v0 k w) : CallK Try.prog 32 [v0] k w :=
  call_of_wpF (pl := pl32) mixed Try.func32 body32 (by kernel_rfl) (of_decide_eq_true (by kernel_rfl)) (by kernel_rfl) (by kernel_rfl) (same32 v0 k w ▸ h)

/-! loop.example/g00758/laws.eqGrammar -/
def pl33 : Plans := fun _ => ⟨false, [], .nil⟩
def S33 (v0 v1 : Value) (k : Value → World → Prop) (w : World) : Prop :=
 Do Try.prog (sBox 37 v0) (fun t1 w2 =>
 Do Try.prog (sBox 37 v1) (fun t3 w4 =>
 Rd Try.prog (WS.at w4) (sFieldAddr 37 t1 0) fun t5 =>
 Rd Try.prog (WS.at w4) (sLoad 3 t5) fun t6 =>
 Rd Try.prog (WS.at w4) (sFieldAddr 37 t3 0) fun t7 =>
 Rd Try.prog (WS.at w4) (sLoad 3 t7) fun t8 =>
 Rd Try.prog (WS.at w4) (sBin .neq 3 false t6 t8) fun t9 =>
 CondK t9
  (k (.bool false) w4)
  (Rd Try.prog (WS.at w4) (sFieldAddr 37 t1 1) fun t10 =>
  Rd Try.prog (WS.at w4) (sLoad 3 t10) fun t11 =>
  Rd Try.prog (WS.at w4) (sFieldAddr 37 t3 1) fun t12 =>
  Rd Try.prog (WS.at w4) (sLoad 3 t12) fun t13 =>
  Rd Try.prog (WS.at w4) (sBin .neq 3 false t11 t13) fun t14 =>
  CondK t14
   (k (.bool false) w4)
   (Rd Try.prog (WS.at w4) (sFieldAddr 37 t1 2) fun t15 =>
   Rd Try.prog (WS.at w4) (sLoad 35 t15) fun t16 =>
   Rd Try.prog (WS.at w4) (sFieldAddr 37 t3 2) fun t17 =>
   Rd Try.prog (WS.at w4) (sLoad 35 t17) fun t18 =>
   CallK Try.prog 85 [t16, t18] (fun t19 w20 =>
   Rd Try.prog (WS.at w20) (sUn .not t19) fun t21 =>
   CondK t21
    (k (.bool false) w20)
    (k (.bool true) w20)) w4))) w2) w
theorem body33 : Try.f33.body = some (bodyOf Try.f33) := by kernel_rfl
theorem same33 (v0 v1 : Value) (k : Value → World → Prop) (w : World) : wpF Try.prog pl33 (bodyOf Try.f33) (bodyQ Try.prog Try.f33.results.toList k) (initF [v0, v1]) w = S33 v0 v1 k w := by kernel_rfl
theorem enter33 {v0 v1 : Value} {k : Value → World → Prop} {w : World} (h : S33 v0 v1 k w) : CallK Try.prog 33 [v0, v1] k w :=
  call_of_wpF (pl := pl33) mixed Try.func33 body33 (by kernel_rfl) (of_decide_eq_true (by kernel_rfl)) (by kernel_rfl) (by kernel_rfl) (same33 v0 v1 k w ▸ h)

/-! loop.example/g00758/laws.szRuleS -/
def pl80 : Plans := fun _ => ⟨false, [], .nil⟩
def S80 (v0 v1 : Value) (k : Value → World → Prop) (w : World) : Prop :=
 Rd Try.prog (WS.at w) (sBuiltin .len #[29] 3 [false] [v0]) fun t1 =>
 Rd Try.prog (WS.at w) (sBin .sub 3 false v1 t1) fun t2 =>
 Rd Try.prog (WS.at w) (sBin .lss 3 true t2 (.int .i64 0)) fun t3 =>
 CondK t3
  (k (.int .i64 (-1)) w)
  (LoopF [12, 13, 14, 15, 18, 19, 20, 21, 22, 23, 1, 24, 25, 4, 16, 17, 5] (fun Q4 f5 w6 =>
   Rd Try.prog (WS.at w6) (sBuiltin .len #[29] 3 [false] [(f5 0)]) fun t7 =>
   Rd Try.prog (WS.at w6) (sBin .lss 3 false (f5 5) t7) fun t8 =>
   CondK t8
    (Rd Try.prog (WS.at w6) (sIndexAddr 29 (f5 0) (f5 5)) fun t9 =>
    Rd Try.prog (WS.at w6) (sLoad 148 t9) fun t10 =>
    CallK Try.prog 131 [t10, (f5 1)] (fun t11 w12 =>
    Rd Try.prog (WS.at w12) (sBin .lss 3 true t11 (.int .i64 0)) fun t13 =>
    CondK t13
     (Q4 .ret (F.upd (F.upd (F.upd (F.upd (F.upd (F.upd (F.upd (F.upd (F.upd (F.upd (F.upd (F.upd (F.upd (F.upd f5 12 (f5 5)) 13 (f5 0)) 14 t7) 15 t8) 18 (f5 0)) 19 (f5 5)) 20 t9) 21 t10) 22 (f5 1)) 23 t11) 1 t11) 24 t11) 25 t13) 4 (.int .i64 (-1))) w12)
     (Rd Try.prog (WS.at w12) (sBin .add 3 true (f5 5) (.int .i64 1)) fun t14 =>
     Q4 .normal (F.upd (F.upd (F.upd (F.upd (F.upd (F.upd (F.upd (F.upd (F.upd (F.upd (F.upd (F.upd (F.upd (F.upd (F.upd (F.upd f5 12 (f5 5)) 13 (f5 0)) 14 t7) 15 t8) 18 (f5 0)) 19 (f5 5)) 20 t9) 21 t10) 22 (f5 1)) 23 t11) 1 t11) 24 t11) 25 t13) 16 (f5 5)) 17 t14) 5 t14) w12)) w6)
    (Q4 (.exit 0) (F.upd (F.upd (F.upd (F.upd f5 12 (f5 5)) 13 (f5 0)) 14 t7) 15 t8) w6))
   (blockQ 0 (seqQ (fun f15 w16 =>
  k (f15 1) w16) (bodyQ Try.prog [.tmp 4] k)))
   (F.upd (F.upd (F.upd (F.upd (F.upd (F.upd (F.upd (F.upd (F.upd (initF [v0, v1]) 4 (.int .i64 0)) 6 v1) 7 v0) 8 t1) 9 t2) 1 t2) 10 t2) 11 t3) 5 (.int .i64 0)) w)
theorem body80 : Try.f80.body = some (bodyOf Try.f80) := by kernel_rfl
theorem same80 (v0 v1 : Value) (k : Value → World → Prop) (w : World) : wpF Try.prog pl80 (bodyOf Try.f80) (bodyQ Try.prog Try.f80.results.toList k) (initF [v0, v1]) w = S80 v0 v1 k w := by kernel_rfl
theorem enter80 {v0 v1 : Value} {k : Value → World → Prop} {w : World} (h : S80 v0 v1 k w) : CallK Try.prog 80 [v0, v1] k w :=
  call_of_wpF (pl := pl80) mixed Try.func80 body80 (by kernel_rfl) (of_decide_eq_true (by kernel_rfl)) (by kernel_rfl) (by kernel_rfl) (same80 v0 v1 k w ▸ h)

/-! loop.example/g00758/spec.GoodGrammar -/
def pl81 : Plans := fun _ => ⟨false, [], .nil⟩
def S81 (v0 : Value) (k : Value → World → Prop) (w : World) : Prop :=
 Do Try.prog (sBox 37 v0) (fun t1 w2 =>
 Rd Try.prog (WS.at w2) (sFieldAddr 37 t1 0) fun t3 =>
 Rd Try.prog (WS.at w2) (sLoad 3 t3) fun t4 =>
 CallK Try.prog 77 [t4, (.int .i64 1), (.int .i64 6)] (fun t5 w6 =>
 Rd Try.prog (WS.at w6) (sUn .not t5) fun t7 =>
 GuardK t7 false (fun k w' => Rd Try.prog (WS.at w6) (sFieldAddr 37 t1 1) fun v => k v w') (fun t8 w9 =>
 GuardK t7 false (fun k w' => Rd Try.prog (WS.at w9) (sLoad 3 t8) fun v => k v w') (fun t10 w11 =>
 GuardK t7 false (fun k w' => CallK Try.prog 77 [t10, (.int .i64 1), (.int .i64 4)] k w') (fun t12 w13 =>
 GuardK t7 false (fun k w' => Rd Try.prog (WS.at w13) (sUn .not t12) fun v => k v w') (fun t14 w15 =>
 Rd Try.prog (WS.at w15) (sPick t7 (.bool true) t14) fun t16 =>
 GuardK t16 false (fun k w' => Rd Try.prog (WS.at w15) (sFieldAddr 37 t1 2) fun v => k v w') (fun t17 w18 =>
 GuardK t16 false (fun k w' => Rd Try.prog (WS.at w18) (sLoad 35 t17) fun v => k v w') (fun t19 w20 =>
 GuardK t16 false (fun k w' => Rd Try.prog (WS.at w20) (sBuiltin .len #[35] 3 [false] [t19]) fun v => k v w') (fun t21 w22 =>
 GuardK t16 false (fun k w' => Rd Try.prog (WS.at w22) (sBin .gtr 3 true t21 (.int .i64 16)) fun v => k v w') (fun t23 w24 =>
 Rd Try.prog (WS.at w24) (sPick t16 (.bool true) t23) fun t25 =>
 CondK t25
  (k (.bool false) w24)
  (Rd Try.prog (WS.at w24) (sFieldAddr 37 t1 2) fun t26 =>
  Rd Try.prog (WS.at w24) (sLoad 35 t26) fun t27 =>
  Rd Try.prog (WS.at w24) (sBuiltin .len #[35] 3 [false] [t27]) fun t28 =>
  LoopF [29, 30, 31, 32, 4, 3, 33, 34, 35, 36, 37, 38, 39, 40, 41, 42, 43, 44, 45, 2, 46, 47, 48, 49, 50, 51, 52, 6, 53, 54, 55, 56, 2, 57, 49, 58, 59, 60, 61, 62, 63, 64, 65, 66, 8, 67, 68, 69, 2, 70, 63, 71, 28] (fun Q29 f30 w31 =>
   Rd Try.prog (WS.at w31) (sBin .lss 3 false (f30 28) (f30 27)) fun t32 =>
   CondK t32
    (Rd Try.prog (WS.at w31) (sIndexAddr 35 (f30 26) (f30 28)) fun t33 =>
    Rd Try.prog (WS.at w31) (sLoad 77 t33) fun t34 =>
    Do Try.prog (sAlloc 77) (fun t35 w36 =>
    Do Try.prog (sStore 77 t35 t34) (fun _ w37 =>
    Rd Try.prog (WS.at w37) (sFieldAddr 77 t35 0) fun t38 =>
    Rd Try.prog (WS.at w37) (sLoad 3 t38) fun t39 =>
    Rd Try.prog (WS.at w37) (sFieldAddr 37 (f30 1) 0) fun t40 =>
    Rd Try.prog (WS.at w37) (sLoad 3 t40) fun t41 =>
    Rd Try.prog (WS.at w37) (sBin .sub 3 true t41 (.int .i64 1)) fun t42 =>
    CallK Try.prog 77 [t39, (.int .i64 0), t42] (fun t43 w44 =>
    Rd Try.prog (WS.at w44) (sUn .not t43) fun t45 =>
    GuardK t45 false (fun k w' => Rd Try.prog (WS.at w44) (sFieldAddr 77 t35 1) fun v => k v w') (fun t46 w47 =>
    GuardK t45 false (fun k w' => Rd Try.prog (WS.at w47) (sLoad 22 t46) fun v => k v w') (fun t48 w49 =>
    GuardK t45 false (fun k w' => Rd Try.prog (WS.at w49) (sBuiltin .len #[22] 3 [false] [t48]) fun v => k v w') (fun t50 w51 =>
    GuardK t45 false (fun k w' => Rd Try.prog (WS.at w51) (sBin .gtr 3 true t50 (.int .i64 4)) fun v => k v w') (fun t52 w53 =>
    Rd Try.prog (WS.at w53) (sPick t45 (.bool true) t52) fun t54 =>
    CondK t54
     (Q29 .ret (F.upd (F.upd (F.upd (F.upd (F.upd (F.upd (F.upd (F.upd (F.upd (F.upd (F.upd (F.upd (F.upd (F.upd (F.upd (F.upd (F.upd (F.upd (F.upd (F.upd f30 29 t32) 30 (f30 28)) 31 t33) 32 t34) 4 t35) 3 (f30 28)) 33 t38) 34 t39) 35 t40) 36 t41) 37 t42) 38 t43) 39 t45) 40 t45) 41 t46) 42 t48) 43 t50) 44 t52) 45 t54) 2 (.bool false)) w53)
     (Rd Try.prog (WS.at w53) (sFieldAddr 77 t35 1) fun t55 =>
     Rd Try.prog (WS.at w53) (sLoad 22 t55) fun t56 =>
     Rd Try.prog (WS.at w53) (sBuiltin .len #[22] 3 [false] [t56]) fun t57 =>
     LoopF [50, 51, 52, 6, 53, 54, 55, 56, 2, 57, 49] (fun Q58 f59 w60 =>
      Rd Try.prog (WS.at w60) (sBin .lss 3 false (f59 49) (f59 48)) fun t61 =>
      CondK t61
       (Rd Try.prog (WS.at w60) (sIndexAddr 22 (f59 47) (f59 49)) fun t62 =>
       Rd Try.prog (WS.at w60) (sLoad 3 t62) fun t63 =>
       Rd Try.prog (WS.at w60) (sLoad 37 (f59 1)) fun t64 =>
       CallK Try.prog 132 [t64, t63] (fun t65 w66 =>
       Rd Try.prog (WS.at w66) (sUn .not t65) fun t67 =>
       CondK t67
        (Q58 .ret (F.upd (F.upd (F.upd (F.upd (F.upd (F.upd (F.upd (F.upd (F.upd f59 50 t61) 51 t62) 52 t63) 6 t63) 53 t64) 54 t63) 55 t65) 56 t67) 2 (.bool false)) w66)
        (Rd Try.prog (WS.at w66) (sBin .add 3 true (f59 49) (.int .i64 1)) fun t68 =>
        Q58 .normal (F.upd (F.upd (F.upd (F.upd (F.upd (F.upd (F.upd (F.upd (F.upd (F.upd f59 50 t61) 51 t62) 52 t63) 6 t63) 53 t64) 54 t63) 55 t65) 56 t67) 57 t68) 49 t68) w66)) w60)
       (Q58 (.exit 2) (F.upd f59 50 t61) w60))
      (blockQ 2 (seqQ (fun f69 w70 =>
     Rd Try.prog (WS.at w70) (sFieldAddr 37 (f69 1) 2) fun t71 =>
     Rd Try.prog (WS.at w70) (sLoad 35 t71) fun t72 =>
     Rd Try.prog (WS.at w70) (sSlice 35 t72 none (some (f69 3)) none) fun t73 =>
     Rd Try.prog (WS.at w70) (sBuiltin .len #[35] 3 [false] [t73]) fun t74 =>
     LoopF [64, 65, 66, 8, 67, 68, 69, 2, 70, 63] (fun Q75 f76 w77 =>
      Rd Try.prog (WS.at w77) (sBin .lss 3 false (f76 63) (f76 62)) fun t78 =>
      CondK t78
       (Rd Try.prog (WS.at w77) (sIndexAddr 35 (f76 61) (f76 63)) fun t79 =>
       Rd Try.prog (WS.at w77) (sLoad 77 t79) fun t80 =>
       Do Try.prog (sAlloc 77) (fun t81 w82 =>
       Do Try.prog (sStore 77 t81 t80) (fun _ w83 =>
       Rd Try.prog (WS.at w83) (sLoad 77 (f76 4)) fun t84 =>
       Rd Try.prog (WS.at w83) (sLoad 77 t81) fun t85 =>
       CallK Try.prog 133 [t84, t85] (fun t86 w87 =>
       CondK t86
        (Q75 .ret (F.upd (F.upd (F.upd (F.upd (F.upd (F.upd (F.upd (F.upd f76 64 t78) 65 t79) 66 t80) 8 t81) 67 t84) 68 t85) 69 t86) 2 (.bool false)) w87)
        (Rd Try.prog (WS.at w87) (sBin .add 3 true (f76 63) (.int .i64 1)) fun t88 =>
        Q75 .normal (F.upd (F.upd (F.upd (F.upd (F.upd (F.upd (F.upd (F.upd (F.upd f76 64 t78) 65 t79) 66 t80) 8 t81) 67 t84) 68 t85) 69 t86) 70 t88) 63 t88) w87)) w83) w82) w77)
       (Q75 (.exit 4) (F.upd f76 64 t78) w77))
      (blockQ 4 (blockQ 1 (seqQ (fun f89 w90 =>
     Rd Try.prog (WS.at w90) (sBin .add 3 true (f89 28) (.int .i64 1)) fun t91 =>
     Q29 .normal (F.upd (F.upd f89 71 t91) 28 t91) w90) Q29)))
      (F.upd (F.upd (F.upd (F.upd (F.upd (F.upd f69 58 t71) 59 t72) 60 (f69 3)) 61 t73) 62 t74) 63 (.int .i64 0)) w70) (blockQ 1 (seqQ (fun f92 w93 =>
     Rd Try.prog (WS.at w93) (sBin .add 3 true (f92 28) (.int .i64 1)) fun t94 =>
     Q29 .normal (F.upd (F.upd f92 71 t94) 28 t94) w93) Q29))))
      (F.upd (F.upd (F.upd (F.upd (F.upd (F.upd (F.upd (F.upd (F.upd (F.upd (F.upd (F.upd (F.upd (F.upd (F.upd (F.upd (F.upd (F.upd (F.upd (F.upd (F.upd (F.upd (F.upd f30 29 t32) 30 (f30 28)) 31 t33) 32 t34) 4 t35) 3 (f30 28)) 33 t38) 34 t39) 35 t40) 36 t41) 37 t42) 38 t43) 39 t45) 40 t45) 41 t46) 42 t48) 43 t50) 44 t52) 45 t54) 46 t55) 47 t56) 48 t57) 49 (.int .i64 0)) w53)) w51) w49) w47) w44) w37) w36) w31)
    (Q29 (.exit 0) (F.upd f30 29 t32) w31))
   (blockQ 0 (seqQ (fun f95 w96 =>
  k (.bool true) w96) (bodyQ Try.prog [.tmp 2] k)))
   (F.upd (F.upd (F.upd (F.upd (F.upd (F.upd (F.upd (F.upd (F.upd (F.upd (F.upd (F.upd (F.upd (F.upd (F.upd (F.upd (F.upd (F.upd (F.upd (F.upd (F.upd (F.upd (initF [v0]) 1 t1) 2 (.bool false)) 9 t3) 10 t4) 11 t5) 12 t7) 13 t7) 14 t8) 15 t10) 16 t12) 17 t14) 18 t16) 19 t16) 20 t17) 21 t19) 22 t21) 23 t23) 24 t25) 25 t26) 26 t27) 27 t28) 28 (.int .i64 0)) w24)) w22) w20) w18) w15) w13) w11) w9) w6) w2) w
theorem body81 : Try.f81.body = some (bodyOf Try.f81) := by kernel_rfl
theorem same81 (v0 : Value) (k : Value → World → Prop) (w : World) : wpF Try.prog pl81 (bodyOf Try.f81) (bodyQ Try.prog Try.f81.results.toList k) (initF [v0]) w = S81 v0 k w := by kernel_rfl
theorem enter81 {v0 : Value} {k : Value → World → Prop} {w : World} (h : S81 v0 k w) : CallK Try.prog 81 [v0] k w :=
  call_of_wpF (pl := pl81) mixed Try.func81 body81 (by kernel_rfl) (of_decide_eq_true (by kernel_rfl)) (by kernel_rfl) (by kernel_rfl) (same81 v0 k w ▸ h)

/-! loop.example/g00758/spec.l1Most -/
def pl82 : Plans := fun _ => ⟨false, [], .nil⟩
def S82 (v0 v1 : Value) (k : Value → World → Prop) (w : World) : Prop :=
 Rd Try.prog (WS.at w) (sBin .gtr 3 false v0 v1) fun t1 =>
 CondK t1
  (k v0 w)
  (k v1 w)
theorem body82 : Try.f82.body = some (bodyOf Try.f82) := by kernel_rfl
theorem same82 (v0 v1 : Value) (k : Value → World → Prop) (w : World) : wpF Try.prog pl82 (bodyOf Try.f82) (bodyQ Try.prog Try.f82.results.toList k) (initF [v0, v1]) w = S82 v0 v1 k w := by kernel_rfl
theorem enter82 {v0 v1 : Value} {k : Value → World → Prop} {w : World} (h : S82 v0 v1 k w) : CallK Try.prog 82 [v0, v1] k w :=
  call_of_wpF (pl := pl82) mixed Try.func82 body82 (by kernel_rfl) (of_decide_eq_true (by kernel_rfl)) (by kernel_rfl) (by kernel_rfl) (same82 v0 v1 k w ▸ h)

/-! loop.example/g00758/laws.toRuleS -/
def pl83 : Plans := fun _ => ⟨false, [], .nil⟩
def S83 (v0 : Value) (k : Value → World → Prop) (w : World) : Prop :=
 Rd Try.prog (WS.at w) (sBuiltin .len #[29] 3 [false] [v0]) fun t1 =>
 Do Try.prog (sMakeSlice 35 t1 t1) (fun t2 w3 =>
 LoopF [8, 9, 10, 11, 14, 15, 16, 17, 18, 19, 20, 21, 12, 13, 4] (fun Q4 f5 w6 =>
  Rd Try.prog (WS.at w6) (sBuiltin .len #[29] 3 [false] [(f5 0)]) fun t7 =>
  Rd Try.prog (WS.at w6) (sBin .lss 3 false (f5 4) t7) fun t8 =>
  CondK t8
   (Rd Try.prog (WS.at w6) (sIndexAddr 29 (f5 0) (f5 4)) fun t9 =>
   Rd Try.prog (WS.at w6) (sLoad 148 t9) fun t10 =>
   CallK Try.prog 134 [t10] (fun t11 w12 =>
   Rd Try.prog (WS.at w12) (sIndexAddr 35 (f5 3) (f5 4)) fun t13 =>
   Do Try.prog (sStore 77 t13 t11) (fun _ w14 =>
   Rd Try.prog (WS.at w14) (sBin .add 3 true (f5 4) (.int .i64 1)) fun t15 =>
   Q4 .normal (F.upd (F.upd (F.upd (F.upd (F.upd (F.upd (F.upd (F.upd (F.upd (F.upd (F.upd (F.upd (F.upd (F.upd (F.upd f5 8 (f5 4)) 9 (f5 0)) 10 t7) 11 t8) 14 (f5 3)) 15 (f5 4)) 16 (f5 0)) 17 (f5 4)) 18 t9) 19 t10) 20 t11) 21 t13) 12 (f5 4)) 13 t15) 4 t15) w14) w12) w6)
   (Q4 (.exit 0) (F.upd (F.upd (F.upd (F.upd f5 8 (f5 4)) 9 (f5 0)) 10 t7) 11 t8) w6))
  (blockQ 0 (seqQ (fun f16 w17 =>
 k (f16 3) w17) (bodyQ Try.prog [.tmp 2] k)))
  (F.upd (F.upd (F.upd (F.upd (F.upd (F.upd (initF [v0]) 2 (.slice none 0 0)) 5 v0) 6 t1) 7 t2) 3 t2) 4 (.int .i64 0)) w3) w
theorem body83 : Try.f83.body = some (bodyOf Try.f83) := by kernel_rfl
theorem same83 (v0 : Value) (k : Value → World → Prop) (w : World) : wpF Try.prog pl83 (bodyOf Try.f83) (bodyQ Try.prog Try.f83.results.toList k) (initF [v0]) w = S83 v0 k w := by kernel_rfl
theorem enter83 {v0 : Value} {k : Value → World → Prop} {w : World} (h : S83 v0 k w) : CallK Try.prog 83 [v0] k w :=
  call_of_wpF (pl := pl83) mixed Try.func83 body83 (by kernel_rfl) (of_decide_eq_true (by kernel_rfl)) (by kernel_rfl) (by kernel_rfl) (same83 v0 k w ▸ h)

/-! loop.example/g00758/impl.isGrammar -/
def pl84 : Plans := fun _ => ⟨false, [], .nil⟩
def S84 (v0 : Value) (k : Value → World → Prop) (w : World) : Prop :=
 Do Try.prog (sBox 37 v0) (fun t1 w2 =>
 Rd Try.prog (WS.at w2) (sFieldAddr 37 t1 0) fun t3 =>
 Rd Try.prog (WS.at w2) (sLoad 3 t3) fun t4 =>
 CallK Try.prog 103 [t4, (.int .i64 1), (.int .i64 6)] (fun t5 w6 =>
 Rd Try.prog (WS.at w6) (sUn .not t5) fun t7 =>
 GuardK t7 false (fun k w' => Rd Try.prog (WS.at w6) (sFieldAddr 37 t1 1) fun v => k v w') (fun t8 w9 =>
 GuardK t7 false (fun k w' => Rd Try.prog (WS.at w9) (sLoad 3 t8) fun v => k v w') (fun t10 w11 =>
 GuardK t7 false (fun k w' => CallK Try.prog 103 [t10, (.int .i64 1), (.int .i64 4)] k w') (fun t12 w13 =>
 GuardK t7 false (fun k w' => Rd Try.prog (WS.at w13) (sUn .not t12) fun v => k v w') (fun t14 w15 =>
 Rd Try.prog (WS.at w15) (sPick t7 (.bool true) t14) fun t16 =>
 GuardK t16 false (fun k w' => Rd Try.prog (WS.at w15) (sFieldAddr 37 t1 2) fun v => k v w') (fun t17 w18 =>
 GuardK t16 false (fun k w' => Rd Try.prog (WS.at w18) (sLoad 35 t17) fun v => k v w') (fun t19 w20 =>
 GuardK t16 false (fun k w' => Rd Try.prog (WS.at w20) (sBuiltin .len #[35] 3 [false] [t19]) fun v => k v w') (fun t21 w22 =>
 GuardK t16 false (fun k w' => Rd Try.prog (WS.at w22) (sBin .gtr 3 true t21 (.int .i64 16)) fun v => k v w') (fun t23 w24 =>
 Rd Try.prog (WS.at w24) (sPick t16 (.bool true) t23) fun t25 =>
 CondK t25
  (k (.bool false) w24)
  (Rd Try.prog (WS.at w24) (sFieldAddr 37 t1 2) fun t26 =>
  Rd Try.prog (WS.at w24) (sLoad 35 t26) fun t27 =>
  Rd Try.prog (WS.at w24) (sBuiltin .len #[35] 3 [false] [t27]) fun t28 =>
  LoopF [25, 26, 27, 28, 4, 3, 29, 30, 31, 32, 33, 34, 35, 36, 37, 38, 39, 40, 41, 42, 43, 44, 45, 46, 47, 48, 49, 50, 51, 2, 52, 53, 54, 55, 56, 57, 2, 58, 24] (fun Q29 f30 w31 =>
   Rd Try.prog (WS.at w31) (sBin .lss 3 false (f30 24) (f30 23)) fun t32 =>
   CondK t32
    (Rd Try.prog (WS.at w31) (sIndexAddr 35 (f30 22) (f30 24)) fun t33 =>
    Rd Try.prog (WS.at w31) (sLoad 77 t33) fun t34 =>
    Do Try.prog (sAlloc 77) (fun t35 w36 =>
    Do Try.prog (sStore 77 t35 t34) (fun _ w37 =>
    Rd Try.prog (WS.at w37) (sFieldAddr 77 t35 0) fun t38 =>
    Rd Try.prog (WS.at w37) (sLoad 3 t38) fun t39 =>
    Rd Try.prog (WS.at w37) (sFieldAddr 37 (f30 1) 0) fun t40 =>
    Rd Try.prog (WS.at w37) (sLoad 3 t40) fun t41 =>
    Rd Try.prog (WS.at w37) (sBin .sub 3 true t41 (.int .i64 1)) fun t42 =>
    CallK Try.prog 103 [t39, (.int .i64 0), t42] (fun t43 w44 =>
    Rd Try.prog (WS.at w44) (sUn .not t43) fun t45 =>
    GuardK t45 false (fun k w' => Rd Try.prog (WS.at w44) (sFieldAddr 77 t35 1) fun v => k v w') (fun t46 w47 =>
    GuardK t45 false (fun k w' => Rd Try.prog (WS.at w47) (sLoad 22 t46) fun v => k v w') (fun t48 w49 =>
    GuardK t45 false (fun k w' => Rd Try.prog (WS.at w49) (sBuiltin .len #[22] 3 [false] [t48]) fun v => k v w') (fun t50 w51 =>
    GuardK t45 false (fun k w' => Rd Try.prog (WS.at w51) (sBin .gtr 3 true t50 (.int .i64 4)) fun v => k v w') (fun t52 w53 =>
    Rd Try.prog (WS.at w53) (sPick t45 (.bool true) t52) fun t54 =>
    GuardK t54 false (fun k w' => Rd Try.prog (WS.at w53) (sFieldAddr 77 t35 1) fun v => k v w') (fun t55 w56 =>
    GuardK t54 false (fun k w' => Rd Try.prog (WS.at w56) (sLoad 22 t55) fun v => k v w') (fun t57 w58 =>
    GuardK t54 false (fun k w' => Rd Try.prog (WS.at w58) (sFieldAddr 37 (f30 1) 0) fun v => k v w') (fun t59 w60 =>
    GuardK t54 false (fun k w' => Rd Try.prog (WS.at w60) (sLoad 3 t59) fun v => k v w') (fun t61 w62 =>
    GuardK t54 false (fun k w' => Rd Try.prog (WS.at w62) (sFieldAddr 37 (f30 1) 1) fun v => k v w') (fun t63 w64 =>
    GuardK t54 false (fun k w' => Rd Try.prog (WS.at w64) (sLoad 3 t63) fun v => k v w') (fun t65 w66 =>
    GuardK t54 false (fun k w' => CallK Try.prog 135 [t57, t61, t65] k w') (fun t67 w68 =>
    GuardK t54 false (fun k w' => Rd Try.prog (WS.at w68) (sUn .not t67) fun v => k v w') (fun t69 w70 =>
    Rd Try.prog (WS.at w70) (sPick t54 (.bool true) t69) fun t71 =>
    CondK t71
     (Q29 .ret (F.upd (F.upd (F.upd (F.upd (F.upd (F.upd (F.upd (F.upd (F.upd (F.upd (F.upd (F.upd (F.upd (F.upd (F.upd (F.upd (F.upd (F.upd (F.upd (F.upd (F.upd (F.upd (F.upd (F.upd (F.upd (F.upd (F.upd (F.upd (F.upd (F.upd f30 25 t32) 26 (f30 24)) 27 t33) 28 t34) 4 t35) 3 (f30 24)) 29 t38) 30 t39) 31 t40) 32 t41) 33 t42) 34 t43) 35 t45) 36 t45) 37 t46) 38 t48) 39 t50) 40 t52) 41 t54) 42 t54) 43 t55) 44 t57) 45 t59) 46 t61) 47 t63) 48 t65) 49 t67) 50 t69) 51 t71) 2 (.bool false)) w70)
     (Rd Try.prog (WS.at w70) (sFieldAddr 37 (f30 1) 2) fun t72 =>
     Rd Try.prog (WS.at w70) (sLoad 35 t72) fun t73 =>
     Rd Try.prog (WS.at w70) (sSlice 35 t73 none (some (f30 24)) none) fun t74 =>
     Rd Try.prog (WS.at w70) (sMakeFunc (.func 137) [] [t35]) fun t75 =>
     CallK Try.prog 136 [t74, t75] (fun t76 w77 =>
     CondK t76
      (Q29 .ret (F.upd (F.upd (F.upd (F.upd (F.upd (F.upd (F.upd (F.upd (F.upd (F.upd (F.upd (F.upd (F.upd (F.upd (F.upd (F.upd (F.upd (F.upd (F.upd (F.upd (F.upd (F.upd (F.upd (F.upd (F.upd (F.upd (F.upd (F.upd (F.upd (F.upd (F.upd (F.upd (F.upd (F.upd (F.upd (F.upd f30 25 t32) 26 (f30 24)) 27 t33) 28 t34) 4 t35) 3 (f30 24)) 29 t38) 30 t39) 31 t40) 32 t41) 33 t42) 34 t43) 35 t45) 36 t45) 37 t46) 38 t48) 39 t50) 40 t52) 41 t54) 42 t54) 43 t55) 44 t57) 45 t59) 46 t61) 47 t63) 48 t65) 49 t67) 50 t69) 51 t71) 52 t72) 53 t73) 54 (f30 24)) 55 t74) 56 t75) 57 t76) 2 (.bool false)) w77)
      (Rd Try.prog (WS.at w77) (sBin .add 3 true (f30 24) (.int .i64 1)) fun t78 =>
      Q29 .normal (F.upd (F.upd (F.upd (F.upd (F.upd (F.upd (F.upd (F.upd (F.upd (F.upd (F.upd (F.upd (F.upd (F.upd (F.upd (F.upd (F.upd (F.upd (F.upd (F.upd (F.upd (F.upd (F.upd (F.upd (F.upd (F.upd (F.upd (F.upd (F.upd (F.upd (F.upd (F.upd (F.upd (F.upd (F.upd (F.upd (F.upd f30 25 t32) 26 (f30 24)) 27 t33) 28 t34) 4 t35) 3 (f30 24)) 29 t38) 30 t39) 31 t40) 32 t41) 33 t42) 34 t43) 35 t45) 36 t45) 37 t46) 38 t48) 39 t50) 40 t52) 41 t54) 42 t54) 43 t55) 44 t57) 45 t59) 46 t61) 47 t63) 48 t65) 49 t67) 50 t69) 51 t71) 52 t72) 53 t73) 54 (f30 24)) 55 t74) 56 t75) 57 t76) 58 t78) 24 t78) w77)) w70)) w68) w66) w64) w62) w60) w58) w56) w53) w51) w49) w47) w44) w37) w36) w31)
    (Q29 (.exit 0) (F.upd f30 25 t32) w31))
   (blockQ 0 (seqQ (fun f79 w80 =>
  k (.bool true) w80) (bodyQ Try.prog [.tmp 2] k)))
   (F.upd (F.upd (F.upd (F.upd (F.upd (F.upd (F.upd (F.upd (F.upd (F.upd (F.upd (F.upd (F.upd (F.upd (F.upd (F.upd (F.upd (F.upd (F.upd (F.upd (F.upd (F.upd (initF [v0]) 1 t1) 2 (.bool false)) 5 t3) 6 t4) 7 t5) 8 t7) 9 t7) 10 t8) 11 t10) 12 t12) 13 t14) 14 t16) 15 t16) 16 t17) 17 t19) 18 t21) 19 t23) 20 t25) 21 t26) 22 t27) 23 t28) 24 (.int .i64 0)) w24)) w22) w20) w18) w15) w13) w11) w9) w6) w2) w
theorem body84 : Try.f84.body = some (bodyOf Try.f84) := by kernel_rfl
theorem same84 (v0 : Value) (k : Value → World → Prop) (w : World) : wpF Try.prog pl84 (bodyOf Try.f84) (bodyQ Try.prog Try.f84.results.toList k) (initF [v0]) w = S84 v0 k w := by kernel_rfl
theorem enter84 {v0 : Value} {k : Value → World → Prop} {w : World} (h : S84 v0 k w) : CallK Try.prog 84 [v0] k w :=
  call_of_wpF (pl := pl84) mixed Try.func84 body84 (by kernel_rfl) (of_decide_eq_true (by kernel_rfl)) (by kernel_rfl) (by kernel_rfl) (same84 v0 k w ▸ h)

/-! loop.example/g00758/laws.eqRuleS -/
def pl85 : Plans := fun i => match i with
  | 6 => ⟨false, [8], .step 0 .any (.step 1 .any (.step 2 .any (.step 3 .held (.step 4 .any (.step 5 .any (.step 6 .any (.step 7 .held (.step 8 .last (.step 9 .any (.nil))))))))))⟩
  | _ => ⟨false, [], .nil⟩
def S85 (v0 v1 : Value) (k : Value → World → Prop) (w : World) : Prop :=
 Rd Try.prog (WS.at w) (sBuiltin .len #[35] 3 [false] [v0]) fun t1 =>
 Rd Try.prog (WS.at w) (sBuiltin .len #[35] 3 [false] [v1]) fun t2 =>
 Rd Try.prog (WS.at w) (sBin .neq 3 false t1 t2) fun t3 =>
 CondK t3
  (k (.bool false) w)
  (LoopF [11, 12, 13, 14, 17, 18, 19, 20, 21, 22, 23, 24, 25, 26, 4, 15, 16, 5] (fun Q4 f5 w6 =>
   Rd Try.prog (WS.at w6) (sBuiltin .len #[35] 3 [false] [(f5 0)]) fun t7 =>
   Rd Try.prog (WS.at w6) (sBin .lss 3 false (f5 5) t7) fun t8 =>
   CondK t8
    (Rd Try.prog WS.any (sIndexAddr 35 (f5 0) (f5 5)) fun t9 =>
    Rd Try.prog (WS.at w6.drew) (sLoad 77 t9) fun t10 =>
    Rd Try.prog WS.any (sIndexAddr 35 (f5 1) (f5 5)) fun t11 =>
    Rd Try.prog (WS.at w6.drew) (sLoad 77 t11) fun t12 =>
    CallK Try.prog 139 [t10, t12] (fun t13 w14 =>
    Rd Try.prog WS.any (sUn .not t13) fun t15 =>
    CondK t15
     (Q4 .ret (F.upd (F.upd (F.upd (F.upd (F.upd (F.upd (F.upd (F.upd (F.upd (F.upd (F.upd (F.upd (F.upd (F.upd (F.upd f5 11 (f5 5)) 12 (f5 0)) 13 t7) 14 t8) 17 (f5 0)) 18 (f5 5)) 19 t9) 20 t10) 21 (f5 1)) 22 (f5 5)) 23 t11) 24 t12) 25 t13) 26 t15) 4 (.bool false)) w14)
     (Rd Try.prog (WS.at w14) (sBin .add 3 true (f5 5) (.int .i64 1)) fun t16 =>
     Q4 .normal (F.upd (F.upd (F.upd (F.upd (F.upd (F.upd (F.upd (F.upd (F.upd (F.upd (F.upd (F.upd (F.upd (F.upd (F.upd (F.upd (F.upd f5 11 (f5 5)) 12 (f5 0)) 13 t7) 14 t8) 17 (f5 0)) 18 (f5 5)) 19 t9) 20 t10) 21 (f5 1)) 22 (f5 5)) 23 t11) 24 t12) 25 t13) 26 t15) 15 (f5 5)) 16 t16) 5 t16) w14)) w6.drew)
    (Q4 (.exit 0) (F.upd (F.upd (F.upd (F.upd f5 11 (f5 5)) 12 (f5 0)) 13 t7) 14 t8) w6))
   (blockQ 0 (seqQ (fun f17 w18 =>
  k (.bool true) w18) (bodyQ Try.prog [.tmp 4] k)))
   (F.upd (F.upd (F.upd (F.upd (F.upd (F.upd (F.upd (initF [v0, v1]) 4 (.bool false)) 6 v0) 7 t1) 8 v1) 9 t2) 10 t3) 5 (.int .i64 0)) w)
theorem body85 : Try.f85.body = some (bodyOf Try.f85) := by kernel_rfl
theorem same85 (v0 v1 : Value) (k : Value → World → Prop) (w : World) : wpF Try.prog pl85 (bodyOf Try.f85) (bodyQ Try.prog Try.f85.results.toList k) (initF [v0, v1]) w = S85 v0 v1 k w := by kernel_rfl
theorem enter85 {v0 v1 : Value} {k : Value → World → Prop} {w : World} (h : S85 v0 v1 k w) : CallK Try.prog 85 [v0, v1] k w :=
  call_of_wpF (pl := pl85) mixed Try.func85 body85 (by kernel_rfl) (of_decide_eq_true (by kernel_rfl)) (by kernel_rfl) (by kernel_rfl) (same85 v0 v1 k w ▸ h)

/-! slices.Equal[[]int,int] -/
def pl110 : Plans := fun i => match i with
  | 6 => ⟨false, [], .step 0 .any (.step 1 .any (.step 2 .any (.step 3 .held (.step 4 .any (.step 5 .any (.step 6 .any (.step 7 .held (.step 8 .any (.nil)))))))))⟩
  | _ => ⟨false, [], .nil⟩
def S110 (v0 v1 : Value) (k : Value → World → Prop) (w : World) : Prop :=
 Rd Try.prog (WS.at w) (sBuiltin .len #[22] 3 [false] [v0]) fun t1 =>
 Rd Try.prog (WS.at w) (sBuiltin .len #[22] 3 [false] [v1]) fun t2 =>
 Rd Try.prog (WS.at w) (sBin .neq 3 false t1 t2) fun t3 =>
 CondK t3
  (k (.bool false) w)
  (Rd Try.prog (WS.at w) (sBuiltin .len #[22] 3 [false] [v0]) fun t4 =>
  LoopF [14, 15, 5, 16, 17, 18, 19, 20, 21, 22, 23, 24, 4, 25, 13] (fun Q5 f6 w7 =>
   Rd Try.prog (WS.at w7) (sBin .lss 3 false (f6 13) (f6 12)) fun t8 =>
   CondK t8
    (Rd Try.prog WS.any (sIndexAddr 22 (f6 0) (f6 13)) fun t9 =>
    Rd Try.prog (WS.at w7.drew) (sLoad 3 t9) fun t10 =>
    Rd Try.prog WS.any (sIndexAddr 22 (f6 1) (f6 13)) fun t11 =>
    Rd Try.prog (WS.at w7.drew) (sLoad 3 t11) fun t12 =>
    Rd Try.prog WS.any (sBin .neq 3 false t10 t12) fun t13 =>
    CondK t13
     (Q5 .ret (F.upd (F.upd (F.upd (F.upd (F.upd (F.upd (F.upd (F.upd (F.upd (F.upd (F.upd (F.upd (F.upd f6 14 t8) 15 (f6 13)) 5 (f6 13)) 16 (f6 0)) 17 (f6 13)) 18 t9) 19 t10) 20 (f6 1)) 21 (f6 13)) 22 t11) 23 t12) 24 t13) 4 (.bool false)) w7.drew)
     (Rd Try.prog (WS.at w7.drew) (sBin .add 3 true (f6 13) (.int .i64 1)) fun t14 =>
     Q5 .normal (F.upd (F.upd (F.upd (F.upd (F.upd (F.upd (F.upd (F.upd (F.upd (F.upd (F.upd (F.upd (F.upd (F.upd f6 14 t8) 15 (f6 13)) 5 (f6 13)) 16 (f6 0)) 17 (f6 13)) 18 t9) 19 t10) 20 (f6 1)) 21 (f6 13)) 22 t11) 23 t12) 24 t13) 25 t14) 13 t14) w7.drew))
    (Q5 (.exit 0) (F.upd f6 14 t8) w7))
   (blockQ 0 (seqQ (fun f15 w16 =>
  k (.bool true) w16) (bodyQ Try.prog [.tmp 4] k)))
   (F.upd (F.upd (F.upd (F.upd (F.upd (F.upd (F.upd (F.upd (F.upd (initF [v0, v1]) 4 (.bool false)) 6 v0) 7 t1) 8 v1) 9 t2) 10 t3) 11 v0) 12 t4) 13 (.int .i64 0)) w)
theorem body110 : Try.f110.body = some (bodyOf Try.f110) := by kernel_rfl
theorem same110 (v0 v1 : Value) (k : Value → World → Prop) (w : World) : wpF Try.prog pl110 (bodyOf Try.f110) (bodyQ Try.prog Try.f110.results.toList k) (initF [v0, v1]) w = S110 v0 v1 k w := by kernel_rfl
theorem enter110 {v0 v1 : Value} {k : Value → World → Prop} {w : World} (h : S110 v0 v1 k w) : CallK Try.prog 110 [v0, v1] k w :=
  call_of_wpF (pl := pl110) mixed Try.func110 body110 (by kernel_rfl) (of_decide_eq_true (by kernel_rfl)) (by kernel_rfl) (by kernel_rfl) (same110 v0 v1 k w ▸ h)

/-! loop.example/g00758/laws.szRule -/
def pl131 : Plans := fun _ => ⟨false, [], .nil⟩
def S131 (v0 v1 : Value) (k : Value → World → Prop) (w : World) : Prop :=
 Do Try.prog (sBox 148 v0) (fun t1 w2 =>
 Rd Try.prog (WS.at w2) (sFieldAddr 148 t1 1) fun t3 =>
 Rd Try.prog (WS.at w2) (sLoad 22 t3) fun t4 =>
 CallK Try.prog 172 [t4, v1] (fun t5 w6 =>
 Rd Try.prog (WS.at w6) (sBin .lss 3 true t5 (.int .i64 0)) fun t7 =>
 CondK t7
  (k (.int .i64 (-1)) w6)
  (k t5 w6)) w2) w
theorem body131 : Try.f131.body = some (bodyOf Try.f131) := by kernel_rfl
theorem same131 (v0 v1 : Value) (k : Value → World → Prop) (w : World) : wpF Try.prog pl131 (bodyOf Try.f131) (bodyQ Try.prog Try.f131.results.toList k) (initF [v0, v1]) w = S131 v0 v1 k w := by kernel_rfl
theorem enter131 {v0 v1 : Value} {k : Value → World → Prop} {w : World} (h : S131 v0 v1 k w) : CallK Try.prog 131 [v0, v1] k w :=
  call_of_wpF (pl := pl131) mixed Try.func131 body131 (by kernel_rfl) (of_decide_eq_true (by kernel_rfl)) (by kernel_rfl) (by kernel_rfl) (same131 v0 v1 k w ▸ h)

/-! loop.example/g00758/spec.l1Symbol -/
def pl132 : Plans := fun _ => ⟨false, [], .nil⟩
def S132 (v0 v1 : Value) (k : Value → World → Prop) (w : World) : Prop :=
 Do Try.prog (sBox 37 v0) (fun t1 w2 =>
 Rd Try.prog (WS.at w2) (sFieldAddr 37 t1 1) fun t3 =>
 Rd Try.prog (WS.at w2) (sLoad 3 t3) fun t4 =>
 Rd Try.prog (WS.at w2) (sUn .neg t4) fun t5 =>
 Rd Try.prog (WS.at w2) (sFieldAddr 37 t1 0) fun t6 =>
 Rd Try.prog (WS.at w2) (sLoad 3 t6) fun t7 =>
 Rd Try.prog (WS.at w2) (sBin .sub 3 true t7 (.int .i64 1)) fun t8 =>
 CallK Try.prog 77 [v1, t5, t8] (fun t9 w10 =>
 k t9 w10) w2) w
theorem body132 : Try.f132.body = some (bodyOf Try.f132) := by kernel_rfl
theorem same132 (v0 v1 : Value) (k : Value → World → Prop) (w : World) : wpF Try.prog pl132 (bodyOf Try.f132) (bodyQ Try.prog Try.f132.results.toList k) (initF [v0, v1]) w = S132 v0 v1 k w := by kernel_rfl
theorem enter132 {v0 v1 : Value} {k : Value → World → Prop} {w : World} (h : S132 v0 v1 k w) : CallK Try.prog 132 [v0, v1] k w :=
  call_of_wpF (pl := pl132) mixed Try.func132 body132 (by kernel_rfl) (of_decide_eq_true (by kernel_rfl)) (by kernel_rfl) (by kernel_rfl) (same132 v0 v1 k w ▸ h)

/-! loop.example/g00758/spec.l1SameRule -/
def pl133 : Plans := fun _ => ⟨false, [], .nil⟩
def S133 (v0 v1 : Value) (k : Value → World → Prop) (w : World) : Prop :=
 Do Try.prog (sBox 77 v0) (fun t1 w2 =>
 Do Try.prog (sBox 77 v1) (fun t3 w4 =>
 Rd Try.prog (WS.at w4) (sFieldAddr 77 t1 0) fun t5 =>
 Rd Try.prog (WS.at w4) (sLoad 3 t5) fun t6 =>
 Rd Try.prog (WS.at w4) (sFieldAddr 77 t3 0) fun t7 =>
 Rd Try.prog (WS.at w4) (sLoad 3 t7) fun t8 =>
 Rd Try.prog (WS.at w4) (sBin .eql 3 false t6 t8) fun t9 =>
 GuardK t9 true (fun k w' => Rd Try.prog (WS.at w4) (sFieldAddr 77 t1 1) fun v => k v w') (fun t10 w11 =>
 GuardK t9 true (fun k w' => Rd Try.prog (WS.at w11) (sLoad 22 t10) fun v => k v w') (fun t12 w13 =>
 GuardK t9 true (fun k w' => Rd Try.prog (WS.at w13) (sFieldAddr 77 t3 1) fun v => k v w') (fun t14 w15 =>
 GuardK t9 true (fun k w' => Rd Try.prog (WS.at w15) (sLoad 22 t14) fun v => k v w') (fun t16 w17 =>
 GuardK t9 true (fun k w' => CallK Try.prog 173 [t12, t16] k w') (fun t18 w19 =>
 Rd Try.prog (WS.at w19) (sPick t9 t18 (.bool false)) fun t20 =>
 k t20 w19) w17) w15) w13) w11) w4) w2) w
theorem body133 : Try.f133.body = some (bodyOf Try.f133) := by kernel_rfl
theorem same133 (v0 v1 : Value) (k : Value → World → Prop) (w : World) : wpF Try.prog pl133 (bodyOf Try.f133) (bodyQ Try.prog Try.f133.results.toList k) (initF [v0, v1]) w = S133 v0 v1 k w := by kernel_rfl
theorem enter133 {v0 v1 : Value} {k : Value → World → Prop} {w : World} (h : S133 v0 v1 k w) : CallK Try.prog 133 [v0, v1] k w :=
  call_of_wpF (pl := pl133) mixed Try.func133 body133 (by kernel_rfl) (of_decide_eq_true (by kernel_rfl)) (by kernel_rfl) (by kernel_rfl) (same133 v0 v1 k w ▸ h)

/-! loop.example/g00758/laws.toRule -/
def pl134 : Plans := fun _ => ⟨false, [], .nil⟩
def S134 (v0 : Value) (k : Value → World → Prop) (w : World) : Prop :=
 Do Try.prog (sBox 148 v0) (fun t1 w2 =>
 Do Try.prog (sAlloc 77) (fun t3 w4 =>
 Do Try.prog (sAlloc 77) (fun t5 w6 =>
 Rd Try.prog (WS.at w6) (sFieldAddr 148 t1 0) fun t7 =>
 Rd Try.prog (WS.at w6) (sLoad 3 t7) fun t8 =>
 Rd Try.prog (WS.at w6) (sFieldAddr 77 t5 0) fun t9 =>
 Do Try.prog (sStore 3 t9 t8) (fun _ w10 =>
 Rd Try.prog (WS.at w10) (sFieldAddr 148 t1 1) fun t11 =>
 Rd Try.prog (WS.at w10) (sLoad 22 t11) fun t12 =>
 CallK Try.prog 24 [t12] (fun t13 w14 =>
 Rd Try.prog (WS.at w14) (sFieldAddr 77 t5 1) fun t15 =>
 Do Try.prog (sStore 22 t15 t13) (fun _ w16 =>
 Rd Try.prog (WS.at w16) (sLoad 77 t5) fun t17 =>
 Do Try.prog (sStore 77 t3 t17) (fun _ w18 =>
 Rd Try.prog (WS.at w18) (sLoadVar 77 t3) fun t19 => k t19 w18) w16) w14) w10) w6) w4) w2) w
theorem body134 : Try.f134.body = some (bodyOf Try.f134) := by kernel_rfl
theorem same134 (v0 : Value) (k : Value → World → Prop) (w : World) : wpF Try.prog pl134 (bodyOf Try.f134) (bodyQ Try.prog Try.f134.results.toList k) (initF [v0]) w = S134 v0 k w := by kernel_rfl
theorem enter134 {v0 : Value} {k : Value → World → Prop} {w : World} (h : S134 v0 k w) : CallK Try.prog 134 [v0] k w :=
  call_of_wpF (pl := pl134) mixed Try.func134 body134 (by kernel_rfl) (of_decide_eq_true (by kernel_rfl)) (by kernel_rfl) (by kernel_rfl) (same134 v0 k w ▸ h)

/-! loop.example/g00758/impl.areSymbols -/
def pl135 : Plans := fun _ => ⟨false, [], .nil⟩
def S135 (v0 v1 v2 : Value) (k : Value → World → Prop) (w : World) : Prop :=
 Do Try.prog (sBox 3 v1) (fun t1 w2 =>
 Do Try.prog (sBox 3 v2) (fun t3 w4 =>
 Rd Try.prog (WS.at w4) (sMakeFunc (.func 174) [] [t1, t3]) fun t5 =>
 CallK Try.prog 129 [v0, t5] (fun t6 w7 =>
 Rd Try.prog (WS.at w7) (sUn .not t6) fun t8 =>
 k t8 w7) w4) w2) w
theorem body135 : Try.f135.body = some (bodyOf Try.f135) := by kernel_rfl
theorem same135 (v0 v1 v2 : Value) (k : Value → World → Prop) (w : World) : wpF Try.prog pl135 (bodyOf Try.f135) (bodyQ Try.prog Try.f135.results.toList k) (initF [v0, v1, v2]) w = S135 v0 v1 v2 k w := by kernel_rfl
theorem enter135 {v0 v1 v2 : Value} {k : Value → World → Prop} {w : World} (h : S135 v0 v1 v2 k w) : CallK Try.prog 135 [v0, v1, v2] k w :=
  call_of_wpF (pl := pl135) mixed Try.func135 body135 (by kernel_rfl) (of_decide_eq_true (by kernel_rfl)) (by kernel_rfl) (by kernel_rfl) (same135 v0 v1 v2 k w ▸ h)

/-! slices.ContainsFunc[[]loop.example/g00758/impl.Rule,loop.example/g00758/impl.Rule] -/
def pl136 : Plans := fun _ => ⟨false, [], .nil⟩
def S136 (v0 v1 : Value) (k : Value → World → Prop) (w : World) : Prop :=
 CallK Try.prog 176 [v0, v1] (fun t1 w2 =>
 Rd Try.prog (WS.at w2) (sBin .geq 3 true t1 (.int .i64 0)) fun t3 =>
 k t3 w2) w
theorem body136 : Try.f136.body = some (bodyOf Try.f136) := by kernel_rfl
theorem same136 (v0 v1 : Value) (k : Value → World → Prop) (w : World) : wpF Try.prog pl136 (bodyOf Try.f136) (bodyQ Try.prog Try.f136.results.toList k) (initF [v0, v1]) w = S136 v0 v1 k w := by kernel_rfl
theorem enter136 {v0 v1 : Value} {k : Value → World → Prop} {w : World} (h : S136 v0 v1 k w) : CallK Try.prog 136 [v0, v1] k w :=
  call_of_wpF (pl := pl136) mixed Try.func136 body136 (by kernel_rfl) (of_decide_eq_true (by kernel_rfl)) (by kernel_rfl) (by kernel_rfl) (same136 v0 v1 k w ▸ h)

/-! loop.example/g00758/impl.isGrammar$1 -/
def pl137 : Plans := fun _ => ⟨false, [], .nil⟩
def S137 (v0 v1 : Value) (k : Value → World → Prop) (w : World) : Prop :=
 Do Try.prog (sBox 77 v0) (fun t1 w2 =>
 Rd Try.prog (WS.at w2) (sLoad 77 t1) fun t3 =>
 Rd Try.prog (WS.at w2) (sLoad 77 v1) fun t4 =>
 CallK Try.prog 138 [t3, t4] (fun t5 w6 =>
 k t5 w6) w2) w
theorem body137 : Try.f137.body = some (bodyOf Try.f137) := by kernel_rfl
theorem same137 (v0 v1 : Value) (k : Value → World → Prop) (w : World) : wpF Try.prog pl137 (bodyOf Try.f137) (bodyQ Try.prog Try.f137.results.toList k) (initF [v0, v1]) w = S137 v0 v1 k w := by kernel_rfl
theorem enter137 {v0 v1 : Value} {k : Value → World → Prop} {w : World} (h : S137 v0 v1 k w) : CallK Try.prog 137 [v0, v1] k w :=
  call_of_wpF (pl := pl137) mixed Try.func137 body137 (by kernel_rfl) (of_decide_eq_true (by kernel_rfl)) (by kernel_rfl) (by kernel_rfl) (same137 v0 v1 k w ▸ h)

/-! loop.example/g00758/impl.sameRule -/
def pl138 : Plans := fun _ => ⟨false, [], .nil⟩
def S138 (v0 v1 : Value) (k : Value → World → Prop) (w : World) : Prop :=
 Do Try.prog (sBox 77 v0) (fun t1 w2 =>
 Do Try.prog (sBox 77 v1) (fun t3 w4 =>
 Rd Try.prog (WS.at w4) (sFieldAddr 77 t1 0) fun t5 =>
 Rd Try.prog (WS.at w4) (sLoad 3 t5) fun t6 =>
 Rd Try.prog (WS.at w4) (sFieldAddr 77 t3 0) fun t7 =>
 Rd Try.prog (WS.at w4) (sLoad 3 t7) fun t8 =>
 Rd Try.prog (WS.at w4) (sBin .eql 3 false t6 t8) fun t9 =>
 GuardK t9 true (fun k w' => Rd Try.prog (WS.at w4) (sFieldAddr 77 t1 1) fun v => k v w') (fun t10 w11 =>
 GuardK t9 true (fun k w' => Rd Try.prog (WS.at w11) (sLoad 22 t10) fun v => k v w') (fun t12 w13 =>
 GuardK t9 true (fun k w' => Rd Try.prog (WS.at w13) (sFieldAddr 77 t3 1) fun v => k v w') (fun t14 w15 =>
 GuardK t9 true (fun k w' => Rd Try.prog (WS.at w15) (sLoad 22 t14) fun v => k v w') (fun t16 w17 =>
 GuardK t9 true (fun k w' => CallK Try.prog 110 [t12, t16] k w') (fun t18 w19 =>
 Rd Try.prog (WS.at w19) (sPick t9 t18 (.bool false)) fun t20 =>
 k t20 w19) w17) w15) w13) w11) w4) w2) w
theorem body138 : Try.f138.body = some (bodyOf Try.f138) := by kernel_rfl
theorem same138 (v0 v1 : Value) (k : Value → World → Prop) (w : World) : wpF Try.prog pl138 (bodyOf Try.f138) (bodyQ Try.prog Try.f138.results.toList k) (initF [v0, v1]) w = S138 v0 v1 k w := by kernel_rfl
theorem enter138 {v0 v1 : Value} {k : Value → World → Prop} {w : World} (h : S138 v0 v1 k w) : CallK Try.prog 138 [v0, v1] k w :=
  call_of_wpF (pl := pl138) mixed Try.func138 body138 (by kernel_rfl) (of_decide_eq_true (by kernel_rfl)) (by kernel_rfl) (by kernel_rfl) (same138 v0 v1 k w ▸ h)

/-! loop.example/g00758/laws.eqRule -/
def pl139 : Plans := fun _ => ⟨false, [], .nil⟩
def S139 (v0 v1 : Value) (k : Value → World → Prop) (w : World) : Prop :=
 Do Try.prog (sBox 77 v0) (fun t1 w2 =>
 Do Try.prog (sBox 77 v1) (fun t3 w4 =>
 Rd Try.prog (WS.at w4) (sFieldAddr 77 t1 0) fun t5 =>
 Rd Try.prog (WS.at w4) (sLoad 3 t5) fun t6 =>
 Rd Try.prog (WS.at w4) (sFieldAddr 77 t3 0) fun t7 =>
 Rd Try.prog (WS.at w4) (sLoad 3 t7) fun t8 =>
 Rd Try.prog (WS.at w4) (sBin .neq 3 false t6 t8) fun t9 =>
 CondK t9
  (k (.bool false) w4)
  (Rd Try.prog (WS.at w4) (sFieldAddr 77 t1 1) fun t10 =>
  Rd Try.prog (WS.at w4) (sLoad 22 t10) fun t11 =>
  Rd Try.prog (WS.at w4) (sFieldAddr 77 t3 1) fun t12 =>
  Rd Try.prog (WS.at w4) (sLoad 22 t12) fun t13 =>
  CallK Try.prog 26 [t11, t13] (fun t14 w15 =>
  Rd Try.prog (WS.at w15) (sUn .not t14) fun t16 =>
  CondK t16
   (k (.bool false) w15)
   (k (.bool true) w15)) w4)) w2) w
theorem body139 : Try.f139.body = some (bodyOf Try.f139) := by kernel_rfl
theorem same139 (v0 v1 : Value) (k : Value → World → Prop) (w : World) : wpF Try.prog pl139 (bodyOf Try.f139) (bodyQ Try.prog Try.f139.results.toList k) (initF [v0, v1]) w = S139 v0 v1 k w := by kernel_rfl
theorem enter139 {v0 v1 : Value} {k : Value → World → Prop} {w : World} (h : S139 v0 v1 k w) : CallK Try.prog 139 [v0, v1] k w :=
  call_of_wpF (pl := pl139) mixed Try.func139 body139 (by kernel_rfl) (of_decide_eq_true (by kernel_rfl)) (by kernel_rfl) (by kernel_rfl) (same139 v0 v1 k w ▸ h)

/-! loop.example/g00758/laws.szIntS -/
def pl172 : Plans := fun _ => ⟨false, [], .nil⟩
def S172 (v0 v1 : Value) (k : Value → World → Prop) (w : World) : Prop :=
 Rd Try.prog (WS.at w) (sBuiltin .len #[22] 3 [false] [v0]) fun t1 =>
 Rd Try.prog (WS.at w) (sBin .sub 3 false v1 t1) fun t2 =>
 Rd Try.prog (WS.at w) (sBin .lss 3 true t2 (.int .i64 0)) fun t3 =>
 CondK t3
  (k (.int .i64 (-1)) w)
  (k t2 w)
theorem body172 : Try.f172.body = some (bodyOf Try.f172) := by kernel_rfl
theorem same172 (v0 v1 : Value) (k : Value → World → Prop) (w : World) : wpF Try.prog pl172 (bodyOf Try.f172) (bodyQ Try.prog Try.f172.results.toList k) (initF [v0, v1]) w = S172 v0 v1 k w := by kernel_rfl
theorem enter172 {v0 v1 : Value} {k : Value → World → Prop} {w : World} (h : S172 v0 v1 k w) : CallK Try.prog 172 [v0, v1] k w :=
  call_of_wpF (pl := pl172) mixed Try.func172 body172 (by kernel_rfl) (of_decide_eq_true (by kernel_rfl)) (by kernel_rfl) (by kernel_rfl) (same172 v0 v1 k w ▸ h)

/-! loop.example/g00758/spec.l1Same -/
def pl173 : Plans := fun i => match i with
  | 6 => ⟨false, [], .step 0 .any (.step 1 .any (.step 2 .any (.step 3 .held (.step 4 .any (.step 5 .any (.step 6 .any (.step 7 .held (.step 8 .any (.nil)))))))))⟩
  | _ => ⟨false, [], .nil⟩
def S173 (v0 v1 : Value) (k : Value → World → Prop) (w : World) : Prop :=
 Rd Try.prog (WS.at w) (sBuiltin .len #[22] 3 [false] [v0]) fun t1 =>
 Rd Try.prog (WS.at w) (sBuiltin .len #[22] 3 [false] [v1]) fun t2 =>
 Rd Try.prog (WS.at w) (sBin .neq 3 false t1 t2) fun t3 =>
 CondK t3
  (k (.bool false) w)
  (Rd Try.prog (WS.at w) (sBuiltin .len #[22] 3 [false] [v0]) fun t4 =>
  LoopF [14, 15, 5, 16, 17, 18, 19, 20, 21, 22, 23, 24, 4, 25, 13] (fun Q5 f6 w7 =>
   Rd Try.prog (WS.at w7) (sBin .lss 3 false (f6 13) (f6 12)) fun t8 =>
   CondK t8
    (Rd Try.prog WS.any (sIndexAddr 22 (f6 0) (f6 13)) fun t9 =>
    Rd Try.prog (WS.at w7.drew) (sLoad 3 t9) fun t10 =>
    Rd Try.prog WS.any (sIndexAddr 22 (f6 1) (f6 13)) fun t11 =>
    Rd Try.prog (WS.at w7.drew) (sLoad 3 t11) fun t12 =>
    Rd Try.prog WS.any (sBin .neq 3 false t10 t12) fun t13 =>
    CondK t13
     (Q5 .ret (F.upd (F.upd (F.upd (F.upd (F.upd (F.upd (F.upd (F.upd (F.upd (F.upd (F.upd (F.upd (F.upd f6 14 t8) 15 (f6 13)) 5 (f6 13)) 16 (f6 0)) 17 (f6 13)) 18 t9) 19 t10) 20 (f6 1)) 21 (f6 13)) 22 t11) 23 t12) 24 t13) 4 (.bool false)) w7.drew)
     (Rd Try.prog (WS.at w7.drew) (sBin .add 3 true (f6 13) (.int .i64 1)) fun t14 =>
     Q5 .normal (F.upd (F.upd (F.upd (F.upd (F.upd (F.upd (F.upd (F.upd (F.upd (F.upd (F.upd (F.upd (F.upd (F.upd f6 14 t8) 15 (f6 13)) 5 (f6 13)) 16 (f6 0)) 17 (f6 13)) 18 t9) 19 t10) 20 (f6 1)) 21 (f6 13)) 22 t11) 23 t12) 24 t13) 25 t14) 13 t14) w7.drew))
    (Q5 (.exit 0) (F.upd f6 14 t8) w7))
   (blockQ 0 (seqQ (fun f15 w16 =>
  k (.bool true) w16) (bodyQ Try.prog [.tmp 4] k)))
   (F.upd (F.upd (F.upd (F.upd (F.upd (F.upd (F.upd (F.upd (F.upd (initF [v0, v1]) 4 (.bool false)) 6 v0) 7 t1) 8 v1) 9 t2) 10 t3) 11 v0) 12 t4) 13 (.int .i64 0)) w)
theorem body173 : Try.f173.body = some (bodyOf Try.f173) := by kernel_rfl
theorem same173 (v0 v1 : Value) (k : Value → World → Prop) (w : World) : wpF Try.prog pl173 (bodyOf Try.f173) (bodyQ Try.prog Try.f173.results.toList k) (initF [v0, v1]) w = S173 v0 v1 k w := by kernel_rfl
theorem enter173 {v0 v1 : Value} {k : Value → World → Prop} {w : World} (h : S173 v0 v1 k w) : CallK Try.prog 173 [v0, v1] k w :=
  call_of_wpF (pl := pl173) mixed Try.func173 body173 (by kernel_rfl) (of_decide_eq_true (by kernel_rfl)) (by kernel_rfl) (by kernel_rfl) (same173 v0 v1 k w ▸ h)

/-! loop.example/g00758/impl.areSymbols$1 -/
def pl174 : Plans := fun _ => ⟨false, [], .nil⟩
def S174 (v0 v1 v2 : Value) (k : Value → World → Prop) (w : World) : Prop :=
 Rd Try.prog (WS.at w) (sLoad 3 v1) fun t1 =>
 Rd Try.prog (WS.at w) (sLoad 3 v2) fun t2 =>
 CallK Try.prog 175 [v0, t1, t2] (fun t3 w4 =>
 Rd Try.prog (WS.at w4) (sUn .not t3) fun t5 =>
 k t5 w4) w
theorem body174 : Try.f174.body = some (bodyOf Try.f174) := by kernel_rfl
theorem same174 (v0 v1 v2 : Value) (k : Value → World → Prop) (w : World) : wpF Try.prog pl174 (bodyOf Try.f174) (bodyQ Try.prog Try.f174.results.toList k) (initF [v0, v1, v2]) w = S174 v0 v1 v2 k w := by kernel_rfl
theorem enter174 {v0 v1 v2 : Value} {k : Value → World → Prop} {w : World} (h : S174 v0 v1 v2 k w) : CallK Try.prog 174 [v0, v1, v2] k w :=
  call_of_wpF (pl := pl174) mixed Try.func174 body174 (by kernel_rfl) (of_decide_eq_true (by kernel_rfl)) (by kernel_rfl) (by kernel_rfl) (same174 v0 v1 v2 k w ▸ h)

/-! loop.example/g00758/impl.isSymbol -/
def pl175 : Plans := fun _ => ⟨false, [], .nil⟩
def S175 (v0 v1 v2 : Value) (k : Value → World → Prop) (w : World) : Prop :=
 Rd Try.prog (WS.at w) (sUn .neg v2) fun t1 =>
 Rd Try.prog (WS.at w) (sBin .sub 3 true v1 (.int .i64 1)) fun t2 =>
 CallK Try.prog 103 [v0, t1, t2] (fun t3 w4 =>
 k t3 w4) w
theorem body175 : Try.f175.body = some (bodyOf Try.f175) := by kernel_rfl
theorem same175 (v0 v1 v2 : Value) (k : Value → World → Prop) (w : World) : wpF Try.prog pl175 (bodyOf Try.f175) (bodyQ Try.prog Try.f175.results.toList k) (initF [v0, v1, v2]) w = S175 v0 v1 v2 k w := by kernel_rfl
theorem enter175 {v0 v1 v2 : Value} {k : Value → World → Prop} {w : World} (h : S175 v0 v1 v2 k w) : CallK Try.prog 175 [v0, v1, v2] k w :=
  call_of_wpF (pl := pl175) mixed Try.func175 body175 (by kernel_rfl) (of_decide_eq_true (by kernel_rfl)) (by kernel_rfl) (by kernel_rfl) (same175 v0 v1 v2 k w ▸ h)

/-! slices.IndexFunc[[]loop.example/g00758/impl.Rule,loop.example/g00758/impl.Rule] -/
def pl176 : Plans := fun _ => ⟨false, [], .nil⟩
def S176 (v0 v1 : Value) (k : Value → World → Prop) (w : World) : Prop :=
 Rd Try.prog (WS.at w) (sBuiltin .len #[35] 3 [false] [v0]) fun t1 =>
 LoopF [9, 10, 5, 11, 12, 13, 14, 15, 16, 17, 4, 18, 8] (fun Q2 f3 w4 =>
  Rd Try.prog (WS.at w4) (sBin .lss 3 false (f3 8) (f3 7)) fun t5 =>
  CondK t5
   (Rd Try.prog (WS.at w4) (sIndexAddr 35 (f3 0) (f3 8)) fun t6 =>
   Rd Try.prog (WS.at w4) (sLoad 77 t6) fun t7 =>
   Do Try.prog (sCallV (f3 1) [t7] 4) (fun t8 w9 =>
   CondK t8
    (Q2 .ret (F.upd (F.upd (F.upd (F.upd (F.upd (F.upd (F.upd (F.upd (F.upd (F.upd (F.upd f3 9 t5) 10 (f3 8)) 5 (f3 8)) 11 (f3 1)) 12 (f3 0)) 13 (f3 8)) 14 t6) 15 t7) 16 t8) 17 (f3 8)) 4 (f3 8)) w9)
    (Rd Try.prog (WS.at w9) (sBin .add 3 true (f3 8) (.int .i64 1)) fun t10 =>
    Q2 .normal (F.upd (F.upd (F.upd (F.upd (F.upd (F.upd (F.upd (F.upd (F.upd (F.upd (F.upd f3 9 t5) 10 (f3 8)) 5 (f3 8)) 11 (f3 1)) 12 (f3 0)) 13 (f3 8)) 14 t6) 15 t7) 16 t8) 18 t10) 8 t10) w9)) w4)
   (Q2 (.exit 0) (F.upd f3 9 t5) w4))
  (blockQ 0 (seqQ (fun f11 w12 =>
 k (.int .i64 (-1)) w12) (bodyQ Try.prog [.tmp 4] k)))
  (F.upd (F.upd (F.upd (F.upd (initF [v0, v1]) 4 (.int .i64 0)) 6 v0) 7 t1) 8 (.int .i64 0)) w
theorem body176 : Try.f176.body = some (bodyOf Try.f176) := by kernel_rfl
theorem same176 (v0 v1 : Value) (k : Value → World → Prop) (w : World) : wpF Try.prog pl176 (bodyOf Try.f176) (bodyQ Try.prog Try.f176.results.toList k) (initF [v0, v1]) w = S176 v0 v1 k w := by kernel_rfl
theorem enter176 {v0 v1 : Value} {k : Value → World → Prop} {w : World} (h : S176 v0 v1 k w) : CallK Try.prog 176 [v0, v1] k w :=
  call_of_wpF (pl := pl176) mixed Try.func176 body176 (by kernel_rfl) (of_decide_eq_true (by kernel_rfl)) (by kernel_rfl) (by kernel_rfl) (same176 v0 v1 k w ▸ h)

end Go.Proofs.Ytiohaeckagjebaa
