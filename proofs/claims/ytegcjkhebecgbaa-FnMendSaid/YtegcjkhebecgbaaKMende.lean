/- Texts of this repository put together: Bh, ShM6, ShM7, ShM8, ShM9, ShMA, ShD4, Cc, ShF1, ShF2, ShF3, ShF4, ShF5, ShF6, ShB1, ShF7, ShB2, Bd, ShJ1, ShB3, ShB4, ShUC, Bi. -/
import Derived.Test.YtegcjkhebecgbaaProg
import Derived.Test.YtegcjkhebecgbaaKMenda
import Derived.Test.YtegcjkhebecgbaaKMendd
import Derived.Test.YtegcjkhebecgbaaKMendc
import Derived.Test.YtegcjkhebecgbaaKMendb

/- Bh: bodies of functions as terms of the frame calculus, printed by shgen.py of this repository. -/
set_option linter.unusedVariables false
set_option maxRecDepth 100000
namespace Go.Proofs.Ytegcjkhebecgbaa
open Go Go.Sh

/-! loop.example/g00758/spec.LeastMend -/
def pl99 : Plans := fun _ => ⟨false, [], .nil⟩
def S99 (v0 v1 : Value) (k : Value → World → Prop) (w : World) : Prop :=
 Do Try.prog (sBox 26 v0) (fun t1 w2 =>
 Rd Try.prog (WS.at w2) (sLoad 26 t1) fun t3 =>
 CallK Try.prog 214 [t3, v1] (fun t4 w5 =>
 Rd Try.prog (WS.at w5) (sUn .not t4) fun t6 =>
 CondK t6
  (k (.tuple #[(.int .i64 0), (.bool false)]) w5)
  (Rd Try.prog (WS.at w5) (sLoad 26 t1) fun t7 =>
  CallK Try.prog 216 [t7, v1] (fun t8 w9 =>
  Rd Try.prog (WS.at w9) (sIndexAddr 35 t8 (.int .i64 0)) fun t10 =>
  Rd Try.prog (WS.at w9) (sLoad 27 t10) fun t11 =>
  Rd Try.prog (WS.at w9) (sBuiltin .len #[27] 3 [false] [v1]) fun t12 =>
  Rd Try.prog (WS.at w9) (sIndexAddr 27 t11 t12) fun t13 =>
  Rd Try.prog (WS.at w9) (sLoad 3 t13) fun t14 =>
  Rd Try.prog (WS.at w9) (sBin .lss 3 true t14 (.int .i64 0)) fun t15 =>
  CondK t15
   (k (.tuple #[(.int .i64 0), (.bool false)]) w9)
   (k (.tuple #[t14, (.bool true)]) w9)) w5)) w2) w
theorem body99 : Try.f99.body = some (bodyOf Try.f99) := by kernel_rfl
theorem same99 (v0 v1 : Value) (k : Value → World → Prop) (w : World) : wpF Try.prog pl99 (bodyOf Try.f99) (bodyQ Try.prog Try.f99.results.toList k) (initF [v0, v1]) w = S99 v0 v1 k w := by kernel_rfl
theorem enter99 {v0 v1 : Value} {k : Value → World → Prop} {w : World} (h : S99 v0 v1 k w) : CallK Try.prog 99 [v0, v1] k w :=
  call_of_wpF (pl := pl99) mixed Try.func99 body99 (by kernel_rfl) (of_decide_eq_true (by kernel_rfl)) (by kernel_rfl) (by kernel_rfl) (same99 v0 v1 k w ▸ h)

/-! loop.example/g00758/impl.LeastMend -/
def pl98 : Plans := fun _ => ⟨false, [], .nil⟩
def S98 (v0 v1 : Value) (k : Value → World → Prop) (w : World) : Prop :=
 Do Try.prog (sBox 26 v0) (fun t1 w2 =>
 Rd Try.prog (WS.at w2) (sLoad 26 t1) fun t3 =>
 CallK Try.prog 148 [t3] (fun t4 w5 =>
 Rd Try.prog (WS.at w5) (sUn .not t4) fun t6 =>
 GuardK t6 false (fun k w' => Rd Try.prog (WS.at w5) (sFieldAddr 26 t1 1) fun v => k v w') (fun t7 w8 =>
 GuardK t6 false (fun k w' => Rd Try.prog (WS.at w8) (sLoad 3 t7) fun v => k v w') (fun t9 w10 =>
 GuardK t6 false (fun k w' => k v1 w') (fun t11 w12 =>
 GuardK t6 false (fun k w' => CallK Try.prog 150 [t9, t11] k w') (fun t13 w14 =>
 GuardK t6 false (fun k w' => Rd Try.prog (WS.at w14) (sUn .not t13) fun v => k v w') (fun t15 w16 =>
 Rd Try.prog (WS.at w16) (sPick t6 (.bool true) t15) fun t17 =>
 GuardK t17 false (fun k w' => k v1 w') (fun t18 w19 =>
 GuardK t17 false (fun k w' => Rd Try.prog (WS.at w19) (sBuiltin .len #[27] 3 [false] [t18]) fun v => k v w') (fun t20 w21 =>
 GuardK t17 false (fun k w' => Rd Try.prog (WS.at w21) (sBin .gtr 3 true t20 (.int .i64 8)) fun v => k v w') (fun t22 w23 =>
 Rd Try.prog (WS.at w23) (sPick t17 (.bool true) t22) fun t24 =>
 CondK t24
  (k (.tuple #[(.int .i64 0), (.bool false)]) w23)
  (Rd Try.prog (WS.at w23) (sLoad 26 t1) fun t25 =>
  CallK Try.prog 215 [t25, v1] (fun t26 w27 =>
  Rd Try.prog (WS.at w27) (sBuiltin .len #[27] 3 [false] [v1]) fun t28 =>
  Rd Try.prog (WS.at w27) (sNilCheck t26) fun t29 =>
  Rd Try.prog (WS.at w27) (sFieldAddr 184 t29 1) fun t30 =>
  Rd Try.prog (WS.at w27) (sIndexAddr 182 t30 (.int .i64 0)) fun t31 =>
  Rd Try.prog (WS.at w27) (sIndexAddr 181 t31 (.int .i64 0)) fun t32 =>
  Rd Try.prog (WS.at w27) (sIndexAddr 180 t32 t28) fun t33 =>
  Rd Try.prog (WS.at w27) (sLoad 3 t33) fun t34 =>
  Rd Try.prog (WS.at w27) (sBin .lss 3 true t34 (.int .i64 0)) fun t35 =>
  CondK t35
   (k (.tuple #[(.int .i64 0), (.bool false)]) w27)
   (k (.tuple #[t34, (.bool true)]) w27)) w23)) w21) w19) w16) w14) w12) w10) w8) w5) w2) w
theorem body98 : Try.f98.body = some (bodyOf Try.f98) := by kernel_rfl
theorem same98 (v0 v1 : Value) (k : Value → World → Prop) (w : World) : wpF Try.prog pl98 (bodyOf Try.f98) (bodyQ Try.prog Try.f98.results.toList k) (initF [v0, v1]) w = S98 v0 v1 k w := by kernel_rfl
theorem enter98 {v0 v1 : Value} {k : Value → World → Prop} {w : World} (h : S98 v0 v1 k w) : CallK Try.prog 98 [v0, v1] k w :=
  call_of_wpF (pl := pl98) mixed Try.func98 body98 (by kernel_rfl) (of_decide_eq_true (by kernel_rfl)) (by kernel_rfl) (by kernel_rfl) (same98 v0 v1 k w ▸ h)

/-! loop.example/g00758/spec.MendTable -/
def pl106 : Plans := fun _ => ⟨false, [], .nil⟩
def S106 (v0 v1 : Value) (k : Value → World → Prop) (w : World) : Prop :=
 Do Try.prog (sBox 26 v0) (fun t1 w2 =>
 Rd Try.prog (WS.at w2) (sLoad 26 t1) fun t3 =>
 CallK Try.prog 214 [t3, v1] (fun t4 w5 =>
 Rd Try.prog (WS.at w5) (sUn .not t4) fun t6 =>
 CondK t6
  (k (.tuple #[(.slice none 0 0), (.bool false)]) w5)
  (Rd Try.prog (WS.at w5) (sBuiltin .len #[27] 3 [false] [v1]) fun t7 =>
  Rd Try.prog (WS.at w5) (sBin .add 3 true t7 (.int .i64 1)) fun t8 =>
  Rd Try.prog (WS.at w5) (sLoad 26 t1) fun t9 =>
  CallK Try.prog 216 [t9, v1] (fun t10 w11 =>
  Rd Try.prog (WS.at w11) (sBuiltin .len #[35] 3 [false] [t10]) fun t12 =>
  LoopF [23, 24, 25, 9, 10, 26, 27, 28, 31, 32, 33, 34, 35, 36, 37, 38, 39, 40, 41, 42, 43, 44, 7, 29, 30, 10, 45, 22] (fun Q13 f14 w15 =>
   Rd Try.prog (WS.at w15) (sBin .lss 3 false (f14 22) (f14 21)) fun t16 =>
   CondK t16
    (Rd Try.prog (WS.at w15) (sIndexAddr 35 (f14 20) (f14 22)) fun t17 =>
    Rd Try.prog (WS.at w15) (sLoad 27 t17) fun t18 =>
    LoopF [26, 27, 28, 31, 32, 33, 34, 35, 36, 37, 38, 39, 40, 41, 42, 43, 44, 7, 29, 30, 10] (fun Q19 f20 w21 =>
     Rd Try.prog (WS.at w21) (sBin .lss 3 false (f20 10) (f20 6)) fun t22 =>
     CondK t22
      (Rd Try.prog (WS.at w21) (sBin .mul 3 false (f20 10) (f20 6)) fun t23 =>
      Rd Try.prog (WS.at w21) (sBin .add 3 false t23 (f20 10)) fun t24 =>
      Rd Try.prog (WS.at w21) (sBin .mul 3 false (f20 10) (f20 6)) fun t25 =>
      Rd Try.prog (WS.at w21) (sBin .add 3 false t25 (f20 6)) fun t26 =>
      Rd Try.prog (WS.at w21) (sSlice 27 (f20 9) (some t24) (some t26) none) fun t27 =>
      Do Try.prog (sBuiltin .append #[27, 27] 27 [false, false] [(f20 7), t27]) (fun t28 w29 =>
      Rd Try.prog (WS.at w29) (sBin .add 3 true (f20 10) (.int .i64 1)) fun t30 =>
      Q19 .normal (F.upd (F.upd (F.upd (F.upd (F.upd (F.upd (F.upd (F.upd (F.upd (F.upd (F.upd (F.upd (F.upd (F.upd (F.upd (F.upd (F.upd (F.upd (F.upd (F.upd (F.upd f20 26 (f20 10)) 27 (f20 6)) 28 t22) 31 (f20 7)) 32 (f20 9)) 33 (f20 10)) 34 (f20 6)) 35 t23) 36 (f20 10)) 37 t24) 38 (f20 10)) 39 (f20 6)) 40 t25) 41 (f20 6)) 42 t26) 43 t27) 44 t28) 7 t28) 29 (f20 10)) 30 t30) 10 t30) w29) w21)
      (Q19 (.exit 2) (F.upd (F.upd (F.upd f20 26 (f20 10)) 27 (f20 6)) 28 t22) w21))
     (blockQ 2 (blockQ 1 (seqQ (fun f31 w32 =>
    Rd Try.prog (WS.at w32) (sBin .add 3 true (f31 22) (.int .i64 1)) fun t33 =>
    Q13 .normal (F.upd (F.upd f31 45 t33) 22 t33) w32) Q13)))
     (F.upd (F.upd (F.upd (F.upd (F.upd f14 23 t16) 24 t17) 25 t18) 9 t18) 10 (.int .i64 0)) w15)
    (Q13 (.exit 0) (F.upd f14 23 t16) w15))
   (blockQ 0 (seqQ (fun f34 w35 =>
  k (.tuple #[(f34 7), (.bool true)]) w35) (bodyQ Try.prog [.tmp 4, .tmp 5] k)))
   (F.upd (F.upd (F.upd (F.upd (F.upd (F.upd (F.upd (F.upd (F.upd (F.upd (F.upd (F.upd (F.upd (F.upd (F.upd (F.upd (F.upd (initF [v0, v1]) 2 t1) 4 (.slice none 0 0)) 5 (.bool false)) 11 t3) 12 v1) 13 t4) 14 t6) 15 v1) 16 t7) 17 t8) 6 t8) 7 (.slice none 0 0)) 18 t9) 19 v1) 20 t10) 21 t12) 22 (.int .i64 0)) w11) w5)) w2) w
theorem body106 : Try.f106.body = some (bodyOf Try.f106) := by kernel_rfl
theorem same106 (v0 v1 : Value) (k : Value → World → Prop) (w : World) : wpF Try.prog pl106 (bodyOf Try.f106) (bodyQ Try.prog Try.f106.results.toList k) (initF [v0, v1]) w = S106 v0 v1 k w := by kernel_rfl
theorem enter106 {v0 v1 : Value} {k : Value → World → Prop} {w : World} (h : S106 v0 v1 k w) : CallK Try.prog 106 [v0, v1] k w :=
  call_of_wpF (pl := pl106) mixed Try.func106 body106 (by kernel_rfl) (of_decide_eq_true (by kernel_rfl)) (by kernel_rfl) (by kernel_rfl) (same106 v0 v1 k w ▸ h)

/-! loop.example/g00758/impl.MendTable -/
def pl105 : Plans := fun _ => ⟨false, [], .nil⟩
def S105 (v0 v1 : Value) (k : Value → World → Prop) (w : World) : Prop :=
 Do Try.prog (sBox 26 v0) (fun t1 w2 =>
 Rd Try.prog (WS.at w2) (sLoad 26 t1) fun t3 =>
 CallK Try.prog 148 [t3] (fun t4 w5 =>
 Rd Try.prog (WS.at w5) (sUn .not t4) fun t6 =>
 GuardK t6 false (fun k w' => Rd Try.prog (WS.at w5) (sFieldAddr 26 t1 1) fun v => k v w') (fun t7 w8 =>
 GuardK t6 false (fun k w' => Rd Try.prog (WS.at w8) (sLoad 3 t7) fun v => k v w') (fun t9 w10 =>
 GuardK t6 false (fun k w' => k v1 w') (fun t11 w12 =>
 GuardK t6 false (fun k w' => CallK Try.prog 150 [t9, t11] k w') (fun t13 w14 =>
 GuardK t6 false (fun k w' => Rd Try.prog (WS.at w14) (sUn .not t13) fun v => k v w') (fun t15 w16 =>
 Rd Try.prog (WS.at w16) (sPick t6 (.bool true) t15) fun t17 =>
 GuardK t17 false (fun k w' => k v1 w') (fun t18 w19 =>
 GuardK t17 false (fun k w' => Rd Try.prog (WS.at w19) (sBuiltin .len #[27] 3 [false] [t18]) fun v => k v w') (fun t20 w21 =>
 GuardK t17 false (fun k w' => Rd Try.prog (WS.at w21) (sBin .gtr 3 true t20 (.int .i64 8)) fun v => k v w') (fun t22 w23 =>
 Rd Try.prog (WS.at w23) (sPick t17 (.bool true) t22) fun t24 =>
 CondK t24
  (k (.tuple #[(.slice none 0 0), (.bool false)]) w23)
  (Rd Try.prog (WS.at w23) (sLoad 26 t1) fun t25 =>
  CallK Try.prog 215 [t25, v1] (fun t26 w27 =>
  Do Try.prog (sBuildSlice 27 0 []) (fun t28 w29 =>
  Rd Try.prog (WS.at w29) (sFieldAddr 26 t1 0) fun t30 =>
  Rd Try.prog (WS.at w29) (sLoad 3 t30) fun t31 =>
  LoopF [32, 33, 8, 34, 35, 36, 37, 38, 39, 9, 40, 41, 42, 43, 44, 45, 46, 47, 48, 49, 50, 51, 52, 53, 7, 54, 37, 55, 31] (fun Q32 f33 w34 =>
   Rd Try.prog (WS.at w34) (sBin .lss 3 false (f33 31) (f33 30)) fun t35 =>
   CondK t35
    (Rd Try.prog (WS.at w34) (sBuiltin .len #[27] 3 [false] [(f33 1)]) fun t36 =>
    Rd Try.prog (WS.at w34) (sBin .add 3 true t36 (.int .i64 1)) fun t37 =>
    LoopF [38, 39, 9, 40, 41, 42, 43, 44, 45, 46, 47, 48, 49, 50, 51, 52, 53, 7, 54, 37] (fun Q38 f39 w40 =>
     Rd Try.prog (WS.at w40) (sBin .lss 3 false (f39 37) (f39 36)) fun t41 =>
     CondK t41
      (Rd Try.prog (WS.at w40) (sNilCheck (f39 6)) fun t42 =>
      Rd Try.prog (WS.at w40) (sFieldAddr 184 t42 1) fun t43 =>
      Rd Try.prog (WS.at w40) (sIndexAddr 182 t43 (f39 8)) fun t44 =>
      Rd Try.prog (WS.at w40) (sIndexAddr 181 t44 (f39 37)) fun t45 =>
      Rd Try.prog (WS.at w40) (sBuiltin .len #[27] 3 [false] [(f39 1)]) fun t46 =>
      Rd Try.prog (WS.at w40) (sBin .add 3 true t46 (.int .i64 1)) fun t47 =>
      Rd Try.prog (WS.at w40) (sSlice 180 t45 (some (f39 37)) (some t47) none) fun t48 =>
      Do Try.prog (sBuiltin .append #[27, 27] 27 [false, false] [(f39 7), t48]) (fun t49 w50 =>
      Rd Try.prog (WS.at w50) (sBin .add 3 true (f39 37) (.int .i64 1)) fun t51 =>
      Q38 .normal (F.upd (F.upd (F.upd (F.upd (F.upd (F.upd (F.upd (F.upd (F.upd (F.upd (F.upd (F.upd (F.upd (F.upd (F.upd (F.upd (F.upd (F.upd (F.upd (F.upd f39 38 t41) 39 (f39 37)) 9 (f39 37)) 40 (f39 7)) 41 (f39 6)) 42 (f39 8)) 43 (f39 37)) 44 t42) 45 t43) 46 t44) 47 t45) 48 (f39 37)) 49 (f39 1)) 50 t46) 51 t47) 52 t48) 53 t49) 7 t49) 54 t51) 37 t51) w50) w40)
      (Q38 (.exit 2) (F.upd f39 38 t41) w40))
     (blockQ 2 (blockQ 1 (seqQ (fun f52 w53 =>
    Rd Try.prog (WS.at w53) (sBin .add 3 true (f52 31) (.int .i64 1)) fun t54 =>
    Q32 .normal (F.upd (F.upd f52 55 t54) 31 t54) w53) Q32)))
     (F.upd (F.upd (F.upd (F.upd (F.upd (F.upd (F.upd f33 32 t35) 33 (f33 31)) 8 (f33 31)) 34 (f33 1)) 35 t36) 36 t37) 37 (.int .i64 0)) w34)
    (Q32 (.exit 0) (F.upd f33 32 t35) w34))
   (blockQ 0 (seqQ (fun f55 w56 =>
  k (.tuple #[(f55 7), (.bool true)]) w56) (bodyQ Try.prog [.tmp 4, .tmp 5] k)))
   (F.upd (F.upd (F.upd (F.upd (F.upd (F.upd (F.upd (F.upd (F.upd (F.upd (F.upd (F.upd (F.upd (F.upd (F.upd (F.upd (F.upd (F.upd (F.upd (F.upd (F.upd (F.upd (F.upd (F.upd (F.upd (F.upd (F.upd (initF [v0, v1]) 2 t1) 4 (.slice none 0 0)) 5 (.bool false)) 10 t3) 11 t4) 12 t6) 13 t6) 14 t7) 15 t9) 16 t11) 17 t13) 18 t15) 19 t17) 20 t17) 21 t18) 22 t20) 23 t22) 24 t24) 25 t25) 26 v1) 27 t26) 6 t26) 28 t28) 7 t28) 29 t30) 30 t31) 31 (.int .i64 0)) w29) w27) w23)) w21) w19) w16) w14) w12) w10) w8) w5) w2) w
theorem body105 : Try.f105.body = some (bodyOf Try.f105) := by kernel_rfl
theorem same105 (v0 v1 : Value) (k : Value → World → Prop) (w : World) : wpF Try.prog pl105 (bodyOf Try.f105) (bodyQ Try.prog Try.f105.results.toList k) (initF [v0, v1]) w = S105 v0 v1 k w := by kernel_rfl
theorem enter105 {v0 v1 : Value} {k : Value → World → Prop} {w : World} (h : S105 v0 v1 k w) : CallK Try.prog 105 [v0, v1] k w :=
  call_of_wpF (pl := pl105) mixed Try.func105 body105 (by kernel_rfl) (of_decide_eq_true (by kernel_rfl)) (by kernel_rfl) (by kernel_rfl) (same105 v0 v1 k w ▸ h)

/-! loop.example/g00758/spec.l17Word -/
def pl214 : Plans := fun _ => ⟨false, [], .nil⟩
def S214 (v0 v1 : Value) (k : Value → World → Prop) (w : World) : Prop :=
 Do Try.prog (sBox 26 v0) (fun t1 w2 =>
 Rd Try.prog (WS.at w2) (sLoad 26 t1) fun t3 =>
 CallK Try.prog 128 [t3, v1] (fun t4 w5 =>
 GuardK t4 true (fun k w' => k v1 w') (fun t6 w7 =>
 GuardK t4 true (fun k w' => Rd Try.prog (WS.at w7) (sBuiltin .len #[27] 3 [false] [t6]) fun v => k v w') (fun t8 w9 =>
 GuardK t4 true (fun k w' => Rd Try.prog (WS.at w9) (sBin .leq 3 true t8 (.int .i64 8)) fun v => k v w') (fun t10 w11 =>
 Rd Try.prog (WS.at w11) (sPick t4 t10 (.bool false)) fun t12 =>
 k t12 w11) w9) w7) w5) w2) w
theorem body214 : Try.f214.body = some (bodyOf Try.f214) := by kernel_rfl
theorem same214 (v0 v1 : Value) (k : Value → World → Prop) (w : World) : wpF Try.prog pl214 (bodyOf Try.f214) (bodyQ Try.prog Try.f214.results.toList k) (initF [v0, v1]) w = S214 v0 v1 k w := by kernel_rfl
theorem enter214 {v0 v1 : Value} {k : Value → World → Prop} {w : World} (h : S214 v0 v1 k w) : CallK Try.prog 214 [v0, v1] k w :=
  call_of_wpF (pl := pl214) mixed Try.func214 body214 (by kernel_rfl) (of_decide_eq_true (by kernel_rfl)) (by kernel_rfl) (by kernel_rfl) (same214 v0 v1 k w ▸ h)

/-! loop.example/g00758/spec.l17Table -/
def pl216 : Plans := fun _ => ⟨false, [], .nil⟩
def S216 (v0 v1 : Value) (k : Value → World → Prop) (w : World) : Prop :=
 Do Try.prog (sBox 26 v0) (fun t1 w2 =>
 Rd Try.prog (WS.at w2) (sBuiltin .len #[27] 3 [false] [v1]) fun t3 =>
 Rd Try.prog (WS.at w2) (sBin .add 3 true t3 (.int .i64 1)) fun t4 =>
 Rd Try.prog (WS.at w2) (sFieldAddr 26 t1 0) fun t5 =>
 Rd Try.prog (WS.at w2) (sLoad 3 t5) fun t6 =>
 Do Try.prog (sMakeSlice 35 t6 t6) (fun t7 w8 =>
 Rd Try.prog (WS.at w8) (sBuiltin .len #[35] 3 [false] [t7]) fun t9 =>
 LoopF [25, 26, 7, 27, 28, 29, 30, 31, 32, 33, 34, 35, 36, 37, 38, 39, 40, 41, 8, 42, 43, 44, 45, 46, 47, 48, 39, 49, 24] (fun Q10 f11 w12 =>
  Rd Try.prog (WS.at w12) (sBin .lss 3 false (f11 24) (f11 23)) fun t13 =>
  CondK t13
   (Rd Try.prog (WS.at w12) (sBin .mul 3 false (f11 5) (f11 5)) fun t14 =>
   Do Try.prog (sMakeSlice 27 t14 t14) (fun t15 w16 =>
   Rd Try.prog (WS.at w16) (sIndexAddr 35 (f11 6) (f11 24)) fun t17 =>
   Do Try.prog (sStore 27 t17 t15) (fun _ w18 =>
   Rd Try.prog (WS.at w18) (sIndexAddr 35 (f11 6) (f11 24)) fun t19 =>
   Rd Try.prog (WS.at w18) (sLoad 27 t19) fun t20 =>
   Rd Try.prog (WS.at w18) (sBuiltin .len #[27] 3 [false] [t20]) fun t21 =>
   LoopF [40, 41, 8, 42, 43, 44, 45, 46, 47, 48, 39] (fun Q22 f23 w24 =>
    Rd Try.prog (WS.at w24) (sBin .lss 3 false (f23 39) (f23 38)) fun t25 =>
    CondK t25
     (Rd Try.prog (WS.at w24) (sIndexAddr 35 (f23 6) (f23 7)) fun t26 =>
     Rd Try.prog (WS.at w24) (sLoad 27 t26) fun t27 =>
     Rd Try.prog (WS.at w24) (sIndexAddr 27 t27 (f23 39)) fun t28 =>
     Do Try.prog (sStore 3 t28 (.int .i64 (-1))) (fun _ w29 =>
     Rd Try.prog (WS.at w29) (sBin .add 3 true (f23 39) (.int .i64 1)) fun t30 =>
     Q22 .normal (F.upd (F.upd (F.upd (F.upd (F.upd (F.upd (F.upd (F.upd (F.upd (F.upd (F.upd f23 40 t25) 41 (f23 39)) 8 (f23 39)) 42 (f23 6)) 43 (f23 7)) 44 t26) 45 t27) 46 (f23 39)) 47 t28) 48 t30) 39 t30) w29) w24)
     (Q22 (.exit 2) (F.upd f23 40 t25) w24))
    (blockQ 2 (blockQ 1 (seqQ (fun f31 w32 =>
   Rd Try.prog (WS.at w32) (sBin .add 3 true (f31 24) (.int .i64 1)) fun t33 =>
   Q10 .normal (F.upd (F.upd f31 49 t33) 24 t33) w32) Q10)))
    (F.upd (F.upd (F.upd (F.upd (F.upd (F.upd (F.upd (F.upd (F.upd (F.upd (F.upd (F.upd (F.upd (F.upd (F.upd (F.upd f11 25 t13) 26 (f11 24)) 7 (f11 24)) 27 (f11 6)) 28 (f11 24)) 29 (f11 5)) 30 (f11 5)) 31 t14) 32 t15) 33 t17) 34 (f11 6)) 35 (f11 24)) 36 t19) 37 t20) 38 t21) 39 (.int .i64 0)) w18) w16) w12)
   (Q10 (.exit 0) (F.upd f11 25 t13) w12))
  (blockQ 0 (seqQ (fun f34 w35 =>
 LoopF [50, 9, 51, 52, 53, 54, 55, 56, 57, 11, 12, 58, 59, 60, 63, 13, 64, 65, 66, 69, 70, 71, 72, 73, 74, 75, 14, 76, 77, 78, 79, 80, 81, 82, 83, 84, 85, 86, 87, 15, 88, 89, 90, 91, 92, 93, 94, 95, 96, 97, 98, 99, 100, 101, 102, 103, 104, 105, 106, 107, 108, 109, 110, 9, 67, 68, 13, 61, 62, 12, 111, 54] (fun Q36 f37 w38 =>
  CondK (f37 9)
   (Rd Try.prog (WS.at w38) (sFieldAddr 26 (f37 2) 2) fun t39 =>
   Rd Try.prog (WS.at w38) (sLoad 24 t39) fun t40 =>
   Rd Try.prog (WS.at w38) (sBuiltin .len #[24] 3 [false] [t40]) fun t41 =>
   LoopF [55, 56, 57, 11, 12, 58, 59, 60, 63, 13, 64, 65, 66, 69, 70, 71, 72, 73, 74, 75, 14, 76, 77, 78, 79, 80, 81, 82, 83, 84, 85, 86, 87, 15, 88, 89, 90, 91, 92, 93, 94, 95, 96, 97, 98, 99, 100, 101, 102, 103, 104, 105, 106, 107, 108, 109, 110, 9, 67, 68, 13, 61, 62, 12, 111, 54] (fun Q42 f43 w44 =>
    Rd Try.prog (WS.at w44) (sBin .lss 3 false (f43 54) (f43 53)) fun t45 =>
    CondK t45
     (Rd Try.prog (WS.at w44) (sIndexAddr 24 (f43 52) (f43 54)) fun t46 =>
     Rd Try.prog (WS.at w44) (sLoad 33 t46) fun t47 =>
     Do Try.prog (sAlloc 33) (fun t48 w49 =>
     Do Try.prog (sStore 33 t48 t47) (fun _ w50 =>
     LoopF [58, 59, 60, 63, 13, 64, 65, 66, 69, 70, 71, 72, 73, 74, 75, 14, 76, 77, 78, 79, 80, 81, 82, 83, 84, 85, 86, 87, 15, 88, 89, 90, 91, 92, 93, 94, 95, 96, 97, 98, 99, 100, 101, 102, 103, 104, 105, 106, 107, 108, 109, 110, 9, 67, 68, 13, 61, 62, 12] (fun Q51 f52 w53 =>
      Rd Try.prog (WS.at w53) (sBin .lss 3 false (f52 12) (f52 5)) fun t54 =>
      CondK t54
       (LoopF [64, 65, 66, 69, 70, 71, 72, 73, 74, 75, 14, 76, 77, 78, 79, 80, 81, 82, 83, 84, 85, 86, 87, 15, 88, 89, 90, 91, 92, 93, 94, 95, 96, 97, 98, 99, 100, 101, 102, 103, 104, 105, 106, 107, 108, 109, 110, 9, 67, 68, 13] (fun Q55 f56 w57 =>
        Rd Try.prog (WS.at w57) (sBin .lss 3 false (f56 13) (f56 5)) fun t58 =>
        CondK t58
         (Join (fun K59 =>
         Rd Try.prog (WS.at w57) (sFieldAddr 33 (f56 11) 1) fun t62 =>
         Rd Try.prog (WS.at w57) (sLoad 27 t62) fun t63 =>
         CallK Try.prog 291 [(f56 6), (f56 1), t63, (f56 12), (f56 13)] (fun t64 w65 =>
         Rd Try.prog (WS.at w65) (sFieldAddr 33 (f56 11) 0) fun t66 =>
         Rd Try.prog (WS.at w65) (sLoad 3 t66) fun t67 =>
         Rd Try.prog (WS.at w65) (sIndexAddr 35 (f56 6) t67) fun t68 =>
         Rd Try.prog (WS.at w65) (sLoad 27 t68) fun t69 =>
         Rd Try.prog (WS.at w65) (sBin .mul 3 false (f56 12) (f56 5)) fun t70 =>
         Rd Try.prog (WS.at w65) (sBin .add 3 false t70 (f56 13)) fun t71 =>
         Rd Try.prog (WS.at w65) (sIndexAddr 27 t69 t71) fun t72 =>
         Rd Try.prog (WS.at w65) (sLoad 3 t72) fun t73 =>
         Rd Try.prog (WS.at w65) (sBin .geq 3 true t64 (.int .i64 0)) fun t74 =>
         GuardK t74 true (fun k w' => k t73 w') (fun t75 w76 =>
         GuardK t74 true (fun k w' => Rd Try.prog (WS.at w76) (sBin .lss 3 true t75 (.int .i64 0)) fun v => k v w') (fun t77 w78 =>
         GuardK t74 true (fun k w' => k t77 w') (fun t79 w80 =>
         GuardK t79 false (fun k w' => k t64 w') (fun t81 w82 =>
         GuardK t79 false (fun k w' => k t73 w') (fun t83 w84 =>
         GuardK t79 false (fun k w' => Rd Try.prog (WS.at w84) (sBin .lss 3 false t81 t83) fun v => k v w') (fun t85 w86 =>
         GuardK t74 true (fun k w' => Rd Try.prog (WS.at w86) (sPick t79 (.bool true) t85) fun v => k v w') (fun t87 w88 =>
         Rd Try.prog (WS.at w88) (sPick t74 t87 (.bool false)) fun t89 =>
         CondK t89
          (Rd Try.prog (WS.at w88) (sFieldAddr 33 (f56 11) 0) fun t90 =>
          Rd Try.prog (WS.at w88) (sLoad 3 t90) fun t91 =>
          Rd Try.prog (WS.at w88) (sIndexAddr 35 (f56 6) t91) fun t92 =>
          Rd Try.prog (WS.at w88) (sLoad 27 t92) fun t93 =>
          Rd Try.prog (WS.at w88) (sBin .mul 3 false (f56 12) (f56 5)) fun t94 =>
          Rd Try.prog (WS.at w88) (sBin .add 3 false t94 (f56 13)) fun t95 =>
          Rd Try.prog (WS.at w88) (sIndexAddr 27 t93 t95) fun t96 =>
          Do Try.prog (sStore 3 t96 t64) (fun _ w97 =>
          K59 (F.upd (F.upd (F.upd (F.upd (F.upd (F.upd (F.upd (F.upd (F.upd (F.upd (F.upd (F.upd (F.upd (F.upd (F.upd (F.upd (F.upd (F.upd (F.upd (F.upd (F.upd (F.upd (F.upd (F.upd (F.upd (F.upd (F.upd (F.upd (F.upd (F.upd (F.upd (F.upd (F.upd (F.upd (F.upd (F.upd (F.upd (F.upd (F.upd (F.upd (F.upd (F.upd (F.upd (F.upd (F.upd (F.upd (F.upd (F.upd f56 64 (f56 13)) 65 (f56 5)) 66 t58) 69 (f56 6)) 70 (f56 1)) 71 t62) 72 t63) 73 (f56 12)) 74 (f56 13)) 75 t64) 14 t64) 76 (f56 6)) 77 t66) 78 t67) 79 t68) 80 t69) 81 (f56 12)) 82 (f56 5)) 83 t70) 84 (f56 13)) 85 t71) 86 t72) 87 t73) 15 t73) 88 t64) 89 t74) 90 t74) 91 t75) 92 t77) 93 t79) 94 t81) 95 t83) 96 t85) 97 t87) 98 t89) 99 (f56 6)) 100 t90) 101 t91) 102 t92) 103 t93) 104 (f56 12)) 105 (f56 5)) 106 t94) 107 (f56 13)) 108 t95) 109 t64) 110 t96) 9 (.bool true)) w97) w88)
          (K59 (F.upd (F.upd (F.upd (F.upd (F.upd (F.upd (F.upd (F.upd (F.upd (F.upd (F.upd (F.upd (F.upd (F.upd (F.upd (F.upd (F.upd (F.upd (F.upd (F.upd (F.upd (F.upd (F.upd (F.upd (F.upd (F.upd (F.upd (F.upd (F.upd (F.upd (F.upd (F.upd (F.upd (F.upd (F.upd f56 64 (f56 13)) 65 (f56 5)) 66 t58) 69 (f56 6)) 70 (f56 1)) 71 t62) 72 t63) 73 (f56 12)) 74 (f56 13)) 75 t64) 14 t64) 76 (f56 6)) 77 t66) 78 t67) 79 t68) 80 t69) 81 (f56 12)) 82 (f56 5)) 83 t70) 84 (f56 13)) 85 t71) 86 t72) 87 t73) 15 t73) 88 t64) 89 t74) 90 t74) 91 t75) 92 t77) 93 t79) 94 t81) 95 t83) 96 t85) 97 t87) 98 t89) w88)) w86) w84) w82) w80) w78) w76) w65) w57) (fun f60 w61 =>
         Rd Try.prog (WS.at w61) (sBin .add 3 true (f60 13) (.int .i64 1)) fun t98 =>
         Q55 .normal (F.upd (F.upd (F.upd f60 67 (f60 13)) 68 t98) 13 t98) w61))
         (Q55 (.exit 10) (F.upd (F.upd (F.upd f56 64 (f56 13)) 65 (f56 5)) 66 t58) w57))
        (blockQ 10 (blockQ 9 (seqQ (fun f99 w100 =>
       Rd Try.prog (WS.at w100) (sBin .add 3 true (f99 12) (.int .i64 1)) fun t101 =>
       Q51 .normal (F.upd (F.upd (F.upd f99 61 (f99 12)) 62 t101) 12 t101) w100) Q51)))
        (F.upd (F.upd (F.upd (F.upd (F.upd f52 58 (f52 12)) 59 (f52 5)) 60 t54) 63 (f52 12)) 13 (f52 12)) w53)
       (Q51 (.exit 8) (F.upd (F.upd (F.upd f52 58 (f52 12)) 59 (f52 5)) 60 t54) w53))
      (blockQ 8 (blockQ 7 (seqQ (fun f102 w103 =>
     Rd Try.prog (WS.at w103) (sBin .add 3 true (f102 54) (.int .i64 1)) fun t104 =>
     Q42 .normal (F.upd (F.upd f102 111 t104) 54 t104) w103) Q42)))
      (F.upd (F.upd (F.upd (F.upd (F.upd f43 55 t45) 56 t46) 57 t47) 11 t48) 12 (.int .i64 0)) w50) w49) w44)
     (Q42 (.exit 6) (F.upd f43 55 t45) w44))
    (blockQ 6 (blockQ 5 Q36))
    (F.upd (F.upd (F.upd (F.upd (F.upd (F.upd f37 50 (f37 9)) 9 (.bool false)) 51 t39) 52 t40) 53 t41) 54 (.int .i64 0)) w38)
   (Q36 (.exit 4) (F.upd f37 50 (f37 9)) w38))
  (blockQ 4 (seqQ (fun f105 w106 =>
 k (f105 6) w106) (bodyQ Try.prog [.tmp 4] k)))
  (F.upd f34 9 (.bool true)) w35) (bodyQ Try.prog [.tmp 4] k)))
  (F.upd (F.upd (F.upd (F.upd (F.upd (F.upd (F.upd (F.upd (F.upd (F.upd (F.upd (F.upd (F.upd (initF [v0, v1]) 2 t1) 4 (.slice none 0 0)) 16 v1) 17 t3) 18 t4) 5 t4) 19 t5) 20 t6) 21 t7) 6 t7) 22 t7) 23 t9) 24 (.int .i64 0)) w8) w2) w
theorem body216 : Try.f216.body = some (bodyOf Try.f216) := by kernel_rfl
theorem same216 (v0 v1 : Value) (k : Value → World → Prop) (w : World) : wpF Try.prog pl216 (bodyOf Try.f216) (bodyQ Try.prog Try.f216.results.toList k) (initF [v0, v1]) w = S216 v0 v1 k w := by kernel_rfl
theorem enter216 {v0 v1 : Value} {k : Value → World → Prop} {w : World} (h : S216 v0 v1 k w) : CallK Try.prog 216 [v0, v1] k w :=
  call_of_wpF (pl := pl216) mixed Try.func216 body216 (by kernel_rfl) (of_decide_eq_true (by kernel_rfl)) (by kernel_rfl) (by kernel_rfl) (same216 v0 v1 k w ▸ h)

/-! (loop.example/g00758/impl.Grammar).mends -/
def pl215 : Plans := fun i => match i with
  | 28 => ⟨false, [], .step 0 .any (.step 1 .any (.step 2 .held (.step 3 .any (.step 4 .any (.step 5 .any (.step 6 .any (.step 7 .any (.step 8 .any (.step 9 .any (.step 10 .any (.nil)))))))))))⟩
  | _ => ⟨false, [], .nil⟩
def S215 (v0 v1 : Value) (k : Value → World → Prop) (w : World) : Prop :=
 Do Try.prog (sBox 26 v0) (fun t1 w2 =>
 Rd Try.prog (WS.at w2) (sBuild 184 [(0, v1)]) fun t3 =>
 Do Try.prog (sBox 184 t3) (fun t4 w5 =>
 LoopF [20, 21, 6, 22, 23, 24, 7, 25, 26, 27, 8, 28, 29, 30, 31, 32, 33, 34, 35, 36, 37, 25, 38, 22, 39, 19] (fun Q6 f7 w8 =>
  Rd Try.prog (WS.at w8) (sBin .lss 3 true (f7 19) (.int .i64 6)) fun t9 =>
  CondK t9
   (LoopF [23, 24, 7, 25, 26, 27, 8, 28, 29, 30, 31, 32, 33, 34, 35, 36, 37, 25, 38, 22] (fun Q10 f11 w12 =>
    Rd Try.prog (WS.at w12) (sBin .lss 3 true (f11 22) (.int .i64 9)) fun t13 =>
    CondK t13
     (LoopF [26, 27, 8, 28, 29, 30, 31, 32, 33, 34, 35, 36, 37, 25] (fun Q14 f15 w16 =>
      Rd Try.prog (WS.at w16) (sBin .lss 3 true (f15 25) (.int .i64 9)) fun t17 =>
      CondK t17
       (Rd Try.prog (WS.at w16) (sNilCheck (f15 5)) fun t18 =>
       Rd Try.prog (WS.at w16) (sFieldAddr 184 t18 1) fun t19 =>
       Rd Try.prog (WS.at w16) (sIndexAddr 182 t19 (f15 6)) fun t20 =>
       Rd Try.prog (WS.at w16) (sIndexAddr 181 t20 (f15 7)) fun t21 =>
       Rd Try.prog (WS.at w16) (sIndexAddr 180 t21 (f15 25)) fun t22 =>
       Do Try.prog (sStore 3 t22 (.int .i64 (-1))) (fun _ w23 =>
       Rd Try.prog (WS.at w23) (sBin .add 3 true (f15 25) (.int .i64 1)) fun t24 =>
       Q14 .normal (F.upd (F.upd (F.upd (F.upd (F.upd (F.upd (F.upd (F.upd (F.upd (F.upd (F.upd (F.upd (F.upd (F.upd f15 26 t17) 27 (f15 25)) 8 (f15 25)) 28 (f15 5)) 29 (f15 6)) 30 (f15 7)) 31 (f15 25)) 32 t18) 33 t19) 34 t20) 35 t21) 36 t22) 37 t24) 25 t24) w23) w16)
       (Q14 (.exit 4) (F.upd f15 26 t17) w16))
      (blockQ 4 (blockQ 3 (seqQ (fun f25 w26 =>
     Rd Try.prog (WS.at w26) (sBin .add 3 true (f25 22) (.int .i64 1)) fun t27 =>
     Q10 .normal (F.upd (F.upd f25 38 t27) 22 t27) w26) Q10)))
      (F.upd (F.upd (F.upd (F.upd f11 23 t13) 24 (f11 22)) 7 (f11 22)) 25 (.int .i64 0)) w12)
     (Q10 (.exit 2) (F.upd f11 23 t13) w12))
    (blockQ 2 (blockQ 1 (seqQ (fun f28 w29 =>
   Rd Try.prog (WS.at w29) (sBin .add 3 true (f28 19) (.int .i64 1)) fun t30 =>
   Q6 .normal (F.upd (F.upd f28 39 t30) 19 t30) w29) Q6)))
    (F.upd (F.upd (F.upd (F.upd f7 20 t9) 21 (f7 19)) 6 (f7 19)) 22 (.int .i64 0)) w8)
   (Q6 (.exit 0) (F.upd f7 20 t9) w8))
  (blockQ 0 (seqQ (fun f31 w32 =>
 LoopF [40, 9, 41, 42, 43, 44, 45, 46, 47, 11, 48, 49, 50, 51, 52, 53, 12, 54, 13, 55, 56, 57, 58, 61, 62, 63, 64, 65, 66, 14, 67, 68, 69, 70, 71, 72, 73, 74, 75, 76, 15, 77, 78, 79, 80, 81, 82, 83, 84, 85, 86, 87, 88, 89, 90, 91, 92, 93, 94, 9, 59, 60, 13, 95, 51, 96, 44] (fun Q33 f34 w35 =>
  CondK (f34 9)
   (Rd Try.prog (WS.at w35) (sFieldAddr 26 (f34 2) 2) fun t36 =>
   Rd Try.prog (WS.at w35) (sLoad 24 t36) fun t37 =>
   Rd Try.prog (WS.at w35) (sBuiltin .len #[24] 3 [false] [t37]) fun t38 =>
   LoopF [45, 46, 47, 11, 48, 49, 50, 51, 52, 53, 12, 54, 13, 55, 56, 57, 58, 61, 62, 63, 64, 65, 66, 14, 67, 68, 69, 70, 71, 72, 73, 74, 75, 76, 15, 77, 78, 79, 80, 81, 82, 83, 84, 85, 86, 87, 88, 89, 90, 91, 92, 93, 94, 9, 59, 60, 13, 95, 51, 96, 44] (fun Q39 f40 w41 =>
    Rd Try.prog (WS.at w41) (sBin .lss 3 false (f40 44) (f40 43)) fun t42 =>
    CondK t42
     (Rd Try.prog (WS.at w41) (sIndexAddr 24 (f40 42) (f40 44)) fun t43 =>
     Rd Try.prog (WS.at w41) (sLoad 33 t43) fun t44 =>
     Do Try.prog (sAlloc 33) (fun t45 w46 =>
     Do Try.prog (sStore 33 t45 t44) (fun _ w47 =>
     Rd Try.prog (WS.at w47) (sBuiltin .len #[27] 3 [false] [(f40 1)]) fun t48 =>
     Rd Try.prog (WS.at w47) (sBin .add 3 true t48 (.int .i64 1)) fun t49 =>
     LoopF [52, 53, 12, 54, 13, 55, 56, 57, 58, 61, 62, 63, 64, 65, 66, 14, 67, 68, 69, 70, 71, 72, 73, 74, 75, 76, 15, 77, 78, 79, 80, 81, 82, 83, 84, 85, 86, 87, 88, 89, 90, 91, 92, 93, 94, 9, 59, 60, 13, 95, 51] (fun Q50 f51 w52 =>
      Rd Try.prog (WS.at w52) (sBin .lss 3 false (f51 51) (f51 50)) fun t53 =>
      CondK t53
       (LoopF [55, 56, 57, 58, 61, 62, 63, 64, 65, 66, 14, 67, 68, 69, 70, 71, 72, 73, 74, 75, 76, 15, 77, 78, 79, 80, 81, 82, 83, 84, 85, 86, 87, 88, 89, 90, 91, 92, 93, 94, 9, 59, 60, 13] (fun Q54 f55 w56 =>
        Rd Try.prog (WS.at w56) (sBuiltin .len #[27] 3 [false] [(f55 1)]) fun t57 =>
        Rd Try.prog (WS.at w56) (sBin .leq 3 false (f55 13) t57) fun t58 =>
        CondK t58
         (Join (fun K59 =>
         Rd Try.prog (WS.at w56) (sFieldAddr 33 (f55 11) 1) fun t62 =>
         Rd Try.prog (WS.at w56) (sLoad 27 t62) fun t63 =>
         CallK Try.prog 290 [(f55 5), t63, (f55 12), (f55 13)] (fun t64 w65 =>
         Rd Try.prog WS.any (sFieldAddr 33 (f55 11) 0) fun t66 =>
         Rd Try.prog (WS.at w65.drew) (sLoad 3 t66) fun t67 =>
         Rd Try.prog WS.any (sNilCheck (f55 5)) fun t68 =>
         Rd Try.prog WS.any (sFieldAddr 184 t68 1) fun t69 =>
         Rd Try.prog WS.any (sIndexAddr 182 t69 t67) fun t70 =>
         Rd Try.prog WS.any (sIndexAddr 181 t70 (f55 12)) fun t71 =>
         Rd Try.prog WS.any (sIndexAddr 180 t71 (f55 13)) fun t72 =>
         Rd Try.prog (WS.at w65.drew) (sBin .geq 3 true t64 (.int .i64 0)) fun t73 =>
         GuardK t73 true (fun k w' => k t72 w') (fun t74 w75 =>
         GuardK t73 true (fun k w' => Rd Try.prog (WS.at w75) (sNilCheck t74) fun v => k v w') (fun t76 w77 =>
         GuardK t73 true (fun k w' => Rd Try.prog (WS.at w77) (sLoad 3 t76) fun v => k v w') (fun t78 w79 =>
         GuardK t73 true (fun k w' => Rd Try.prog (WS.at w79) (sBin .lss 3 true t78 (.int .i64 0)) fun v => k v w') (fun t80 w81 =>
         GuardK t73 true (fun k w' => k t80 w') (fun t82 w83 =>
         GuardK t82 false (fun k w' => k t64 w') (fun t84 w85 =>
         GuardK t82 false (fun k w' => k t72 w') (fun t86 w87 =>
         GuardK t82 false (fun k w' => Rd Try.prog (WS.at w87) (sNilCheck t86) fun v => k v w') (fun t88 w89 =>
         GuardK t82 false (fun k w' => Rd Try.prog (WS.at w89) (sLoad 3 t88) fun v => k v w') (fun t90 w91 =>
         GuardK t82 false (fun k w' => Rd Try.prog (WS.at w91) (sBin .lss 3 false t84 t90) fun v => k v w') (fun t92 w93 =>
         GuardK t73 true (fun k w' => Rd Try.prog (WS.at w93) (sPick t82 (.bool true) t92) fun v => k v w') (fun t94 w95 =>
         Rd Try.prog (WS.at w95) (sPick t73 t94 (.bool false)) fun t96 =>
         CondK t96
          (Rd Try.prog (WS.at w95) (sNilCheck t72) fun t97 =>
          Do Try.prog (sStore 3 t97 t64) (fun _ w98 =>
          K59 (F.upd (F.upd (F.upd (F.upd (F.upd (F.upd (F.upd (F.upd (F.upd (F.upd (F.upd (F.upd (F.upd (F.upd (F.upd (F.upd (F.upd (F.upd (F.upd (F.upd (F.upd (F.upd (F.upd (F.upd (F.upd (F.upd (F.upd (F.upd (F.upd (F.upd (F.upd (F.upd (F.upd (F.upd (F.upd (F.upd (F.upd (F.upd (F.upd (F.upd (F.upd f55 55 (f55 13)) 56 (f55 1)) 57 t57) 58 t58) 61 (f55 5)) 62 t62) 63 t63) 64 (f55 12)) 65 (f55 13)) 66 t64) 14 t64) 67 (f55 5)) 68 t66) 69 t67) 70 (f55 12)) 71 (f55 13)) 72 t68) 73 t69) 74 t70) 75 t71) 76 t72) 15 t72) 77 t64) 78 t73) 79 t73) 80 t74) 81 t76) 82 t78) 83 t80) 84 t82) 85 t84) 86 t86) 87 t88) 88 t90) 89 t92) 90 t94) 91 t96) 92 t72) 93 t64) 94 t97) 9 (.bool true)) w98) w95)
          (K59 (F.upd (F.upd (F.upd (F.upd (F.upd (F.upd (F.upd (F.upd (F.upd (F.upd (F.upd (F.upd (F.upd (F.upd (F.upd (F.upd (F.upd (F.upd (F.upd (F.upd (F.upd (F.upd (F.upd (F.upd (F.upd (F.upd (F.upd (F.upd (F.upd (F.upd (F.upd (F.upd (F.upd (F.upd (F.upd (F.upd (F.upd f55 55 (f55 13)) 56 (f55 1)) 57 t57) 58 t58) 61 (f55 5)) 62 t62) 63 t63) 64 (f55 12)) 65 (f55 13)) 66 t64) 14 t64) 67 (f55 5)) 68 t66) 69 t67) 70 (f55 12)) 71 (f55 13)) 72 t68) 73 t69) 74 t70) 75 t71) 76 t72) 15 t72) 77 t64) 78 t73) 79 t73) 80 t74) 81 t76) 82 t78) 83 t80) 84 t82) 85 t84) 86 t86) 87 t88) 88 t90) 89 t92) 90 t94) 91 t96) w95)) w93) w91) w89) w87) w85) w83) w81) w79) w77) w75) w65.drew) w56) (fun f60 w61 =>
         Rd Try.prog (WS.at w61) (sBin .add 3 true (f60 13) (.int .i64 1)) fun t99 =>
         Q54 .normal (F.upd (F.upd (F.upd f60 59 (f60 13)) 60 t99) 13 t99) w61))
         (Q54 (.exit 12) (F.upd (F.upd (F.upd (F.upd f55 55 (f55 13)) 56 (f55 1)) 57 t57) 58 t58) w56))
        (blockQ 12 (blockQ 11 (seqQ (fun f100 w101 =>
       Rd Try.prog (WS.at w101) (sBin .add 3 true (f100 51) (.int .i64 1)) fun t102 =>
       Q50 .normal (F.upd (F.upd f100 95 t102) 51 t102) w101) Q50)))
        (F.upd (F.upd (F.upd (F.upd (F.upd f51 52 t53) 53 (f51 51)) 12 (f51 51)) 54 (f51 51)) 13 (f51 51)) w52)
       (Q50 (.exit 10) (F.upd f51 52 t53) w52))
      (blockQ 10 (blockQ 9 (seqQ (fun f103 w104 =>
     Rd Try.prog (WS.at w104) (sBin .add 3 true (f103 44) (.int .i64 1)) fun t105 =>
     Q39 .normal (F.upd (F.upd f103 96 t105) 44 t105) w104) Q39)))
      (F.upd (F.upd (F.upd (F.upd (F.upd (F.upd (F.upd (F.upd f40 45 t42) 46 t43) 47 t44) 11 t45) 48 (f40 1)) 49 t48) 50 t49) 51 (.int .i64 0)) w47) w46) w41)
     (Q39 (.exit 8) (F.upd f40 45 t42) w41))
    (blockQ 8 (blockQ 7 Q33))
    (F.upd (F.upd (F.upd (F.upd (F.upd (F.upd f34 40 (f34 9)) 9 (.bool false)) 41 t36) 42 t37) 43 t38) 44 (.int .i64 0)) w35)
   (Q33 (.exit 6) (F.upd f34 40 (f34 9)) w35))
  (blockQ 6 (seqQ (fun f106 w107 =>
 k (f106 5) w107) (bodyQ Try.prog [.tmp 4] k)))
  (F.upd f31 9 (.bool true)) w32) (bodyQ Try.prog [.tmp 4] k)))
  (F.upd (F.upd (F.upd (F.upd (F.upd (F.upd (F.upd (initF [v0, v1]) 2 t1) 4 (.pointer none)) 16 v1) 17 t3) 18 t4) 5 t4) 19 (.int .i64 0)) w5) w2) w
theorem body215 : Try.f215.body = some (bodyOf Try.f215) := by kernel_rfl
theorem same215 (v0 v1 : Value) (k : Value → World → Prop) (w : World) : wpF Try.prog pl215 (bodyOf Try.f215) (bodyQ Try.prog Try.f215.results.toList k) (initF [v0, v1]) w = S215 v0 v1 k w := by kernel_rfl
theorem enter215 {v0 v1 : Value} {k : Value → World → Prop} {w : World} (h : S215 v0 v1 k w) : CallK Try.prog 215 [v0, v1] k w :=
  call_of_wpF (pl := pl215) mixed Try.func215 body215 (by kernel_rfl) (of_decide_eq_true (by kernel_rfl)) (by kernel_rfl) (by kernel_rfl) (same215 v0 v1 k w ▸ h)

/-! loop.example/g00758/spec.l17Row -/
def pl291 : Plans := fun _ => ⟨false, [], .nil⟩
def S291 (v0 v1 v2 v3 v4 : Value) (k : Value → World → Prop) (w : World) : Prop :=
 Rd Try.prog (WS.at w) (sBuiltin .len #[27] 3 [false] [v2]) fun t1 =>
 Rd Try.prog (WS.at w) (sBin .eql 3 true t1 (.int .i64 0)) fun t2 =>
 CondK t2
  (Rd Try.prog (WS.at w) (sBin .sub 3 false v4 v3) fun t3 =>
  k t3 w)
  (LoopF [23, 24, 25, 13, 28, 29, 30, 14, 31, 32, 33, 34, 35, 36, 37, 38, 13, 39, 40, 41, 42, 43, 44, 45, 46, 47, 48, 49, 50, 51, 13, 52, 53, 54, 55, 56, 57, 58, 59, 60, 15, 61, 62, 63, 64, 65, 66, 67, 68, 69, 70, 71, 72, 73, 74, 75, 76, 11, 26, 27, 12] (fun Q4 f5 w6 =>
   Rd Try.prog (WS.at w6) (sBin .leq 3 false (f5 12) (f5 4)) fun t7 =>
   CondK t7
    (Join (fun K8 =>
    Join (fun K11 =>
    Rd Try.prog (WS.at w6) (sIndexAddr 27 (f5 2) (.int .i64 0)) fun t14 =>
    Rd Try.prog (WS.at w6) (sLoad 3 t14) fun t15 =>
    Rd Try.prog (WS.at w6) (sBin .lss 3 true t15 (.int .i64 0)) fun t16 =>
    CondK t16
     (Rd Try.prog (WS.at w6) (sBin .sub 3 true (.int .i64 (-1)) t15) fun t17 =>
     CallK Try.prog 315 [(f5 1), t17, (f5 3), (f5 12)] (fun t18 w19 =>
     K11 (F.upd (F.upd (F.upd (F.upd (F.upd (F.upd (F.upd (F.upd (F.upd (F.upd (F.upd (F.upd (F.upd (F.upd (F.upd (F.upd (F.upd f5 23 (f5 12)) 24 (f5 4)) 25 t7) 13 (.int .i64 0)) 28 (f5 2)) 29 t14) 30 t15) 14 t15) 31 t15) 32 t16) 33 (f5 1)) 34 t15) 35 t17) 36 (f5 3)) 37 (f5 12)) 38 t18) 13 t18) w19) w6)
     (Rd Try.prog (WS.at w6) (sIndexAddr 35 (f5 0) t15) fun t20 =>
     Rd Try.prog (WS.at w6) (sLoad 27 t20) fun t21 =>
     Rd Try.prog (WS.at w6) (sBuiltin .len #[27] 3 [false] [(f5 1)]) fun t22 =>
     Rd Try.prog (WS.at w6) (sBin .add 3 true t22 (.int .i64 1)) fun t23 =>
     Rd Try.prog (WS.at w6) (sBin .mul 3 false (f5 3) t23) fun t24 =>
     Rd Try.prog (WS.at w6) (sBin .add 3 false t24 (f5 12)) fun t25 =>
     Rd Try.prog (WS.at w6) (sIndexAddr 27 t21 t25) fun t26 =>
     Rd Try.prog (WS.at w6) (sLoad 3 t26) fun t27 =>
     K11 (F.upd (F.upd (F.upd (F.upd (F.upd (F.upd (F.upd (F.upd (F.upd (F.upd (F.upd (F.upd (F.upd (F.upd (F.upd (F.upd (F.upd (F.upd (F.upd (F.upd (F.upd (F.upd (F.upd (F.upd f5 23 (f5 12)) 24 (f5 4)) 25 t7) 13 (.int .i64 0)) 28 (f5 2)) 29 t14) 30 t15) 14 t15) 31 t15) 32 t16) 39 (f5 0)) 40 t15) 41 t20) 42 t21) 43 (f5 3)) 44 (f5 1)) 45 t22) 46 t23) 47 t24) 48 (f5 12)) 49 t25) 50 t26) 51 t27) 13 t27) w6)) (fun f12 w13 =>
    Rd Try.prog (WS.at w13) (sBin .lss 3 true (f12 13) (.int .i64 0)) fun t28 =>
    CondK t28
     (K8 (F.upd (F.upd f12 52 (f12 13)) 53 t28) w13)
     (Rd Try.prog (WS.at w13) (sSlice 27 (f12 2) (some (.int .i64 1)) none none) fun t29 =>
     CallK Try.prog 291 [(f12 0), (f12 1), t29, (f12 12), (f12 4)] (fun t30 w31 =>
     Rd Try.prog (WS.at w31) (sBin .geq 3 true t30 (.int .i64 0)) fun t32 =>
     GuardK t32 true (fun k w' => k (f12 11) w') (fun t33 w34 =>
     GuardK t32 true (fun k w' => Rd Try.prog (WS.at w34) (sBin .lss 3 true t33 (.int .i64 0)) fun v => k v w') (fun t35 w36 =>
     GuardK t32 true (fun k w' => k t35 w') (fun t37 w38 =>
     GuardK t37 false (fun k w' => k (f12 13) w') (fun t39 w40 =>
     GuardK t37 false (fun k w' => k t30 w') (fun t41 w42 =>
     GuardK t37 false (fun k w' => Rd Try.prog (WS.at w42) (sBin .add 3 false t39 t41) fun v => k v w') (fun t43 w44 =>
     GuardK t37 false (fun k w' => k (f12 11) w') (fun t45 w46 =>
     GuardK t37 false (fun k w' => Rd Try.prog (WS.at w46) (sBin .lss 3 false t43 t45) fun v => k v w') (fun t47 w48 =>
     GuardK t32 true (fun k w' => Rd Try.prog (WS.at w48) (sPick t37 (.bool true) t47) fun v => k v w') (fun t49 w50 =>
     Rd Try.prog (WS.at w50) (sPick t32 t49 (.bool false)) fun t51 =>
     CondK t51
      (Rd Try.prog (WS.at w50) (sBin .add 3 false (f12 13) t30) fun t52 =>
      K8 (F.upd (F.upd (F.upd (F.upd (F.upd (F.upd (F.upd (F.upd (F.upd (F.upd (F.upd (F.upd (F.upd (F.upd (F.upd (F.upd (F.upd (F.upd (F.upd (F.upd (F.upd (F.upd (F.upd (F.upd (F.upd (F.upd (F.upd f12 52 (f12 13)) 53 t28) 54 (f12 0)) 55 (f12 1)) 56 (f12 2)) 57 t29) 58 (f12 12)) 59 (f12 4)) 60 t30) 15 t30) 61 t30) 62 t32) 63 t32) 64 t33) 65 t35) 66 t37) 67 t39) 68 t41) 69 t43) 70 t45) 71 t47) 72 t49) 73 t51) 74 (f12 13)) 75 t30) 76 t52) 11 t52) w50)
      (K8 (F.upd (F.upd (F.upd (F.upd (F.upd (F.upd (F.upd (F.upd (F.upd (F.upd (F.upd (F.upd (F.upd (F.upd (F.upd (F.upd (F.upd (F.upd (F.upd (F.upd (F.upd (F.upd (F.upd f12 52 (f12 13)) 53 t28) 54 (f12 0)) 55 (f12 1)) 56 (f12 2)) 57 t29) 58 (f12 12)) 59 (f12 4)) 60 t30) 15 t30) 61 t30) 62 t32) 63 t32) 64 t33) 65 t35) 66 t37) 67 t39) 68 t41) 69 t43) 70 t45) 71 t47) 72 t49) 73 t51) w50)) w48) w46) w44) w42) w40) w38) w36) w34) w31) w13))) (fun f9 w10 =>
    Rd Try.prog (WS.at w10) (sBin .add 3 true (f9 12) (.int .i64 1)) fun t53 =>
    Q4 .normal (F.upd (F.upd (F.upd f9 26 (f9 12)) 27 t53) 12 t53) w10))
    (Q4 (.exit 0) (F.upd (F.upd (F.upd f5 23 (f5 12)) 24 (f5 4)) 25 t7) w6))
   (blockQ 0 (seqQ (fun f54 w55 =>
  k (f54 11) w55) (bodyQ Try.prog [.tmp 10] k)))
   (F.upd (F.upd (F.upd (F.upd (F.upd (F.upd (F.upd (initF [v0, v1, v2, v3, v4]) 10 (.int .i64 0)) 16 v2) 17 t1) 18 t2) 11 (.int .i64 (-1))) 22 v3) 12 v3) w)
theorem body291 : Try.f291.body = some (bodyOf Try.f291) := by kernel_rfl
theorem same291 (v0 v1 v2 v3 v4 : Value) (k : Value → World → Prop) (w : World) : wpF Try.prog pl291 (bodyOf Try.f291) (bodyQ Try.prog Try.f291.results.toList k) (initF [v0, v1, v2, v3, v4]) w = S291 v0 v1 v2 v3 v4 k w := by kernel_rfl
theorem enter291 {v0 v1 v2 v3 v4 : Value} {k : Value → World → Prop} {w : World} (h : S291 v0 v1 v2 v3 v4 k w) : CallK Try.prog 291 [v0, v1, v2, v3, v4] k w :=
  call_of_wpF (pl := pl291) mixed Try.func291 body291 (by kernel_rfl) (of_decide_eq_true (by kernel_rfl)) (by kernel_rfl) (by kernel_rfl) (same291 v0 v1 v2 v3 v4 k w ▸ h)

/-! (*loop.example/g00758/impl.mending).rest -/
def pl290 : Plans := fun _ => ⟨false, [], .nil⟩
def S290 (v0 v1 v2 v3 : Value) (k : Value → World → Prop) (w : World) : Prop :=
 Rd Try.prog (WS.at w) (sBuiltin .len #[27] 3 [false] [v1]) fun t1 =>
 Rd Try.prog (WS.at w) (sBin .eql 3 true t1 (.int .i64 0)) fun t2 =>
 CondK t2
  (Rd Try.prog (WS.at w) (sBin .sub 3 false v3 v2) fun t3 =>
  k t3 w)
  (LoopF [20, 21, 22, 25, 26, 27, 28, 29, 30, 31, 11, 32, 33, 34, 35, 36, 37, 38, 39, 40, 41, 42, 43, 44, 45, 46, 47, 48, 49, 9, 50, 51, 52, 53, 54, 55, 12, 56, 57, 58, 59, 60, 61, 62, 63, 64, 65, 66, 67, 68, 69, 70, 71, 9, 23, 24, 10] (fun Q4 f5 w6 =>
   Rd Try.prog (WS.at w6) (sBin .leq 3 false (f5 10) (f5 3)) fun t7 =>
   CondK t7
    (Join (fun K8 =>
    Rd Try.prog (WS.at w6) (sIndexAddr 27 (f5 1) (.int .i64 0)) fun t11 =>
    Rd Try.prog (WS.at w6) (sLoad 3 t11) fun t12 =>
    CallK Try.prog 314 [(f5 0), t12, (f5 2), (f5 10)] (fun t13 w14 =>
    Rd Try.prog (WS.at w14) (sBin .lss 3 true t13 (.int .i64 0)) fun t15 =>
    CondK t15
     (K8 (F.upd (F.upd (F.upd (F.upd (F.upd (F.upd (F.upd (F.upd (F.upd (F.upd (F.upd (F.upd (F.upd f5 20 (f5 10)) 21 (f5 3)) 22 t7) 25 (f5 0)) 26 (f5 1)) 27 t11) 28 t12) 29 (f5 2)) 30 (f5 10)) 31 t13) 11 t13) 32 t13) 33 t15) w14)
     (Rd Try.prog (WS.at w14) (sBuiltin .len #[27] 3 [false] [(f5 1)]) fun t16 =>
     Rd Try.prog (WS.at w14) (sBin .eql 3 true t16 (.int .i64 1)) fun t17 =>
     CondK t17
      (Join (fun K18 =>
      Rd Try.prog (WS.at w14) (sBin .eql 3 false (f5 10) (f5 3)) fun t21 =>
      GuardK t21 true (fun k w' => k (f5 9) w') (fun t22 w23 =>
      GuardK t21 true (fun k w' => Rd Try.prog (WS.at w23) (sBin .lss 3 true t22 (.int .i64 0)) fun v => k v w') (fun t24 w25 =>
      GuardK t21 true (fun k w' => k t24 w') (fun t26 w27 =>
      GuardK t26 false (fun k w' => k t13 w') (fun t28 w29 =>
      GuardK t26 false (fun k w' => k (f5 9) w') (fun t30 w31 =>
      GuardK t26 false (fun k w' => Rd Try.prog (WS.at w31) (sBin .lss 3 false t28 t30) fun v => k v w') (fun t32 w33 =>
      GuardK t21 true (fun k w' => Rd Try.prog (WS.at w33) (sPick t26 (.bool true) t32) fun v => k v w') (fun t34 w35 =>
      Rd Try.prog (WS.at w35) (sPick t21 t34 (.bool false)) fun t36 =>
      CondK t36
       (K18 (F.upd (F.upd (F.upd (F.upd (F.upd (F.upd (F.upd (F.upd (F.upd (F.upd (F.upd (F.upd (F.upd (F.upd (F.upd (F.upd (F.upd (F.upd (F.upd (F.upd (F.upd (F.upd (F.upd (F.upd (F.upd (F.upd (F.upd (F.upd (F.upd (F.upd f5 20 (f5 10)) 21 (f5 3)) 22 t7) 25 (f5 0)) 26 (f5 1)) 27 t11) 28 t12) 29 (f5 2)) 30 (f5 10)) 31 t13) 11 t13) 32 t13) 33 t15) 34 (f5 1)) 35 t16) 36 t17) 37 (f5 10)) 38 (f5 3)) 39 t21) 40 t21) 41 t22) 42 t24) 43 t26) 44 t28) 45 t30) 46 t32) 47 t34) 48 t36) 49 t13) 9 t13) w35)
       (K18 (F.upd (F.upd (F.upd (F.upd (F.upd (F.upd (F.upd (F.upd (F.upd (F.upd (F.upd (F.upd (F.upd (F.upd (F.upd (F.upd (F.upd (F.upd (F.upd (F.upd (F.upd (F.upd (F.upd (F.upd (F.upd (F.upd (F.upd (F.upd f5 20 (f5 10)) 21 (f5 3)) 22 t7) 25 (f5 0)) 26 (f5 1)) 27 t11) 28 t12) 29 (f5 2)) 30 (f5 10)) 31 t13) 11 t13) 32 t13) 33 t15) 34 (f5 1)) 35 t16) 36 t17) 37 (f5 10)) 38 (f5 3)) 39 t21) 40 t21) 41 t22) 42 t24) 43 t26) 44 t28) 45 t30) 46 t32) 47 t34) 48 t36) w35)) w33) w31) w29) w27) w25) w23) w14) (fun f19 w20 =>
      K8 f19 w20))
      (Rd Try.prog (WS.at w14) (sSlice 27 (f5 1) (some (.int .i64 1)) none none) fun t37 =>
      CallK Try.prog 290 [(f5 0), t37, (f5 10), (f5 3)] (fun t38 w39 =>
      Rd Try.prog (WS.at w39) (sBin .geq 3 true t38 (.int .i64 0)) fun t40 =>
      GuardK t40 true (fun k w' => k (f5 9) w') (fun t41 w42 =>
      GuardK t40 true (fun k w' => Rd Try.prog (WS.at w42) (sBin .lss 3 true t41 (.int .i64 0)) fun v => k v w') (fun t43 w44 =>
      GuardK t40 true (fun k w' => k t43 w') (fun t45 w46 =>
      GuardK t45 false (fun k w' => k t13 w') (fun t47 w48 =>
      GuardK t45 false (fun k w' => k t38 w') (fun t49 w50 =>
      GuardK t45 false (fun k w' => Rd Try.prog (WS.at w50) (sBin .add 3 false t47 t49) fun v => k v w') (fun t51 w52 =>
      GuardK t45 false (fun k w' => k (f5 9) w') (fun t53 w54 =>
      GuardK t45 false (fun k w' => Rd Try.prog (WS.at w54) (sBin .lss 3 false t51 t53) fun v => k v w') (fun t55 w56 =>
      GuardK t40 true (fun k w' => Rd Try.prog (WS.at w56) (sPick t45 (.bool true) t55) fun v => k v w') (fun t57 w58 =>
      Rd Try.prog (WS.at w58) (sPick t40 t57 (.bool false)) fun t59 =>
      CondK t59
       (Rd Try.prog (WS.at w58) (sBin .add 3 false t13 t38) fun t60 =>
       K8 (F.upd (F.upd (F.upd (F.upd (F.upd (F.upd (F.upd (F.upd (F.upd (F.upd (F.upd (F.upd (F.upd (F.upd (F.upd (F.upd (F.upd (F.upd (F.upd (F.upd (F.upd (F.upd (F.upd (F.upd (F.upd (F.upd (F.upd (F.upd (F.upd (F.upd (F.upd (F.upd (F.upd (F.upd (F.upd (F.upd (F.upd (F.upd (F.upd (F.upd f5 20 (f5 10)) 21 (f5 3)) 22 t7) 25 (f5 0)) 26 (f5 1)) 27 t11) 28 t12) 29 (f5 2)) 30 (f5 10)) 31 t13) 11 t13) 32 t13) 33 t15) 34 (f5 1)) 35 t16) 36 t17) 50 (f5 0)) 51 (f5 1)) 52 t37) 53 (f5 10)) 54 (f5 3)) 55 t38) 12 t38) 56 t38) 57 t40) 58 t40) 59 t41) 60 t43) 61 t45) 62 t47) 63 t49) 64 t51) 65 t53) 66 t55) 67 t57) 68 t59) 69 t13) 70 t38) 71 t60) 9 t60) w58)
       (K8 (F.upd (F.upd (F.upd (F.upd (F.upd (F.upd (F.upd (F.upd (F.upd (F.upd (F.upd (F.upd (F.upd (F.upd (F.upd (F.upd (F.upd (F.upd (F.upd (F.upd (F.upd (F.upd (F.upd (F.upd (F.upd (F.upd (F.upd (F.upd (F.upd (F.upd (F.upd (F.upd (F.upd (F.upd (F.upd (F.upd f5 20 (f5 10)) 21 (f5 3)) 22 t7) 25 (f5 0)) 26 (f5 1)) 27 t11) 28 t12) 29 (f5 2)) 30 (f5 10)) 31 t13) 11 t13) 32 t13) 33 t15) 34 (f5 1)) 35 t16) 36 t17) 50 (f5 0)) 51 (f5 1)) 52 t37) 53 (f5 10)) 54 (f5 3)) 55 t38) 12 t38) 56 t38) 57 t40) 58 t40) 59 t41) 60 t43) 61 t45) 62 t47) 63 t49) 64 t51) 65 t53) 66 t55) 67 t57) 68 t59) w58)) w56) w54) w52) w50) w48) w46) w44) w42) w39) w14))) w6) (fun f9 w10 =>
    Rd Try.prog (WS.at w10) (sBin .add 3 true (f9 10) (.int .i64 1)) fun t61 =>
    Q4 .normal (F.upd (F.upd (F.upd f9 23 (f9 10)) 24 t61) 10 t61) w10))
    (Q4 (.exit 0) (F.upd (F.upd (F.upd f5 20 (f5 10)) 21 (f5 3)) 22 t7) w6))
   (blockQ 0 (seqQ (fun f62 w63 =>
  k (f62 9) w63) (bodyQ Try.prog [.tmp 8] k)))
   (F.upd (F.upd (F.upd (F.upd (F.upd (F.upd (F.upd (initF [v0, v1, v2, v3]) 8 (.int .i64 0)) 13 v1) 14 t1) 15 t2) 9 (.int .i64 (-1))) 19 v2) 10 v2) w)
theorem body290 : Try.f290.body = some (bodyOf Try.f290) := by kernel_rfl
theorem same290 (v0 v1 v2 v3 : Value) (k : Value → World → Prop) (w : World) : wpF Try.prog pl290 (bodyOf Try.f290) (bodyQ Try.prog Try.f290.results.toList k) (initF [v0, v1, v2, v3]) w = S290 v0 v1 v2 v3 k w := by kernel_rfl
theorem enter290 {v0 v1 v2 v3 : Value} {k : Value → World → Prop} {w : World} (h : S290 v0 v1 v2 v3 k w) : CallK Try.prog 290 [v0, v1, v2, v3] k w :=
  call_of_wpF (pl := pl290) mixed Try.func290 body290 (by kernel_rfl) (of_decide_eq_true (by kernel_rfl)) (by kernel_rfl) (by kernel_rfl) (same290 v0 v1 v2 v3 k w ▸ h)

/-! loop.example/g00758/spec.l17Token -/
def pl315 : Plans := fun _ => ⟨false, [], .nil⟩
def S315 (v0 v1 v2 v3 : Value) (k : Value → World → Prop) (w : World) : Prop :=
 Rd Try.prog (WS.at w) (sBin .sub 3 false v3 v2) fun t1 =>
 Rd Try.prog (WS.at w) (sSlice 27 v0 (some v2) (some v3) none) fun t2 =>
 Rd Try.prog (WS.at w) (sBuiltin .len #[27] 3 [false] [t2]) fun t3 =>
 LoopF [21, 22, 23, 11, 24, 25, 26, 27, 28, 8, 29, 20] (fun Q4 f5 w6 =>
  Rd Try.prog (WS.at w6) (sBin .lss 3 false (f5 20) (f5 19)) fun t7 =>
  CondK t7
   (Rd Try.prog (WS.at w6) (sIndexAddr 27 (f5 18) (f5 20)) fun t8 =>
   Rd Try.prog (WS.at w6) (sLoad 3 t8) fun t9 =>
   Rd Try.prog (WS.at w6) (sBin .eql 3 false t9 (f5 1)) fun t10 =>
   CondK t10
    (Rd Try.prog (WS.at w6) (sBin .sub 3 true (f5 9) (.int .i64 1)) fun t11 =>
    Q4 .ret (F.upd (F.upd (F.upd (F.upd (F.upd (F.upd (F.upd (F.upd (F.upd (F.upd f5 21 t7) 22 t8) 23 t9) 11 t9) 24 t9) 25 (f5 1)) 26 t10) 27 (f5 9)) 28 t11) 8 t11) w6)
    (Rd Try.prog (WS.at w6) (sBin .add 3 true (f5 20) (.int .i64 1)) fun t12 =>
    Q4 .normal (F.upd (F.upd (F.upd (F.upd (F.upd (F.upd (F.upd (F.upd (F.upd f5 21 t7) 22 t8) 23 t9) 11 t9) 24 t9) 25 (f5 1)) 26 t10) 29 t12) 20 t12) w6))
   (Q4 (.exit 0) (F.upd f5 21 t7) w6))
  (blockQ 0 (seqQ (fun f13 w14 =>
 CallK Try.prog 159 [(.int .i64 1), (f13 9)] (fun t15 w16 =>
 k t15 w16) w14) (bodyQ Try.prog [.tmp 8] k)))
  (F.upd (F.upd (F.upd (F.upd (F.upd (F.upd (F.upd (F.upd (F.upd (F.upd (F.upd (initF [v0, v1, v2, v3]) 8 (.int .i64 0)) 12 v3) 13 v2) 14 t1) 9 t1) 15 v0) 16 v2) 17 v3) 18 t2) 19 t3) 20 (.int .i64 0)) w
theorem body315 : Try.f315.body = some (bodyOf Try.f315) := by kernel_rfl
theorem same315 (v0 v1 v2 v3 : Value) (k : Value → World → Prop) (w : World) : wpF Try.prog pl315 (bodyOf Try.f315) (bodyQ Try.prog Try.f315.results.toList k) (initF [v0, v1, v2, v3]) w = S315 v0 v1 v2 v3 k w := by kernel_rfl
theorem enter315 {v0 v1 v2 v3 : Value} {k : Value → World → Prop} {w : World} (h : S315 v0 v1 v2 v3 k w) : CallK Try.prog 315 [v0, v1, v2, v3] k w :=
  call_of_wpF (pl := pl315) mixed Try.func315 body315 (by kernel_rfl) (of_decide_eq_true (by kernel_rfl)) (by kernel_rfl) (by kernel_rfl) (same315 v0 v1 v2 v3 k w ▸ h)

/-! (*loop.example/g00758/impl.mending).one -/
def pl314 : Plans := fun i => match i with
  | 5 => ⟨true, [9], .step 0 .any (.step 1 .any (.step 2 .any (.step 3 .held (.step 4 .any (.step 5 .any (.step 6 .any (.step 7 .any (.step 8 .one (.step 9 .last (.step 10 .any (.nil)))))))))))⟩
  | _ => ⟨false, [], .nil⟩
def S314 (v0 v1 v2 v3 : Value) (k : Value → World → Prop) (w : World) : Prop :=
 Rd Try.prog (WS.at w) (sBin .geq 3 true v1 (.int .i64 0)) fun t1 =>
 CondK t1
  (Rd Try.prog (WS.at w) (sNilCheck v0) fun t2 =>
  Rd Try.prog (WS.at w) (sFieldAddr 184 t2 1) fun t3 =>
  Rd Try.prog (WS.at w) (sIndexAddr 182 t3 v1) fun t4 =>
  Rd Try.prog (WS.at w) (sIndexAddr 181 t4 v2) fun t5 =>
  Rd Try.prog (WS.at w) (sIndexAddr 180 t5 v3) fun t6 =>
  Rd Try.prog (WS.at w) (sLoad 3 t6) fun t7 =>
  k t7 w)
  (Rd Try.prog (WS.at w) (sBin .eql 3 false v2 v3) fun t8 =>
  CondK t8
   (k (.int .i64 1) w)
   (∃ S9 : World → Prop, ∃ h10 : S9 w.drew,
   Rd Try.prog WS.any (sNilCheck v0) fun t11 =>
   Rd Try.prog WS.any (sFieldAddr 184 t11 0) fun t12 =>
   Rd Try.prog ⟨S9, w.drew, h10⟩ (sLoad 27 t12) fun t13 =>
   Rd Try.prog WS.any (sSlice 27 t13 (some v2) (some v3) none) fun t14 =>
   CallK Try.prog 254 [v1] (fun t15 w16 =>
   S9 w16 ∧ CallK Try.prog 332 [t14, t15] (fun t17 w18 =>
   CondK t17
    (Rd Try.prog (WS.at w18) (sBin .sub 3 false v3 v2) fun t19 =>
    Rd Try.prog (WS.at w18) (sBin .sub 3 true t19 (.int .i64 1)) fun t20 =>
    k t20 w18)
    (Rd Try.prog (WS.at w18) (sBin .sub 3 false v3 v2) fun t21 =>
    k t21 w18)) w16) w.drew))
theorem body314 : Try.f314.body = some (bodyOf Try.f314) := by kernel_rfl
theorem same314 (v0 v1 v2 v3 : Value) (k : Value → World → Prop) (w : World) : wpF Try.prog pl314 (bodyOf Try.f314) (bodyQ Try.prog Try.f314.results.toList k) (initF [v0, v1, v2, v3]) w = S314 v0 v1 v2 v3 k w := by kernel_rfl
theorem enter314 {v0 v1 v2 v3 : Value} {k : Value → World → Prop} {w : World} (h : S314 v0 v1 v2 v3 k w) : CallK Try.prog 314 [v0, v1, v2, v3] k w :=
  call_of_wpF (pl := pl314) mixed Try.func314 body314 (by kernel_rfl) (of_decide_eq_true (by kernel_rfl)) (by kernel_rfl) (by kernel_rfl) (same314 v0 v1 v2 v3 k w ▸ h)

/-! slices.Contains[[]int,int] -/
def pl332 : Plans := fun _ => ⟨false, [], .nil⟩
def S332 (v0 v1 : Value) (k : Value → World → Prop) (w : World) : Prop :=
 CallK Try.prog 345 [v0, v1] (fun t1 w2 =>
 Rd Try.prog (WS.at w2) (sBin .geq 3 true t1 (.int .i64 0)) fun t3 =>
 k t3 w2) w
theorem body332 : Try.f332.body = some (bodyOf Try.f332) := by kernel_rfl
theorem same332 (v0 v1 : Value) (k : Value → World → Prop) (w : World) : wpF Try.prog pl332 (bodyOf Try.f332) (bodyQ Try.prog Try.f332.results.toList k) (initF [v0, v1]) w = S332 v0 v1 k w := by kernel_rfl
theorem enter332 {v0 v1 : Value} {k : Value → World → Prop} {w : World} (h : S332 v0 v1 k w) : CallK Try.prog 332 [v0, v1] k w :=
  call_of_wpF (pl := pl332) mixed Try.func332 body332 (by kernel_rfl) (of_decide_eq_true (by kernel_rfl)) (by kernel_rfl) (by kernel_rfl) (same332 v0 v1 k w ▸ h)

/-! slices.Index[[]int,int] -/
def pl345 : Plans := fun _ => ⟨false, [], .nil⟩
def S345 (v0 v1 : Value) (k : Value → World → Prop) (w : World) : Prop :=
 Rd Try.prog (WS.at w) (sBuiltin .len #[27] 3 [false] [v0]) fun t1 =>
 LoopF [9, 10, 5, 11, 12, 13, 14, 15, 16, 17, 4, 18, 8] (fun Q2 f3 w4 =>
  Rd Try.prog (WS.at w4) (sBin .lss 3 false (f3 8) (f3 7)) fun t5 =>
  CondK t5
   (Rd Try.prog (WS.at w4) (sIndexAddr 27 (f3 0) (f3 8)) fun t6 =>
   Rd Try.prog (WS.at w4) (sLoad 3 t6) fun t7 =>
   Rd Try.prog (WS.at w4) (sBin .eql 3 false (f3 1) t7) fun t8 =>
   CondK t8
    (Q2 .ret (F.upd (F.upd (F.upd (F.upd (F.upd (F.upd (F.upd (F.upd (F.upd (F.upd (F.upd f3 9 t5) 10 (f3 8)) 5 (f3 8)) 11 (f3 1)) 12 (f3 0)) 13 (f3 8)) 14 t6) 15 t7) 16 t8) 17 (f3 8)) 4 (f3 8)) w4)
    (Rd Try.prog (WS.at w4) (sBin .add 3 true (f3 8) (.int .i64 1)) fun t9 =>
    Q2 .normal (F.upd (F.upd (F.upd (F.upd (F.upd (F.upd (F.upd (F.upd (F.upd (F.upd (F.upd f3 9 t5) 10 (f3 8)) 5 (f3 8)) 11 (f3 1)) 12 (f3 0)) 13 (f3 8)) 14 t6) 15 t7) 16 t8) 18 t9) 8 t9) w4))
   (Q2 (.exit 0) (F.upd f3 9 t5) w4))
  (blockQ 0 (seqQ (fun f10 w11 =>
 k (.int .i64 (-1)) w11) (bodyQ Try.prog [.tmp 4] k)))
  (F.upd (F.upd (F.upd (F.upd (initF [v0, v1]) 4 (.int .i64 0)) 6 v0) 7 t1) 8 (.int .i64 0)) w
theorem body345 : Try.f345.body = some (bodyOf Try.f345) := by kernel_rfl
theorem same345 (v0 v1 : Value) (k : Value → World → Prop) (w : World) : wpF Try.prog pl345 (bodyOf Try.f345) (bodyQ Try.prog Try.f345.results.toList k) (initF [v0, v1]) w = S345 v0 v1 k w := by kernel_rfl
theorem enter345 {v0 v1 : Value} {k : Value → World → Prop} {w : World} (h : S345 v0 v1 k w) : CallK Try.prog 345 [v0, v1] k w :=
  call_of_wpF (pl := pl345) mixed Try.func345 body345 (by kernel_rfl) (of_decide_eq_true (by kernel_rfl)) (by kernel_rfl) (by kernel_rfl) (same345 v0 v1 k w ▸ h)

end Go.Proofs.Ytegcjkhebecgbaa

/- Contracts: how few changes make a token, a row of symbols (the reference's l17Token, l17Row). -/
set_option linter.unusedVariables false
set_option linter.unusedSimpArgs false
set_option maxRecDepth 100000
namespace Go.Sh
open Go
theorem contains_step {l : List Int} {a : Nat} {x : Int} (ha : a < l.length) (h : (l.take a).contains x = false) (hx : ¬ l.getD a 0 = x) : (l.take (a + 1)).contains x = false := by
  rw [List.take_succ_eq_append_getElem ha]
  have e : l.getD a 0 = l[a] := by simp [List.getD_eq_getElem?_getD, ha]
  rw [e] at hx
  cases hc : (l.take a ++ [l[a]]).contains x
  · rfl
  · rw [List.contains_iff_mem] at hc
    rcases List.mem_append.1 hc with h1 | h1
    · rw [← List.contains_iff_mem, h] at h1
      cases h1
    · exact absurd (List.mem_singleton.1 h1).symm hx
theorem contains_hit {l : List Int} {a : Nat} {x : Int} (ha : a < l.length) (hx : l.getD a 0 = x) : l.contains x = true := by
  have e : l.getD a 0 = l[a] := by simp [List.getD_eq_getElem?_getD, ha]
  rw [List.contains_iff_mem, ← hx, e]
  exact List.getElem_mem ha
end Go.Sh
namespace Go.Proofs.Ytegcjkhebecgbaa
open Go Go.Sh Go.RowKit
theorem l17Token_c {w : World} {W : Option Addr} {cw i j : Nat} {ws : List Int} {x : Int} (hW : Ints w W ws) (hc : ws.length ≤ cw) (hl : ws.length ≤ 10) (hij : i ≤ j) (hj : j ≤ ws.length) {k : Value → World → Prop} (hk : k (.int .i64 (encM (tokM ws x i j))) w) :
    CallK Try.prog 315 [.slice W ws.length cw, .int .i64 (-1 - x), .int .i64 i, .int .i64 j] k w := by
  refine enter315 ?_
  unfold S315
  have hsub := hW.sub (l := i) (c := cw) (by omega) hc (j - i)
  have hsl : ((ws.drop i).take (j - i)).length = j - i := by simp; omega
  unfold tokM encM at hk
  dsimp only at hk
  generalize hL : (ws.drop i).take (j - i) = l at *
  simp only [go_sem, Nat.reduceEqDiff]
  rw [i64_of (by omega) (by omega), show (j : Int) - (i : Int) = ((j - i : Nat) : Int) from by omega]
  refine rdi (sl27 (by omega) (by omega) (by omega)) ?_
  rw [Int.toNat_natCast, Int.toNat_natCast, ← hsl]
  simp only [go_sem, Nat.reduceEqDiff]
  refine loop_to l.length 0 (fun a f w' => a ≤ l.length ∧ f 20 = .int .i64 a ∧ w' = w ∧ (l.take a).contains (-1 - x) = false) ⟨Nat.zero_le _, rfl, rfl, by simp⟩ ?_
  rintro a f w1 N hag ⟨ha, h20, rfl, hno⟩ hN
  have f18 : f 18 = .slice (sub W i cw 1) l.length (cw - i) := hag 18 (by decide)
  have f19 : f 19 = .int .i64 l.length := hag 19 (by decide)
  have f1 : f 1 = .int .i64 (-1 - x) := hag 1 (by decide)
  have f9 : f 9 = .int .i64 (l.length : Nat) := hag 9 (by decide)
  simp only [f18, f19, f1, f9, h20, go_sem, Nat.reduceEqDiff]
  by_cases hlt : a < l.length
  case neg =>
    simp only [show ¬ ((a : Int) < l.length) from by omega, decide_false, go_sem, Nat.reduceEqDiff]
    rw [List.take_of_length_le (by omega)] at hno
    rw [hno, if_neg Bool.false_ne_true] at hk
    refine l1Most_c ?_
    have e : (if (1 : Int) < (l.length : Int) then (l.length : Int) else 1) = ((max 1 (j - i) : Nat) : Int) := by
      split <;> omega
    rw [e]
    exact hk
  simp only [show ((a : Int) < l.length) from by omega, decide_true, go_sem, Nat.reduceEqDiff]
  refine rdi (ixn27 hsub.ptr hlt) (rdi (ld3 (hsub.cell a hlt)) ?_)
  simp only [go_sem, Nat.reduceEqDiff]
  by_cases he : l.getD a 0 = -1 - x
  · simp only [he, decide_true, go_sem, Nat.reduceEqDiff]
    rw [contains_hit hlt he, if_pos rfl] at hk
    rw [i64_of (by omega) (by omega), show (l.length : Int) - 1 = ((j - i - 1 : Nat) : Int) from by omega]
    exact hk
  · simp only [he, decide_false, go_sem, Nat.reduceEqDiff]
    rw [i64_of (by omega) (by omega)]
    exact hN _ _ hlt ⟨by omega, rfl, rfl, contains_step hlt hno he⟩
set_option maxHeartbeats 1600000 in
theorem l17Row_c {ws : List Int} (hl : ws.length ≤ 10) {nons : Nat} (hno : nons ≤ 6) : ∀ (xs : List Int) {w : World} {U W R : Option Addr} {cu cw cr : Nat} {T : CT} {i j : Nat} {k : Value → World → Prop}, TabE encM w U nons (ws.length + 1) T → SmallG T → Ints w W ws → ws.length ≤ cw → Ints w R xs → xs.length ≤ cr → xs.length ≤ 4 → (∀ x ∈ xs, -100 ≤ x ∧ x < nons) → i ≤ j → j ≤ ws.length → k (.int .i64 (encM (restG (tokM ws) nlM T xs i j))) w →
    CallK Try.prog 291 [.slice U nons cu, .slice W ws.length cw, .slice R xs.length cr, .int .i64 i, .int .i64 j] k w := by
  intro xs
  induction xs with
  | nil =>
    intro w U W R cu cw cr T i j k hT hS hW hcw hR hcr h4 hx hij hj hk
    refine enter291 ?_
    unfold S291
    simp only [List.length_nil, show (((0 : Nat) : Int) = 0) from rfl, decide_true, go_sem, Nat.reduceEqDiff]
    rw [i64_of (by omega) (by omega), show (j : Int) - (i : Int) = ((j - i : Nat) : Int) from by omega]
    exact hk
  | cons x xs ih =>
    intro w U W R cu cw cr T i j k hT hS hW hcw hR hcr h4 hx hij hj hk
    refine enter291 ?_
    unfold S291
    have hxx := hx x (List.mem_cons_self ..)
    have hx' : ∀ y ∈ xs, -100 ≤ y ∧ y < nons := fun y hy => hx y (List.mem_cons_of_mem _ hy)
    rw [List.length_cons] at hcr h4
    have hsub := hR.sub (l := 1) (c := cr) (by simp) (by simp; omega) xs.length
    rw [List.drop_one, List.tail_cons, List.take_length] at hsub
    simp only [show ¬ (((x :: xs).length : Int) = 0) from by rw [List.length_cons]; omega, decide_false, bin_add, bin_sub, bin_mul, bin_eql, bin_neq, bin_lss, bin_leq, bin_gtr, bin_geq, un_not, un_neg, pick_true, pick_false, extract_two_0, extract_two_1, nilCheck_pointer, cond_true', cond_false', guard_tt, guard_ff, guard_tf, guard_ft, guard_undef, seqQ_normal, seqQ_ret, seqQ_exit, blockQ_ret, blockQ_normal, blockQ_exit, bodyQ_ret, bodyQ_normal, resK_nil, resK_tmp, ite_T, ite_F, upd_at, add_plain, add_zero', len27, len24, len35, fa26_0, fa26_1, fa26_2, fa33_0, fa33_1, fa184_0, fa184_1, fa124_0, fa124_1, fa200_0, fa200_1, fa200_2, fa200_3, fa274_0, fa274_1, fa274_2, Nat.reduceEqDiff]
    rw [restG] at hk
    obtain ⟨F, hF⟩ : ∃ F, F = fun m => addO (oneG (tokM ws) T x i (i + m)) (restG (tokM ws) nlM T xs (i + m) j) := ⟨_, rfl⟩
    rw [← hF] at hk
    have hF' : ∀ m, F m = addO (oneG (tokM ws) T x i (i + m)) (restG (tokM ws) nlM T xs (i + m) j) := fun m => by rw [hF]
    have hFs : ∀ m n, i + m ≤ j → F m = some n → n ≤ 200000000 := fun m n hm h => by
      rw [hF'] at h
      obtain ⟨a, b, h1, h2, rfl⟩ := addO_some h
      have hb := rest_small hS (tokM_small ws) nlM_small (xs := xs) (by omega) hm (by omega) h2
      have ha : a ≤ 100000000 := by
        unfold oneG at h1
        split at h1
        · have := tokM_small ws _ _ _ _ (by omega) h1
          omega
        · exact hS.le (by omega) (by omega) h1
      omega
    clear hF
    refine loop_to (j + 1 - i) 0 (fun m f w' => m ≤ j + 1 - i ∧ f 12 = .int .i64 ((i + m : Nat) : Int) ∧ w' = w ∧ f 11 = .int .i64 (encM (minF F m)))
      ⟨Nat.zero_le _, rfl, rfl, rfl⟩ ?_
    rintro m f w1 N hag ⟨hm, h12, rfl, h11⟩ hN
    have f0 : f 0 = .slice U nons cu := hag 0 (by decide)
    have f1 : f 1 = .slice W ws.length cw := hag 1 (by decide)
    have f2 : f 2 = .slice R (x :: xs).length cr := hag 2 (by decide)
    have f3 : f 3 = .int .i64 i := hag 3 (by decide)
    have f4 : f 4 = .int .i64 j := hag 4 (by decide)
    simp only [f0, f1, f2, f3, f4, h11, h12, bin_add, bin_sub, bin_mul, bin_eql, bin_neq, bin_lss, bin_leq, bin_gtr, bin_geq, un_not, un_neg, pick_true, pick_false, extract_two_0, extract_two_1, nilCheck_pointer, cond_true', cond_false', guard_tt, guard_ff, guard_tf, guard_ft, guard_undef, seqQ_normal, seqQ_ret, seqQ_exit, blockQ_ret, blockQ_normal, blockQ_exit, bodyQ_ret, bodyQ_normal, resK_nil, resK_tmp, ite_T, ite_F, upd_at, add_plain, add_zero', len27, len24, len35, fa26_0, fa26_1, fa26_2, fa33_0, fa33_1, fa184_0, fa184_1, fa124_0, fa124_1, fa200_0, fa200_1, fa200_2, fa200_3, fa274_0, fa274_1, fa274_2, Nat.reduceEqDiff]
    by_cases hle : i + m ≤ j
    case neg =>
      simp only [show ¬ (((i + m : Nat) : Int) ≤ j) from by omega, decide_false, go_sem, Nat.reduceEqDiff]
      obtain rfl : m = j + 1 - i := by omega
      exact hk
    simp only [show (((i + m : Nat) : Int) ≤ j) from by omega, decide_true, bin_add, bin_sub, bin_mul, bin_eql, bin_neq, bin_lss, bin_leq, bin_gtr, bin_geq, un_not, un_neg, pick_true, pick_false, extract_two_0, extract_two_1, nilCheck_pointer, cond_true', cond_false', guard_tt, guard_ff, guard_tf, guard_ft, guard_undef, seqQ_normal, seqQ_ret, seqQ_exit, blockQ_ret, blockQ_normal, blockQ_exit, bodyQ_ret, bodyQ_normal, resK_nil, resK_tmp, ite_T, ite_F, upd_at, add_plain, add_zero', len27, len24, len35, fa26_0, fa26_1, fa26_2, fa33_0, fa33_1, fa184_0, fa184_1, fa124_0, fa124_1, fa200_0, fa200_1, fa200_2, fa200_3, fa274_0, fa274_1, fa274_2, Nat.reduceEqDiff]
    refine join_as (fun g w' => g 12 = .int .i64 ((i + m : Nat) : Int) ∧ w' = w1 ∧ g 11 = .int .i64 (encM (minF F (m + 1)))) (fun K8 hK8 => ?_) ?_
    case refine_2 =>
      rintro g w' ⟨g12, rfl, g11⟩
      simp only [g12, go_sem, Nat.reduceEqDiff]
      rw [i64_of (by omega) (by omega)]
      exact hN _ _ (by omega) ⟨by omega, by show Value.int .i64 (((i + m : Nat) : Int) + 1) = _; congr 1, rfl, g11⟩
    refine join_as (fun g w' => g 13 = .int .i64 (encM (oneG (tokM ws) T x i (i + m))) ∧ g 0 = .slice U nons cu ∧ g 1 = .slice W ws.length cw ∧ g 2 = .slice R (x :: xs).length cr ∧ g 4 = .int .i64 j ∧ g 11 = .int .i64 (encM (minF F m)) ∧ g 12 = .int .i64 ((i + m : Nat) : Int) ∧ w' = w1) (fun K11 hK11 => ?_) ?_
    · refine rdi (ix27_0 hR.ptr (by simp)) (rdi (ld3 (hR.cell 0 (by simp))) ?_)
      simp only [List.getD_cons_zero, bin_add, bin_sub, bin_mul, bin_eql, bin_neq, bin_lss, bin_leq, bin_gtr, bin_geq, un_not, un_neg, pick_true, pick_false, extract_two_0, extract_two_1, nilCheck_pointer, cond_true', cond_false', guard_tt, guard_ff, guard_tf, guard_ft, guard_undef, seqQ_normal, seqQ_ret, seqQ_exit, blockQ_ret, blockQ_normal, blockQ_exit, bodyQ_ret, bodyQ_normal, resK_nil, resK_tmp, ite_T, ite_F, upd_at, add_plain, add_zero', len27, len24, len35, fa26_0, fa26_1, fa26_2, fa33_0, fa33_1, fa184_0, fa184_1, fa124_0, fa124_1, fa200_0, fa200_1, fa200_2, fa200_3, fa274_0, fa274_1, fa274_2, Nat.reduceEqDiff]
      by_cases hx0 : x < 0
      · simp only [hx0, decide_true, bin_add, bin_sub, bin_mul, bin_eql, bin_neq, bin_lss, bin_leq, bin_gtr, bin_geq, un_not, un_neg, pick_true, pick_false, extract_two_0, extract_two_1, nilCheck_pointer, cond_true', cond_false', guard_tt, guard_ff, guard_tf, guard_ft, guard_undef, seqQ_normal, seqQ_ret, seqQ_exit, blockQ_ret, blockQ_normal, blockQ_exit, bodyQ_ret, bodyQ_normal, resK_nil, resK_tmp, ite_T, ite_F, upd_at, add_plain, add_zero', len27, len24, len35, fa26_0, fa26_1, fa26_2, fa33_0, fa33_1, fa184_0, fa184_1, fa124_0, fa124_1, fa200_0, fa200_1, fa200_2, fa200_3, fa274_0, fa274_1, fa274_2, Nat.reduceEqDiff]
        rw [i64_of (by omega) (by omega)]
        refine l17Token_c hW hcw hl (by omega) (by omega) ?_
        refine hK11 _ _ ⟨?_, f0, f1, f2, f4, h11, h12, rfl⟩
        rw [oneG, if_pos hx0]
        rfl
      · simp only [hx0, decide_false, bin_add, bin_sub, bin_mul, bin_eql, bin_neq, bin_lss, bin_leq, bin_gtr, bin_geq, un_not, un_neg, pick_true, pick_false, extract_two_0, extract_two_1, nilCheck_pointer, cond_true', cond_false', guard_tt, guard_ff, guard_tf, guard_ft, guard_undef, seqQ_normal, seqQ_ret, seqQ_exit, blockQ_ret, blockQ_normal, blockQ_exit, bodyQ_ret, bodyQ_normal, resK_nil, resK_tmp, ite_T, ite_F, upd_at, add_plain, add_zero', len27, len24, len35, fa26_0, fa26_1, fa26_2, fa33_0, fa33_1, fa184_0, fa184_1, fa124_0, fa124_1, fa200_0, fa200_1, fa200_2, fa200_3, fa274_0, fa274_1, fa274_2, Nat.reduceEqDiff]
        obtain ⟨A, rfl⟩ : ∃ A : Nat, x = A := ⟨x.toNat, by omega⟩
        obtain ⟨R', c', h1, h2, h3⟩ := hT.row A (by omega)
        have hab := place_lt (n := ws.length + 1) (show i < ws.length + 1 by omega) (show i + m < ws.length + 1 by omega)
        have hnn : (ws.length + 1) * (ws.length + 1) ≤ 11 * 11 := Nat.mul_le_mul (by omega) (by omega)
        refine rdi (ixn35 (fun h => hT.ptr h) (by omega)) (rdi (ld27 h1) ?_)
        rw [i64_of (n := (ws.length : Int) + 1) (by omega) (by omega), show (i : Int) * ((ws.length : Int) + 1) = ((i * (ws.length + 1) : Nat) : Int) from by push_cast; rfl, i64_of (n := ((i * (ws.length + 1) : Nat) : Int)) (by omega) (by omega), i64_of (by omega) (by omega)]
        rw [show (((i * (ws.length + 1) : Nat) : Int) + ((i + m : Nat) : Int)) = ((i * (ws.length + 1) + (i + m) : Nat) : Int) from by push_cast; rfl]
        refine rdi (ixn27 (fun _ => h2) hab) (rdi (ld3 (h3 i (i + m) (by omega) (by omega))) ?_)
        refine hK11 _ _ ⟨?_, f0, f1, f2, f4, h11, h12, rfl⟩
        rw [oneG, if_neg hx0, Int.toNat_natCast]
        rfl
    · rintro g w' ⟨g13, g0, g1, g2, g4, g11, g12, rfl⟩
      simp only [g13, g0, g1, g2, g4, g11, g12, bin_add, bin_sub, bin_mul, bin_eql, bin_neq, bin_lss, bin_leq, bin_gtr, bin_geq, un_not, un_neg, pick_true, pick_false, extract_two_0, extract_two_1, nilCheck_pointer, cond_true', cond_false', guard_tt, guard_ff, guard_tf, guard_ft, guard_undef, seqQ_normal, seqQ_ret, seqQ_exit, blockQ_ret, blockQ_normal, blockQ_exit, bodyQ_ret, bodyQ_normal, resK_nil, resK_tmp, ite_T, ite_F, upd_at, add_plain, add_zero', len27, len24, len35, fa26_0, fa26_1, fa26_2, fa33_0, fa33_1, fa184_0, fa184_1, fa124_0, fa124_1, fa200_0, fa200_1, fa200_2, fa200_3, fa274_0, fa274_1, fa274_2, Nat.reduceEqDiff]
      cases ha : oneG (tokM ws) T x i (i + m) with
      | none =>
        simp only [encM_n, show ((-1 : Int) < 0) from by omega, decide_true, bin_add, bin_sub, bin_mul, bin_eql, bin_neq, bin_lss, bin_leq, bin_gtr, bin_geq, un_not, un_neg, pick_true, pick_false, extract_two_0, extract_two_1, nilCheck_pointer, cond_true', cond_false', guard_tt, guard_ff, guard_tf, guard_ft, guard_undef, seqQ_normal, seqQ_ret, seqQ_exit, blockQ_ret, blockQ_normal, blockQ_exit, bodyQ_ret, bodyQ_normal, resK_nil, resK_tmp, ite_T, ite_F, upd_at, add_plain, add_zero', len27, len24, len35, fa26_0, fa26_1, fa26_2, fa33_0, fa33_1, fa184_0, fa184_1, fa124_0, fa124_1, fa200_0, fa200_1, fa200_2, fa200_3, fa274_0, fa274_1, fa274_2, Nat.reduceEqDiff]
        refine hK8 _ _ ⟨g12, rfl, ?_⟩
        show g 11 = _
        rw [g11, show minF F (m + 1) = minO (minF F m) (F m) from rfl, hF', ha]
        rfl
      | some a =>
        simp only [encM_s, show ¬ ((a : Int) < 0) from by omega, decide_false, bin_add, bin_sub, bin_mul, bin_eql, bin_neq, bin_lss, bin_leq, bin_gtr, bin_geq, un_not, un_neg, pick_true, pick_false, extract_two_0, extract_two_1, nilCheck_pointer, cond_true', cond_false', guard_tt, guard_ff, guard_tf, guard_ft, guard_undef, seqQ_normal, seqQ_ret, seqQ_exit, blockQ_ret, blockQ_normal, blockQ_exit, bodyQ_ret, bodyQ_normal, resK_nil, resK_tmp, ite_T, ite_F, upd_at, add_plain, add_zero', len27, len24, len35, fa26_0, fa26_1, fa26_2, fa33_0, fa33_1, fa184_0, fa184_1, fa124_0, fa124_1, fa200_0, fa200_1, fa200_2, fa200_3, fa274_0, fa274_1, fa274_2, Nat.reduceEqDiff]
        refine rdi (sll27 (by decide) (by rw [List.length_cons]; omega)) ?_
        rw [show (1 : Int).toNat = 1 from rfl, List.length_cons, Nat.add_sub_cancel]
        refine ih hT hS hW hcw hsub (by omega) (by omega) hx' hle hj ?_
        cases hb : restG (tokM ws) nlM T xs (i + m) j with
        | none =>
          simp only [encM_n, show ¬ ((0 : Int) ≤ -1) from by omega, decide_false, bin_add, bin_sub, bin_mul, bin_eql, bin_neq, bin_lss, bin_leq, bin_gtr, bin_geq, un_not, un_neg, pick_true, pick_false, extract_two_0, extract_two_1, nilCheck_pointer, cond_true', cond_false', guard_tt, guard_ff, guard_tf, guard_ft, guard_undef, seqQ_normal, seqQ_ret, seqQ_exit, blockQ_ret, blockQ_normal, blockQ_exit, bodyQ_ret, bodyQ_normal, resK_nil, resK_tmp, ite_T, ite_F, upd_at, add_plain, add_zero', len27, len24, len35, fa26_0, fa26_1, fa26_2, fa33_0, fa33_1, fa184_0, fa184_1, fa124_0, fa124_1, fa200_0, fa200_1, fa200_2, fa200_3, fa274_0, fa274_1, fa274_2, Nat.reduceEqDiff]
          refine hK8 _ _ ⟨g12, rfl, ?_⟩
          show g 11 = _
          rw [g11, show minF F (m + 1) = minO (minF F m) (F m) from rfl, hF', ha, hb]
          rfl
        | some b =>
          have hab : F m = some (a + b) := by rw [hF', ha, hb]; rfl
          have hsm := hFs m _ hle hab
          have hmin : minF F (m + 1) = minO (minF F m) (some (a + b)) := by rw [← hab]; rfl
          simp only [encM_s, show ((0 : Int) ≤ (b : Int)) from by omega, decide_true, bin_add, bin_sub, bin_mul, bin_eql, bin_neq, bin_lss, bin_leq, bin_gtr, bin_geq, un_not, un_neg, pick_true, pick_false, extract_two_0, extract_two_1, nilCheck_pointer, cond_true', cond_false', guard_tt, guard_ff, guard_tf, guard_ft, guard_undef, seqQ_normal, seqQ_ret, seqQ_exit, blockQ_ret, blockQ_normal, blockQ_exit, bodyQ_ret, bodyQ_normal, resK_nil, resK_tmp, ite_T, ite_F, upd_at, add_plain, add_zero', len27, len24, len35, fa26_0, fa26_1, fa26_2, fa33_0, fa33_1, fa184_0, fa184_1, fa124_0, fa124_1, fa200_0, fa200_1, fa200_2, fa200_3, fa274_0, fa274_1, fa274_2, Nat.reduceEqDiff]
          cases ho : minF F m with
          | none =>
            rw [ho] at hmin
            simp only [encM_n, show ((-1 : Int) < 0) from by omega, decide_true, bin_add, bin_sub, bin_mul, bin_eql, bin_neq, bin_lss, bin_leq, bin_gtr, bin_geq, un_not, un_neg, pick_true, pick_false, extract_two_0, extract_two_1, nilCheck_pointer, cond_true', cond_false', guard_tt, guard_ff, guard_tf, guard_ft, guard_undef, seqQ_normal, seqQ_ret, seqQ_exit, blockQ_ret, blockQ_normal, blockQ_exit, bodyQ_ret, bodyQ_normal, resK_nil, resK_tmp, ite_T, ite_F, upd_at, add_plain, add_zero', len27, len24, len35, fa26_0, fa26_1, fa26_2, fa33_0, fa33_1, fa184_0, fa184_1, fa124_0, fa124_1, fa200_0, fa200_1, fa200_2, fa200_3, fa274_0, fa274_1, fa274_2, Nat.reduceEqDiff]
            rw [i64_of (by omega) (by omega)]
            exact hK8 _ _ ⟨g12, rfl, by rw [hmin]; show Value.int .i64 ((a : Int) + (b : Int)) = .int .i64 ((a + b : Nat) : Int); congr 1⟩
          | some o =>
            rw [ho] at hmin
            simp only [encM_s, show ¬ ((o : Int) < 0) from by omega, decide_false, bin_add, bin_sub, bin_mul, bin_eql, bin_neq, bin_lss, bin_leq, bin_gtr, bin_geq, un_not, un_neg, pick_true, pick_false, extract_two_0, extract_two_1, nilCheck_pointer, cond_true', cond_false', guard_tt, guard_ff, guard_tf, guard_ft, guard_undef, seqQ_normal, seqQ_ret, seqQ_exit, blockQ_ret, blockQ_normal, blockQ_exit, bodyQ_ret, bodyQ_normal, resK_nil, resK_tmp, ite_T, ite_F, upd_at, add_plain, add_zero', len27, len24, len35, fa26_0, fa26_1, fa26_2, fa33_0, fa33_1, fa184_0, fa184_1, fa124_0, fa124_1, fa200_0, fa200_1, fa200_2, fa200_3, fa274_0, fa274_1, fa274_2, Nat.reduceEqDiff]
            rw [i64_of (by omega) (by omega)]
            by_cases hlt : a + b < o
            · simp only [show ((a : Int) + (b : Int) < (o : Int)) from by omega, decide_true, bin_add, bin_sub, bin_mul, bin_eql, bin_neq, bin_lss, bin_leq, bin_gtr, bin_geq, un_not, un_neg, pick_true, pick_false, extract_two_0, extract_two_1, nilCheck_pointer, cond_true', cond_false', guard_tt, guard_ff, guard_tf, guard_ft, guard_undef, seqQ_normal, seqQ_ret, seqQ_exit, blockQ_ret, blockQ_normal, blockQ_exit, bodyQ_ret, bodyQ_normal, resK_nil, resK_tmp, ite_T, ite_F, upd_at, add_plain, add_zero', len27, len24, len35, fa26_0, fa26_1, fa26_2, fa33_0, fa33_1, fa184_0, fa184_1, fa124_0, fa124_1, fa200_0, fa200_1, fa200_2, fa200_3, fa274_0, fa274_1, fa274_2, Nat.reduceEqDiff]
              rw [minO_lt hlt] at hmin
              try rw [i64_of (by omega) (by omega)]
              exact hK8 _ _ ⟨g12, rfl, by rw [hmin]; show Value.int .i64 ((a : Int) + (b : Int)) = .int .i64 ((a + b : Nat) : Int); congr 1⟩
            · simp only [show ¬ ((a : Int) + (b : Int) < (o : Int)) from by omega, decide_false, bin_add, bin_sub, bin_mul, bin_eql, bin_neq, bin_lss, bin_leq, bin_gtr, bin_geq, un_not, un_neg, pick_true, pick_false, extract_two_0, extract_two_1, nilCheck_pointer, cond_true', cond_false', guard_tt, guard_ff, guard_tf, guard_ft, guard_undef, seqQ_normal, seqQ_ret, seqQ_exit, blockQ_ret, blockQ_normal, blockQ_exit, bodyQ_ret, bodyQ_normal, resK_nil, resK_tmp, ite_T, ite_F, upd_at, add_plain, add_zero', len27, len24, len35, fa26_0, fa26_1, fa26_2, fa33_0, fa33_1, fa184_0, fa184_1, fa124_0, fa124_1, fa200_0, fa200_1, fa200_2, fa200_3, fa274_0, fa274_1, fa274_2, Nat.reduceEqDiff]
              rw [minO_ge hlt] at hmin
              exact hK8 _ _ ⟨g12, rfl, by rw [hmin, ← ho]; exact g11⟩
end Go.Proofs.Ytegcjkhebecgbaa

/- Contract: the reference's table of mending (l17Table). -/
set_option linter.unusedVariables false
set_option linter.unusedSimpArgs false
set_option maxRecDepth 100000
namespace Go.Sh
open Go
section
variable {c : CandG} {rs : List RuleL} {n : Nat}
theorem small_rules (hc : OfferG c rs n) {s : GS} (hs : SmallG s.1) {q : Nat} (hq : q ≤ rs.length) : SmallG ((List.range q).foldl (ruleG c rs n) s).1 :=
  (DropG.fold (I := SmallG) (fun q' hq' s hs => ruleG_drop hc (by have := List.mem_range.1 hq'; omega) hs) hs).1
theorem small_rows (hc : OfferG c rs n) {s : GS} (hs : SmallG s.1) {q a : Nat} (hq : q < rs.length) : SmallG ((List.range a).foldl (rowG c rs n q) s).1 :=
  (DropG.fold (I := SmallG) (fun i hi s hs => rowG_drop hc hq hs i) hs).1
theorem small_steps (hc : OfferG c rs n) {s : GS} (hs : SmallG s.1) {q a b : Nat} (hq : q < rs.length) (hb : b ≤ n) : SmallG ((List.range' a (b - a)).foldl (stepG c rs q a) s).1 :=
  (DropG.fold (I := SmallG) (fun j hj s hs => by
    rw [List.mem_range'_1] at hj
    exact stepG_drop hc hq hj.1 (by omega) hs) hs).1
theorem stepG_none {q i j : Nat} {s : GS} (h : c s.1 q i j = none) : stepG c rs q i s j = s := by
  unfold stepG
  rw [h]
theorem stepG_put {q i j m : Nat} {s : GS} (h : c s.1 q i j = some m) (hb : better m (s.1 (rul rs q).1.toNat i j) = true) : stepG c rs q i s j = (s.1.put (rul rs q).1.toNat i j m, true) := by
  unfold stepG
  rw [h]
  dsimp only
  rw [if_pos hb]
theorem stepG_stay {q i j m : Nat} {s : GS} (h : c s.1 q i j = some m) (hb : ¬ better m (s.1 (rul rs q).1.toNat i j) = true) : stepG c rs q i s j = s := by
  unfold stepG
  rw [h]
  dsimp only
  rw [if_neg hb]
end
theorem part_set (nn a : Nat) (u v : Value) (h : a < nn) : (List.replicate a u ++ List.replicate (nn - a) v).set a u = List.replicate (a + 1) u ++ List.replicate (nn - (a + 1)) v := by
  rw [List.set_append_right _ _ (by simp), List.length_replicate, Nat.sub_self, show nn - a = nn - (a + 1) + 1 from by omega, List.replicate_succ (n := nn - (a + 1)), List.set_cons_zero, List.replicate_succ', List.append_assoc]
  rfl
theorem good_rules {gm : Gram} (hg : goodG gm = true) : ∀ q, q < gm.rules.length → (rul gm.rules q).1.toNat < 6 ∧ (rul gm.rules q).2.length ≤ 4 := fun q hq => by
  have h1 := good_left hg hq
  have h2 := good_nons hg
  exact ⟨by omega, good_rule hg q hq⟩
end Go.Sh
namespace Go.Proofs.Ytegcjkhebecgbaa
open Go Go.Sh Go.RowKit
set_option maxHeartbeats 3200000 in
theorem l17Table_c {F : Nat → Prop} {w : World} {v : Value} {gm : Gram} {X : Option Addr} {cx n0 : Nat} {ws : List Int} (hv : GramV F w v gm) (hg : goodG gm = true) (hX : Ints w X ws) (hn : n0 = ws.length) (hcx : ws.length ≤ cx) (hl : ws.length ≤ 10) {k : Value → World → Prop}
    (hk : ∀ w' U c nons T, Gr w w' → gm.nons = (nons : Nat) → TabE encM w' U nons (ws.length + 1) T → SmallG T → FixG (candS gm.rules ws) gm.rules (ws.length + 1) noCT T → k (.slice U nons c) w') :
    CallK Try.prog 216 [v, .slice X n0 cx] k w := by
  subst hn
  obtain ⟨Y, cy, rfl, hc, hy⟩ := hv
  have hn6 := good_nons hg
  have hr16 := good_len hg
  have hleft6 := good_left6 hg
  obtain ⟨nons, hnn⟩ : ∃ n : Nat, gm.nons = n := ⟨gm.nons.toNat, by omega⟩
  refine enter216 ?_
  unfold S216
  have H := Apt.nil w
  refine boxH H fun b1 w1 H => ?_
  rw [hnn] at H
  simp only [bin_add, bin_sub, bin_mul, bin_eql, bin_neq, bin_lss, bin_leq, bin_gtr, bin_geq, un_not, un_neg, pick_true, pick_false, extract_two_0, extract_two_1, nilCheck_pointer, cond_true', cond_false', guard_tt, guard_ff, guard_tf, guard_ft, guard_undef, seqQ_normal, seqQ_ret, seqQ_exit, blockQ_ret, blockQ_normal, blockQ_exit, bodyQ_ret, bodyQ_normal, resK_nil, resK_tmp, ite_T, ite_F, upd_at, add_plain, add_zero', len27, len24, len35, fa26_0, fa26_1, fa26_2, fa33_0, fa33_1, fa184_0, fa184_1, fa124_0, fa124_1, fa200_0, fa200_1, fa200_2, fa200_3, fa274_0, fa274_1, fa274_2, Nat.reduceEqDiff]
  rw [ldB3 (H.box 0 rfl) rfl]
  rw [i64_of (by omega) (by omega)]
  refine makeH H u35 inf27 (by omega) (by omega) fun b2 w2 H => ?_
  rw [show (Value.slice none 0 0).cells = #[.slice none 0 0] from rfl, madeCells_one] at H
  have H := H.nilVV 1 3 rfl
  simp only [List.nil_append, List.cons_append, List.set_cons_zero, List.set_cons_succ] at H
  simp only [bin_add, bin_sub, bin_mul, bin_eql, bin_neq, bin_lss, bin_leq, bin_gtr, bin_geq, un_not, un_neg, pick_true, pick_false, extract_two_0, extract_two_1, nilCheck_pointer, cond_true', cond_false', guard_tt, guard_ff, guard_tf, guard_ft, guard_undef, seqQ_normal, seqQ_ret, seqQ_exit, blockQ_ret, blockQ_normal, blockQ_exit, bodyQ_ret, bodyQ_normal, resK_nil, resK_tmp, ite_T, ite_F, upd_at, add_plain, add_zero', len27, len24, len35, fa26_0, fa26_1, fa26_2, fa33_0, fa33_1, fa184_0, fa184_1, fa124_0, fa124_1, fa200_0, fa200_1, fa200_2, fa200_3, fa274_0, fa274_1, fa274_2, Nat.reduceEqDiff]
  generalize hN : ws.length + 1 = n at *
  have hNi : ((ws.length : Int) + 1) = (n : Int) := by omega
  rw [hNi]
  have hnn11 : n * n ≤ 11 * 11 := Nat.mul_le_mul (by omega) (by omega)
  have hrl : (rowsE encM noCT nons n).length = nons := rowsE_length _ _
  refine loop_to nons 0 (fun i f w' => i ≤ nons ∧ f 24 = .int .i64 i ∧ ∃ (ps : Nat → Option Addr × Nat), Apt w w' [bx b1 [.int .i64 nons, .int .i64 gm.toks, .slice Y gm.rules.length cy] 26, vvi 27 3 (some ⟨b2, 0, none⟩) nons ((rowsE encM noCT nons n).take i ++ (List.replicate nons []).drop i) ps])
    ⟨Nat.zero_le _, rfl, _, by rw [List.take_zero, List.drop_zero, List.nil_append]; exact H⟩ ?_
  rintro i f w3 N hag ⟨hi, h24, ps, H⟩ hN'
  have f23 : f 23 = .int .i64 nons := hag 23 (by decide)
  have f5 : f 5 = .int .i64 n := hag 5 (by decide)
  have f6 : f 6 = .slice (some ⟨b2, 0, none⟩) nons nons := hag 6 (by decide)
  have f2 : f 2 = ptrv b1 := hag 2 (by decide)
  have f1 : f 1 = .slice X ws.length cx := hag 1 (by decide)
  simp only [f23, f5, f6, h24, bin_add, bin_sub, bin_mul, bin_eql, bin_neq, bin_lss, bin_leq, bin_gtr, bin_geq, un_not, un_neg, pick_true, pick_false, extract_two_0, extract_two_1, nilCheck_pointer, cond_true', cond_false', guard_tt, guard_ff, guard_tf, guard_ft, guard_undef, seqQ_normal, seqQ_ret, seqQ_exit, blockQ_ret, blockQ_normal, blockQ_exit, bodyQ_ret, bodyQ_normal, resK_nil, resK_tmp, ite_T, ite_F, upd_at, add_plain, add_zero', len27, len24, len35, fa26_0, fa26_1, fa26_2, fa33_0, fa33_1, fa184_0, fa184_1, fa124_0, fa124_1, fa200_0, fa200_1, fa200_2, fa200_3, fa274_0, fa274_1, fa274_2, Nat.reduceEqDiff]
  by_cases hlt : i < nons
  · simp only [show (i : Int) < nons from by omega, decide_true, bin_add, bin_sub, bin_mul, bin_eql, bin_neq, bin_lss, bin_leq, bin_gtr, bin_geq, un_not, un_neg, pick_true, pick_false, extract_two_0, extract_two_1, nilCheck_pointer, cond_true', cond_false', guard_tt, guard_ff, guard_tf, guard_ft, guard_undef, seqQ_normal, seqQ_ret, seqQ_exit, blockQ_ret, blockQ_normal, blockQ_exit, bodyQ_ret, bodyQ_normal, resK_nil, resK_tmp, ite_T, ite_F, upd_at, add_plain, add_zero', len27, len24, len35, fa26_0, fa26_1, fa26_2, fa33_0, fa33_1, fa184_0, fa184_1, fa124_0, fa124_1, fa200_0, fa200_1, fa200_2, fa200_3, fa274_0, fa274_1, fa274_2, Nat.reduceEqDiff]
    rw [show (n : Int) * (n : Int) = ((n * n : Nat) : Int) from by push_cast; rfl, i64_of (by omega) (by omega)]
    refine makeH H (n := n * n) u27 inf3 (by omega) (by omega) fun b3 w4 H => ?_
    rw [show (Value.int .i64 0).cells = #[.int .i64 0] from rfl, madeCells_one] at H
    rw [ixn35 (fun _ => rfl) hlt]
    refine setRowVV H 1 2 i (by decide) rfl rfl (by simp) (by decide) sz27 (by simp; omega) fun w5 ps' H => ?_
    have H := H.erase 2
    simp only [List.nil_append, List.cons_append, List.set_cons_zero, List.set_cons_succ, List.eraseIdx_cons_zero, List.eraseIdx_cons_succ] at H
    generalize hls : (rowsE encM noCT nons n).take i ++ (List.replicate nons []).drop i = ls at *
    have hll : ls.length = nons := by rw [← hls]; simp [hrl]; omega
    have hcell := (H.vv 1 rfl).cell (j := i) (by rw [List.length_set]; omega)
    rw [vls_set (by omega), if_pos rfl, List.length_replicate] at hcell
    refine rdi (ixn35 (fun _ => rfl) hlt) (rdi (ld27 hcell) ?_)
    simp only [bin_add, bin_sub, bin_mul, bin_eql, bin_neq, bin_lss, bin_leq, bin_gtr, bin_geq, un_not, un_neg, pick_true, pick_false, extract_two_0, extract_two_1, nilCheck_pointer, cond_true', cond_false', guard_tt, guard_ff, guard_tf, guard_ft, guard_undef, seqQ_normal, seqQ_ret, seqQ_exit, blockQ_ret, blockQ_normal, blockQ_exit, bodyQ_ret, bodyQ_normal, resK_nil, resK_tmp, ite_T, ite_F, upd_at, add_plain, add_zero', len27, len24, len35, fa26_0, fa26_1, fa26_2, fa33_0, fa33_1, fa184_0, fa184_1, fa124_0, fa124_1, fa200_0, fa200_1, fa200_2, fa200_3, fa274_0, fa274_1, fa274_2, Nat.reduceEqDiff]
    refine loop_to (n * n) 0 (fun a f w' => a ≤ n * n ∧ f 39 = .int .i64 a ∧ ∃ (ps : Nat → Option Addr × Nat), Apt w w' [bx b1 [.int .i64 nons, .int .i64 gm.toks, .slice Y gm.rules.length cy] 26, vvi 27 3 (some ⟨b2, 0, none⟩) nons (ls.set i (List.replicate a (.int .i64 (-1)) ++ List.replicate (n * n - a) (Value.int .i64 0))) ps])
      ⟨Nat.zero_le _, rfl, _, by rw [List.replicate_zero, List.nil_append, Nat.sub_zero]; exact H⟩ ?_
    clear H hcell
    rintro a g w6 N2 hag2 ⟨ha, h39, ps, H⟩ hN2
    have g38 : g 38 = .int .i64 (n * n : Nat) := hag2 38 (by decide)
    have g6 : g 6 = .slice (some ⟨b2, 0, none⟩) nons nons := (hag2 6 (by decide)).trans f6
    have g7 : g 7 = .int .i64 i := hag2 7 (by decide)
    have g24 : g 24 = .int .i64 i := (hag2 24 (by decide)).trans h24
    simp only [g38, g6, g7, g24, h39, bin_add, bin_sub, bin_mul, bin_eql, bin_neq, bin_lss, bin_leq, bin_gtr, bin_geq, un_not, un_neg, pick_true, pick_false, extract_two_0, extract_two_1, nilCheck_pointer, cond_true', cond_false', guard_tt, guard_ff, guard_tf, guard_ft, guard_undef, seqQ_normal, seqQ_ret, seqQ_exit, blockQ_ret, blockQ_normal, blockQ_exit, bodyQ_ret, bodyQ_normal, resK_nil, resK_tmp, ite_T, ite_F, upd_at, add_plain, add_zero', len27, len24, len35, fa26_0, fa26_1, fa26_2, fa33_0, fa33_1, fa184_0, fa184_1, fa124_0, fa124_1, fa200_0, fa200_1, fa200_2, fa200_3, fa274_0, fa274_1, fa274_2, Nat.reduceEqDiff]
    by_cases hla : a < n * n
    case neg =>
      simp only [show ¬ ((a : Int) < ((n * n : Nat) : Int)) from by omega, decide_false, bin_add, bin_sub, bin_mul, bin_eql, bin_neq, bin_lss, bin_leq, bin_gtr, bin_geq, un_not, un_neg, pick_true, pick_false, extract_two_0, extract_two_1, nilCheck_pointer, cond_true', cond_false', guard_tt, guard_ff, guard_tf, guard_ft, guard_undef, seqQ_normal, seqQ_ret, seqQ_exit, blockQ_ret, blockQ_normal, blockQ_exit, bodyQ_ret, bodyQ_normal, resK_nil, resK_tmp, ite_T, ite_F, upd_at, add_plain, add_zero', len27, len24, len35, fa26_0, fa26_1, fa26_2, fa33_0, fa33_1, fa184_0, fa184_1, fa124_0, fa124_1, fa200_0, fa200_1, fa200_2, fa200_3, fa274_0, fa274_1, fa274_2, Nat.reduceEqDiff]
      rw [i64_of (by omega) (by omega)]
      obtain rfl : a = n * n := by omega
      refine hN' _ _ hlt ⟨hlt, rfl, ps, ?_⟩
      rw [Nat.sub_self, List.replicate_zero, List.append_nil, show List.replicate (n * n) (Value.int .i64 (-1)) = rowE encM noCT n i from (rowE_none encM n i).symm, ← hls, set_td (by simp; omega) (by simp [hrl]) (by simp [rowsE, hlt])] at H
      exact H
    simp only [show ((a : Int) < ((n * n : Nat) : Int)) from by omega, decide_true, bin_add, bin_sub, bin_mul, bin_eql, bin_neq, bin_lss, bin_leq, bin_gtr, bin_geq, un_not, un_neg, pick_true, pick_false, extract_two_0, extract_two_1, nilCheck_pointer, cond_true', cond_false', guard_tt, guard_ff, guard_tf, guard_ft, guard_undef, seqQ_normal, seqQ_ret, seqQ_exit, blockQ_ret, blockQ_normal, blockQ_exit, bodyQ_ret, bodyQ_normal, resK_nil, resK_tmp, ite_T, ite_F, upd_at, add_plain, add_zero', len27, len24, len35, fa26_0, fa26_1, fa26_2, fa33_0, fa33_1, fa184_0, fa184_1, fa124_0, fa124_1, fa200_0, fa200_1, fa200_2, fa200_3, fa274_0, fa274_1, fa274_2, Nat.reduceEqDiff]
    have hil : i < (ls.set i (List.replicate a (Value.int .i64 (-1)) ++ List.replicate (n * n - a) (Value.int .i64 0))).length := by rw [List.length_set]; omega
    have hcell := (H.vv 1 rfl).cell hil
    have hown := (H.vv 1 rfl).own i hil
    have hrow : vls (ls.set i (List.replicate a (Value.int .i64 (-1)) ++ List.replicate (n * n - a) (Value.int .i64 0))) i = List.replicate a (Value.int .i64 (-1)) ++ List.replicate (n * n - a) (Value.int .i64 0) := by rw [vls_set (by omega), if_pos rfl]
    have hrlen : (List.replicate a (Value.int .i64 (-1)) ++ List.replicate (n * n - a) (Value.int .i64 0)).length = n * n := by simp; omega
    rw [hrow, hrlen] at hcell hown
    refine rdi (ixn35 (fun _ => rfl) hlt) (rdi (ld27 hcell) (rdi (ixn27 (fun _ => hown.ptr (by omega)) hla) ?_))
    refine storeVV H 1 i (m := a) rfl (by decide) sz3 rfl rfl hil (by rw [hrow, hrlen]; exact hla) fun w7 H => ?_
    simp only [List.nil_append, List.cons_append, List.set_cons_zero, List.set_cons_succ] at H
    rw [hrow, part_set _ _ _ _ hla, List.set_set] at H
    rw [i64_of (by omega) (by omega)]
    exact hN2 _ _ hla ⟨hla, rfl, ps, H⟩
  have hin : i = nons := by omega
  simp only [show ¬ ((i : Int) < nons) from by omega, decide_false, bin_add, bin_sub, bin_mul, bin_eql, bin_neq, bin_lss, bin_leq, bin_gtr, bin_geq, un_not, un_neg, pick_true, pick_false, extract_two_0, extract_two_1, nilCheck_pointer, cond_true', cond_false', guard_tt, guard_ff, guard_tf, guard_ft, guard_undef, seqQ_normal, seqQ_ret, seqQ_exit, blockQ_ret, blockQ_normal, blockQ_exit, bodyQ_ret, bodyQ_normal, resK_nil, resK_tmp, ite_T, ite_F, upd_at, add_plain, add_zero', len27, len24, len35, fa26_0, fa26_1, fa26_2, fa33_0, fa33_1, fa184_0, fa184_1, fa124_0, fa124_1, fa200_0, fa200_1, fa200_2, fa200_3, fa274_0, fa274_1, fa274_2, Nat.reduceEqDiff]
  rw [hin, List.drop_eq_nil_of_le (by simp), List.append_nil, List.take_of_length_le (by rw [hrl]; exact Nat.le_refl _)] at H
  clear hN' hin h24 hi hlt
  have hO := offerS (ws := ws) (good_rules hg) (n := n) (by omega)
  refine loop_ghost (fun (s : GS) f w' => fixSt (candS gm.rules ws) gm.rules n s ∧ SmallG s.1 ∧ f 9 = .bool s.2 ∧ ∃ (ps : Nat → Option Addr × Nat), Apt w w' [bx b1 [.int .i64 nons, .int .i64 gm.toks, .slice Y gm.rules.length cy] 26, vvi 27 3 (some ⟨b2, 0, none⟩) nons (rowsE encM s.1 nons n) ps]) (fun s => if s.2 = true then sumG s.1 + 1 else 0) (noCT, true)
    ⟨by unfold fixSt; rw [if_pos rfl]; exact fun U h => h, smallG_none, rfl, ps, H⟩ ?_
  clear H
  rintro ⟨T, more⟩ f7 w6 N2 hag2 ⟨hst, hS, h9, ps, H⟩ hN2
  have f2' : f7 2 = ptrv b1 := (hag2 2 (by decide)).trans f2
  have f6' : f7 6 = .slice (some ⟨b2, 0, none⟩) nons nons := (hag2 6 (by decide)).trans f6
  have f5' : f7 5 = .int .i64 n := (hag2 5 (by decide)).trans f5
  have f1' : f7 1 = .slice X ws.length cx := (hag2 1 (by decide)).trans f1
  simp only [h9, f2', bin_add, bin_sub, bin_mul, bin_eql, bin_neq, bin_lss, bin_leq, bin_gtr, bin_geq, un_not, un_neg, pick_true, pick_false, extract_two_0, extract_two_1, nilCheck_pointer, cond_true', cond_false', guard_tt, guard_ff, guard_tf, guard_ft, guard_undef, seqQ_normal, seqQ_ret, seqQ_exit, blockQ_ret, blockQ_normal, blockQ_exit, bodyQ_ret, bodyQ_normal, resK_nil, resK_tmp, ite_T, ite_F, upd_at, add_plain, add_zero', len27, len24, len35, fa26_0, fa26_1, fa26_2, fa33_0, fa33_1, fa184_0, fa184_1, fa124_0, fa124_1, fa200_0, fa200_1, fa200_2, fa200_3, fa274_0, fa274_1, fa274_2, Nat.reduceEqDiff]
  cases more
  · simp only [bin_add, bin_sub, bin_mul, bin_eql, bin_neq, bin_lss, bin_leq, bin_gtr, bin_geq, un_not, un_neg, pick_true, pick_false, extract_two_0, extract_two_1, nilCheck_pointer, cond_true', cond_false', guard_tt, guard_ff, guard_tf, guard_ft, guard_undef, seqQ_normal, seqQ_ret, seqQ_exit, blockQ_ret, blockQ_normal, blockQ_exit, bodyQ_ret, bodyQ_normal, resK_nil, resK_tmp, ite_T, ite_F, upd_at, add_plain, add_zero', len27, len24, len35, fa26_0, fa26_1, fa26_2, fa33_0, fa33_1, fa184_0, fa184_1, fa124_0, fa124_1, fa200_0, fa200_1, fa200_2, fa200_3, fa274_0, fa274_1, fa274_2, Nat.reduceEqDiff]
    rw [f6']
    refine hk _ _ nons _ T H.gr hnn ((H.vv 1 rfl).tabE (by omega)) hS ?_
    unfold fixSt at hst
    rw [if_neg Bool.false_ne_true] at hst
    exact hst
  simp only [bin_add, bin_sub, bin_mul, bin_eql, bin_neq, bin_lss, bin_leq, bin_gtr, bin_geq, un_not, un_neg, pick_true, pick_false, extract_two_0, extract_two_1, nilCheck_pointer, cond_true', cond_false', guard_tt, guard_ff, guard_tf, guard_ft, guard_undef, seqQ_normal, seqQ_ret, seqQ_exit, blockQ_ret, blockQ_normal, blockQ_exit, bodyQ_ret, bodyQ_normal, resK_nil, resK_tmp, ite_T, ite_F, upd_at, add_plain, add_zero', len27, len24, len35, fa26_0, fa26_1, fa26_2, fa33_0, fa33_1, fa184_0, fa184_1, fa124_0, fa124_1, fa200_0, fa200_1, fa200_2, fa200_3, fa274_0, fa274_1, fa274_2, Nat.reduceEqDiff]
  rw [ldB24 (H.box 0 rfl) rfl]
  simp only [bin_add, bin_sub, bin_mul, bin_eql, bin_neq, bin_lss, bin_leq, bin_gtr, bin_geq, un_not, un_neg, pick_true, pick_false, extract_two_0, extract_two_1, nilCheck_pointer, cond_true', cond_false', guard_tt, guard_ff, guard_tf, guard_ft, guard_undef, seqQ_normal, seqQ_ret, seqQ_exit, blockQ_ret, blockQ_normal, blockQ_exit, bodyQ_ret, bodyQ_normal, resK_nil, resK_tmp, ite_T, ite_F, upd_at, add_plain, add_zero', len27, len24, len35, fa26_0, fa26_1, fa26_2, fa33_0, fa33_1, fa184_0, fa184_1, fa124_0, fa124_1, fa200_0, fa200_1, fa200_2, fa200_3, fa274_0, fa274_1, fa274_2, Nat.reduceEqDiff]
  refine loop_to gm.rules.length 0 (fun q f w' => q ≤ gm.rules.length ∧ f 54 = .int .i64 q ∧ f 9 = .bool ((List.range q).foldl (ruleG (candS gm.rules ws) gm.rules n) (T, false)).2 ∧ ∃ (ps : Nat → Option Addr × Nat), Apt w w' [bx b1 [.int .i64 nons, .int .i64 gm.toks, .slice Y gm.rules.length cy] 26, vvi 27 3 (some ⟨b2, 0, none⟩) nons (rowsE encM ((List.range q).foldl (ruleG (candS gm.rules ws) gm.rules n) (T, false)).1 nons n) ps])
    ⟨Nat.zero_le _, rfl, rfl, ps, H⟩ ?_
  clear H
  rintro q g1 w7 N3 hag3 ⟨hq, h54, h9', ps, H⟩ hN3
  have e52 : g1 52 = .slice Y gm.rules.length cy := hag3 52 (by decide)
  have e53 : g1 53 = .int .i64 gm.rules.length := hag3 53 (by decide)
  have e5 : g1 5 = .int .i64 n := (hag3 5 (by decide)).trans f5'
  have e6 : g1 6 = .slice (some ⟨b2, 0, none⟩) nons nons := (hag3 6 (by decide)).trans f6'
  have e1 : g1 1 = .slice X ws.length cx := (hag3 1 (by decide)).trans f1'
  simp only [e52, e53, h54, bin_add, bin_sub, bin_mul, bin_eql, bin_neq, bin_lss, bin_leq, bin_gtr, bin_geq, un_not, un_neg, pick_true, pick_false, extract_two_0, extract_two_1, nilCheck_pointer, cond_true', cond_false', guard_tt, guard_ff, guard_tf, guard_ft, guard_undef, seqQ_normal, seqQ_ret, seqQ_exit, blockQ_ret, blockQ_normal, blockQ_exit, bodyQ_ret, bodyQ_normal, resK_nil, resK_tmp, ite_T, ite_F, upd_at, add_plain, add_zero', len27, len24, len35, fa26_0, fa26_1, fa26_2, fa33_0, fa33_1, fa184_0, fa184_1, fa124_0, fa124_1, fa200_0, fa200_1, fa200_2, fa200_3, fa274_0, fa274_1, fa274_2, Nat.reduceEqDiff]
  by_cases hlq : q < gm.rules.length
  case neg =>
    simp only [show ¬ ((q : Int) < gm.rules.length) from by omega, decide_false, bin_add, bin_sub, bin_mul, bin_eql, bin_neq, bin_lss, bin_leq, bin_gtr, bin_geq, un_not, un_neg, pick_true, pick_false, extract_two_0, extract_two_1, nilCheck_pointer, cond_true', cond_false', guard_tt, guard_ff, guard_tf, guard_ft, guard_undef, seqQ_normal, seqQ_ret, seqQ_exit, blockQ_ret, blockQ_normal, blockQ_exit, bodyQ_ret, bodyQ_normal, resK_nil, resK_tmp, ite_T, ite_F, upd_at, add_plain, add_zero', len27, len24, len35, fa26_0, fa26_1, fa26_2, fa33_0, fa33_1, fa184_0, fa184_1, fa124_0, fa124_1, fa200_0, fa200_1, fa200_2, fa200_3, fa274_0, fa274_1, fa274_2, Nat.reduceEqDiff]
    obtain rfl : q = gm.rules.length := by omega
    obtain ⟨hS', hdrop⟩ := passG_drop hO (s := (T, false)) hS
    refine hN2 (passG (candS gm.rules ws) gm.rules n (T, false)) _ _ ⟨fixSt_next hst, hS', h9', ps, H⟩ ?_
    rw [if_pos rfl]
    rcases hdrop with he | ⟨h1, h2⟩
    · rw [he, if_neg Bool.false_ne_true]
      omega
    · rw [if_pos h1]
      dsimp only at h2 ⊢
      omega
  simp only [show ((q : Int) < gm.rules.length) from by omega, decide_true, bin_add, bin_sub, bin_mul, bin_eql, bin_neq, bin_lss, bin_leq, bin_gtr, bin_geq, un_not, un_neg, pick_true, pick_false, extract_two_0, extract_two_1, nilCheck_pointer, cond_true', cond_false', guard_tt, guard_ff, guard_tf, guard_ft, guard_undef, seqQ_normal, seqQ_ret, seqQ_exit, blockQ_ret, blockQ_normal, blockQ_exit, bodyQ_ret, bodyQ_normal, resK_nil, resK_tmp, ite_T, ite_F, upd_at, add_plain, add_zero', len27, len24, len35, fa26_0, fa26_1, fa26_2, fa33_0, fa33_1, fa184_0, fa184_1, fa124_0, fa124_1, fa200_0, fa200_1, fa200_2, fa200_3, fa274_0, fa274_1, fa274_2, Nat.reduceEqDiff]
  obtain ⟨Z, cz, t1, t2, t3, t4⟩ := hy.row q hlq
  have hleft := good_left hg hlq
  have hright := good_right hg hlq
  have hR4 := good_rule hg q hlq
  obtain ⟨xl, hxl⟩ : ∃ x : Nat, (rul gm.rules q).1 = x := ⟨(rul gm.rules q).1.toNat, by omega⟩
  rw [hxl] at t1 hleft
  refine rdi (ixn24 hy.ptr hlq) ?_
  rw [ld_agg agg33 sz33 (cs := [.int .i64 xl, .slice Z (rul gm.rules q).2.length cz]) rfl (fun j hj => by
    match j, hj with
    | 0, _ => rw [add_add, Nat.add_zero]; exact H.gr.cell t1
    | 1, _ => rw [add_add]; exact H.gr.cell t2)]
  refine allocH H inf33 fun b3 w8 H => ?_
  refine storeH H 2 rfl sz33 rfl rfl rfl fun w9 H => ?_
  simp only [List.nil_append, List.cons_append, List.set_cons_zero, List.set_cons_succ] at H
  have hS0 := small_rules hO (s := (T, false)) hS hq
  generalize hs0 : (List.range q).foldl (ruleG (candS gm.rules ws) gm.rules n) (T, false) = s0 at *
  refine loop_to n 0 (fun a f w' => a ≤ n ∧ f 12 = .int .i64 a ∧ f 9 = .bool ((List.range a).foldl (rowG (candS gm.rules ws) gm.rules n q) s0).2 ∧ ∃ (ps : Nat → Option Addr × Nat), Apt w w' [bx b1 [.int .i64 nons, .int .i64 gm.toks, .slice Y gm.rules.length cy] 26, vvi 27 3 (some ⟨b2, 0, none⟩) nons (rowsE encM ((List.range a).foldl (rowG (candS gm.rules ws) gm.rules n q) s0).1 nons n) ps, bx b3 [.int .i64 xl, .slice Z (rul gm.rules q).2.length cz] 33])
    ⟨Nat.zero_le _, rfl, h9', ps, H⟩ ?_
  clear H
  rintro a g2 w10 N4 hag4 ⟨ha, h12, h9a, ps, H⟩ hN4
  have k5 : g2 5 = .int .i64 n := (hag4 5 (by decide)).trans e5
  have k6 : g2 6 = .slice (some ⟨b2, 0, none⟩) nons nons := (hag4 6 (by decide)).trans e6
  have k1 : g2 1 = .slice X ws.length cx := (hag4 1 (by decide)).trans e1
  have k11 : g2 11 = ptrv b3 := hag4 11 (by decide)
  have k54 : g2 54 = .int .i64 q := (hag4 54 (by decide)).trans h54
  simp only [k5, h12, k54, bin_add, bin_sub, bin_mul, bin_eql, bin_neq, bin_lss, bin_leq, bin_gtr, bin_geq, un_not, un_neg, pick_true, pick_false, extract_two_0, extract_two_1, nilCheck_pointer, cond_true', cond_false', guard_tt, guard_ff, guard_tf, guard_ft, guard_undef, seqQ_normal, seqQ_ret, seqQ_exit, blockQ_ret, blockQ_normal, blockQ_exit, bodyQ_ret, bodyQ_normal, resK_nil, resK_tmp, ite_T, ite_F, upd_at, add_plain, add_zero', len27, len24, len35, fa26_0, fa26_1, fa26_2, fa33_0, fa33_1, fa184_0, fa184_1, fa124_0, fa124_1, fa200_0, fa200_1, fa200_2, fa200_3, fa274_0, fa274_1, fa274_2, Nat.reduceEqDiff]
  by_cases hla : a < n
  case neg =>
    simp only [show ¬ ((a : Int) < n) from by omega, decide_false, bin_add, bin_sub, bin_mul, bin_eql, bin_neq, bin_lss, bin_leq, bin_gtr, bin_geq, un_not, un_neg, pick_true, pick_false, extract_two_0, extract_two_1, nilCheck_pointer, cond_true', cond_false', guard_tt, guard_ff, guard_tf, guard_ft, guard_undef, seqQ_normal, seqQ_ret, seqQ_exit, blockQ_ret, blockQ_normal, blockQ_exit, bodyQ_ret, bodyQ_normal, resK_nil, resK_tmp, ite_T, ite_F, upd_at, add_plain, add_zero', len27, len24, len35, fa26_0, fa26_1, fa26_2, fa33_0, fa33_1, fa184_0, fa184_1, fa124_0, fa124_1, fa200_0, fa200_1, fa200_2, fa200_3, fa274_0, fa274_1, fa274_2, Nat.reduceEqDiff]
    rw [i64_of (by omega) (by omega)]
    have han : a = n := by omega
    rw [han] at h9a H
    have hstep : (List.range (q + 1)).foldl (ruleG (candS gm.rules ws) gm.rules n) (T, false) = (List.range n).foldl (rowG (candS gm.rules ws) gm.rules n q) s0 := by
      rw [foldl_range, hs0]
      rfl
    refine hN3 _ _ hlq ⟨hlq, rfl, ?_, ps, ?_⟩
    · rw [hstep]
      exact h9a
    · rw [hstep]
      exact H.take 2
  simp only [show ((a : Int) < n) from by omega, decide_true, bin_add, bin_sub, bin_mul, bin_eql, bin_neq, bin_lss, bin_leq, bin_gtr, bin_geq, un_not, un_neg, pick_true, pick_false, extract_two_0, extract_two_1, nilCheck_pointer, cond_true', cond_false', guard_tt, guard_ff, guard_tf, guard_ft, guard_undef, seqQ_normal, seqQ_ret, seqQ_exit, blockQ_ret, blockQ_normal, blockQ_exit, bodyQ_ret, bodyQ_normal, resK_nil, resK_tmp, ite_T, ite_F, upd_at, add_plain, add_zero', len27, len24, len35, fa26_0, fa26_1, fa26_2, fa33_0, fa33_1, fa184_0, fa184_1, fa124_0, fa124_1, fa200_0, fa200_1, fa200_2, fa200_3, fa274_0, fa274_1, fa274_2, Nat.reduceEqDiff]
  have hS1 := small_rows hO hS0 (a := a) hlq
  generalize hs1 : (List.range a).foldl (rowG (candS gm.rules ws) gm.rules n q) s0 = s1 at *
  refine loop_to n a (fun b f w' => a ≤ b ∧ b ≤ n ∧ f 13 = .int .i64 b ∧ f 9 = .bool ((List.range' a (b - a)).foldl (Sh.stepG (candS gm.rules ws) gm.rules q a) s1).2 ∧ ∃ (ps : Nat → Option Addr × Nat), Apt w w' [bx b1 [.int .i64 nons, .int .i64 gm.toks, .slice Y gm.rules.length cy] 26, vvi 27 3 (some ⟨b2, 0, none⟩) nons (rowsE encM ((List.range' a (b - a)).foldl (Sh.stepG (candS gm.rules ws) gm.rules q a) s1).1 nons n) ps, bx b3 [.int .i64 xl, .slice Z (rul gm.rules q).2.length cz] 33])
    ⟨Nat.le_refl _, by omega, rfl, by rw [Nat.sub_self]; exact h9a, ps, by rw [Nat.sub_self]; exact H⟩ ?_
  clear H
  rintro b g3 w11 N5 hag5 ⟨hb1, hb2, h13, h9b, ps, H⟩ hN5
  have m5 : g3 5 = .int .i64 n := (hag5 5 (by decide)).trans k5
  have m6 : g3 6 = .slice (some ⟨b2, 0, none⟩) nons nons := (hag5 6 (by decide)).trans k6
  have m1 : g3 1 = .slice X ws.length cx := (hag5 1 (by decide)).trans k1
  have m11 : g3 11 = ptrv b3 := (hag5 11 (by decide)).trans k11
  have m12 : g3 12 = .int .i64 a := (hag5 12 (by decide)).trans h12
  simp only [m5, m6, m1, m11, m12, h13, bin_add, bin_sub, bin_mul, bin_eql, bin_neq, bin_lss, bin_leq, bin_gtr, bin_geq, un_not, un_neg, pick_true, pick_false, extract_two_0, extract_two_1, nilCheck_pointer, cond_true', cond_false', guard_tt, guard_ff, guard_tf, guard_ft, guard_undef, seqQ_normal, seqQ_ret, seqQ_exit, blockQ_ret, blockQ_normal, blockQ_exit, bodyQ_ret, bodyQ_normal, resK_nil, resK_tmp, ite_T, ite_F, upd_at, add_plain, add_zero', len27, len24, len35, fa26_0, fa26_1, fa26_2, fa33_0, fa33_1, fa184_0, fa184_1, fa124_0, fa124_1, fa200_0, fa200_1, fa200_2, fa200_3, fa274_0, fa274_1, fa274_2, Nat.reduceEqDiff]
  by_cases hlb : b < n
  case neg =>
    simp only [show ¬ ((b : Int) < n) from by omega, decide_false, bin_add, bin_sub, bin_mul, bin_eql, bin_neq, bin_lss, bin_leq, bin_gtr, bin_geq, un_not, un_neg, pick_true, pick_false, extract_two_0, extract_two_1, nilCheck_pointer, cond_true', cond_false', guard_tt, guard_ff, guard_tf, guard_ft, guard_undef, seqQ_normal, seqQ_ret, seqQ_exit, blockQ_ret, blockQ_normal, blockQ_exit, bodyQ_ret, bodyQ_normal, resK_nil, resK_tmp, ite_T, ite_F, upd_at, add_plain, add_zero', len27, len24, len35, fa26_0, fa26_1, fa26_2, fa33_0, fa33_1, fa184_0, fa184_1, fa124_0, fa124_1, fa200_0, fa200_1, fa200_2, fa200_3, fa274_0, fa274_1, fa274_2, Nat.reduceEqDiff]
    rw [i64_of (by omega) (by omega)]
    have hbn : b = n := by omega
    rw [hbn] at h9b H
    have hstep : (List.range (a + 1)).foldl (rowG (candS gm.rules ws) gm.rules n q) s0 = (List.range' a (n - a)).foldl (Sh.stepG (candS gm.rules ws) gm.rules q a) s1 := by
      rw [foldl_range, hs1]
      rfl
    refine hN4 _ _ hla ⟨hla, rfl, ?_, ps, ?_⟩
    · rw [hstep]
      exact h9b
    · rw [hstep]
      exact H
  simp only [show ((b : Int) < n) from by omega, decide_true, bin_add, bin_sub, bin_mul, bin_eql, bin_neq, bin_lss, bin_leq, bin_gtr, bin_geq, un_not, un_neg, pick_true, pick_false, extract_two_0, extract_two_1, nilCheck_pointer, cond_true', cond_false', guard_tt, guard_ff, guard_tf, guard_ft, guard_undef, seqQ_normal, seqQ_ret, seqQ_exit, blockQ_ret, blockQ_normal, blockQ_exit, bodyQ_ret, bodyQ_normal, resK_nil, resK_tmp, ite_T, ite_F, upd_at, add_plain, add_zero', len27, len24, len35, fa26_0, fa26_1, fa26_2, fa33_0, fa33_1, fa184_0, fa184_1, fa124_0, fa124_1, fa200_0, fa200_1, fa200_2, fa200_3, fa274_0, fa274_1, fa274_2, Nat.reduceEqDiff]
  have hstep : (List.range' a (b + 1 - a)).foldl (Sh.stepG (candS gm.rules ws) gm.rules q a) s1 = Sh.stepG (candS gm.rules ws) gm.rules q a ((List.range' a (b - a)).foldl (Sh.stepG (candS gm.rules ws) gm.rules q a) s1) b := by
    rw [show b + 1 - a = b - a + 1 from by omega, foldl_range', show a + (b - a) = b from by omega]
  have hS2 := small_steps hO hS1 (a := a) hlq hb2
  generalize hs2 : (List.range' a (b - a)).foldl (Sh.stepG (candS gm.rules ws) gm.rules q a) s1 = s2 at *
  have hxn : xl < nons := by omega
  have hab := place_lt (n := n) (show a < n by omega) hlb
  have hT := (H.vv 1 rfl).tabE (by omega)
  have hxr : xl < (rowsE encM s2.1 nons n).length := by rw [rowsE_length]; exact hxn
  have hcell := (H.vv 1 rfl).cell hxr
  have hown := (H.vv 1 rfl).own xl hxr
  rw [vls_rowsE hxn, rowE_length] at hcell hown
  have hR0 : (ps xl).1 = some (ad (ps xl).1) := hown.ptr (by omega)
  have hab' : (a : Int) * (n : Int) = ((a * n : Nat) : Int) := by push_cast; rfl
  have hidx : IntKind.i64.wrap (IntKind.i64.wrap ((a : Int) * (n : Int)) + (b : Int)) = ((a * n + b : Nat) : Int) := by
    rw [hab', i64_of (n := ((a * n : Nat) : Int)) (by omega) (by omega), i64_of (by omega) (by omega)]
    rfl
  refine join_as (fun g w' => g 13 = .int .i64 (b : Int) ∧ g 9 = .bool (Sh.stepG (candS gm.rules ws) gm.rules q a s2 b).2 ∧ ∃ (ps : Nat → Option Addr × Nat), Apt w w' [bx b1 [.int .i64 nons, .int .i64 gm.toks, .slice Y gm.rules.length cy] 26, vvi 27 3 (some ⟨b2, 0, none⟩) nons (rowsE encM (Sh.stepG (candS gm.rules ws) gm.rules q a s2 b).1 nons n) ps, bx b3 [.int .i64 xl, .slice Z (rul gm.rules q).2.length cz] 33]) (fun K hK => ?_) ?_
  case refine_2 =>
    rintro g w' ⟨g13, g9, ps, H⟩
    simp only [g13, go_sem, Nat.reduceEqDiff]
    rw [i64_of (by omega) (by omega)]
    refine hN5 _ _ hlb ⟨by omega, hlb, rfl, ?_, ps, ?_⟩
    · rw [hstep]
      exact g9
    · rw [hstep]
      exact H
  rw [ldB27 (H.box 2 rfl) rfl]
  have hcd : candS gm.rules ws s2.1 q a b = restG (tokM ws) nlM s2.1 (rul gm.rules q).2 a b := rfl
  rw [← hN] at hT
  refine l17Row_c hl (by omega) (rul gm.rules q).2 hT hS2 (hX.gr H.gr) hcx (t4.is.gr H.gr) t3 hR4 (fun x hx => by have := hright x hx; omega) hb1 (by omega) ?_
  rw [← hcd]
  rw [ldB3 (H.box 2 rfl) rfl]
  refine rdi (ixn35 (fun _ => rfl) hxn) (rdi (ld27 hcell) ?_)
  simp only [bin_add, bin_sub, bin_mul, bin_eql, bin_neq, bin_lss, bin_leq, bin_gtr, bin_geq, un_not, un_neg, pick_true, pick_false, extract_two_0, extract_two_1, nilCheck_pointer, cond_true', cond_false', guard_tt, guard_ff, guard_tf, guard_ft, guard_undef, seqQ_normal, seqQ_ret, seqQ_exit, blockQ_ret, blockQ_normal, blockQ_exit, bodyQ_ret, bodyQ_normal, resK_nil, resK_tmp, ite_T, ite_F, upd_at, add_plain, add_zero', len27, len24, len35, fa26_0, fa26_1, fa26_2, fa33_0, fa33_1, fa184_0, fa184_1, fa124_0, fa124_1, fa200_0, fa200_1, fa200_2, fa200_3, fa274_0, fa274_1, fa274_2, Nat.reduceEqDiff]
  rw [hidx]
  refine rdi (ixn27 (fun _ => hR0) hab) (rdi (ld3 (hown.src.cell _ _ (rowE_at hla hlb))) ?_)
  have stay : Sh.stepG (candS gm.rules ws) gm.rules q a s2 b = s2 → ∀ f', f' 13 = .int .i64 (b : Int) → f' 9 = .bool s2.2 → K f' w11 := fun he f' q13 q9 => hK f' w11 ⟨q13, by rw [he]; exact q9, ps, by rw [he]; exact H⟩
  cases hcand : candS gm.rules ws s2.1 q a b with
  | none =>
    simp only [encM_n, show ¬ ((0 : Int) ≤ -1) from by omega, decide_false, bin_add, bin_sub, bin_mul, bin_eql, bin_neq, bin_lss, bin_leq, bin_gtr, bin_geq, un_not, un_neg, pick_true, pick_false, extract_two_0, extract_two_1, nilCheck_pointer, cond_true', cond_false', guard_tt, guard_ff, guard_tf, guard_ft, guard_undef, seqQ_normal, seqQ_ret, seqQ_exit, blockQ_ret, blockQ_normal, blockQ_exit, bodyQ_ret, bodyQ_normal, resK_nil, resK_tmp, ite_T, ite_F, upd_at, add_plain, add_zero', len27, len24, len35, fa26_0, fa26_1, fa26_2, fa33_0, fa33_1, fa184_0, fa184_1, fa124_0, fa124_1, fa200_0, fa200_1, fa200_2, fa200_3, fa274_0, fa274_1, fa274_2, Nat.reduceEqDiff]
    exact stay (stepG_none hcand) _ h13 h9b
  | some m =>
    simp only [encM_s, show ((0 : Int) ≤ (m : Int)) from by omega, decide_true, bin_add, bin_sub, bin_mul, bin_eql, bin_neq, bin_lss, bin_leq, bin_gtr, bin_geq, un_not, un_neg, pick_true, pick_false, extract_two_0, extract_two_1, nilCheck_pointer, cond_true', cond_false', guard_tt, guard_ff, guard_tf, guard_ft, guard_undef, seqQ_normal, seqQ_ret, seqQ_exit, blockQ_ret, blockQ_normal, blockQ_exit, bodyQ_ret, bodyQ_normal, resK_nil, resK_tmp, ite_T, ite_F, upd_at, add_plain, add_zero', len27, len24, len35, fa26_0, fa26_1, fa26_2, fa33_0, fa33_1, fa184_0, fa184_1, fa124_0, fa124_1, fa200_0, fa200_1, fa200_2, fa200_3, fa274_0, fa274_1, fa274_2, Nat.reduceEqDiff]
    have put : better m (s2.1 xl a b) = true → ∀ (f' : Sh.F) (w' : World), f' 13 = .int .i64 (b : Int) → f' 9 = .bool true → Apt w w' [bx b1 [.int .i64 nons, .int .i64 gm.toks, .slice Y gm.rules.length cy] 26, vvi 27 3 (some ⟨b2, 0, none⟩) nons ((rowsE encM s2.1 nons n).set xl ((vls (rowsE encM s2.1 nons n) xl).set (a * n + b) (.int .i64 (encM (some m))))) ps, bx b3 [.int .i64 xl, .slice Z (rul gm.rules q).2.length cz] 33] → K f' w' := fun hb f' w' q13 q9 H' => by
      have he := stepG_put (rs := gm.rules) hcand (by rw [hxl, Int.toNat_natCast]; exact hb)
      rw [hxl, Int.toNat_natCast] at he
      rw [rowsE_put hxn hla hlb] at H'
      exact hK f' w' ⟨q13, by rw [he]; exact q9, ps, by rw [he]; exact H'⟩
    have dont : ¬ better m (s2.1 xl a b) = true → Sh.stepG (candS gm.rules ws) gm.rules q a s2 b = s2 := fun hb => stepG_stay hcand (by rw [hxl, Int.toNat_natCast]; exact hb)
    cases ho : s2.1 xl a b with
    | none =>
      simp only [encM_n, show ((-1 : Int) < 0) from by omega, decide_true, bin_add, bin_sub, bin_mul, bin_eql, bin_neq, bin_lss, bin_leq, bin_gtr, bin_geq, un_not, un_neg, pick_true, pick_false, extract_two_0, extract_two_1, nilCheck_pointer, cond_true', cond_false', guard_tt, guard_ff, guard_tf, guard_ft, guard_undef, seqQ_normal, seqQ_ret, seqQ_exit, blockQ_ret, blockQ_normal, blockQ_exit, bodyQ_ret, bodyQ_normal, resK_nil, resK_tmp, ite_T, ite_F, upd_at, add_plain, add_zero', len27, len24, len35, fa26_0, fa26_1, fa26_2, fa33_0, fa33_1, fa184_0, fa184_1, fa124_0, fa124_1, fa200_0, fa200_1, fa200_2, fa200_3, fa274_0, fa274_1, fa274_2, Nat.reduceEqDiff]
      rw [ldB3 (H.box 2 rfl) rfl]
      refine rdi (ixn35 (fun _ => rfl) hxn) (rdi (ld27 hcell) ?_)
      refine rdi (ixn27 (fun _ => hR0) hab) ?_
      refine storeVV H 1 xl (m := a * n + b) rfl (by decide) sz3 rfl rfl hxr (by rw [vls_rowsE hxn, rowE_length]; exact hab) fun w12 H => ?_
      simp only [List.nil_append, List.cons_append, List.set_cons_zero, List.set_cons_succ] at H
      exact put (by rw [ho]; rfl) _ _ h13 rfl H
    | some o =>
      simp only [encM_s, show ¬ ((o : Int) < 0) from by omega, decide_false, bin_add, bin_sub, bin_mul, bin_eql, bin_neq, bin_lss, bin_leq, bin_gtr, bin_geq, un_not, un_neg, pick_true, pick_false, extract_two_0, extract_two_1, nilCheck_pointer, cond_true', cond_false', guard_tt, guard_ff, guard_tf, guard_ft, guard_undef, seqQ_normal, seqQ_ret, seqQ_exit, blockQ_ret, blockQ_normal, blockQ_exit, bodyQ_ret, bodyQ_normal, resK_nil, resK_tmp, ite_T, ite_F, upd_at, add_plain, add_zero', len27, len24, len35, fa26_0, fa26_1, fa26_2, fa33_0, fa33_1, fa184_0, fa184_1, fa124_0, fa124_1, fa200_0, fa200_1, fa200_2, fa200_3, fa274_0, fa274_1, fa274_2, Nat.reduceEqDiff]
      by_cases hmo : m < o
      · simp only [show ((m : Int) < (o : Int)) from by omega, decide_true, bin_add, bin_sub, bin_mul, bin_eql, bin_neq, bin_lss, bin_leq, bin_gtr, bin_geq, un_not, un_neg, pick_true, pick_false, extract_two_0, extract_two_1, nilCheck_pointer, cond_true', cond_false', guard_tt, guard_ff, guard_tf, guard_ft, guard_undef, seqQ_normal, seqQ_ret, seqQ_exit, blockQ_ret, blockQ_normal, blockQ_exit, bodyQ_ret, bodyQ_normal, resK_nil, resK_tmp, ite_T, ite_F, upd_at, add_plain, add_zero', len27, len24, len35, fa26_0, fa26_1, fa26_2, fa33_0, fa33_1, fa184_0, fa184_1, fa124_0, fa124_1, fa200_0, fa200_1, fa200_2, fa200_3, fa274_0, fa274_1, fa274_2, Nat.reduceEqDiff]
        rw [ldB3 (H.box 2 rfl) rfl]
        refine rdi (ixn35 (fun _ => rfl) hxn) (rdi (ld27 hcell) ?_)
        refine rdi (ixn27 (fun _ => hR0) hab) ?_
        refine storeVV H 1 xl (m := a * n + b) rfl (by decide) sz3 rfl rfl hxr (by rw [vls_rowsE hxn, rowE_length]; exact hab) fun w12 H => ?_
        simp only [List.nil_append, List.cons_append, List.set_cons_zero, List.set_cons_succ] at H
        exact put (by rw [ho]; exact decide_eq_true hmo) _ _ h13 rfl H
      · simp only [show ¬ ((m : Int) < (o : Int)) from by omega, decide_false, bin_add, bin_sub, bin_mul, bin_eql, bin_neq, bin_lss, bin_leq, bin_gtr, bin_geq, un_not, un_neg, pick_true, pick_false, extract_two_0, extract_two_1, nilCheck_pointer, cond_true', cond_false', guard_tt, guard_ff, guard_tf, guard_ft, guard_undef, seqQ_normal, seqQ_ret, seqQ_exit, blockQ_ret, blockQ_normal, blockQ_exit, bodyQ_ret, bodyQ_normal, resK_nil, resK_tmp, ite_T, ite_F, upd_at, add_plain, add_zero', len27, len24, len35, fa26_0, fa26_1, fa26_2, fa33_0, fa33_1, fa184_0, fa184_1, fa124_0, fa124_1, fa200_0, fa200_1, fa200_2, fa200_3, fa274_0, fa274_1, fa274_2, Nat.reduceEqDiff]
        exact stay (dont (by rw [ho]; intro h; exact hmo (of_decide_eq_true h))) _ h13 h9b
end Go.Proofs.Ytegcjkhebecgbaa

/- Contracts: how few changes make a symbol, a row of symbols (the program's one, rest). -/
set_option linter.unusedVariables false
set_option linter.unusedSimpArgs false
set_option maxRecDepth 100000
namespace Go.Proofs.Ytegcjkhebecgbaa
open Go Go.Sh Go.RowKit
theorem index_c {w : World} {X : Option Addr} {c n : Nat} {l : List Int} {x : Int} (hX : Ints w X l) (hn : n = l.length) {k : Value → World → Prop} (hk : ∀ a : Int, (0 ≤ a ↔ l.contains x = true) → k (.int .i64 a) w) :
    CallK Try.prog 345 [.slice X n c, .int .i64 x] k w := by
  subst hn
  refine enter345 ?_
  unfold S345
  have hle := hX.le
  simp only [go_sem, Nat.reduceEqDiff]
  refine loop_to l.length 0 (fun a f w' => a ≤ l.length ∧ f 8 = .int .i64 a ∧ w' = w ∧ (l.take a).contains x = false) ⟨Nat.zero_le _, rfl, rfl, by simp⟩ ?_
  rintro a f w1 N hag ⟨ha, h8, rfl, hno⟩ hN
  have f0 : f 0 = .slice X l.length c := hag 0 (by decide)
  have f1 : f 1 = .int .i64 x := hag 1 (by decide)
  have f7 : f 7 = .int .i64 l.length := hag 7 (by decide)
  simp only [f0, f1, f7, h8, go_sem, Nat.reduceEqDiff]
  by_cases hlt : a < l.length
  case neg =>
    simp only [show ¬ ((a : Int) < l.length) from by omega, decide_false, go_sem, Nat.reduceEqDiff]
    rw [List.take_of_length_le (by omega)] at hno
    exact hk _ ⟨fun h => by omega, fun h => by rw [hno] at h; cases h⟩
  simp only [show ((a : Int) < l.length) from by omega, decide_true, go_sem, Nat.reduceEqDiff]
  refine rdi (ixn27 hX.ptr hlt) (rdi (ld3 (hX.cell a hlt)) ?_)
  simp only [go_sem, Nat.reduceEqDiff]
  by_cases he : x = l.getD a 0
  · simp only [← he, decide_true, go_sem, Nat.reduceEqDiff]
    exact hk _ ⟨fun _ => contains_hit hlt he.symm, fun _ => by omega⟩
  · simp only [he, decide_false, go_sem, Nat.reduceEqDiff]
    rw [i64_of (by omega) (by omega)]
    exact hN _ _ hlt ⟨by omega, rfl, rfl, contains_step hlt hno (fun e => he e.symm)⟩
theorem contains_c {w : World} {X : Option Addr} {c n : Nat} {l : List Int} {x : Int} (hX : Ints w X l) (hn : n = l.length) {k : Value → World → Prop} (hk : k (.bool (l.contains x)) w) :
    CallK Try.prog 332 [.slice X n c, .int .i64 x] k w := by
  refine enter332 ?_
  unfold S332
  refine index_c hX hn fun a ha => ?_
  simp only [go_sem, Nat.reduceEqDiff]
  have e : decide (0 ≤ a) = l.contains x := by
    cases hc : l.contains x
    · exact decide_eq_false fun h => by rw [ha.1 h] at hc; cases hc
    · exact decide_eq_true (ha.2 hc)
  rw [e]
  exact hk
theorem mendOne_c {w : World} {b cx i j : Nat} {X : Option Addr} {ws : List Int} {T : CT} {x : Int} (hB : Box w b (.slice X ws.length cx :: cellsE 9 T) 184) (hX : Ints w X ws) (hc : ws.length ≤ cx) (hl : ws.length ≤ 8) (hx : -100 ≤ x ∧ x < 6) (hij : i ≤ j) (hj : j ≤ ws.length) {k : Value → World → Prop}
    (hk : ∀ w', Gr w w' → k (.int .i64 (encM (oneG (tokM ws) T x i j))) w') :
    CallK Try.prog 314 [ptrv b, .int .i64 x, .int .i64 i, .int .i64 j] k w := by
  refine enter314 ?_
  unfold S314
  simp only [go_sem, Nat.reduceEqDiff]
  by_cases hx0 : x < 0
  case neg =>
    simp only [show (0 : Int) ≤ x from by omega, decide_true, go_sem, Nat.reduceEqDiff]
    obtain ⟨A, rfl⟩ : ∃ A : Nat, x = A := ⟨x.toNat, by omega⟩
    rw [ixa182 (by omega) (by omega), ixa181 (by omega) (by omega), ixa180 (by omega) (by omega)]
    simp only [Int.toNat_natCast, go_sem, Nat.reduceEqDiff]
    rw [ldB3 (off := 0 + 1 + A * 81 + i * 9 + j) hB (by
      rw [show 0 + 1 + A * 81 + i * 9 + j = A * (9 * 9) + (i * 9 + j) + 1 from by omega]
      exact cellsE_at (by omega) (by omega) (by omega))]
    have := hk w (Gr.refl _)
    rw [oneG, if_neg hx0, Int.toNat_natCast] at this
    exact this
  simp only [show ¬ (0 : Int) ≤ x from by omega, decide_false, go_sem, Nat.reduceEqDiff]
  have hk1 : ∀ w', Gr w w' → k (.int .i64 ((if ((ws.drop i).take (j - i)).contains (-1 - x) then j - i - 1 else max 1 (j - i) : Nat) : Int)) w' := fun w' g => by
    have := hk w' g
    rw [oneG, if_pos hx0] at this
    exact this
  have hsub := hX.sub (l := i) (c := cx) (by omega) hc (j - i)
  have hsl : ((ws.drop i).take (j - i)).length = j - i := by simp; omega
  generalize hL : (ws.drop i).take (j - i) = l at *
  by_cases hij' : i = j
  · subst hij'
    simp only [decide_true, go_sem, Nat.reduceEqDiff]
    have hl0 : l = [] := List.eq_nil_of_length_eq_zero (by omega)
    have := hk1 w (Gr.refl _)
    rw [hl0, if_neg (by simp), Nat.sub_self] at this
    exact this
  simp only [show ¬ ((i : Int) = (j : Int)) from by omega, decide_false, go_sem, Nat.reduceEqDiff]
  refine ⟨fun w' => Gr w.drew w', Gr.refl _, ?_⟩
  have gd := gr_drew w
  rw [rdG one27 (hB.gr gd) rfl]
  refine rdi (sl27 (by omega) (by omega) (by omega)) ?_
  rw [Int.toNat_natCast, Int.toNat_natCast, ← hsl]
  refine symbolOf_c ?_
  rw [i64_of (by omega) (by omega)]
  refine ⟨Gr.refl _, ?_⟩
  refine contains_c (hsub.gr gd) rfl ?_
  have := hk1 w.drew gd
  rw [i64_of (n := (j : Int) - (i : Int)) (by omega) (by omega)]
  cases hcn : l.contains (-1 - x)
  · rw [hcn, if_neg Bool.false_ne_true, show max 1 (j - i) = j - i from by omega] at this
    simp only [go_sem, Nat.reduceEqDiff]
    rw [show (j : Int) - (i : Int) = ((j - i : Nat) : Int) from by omega]
    exact this
  · rw [hcn, if_pos rfl] at this
    simp only [go_sem, Nat.reduceEqDiff]
    rw [i64_of (by omega) (by omega), show (j : Int) - (i : Int) - 1 = ((j - i - 1 : Nat) : Int) from by omega]
    exact this
set_option maxHeartbeats 1600000 in
theorem mendRest_c {ws : List Int} (hl : ws.length ≤ 8) : ∀ (xs : List Int) {w : World} {b : Nat} {X R : Option Addr} {cx cr : Nat} {T : CT} {i j : Nat} {k : Value → World → Prop}, Box w b (.slice X ws.length cx :: cellsE 9 T) 184 → SmallG T → Ints w X ws → ws.length ≤ cx → Ints w R xs → xs.length ≤ cr → xs.length ≤ 4 → (∀ x ∈ xs, -100 ≤ x ∧ x < 6) → i ≤ j → j ≤ ws.length → (∀ w', Gr w w' → k (.int .i64 (encM (rowI ws T xs i j))) w') →
    CallK Try.prog 290 [ptrv b, .slice R xs.length cr, .int .i64 i, .int .i64 j] k w := by
  intro xs
  induction xs with
  | nil =>
    intro w b X R cx cr T i j k hB hS hX hcx hR hcr h4 hx hij hj hk
    refine enter290 ?_
    unfold S290
    simp only [List.length_nil, show (((0 : Nat) : Int) = 0) from rfl, decide_true, go_sem, Nat.reduceEqDiff]
    rw [i64_of (by omega) (by omega), show (j : Int) - (i : Int) = ((j - i : Nat) : Int) from by omega]
    exact hk w (Gr.refl _)
  | cons x xs ih =>
    intro w b X R cx cr T i j k hB hS hX hcx hR hcr h4 hx hij hj hk
    refine enter290 ?_
    unfold S290
    have hxx := hx x (List.mem_cons_self ..)
    have hx' : ∀ y ∈ xs, -100 ≤ y ∧ y < 6 := fun y hy => hx y (List.mem_cons_of_mem _ hy)
    rw [List.length_cons] at hcr h4
    have hsub := hR.sub (l := 1) (c := cr) (by simp) (by simp; omega) xs.length
    rw [List.drop_one, List.tail_cons, List.take_length] at hsub
    simp only [show ¬ (((x :: xs).length : Int) = 0) from by rw [List.length_cons]; omega, decide_false, bin_add, bin_sub, bin_mul, bin_eql, bin_neq, bin_lss, bin_leq, bin_gtr, bin_geq, un_not, un_neg, pick_true, pick_false, extract_two_0, extract_two_1, nilCheck_pointer, cond_true', cond_false', guard_tt, guard_ff, guard_tf, guard_ft, guard_undef, seqQ_normal, seqQ_ret, seqQ_exit, blockQ_ret, blockQ_normal, blockQ_exit, bodyQ_ret, bodyQ_normal, resK_nil, resK_tmp, ite_T, ite_F, upd_at, add_plain, add_zero', len27, len24, len35, fa26_0, fa26_1, fa26_2, fa33_0, fa33_1, fa184_0, fa184_1, fa124_0, fa124_1, fa200_0, fa200_1, fa200_2, fa200_3, fa274_0, fa274_1, fa274_2, Nat.reduceEqDiff]
    have hk : ∀ w', Gr w w' → k (.int .i64 (encM (minF (fun m => addO (oneG (tokM ws) T x i (i + m)) (restG (tokM ws) nl0 T xs (i + m) j)) (j + 1 - i)))) w' := fun w' g => by
      have := hk w' g
      rw [rowI, if_neg (by simp), restG] at this
      exact this
    obtain ⟨F, hF⟩ : ∃ F, F = fun m => addO (oneG (tokM ws) T x i (i + m)) (restG (tokM ws) nl0 T xs (i + m) j) := ⟨_, rfl⟩
    rw [← hF] at hk
    have hF' : ∀ m, F m = addO (oneG (tokM ws) T x i (i + m)) (restG (tokM ws) nl0 T xs (i + m) j) := fun m => by rw [hF]
    have hFs : ∀ m n, i + m ≤ j → F m = some n → n ≤ 200000000 := fun m n hm h => by
      rw [hF'] at h
      obtain ⟨a, b, h1, h2, rfl⟩ := addO_some h
      have hb := rest_small hS (tokM_small ws) nl0_small (xs := xs) (by omega) hm (by omega) h2
      have ha : a ≤ 100000000 := by
        unfold oneG at h1
        split at h1
        · have := tokM_small ws _ _ _ _ (by omega) h1
          omega
        · exact hS.le (by omega) (by omega) h1
      omega
    clear hF
    refine loop_to (j + 1 - i) 0 (fun m f w' => m ≤ j + 1 - i ∧ f 10 = .int .i64 ((i + m : Nat) : Int) ∧ Gr w w' ∧ f 9 = .int .i64 (encM (minF F m)))
      ⟨Nat.zero_le _, rfl, Gr.refl _, rfl⟩ ?_
    rintro m f w1 N hag ⟨hm, h10, gw, h9⟩ hN
    have f0 : f 0 = ptrv b := hag 0 (by decide)
    have f1 : f 1 = .slice R (x :: xs).length cr := hag 1 (by decide)
    have f2 : f 2 = .int .i64 i := hag 2 (by decide)
    have f3 : f 3 = .int .i64 j := hag 3 (by decide)
    simp only [f0, f1, f2, f3, h10, h9, bin_add, bin_sub, bin_mul, bin_eql, bin_neq, bin_lss, bin_leq, bin_gtr, bin_geq, un_not, un_neg, pick_true, pick_false, extract_two_0, extract_two_1, nilCheck_pointer, cond_true', cond_false', guard_tt, guard_ff, guard_tf, guard_ft, guard_undef, seqQ_normal, seqQ_ret, seqQ_exit, blockQ_ret, blockQ_normal, blockQ_exit, bodyQ_ret, bodyQ_normal, resK_nil, resK_tmp, ite_T, ite_F, upd_at, add_plain, add_zero', len27, len24, len35, fa26_0, fa26_1, fa26_2, fa33_0, fa33_1, fa184_0, fa184_1, fa124_0, fa124_1, fa200_0, fa200_1, fa200_2, fa200_3, fa274_0, fa274_1, fa274_2, Nat.reduceEqDiff]
    by_cases hle : i + m ≤ j
    case neg =>
      simp only [show ¬ (((i + m : Nat) : Int) ≤ j) from by omega, decide_false, go_sem, Nat.reduceEqDiff]
      obtain rfl : m = j + 1 - i := by omega
      exact hk _ gw
    simp only [show (((i + m : Nat) : Int) ≤ j) from by omega, decide_true, bin_add, bin_sub, bin_mul, bin_eql, bin_neq, bin_lss, bin_leq, bin_gtr, bin_geq, un_not, un_neg, pick_true, pick_false, extract_two_0, extract_two_1, nilCheck_pointer, cond_true', cond_false', guard_tt, guard_ff, guard_tf, guard_ft, guard_undef, seqQ_normal, seqQ_ret, seqQ_exit, blockQ_ret, blockQ_normal, blockQ_exit, bodyQ_ret, bodyQ_normal, resK_nil, resK_tmp, ite_T, ite_F, upd_at, add_plain, add_zero', len27, len24, len35, fa26_0, fa26_1, fa26_2, fa33_0, fa33_1, fa184_0, fa184_1, fa124_0, fa124_1, fa200_0, fa200_1, fa200_2, fa200_3, fa274_0, fa274_1, fa274_2, Nat.reduceEqDiff]
    refine join_as (fun g w' => g 10 = .int .i64 ((i + m : Nat) : Int) ∧ Gr w w' ∧ g 9 = .int .i64 (encM (minF F (m + 1)))) (fun K8 hK8 => ?_) ?_
    case refine_2 =>
      rintro g w' ⟨g10, gw', g9⟩
      simp only [g10, go_sem, Nat.reduceEqDiff]
      rw [i64_of (by omega) (by omega)]
      exact hN _ _ (by omega) ⟨by omega, by show Value.int .i64 (((i + m : Nat) : Int) + 1) = _; congr 1, gw', g9⟩
    refine rdi (ix27_0 hR.ptr (by simp)) (rdi (ld3 ((hR.gr gw).cell 0 (by simp))) ?_)
    simp only [List.getD_cons_zero, bin_add, bin_sub, bin_mul, bin_eql, bin_neq, bin_lss, bin_leq, bin_gtr, bin_geq, un_not, un_neg, pick_true, pick_false, extract_two_0, extract_two_1, nilCheck_pointer, cond_true', cond_false', guard_tt, guard_ff, guard_tf, guard_ft, guard_undef, seqQ_normal, seqQ_ret, seqQ_exit, blockQ_ret, blockQ_normal, blockQ_exit, bodyQ_ret, bodyQ_normal, resK_nil, resK_tmp, ite_T, ite_F, upd_at, add_plain, add_zero', len27, len24, len35, fa26_0, fa26_1, fa26_2, fa33_0, fa33_1, fa184_0, fa184_1, fa124_0, fa124_1, fa200_0, fa200_1, fa200_2, fa200_3, fa274_0, fa274_1, fa274_2, Nat.reduceEqDiff]
    refine mendOne_c (hB.gr gw) (hX.gr gw) hcx hl hxx (by omega) (by omega) fun w2 g2 => ?_
    have gw2 := gr_trans gw g2
    have hmin : minF F (m + 1) = minO (minF F m) (F m) := rfl
    have stay : F m = none → ∀ (f' : Sh.F) w', Gr w w' → f' 10 = .int .i64 ((i + m : Nat) : Int) → f' 9 = .int .i64 (encM (minF F m)) → K8 f' w' := fun hn f' w' g q10 q9 => hK8 _ _ ⟨q10, g, by rw [hmin, hn]; exact q9⟩
    have take : ∀ n, F m = some n → ∀ (f' : Sh.F) w', Gr w w' → f' 10 = .int .i64 ((i + m : Nat) : Int) → (better n (minF F m) = true → f' 9 = .int .i64 (n : Int)) → (¬ better n (minF F m) = true → f' 9 = .int .i64 (encM (minF F m))) → K8 f' w' := fun n hn f' w' g q10 q1 q2 => hK8 _ _ ⟨q10, g, by
      rw [hmin, hn]
      show f' 9 = .int .i64 (encM (if better n (minF F m) = true then some n else minF F m))
      by_cases hb : better n (minF F m) = true
      · rw [if_pos hb, q1 hb]; rfl
      · rw [if_neg hb, q2 hb]⟩
    cases ha : oneG (tokM ws) T x i (i + m) with
    | none =>
      simp only [encM_n, show ((-1 : Int) < 0) from by omega, decide_true, bin_add, bin_sub, bin_mul, bin_eql, bin_neq, bin_lss, bin_leq, bin_gtr, bin_geq, un_not, un_neg, pick_true, pick_false, extract_two_0, extract_two_1, nilCheck_pointer, cond_true', cond_false', guard_tt, guard_ff, guard_tf, guard_ft, guard_undef, seqQ_normal, seqQ_ret, seqQ_exit, blockQ_ret, blockQ_normal, blockQ_exit, bodyQ_ret, bodyQ_normal, resK_nil, resK_tmp, ite_T, ite_F, upd_at, add_plain, add_zero', len27, len24, len35, fa26_0, fa26_1, fa26_2, fa33_0, fa33_1, fa184_0, fa184_1, fa124_0, fa124_1, fa200_0, fa200_1, fa200_2, fa200_3, fa274_0, fa274_1, fa274_2, Nat.reduceEqDiff]
      exact stay (by rw [hF', ha]; rfl) _ _ gw2 h10 h9
    | some a =>
      simp only [encM_s, show ¬ ((a : Int) < 0) from by omega, decide_false, bin_add, bin_sub, bin_mul, bin_eql, bin_neq, bin_lss, bin_leq, bin_gtr, bin_geq, un_not, un_neg, pick_true, pick_false, extract_two_0, extract_two_1, nilCheck_pointer, cond_true', cond_false', guard_tt, guard_ff, guard_tf, guard_ft, guard_undef, seqQ_normal, seqQ_ret, seqQ_exit, blockQ_ret, blockQ_normal, blockQ_exit, bodyQ_ret, bodyQ_normal, resK_nil, resK_tmp, ite_T, ite_F, upd_at, add_plain, add_zero', len27, len24, len35, fa26_0, fa26_1, fa26_2, fa33_0, fa33_1, fa184_0, fa184_1, fa124_0, fa124_1, fa200_0, fa200_1, fa200_2, fa200_3, fa274_0, fa274_1, fa274_2, Nat.reduceEqDiff]
      cases xs with
      | nil =>
        simp only [show (([x].length : Nat) : Int) = 1 from rfl, decide_true, bin_add, bin_sub, bin_mul, bin_eql, bin_neq, bin_lss, bin_leq, bin_gtr, bin_geq, un_not, un_neg, pick_true, pick_false, extract_two_0, extract_two_1, nilCheck_pointer, cond_true', cond_false', guard_tt, guard_ff, guard_tf, guard_ft, guard_undef, seqQ_normal, seqQ_ret, seqQ_exit, blockQ_ret, blockQ_normal, blockQ_exit, bodyQ_ret, bodyQ_normal, resK_nil, resK_tmp, ite_T, ite_F, upd_at, add_plain, add_zero', len27, len24, len35, fa26_0, fa26_1, fa26_2, fa33_0, fa33_1, fa184_0, fa184_1, fa124_0, fa124_1, fa200_0, fa200_1, fa200_2, fa200_3, fa274_0, fa274_1, fa274_2, Nat.reduceEqDiff]
        refine join_as (fun g w' => g 10 = .int .i64 ((i + m : Nat) : Int) ∧ Gr w w' ∧ g 9 = .int .i64 (encM (minF F (m + 1)))) (fun K18 hK18 => ?_) (fun g w' h => hK8 _ _ h)
        have stay : F m = none → ∀ (f' : Sh.F) w', Gr w w' → f' 10 = .int .i64 ((i + m : Nat) : Int) → f' 9 = .int .i64 (encM (minF F m)) → K18 f' w' := fun hn f' w' g q10 q9 => hK18 _ _ ⟨q10, g, by rw [hmin, hn]; exact q9⟩
        have take : ∀ n, F m = some n → ∀ (f' : Sh.F) w', Gr w w' → f' 10 = .int .i64 ((i + m : Nat) : Int) → (better n (minF F m) = true → f' 9 = .int .i64 (n : Int)) → (¬ better n (minF F m) = true → f' 9 = .int .i64 (encM (minF F m))) → K18 f' w' := fun n hn f' w' g q10 q1 q2 => hK18 _ _ ⟨q10, g, by
          rw [hmin, hn]
          show f' 9 = .int .i64 (encM (if better n (minF F m) = true then some n else minF F m))
          by_cases hb : better n (minF F m) = true
          · rw [if_pos hb, q1 hb]; rfl
          · rw [if_neg hb, q2 hb]⟩
        by_cases hmj : i + m = j
        · simp only [show (((i + m : Nat) : Int) = (j : Int)) from by omega, decide_true, bin_add, bin_sub, bin_mul, bin_eql, bin_neq, bin_lss, bin_leq, bin_gtr, bin_geq, un_not, un_neg, pick_true, pick_false, extract_two_0, extract_two_1, nilCheck_pointer, cond_true', cond_false', guard_tt, guard_ff, guard_tf, guard_ft, guard_undef, seqQ_normal, seqQ_ret, seqQ_exit, blockQ_ret, blockQ_normal, blockQ_exit, bodyQ_ret, bodyQ_normal, resK_nil, resK_tmp, ite_T, ite_F, upd_at, add_plain, add_zero', len27, len24, len35, fa26_0, fa26_1, fa26_2, fa33_0, fa33_1, fa184_0, fa184_1, fa124_0, fa124_1, fa200_0, fa200_1, fa200_2, fa200_3, fa274_0, fa274_1, fa274_2, Nat.reduceEqDiff]
          have hFm : F m = some a := by
            rw [hF', ha, restG, nl0, if_pos hmj]
            rfl
          cases ho : minF F m with
          | none =>
            rw [ho] at take
            simp only [encM_n, show ((-1 : Int) < 0) from by omega, decide_true, bin_add, bin_sub, bin_mul, bin_eql, bin_neq, bin_lss, bin_leq, bin_gtr, bin_geq, un_not, un_neg, pick_true, pick_false, extract_two_0, extract_two_1, nilCheck_pointer, cond_true', cond_false', guard_tt, guard_ff, guard_tf, guard_ft, guard_undef, seqQ_normal, seqQ_ret, seqQ_exit, blockQ_ret, blockQ_normal, blockQ_exit, bodyQ_ret, bodyQ_normal, resK_nil, resK_tmp, ite_T, ite_F, upd_at, add_plain, add_zero', len27, len24, len35, fa26_0, fa26_1, fa26_2, fa33_0, fa33_1, fa184_0, fa184_1, fa124_0, fa124_1, fa200_0, fa200_1, fa200_2, fa200_3, fa274_0, fa274_1, fa274_2, Nat.reduceEqDiff]
            exact take a hFm _ _ gw2 h10 (fun _ => rfl) (fun h => absurd rfl h)
          | some o =>
            rw [ho] at take
            simp only [encM_s, show ¬ ((o : Int) < 0) from by omega, decide_false, bin_add, bin_sub, bin_mul, bin_eql, bin_neq, bin_lss, bin_leq, bin_gtr, bin_geq, un_not, un_neg, pick_true, pick_false, extract_two_0, extract_two_1, nilCheck_pointer, cond_true', cond_false', guard_tt, guard_ff, guard_tf, guard_ft, guard_undef, seqQ_normal, seqQ_ret, seqQ_exit, blockQ_ret, blockQ_normal, blockQ_exit, bodyQ_ret, bodyQ_normal, resK_nil, resK_tmp, ite_T, ite_F, upd_at, add_plain, add_zero', len27, len24, len35, fa26_0, fa26_1, fa26_2, fa33_0, fa33_1, fa184_0, fa184_1, fa124_0, fa124_1, fa200_0, fa200_1, fa200_2, fa200_3, fa274_0, fa274_1, fa274_2, Nat.reduceEqDiff]
            by_cases hao : a < o
            · simp only [show ((a : Int) < (o : Int)) from by omega, decide_true, bin_add, bin_sub, bin_mul, bin_eql, bin_neq, bin_lss, bin_leq, bin_gtr, bin_geq, un_not, un_neg, pick_true, pick_false, extract_two_0, extract_two_1, nilCheck_pointer, cond_true', cond_false', guard_tt, guard_ff, guard_tf, guard_ft, guard_undef, seqQ_normal, seqQ_ret, seqQ_exit, blockQ_ret, blockQ_normal, blockQ_exit, bodyQ_ret, bodyQ_normal, resK_nil, resK_tmp, ite_T, ite_F, upd_at, add_plain, add_zero', len27, len24, len35, fa26_0, fa26_1, fa26_2, fa33_0, fa33_1, fa184_0, fa184_1, fa124_0, fa124_1, fa200_0, fa200_1, fa200_2, fa200_3, fa274_0, fa274_1, fa274_2, Nat.reduceEqDiff]
              exact take a hFm _ _ gw2 h10 (fun _ => rfl) (fun h => absurd (decide_eq_true hao) h)
            · simp only [show ¬ ((a : Int) < (o : Int)) from by omega, decide_false, bin_add, bin_sub, bin_mul, bin_eql, bin_neq, bin_lss, bin_leq, bin_gtr, bin_geq, un_not, un_neg, pick_true, pick_false, extract_two_0, extract_two_1, nilCheck_pointer, cond_true', cond_false', guard_tt, guard_ff, guard_tf, guard_ft, guard_undef, seqQ_normal, seqQ_ret, seqQ_exit, blockQ_ret, blockQ_normal, blockQ_exit, bodyQ_ret, bodyQ_normal, resK_nil, resK_tmp, ite_T, ite_F, upd_at, add_plain, add_zero', len27, len24, len35, fa26_0, fa26_1, fa26_2, fa33_0, fa33_1, fa184_0, fa184_1, fa124_0, fa124_1, fa200_0, fa200_1, fa200_2, fa200_3, fa274_0, fa274_1, fa274_2, Nat.reduceEqDiff]
              exact take a hFm _ _ gw2 h10 (fun h => absurd (of_decide_eq_true h) hao) (fun _ => by rw [← ho]; exact h9)
        · simp only [show ¬ (((i + m : Nat) : Int) = (j : Int)) from by omega, decide_false, bin_add, bin_sub, bin_mul, bin_eql, bin_neq, bin_lss, bin_leq, bin_gtr, bin_geq, un_not, un_neg, pick_true, pick_false, extract_two_0, extract_two_1, nilCheck_pointer, cond_true', cond_false', guard_tt, guard_ff, guard_tf, guard_ft, guard_undef, seqQ_normal, seqQ_ret, seqQ_exit, blockQ_ret, blockQ_normal, blockQ_exit, bodyQ_ret, bodyQ_normal, resK_nil, resK_tmp, ite_T, ite_F, upd_at, add_plain, add_zero', len27, len24, len35, fa26_0, fa26_1, fa26_2, fa33_0, fa33_1, fa184_0, fa184_1, fa124_0, fa124_1, fa200_0, fa200_1, fa200_2, fa200_3, fa274_0, fa274_1, fa274_2, Nat.reduceEqDiff]
          refine stay ?_ _ _ gw2 h10 h9
          rw [hF', ha, restG, nl0, if_neg hmj]
          rfl
      | cons y ys =>
        simp only [show ¬ (((x :: y :: ys).length : Int) = 1) from by rw [List.length_cons, List.length_cons]; omega, decide_false, bin_add, bin_sub, bin_mul, bin_eql, bin_neq, bin_lss, bin_leq, bin_gtr, bin_geq, un_not, un_neg, pick_true, pick_false, extract_two_0, extract_two_1, nilCheck_pointer, cond_true', cond_false', guard_tt, guard_ff, guard_tf, guard_ft, guard_undef, seqQ_normal, seqQ_ret, seqQ_exit, blockQ_ret, blockQ_normal, blockQ_exit, bodyQ_ret, bodyQ_normal, resK_nil, resK_tmp, ite_T, ite_F, upd_at, add_plain, add_zero', len27, len24, len35, fa26_0, fa26_1, fa26_2, fa33_0, fa33_1, fa184_0, fa184_1, fa124_0, fa124_1, fa200_0, fa200_1, fa200_2, fa200_3, fa274_0, fa274_1, fa274_2, Nat.reduceEqDiff]
        refine rdi (sll27 (by decide) (by rw [List.length_cons]; omega)) ?_
        rw [show (1 : Int).toNat = 1 from rfl, show (x :: y :: ys).length - 1 = (y :: ys).length from rfl]
        refine ih (hB.gr gw2) hS (hX.gr gw2) hcx (hsub.gr gw2) (by omega) (by omega) hx' hle hj fun w3 g3 => ?_
        have gw3 := gr_trans gw2 g3
        rw [rowI, if_neg (by simp)]
        cases hb : restG (tokM ws) nl0 T (y :: ys) (i + m) j with
        | none =>
          simp only [encM_n, show ¬ ((0 : Int) ≤ -1) from by omega, decide_false, bin_add, bin_sub, bin_mul, bin_eql, bin_neq, bin_lss, bin_leq, bin_gtr, bin_geq, un_not, un_neg, pick_true, pick_false, extract_two_0, extract_two_1, nilCheck_pointer, cond_true', cond_false', guard_tt, guard_ff, guard_tf, guard_ft, guard_undef, seqQ_normal, seqQ_ret, seqQ_exit, blockQ_ret, blockQ_normal, blockQ_exit, bodyQ_ret, bodyQ_normal, resK_nil, resK_tmp, ite_T, ite_F, upd_at, add_plain, add_zero', len27, len24, len35, fa26_0, fa26_1, fa26_2, fa33_0, fa33_1, fa184_0, fa184_1, fa124_0, fa124_1, fa200_0, fa200_1, fa200_2, fa200_3, fa274_0, fa274_1, fa274_2, Nat.reduceEqDiff]
          exact stay (by rw [hF', ha, hb]; rfl) _ _ gw3 h10 h9
        | some b =>
          have hFm : F m = some (a + b) := by rw [hF', ha, hb]; rfl
          have hsm := hFs m _ hle hFm
          simp only [encM_s, show ((0 : Int) ≤ (b : Int)) from by omega, decide_true, bin_add, bin_sub, bin_mul, bin_eql, bin_neq, bin_lss, bin_leq, bin_gtr, bin_geq, un_not, un_neg, pick_true, pick_false, extract_two_0, extract_two_1, nilCheck_pointer, cond_true', cond_false', guard_tt, guard_ff, guard_tf, guard_ft, guard_undef, seqQ_normal, seqQ_ret, seqQ_exit, blockQ_ret, blockQ_normal, blockQ_exit, bodyQ_ret, bodyQ_normal, resK_nil, resK_tmp, ite_T, ite_F, upd_at, add_plain, add_zero', len27, len24, len35, fa26_0, fa26_1, fa26_2, fa33_0, fa33_1, fa184_0, fa184_1, fa124_0, fa124_1, fa200_0, fa200_1, fa200_2, fa200_3, fa274_0, fa274_1, fa274_2, Nat.reduceEqDiff]
          cases ho : minF F m with
          | none =>
            rw [ho] at take
            simp only [encM_n, show ((-1 : Int) < 0) from by omega, decide_true, bin_add, bin_sub, bin_mul, bin_eql, bin_neq, bin_lss, bin_leq, bin_gtr, bin_geq, un_not, un_neg, pick_true, pick_false, extract_two_0, extract_two_1, nilCheck_pointer, cond_true', cond_false', guard_tt, guard_ff, guard_tf, guard_ft, guard_undef, seqQ_normal, seqQ_ret, seqQ_exit, blockQ_ret, blockQ_normal, blockQ_exit, bodyQ_ret, bodyQ_normal, resK_nil, resK_tmp, ite_T, ite_F, upd_at, add_plain, add_zero', len27, len24, len35, fa26_0, fa26_1, fa26_2, fa33_0, fa33_1, fa184_0, fa184_1, fa124_0, fa124_1, fa200_0, fa200_1, fa200_2, fa200_3, fa274_0, fa274_1, fa274_2, Nat.reduceEqDiff]
            rw [i64_of (by omega) (by omega)]
            exact take _ hFm _ _ gw3 h10 (fun _ => by show Value.int .i64 ((a : Int) + (b : Int)) = .int .i64 ((a + b : Nat) : Int); congr 1) (fun h => absurd rfl h)
          | some o =>
            rw [ho] at take
            simp only [encM_s, show ¬ ((o : Int) < 0) from by omega, decide_false, bin_add, bin_sub, bin_mul, bin_eql, bin_neq, bin_lss, bin_leq, bin_gtr, bin_geq, un_not, un_neg, pick_true, pick_false, extract_two_0, extract_two_1, nilCheck_pointer, cond_true', cond_false', guard_tt, guard_ff, guard_tf, guard_ft, guard_undef, seqQ_normal, seqQ_ret, seqQ_exit, blockQ_ret, blockQ_normal, blockQ_exit, bodyQ_ret, bodyQ_normal, resK_nil, resK_tmp, ite_T, ite_F, upd_at, add_plain, add_zero', len27, len24, len35, fa26_0, fa26_1, fa26_2, fa33_0, fa33_1, fa184_0, fa184_1, fa124_0, fa124_1, fa200_0, fa200_1, fa200_2, fa200_3, fa274_0, fa274_1, fa274_2, Nat.reduceEqDiff]
            rw [i64_of (by omega) (by omega)]
            by_cases hlt : a + b < o
            · simp only [show ((a : Int) + (b : Int) < (o : Int)) from by omega, decide_true, bin_add, bin_sub, bin_mul, bin_eql, bin_neq, bin_lss, bin_leq, bin_gtr, bin_geq, un_not, un_neg, pick_true, pick_false, extract_two_0, extract_two_1, nilCheck_pointer, cond_true', cond_false', guard_tt, guard_ff, guard_tf, guard_ft, guard_undef, seqQ_normal, seqQ_ret, seqQ_exit, blockQ_ret, blockQ_normal, blockQ_exit, bodyQ_ret, bodyQ_normal, resK_nil, resK_tmp, ite_T, ite_F, upd_at, add_plain, add_zero', len27, len24, len35, fa26_0, fa26_1, fa26_2, fa33_0, fa33_1, fa184_0, fa184_1, fa124_0, fa124_1, fa200_0, fa200_1, fa200_2, fa200_3, fa274_0, fa274_1, fa274_2, Nat.reduceEqDiff]
              exact take _ hFm _ _ gw3 h10 (fun _ => by show Value.int .i64 ((a : Int) + (b : Int)) = .int .i64 ((a + b : Nat) : Int); congr 1) (fun h => absurd (decide_eq_true hlt) h)
            · simp only [show ¬ ((a : Int) + (b : Int) < (o : Int)) from by omega, decide_false, bin_add, bin_sub, bin_mul, bin_eql, bin_neq, bin_lss, bin_leq, bin_gtr, bin_geq, un_not, un_neg, pick_true, pick_false, extract_two_0, extract_two_1, nilCheck_pointer, cond_true', cond_false', guard_tt, guard_ff, guard_tf, guard_ft, guard_undef, seqQ_normal, seqQ_ret, seqQ_exit, blockQ_ret, blockQ_normal, blockQ_exit, bodyQ_ret, bodyQ_normal, resK_nil, resK_tmp, ite_T, ite_F, upd_at, add_plain, add_zero', len27, len24, len35, fa26_0, fa26_1, fa26_2, fa33_0, fa33_1, fa184_0, fa184_1, fa124_0, fa124_1, fa200_0, fa200_1, fa200_2, fa200_3, fa274_0, fa274_1, fa274_2, Nat.reduceEqDiff]
              exact take _ hFm _ _ gw3 h10 (fun h => absurd (of_decide_eq_true h) hlt) (fun _ => by rw [← ho]; exact h9)
end Go.Proofs.Ytegcjkhebecgbaa

/- Contract: the program's table of mending (mends). -/
set_option linter.unusedVariables false
set_option linter.unusedSimpArgs false
set_option maxRecDepth 100000
namespace Go.Proofs.Ytegcjkhebecgbaa
open Go Go.Sh Go.RowKit
theorem inf184' : Inf Try.prog 184 (.agg (#[.slice none 0 0] ++ Array.replicate 486 (.int .i64 0))) 487 3912 := inf_of (by kernel_rfl)
theorem sz182' : szOf Try.prog 182 486 := szOf_of (by kernel_rfl)
theorem bd184 (X : Option Addr) (n c : Nat) : ∃ z : Value, (∀ (S : WS) (k : Value → Prop), Rd Try.prog S (sBuild 184 [(0, .slice X n c)]) k = k z) ∧ z.cells.toList = .slice X n c :: List.replicate 486 (.int .i64 0) := by
  refine ⟨.agg (#[.slice X n c] ++ Array.replicate 486 (.int .i64 0)), fun S k => ?_, ?_⟩
  · refine rd_buildN (ps := [(0, 1), (1, 486)]) Try.underlying184 inf184' ⟨⟨rfl, sz27⟩, ⟨rfl, sz182'⟩, trivial⟩ ((fill_one rfl rfl ?_).trans (congrArg some set_head))
    exact agg_pos _ _
  · rw [agg_list]
    exact congrArg _ (rep_list _ _)
set_option maxHeartbeats 3200000 in
theorem mends_c {F : Nat → Prop} {w : World} {v : Value} {gm : Gram} {X : Option Addr} {cx n0 : Nat} {ws : List Int} (hv : GramV F w v gm) (hg : goodG gm = true) (hX : Ints w X ws) (hn : n0 = ws.length) (hcx : ws.length ≤ cx) (hl : ws.length ≤ 8) {k : Value → World → Prop}
    (hk : ∀ w' b T, Apt w w' [bx b (.slice X ws.length cx :: cellsE 9 T) 184] → SmallG T → FixG (candI gm.rules ws) gm.rules (ws.length + 1) noCT T → k (ptrv b) w') :
    CallK Try.prog 215 [v, .slice X n0 cx] k w := by
  subst hn
  obtain ⟨Y, cy, rfl, hc, hy⟩ := hv
  have hn6 := good_nons hg
  have hr16 := good_len hg
  have hleft6 := good_left6 hg
  refine enter215 ?_
  unfold S215
  have H := Apt.nil w
  refine boxH H fun b1 w1 H => ?_
  obtain ⟨z, hz1, hz2⟩ := bd184 X ws.length cx
  refine rdi (hz1 _ _) ?_
  refine boxH H fun b2 w2 H => ?_
  rw [hz2] at H
  simp only [List.nil_append, List.cons_append] at H
  obtain ⟨D, hD⟩ : ∃ D : Nat → List Value, D = fun c => .slice X ws.length cx :: (List.replicate c (Value.int .i64 (-1)) ++ List.replicate (486 - c) (Value.int .i64 0)) := ⟨_, rfl⟩
  have hD0 : D 0 = .slice X ws.length cx :: List.replicate 486 (.int .i64 0) := by rw [hD]; rfl
  have hD1 : D 486 = .slice X ws.length cx :: cellsE 9 noCT := by
    rw [hD, cellsE_none]
    simp only [Nat.sub_self, List.replicate_zero, List.append_nil]
  have hDl : ∀ c, c ≤ 486 → (D c).length = 487 := fun c hc => by
    rw [hD]
    simp only [List.length_cons, List.length_append, List.length_replicate]
    omega
  have hDs : ∀ c, c < 486 → (D c).set (c + 1) (.int .i64 (-1)) = D (c + 1) := fun c hc => by
    rw [hD]
    simp only [List.set_cons_succ]
    rw [part_set _ _ _ _ hc]
  rw [← hD0] at H
  clear hD hD0 hz1 hz2
  refine loop_to 6 0 (fun A f w' => A ≤ 6 ∧ f 19 = .int .i64 A ∧ Apt w w' [bx b1 [.int .i64 gm.nons, .int .i64 gm.toks, .slice Y gm.rules.length cy] 26, bx b2 (D (A * 81)) 184])
    ⟨Nat.zero_le _, rfl, H⟩ ?_
  clear H
  rintro A f w3 N hag ⟨hA, h19, H⟩ hN
  have f5 : f 5 = ptrv b2 := hag 5 (by decide)
  have f1 : f 1 = .slice X ws.length cx := hag 1 (by decide)
  have f2 : f 2 = ptrv b1 := hag 2 (by decide)
  simp only [h19, bin_add, bin_sub, bin_mul, bin_eql, bin_neq, bin_lss, bin_leq, bin_gtr, bin_geq, un_not, un_neg, pick_true, pick_false, extract_two_0, extract_two_1, nilCheck_pointer, cond_true', cond_false', guard_tt, guard_ff, guard_tf, guard_ft, guard_undef, seqQ_normal, seqQ_ret, seqQ_exit, blockQ_ret, blockQ_normal, blockQ_exit, bodyQ_ret, bodyQ_normal, resK_nil, resK_tmp, ite_T, ite_F, upd_at, add_plain, add_zero', len27, len24, len35, fa26_0, fa26_1, fa26_2, fa33_0, fa33_1, fa184_0, fa184_1, fa124_0, fa124_1, fa200_0, fa200_1, fa200_2, fa200_3, fa274_0, fa274_1, fa274_2, Nat.reduceEqDiff]
  by_cases hA6 : A < 6
  · simp only [show (A : Int) < 6 from by omega, decide_true, bin_add, bin_sub, bin_mul, bin_eql, bin_neq, bin_lss, bin_leq, bin_gtr, bin_geq, un_not, un_neg, pick_true, pick_false, extract_two_0, extract_two_1, nilCheck_pointer, cond_true', cond_false', guard_tt, guard_ff, guard_tf, guard_ft, guard_undef, seqQ_normal, seqQ_ret, seqQ_exit, blockQ_ret, blockQ_normal, blockQ_exit, bodyQ_ret, bodyQ_normal, resK_nil, resK_tmp, ite_T, ite_F, upd_at, add_plain, add_zero', len27, len24, len35, fa26_0, fa26_1, fa26_2, fa33_0, fa33_1, fa184_0, fa184_1, fa124_0, fa124_1, fa200_0, fa200_1, fa200_2, fa200_3, fa274_0, fa274_1, fa274_2, Nat.reduceEqDiff]
    refine loop_to 9 0 (fun i f w' => i ≤ 9 ∧ f 22 = .int .i64 i ∧ Apt w w' [bx b1 [.int .i64 gm.nons, .int .i64 gm.toks, .slice Y gm.rules.length cy] 26, bx b2 (D (A * 81 + i * 9)) 184])
      ⟨Nat.zero_le _, rfl, H⟩ ?_
    clear H
    rintro i g w4 N2 hag2 ⟨hi, h22, H⟩ hN2
    have g5 : g 5 = ptrv b2 := (hag2 5 (by decide)).trans f5
    have g6 : g 6 = .int .i64 A := hag2 6 (by decide)
    have g19 : g 19 = .int .i64 A := (hag2 19 (by decide)).trans h19
    simp only [h22, g19, bin_add, bin_sub, bin_mul, bin_eql, bin_neq, bin_lss, bin_leq, bin_gtr, bin_geq, un_not, un_neg, pick_true, pick_false, extract_two_0, extract_two_1, nilCheck_pointer, cond_true', cond_false', guard_tt, guard_ff, guard_tf, guard_ft, guard_undef, seqQ_normal, seqQ_ret, seqQ_exit, blockQ_ret, blockQ_normal, blockQ_exit, bodyQ_ret, bodyQ_normal, resK_nil, resK_tmp, ite_T, ite_F, upd_at, add_plain, add_zero', len27, len24, len35, fa26_0, fa26_1, fa26_2, fa33_0, fa33_1, fa184_0, fa184_1, fa124_0, fa124_1, fa200_0, fa200_1, fa200_2, fa200_3, fa274_0, fa274_1, fa274_2, Nat.reduceEqDiff]
    by_cases hi9 : i < 9
    · simp only [show (i : Int) < 9 from by omega, decide_true, bin_add, bin_sub, bin_mul, bin_eql, bin_neq, bin_lss, bin_leq, bin_gtr, bin_geq, un_not, un_neg, pick_true, pick_false, extract_two_0, extract_two_1, nilCheck_pointer, cond_true', cond_false', guard_tt, guard_ff, guard_tf, guard_ft, guard_undef, seqQ_normal, seqQ_ret, seqQ_exit, blockQ_ret, blockQ_normal, blockQ_exit, bodyQ_ret, bodyQ_normal, resK_nil, resK_tmp, ite_T, ite_F, upd_at, add_plain, add_zero', len27, len24, len35, fa26_0, fa26_1, fa26_2, fa33_0, fa33_1, fa184_0, fa184_1, fa124_0, fa124_1, fa200_0, fa200_1, fa200_2, fa200_3, fa274_0, fa274_1, fa274_2, Nat.reduceEqDiff]
      refine loop_to 9 0 (fun j f w' => j ≤ 9 ∧ f 25 = .int .i64 j ∧ Apt w w' [bx b1 [.int .i64 gm.nons, .int .i64 gm.toks, .slice Y gm.rules.length cy] 26, bx b2 (D (A * 81 + i * 9 + j)) 184])
        ⟨Nat.zero_le _, rfl, H⟩ ?_
      clear H
      rintro j g1 w5 N3 hag3 ⟨hj, h25, H⟩ hN3
      have k5 : g1 5 = ptrv b2 := (hag3 5 (by decide)).trans g5
      have k6 : g1 6 = .int .i64 A := (hag3 6 (by decide)).trans g6
      have k7 : g1 7 = .int .i64 i := hag3 7 (by decide)
      have k22 : g1 22 = .int .i64 i := (hag3 22 (by decide)).trans h22
      simp only [h25, k5, k6, k7, k22, bin_add, bin_sub, bin_mul, bin_eql, bin_neq, bin_lss, bin_leq, bin_gtr, bin_geq, un_not, un_neg, pick_true, pick_false, extract_two_0, extract_two_1, nilCheck_pointer, cond_true', cond_false', guard_tt, guard_ff, guard_tf, guard_ft, guard_undef, seqQ_normal, seqQ_ret, seqQ_exit, blockQ_ret, blockQ_normal, blockQ_exit, bodyQ_ret, bodyQ_normal, resK_nil, resK_tmp, ite_T, ite_F, upd_at, add_plain, add_zero', len27, len24, len35, fa26_0, fa26_1, fa26_2, fa33_0, fa33_1, fa184_0, fa184_1, fa124_0, fa124_1, fa200_0, fa200_1, fa200_2, fa200_3, fa274_0, fa274_1, fa274_2, Nat.reduceEqDiff]
      by_cases hj9 : j < 9
      · simp only [show (j : Int) < 9 from by omega, decide_true, bin_add, bin_sub, bin_mul, bin_eql, bin_neq, bin_lss, bin_leq, bin_gtr, bin_geq, un_not, un_neg, pick_true, pick_false, extract_two_0, extract_two_1, nilCheck_pointer, cond_true', cond_false', guard_tt, guard_ff, guard_tf, guard_ft, guard_undef, seqQ_normal, seqQ_ret, seqQ_exit, blockQ_ret, blockQ_normal, blockQ_exit, bodyQ_ret, bodyQ_normal, resK_nil, resK_tmp, ite_T, ite_F, upd_at, add_plain, add_zero', len27, len24, len35, fa26_0, fa26_1, fa26_2, fa33_0, fa33_1, fa184_0, fa184_1, fa124_0, fa124_1, fa200_0, fa200_1, fa200_2, fa200_3, fa274_0, fa274_1, fa274_2, Nat.reduceEqDiff]
        rw [ixa182 (by omega) (by omega), ixa181 (by omega) (by omega), ixa180 (by omega) (by omega)]
        simp only [Int.toNat_natCast, bin_add, bin_sub, bin_mul, bin_eql, bin_neq, bin_lss, bin_leq, bin_gtr, bin_geq, un_not, un_neg, pick_true, pick_false, extract_two_0, extract_two_1, nilCheck_pointer, cond_true', cond_false', guard_tt, guard_ff, guard_tf, guard_ft, guard_undef, seqQ_normal, seqQ_ret, seqQ_exit, blockQ_ret, blockQ_normal, blockQ_exit, bodyQ_ret, bodyQ_normal, resK_nil, resK_tmp, ite_T, ite_F, upd_at, add_plain, add_zero', len27, len24, len35, fa26_0, fa26_1, fa26_2, fa33_0, fa33_1, fa184_0, fa184_1, fa124_0, fa124_1, fa200_0, fa200_1, fa200_2, fa200_3, fa274_0, fa274_1, fa274_2, Nat.reduceEqDiff]
        have hlen := hDl (A * 81 + i * 9 + j) (by omega)
        refine storeH H 1 rfl sz3 rfl rfl (by rw [Nat.ble_eq, hlen]; omega) fun w6 H => ?_
        rw [show (Value.int .i64 (-1)).cells.toList = [.int .i64 (-1)] from rfl, take_put_drop (by rw [hlen]; omega), show 0 + 1 + A * 81 + i * 9 + j = (A * 81 + i * 9 + j) + 1 from by omega, hDs _ (by omega)] at H
        simp only [List.set_cons_zero, List.set_cons_succ] at H
        rw [i64_of (by omega) (by omega)]
        exact hN3 _ _ hj9 ⟨hj9, rfl, H⟩
      · simp only [show ¬ (j : Int) < 9 from by omega, decide_false, bin_add, bin_sub, bin_mul, bin_eql, bin_neq, bin_lss, bin_leq, bin_gtr, bin_geq, un_not, un_neg, pick_true, pick_false, extract_two_0, extract_two_1, nilCheck_pointer, cond_true', cond_false', guard_tt, guard_ff, guard_tf, guard_ft, guard_undef, seqQ_normal, seqQ_ret, seqQ_exit, blockQ_ret, blockQ_normal, blockQ_exit, bodyQ_ret, bodyQ_normal, resK_nil, resK_tmp, ite_T, ite_F, upd_at, add_plain, add_zero', len27, len24, len35, fa26_0, fa26_1, fa26_2, fa33_0, fa33_1, fa184_0, fa184_1, fa124_0, fa124_1, fa200_0, fa200_1, fa200_2, fa200_3, fa274_0, fa274_1, fa274_2, Nat.reduceEqDiff]
        rw [i64_of (by omega) (by omega)]
        obtain rfl : j = 9 := by omega
        refine hN2 _ _ hi9 ⟨hi9, rfl, ?_⟩
        rw [show A * 81 + (i + 1) * 9 = A * 81 + i * 9 + 9 from by omega]
        exact H
    · simp only [show ¬ (i : Int) < 9 from by omega, decide_false, bin_add, bin_sub, bin_mul, bin_eql, bin_neq, bin_lss, bin_leq, bin_gtr, bin_geq, un_not, un_neg, pick_true, pick_false, extract_two_0, extract_two_1, nilCheck_pointer, cond_true', cond_false', guard_tt, guard_ff, guard_tf, guard_ft, guard_undef, seqQ_normal, seqQ_ret, seqQ_exit, blockQ_ret, blockQ_normal, blockQ_exit, bodyQ_ret, bodyQ_normal, resK_nil, resK_tmp, ite_T, ite_F, upd_at, add_plain, add_zero', len27, len24, len35, fa26_0, fa26_1, fa26_2, fa33_0, fa33_1, fa184_0, fa184_1, fa124_0, fa124_1, fa200_0, fa200_1, fa200_2, fa200_3, fa274_0, fa274_1, fa274_2, Nat.reduceEqDiff]
      rw [i64_of (by omega) (by omega)]
      obtain rfl : i = 9 := by omega
      refine hN _ _ hA6 ⟨hA6, rfl, ?_⟩
      rw [show (A + 1) * 81 = A * 81 + 9 * 9 from by omega]
      exact H
  simp only [show ¬ (A : Int) < 6 from by omega, decide_false, bin_add, bin_sub, bin_mul, bin_eql, bin_neq, bin_lss, bin_leq, bin_gtr, bin_geq, un_not, un_neg, pick_true, pick_false, extract_two_0, extract_two_1, nilCheck_pointer, cond_true', cond_false', guard_tt, guard_ff, guard_tf, guard_ft, guard_undef, seqQ_normal, seqQ_ret, seqQ_exit, blockQ_ret, blockQ_normal, blockQ_exit, bodyQ_ret, bodyQ_normal, resK_nil, resK_tmp, ite_T, ite_F, upd_at, add_plain, add_zero', len27, len24, len35, fa26_0, fa26_1, fa26_2, fa33_0, fa33_1, fa184_0, fa184_1, fa124_0, fa124_1, fa200_0, fa200_1, fa200_2, fa200_3, fa274_0, fa274_1, fa274_2, Nat.reduceEqDiff]
  obtain rfl : A = 6 := by omega
  rw [show 6 * 81 = 486 from rfl, hD1] at H
  clear hN hA6 hA h19 hD1 hDl hDs
  have hO := offerI (ws := ws) (good_rules hg) (n := ws.length + 1) (by omega)
  refine loop_ghost (fun (s : GS) f w' => fixSt (candI gm.rules ws) gm.rules (ws.length + 1) s ∧ SmallG s.1 ∧ f 9 = .bool s.2 ∧ Apt w w' [bx b1 [.int .i64 gm.nons, .int .i64 gm.toks, .slice Y gm.rules.length cy] 26, bx b2 (.slice X ws.length cx :: cellsE 9 s.1) 184]) (fun s => if s.2 = true then sumG s.1 + 1 else 0) (noCT, true)
    ⟨by unfold fixSt; rw [if_pos rfl]; exact fun U h => h, smallG_none, rfl, H⟩ ?_
  clear H
  rintro ⟨T, more⟩ f7 w6 N2 hag2 ⟨hst, hS, h9, H⟩ hN2
  have f2' : f7 2 = ptrv b1 := (hag2 2 (by decide)).trans f2
  have f5' : f7 5 = ptrv b2 := (hag2 5 (by decide)).trans f5
  have f1' : f7 1 = .slice X ws.length cx := (hag2 1 (by decide)).trans f1
  simp only [h9, f2', bin_add, bin_sub, bin_mul, bin_eql, bin_neq, bin_lss, bin_leq, bin_gtr, bin_geq, un_not, un_neg, pick_true, pick_false, extract_two_0, extract_two_1, nilCheck_pointer, cond_true', cond_false', guard_tt, guard_ff, guard_tf, guard_ft, guard_undef, seqQ_normal, seqQ_ret, seqQ_exit, blockQ_ret, blockQ_normal, blockQ_exit, bodyQ_ret, bodyQ_normal, resK_nil, resK_tmp, ite_T, ite_F, upd_at, add_plain, add_zero', len27, len24, len35, fa26_0, fa26_1, fa26_2, fa33_0, fa33_1, fa184_0, fa184_1, fa124_0, fa124_1, fa200_0, fa200_1, fa200_2, fa200_3, fa274_0, fa274_1, fa274_2, Nat.reduceEqDiff]
  cases more
  · simp only [bin_add, bin_sub, bin_mul, bin_eql, bin_neq, bin_lss, bin_leq, bin_gtr, bin_geq, un_not, un_neg, pick_true, pick_false, extract_two_0, extract_two_1, nilCheck_pointer, cond_true', cond_false', guard_tt, guard_ff, guard_tf, guard_ft, guard_undef, seqQ_normal, seqQ_ret, seqQ_exit, blockQ_ret, blockQ_normal, blockQ_exit, bodyQ_ret, bodyQ_normal, resK_nil, resK_tmp, ite_T, ite_F, upd_at, add_plain, add_zero', len27, len24, len35, fa26_0, fa26_1, fa26_2, fa33_0, fa33_1, fa184_0, fa184_1, fa124_0, fa124_1, fa200_0, fa200_1, fa200_2, fa200_3, fa274_0, fa274_1, fa274_2, Nat.reduceEqDiff]
    rw [f5']
    refine hk _ b2 T (H.erase 0) hS ?_
    unfold fixSt at hst
    rw [if_neg Bool.false_ne_true] at hst
    exact hst
  simp only [bin_add, bin_sub, bin_mul, bin_eql, bin_neq, bin_lss, bin_leq, bin_gtr, bin_geq, un_not, un_neg, pick_true, pick_false, extract_two_0, extract_two_1, nilCheck_pointer, cond_true', cond_false', guard_tt, guard_ff, guard_tf, guard_ft, guard_undef, seqQ_normal, seqQ_ret, seqQ_exit, blockQ_ret, blockQ_normal, blockQ_exit, bodyQ_ret, bodyQ_normal, resK_nil, resK_tmp, ite_T, ite_F, upd_at, add_plain, add_zero', len27, len24, len35, fa26_0, fa26_1, fa26_2, fa33_0, fa33_1, fa184_0, fa184_1, fa124_0, fa124_1, fa200_0, fa200_1, fa200_2, fa200_3, fa274_0, fa274_1, fa274_2, Nat.reduceEqDiff]
  rw [ldB24 (H.box 0 rfl) rfl]
  simp only [bin_add, bin_sub, bin_mul, bin_eql, bin_neq, bin_lss, bin_leq, bin_gtr, bin_geq, un_not, un_neg, pick_true, pick_false, extract_two_0, extract_two_1, nilCheck_pointer, cond_true', cond_false', guard_tt, guard_ff, guard_tf, guard_ft, guard_undef, seqQ_normal, seqQ_ret, seqQ_exit, blockQ_ret, blockQ_normal, blockQ_exit, bodyQ_ret, bodyQ_normal, resK_nil, resK_tmp, ite_T, ite_F, upd_at, add_plain, add_zero', len27, len24, len35, fa26_0, fa26_1, fa26_2, fa33_0, fa33_1, fa184_0, fa184_1, fa124_0, fa124_1, fa200_0, fa200_1, fa200_2, fa200_3, fa274_0, fa274_1, fa274_2, Nat.reduceEqDiff]
  refine loop_to gm.rules.length 0 (fun q f w' => q ≤ gm.rules.length ∧ f 44 = .int .i64 q ∧ f 9 = .bool ((List.range q).foldl (ruleG (candI gm.rules ws) gm.rules (ws.length + 1)) (T, false)).2 ∧ Apt w w' [bx b1 [.int .i64 gm.nons, .int .i64 gm.toks, .slice Y gm.rules.length cy] 26, bx b2 (.slice X ws.length cx :: cellsE 9 ((List.range q).foldl (ruleG (candI gm.rules ws) gm.rules (ws.length + 1)) (T, false)).1) 184])
    ⟨Nat.zero_le _, rfl, rfl, H⟩ ?_
  clear H
  rintro q g1 w7 N3 hag3 ⟨hq, h44, h9', H⟩ hN3
  have e42 : g1 42 = .slice Y gm.rules.length cy := hag3 42 (by decide)
  have e43 : g1 43 = .int .i64 gm.rules.length := hag3 43 (by decide)
  have e5 : g1 5 = ptrv b2 := (hag3 5 (by decide)).trans f5'
  have e1 : g1 1 = .slice X ws.length cx := (hag3 1 (by decide)).trans f1'
  simp only [e42, e43, e1, h44, bin_add, bin_sub, bin_mul, bin_eql, bin_neq, bin_lss, bin_leq, bin_gtr, bin_geq, un_not, un_neg, pick_true, pick_false, extract_two_0, extract_two_1, nilCheck_pointer, cond_true', cond_false', guard_tt, guard_ff, guard_tf, guard_ft, guard_undef, seqQ_normal, seqQ_ret, seqQ_exit, blockQ_ret, blockQ_normal, blockQ_exit, bodyQ_ret, bodyQ_normal, resK_nil, resK_tmp, ite_T, ite_F, upd_at, add_plain, add_zero', len27, len24, len35, fa26_0, fa26_1, fa26_2, fa33_0, fa33_1, fa184_0, fa184_1, fa124_0, fa124_1, fa200_0, fa200_1, fa200_2, fa200_3, fa274_0, fa274_1, fa274_2, Nat.reduceEqDiff]
  by_cases hlq : q < gm.rules.length
  case neg =>
    simp only [show ¬ ((q : Int) < gm.rules.length) from by omega, decide_false, bin_add, bin_sub, bin_mul, bin_eql, bin_neq, bin_lss, bin_leq, bin_gtr, bin_geq, un_not, un_neg, pick_true, pick_false, extract_two_0, extract_two_1, nilCheck_pointer, cond_true', cond_false', guard_tt, guard_ff, guard_tf, guard_ft, guard_undef, seqQ_normal, seqQ_ret, seqQ_exit, blockQ_ret, blockQ_normal, blockQ_exit, bodyQ_ret, bodyQ_normal, resK_nil, resK_tmp, ite_T, ite_F, upd_at, add_plain, add_zero', len27, len24, len35, fa26_0, fa26_1, fa26_2, fa33_0, fa33_1, fa184_0, fa184_1, fa124_0, fa124_1, fa200_0, fa200_1, fa200_2, fa200_3, fa274_0, fa274_1, fa274_2, Nat.reduceEqDiff]
    obtain rfl : q = gm.rules.length := by omega
    obtain ⟨hS', hdrop⟩ := passG_drop hO (s := (T, false)) hS
    refine hN2 (passG (candI gm.rules ws) gm.rules (ws.length + 1) (T, false)) _ _ ⟨fixSt_next hst, hS', h9', H⟩ ?_
    rw [if_pos rfl]
    rcases hdrop with he | ⟨h1, h2⟩
    · rw [he, if_neg Bool.false_ne_true]
      omega
    · rw [if_pos h1]
      dsimp only at h2 ⊢
      omega
  simp only [show ((q : Int) < gm.rules.length) from by omega, decide_true, bin_add, bin_sub, bin_mul, bin_eql, bin_neq, bin_lss, bin_leq, bin_gtr, bin_geq, un_not, un_neg, pick_true, pick_false, extract_two_0, extract_two_1, nilCheck_pointer, cond_true', cond_false', guard_tt, guard_ff, guard_tf, guard_ft, guard_undef, seqQ_normal, seqQ_ret, seqQ_exit, blockQ_ret, blockQ_normal, blockQ_exit, bodyQ_ret, bodyQ_normal, resK_nil, resK_tmp, ite_T, ite_F, upd_at, add_plain, add_zero', len27, len24, len35, fa26_0, fa26_1, fa26_2, fa33_0, fa33_1, fa184_0, fa184_1, fa124_0, fa124_1, fa200_0, fa200_1, fa200_2, fa200_3, fa274_0, fa274_1, fa274_2, Nat.reduceEqDiff]
  obtain ⟨Z, cz, t1, t2, t3, t4⟩ := hy.row q hlq
  have hleft := good_left hg hlq
  have hright := good_right hg hlq
  have hR4 := good_rule hg q hlq
  obtain ⟨xl, hxl⟩ : ∃ x : Nat, (rul gm.rules q).1 = x := ⟨(rul gm.rules q).1.toNat, by omega⟩
  rw [hxl] at t1 hleft
  refine rdi (ixn24 hy.ptr hlq) ?_
  rw [ld_agg agg33 sz33 (cs := [.int .i64 xl, .slice Z (rul gm.rules q).2.length cz]) rfl (fun j hj => by
    match j, hj with
    | 0, _ => rw [add_add, Nat.add_zero]; exact H.gr.cell t1
    | 1, _ => rw [add_add]; exact H.gr.cell t2)]
  refine allocH H inf33 fun b3 w8 H => ?_
  refine storeH H 2 rfl sz33 rfl rfl rfl fun w9 H => ?_
  simp only [List.nil_append, List.cons_append, List.set_cons_zero, List.set_cons_succ] at H
  generalize hN' : ws.length + 1 = n at *
  have hNi : ((ws.length : Int) + 1) = (n : Int) := by omega
  rw [hNi, i64_of (n := (n : Int)) (by omega) (by omega)]
  have hS0 := small_rules hO (s := (T, false)) hS hq
  generalize hs0 : (List.range q).foldl (ruleG (candI gm.rules ws) gm.rules n) (T, false) = s0 at *
  refine loop_to n 0 (fun a f w' => a ≤ n ∧ f 51 = .int .i64 a ∧ f 9 = .bool ((List.range a).foldl (rowG (candI gm.rules ws) gm.rules n q) s0).2 ∧ Apt w w' [bx b1 [.int .i64 gm.nons, .int .i64 gm.toks, .slice Y gm.rules.length cy] 26, bx b2 (.slice X ws.length cx :: cellsE 9 ((List.range a).foldl (rowG (candI gm.rules ws) gm.rules n q) s0).1) 184, bx b3 [.int .i64 xl, .slice Z (rul gm.rules q).2.length cz] 33])
    ⟨Nat.zero_le _, rfl, h9', H⟩ ?_
  clear H
  rintro a g2 w10 N4 hag4 ⟨ha, h51, h9a, H⟩ hN4
  have k50 : g2 50 = .int .i64 n := hag4 50 (by decide)
  have k5 : g2 5 = ptrv b2 := (hag4 5 (by decide)).trans e5
  have k1 : g2 1 = .slice X ws.length cx := (hag4 1 (by decide)).trans e1
  have k11 : g2 11 = ptrv b3 := hag4 11 (by decide)
  have k44 : g2 44 = .int .i64 q := (hag4 44 (by decide)).trans h44
  simp only [k50, h51, k44, bin_add, bin_sub, bin_mul, bin_eql, bin_neq, bin_lss, bin_leq, bin_gtr, bin_geq, un_not, un_neg, pick_true, pick_false, extract_two_0, extract_two_1, nilCheck_pointer, cond_true', cond_false', guard_tt, guard_ff, guard_tf, guard_ft, guard_undef, seqQ_normal, seqQ_ret, seqQ_exit, blockQ_ret, blockQ_normal, blockQ_exit, bodyQ_ret, bodyQ_normal, resK_nil, resK_tmp, ite_T, ite_F, upd_at, add_plain, add_zero', len27, len24, len35, fa26_0, fa26_1, fa26_2, fa33_0, fa33_1, fa184_0, fa184_1, fa124_0, fa124_1, fa200_0, fa200_1, fa200_2, fa200_3, fa274_0, fa274_1, fa274_2, Nat.reduceEqDiff]
  by_cases hla : a < n
  case neg =>
    simp only [show ¬ ((a : Int) < n) from by omega, decide_false, bin_add, bin_sub, bin_mul, bin_eql, bin_neq, bin_lss, bin_leq, bin_gtr, bin_geq, un_not, un_neg, pick_true, pick_false, extract_two_0, extract_two_1, nilCheck_pointer, cond_true', cond_false', guard_tt, guard_ff, guard_tf, guard_ft, guard_undef, seqQ_normal, seqQ_ret, seqQ_exit, blockQ_ret, blockQ_normal, blockQ_exit, bodyQ_ret, bodyQ_normal, resK_nil, resK_tmp, ite_T, ite_F, upd_at, add_plain, add_zero', len27, len24, len35, fa26_0, fa26_1, fa26_2, fa33_0, fa33_1, fa184_0, fa184_1, fa124_0, fa124_1, fa200_0, fa200_1, fa200_2, fa200_3, fa274_0, fa274_1, fa274_2, Nat.reduceEqDiff]
    rw [i64_of (by omega) (by omega)]
    have han : a = n := by omega
    rw [han] at h9a H
    have hstep : (List.range (q + 1)).foldl (ruleG (candI gm.rules ws) gm.rules n) (T, false) = (List.range n).foldl (rowG (candI gm.rules ws) gm.rules n q) s0 := by
      rw [foldl_range, hs0]
      rfl
    refine hN3 _ _ hlq ⟨hlq, rfl, ?_, ?_⟩
    · rw [hstep]
      exact h9a
    · rw [hstep]
      exact H.take 2
  simp only [show ((a : Int) < n) from by omega, decide_true, bin_add, bin_sub, bin_mul, bin_eql, bin_neq, bin_lss, bin_leq, bin_gtr, bin_geq, un_not, un_neg, pick_true, pick_false, extract_two_0, extract_two_1, nilCheck_pointer, cond_true', cond_false', guard_tt, guard_ff, guard_tf, guard_ft, guard_undef, seqQ_normal, seqQ_ret, seqQ_exit, blockQ_ret, blockQ_normal, blockQ_exit, bodyQ_ret, bodyQ_normal, resK_nil, resK_tmp, ite_T, ite_F, upd_at, add_plain, add_zero', len27, len24, len35, fa26_0, fa26_1, fa26_2, fa33_0, fa33_1, fa184_0, fa184_1, fa124_0, fa124_1, fa200_0, fa200_1, fa200_2, fa200_3, fa274_0, fa274_1, fa274_2, Nat.reduceEqDiff]
  have hS1 := small_rows hO hS0 (a := a) hlq
  generalize hs1 : (List.range a).foldl (rowG (candI gm.rules ws) gm.rules n q) s0 = s1 at *
  refine loop_to n a (fun b f w' => a ≤ b ∧ b ≤ n ∧ f 13 = .int .i64 b ∧ f 9 = .bool ((List.range' a (b - a)).foldl (Sh.stepG (candI gm.rules ws) gm.rules q a) s1).2 ∧ Apt w w' [bx b1 [.int .i64 gm.nons, .int .i64 gm.toks, .slice Y gm.rules.length cy] 26, bx b2 (.slice X ws.length cx :: cellsE 9 ((List.range' a (b - a)).foldl (Sh.stepG (candI gm.rules ws) gm.rules q a) s1).1) 184, bx b3 [.int .i64 xl, .slice Z (rul gm.rules q).2.length cz] 33])
    ⟨Nat.le_refl _, by omega, rfl, by rw [Nat.sub_self]; exact h9a, by rw [Nat.sub_self]; exact H⟩ ?_
  clear H
  rintro b g3 w11 N5 hag5 ⟨hb1, hb2, h13, h9b, H⟩ hN5
  have m5 : g3 5 = ptrv b2 := (hag5 5 (by decide)).trans k5
  have m1 : g3 1 = .slice X ws.length cx := (hag5 1 (by decide)).trans k1
  have m11 : g3 11 = ptrv b3 := (hag5 11 (by decide)).trans k11
  have m12 : g3 12 = .int .i64 a := hag5 12 (by decide)
  have m51 : g3 51 = .int .i64 a := (hag5 51 (by decide)).trans h51
  simp only [m5, m1, m11, m12, m51, h13, bin_add, bin_sub, bin_mul, bin_eql, bin_neq, bin_lss, bin_leq, bin_gtr, bin_geq, un_not, un_neg, pick_true, pick_false, extract_two_0, extract_two_1, nilCheck_pointer, cond_true', cond_false', guard_tt, guard_ff, guard_tf, guard_ft, guard_undef, seqQ_normal, seqQ_ret, seqQ_exit, blockQ_ret, blockQ_normal, blockQ_exit, bodyQ_ret, bodyQ_normal, resK_nil, resK_tmp, ite_T, ite_F, upd_at, add_plain, add_zero', len27, len24, len35, fa26_0, fa26_1, fa26_2, fa33_0, fa33_1, fa184_0, fa184_1, fa124_0, fa124_1, fa200_0, fa200_1, fa200_2, fa200_3, fa274_0, fa274_1, fa274_2, Nat.reduceEqDiff]
  by_cases hlb : b < n
  case neg =>
    simp only [show ¬ ((b : Int) ≤ ws.length) from by omega, decide_false, bin_add, bin_sub, bin_mul, bin_eql, bin_neq, bin_lss, bin_leq, bin_gtr, bin_geq, un_not, un_neg, pick_true, pick_false, extract_two_0, extract_two_1, nilCheck_pointer, cond_true', cond_false', guard_tt, guard_ff, guard_tf, guard_ft, guard_undef, seqQ_normal, seqQ_ret, seqQ_exit, blockQ_ret, blockQ_normal, blockQ_exit, bodyQ_ret, bodyQ_normal, resK_nil, resK_tmp, ite_T, ite_F, upd_at, add_plain, add_zero', len27, len24, len35, fa26_0, fa26_1, fa26_2, fa33_0, fa33_1, fa184_0, fa184_1, fa124_0, fa124_1, fa200_0, fa200_1, fa200_2, fa200_3, fa274_0, fa274_1, fa274_2, Nat.reduceEqDiff]
    rw [i64_of (by omega) (by omega)]
    have hbn : b = n := by omega
    rw [hbn] at h9b H
    have hstep : (List.range (a + 1)).foldl (rowG (candI gm.rules ws) gm.rules n q) s0 = (List.range' a (n - a)).foldl (Sh.stepG (candI gm.rules ws) gm.rules q a) s1 := by
      rw [foldl_range, hs1]
      rfl
    refine hN4 _ _ hla ⟨hla, rfl, ?_, ?_⟩
    · rw [hstep]
      exact h9b
    · rw [hstep]
      exact H
  simp only [show ((b : Int) ≤ ws.length) from by omega, decide_true, bin_add, bin_sub, bin_mul, bin_eql, bin_neq, bin_lss, bin_leq, bin_gtr, bin_geq, un_not, un_neg, pick_true, pick_false, extract_two_0, extract_two_1, nilCheck_pointer, cond_true', cond_false', guard_tt, guard_ff, guard_tf, guard_ft, guard_undef, seqQ_normal, seqQ_ret, seqQ_exit, blockQ_ret, blockQ_normal, blockQ_exit, bodyQ_ret, bodyQ_normal, resK_nil, resK_tmp, ite_T, ite_F, upd_at, add_plain, add_zero', len27, len24, len35, fa26_0, fa26_1, fa26_2, fa33_0, fa33_1, fa184_0, fa184_1, fa124_0, fa124_1, fa200_0, fa200_1, fa200_2, fa200_3, fa274_0, fa274_1, fa274_2, Nat.reduceEqDiff]
  have hstep : (List.range' a (b + 1 - a)).foldl (Sh.stepG (candI gm.rules ws) gm.rules q a) s1 = Sh.stepG (candI gm.rules ws) gm.rules q a ((List.range' a (b - a)).foldl (Sh.stepG (candI gm.rules ws) gm.rules q a) s1) b := by
    rw [show b + 1 - a = b - a + 1 from by omega, foldl_range', show a + (b - a) = b from by omega]
  have hS2 := small_steps hO hS1 (a := a) hlq hb2
  generalize hs2 : (List.range' a (b - a)).foldl (Sh.stepG (candI gm.rules ws) gm.rules q a) s1 = s2 at *
  have hxn : xl < 6 := by omega
  refine join_as (fun g w' => g 13 = .int .i64 (b : Int) ∧ g 9 = .bool (Sh.stepG (candI gm.rules ws) gm.rules q a s2 b).2 ∧ Apt w w' [bx b1 [.int .i64 gm.nons, .int .i64 gm.toks, .slice Y gm.rules.length cy] 26, bx b2 (.slice X ws.length cx :: cellsE 9 (Sh.stepG (candI gm.rules ws) gm.rules q a s2 b).1) 184, bx b3 [.int .i64 xl, .slice Z (rul gm.rules q).2.length cz] 33]) (fun K hK => ?_) ?_
  case refine_2 =>
    rintro g w' ⟨g13, g9, H⟩
    simp only [g13, go_sem, Nat.reduceEqDiff]
    rw [i64_of (by omega) (by omega)]
    refine hN5 _ _ hlb ⟨by omega, hlb, rfl, ?_, ?_⟩
    · rw [hstep]
      exact g9
    · rw [hstep]
      exact H
  rw [ldB27 (H.box 2 rfl) rfl]
  have hcd : candI gm.rules ws s2.1 q a b = rowI ws s2.1 (rul gm.rules q).2 a b := rfl
  refine mendRest_c hl (rul gm.rules q).2 (H.box 1 rfl) hS2 (hX.gr H.gr) hcx (t4.is.gr H.gr) t3 hR4 (fun x hx => by have := hright x hx; omega) hb1 (by omega) fun w12 g12 => ?_
  have H := (H.step g12).drew
  rw [← hcd]
  rw [ldB3 (H.box 2 rfl) rfl]
  simp only [bin_add, bin_sub, bin_mul, bin_eql, bin_neq, bin_lss, bin_leq, bin_gtr, bin_geq, un_not, un_neg, pick_true, pick_false, extract_two_0, extract_two_1, nilCheck_pointer, cond_true', cond_false', guard_tt, guard_ff, guard_tf, guard_ft, guard_undef, seqQ_normal, seqQ_ret, seqQ_exit, blockQ_ret, blockQ_normal, blockQ_exit, bodyQ_ret, bodyQ_normal, resK_nil, resK_tmp, ite_T, ite_F, upd_at, add_plain, add_zero', len27, len24, len35, fa26_0, fa26_1, fa26_2, fa33_0, fa33_1, fa184_0, fa184_1, fa124_0, fa124_1, fa200_0, fa200_1, fa200_2, fa200_3, fa274_0, fa274_1, fa274_2, Nat.reduceEqDiff]
  rw [ixa182 (by omega) (by omega), ixa181 (by omega) (by omega), ixa180 (by omega) (by omega)]
  simp only [Int.toNat_natCast, bin_add, bin_sub, bin_mul, bin_eql, bin_neq, bin_lss, bin_leq, bin_gtr, bin_geq, un_not, un_neg, pick_true, pick_false, extract_two_0, extract_two_1, nilCheck_pointer, cond_true', cond_false', guard_tt, guard_ff, guard_tf, guard_ft, guard_undef, seqQ_normal, seqQ_ret, seqQ_exit, blockQ_ret, blockQ_normal, blockQ_exit, bodyQ_ret, bodyQ_normal, resK_nil, resK_tmp, ite_T, ite_F, upd_at, add_plain, add_zero', len27, len24, len35, fa26_0, fa26_1, fa26_2, fa33_0, fa33_1, fa184_0, fa184_1, fa124_0, fa124_1, fa200_0, fa200_1, fa200_2, fa200_3, fa274_0, fa274_1, fa274_2, Nat.reduceEqDiff]
  have hoff : 0 + 1 + xl * 81 + a * 9 + b = xl * (9 * 9) + (a * 9 + b) + 1 := by omega
  have hcell : (Value.slice X ws.length cx :: cellsE 9 s2.1)[0 + 1 + xl * 81 + a * 9 + b]? = some (.int .i64 (encM (s2.1 xl a b))) := by
    rw [hoff]
    exact cellsE_at hxn (by omega) (by omega)
  have stay : Sh.stepG (candI gm.rules ws) gm.rules q a s2 b = s2 → ∀ f', f' 13 = .int .i64 (b : Int) → f' 9 = .bool s2.2 → K f' w12.drew := fun he f' q13 q9 => hK f' w12.drew ⟨q13, by rw [he]; exact q9, by rw [he]; exact H⟩
  cases hcand : candI gm.rules ws s2.1 q a b with
  | none =>
    simp only [encM_n, show ¬ ((0 : Int) ≤ -1) from by omega, decide_false, bin_add, bin_sub, bin_mul, bin_eql, bin_neq, bin_lss, bin_leq, bin_gtr, bin_geq, un_not, un_neg, pick_true, pick_false, extract_two_0, extract_two_1, nilCheck_pointer, cond_true', cond_false', guard_tt, guard_ff, guard_tf, guard_ft, guard_undef, seqQ_normal, seqQ_ret, seqQ_exit, blockQ_ret, blockQ_normal, blockQ_exit, bodyQ_ret, bodyQ_normal, resK_nil, resK_tmp, ite_T, ite_F, upd_at, add_plain, add_zero', len27, len24, len35, fa26_0, fa26_1, fa26_2, fa33_0, fa33_1, fa184_0, fa184_1, fa124_0, fa124_1, fa200_0, fa200_1, fa200_2, fa200_3, fa274_0, fa274_1, fa274_2, Nat.reduceEqDiff]
    exact stay (stepG_none hcand) _ h13 h9b
  | some m =>
    simp only [encM_s, show ((0 : Int) ≤ (m : Int)) from by omega, decide_true, bin_add, bin_sub, bin_mul, bin_eql, bin_neq, bin_lss, bin_leq, bin_gtr, bin_geq, un_not, un_neg, pick_true, pick_false, extract_two_0, extract_two_1, nilCheck_pointer, cond_true', cond_false', guard_tt, guard_ff, guard_tf, guard_ft, guard_undef, seqQ_normal, seqQ_ret, seqQ_exit, blockQ_ret, blockQ_normal, blockQ_exit, bodyQ_ret, bodyQ_normal, resK_nil, resK_tmp, ite_T, ite_F, upd_at, add_plain, add_zero', len27, len24, len35, fa26_0, fa26_1, fa26_2, fa33_0, fa33_1, fa184_0, fa184_1, fa124_0, fa124_1, fa200_0, fa200_1, fa200_2, fa200_3, fa274_0, fa274_1, fa274_2, Nat.reduceEqDiff]
    rw [ldB3 (H.box 1 rfl) hcell]
    have put : better m (s2.1 xl a b) = true → ∀ (f' : Sh.F) (w' : World), f' 13 = .int .i64 (b : Int) → f' 9 = .bool true → Apt w w' [bx b1 [.int .i64 gm.nons, .int .i64 gm.toks, .slice Y gm.rules.length cy] 26, bx b2 (List.take (0 + 1 + xl * 81 + a * 9 + b) (Value.slice X ws.length cx :: cellsE 9 s2.1) ++ (Value.int .i64 (m : Int)).cells.toList ++ List.drop (0 + 1 + xl * 81 + a * 9 + b + 1) (Value.slice X ws.length cx :: cellsE 9 s2.1)) 184, bx b3 [.int .i64 xl, .slice Z (rul gm.rules q).2.length cz] 33] → K f' w' := fun hb f' w' q13 q9 H' => by
      have he := stepG_put (rs := gm.rules) hcand (by rw [hxl, Int.toNat_natCast]; exact hb)
      rw [hxl, Int.toNat_natCast] at he
      rw [show (Value.int .i64 (m : Int)).cells.toList = [.int .i64 (m : Int)] from rfl, take_put_drop (by rw [List.length_cons, cellsE_length]; omega), hoff, List.set_cons_succ, cellsE_put hxn (by omega) (by omega)] at H'
      exact hK f' w' ⟨q13, by rw [he]; exact q9, by rw [he]; exact H'⟩
    have dont : ¬ better m (s2.1 xl a b) = true → Sh.stepG (candI gm.rules ws) gm.rules q a s2 b = s2 := fun hb => stepG_stay hcand (by rw [hxl, Int.toNat_natCast]; exact hb)
    cases ho : s2.1 xl a b with
    | none =>
      simp only [encM_n, show ((-1 : Int) < 0) from by omega, decide_true, bin_add, bin_sub, bin_mul, bin_eql, bin_neq, bin_lss, bin_leq, bin_gtr, bin_geq, un_not, un_neg, pick_true, pick_false, extract_two_0, extract_two_1, nilCheck_pointer, cond_true', cond_false', guard_tt, guard_ff, guard_tf, guard_ft, guard_undef, seqQ_normal, seqQ_ret, seqQ_exit, blockQ_ret, blockQ_normal, blockQ_exit, bodyQ_ret, bodyQ_normal, resK_nil, resK_tmp, ite_T, ite_F, upd_at, add_plain, add_zero', len27, len24, len35, fa26_0, fa26_1, fa26_2, fa33_0, fa33_1, fa184_0, fa184_1, fa124_0, fa124_1, fa200_0, fa200_1, fa200_2, fa200_3, fa274_0, fa274_1, fa274_2, Nat.reduceEqDiff]
      refine storeH H 1 rfl sz3 rfl rfl (by rw [Nat.ble_eq, List.length_cons, cellsE_length]; omega) fun w13 H => ?_
      simp only [List.set_cons_zero, List.set_cons_succ] at H
      exact put (by rw [ho]; rfl) _ _ h13 rfl H
    | some o =>
      rw [ho] at hcell
      simp only [encM_s, show ¬ ((o : Int) < 0) from by omega, decide_false, bin_add, bin_sub, bin_mul, bin_eql, bin_neq, bin_lss, bin_leq, bin_gtr, bin_geq, un_not, un_neg, pick_true, pick_false, extract_two_0, extract_two_1, nilCheck_pointer, cond_true', cond_false', guard_tt, guard_ff, guard_tf, guard_ft, guard_undef, seqQ_normal, seqQ_ret, seqQ_exit, blockQ_ret, blockQ_normal, blockQ_exit, bodyQ_ret, bodyQ_normal, resK_nil, resK_tmp, ite_T, ite_F, upd_at, add_plain, add_zero', len27, len24, len35, fa26_0, fa26_1, fa26_2, fa33_0, fa33_1, fa184_0, fa184_1, fa124_0, fa124_1, fa200_0, fa200_1, fa200_2, fa200_3, fa274_0, fa274_1, fa274_2, Nat.reduceEqDiff]
      rw [ldB3 (H.box 1 rfl) hcell]
      simp only [encM_s, bin_add, bin_sub, bin_mul, bin_eql, bin_neq, bin_lss, bin_leq, bin_gtr, bin_geq, un_not, un_neg, pick_true, pick_false, extract_two_0, extract_two_1, nilCheck_pointer, cond_true', cond_false', guard_tt, guard_ff, guard_tf, guard_ft, guard_undef, seqQ_normal, seqQ_ret, seqQ_exit, blockQ_ret, blockQ_normal, blockQ_exit, bodyQ_ret, bodyQ_normal, resK_nil, resK_tmp, ite_T, ite_F, upd_at, add_plain, add_zero', len27, len24, len35, fa26_0, fa26_1, fa26_2, fa33_0, fa33_1, fa184_0, fa184_1, fa124_0, fa124_1, fa200_0, fa200_1, fa200_2, fa200_3, fa274_0, fa274_1, fa274_2, Nat.reduceEqDiff]
      by_cases hmo : m < o
      · simp only [show ((m : Int) < (o : Int)) from by omega, decide_true, bin_add, bin_sub, bin_mul, bin_eql, bin_neq, bin_lss, bin_leq, bin_gtr, bin_geq, un_not, un_neg, pick_true, pick_false, extract_two_0, extract_two_1, nilCheck_pointer, cond_true', cond_false', guard_tt, guard_ff, guard_tf, guard_ft, guard_undef, seqQ_normal, seqQ_ret, seqQ_exit, blockQ_ret, blockQ_normal, blockQ_exit, bodyQ_ret, bodyQ_normal, resK_nil, resK_tmp, ite_T, ite_F, upd_at, add_plain, add_zero', len27, len24, len35, fa26_0, fa26_1, fa26_2, fa33_0, fa33_1, fa184_0, fa184_1, fa124_0, fa124_1, fa200_0, fa200_1, fa200_2, fa200_3, fa274_0, fa274_1, fa274_2, Nat.reduceEqDiff]
        refine storeH H 1 rfl sz3 rfl rfl (by rw [Nat.ble_eq, List.length_cons, cellsE_length]; omega) fun w13 H => ?_
        simp only [List.set_cons_zero, List.set_cons_succ] at H
        exact put (by rw [ho]; exact decide_eq_true hmo) _ _ h13 rfl H
      · simp only [show ¬ ((m : Int) < (o : Int)) from by omega, decide_false, bin_add, bin_sub, bin_mul, bin_eql, bin_neq, bin_lss, bin_leq, bin_gtr, bin_geq, un_not, un_neg, pick_true, pick_false, extract_two_0, extract_two_1, nilCheck_pointer, cond_true', cond_false', guard_tt, guard_ff, guard_tf, guard_ft, guard_undef, seqQ_normal, seqQ_ret, seqQ_exit, blockQ_ret, blockQ_normal, blockQ_exit, bodyQ_ret, bodyQ_normal, resK_nil, resK_tmp, ite_T, ite_F, upd_at, add_plain, add_zero', len27, len24, len35, fa26_0, fa26_1, fa26_2, fa33_0, fa33_1, fa184_0, fa184_1, fa124_0, fa124_1, fa200_0, fa200_1, fa200_2, fa200_3, fa274_0, fa274_1, fa274_2, Nat.reduceEqDiff]
        exact stay (dont (by rw [ho]; intro h; exact hmo (of_decide_eq_true h))) _ h13 h9b
end Go.Proofs.Ytegcjkhebecgbaa

/- Contracts: LeastMend and MendTable of the reference and of the program. -/
set_option linter.unusedVariables false
set_option linter.unusedSimpArgs false
set_option maxRecDepth 100000
namespace Go.Sh
open Go
theorem FixG.ex {c : CandG} {rs : List RuleL} {n : Nat} (hc : OfferG c rs n) : ∀ (m : Nat) (T : CT), SmallG T → sumG T ≤ m → ∃ U, FixG c rs n T U := by
  intro m
  induction m with
  | zero =>
    intro T hS hT
    rcases (passG_drop hc (s := (T, false)) hS).2 with h | ⟨_, h⟩
    · exact ⟨_, .done (by rw [h])⟩
    · exact absurd h (by dsimp only at h ⊢; omega)
  | succ m ih =>
    intro T hS hT
    obtain ⟨h0, h⟩ := passG_drop hc (s := (T, false)) hS
    rcases h with h | ⟨h1, h2⟩
    · exact ⟨_, .done (by rw [h])⟩
    · obtain ⟨U, hU⟩ := ih (passG c rs n (T, false)).1 h0 (by dsimp only at h2; omega)
      exact ⟨U, .more h1 hU⟩
open Classical in
noncomputable def fixT (c : CandG) (rs : List RuleL) (n : Nat) : CT := if h : ∃ U, FixG c rs n noCT U then Classical.choose h else noCT
theorem FixG.eq {c : CandG} {rs : List RuleL} {n : Nat} {U : CT} (h : FixG c rs n noCT U) : U = fixT c rs n := by
  unfold fixT
  rw [dif_pos ⟨U, h⟩]
  exact h.det (Classical.choose_spec (⟨U, h⟩ : ∃ U, FixG c rs n noCT U))
theorem fixT_fix {c : CandG} {rs : List RuleL} {n : Nat} (hc : OfferG c rs n) : FixG c rs n noCT (fixT c rs n) := by
  obtain ⟨U, hU⟩ := FixG.ex hc (sumG noCT) noCT smallG_none (Nat.le_refl _)
  rw [← hU.eq]
  exact hU
noncomputable def mendT (gm : Gram) (ws : List Int) : CT := fixT (candI gm.rules ws) gm.rules (ws.length + 1)
theorem mendT_spec {gm : Gram} {ws : List Int} {U : CT} (hg : goodG gm = true) (hl : ws.length ≤ 8) (h : FixG (candS gm.rules ws) gm.rules (ws.length + 1) noCT U) : ∀ A i j, i ≤ j → j < ws.length + 1 → U A i j = mendT gm ws A i j :=
  fun A i j hij hj => mend_same (good_rules hg) (by omega) h (fixT_fix (offerI (good_rules hg) (by omega))) hij hj
def mendOk (gm : Gram) (ws : List Int) : Bool := (goodG gm && wordB gm.toks ws) && decide (ws.length ≤ 8)
def foundV : Option Nat → Int × Bool
  | none => (0, false)
  | some n => ((n : Int), true)
noncomputable def leastMendV (gm : Gram) (ws : List Int) : Int × Bool := if mendOk gm ws = true then foundV (mendT gm ws 0 0 ws.length) else (0, false)
noncomputable def mendTableV (gm : Gram) (ws : List Int) : List Int × Bool := if mendOk gm ws = true then (tellT (mendT gm ws) (ws.length + 1) gm.nons.toNat, true) else ([], false)
theorem rd_sliceArr {P : Program} {S : WS} {k : Value → Prop} {t e m : Nat} (ht : P.underlying t = some (.array m e)) (hs : szOf P e 1) {a : Addr} {kd kd' : IntKind} {l h : Int} (h0 : 0 ≤ l) (h1 : l ≤ h) (h2 : h ≤ m) (h3 : l < m) :
    Rd P S (sSlice t (.pointer (some a)) (some (.int kd l)) (some (.int kd' h)) none) k = k (.slice (some (a.add l.toNat)) (h.toNat - l.toNat) (m - l.toNat)) := rd_eq fun w _ => by
  have e1 : (Instr.sliceBounds false m m (some (.int kd l)) (some (.int kd' h)) none).run P w = .ok (l.toNat, h.toNat, m) w := by
    simp only [Instr.sliceBounds, Sem.run_bind, Sem.run_pure, Result.andThen, run_bound (kd := kd') (y := m) (by omega) h2, run_bound (kd := kd) (y := h.toNat) h0 (by omega)]
  have e2 : ¬ m = l.toNat := by omega
  simp only [sSlice, Sem.run_bind]
  unfold Instr.sliceAt
  simp only [Sem.run_bind, run_underlying ht, Result.andThen, e1, run_size hs, Instr.sureAddr, Sem.run_pure, if_neg e2, Nat.mul_one]
theorem cells_ints {w : World} {b e off : Nat} {cs : List Value} {xs : List Int} (hB : Box w b cs e) (hl : xs.length ≤ 1000000) (h : ∀ j, j < xs.length → cs[off + j]? = some (.int .i64 (xs.getD j 0))) : Ints w (some ⟨b, off, none⟩) xs :=
  ⟨by omega, fun _ => rfl, fun j hj => by
    have := hB.cell (off + j)
    rw [h j hj] at this
    by_cases e : j = 0
    · subst e
      exact this
    · show w.cell? ((⟨b, off, none⟩ : Addr).add j) = _
      unfold Addr.add
      rw [if_neg e]
      exact this⟩
end Go.Sh
namespace Go.Proofs.Ytegcjkhebecgbaa
open Go Go.Sh Go.RowKit
theorem l17Word'_c {F : Nat → Prop} {w : World} {v : Value} {gm : Gram} {X : Option Addr} {n cx : Nat} {ws : List Int} (hv : GramV F w v gm) (hX : Ints w X ws) (hn : n = ws.length) {k : Value → World → Prop} (hk : ∀ w', Gr w w' → k (.bool (mendOk gm ws)) w') :
    CallK Try.prog 214 [v, .slice X n cx] k w := by
  subst hn
  obtain ⟨Y, cy, rfl, hc, hy⟩ := hv
  refine enter214 ?_
  unfold S214
  have H := Apt.nil w
  refine boxH H fun b1 w1 H => ?_
  rw [ldB_agg agg26 sz26 rfl (H.box 0 rfl)]
  refine goodWord_c (gm := gm) ⟨Y, cy, rfl, hc, hy.gr H.gr⟩ (hX.gr H.gr) rfl fun w2 g2 => ?_
  have H := H.step g2
  have hk := hk _ H.gr
  unfold mendOk at hk
  cases hgw : goodG gm && wordB gm.toks ws
  · simp only [go_sem, Nat.reduceEqDiff]
    rw [hgw, Bool.false_and] at hk
    exact hk
  · simp only [go_sem, Nat.reduceEqDiff]
    rw [hgw, Bool.true_and] at hk
    by_cases h8 : ws.length ≤ 8
    · rw [decide_eq_true h8] at hk
      rw [decide_eq_true (show (ws.length : Int) ≤ 8 by omega)]
      exact hk
    · rw [decide_eq_false h8] at hk
      rw [decide_eq_false (show ¬ (ws.length : Int) ≤ 8 by omega)]
      exact hk
theorem specLeastMend_c {F : Nat → Prop} {w : World} {v : Value} {gm : Gram} {X : Option Addr} {n cx : Nat} {ws : List Int} (hv : GramV F w v gm) (hX : Ints w X ws) (hn : n = ws.length) (hcx : ws.length ≤ cx) {k : Value → World → Prop}
    (hk : ∀ w', Gr w w' → k (.tuple #[.int .i64 (leastMendV gm ws).1, .bool (leastMendV gm ws).2]) w') :
    CallK Try.prog 99 [v, .slice X n cx] k w := by
  subst hn
  obtain ⟨Y, cy, rfl, hc, hy⟩ := hv
  refine enter99 ?_
  unfold S99
  have H := Apt.nil w
  refine boxH H fun b1 w1 H => ?_
  rw [ldB_agg agg26 sz26 rfl (H.box 0 rfl)]
  refine l17Word'_c (gm := gm) ⟨Y, cy, rfl, hc, hy.gr H.gr⟩ (hX.gr H.gr) rfl fun w2 g2 => ?_
  have H := H.step g2
  unfold leastMendV at hk
  cases hok : mendOk gm ws
  · simp only [Bool.not_false, go_sem, Nat.reduceEqDiff]
    rw [hok, if_neg Bool.false_ne_true] at hk
    exact hk _ H.gr
  simp only [Bool.not_true, go_sem, Nat.reduceEqDiff]
  rw [hok, if_pos rfl] at hk
  simp only [mendOk, Bool.and_eq_true, decide_eq_true_eq] at hok
  have hn6 := good_nons hok.1.1
  rw [ldB_agg agg26 sz26 rfl (H.box 0 rfl)]
  refine l17Table_c (gm := gm) ⟨Y, cy, rfl, hc, hy.gr H.gr⟩ hok.1.1 (hX.gr H.gr) rfl hcx (by omega) fun w3 U c nons T g3 hnn hT hS hF => ?_
  have H := H.step g3
  have hTe := mendT_spec hok.1.1 hok.2 hF 0 0 ws.length (Nat.zero_le _) (by omega)
  obtain ⟨R, c', h1, h2, h3⟩ := hT.row 0 (by omega)
  have h4 := h3 0 ws.length (by omega) (by omega)
  rw [Nat.zero_mul, Nat.zero_add] at h4
  have hnn1 : (ws.length + 1) * 1 ≤ (ws.length + 1) * (ws.length + 1) := Nat.mul_le_mul_left _ (by omega)
  refine rdi (ix35_0 (fun h => hT.ptr h) (by omega)) (rdi (ld27 h1) ?_)
  refine rdi (ixn27 (fun _ => h2) (by omega)) (rdi (ld3 h4) ?_)
  rw [hTe]
  cases ho : mendT gm ws 0 0 ws.length with
  | none =>
    rw [ho] at hk
    simp only [encM_n, show ((-1 : Int) < 0) from by omega, decide_true, go_sem, Nat.reduceEqDiff]
    exact hk _ H.gr
  | some m =>
    rw [ho] at hk
    simp only [encM_s, show ¬ ((m : Int) < 0) from by omega, decide_false, go_sem, Nat.reduceEqDiff]
    exact hk _ H.gr
theorem implLeastMend_c {F : Nat → Prop} {w : World} {v : Value} {gm : Gram} {X : Option Addr} {n cx : Nat} {ws : List Int} (hv : GramV F w v gm) (hX : Ints w X ws) (hn : n = ws.length) (hcx : ws.length ≤ cx) {k : Value → World → Prop}
    (hk : ∀ w', Gr w w' → k (.tuple #[.int .i64 (leastMendV gm ws).1, .bool (leastMendV gm ws).2]) w') :
    CallK Try.prog 98 [v, .slice X n cx] k w := by
  subst hn
  obtain ⟨Y, cy, rfl, hc, hy⟩ := hv
  refine enter98 ?_
  unfold S98
  have H := Apt.nil w
  refine boxH H fun b1 w1 H => ?_
  rw [ldB_agg agg26 sz26 rfl (H.box 0 rfl)]
  refine isGrammar_c (gm := gm) ⟨Y, cy, rfl, hc, hy.gr H.gr⟩ fun w2 g2 => ?_
  have H := H.step g2
  have no : mendOk gm ws = false → ∀ w', Gr w w' → k (.tuple #[.int .i64 0, .bool false]) w' := fun h w' g => by
    have := hk w' g
    unfold leastMendV at this
    rw [h, if_neg Bool.false_ne_true] at this
    exact this
  cases hg : goodG gm
  · simp only [Bool.not_false, go_sem, Nat.reduceEqDiff]
    exact no (by unfold mendOk; rw [hg]; rfl) _ H.gr
  simp only [Bool.not_true, go_sem, Nat.reduceEqDiff]
  have ht := good_toks hg
  rw [ldB3 (H.box 0 rfl) rfl]
  refine isWord_c (hX.gr H.gr) rfl ht.1 ht.2 fun w3 g3 => ?_
  have H := H.step g3
  cases hgw : wordB gm.toks ws
  · simp only [Bool.not_false, go_sem, Nat.reduceEqDiff]
    exact no (by unfold mendOk; rw [hg, hgw]; rfl) _ H.gr
  simp only [Bool.not_true, go_sem, Nat.reduceEqDiff]
  by_cases h8 : ws.length ≤ 8
  case neg =>
    simp only [show ((8 : Int) < ws.length) from by omega, decide_true, go_sem, Nat.reduceEqDiff]
    exact no (by unfold mendOk; rw [hg, hgw, decide_eq_false h8]; rfl) _ H.gr
  simp only [show ¬ ((8 : Int) < ws.length) from by omega, decide_false, go_sem, Nat.reduceEqDiff]
  have hok : mendOk gm ws = true := by unfold mendOk; rw [hg, hgw, decide_eq_true h8]; rfl
  unfold leastMendV at hk
  rw [hok, if_pos rfl] at hk
  rw [ldB_agg agg26 sz26 rfl (H.box 0 rfl)]
  refine mends_c (gm := gm) ⟨Y, cy, rfl, hc, hy.gr H.gr⟩ hg (hX.gr H.gr) rfl hcx h8 fun w4 b T HT hS hF => ?_
  have hTe : T = mendT gm ws := hF.eq
  subst hTe
  have g4 := gr_trans H.gr HT.gr
  have hb := HT.box 0 rfl
  simp only [go_sem, Nat.reduceEqDiff]
  refine rdi (ixa182 (by omega) (by omega)) (rdi (ixa181 (by omega) (by omega)) (rdi (ixa180 (by omega) (by omega)) ?_))
  have hcell := cellsE_at (d := 9) (T := mendT gm ws) (A := 0) (i := 0) (j := ws.length) (by omega) (by omega) (by omega)
  simp only [Nat.zero_mul, Nat.zero_add] at hcell
  simp only [Int.toNat_natCast, Int.toNat_zero, Nat.zero_mul, add_zero', go_sem, Nat.reduceEqDiff]
  rw [ldB3 (off := 0 + 1 + ws.length) hb (by rw [show 0 + 1 + ws.length = ws.length + 1 from by omega]; exact hcell)]
  cases ho : mendT gm ws 0 0 ws.length with
  | none =>
    rw [ho] at hk
    simp only [encM_n, show ((-1 : Int) < 0) from by omega, decide_true, go_sem, Nat.reduceEqDiff]
    exact hk _ g4
  | some m =>
    rw [ho] at hk
    simp only [encM_s, show ¬ ((m : Int) < 0) from by omega, decide_false, go_sem, Nat.reduceEqDiff]
    exact hk _ g4
end Go.Proofs.Ytegcjkhebecgbaa

/- Plain: how few changes make a word one of the language: the table of mending, and the edit distance. -/
set_option linter.unusedVariables false
set_option linter.unusedSimpArgs false
set_option maxRecDepth 100000
namespace Go.Sh
open Go
theorem tokM_cost (ws : List Int) {x : Int} {i j : Nat} (hij : i ≤ j) (hj : j ≤ ws.length) : tokM ws x i j = some (tokCost (cut ws i j) (-1 - x)) := by
  unfold tokM tokCost cut
  have hl : ((ws.drop i).take (j - i)).length = j - i := by simp; omega
  rw [hl]
/-- Each cost is one of a derived word. -/
def SoundM (rs : List RuleL) (ws : List Int) (T : CT) : Prop := ∀ A i j n, i ≤ j → j < ws.length + 1 → T A i j = some n → ∃ v, Yi rs (.inl A) v ∧ Al (cut ws i j) v n
theorem rest_soundM {rs : List RuleL} {ws : List Int} {T : CT} (hT : SoundM rs ws T) : ∀ {xs : List Int} {i j n : Nat}, i ≤ j → j < ws.length + 1 → restG (tokM ws) nlM T xs i j = some n → ∃ v, Yi rs (.inr xs) v ∧ Al (cut ws i j) v n := by
  intro xs
  induction xs with
  | nil =>
    intro i j n hij hj h
    have e : j - i = n := by simpa [restG, nlM] using h
    refine ⟨[], .nil, ?_⟩
    have := al_del (cut ws i j)
    rwa [cut_length hij (by omega), e] at this
  | cons x xs ih =>
    intro i j n hij hj h
    obtain ⟨m, hm, h⟩ := minF_some h
    obtain ⟨a, b, h1, h2, rfl⟩ := addO_some h
    obtain ⟨v, hv, hal⟩ := ih (by omega) hj h2
    rw [cut_append (i := i) (m := i + m) (j := j) (by omega) (by omega) (by omega)]
    unfold oneG at h1
    by_cases hx : x < 0
    · rw [if_pos hx, tokM_cost ws (by omega) (by omega)] at h1
      have e := Option.some.inj h1
      have := al_append (al_tok (cut ws i (i + m)) (-1 - x)) hal
      rw [e] at this
      exact ⟨_, .tok hx hv, this⟩
    · rw [if_neg hx] at h1
      obtain ⟨u, hu, hal1⟩ := hT _ _ _ _ (by omega) (by omega) h1
      exact ⟨_, .non hx hu hv, al_append hal1 hal⟩
theorem fix_soundM {rs : List RuleL} {ws : List Int} {U : CT} (h0 : ∀ r ∈ rs, 0 ≤ r.1) (h : FixG (candS rs ws) rs (ws.length + 1) noCT U) : SoundM rs ws U := by
  refine FixG.keep (I := SoundM rs ws) (fun T q i j m hq hij hj hT hc _ => ?_) h (fun A i j n _ _ h => by cases h)
  intro A a b n hab hb hn
  unfold CT.put at hn
  split at hn
  · rename_i e
    obtain ⟨rfl, rfl, rfl⟩ := e
    have e := Option.some.inj hn
    subst e
    obtain ⟨v, hv, hal⟩ := rest_soundM hT hij hj hc
    have hr : rul rs q ∈ rs := by rw [rul_eq hq]; exact List.getElem_mem hq
    have := h0 _ hr
    exact ⟨v, .rule hr (by omega) hv, hal⟩
  · exact hT A a b n hab hb hn
theorem cut_of_append {ws : List Int} {i j : Nat} {a b : List Int} (hij : i ≤ j) (hj : j ≤ ws.length) (h : cut ws i j = a ++ b) : i + a.length ≤ j ∧ cut ws i (i + a.length) = a ∧ cut ws (i + a.length) j = b := by
  have hl : a.length + b.length = j - i := by rw [← List.length_append, ← h, cut_length hij hj]
  have hc := cut_append (ws := ws) (i := i) (m := i + a.length) (j := j) (by omega) (by omega) hj
  rw [h] at hc
  have hla : (cut ws i (i + a.length)).length = a.length := by rw [cut_length (by omega) (by omega)]; omega
  have := List.append_inj hc hla.symm
  exact ⟨by omega, this.1.symm, this.2.symm⟩
/-- Each derived word costs as told, or less. -/
theorem fix_completeM {rs : List RuleL} {ws : List Int} {U : CT} (hr : ∀ q, q < rs.length → (rul rs q).1.toNat < 6 ∧ (rul rs q).2.length ≤ 4) (hl : ws.length ≤ 10) (h : FixG (candS rs ws) rs (ws.length + 1) noCT U) {c : Nat ⊕ List Int} {v : List Int} (hv : Yi rs c v) :
    ∀ i j n, i ≤ j → j ≤ ws.length → Al (cut ws i j) v n → ∃ m, m ≤ n ∧ (match c with | .inl A => U A i j = some m | .inr xs => restG (tokM ws) nlM U xs i j = some m) := by
  have oS := offerS (ws := ws) (n := ws.length + 1) hr (by omega)
  have sU := h.small oS smallG_none
  have hcl := h.closed oS smallG_none
  induction hv with
  | @rule A r u h1 h2 _ ih =>
    intro i j n hij hj hal
    obtain ⟨m, hm, hc⟩ := ih i j n hij hj hal
    obtain ⟨q, hq, rfl⟩ := List.getElem_of_mem h1
    have e : rul rs q = rs[q] := rul_eq hq
    obtain ⟨o, ho, hle⟩ := passG_closed oS sU hcl (q := q) (i := i) (j := j) (m := m) hq hij (by omega) (by unfold candS; rw [e]; exact hc)
    rw [e, h2, Int.toNat_natCast] at ho
    exact ⟨o, by omega, ho⟩
  | nil =>
    intro i j n hij hj hal
    have := al_nil hal rfl
    rw [cut_length hij hj] at this
    exact ⟨j - i, by omega, rfl⟩
  | @tok x xs u hx _ ih =>
    intro i j n hij hj hal
    obtain ⟨w1, w2, n1, n2, e, a1, a2, rfl⟩ := al_split hal [-1 - x] u rfl
    obtain ⟨hb, c1, c2⟩ := cut_of_append hij hj e
    rw [← c2] at a2
    obtain ⟨m, hm, hc⟩ := ih (i + w1.length) j n2 hb hj a2
    have ht := al_tok_le a1 _ rfl
    have hone : oneG (tokM ws) U x i (i + w1.length) = some (tokCost w1 (-1 - x)) := by
      unfold oneG
      rw [if_pos hx, tokM_cost ws (by omega) (by omega), c1]
    obtain ⟨k, hk, hle⟩ := minF_le (f := fun m => addO (oneG (tokM ws) U x i (i + m)) (restG (tokM ws) nlM U xs (i + m) j)) (k := j + 1 - i) (m := w1.length) (by omega) (addO_of hone hc)
    exact ⟨k, by omega, hk⟩
  | @non x xs u z hx _ _ ih1 ih2 =>
    intro i j n hij hj hal
    obtain ⟨w1, w2, n1, n2, e, a1, a2, rfl⟩ := al_split hal u z rfl
    obtain ⟨hb, c1, c2⟩ := cut_of_append hij hj e
    rw [← c1] at a1
    rw [← c2] at a2
    obtain ⟨m1, hm1, hc1⟩ := ih1 i (i + w1.length) n1 (by omega) (by omega) a1
    obtain ⟨m2, hm2, hc2⟩ := ih2 (i + w1.length) j n2 hb hj a2
    have hone : oneG (tokM ws) U x i (i + w1.length) = some m1 := by
      unfold oneG
      rw [if_neg hx]
      exact hc1
    obtain ⟨k, hk, hle⟩ := minF_le (f := fun m => addO (oneG (tokM ws) U x i (i + m)) (restG (tokM ws) nlM U xs (i + m) j)) (k := j + 1 - i) (m := w1.length) (by omega) (addO_of hone hc2)
    exact ⟨k, by omega, hk⟩
/-- The least cost of a word of the language. -/
theorem mendT_sound {gm : Gram} {ws : List Int} {n : Nat} (hg : goodG gm = true) (hl : ws.length ≤ 8) (h : mendT gm ws 0 0 ws.length = some n) : ∃ v, Yi gm.rules (.inl 0) v ∧ Al ws v n := by
  have hfix := fixT_fix (offerS (ws := ws) (n := ws.length + 1) (good_rules hg) (by omega))
  have e := mendT_spec hg hl hfix 0 0 ws.length (Nat.zero_le _) (by omega)
  obtain ⟨v, hv, hal⟩ := fix_soundM (good_lefts hg) hfix 0 0 ws.length n (Nat.zero_le _) (by omega) (by rw [e]; exact h)
  rw [cut_all] at hal
  exact ⟨v, hv, hal⟩
theorem mendT_le {gm : Gram} {ws v : List Int} {n : Nat} (hg : goodG gm = true) (hl : ws.length ≤ 8) (hv : Yi gm.rules (.inl 0) v) (hal : Al ws v n) : ∃ m, m ≤ n ∧ mendT gm ws 0 0 ws.length = some m := by
  have hfix := fixT_fix (offerS (ws := ws) (n := ws.length + 1) (good_rules hg) (by omega))
  obtain ⟨m, hm, hU⟩ := fix_completeM (good_rules hg) (by omega) hfix hv 0 ws.length n (Nat.zero_le _) (Nat.le_refl _) (by rw [cut_all]; exact hal)
  exact ⟨m, hm, by rw [← mendT_spec hg hl hfix 0 0 ws.length (Nat.zero_le _) (by omega)]; exact hU⟩
end Go.Sh

/- Cc: bodies of functions as terms of the frame calculus, printed by shgen.py of this repository. -/
set_option linter.unusedVariables false
set_option maxRecDepth 100000
namespace Go.Proofs.Ytegcjkhebecgbaa
open Go Go.Sh

/-! loop.example/g00758/spec.l1Has -/
/-! loop.example/g00758/spec.l1Put -/
/-! loop.example/g00758/spec.l3Close -/
/-! loop.example/g00758/spec.l3Reached -/
/-! loop.example/g00758/spec.l3Useful -/
/-! loop.example/g00758/spec.l3Growing -/
/-! loop.example/g00758/spec.UsefulOf -/
/-! loop.example/g00758/spec.DrawIsUseful -/
/-! loop.example/g00758/spec.IsUseful -/
/-! loop.example/g00758/spec.NullableOf -/
/-! loop.example/g00758/spec.ProductiveOf -/
/-! loop.example/g00758/spec.ReachedOf -/
/-! loop.example/g00758/spec.GrowingOf -/
/-! loop.example/g00758/spec.LeastLong -/
/-! loop.example/g00758/spec.DrawGoodGrammar -/
/-! loop.example/g00758/spec.DrawIsFinite -/
/-! loop.example/g00758/spec.DrawLeastLong -/
/-! loop.example/g00758/spec.DrawLongEnough -/
/-! loop.example/g00758/spec.DrawStarOf -/
/-! loop.example/g00758/spec.DrawSizeOf -/
end Go.Proofs.Ytegcjkhebecgbaa

/- Contracts: l1Has, l1Put; rising lists as sets. -/
set_option linter.unusedVariables false
set_option linter.unusedSimpArgs false
set_option maxRecDepth 100000
namespace Go.Sh
open Go
/-- A number comes to its place, once. -/
def putL (n : Int) : List Int → List Int
  | [] => [n]
  | x :: xs => if x < n then x :: putL n xs else if x = n then x :: xs else n :: x :: xs
abbrev RiseI (xs : List Int) : Prop := xs.Pairwise fun a b => a < b
theorem rise_cons {x : Int} {xs : List Int} : RiseI (x :: xs) ↔ (∀ b ∈ xs, x < b) ∧ RiseI xs := List.pairwise_cons
theorem putL_mem {n m : Int} : ∀ {xs : List Int}, m ∈ putL n xs ↔ m = n ∨ m ∈ xs := by
  intro xs
  induction xs with
  | nil => simp [putL]
  | cons x xs ih =>
    unfold putL
    split
    · rw [List.mem_cons, ih, List.mem_cons]
      constructor
      · rintro (h | h | h)
        · exact .inr (.inl h)
        · exact .inl h
        · exact .inr (.inr h)
      · rintro (h | h | h)
        · exact .inr (.inl h)
        · exact .inl h
        · exact .inr (.inr h)
    · split
      · rename_i h
        subst h
        rw [List.mem_cons]
        constructor
        · exact fun h => .inr h
        · rintro (h | h)
          · exact .inl h
          · exact h
      · rw [List.mem_cons]
theorem putL_rise {n : Int} : ∀ {xs : List Int}, RiseI xs → RiseI (putL n xs) := by
  intro xs
  induction xs with
  | nil => intro _; simp [putL]
  | cons x xs ih =>
    intro h
    rw [rise_cons] at h
    unfold putL
    split
    · rename_i hx
      rw [rise_cons]
      refine ⟨fun b hb => ?_, ih h.2⟩
      rcases putL_mem.1 hb with rfl | hb
      · exact hx
      · exact h.1 b hb
    · split
      · rw [rise_cons]
        exact h
      · rw [rise_cons, rise_cons]
        refine ⟨fun b hb => ?_, h⟩
        rcases List.mem_cons.1 hb with rfl | hb
        · omega
        · have := h.1 b hb
          omega
/-- Rising lists with the same members are the same. -/
theorem rise_ext : ∀ {xs ys : List Int}, RiseI xs → RiseI ys → (∀ m, m ∈ xs ↔ m ∈ ys) → xs = ys := by
  intro xs
  induction xs with
  | nil =>
    intro ys _ _ h
    cases ys with
    | nil => rfl
    | cons y ys => exact absurd ((h y).2 (List.mem_cons_self ..)) (by simp)
  | cons x xs ih =>
    intro ys hx hy h
    rw [rise_cons] at hx
    cases ys with
    | nil => exact absurd ((h x).1 (List.mem_cons_self ..)) (by simp)
    | cons y ys =>
      rw [rise_cons] at hy
      have e : x = y := by
        have h1 := (h x).1 (List.mem_cons_self ..)
        have h2 := (h y).2 (List.mem_cons_self ..)
        rcases List.mem_cons.1 h1 with e | h1
        · exact e
        · rcases List.mem_cons.1 h2 with e | h2
          · exact e.symm
          · have := hy.1 x h1
            have := hx.1 y h2
            omega
      subst e
      congr 1
      refine ih hx.2 hy.2 fun m => ?_
      have hm := h m
      rw [List.mem_cons, List.mem_cons] at hm
      constructor
      · intro h1
        rcases hm.1 (.inr h1) with rfl | h2
        · exact absurd (hx.1 m h1) (by omega)
        · exact h2
      · intro h1
        rcases hm.2 (.inr h1) with rfl | h2
        · exact absurd (hy.1 m h1) (by omega)
        · exact h2
open Classical in
/-- The numbers below n for which something holds. -/
noncomputable def setL (n : Nat) (P : Nat → Prop) : List Int := ((List.range n).filter fun a => decide (P a)).map fun (a : Nat) => (a : Int)
open Classical in
theorem setL_mem {n : Nat} {P : Nat → Prop} {m : Int} : m ∈ setL n P ↔ ∃ a : Nat, m = a ∧ a < n ∧ P a := by
  unfold setL
  rw [List.mem_map]
  constructor
  · rintro ⟨a, ha, rfl⟩
    rw [List.mem_filter, List.mem_range, decide_eq_true_eq] at ha
    exact ⟨a, rfl, ha⟩
  · rintro ⟨a, rfl, ha⟩
    exact ⟨a, by rw [List.mem_filter, List.mem_range, decide_eq_true_eq]; exact ha, rfl⟩
theorem setL_rise (n : Nat) (P : Nat → Prop) : RiseI (setL n P) := by
  unfold RiseI setL
  rw [List.pairwise_map]
  refine (List.Pairwise.sublist List.filter_sublist ?_)
  have := List.pairwise_lt_range (n := n)
  exact this.imp fun h => by omega
theorem rise_len : ∀ {xs : List Int} {a n : Int}, RiseI xs → (∀ x ∈ xs, a ≤ x ∧ x < n) → a ≤ n → (xs.length : Int) ≤ n - a := by
  intro xs
  induction xs with
  | nil => intro a n _ _ h; simp; omega
  | cons x xs ih =>
    intro a n h hb ha
    rw [rise_cons] at h
    have h1 := hb x (List.mem_cons_self ..)
    have := ih (a := x + 1) (n := n) h.2 (fun y hy => by have := h.1 y hy; have := hb y (List.mem_cons_of_mem _ hy); omega) (by omega)
    rw [List.length_cons]
    omega
end Go.Sh
namespace Go.Proofs.Ytegcjkhebecgbaa
open Go Go.Sh Go.RowKit
end Go.Proofs.Ytegcjkhebecgbaa

/- Contracts: what derives something, by the reference (l3Close, NullableOf, ProductiveOf). -/
set_option linter.unusedVariables false
set_option linter.unusedSimpArgs false
set_option maxRecDepth 100000
namespace Go.Sh
open Go
/-- A set that has what a predicate says at most. -/
structure SetOk (P : Nat → Prop) (nons : Nat) (out : List Int) : Prop where
  rise : RiseI out
  ok : ∀ x ∈ out, ∃ A : Nat, x = A ∧ A < nons ∧ P A
theorem SetOk.len {P : Nat → Prop} {nons : Nat} {out : List Int} (h : SetOk P nons out) : out.length ≤ nons := by
  have := rise_len (a := 0) (n := nons) h.rise (fun x hx => by obtain ⟨A, rfl, h1, _⟩ := h.ok x hx; omega) (by omega)
  omega
theorem SetOk.put {P : Nat → Prop} {nons A : Nat} {out : List Int} (h : SetOk P nons out) (hA : A < nons) (hP : P A) : SetOk P nons (putL (A : Int) out) :=
  ⟨putL_rise h.rise, fun x hx => by
    rcases putL_mem.1 hx with rfl | hx
    · exact ⟨A, rfl, hA, hP⟩
    · exact h.ok x hx⟩
theorem SetOk.eq {P : Nat → Prop} {nons : Nat} {out : List Int} (h : SetOk P nons out) (hc : ∀ A : Nat, A < nons → P A → (A : Int) ∈ out) : out = setL nons P := by
  refine rise_ext h.rise (setL_rise _ _) fun m => ?_
  rw [setL_mem]
  constructor
  · exact fun hm => by
      obtain ⟨A, e, h1, h2⟩ := h.ok m hm
      exact ⟨A, e, h1, h2⟩
  · rintro ⟨A, rfl, h1, h2⟩
    exact hc A h1 h2
theorem SetOk.nil (P : Nat → Prop) (nons : Nat) : SetOk P nons [] := ⟨.nil, fun x hx => by simp at hx⟩
end Go.Sh
namespace Go.Proofs.Ytegcjkhebecgbaa
open Go Go.Sh Go.RowKit
section
variable {w : World} {Y : Option Addr} {cy : Nat} {gm : Gram} {k : Value → World → Prop}
end
end Go.Proofs.Ytegcjkhebecgbaa

/- Contracts: what is reached, what grows, by the reference (l3Reached, l3Growing). -/
set_option linter.unusedVariables false
set_option linter.unusedSimpArgs false
set_option maxRecDepth 100000
namespace Go.Sh
open Go
/-- Derives some word that is not empty. -/
inductive Gro (rs : List RuleL) : Nat → Prop
  | tok {A : Nat} {r : RuleL} {x : Int} : r ∈ rs → r.1 = (A : Int) → (∀ x ∈ r.2, ¬ x < 0 → Clo rs true x.toNat) → x ∈ r.2 → x < 0 → Gro rs A
  | non {A : Nat} {r : RuleL} {x : Int} : r ∈ rs → r.1 = (A : Int) → (∀ x ∈ r.2, ¬ x < 0 → Clo rs true x.toNat) → x ∈ r.2 → ¬ x < 0 → Gro rs x.toNat → Gro rs A
end Go.Sh
namespace Go.Proofs.Ytegcjkhebecgbaa
open Go Go.Sh Go.RowKit
section
variable {w : World} {Y : Option Addr} {cy : Nat} {gm : Gram} {k : Value → World → Prop}
end
end Go.Proofs.Ytegcjkhebecgbaa

/- Contracts: what grows, by the reference (l3Growing); NullableOf, ProductiveOf, ReachedOf, GrowingOf of the reference. -/
set_option linter.unusedVariables false
set_option linter.unusedSimpArgs false
set_option maxRecDepth 100000
namespace Go.Sh
open Go
end Go.Sh
namespace Go.Proofs.Ytegcjkhebecgbaa
open Go Go.Sh Go.RowKit
section
variable {w : World} {Y : Option Addr} {cy : Nat} {gm : Gram} {k : Value → World → Prop}
end
end Go.Proofs.Ytegcjkhebecgbaa

/- Contracts: the useful grammar, by the reference (l3Useful, UsefulOf, IsUseful). -/
set_option linter.unusedVariables false
set_option linter.unusedSimpArgs false
set_option maxRecDepth 100000
namespace Go.Sh
open Go
section
variable {F : Nat → Prop} {w w' : World} {rs : List RuleL} {cells : List Value}
end
noncomputable def usefulG (gm : Gram) : Gram := ⟨gm.nons, gm.toks, usefulR gm.rules⟩
end Go.Sh
namespace Go.Proofs.Ytegcjkhebecgbaa
open Go Go.Sh Go.RowKit
section
variable {w0 w : World} {L : List Thing} {k : Value → World → Prop}
end
end Go.Proofs.Ytegcjkhebecgbaa

/- Contract: the useful grammar, by the reference (l3Useful). -/
set_option linter.unusedVariables false
set_option linter.unusedSimpArgs false
set_option maxRecDepth 100000
namespace Go.Proofs.Ytegcjkhebecgbaa
open Go Go.Sh Go.RowKit
section
variable {w : World} {Y : Option Addr} {cy : Nat} {gm : Gram} {k : Value → World → Prop}
end
end Go.Proofs.Ytegcjkhebecgbaa

/- Contracts: sameRules, sameGrammar of the laws; GoodGrammar, GoodWord of the program; a grammar that is read as a thing. -/
set_option linter.unusedVariables false
set_option linter.unusedSimpArgs false
set_option maxRecDepth 100000
namespace Go.Sh
open Go
theorem RulesF.same {F : Nat → Prop} {w w' : World} {X : Option Addr} {rs : List RuleL} (h : RulesF F w X rs) (hs : ∀ q, F q → w'.heap[q]? = w.heap[q]?) : RulesF F w' X rs := by
  refine ⟨h.le, h.ptr, h.foot, fun j hj => ?_⟩
  obtain ⟨Y, c, h1, h2, h3, h4⟩ := h.row j hj
  have hb : w'.heap[(ad X).block]? = w.heap[(ad X).block]? := hs _ (h.foot (by omega))
  have cell : ∀ i, w'.cell? ((ad X).add i) = w.cell? ((ad X).add i) := fun i => by
    unfold World.cell?
    rw [add_block, hb]
  exact ⟨Y, c, by rw [cell]; exact h1, by rw [cell]; exact h2, h3, h4.same' hs⟩
end Go.Sh
namespace Go.Proofs.Ytegcjkhebecgbaa
open Go Go.Sh Go.RowKit
section
variable {w : World} {Y X Z : Option Addr} {cy cx cz : Nat} {gm g2 : Gram} {ws : List Int} {k : Value → World → Prop}
end
end Go.Proofs.Ytegcjkhebecgbaa

/- Contracts: UsefulOf of the reference; a grammar is handed back. -/
set_option linter.unusedVariables false
set_option linter.unusedSimpArgs false
set_option maxRecDepth 100000
namespace Go.Sh
open Go
noncomputable def usefulV (gm : Gram) : Gram × Bool := if goodG gm = true then (usefulG gm, true) else (⟨0, 0, []⟩, false)
end Go.Sh
namespace Go.Proofs.Ytegcjkhebecgbaa
open Go Go.Sh Go.RowKit
section
variable {w : World} {Y : Option Addr} {cy : Nat} {gm : Gram} {k : Value → World → Prop}
end
end Go.Proofs.Ytegcjkhebecgbaa

/- Contracts: two grammars are drawn; DrawUnionOf, DrawGoodGrammar, DrawStarOf. -/
set_option linter.unusedVariables false
set_option linter.unusedSimpArgs false
set_option maxRecDepth 100000
namespace Go.Proofs.Ytegcjkhebecgbaa
open Go Go.Sh Go.RowKit
/-- Bounds of a grammar that is drawn somehow. -/
structure Dr (gm : Gram) : Prop where
  nons : 0 ≤ gm.nons ∧ gm.nons ≤ 1000
  toks : 0 ≤ gm.toks ∧ gm.toks ≤ 1000
theorem Dr.of {m : Nat} {gm : Gram} (h : Drawn m gm) : Dr gm := ⟨h.nons, h.toks⟩
theorem Dr.useful {gm : Gram} (h : Dr gm) : Dr (usefulV gm).1 := by
  unfold usefulV
  split
  · exact ⟨h.nons, h.toks⟩
  · exact ⟨by simp, by simp⟩
section
variable {w0 w : World} {E : List Thing} {bc N cap : Nat} {C : Option Addr} {bs : List Int} {k : Value → World → Prop}
end
end Go.Proofs.Ytegcjkhebecgbaa

/- Bd: bodies of functions as terms of the frame calculus, printed by shgen.py of this repository. -/
set_option linter.unusedVariables false
set_option maxRecDepth 100000
namespace Go.Proofs.Ytegcjkhebecgbaa
open Go Go.Sh

/-! loop.example/g00758/spec.JoinOf -/
/-! loop.example/g00758/impl.JoinOf -/
/-! loop.example/g00758/spec.UnionOf -/
/-! loop.example/g00758/impl.UnionOf -/
end Go.Proofs.Ytegcjkhebecgbaa

/- Contracts: joined and united grammars, by the reference and by the program. -/
set_option linter.unusedVariables false
set_option linter.unusedSimpArgs false
set_option maxRecDepth 100000
namespace Go.Sh

end Go.Sh
namespace Go.Proofs.Ytegcjkhebecgbaa
open Go Go.Sh Go.RowKit

end Go.Proofs.Ytegcjkhebecgbaa

/- Plain: languages of unions, of what is joined, of what comes again and again. -/
set_option linter.unusedVariables false
set_option linter.unusedSimpArgs false
set_option maxRecDepth 100000
namespace Go.Sh
open Go
theorem inL_yi {gm : Gram} {ws : List Int} (hg : goodG gm = true) (hw : ws.length ≤ 10) : inL gm.rules ws = true ↔ Yi gm.rules (.inl 0) ws := by
  unfold inL
  rw [span_iff (good_lefts hg) (good_left6 hg) hw (Nat.le_refl _), der_yi (Nat.zero_le _) (Nat.le_refl _), cut_all]
end Go.Sh

/- The law of Beside. -/
set_option linter.unusedVariables false
set_option linter.unusedSimpArgs false
set_option maxRecDepth 100000
namespace Go.Sh
open Go
theorem inLV_of {gm : Gram} {ws : List Int} (hg : goodG gm = true) (hw : wordB gm.toks ws = true) : inLV gm ws = (inL gm.rules ws, true) := by
  unfold inLV wordG
  rw [hg, hw, if_pos (by rfl)]
end Go.Sh
namespace Go.Proofs.Ytegcjkhebecgbaa
open Go Go.Sh Go.RowKit
section
variable {w : World} {L : List (World → Prop)} {k : Value → World → Prop} {Y X : Option Addr} {cy cx n : Nat} {gm : Gram} {ws : List Int}
end
end Go.Proofs.Ytegcjkhebecgbaa

/- Contract: words that may be mended (the reference's l17Word). -/
set_option linter.unusedVariables false
set_option linter.unusedSimpArgs false
set_option maxRecDepth 100000
namespace Go.Proofs.Ytegcjkhebecgbaa
open Go Go.Sh Go.RowKit
theorem l17Word_c {F : Nat → Prop} {w : World} {v : Value} {gm : Gram} {X : Option Addr} {n cx : Nat} {ws : List Int} (hv : GramV F w v gm) (hX : Ints w X ws) (hn : n = ws.length) {k : Value → World → Prop} (hk : ∀ w', Gr w w' → k (.bool (goodG gm && wordB gm.toks ws && decide (ws.length ≤ 8))) w') :
    CallK Try.prog 214 [v, .slice X n cx] k w := by
  subst hn
  obtain ⟨Y, cy, rfl, hc, hy⟩ := hv
  refine enter214 ?_
  unfold S214
  have H := Apt.nil w
  refine boxH H fun b1 w1 H => ?_
  refine rdi (ldB_agg agg26 sz26 rfl (H.box 0 rfl)) ?_
  refine goodWord_c (gm := gm) ⟨Y, cy, rfl, hc, hy.gr H.gr⟩ (hX.gr H.gr) rfl fun w2 g2 => ?_
  have H := H.step g2
  have := hk w2 H.gr
  cases hg : goodG gm && wordB gm.toks ws
  · simp only [go_sem, Nat.reduceEqDiff]
    rwa [hg, Bool.false_and] at this
  · simp only [go_sem, Nat.reduceEqDiff]
    rw [hg, Bool.true_and] at this
    by_cases hl : ws.length ≤ 8
    · simp only [show ((ws.length : Int) ≤ 8) from by omega, decide_true]
      simpa [hl] using this
    · simp only [show ¬ ((ws.length : Int) ≤ 8) from by omega, decide_false]
      simpa [hl] using this
end Go.Proofs.Ytegcjkhebecgbaa

/- Bi: bodies of functions as terms of the frame calculus, printed by shgen.py of this repository. -/
set_option linter.unusedVariables false
set_option maxRecDepth 100000
namespace Go.Proofs.Ytegcjkhebecgbaa
open Go Go.Sh

/-! loop.example/g00758/spec.ChangeWord -/
def pl97 : Plans := fun _ => ⟨false, [], .nil⟩
def S97 (v0 v1 v2 v3 v4 : Value) (k : Value → World → Prop) (w : World) : Prop :=
 Do Try.prog (sBox 26 v0) (fun t1 w2 =>
 Rd Try.prog (WS.at w2) (sLoad 26 t1) fun t3 =>
 CallK Try.prog 214 [t3, v1] (fun t4 w5 =>
 Rd Try.prog (WS.at w5) (sUn .not t4) fun t6 =>
 GuardK t6 false (fun k w' => k v2 w') (fun t7 w8 =>
 GuardK t6 false (fun k w' => CallK Try.prog 152 [t7, (.int .i64 0), (.int .i64 2)] k w') (fun t9 w10 =>
 GuardK t6 false (fun k w' => Rd Try.prog (WS.at w10) (sUn .not t9) fun v => k v w') (fun t11 w12 =>
 Rd Try.prog (WS.at w12) (sPick t6 (.bool true) t11) fun t13 =>
 GuardK t13 false (fun k w' => k v3 w') (fun t14 w15 =>
 GuardK t13 false (fun k w' => k v1 w') (fun t16 w17 =>
 GuardK t13 false (fun k w' => Rd Try.prog (WS.at w17) (sBuiltin .len #[27] 3 [false] [t16]) fun v => k v w') (fun t18 w19 =>
 GuardK t13 false (fun k w' => CallK Try.prog 152 [t14, (.int .i64 0), t18] k w') (fun t20 w21 =>
 GuardK t13 false (fun k w' => Rd Try.prog (WS.at w21) (sUn .not t20) fun v => k v w') (fun t22 w23 =>
 Rd Try.prog (WS.at w23) (sPick t13 (.bool true) t22) fun t24 =>
 GuardK t24 false (fun k w' => k v2 w') (fun t25 w26 =>
 GuardK t24 false (fun k w' => Rd Try.prog (WS.at w26) (sBin .neq 3 true t25 (.int .i64 1)) fun v => k v w') (fun t27 w28 =>
 GuardK t24 false (fun k w' => k t27 w') (fun t29 w30 =>
 GuardK t29 true (fun k w' => k v3 w') (fun t31 w32 =>
 GuardK t29 true (fun k w' => k v1 w') (fun t33 w34 =>
 GuardK t29 true (fun k w' => Rd Try.prog (WS.at w34) (sBuiltin .len #[27] 3 [false] [t33]) fun v => k v w') (fun t35 w36 =>
 GuardK t29 true (fun k w' => Rd Try.prog (WS.at w36) (sBin .eql 3 false t31 t35) fun v => k v w') (fun t37 w38 =>
 GuardK t24 false (fun k w' => Rd Try.prog (WS.at w38) (sPick t29 t37 (.bool false)) fun v => k v w') (fun t39 w40 =>
 Rd Try.prog (WS.at w40) (sPick t24 (.bool true) t39) fun t41 =>
 GuardK t41 false (fun k w' => k v4 w') (fun t42 w43 =>
 GuardK t41 false (fun k w' => Rd Try.prog (WS.at w43) (sFieldAddr 26 t1 1) fun v => k v w') (fun t44 w45 =>
 GuardK t41 false (fun k w' => Rd Try.prog (WS.at w45) (sLoad 3 t44) fun v => k v w') (fun t46 w47 =>
 GuardK t41 false (fun k w' => Rd Try.prog (WS.at w47) (sBin .sub 3 true t46 (.int .i64 1)) fun v => k v w') (fun t48 w49 =>
 GuardK t41 false (fun k w' => CallK Try.prog 152 [t42, (.int .i64 0), t48] k w') (fun t50 w51 =>
 GuardK t41 false (fun k w' => Rd Try.prog (WS.at w51) (sUn .not t50) fun v => k v w') (fun t52 w53 =>
 Rd Try.prog (WS.at w53) (sPick t41 (.bool true) t52) fun t54 =>
 GuardK t54 false (fun k w' => k v2 w') (fun t55 w56 =>
 GuardK t54 false (fun k w' => Rd Try.prog (WS.at w56) (sBin .eql 3 true t55 (.int .i64 0)) fun v => k v w') (fun t57 w58 =>
 GuardK t54 false (fun k w' => k t57 w') (fun t59 w60 =>
 GuardK t59 true (fun k w' => k v4 w') (fun t61 w62 =>
 GuardK t59 true (fun k w' => Rd Try.prog (WS.at w62) (sBin .neq 3 true t61 (.int .i64 0)) fun v => k v w') (fun t63 w64 =>
 GuardK t54 false (fun k w' => Rd Try.prog (WS.at w64) (sPick t59 t63 (.bool false)) fun v => k v w') (fun t65 w66 =>
 Rd Try.prog (WS.at w66) (sPick t54 (.bool true) t65) fun t67 =>
 CondK t67
  (k (.tuple #[(.slice none 0 0), (.bool false)]) w66)
  (Rd Try.prog (WS.at w66) (sSlice 27 v1 none (some v3) none) fun t68 =>
  CallK Try.prog 158 [t68] (fun t69 w70 =>
  Join (fun K71 =>
  Rd Try.prog (WS.at w70) (sBin .gtr 3 true v2 (.int .i64 0)) fun t74 =>
  CondK t74
   (Do Try.prog (sBuildSlice 27 1 [(0, v4)]) (fun t75 w76 =>
   Do Try.prog (sBuiltin .append #[27, 27] 27 [false, false] [t69, t75]) (fun t77 w78 =>
   K71 (F.upd (F.upd (F.upd (F.upd (F.upd (F.upd (F.upd (F.upd (F.upd (F.upd (F.upd (F.upd (F.upd (F.upd (F.upd (F.upd (F.upd (F.upd (F.upd (F.upd (F.upd (F.upd (F.upd (F.upd (F.upd (F.upd (F.upd (F.upd (F.upd (F.upd (F.upd (F.upd (F.upd (F.upd (F.upd (F.upd (F.upd (F.upd (F.upd (F.upd (F.upd (F.upd (F.upd (F.upd (F.upd (F.upd (F.upd (F.upd (F.upd (F.upd (F.upd (F.upd (F.upd (F.upd (F.upd (F.upd (F.upd (initF [v0, v1, v2, v3, v4]) 5 t1) 10 (.slice none 0 0)) 11 (.bool false)) 13 t3) 14 v1) 15 t4) 16 t6) 17 t6) 18 t7) 19 t9) 20 t11) 21 t13) 22 t13) 23 t14) 24 t16) 25 t18) 26 t20) 27 t22) 28 t24) 29 t24) 30 t25) 31 t27) 32 t29) 33 t31) 34 t33) 35 t35) 36 t37) 37 t39) 38 t41) 39 t41) 40 t42) 41 t44) 42 t46) 43 t48) 44 t50) 45 t52) 46 t54) 47 t54) 48 t55) 49 t57) 50 t59) 51 t61) 52 t63) 53 t65) 54 t67) 55 v1) 56 v3) 57 t68) 58 t69) 12 t69) 59 v2) 60 t74) 61 t69) 62 v4) 63 t75) 64 t77) 12 t77) w78) w76) w70)
   (K71 (F.upd (F.upd (F.upd (F.upd (F.upd (F.upd (F.upd (F.upd (F.upd (F.upd (F.upd (F.upd (F.upd (F.upd (F.upd (F.upd (F.upd (F.upd (F.upd (F.upd (F.upd (F.upd (F.upd (F.upd (F.upd (F.upd (F.upd (F.upd (F.upd (F.upd (F.upd (F.upd (F.upd (F.upd (F.upd (F.upd (F.upd (F.upd (F.upd (F.upd (F.upd (F.upd (F.upd (F.upd (F.upd (F.upd (F.upd (F.upd (F.upd (F.upd (F.upd (F.upd (initF [v0, v1, v2, v3, v4]) 5 t1) 10 (.slice none 0 0)) 11 (.bool false)) 13 t3) 14 v1) 15 t4) 16 t6) 17 t6) 18 t7) 19 t9) 20 t11) 21 t13) 22 t13) 23 t14) 24 t16) 25 t18) 26 t20) 27 t22) 28 t24) 29 t24) 30 t25) 31 t27) 32 t29) 33 t31) 34 t33) 35 t35) 36 t37) 37 t39) 38 t41) 39 t41) 40 t42) 41 t44) 42 t46) 43 t48) 44 t50) 45 t52) 46 t54) 47 t54) 48 t55) 49 t57) 50 t59) 51 t61) 52 t63) 53 t65) 54 t67) 55 v1) 56 v3) 57 t68) 58 t69) 12 t69) 59 v2) 60 t74) w70)) (fun f72 w73 =>
  Join (fun K79 =>
  Rd Try.prog (WS.at w73) (sBin .eql 3 true (f72 2) (.int .i64 1)) fun t82 =>
  CondK t82
   (Rd Try.prog (WS.at w73) (sSlice 27 (f72 1) (some (f72 3)) none none) fun t83 =>
   Do Try.prog (sBuiltin .append #[27, 27] 27 [false, false] [(f72 12), t83]) (fun t84 w85 =>
   K79 (F.upd (F.upd (F.upd (F.upd (F.upd (F.upd (F.upd (F.upd f72 65 (f72 2)) 66 t82) 67 (f72 12)) 68 (f72 1)) 69 (f72 3)) 70 t83) 71 t84) 12 t84) w85) w73)
   (Rd Try.prog (WS.at w73) (sBin .add 3 true (f72 3) (.int .i64 1)) fun t86 =>
   Rd Try.prog (WS.at w73) (sSlice 27 (f72 1) (some t86) none none) fun t87 =>
   Do Try.prog (sBuiltin .append #[27, 27] 27 [false, false] [(f72 12), t87]) (fun t88 w89 =>
   K79 (F.upd (F.upd (F.upd (F.upd (F.upd (F.upd (F.upd (F.upd (F.upd f72 65 (f72 2)) 66 t82) 72 (f72 12)) 73 (f72 1)) 74 (f72 3)) 75 t86) 76 t87) 77 t88) 12 t88) w89) w73)) (fun f80 w81 =>
  Rd Try.prog (WS.at w81) (sBuiltin .len #[27] 3 [false] [(f80 12)]) fun t90 =>
  Rd Try.prog (WS.at w81) (sBin .gtr 3 true t90 (.int .i64 8)) fun t91 =>
  CondK t91
   (k (.tuple #[(.slice none 0 0), (.bool false)]) w81)
   (k (.tuple #[(f80 12), (.bool true)]) w81)))) w66)) w64) w62) w60) w58) w56) w53) w51) w49) w47) w45) w43) w40) w38) w36) w34) w32) w30) w28) w26) w23) w21) w19) w17) w15) w12) w10) w8) w5) w2) w
theorem body97 : Try.f97.body = some (bodyOf Try.f97) := by kernel_rfl
theorem same97 (v0 v1 v2 v3 v4 : Value) (k : Value → World → Prop) (w : World) : wpF Try.prog pl97 (bodyOf Try.f97) (bodyQ Try.prog Try.f97.results.toList k) (initF [v0, v1, v2, v3, v4]) w = S97 v0 v1 v2 v3 v4 k w := by kernel_rfl
theorem enter97 {v0 v1 v2 v3 v4 : Value} {k : Value → World → Prop} {w : World} (h : S97 v0 v1 v2 v3 v4 k w) : CallK Try.prog 97 [v0, v1, v2, v3, v4] k w :=
  call_of_wpF (pl := pl97) mixed Try.func97 body97 (by kernel_rfl) (of_decide_eq_true (by kernel_rfl)) (by kernel_rfl) (by kernel_rfl) (same97 v0 v1 v2 v3 v4 k w ▸ h)

/-! loop.example/g00758/impl.ChangeWord -/
def pl96 : Plans := fun _ => ⟨false, [], .nil⟩
def S96 (v0 v1 v2 v3 v4 : Value) (k : Value → World → Prop) (w : World) : Prop :=
 Do Try.prog (sBox 26 v0) (fun t1 w2 =>
 Rd Try.prog (WS.at w2) (sLoad 26 t1) fun t3 =>
 CallK Try.prog 148 [t3] (fun t4 w5 =>
 Rd Try.prog (WS.at w5) (sUn .not t4) fun t6 =>
 GuardK t6 false (fun k w' => Rd Try.prog (WS.at w5) (sFieldAddr 26 t1 1) fun v => k v w') (fun t7 w8 =>
 GuardK t6 false (fun k w' => Rd Try.prog (WS.at w8) (sLoad 3 t7) fun v => k v w') (fun t9 w10 =>
 GuardK t6 false (fun k w' => k v1 w') (fun t11 w12 =>
 GuardK t6 false (fun k w' => CallK Try.prog 150 [t9, t11] k w') (fun t13 w14 =>
 GuardK t6 false (fun k w' => Rd Try.prog (WS.at w14) (sUn .not t13) fun v => k v w') (fun t15 w16 =>
 Rd Try.prog (WS.at w16) (sPick t6 (.bool true) t15) fun t17 =>
 GuardK t17 false (fun k w' => k v1 w') (fun t18 w19 =>
 GuardK t17 false (fun k w' => Rd Try.prog (WS.at w19) (sBuiltin .len #[27] 3 [false] [t18]) fun v => k v w') (fun t20 w21 =>
 GuardK t17 false (fun k w' => Rd Try.prog (WS.at w21) (sBin .gtr 3 true t20 (.int .i64 8)) fun v => k v w') (fun t22 w23 =>
 Rd Try.prog (WS.at w23) (sPick t17 (.bool true) t22) fun t24 =>
 GuardK t24 false (fun k w' => k v4 w') (fun t25 w26 =>
 GuardK t24 false (fun k w' => Rd Try.prog (WS.at w26) (sFieldAddr 26 t1 1) fun v => k v w') (fun t27 w28 =>
 GuardK t24 false (fun k w' => Rd Try.prog (WS.at w28) (sLoad 3 t27) fun v => k v w') (fun t29 w30 =>
 GuardK t24 false (fun k w' => Rd Try.prog (WS.at w30) (sBin .sub 3 true t29 (.int .i64 1)) fun v => k v w') (fun t31 w32 =>
 GuardK t24 false (fun k w' => CallK Try.prog 149 [t25, (.int .i64 0), t31] k w') (fun t33 w34 =>
 GuardK t24 false (fun k w' => Rd Try.prog (WS.at w34) (sUn .not t33) fun v => k v w') (fun t35 w36 =>
 Rd Try.prog (WS.at w36) (sPick t24 (.bool true) t35) fun t37 =>
 GuardK t37 false (fun k w' => k v3 w') (fun t38 w39 =>
 GuardK t37 false (fun k w' => k v1 w') (fun t40 w41 =>
 GuardK t37 false (fun k w' => Rd Try.prog (WS.at w41) (sBuiltin .len #[27] 3 [false] [t40]) fun v => k v w') (fun t42 w43 =>
 GuardK t37 false (fun k w' => CallK Try.prog 149 [t38, (.int .i64 0), t42] k w') (fun t44 w45 =>
 GuardK t37 false (fun k w' => Rd Try.prog (WS.at w45) (sUn .not t44) fun v => k v w') (fun t46 w47 =>
 Rd Try.prog (WS.at w47) (sPick t37 (.bool true) t46) fun t48 =>
 CondK t48
  (k (.tuple #[(.slice none 0 0), (.bool false)]) w47)
  (Do Try.prog (sBuildSlice 27 0 []) (fun t49 w50 =>
  Do Try.prog (sBuiltin .append #[27, 27] 27 [false, false] [t49, v1]) (fun t51 w52 =>
  Join (fun K53 =>
  Rd Try.prog (WS.at w52) (sBin .eql 3 true v2 (.int .i64 0)) fun t56 =>
  GuardK t56 true (fun k w' => k v4 w') (fun t57 w58 =>
  GuardK t56 true (fun k w' => Rd Try.prog (WS.at w58) (sBin .eql 3 true t57 (.int .i64 0)) fun v => k v w') (fun t59 w60 =>
  Rd Try.prog (WS.at w60) (sPick t56 t59 (.bool false)) fun t61 =>
  GuardK t61 true (fun k w' => k v3 w') (fun t62 w63 =>
  GuardK t61 true (fun k w' => k v1 w') (fun t64 w65 =>
  GuardK t61 true (fun k w' => Rd Try.prog (WS.at w65) (sBuiltin .len #[27] 3 [false] [t64]) fun v => k v w') (fun t66 w67 =>
  GuardK t61 true (fun k w' => Rd Try.prog (WS.at w67) (sBin .lss 3 false t62 t66) fun v => k v w') (fun t68 w69 =>
  Rd Try.prog (WS.at w69) (sPick t61 t68 (.bool false)) fun t70 =>
  CondK t70
   (Rd Try.prog (WS.at w69) (sBin .add 3 true v3 (.int .i64 1)) fun t71 =>
   CallK Try.prog 212 [t51, v3, t71] (fun t72 w73 =>
   K53 (F.upd (F.upd (F.upd (F.upd (F.upd (F.upd (F.upd (F.upd (F.upd (F.upd (F.upd (F.upd (F.upd (F.upd (F.upd (F.upd (F.upd (F.upd (F.upd (F.upd (F.upd (F.upd (F.upd (F.upd (F.upd (F.upd (F.upd (F.upd (F.upd (F.upd (F.upd (F.upd (F.upd (F.upd (F.upd (F.upd (F.upd (F.upd (F.upd (F.upd (F.upd (F.upd (F.upd (F.upd (F.upd (F.upd (F.upd (F.upd (F.upd (F.upd (F.upd (F.upd (F.upd (F.upd (F.upd (F.upd (initF [v0, v1, v2, v3, v4]) 5 t1) 10 (.slice none 0 0)) 11 (.bool false)) 13 t3) 14 t4) 15 t6) 16 t6) 17 t7) 18 t9) 19 t11) 20 t13) 21 t15) 22 t17) 23 t17) 24 t18) 25 t20) 26 t22) 27 t24) 28 t24) 29 t25) 30 t27) 31 t29) 32 t31) 33 t33) 34 t35) 35 t37) 36 t37) 37 t38) 38 t40) 39 t42) 40 t44) 41 t46) 42 t48) 43 t49) 44 v1) 45 t51) 12 t51) 47 v2) 48 t56) 49 t56) 50 t57) 51 t59) 52 t61) 53 t61) 54 t62) 55 t64) 56 t66) 57 t68) 58 t70) 46 t70) 59 t51) 60 v3) 61 v3) 62 t71) 63 t72) 12 t72) w73) w69)
   (Rd Try.prog (WS.at w69) (sBin .eql 3 true v2 (.int .i64 1)) fun t74 =>
   GuardK t74 true (fun k w' => k v1 w') (fun t75 w76 =>
   GuardK t74 true (fun k w' => Rd Try.prog (WS.at w76) (sBuiltin .len #[27] 3 [false] [t75]) fun v => k v w') (fun t77 w78 =>
   GuardK t74 true (fun k w' => Rd Try.prog (WS.at w78) (sBin .lss 3 true t77 (.int .i64 8)) fun v => k v w') (fun t79 w80 =>
   Rd Try.prog (WS.at w80) (sPick t74 t79 (.bool false)) fun t81 =>
   CondK t81
    (Do Try.prog (sBuildSlice 27 1 [(0, v4)]) (fun t82 w83 =>
    CallK Try.prog 213 [t51, v3, t82] (fun t84 w85 =>
    K53 (F.upd (F.upd (F.upd (F.upd (F.upd (F.upd (F.upd (F.upd (F.upd (F.upd (F.upd (F.upd (F.upd (F.upd (F.upd (F.upd (F.upd (F.upd (F.upd (F.upd (F.upd (F.upd (F.upd (F.upd (F.upd (F.upd (F.upd (F.upd (F.upd (F.upd (F.upd (F.upd (F.upd (F.upd (F.upd (F.upd (F.upd (F.upd (F.upd (F.upd (F.upd (F.upd (F.upd (F.upd (F.upd (F.upd (F.upd (F.upd (F.upd (F.upd (F.upd (F.upd (F.upd (F.upd (F.upd (F.upd (F.upd (F.upd (F.upd (F.upd (F.upd (F.upd (F.upd (F.upd (initF [v0, v1, v2, v3, v4]) 5 t1) 10 (.slice none 0 0)) 11 (.bool false)) 13 t3) 14 t4) 15 t6) 16 t6) 17 t7) 18 t9) 19 t11) 20 t13) 21 t15) 22 t17) 23 t17) 24 t18) 25 t20) 26 t22) 27 t24) 28 t24) 29 t25) 30 t27) 31 t29) 32 t31) 33 t33) 34 t35) 35 t37) 36 t37) 37 t38) 38 t40) 39 t42) 40 t44) 41 t46) 42 t48) 43 t49) 44 v1) 45 t51) 12 t51) 47 v2) 48 t56) 49 t56) 50 t57) 51 t59) 52 t61) 53 t61) 54 t62) 55 t64) 56 t66) 57 t68) 58 t70) 46 t70) 65 v2) 66 t74) 67 t74) 68 t75) 69 t77) 70 t79) 71 t81) 64 t81) 72 t51) 73 v3) 74 v4) 75 t82) 76 t84) 12 t84) w85) w83) w80)
    (Rd Try.prog (WS.at w80) (sBin .eql 3 true v2 (.int .i64 2)) fun t86 =>
    GuardK t86 true (fun k w' => k v3 w') (fun t87 w88 =>
    GuardK t86 true (fun k w' => k v1 w') (fun t89 w90 =>
    GuardK t86 true (fun k w' => Rd Try.prog (WS.at w90) (sBuiltin .len #[27] 3 [false] [t89]) fun v => k v w') (fun t91 w92 =>
    GuardK t86 true (fun k w' => Rd Try.prog (WS.at w92) (sBin .lss 3 false t87 t91) fun v => k v w') (fun t93 w94 =>
    Rd Try.prog (WS.at w94) (sPick t86 t93 (.bool false)) fun t95 =>
    CondK t95
     (Rd Try.prog (WS.at w94) (sIndexAddr 27 t51 v3) fun t96 =>
     Do Try.prog (sStore 3 t96 v4) (fun _ w97 =>
     K53 (F.upd (F.upd (F.upd (F.upd (F.upd (F.upd (F.upd (F.upd (F.upd (F.upd (F.upd (F.upd (F.upd (F.upd (F.upd (F.upd (F.upd (F.upd (F.upd (F.upd (F.upd (F.upd (F.upd (F.upd (F.upd (F.upd (F.upd (F.upd (F.upd (F.upd (F.upd (F.upd (F.upd (F.upd (F.upd (F.upd (F.upd (F.upd (F.upd (F.upd (F.upd (F.upd (F.upd (F.upd (F.upd (F.upd (F.upd (F.upd (F.upd (F.upd (F.upd (F.upd (F.upd (F.upd (F.upd (F.upd (F.upd (F.upd (F.upd (F.upd (F.upd (F.upd (F.upd (F.upd (F.upd (F.upd (F.upd (F.upd (F.upd (F.upd (F.upd (initF [v0, v1, v2, v3, v4]) 5 t1) 10 (.slice none 0 0)) 11 (.bool false)) 13 t3) 14 t4) 15 t6) 16 t6) 17 t7) 18 t9) 19 t11) 20 t13) 21 t15) 22 t17) 23 t17) 24 t18) 25 t20) 26 t22) 27 t24) 28 t24) 29 t25) 30 t27) 31 t29) 32 t31) 33 t33) 34 t35) 35 t37) 36 t37) 37 t38) 38 t40) 39 t42) 40 t44) 41 t46) 42 t48) 43 t49) 44 v1) 45 t51) 12 t51) 47 v2) 48 t56) 49 t56) 50 t57) 51 t59) 52 t61) 53 t61) 54 t62) 55 t64) 56 t66) 57 t68) 58 t70) 46 t70) 65 v2) 66 t74) 67 t74) 68 t75) 69 t77) 70 t79) 71 t81) 64 t81) 78 v2) 79 t86) 80 t86) 81 t87) 82 t89) 83 t91) 84 t93) 85 t95) 77 t95) 86 t51) 87 v3) 88 v4) 89 t96) w97) w94)
     (k (.tuple #[(.slice none 0 0), (.bool false)]) w94)) w92) w90) w88) w80)) w78) w76) w69)) w67) w65) w63) w60) w58) w52) (fun f54 w55 =>
  k (.tuple #[(f54 12), (.bool true)]) w55)) w50) w47)) w45) w43) w41) w39) w36) w34) w32) w30) w28) w26) w23) w21) w19) w16) w14) w12) w10) w8) w5) w2) w
theorem body96 : Try.f96.body = some (bodyOf Try.f96) := by kernel_rfl
theorem same96 (v0 v1 v2 v3 v4 : Value) (k : Value → World → Prop) (w : World) : wpF Try.prog pl96 (bodyOf Try.f96) (bodyQ Try.prog Try.f96.results.toList k) (initF [v0, v1, v2, v3, v4]) w = S96 v0 v1 v2 v3 v4 k w := by kernel_rfl
theorem enter96 {v0 v1 v2 v3 v4 : Value} {k : Value → World → Prop} {w : World} (h : S96 v0 v1 v2 v3 v4 k w) : CallK Try.prog 96 [v0, v1, v2, v3, v4] k w :=
  call_of_wpF (pl := pl96) mixed Try.func96 body96 (by kernel_rfl) (of_decide_eq_true (by kernel_rfl)) (by kernel_rfl) (by kernel_rfl) (same96 v0 v1 v2 v3 v4 k w ▸ h)

/-! slices.Delete[[]int,int] -/
/-! slices.Insert[[]int,int] -/
/-! slices.rotateRight[int] -/
/-! slices.rotateLeft[int] -/
/-! slices.Reverse[[]int,int] -/
end Go.Proofs.Ytegcjkhebecgbaa
