/- Texts of this repository put together: Bf, ShS1, ShQ3, ShQ4, ShQ5, ShQ6, ShQ7, ShQ8, ShS2, ShS3, ShS4, ShC3, ShC5, ShT1, ShQ9, Bg, ShU1, ShG7, ShZ8, Cb, Ce, ShE1, ShE2, ShE4, ShE5, Cc, ShF1, ShU2, ShH6, Bm, ShJ0, ShU4, ShU5, ShU6. -/
import Derived.Test.YtegcjkhebecgbaaProg
import Derived.Test.YtegcjkhebecgbaaKFinitea
import Derived.Test.YtegcjkhebecgbaaKFiniteb

/- Bf: bodies of functions as terms of the frame calculus, printed by shgen.py of this repository. -/
set_option linter.unusedVariables false
set_option maxRecDepth 100000
namespace Go.Proofs.Ytegcjkhebecgbaa
open Go Go.Sh

/-! loop.example/g00758/spec.IsPump -/
/-! loop.example/g00758/impl.IsPump -/
/-! loop.example/g00758/impl.isWord -/
/-! loop.example/g00758/spec.GoodWord -/
/-! loop.example/g00758/spec.l4In -/
/-! (loop.example/g00758/impl.Grammar).spans -/
def pl151 : Plans := fun i => match i with
  | 14 => ⟨false, [18], .step 0 .any (.step 1 .any (.step 2 .held (.step 3 .any (.step 4 .any (.step 5 .any (.step 6 .any (.step 7 .any (.step 8 .any (.step 9 .any (.step 10 .held (.step 11 .any (.step 12 .any (.step 13 .any (.step 14 .any (.step 15 .held (.step 16 .any (.step 17 .any (.step 18 .last (.step 19 .any (.nil))))))))))))))))))))⟩
  | 15 => ⟨false, [10], .step 0 .any (.step 1 .any (.step 2 .held (.step 3 .any (.step 4 .any (.step 5 .any (.step 6 .any (.step 7 .any (.step 8 .any (.step 9 .any (.step 10 .last (.nil)))))))))))⟩
  | _ => ⟨false, [], .nil⟩
def S151 (v0 v1 : Value) (k : Value → World → Prop) (w : World) : Prop :=
 Do Try.prog (sBox 26 v0) (fun t1 w2 =>
 Rd Try.prog (WS.at w2) (sBuild 124 [(0, v1)]) fun t3 =>
 Do Try.prog (sBox 124 t3) (fun t4 w5 =>
 LoopF [14, 6, 15, 16, 17, 18, 19, 20, 21, 8, 22, 23, 24, 25, 26, 27, 9, 28, 10, 29, 30, 31, 32, 35, 36, 37, 38, 39, 40, 41, 42, 43, 44, 45, 46, 47, 48, 49, 50, 51, 52, 53, 54, 55, 56, 57, 58, 59, 60, 61, 62, 63, 64, 6, 33, 34, 10, 65, 25, 66, 18] (fun Q6 f7 w8 =>
  CondK (f7 6)
   (Rd Try.prog (WS.at w8) (sFieldAddr 26 (f7 2) 2) fun t9 =>
   Rd Try.prog (WS.at w8) (sLoad 24 t9) fun t10 =>
   Rd Try.prog (WS.at w8) (sBuiltin .len #[24] 3 [false] [t10]) fun t11 =>
   LoopF [19, 20, 21, 8, 22, 23, 24, 25, 26, 27, 9, 28, 10, 29, 30, 31, 32, 35, 36, 37, 38, 39, 40, 41, 42, 43, 44, 45, 46, 47, 48, 49, 50, 51, 52, 53, 54, 55, 56, 57, 58, 59, 60, 61, 62, 63, 64, 6, 33, 34, 10, 65, 25, 66, 18] (fun Q12 f13 w14 =>
    Rd Try.prog (WS.at w14) (sBin .lss 3 false (f13 18) (f13 17)) fun t15 =>
    CondK t15
     (Rd Try.prog (WS.at w14) (sIndexAddr 24 (f13 16) (f13 18)) fun t16 =>
     Rd Try.prog (WS.at w14) (sLoad 33 t16) fun t17 =>
     Do Try.prog (sAlloc 33) (fun t18 w19 =>
     Do Try.prog (sStore 33 t18 t17) (fun _ w20 =>
     Rd Try.prog (WS.at w20) (sBuiltin .len #[27] 3 [false] [(f13 1)]) fun t21 =>
     Rd Try.prog (WS.at w20) (sBin .add 3 true t21 (.int .i64 1)) fun t22 =>
     LoopF [26, 27, 9, 28, 10, 29, 30, 31, 32, 35, 36, 37, 38, 39, 40, 41, 42, 43, 44, 45, 46, 47, 48, 49, 50, 51, 52, 53, 54, 55, 56, 57, 58, 59, 60, 61, 62, 63, 64, 6, 33, 34, 10, 65, 25] (fun Q23 f24 w25 =>
      Rd Try.prog (WS.at w25) (sBin .lss 3 false (f24 25) (f24 24)) fun t26 =>
      CondK t26
       (LoopF [29, 30, 31, 32, 35, 36, 37, 38, 39, 40, 41, 42, 43, 44, 45, 46, 47, 48, 49, 50, 51, 52, 53, 54, 55, 56, 57, 58, 59, 60, 61, 62, 63, 64, 6, 33, 34, 10] (fun Q27 f28 w29 =>
        Rd Try.prog (WS.at w29) (sBuiltin .len #[27] 3 [false] [(f28 1)]) fun t30 =>
        Rd Try.prog (WS.at w29) (sBin .leq 3 false (f28 10) t30) fun t31 =>
        CondK t31
         (Join (fun K32 =>
         Rd Try.prog WS.any (sFieldAddr 33 (f28 8) 0) fun t35 =>
         Rd Try.prog (WS.at w29.drew) (sLoad 3 t35) fun t36 =>
         Rd Try.prog WS.any (sNilCheck (f28 5)) fun t37 =>
         Rd Try.prog WS.any (sFieldAddr 124 t37 1) fun t38 =>
         Rd Try.prog WS.any (sIndexAddr 122 t38 t36) fun t39 =>
         Rd Try.prog WS.any (sIndexAddr 121 t39 (f28 9)) fun t40 =>
         Rd Try.prog WS.any (sIndexAddr 120 t40 (f28 10)) fun t41 =>
         Rd Try.prog (WS.at w29.drew) (sLoad 4 t41) fun t42 =>
         Rd Try.prog WS.any (sUn .not t42) fun t43 =>
         GuardK t43 true (fun k w' => k (f28 5) w') (fun t44 w45 =>
         GuardK t43 true (fun k w' => Rd Try.prog WS.any (sFieldAddr 33 (f28 8) 1) fun v => k v w') (fun t46 w47 =>
         GuardK t43 true (fun k w' => Rd Try.prog (WS.at w29.drew) (sLoad 27 t46) fun v => k v w') (fun t48 w49 =>
         GuardK t43 true (fun k w' => k (f28 9) w') (fun t50 w51 =>
         GuardK t43 true (fun k w' => k (f28 10) w') (fun t52 w53 =>
         GuardK t43 true (fun k w' => CallK Try.prog 155 [t44, t48, t50, t52] k w') (fun t54 w55 =>
         Rd Try.prog WS.any (sPick t43 t54 (.bool false)) fun t56 =>
         CondK t56
          (Rd Try.prog WS.any (sFieldAddr 33 (f28 8) 0) fun t57 =>
          Rd Try.prog (WS.at w55.drew) (sLoad 3 t57) fun t58 =>
          Rd Try.prog WS.any (sNilCheck (f28 5)) fun t59 =>
          Rd Try.prog WS.any (sFieldAddr 124 t59 1) fun t60 =>
          Rd Try.prog WS.any (sIndexAddr 122 t60 t58) fun t61 =>
          Rd Try.prog WS.any (sIndexAddr 121 t61 (f28 9)) fun t62 =>
          Rd Try.prog WS.any (sIndexAddr 120 t62 (f28 10)) fun t63 =>
          Do Try.prog (sStore 4 t63 (.bool true)) (fun _ w64 =>
          K32 (F.upd (F.upd (F.upd (F.upd (F.upd (F.upd (F.upd (F.upd (F.upd (F.upd (F.upd (F.upd (F.upd (F.upd (F.upd (F.upd (F.upd (F.upd (F.upd (F.upd (F.upd (F.upd (F.upd (F.upd (F.upd (F.upd (F.upd (F.upd (F.upd (F.upd (F.upd (F.upd (F.upd (F.upd (F.upd f28 29 (f28 10)) 30 (f28 1)) 31 t30) 32 t31) 35 (f28 5)) 36 t35) 37 t36) 38 (f28 9)) 39 (f28 10)) 40 t37) 41 t38) 42 t39) 43 t40) 44 t41) 45 t42) 46 t43) 47 t43) 48 t44) 49 t46) 50 t48) 51 t50) 52 t52) 53 t54) 54 t56) 55 (f28 5)) 56 t57) 57 t58) 58 (f28 9)) 59 (f28 10)) 60 t59) 61 t60) 62 t61) 63 t62) 64 t63) 6 (.bool true)) w64) w55.drew)
          (K32 (F.upd (F.upd (F.upd (F.upd (F.upd (F.upd (F.upd (F.upd (F.upd (F.upd (F.upd (F.upd (F.upd (F.upd (F.upd (F.upd (F.upd (F.upd (F.upd (F.upd (F.upd (F.upd (F.upd (F.upd f28 29 (f28 10)) 30 (f28 1)) 31 t30) 32 t31) 35 (f28 5)) 36 t35) 37 t36) 38 (f28 9)) 39 (f28 10)) 40 t37) 41 t38) 42 t39) 43 t40) 44 t41) 45 t42) 46 t43) 47 t43) 48 t44) 49 t46) 50 t48) 51 t50) 52 t52) 53 t54) 54 t56) w55)) w53) w51) w49) w47) w45) w29.drew) (fun f33 w34 =>
         Rd Try.prog (WS.at w34) (sBin .add 3 true (f33 10) (.int .i64 1)) fun t65 =>
         Q27 .normal (F.upd (F.upd (F.upd f33 33 (f33 10)) 34 t65) 10 t65) w34))
         (Q27 (.exit 6) (F.upd (F.upd (F.upd (F.upd f28 29 (f28 10)) 30 (f28 1)) 31 t30) 32 t31) w29))
        (blockQ 6 (blockQ 5 (seqQ (fun f66 w67 =>
       Rd Try.prog (WS.at w67) (sBin .add 3 true (f66 25) (.int .i64 1)) fun t68 =>
       Q23 .normal (F.upd (F.upd f66 65 t68) 25 t68) w67) Q23)))
        (F.upd (F.upd (F.upd (F.upd (F.upd f24 26 t26) 27 (f24 25)) 9 (f24 25)) 28 (f24 25)) 10 (f24 25)) w25)
       (Q23 (.exit 4) (F.upd f24 26 t26) w25))
      (blockQ 4 (blockQ 3 (seqQ (fun f69 w70 =>
     Rd Try.prog (WS.at w70) (sBin .add 3 true (f69 18) (.int .i64 1)) fun t71 =>
     Q12 .normal (F.upd (F.upd f69 66 t71) 18 t71) w70) Q12)))
      (F.upd (F.upd (F.upd (F.upd (F.upd (F.upd (F.upd (F.upd f13 19 t15) 20 t16) 21 t17) 8 t18) 22 (f13 1)) 23 t21) 24 t22) 25 (.int .i64 0)) w20) w19) w14)
     (Q12 (.exit 2) (F.upd f13 19 t15) w14))
    (blockQ 2 (blockQ 1 Q6))
    (F.upd (F.upd (F.upd (F.upd (F.upd (F.upd f7 14 (f7 6)) 6 (.bool false)) 15 t9) 16 t10) 17 t11) 18 (.int .i64 0)) w8)
   (Q6 (.exit 0) (F.upd f7 14 (f7 6)) w8))
  (blockQ 0 (seqQ (fun f72 w73 =>
 k (f72 5) w73) (bodyQ Try.prog [.tmp 4] k)))
  (F.upd (F.upd (F.upd (F.upd (F.upd (F.upd (F.upd (initF [v0, v1]) 2 t1) 4 (.pointer none)) 11 v1) 12 t3) 13 t4) 5 t4) 6 (.bool true)) w5) w2) w
theorem body151 : Try.f151.body = some (bodyOf Try.f151) := by kernel_rfl
theorem same151 (v0 v1 : Value) (k : Value → World → Prop) (w : World) : wpF Try.prog pl151 (bodyOf Try.f151) (bodyQ Try.prog Try.f151.results.toList k) (initF [v0, v1]) w = S151 v0 v1 k w := by kernel_rfl
theorem enter151 {v0 v1 : Value} {k : Value → World → Prop} {w : World} (h : S151 v0 v1 k w) : CallK Try.prog 151 [v0, v1] k w :=
  call_of_wpF (pl := pl151) mixed Try.func151 body151 (by kernel_rfl) (of_decide_eq_true (by kernel_rfl)) (by kernel_rfl) (by kernel_rfl) (Eq.mpr (same151 v0 v1 k w) h)

/-! loop.example/g00758/spec.l1Word -/
/-! loop.example/g00758/impl.isWord$1 -/
/-! loop.example/g00758/spec.l4Table -/
/-! (*loop.example/g00758/impl.table).sequence -/
def pl155 : Plans := fun _ => ⟨false, [], .nil⟩
def S155 (v0 v1 v2 v3 : Value) (k : Value → World → Prop) (w : World) : Prop :=
 Rd Try.prog (WS.at w) (sBuiltin .len #[27] 3 [false] [v1]) fun t1 =>
 Rd Try.prog (WS.at w) (sBin .eql 3 true t1 (.int .i64 0)) fun t2 =>
 CondK t2
  (Rd Try.prog (WS.at w) (sBin .eql 3 false v2 v3) fun t3 =>
  k t3 w)
  (Rd Try.prog (WS.at w) (sIndexAddr 27 v1 (.int .i64 0)) fun t4 =>
  Rd Try.prog (WS.at w) (sLoad 3 t4) fun t5 =>
  Rd Try.prog (WS.at w) (sBin .lss 3 true t5 (.int .i64 0)) fun t6 =>
  CondK t6
   (Rd Try.prog (WS.at w) (sBin .lss 3 false v2 v3) fun t7 =>
   GuardK t7 true (fun k w' => k v0 w') (fun t8 w9 =>
   GuardK t7 true (fun k w' => Rd Try.prog (WS.at w9) (sNilCheck t8) fun v => k v w') (fun t10 w11 =>
   GuardK t7 true (fun k w' => Rd Try.prog (WS.at w11) (sFieldAddr 124 t10 0) fun v => k v w') (fun t12 w13 =>
   GuardK t7 true (fun k w' => Rd Try.prog (WS.at w13) (sLoad 27 t12) fun v => k v w') (fun t14 w15 =>
   GuardK t7 true (fun k w' => k v2 w') (fun t16 w17 =>
   GuardK t7 true (fun k w' => Rd Try.prog (WS.at w17) (sIndexAddr 27 t14 t16) fun v => k v w') (fun t18 w19 =>
   GuardK t7 true (fun k w' => Rd Try.prog (WS.at w19) (sLoad 3 t18) fun v => k v w') (fun t20 w21 =>
   GuardK t7 true (fun k w' => CallK Try.prog 254 [t20] k w') (fun t22 w23 =>
   GuardK t7 true (fun k w' => k t5 w') (fun t24 w25 =>
   GuardK t7 true (fun k w' => Rd Try.prog (WS.at w25) (sBin .eql 3 false t22 t24) fun v => k v w') (fun t26 w27 =>
   Rd Try.prog (WS.at w27) (sPick t7 t26 (.bool false)) fun t28 =>
   GuardK t28 true (fun k w' => k v0 w') (fun t29 w30 =>
   GuardK t28 true (fun k w' => k v1 w') (fun t31 w32 =>
   GuardK t28 true (fun k w' => Rd Try.prog (WS.at w32) (sSlice 27 t31 (some (.int .i64 1)) none none) fun v => k v w') (fun t33 w34 =>
   GuardK t28 true (fun k w' => k v2 w') (fun t35 w36 =>
   GuardK t28 true (fun k w' => Rd Try.prog (WS.at w36) (sBin .add 3 true t35 (.int .i64 1)) fun v => k v w') (fun t37 w38 =>
   GuardK t28 true (fun k w' => k v3 w') (fun t39 w40 =>
   GuardK t28 true (fun k w' => CallK Try.prog 155 [t29, t33, t37, t39] k w') (fun t41 w42 =>
   Rd Try.prog (WS.at w42) (sPick t28 t41 (.bool false)) fun t43 =>
   k t43 w42) w40) w38) w36) w34) w32) w30) w27) w25) w23) w21) w19) w17) w15) w13) w11) w9) w)
   (LoopF [47, 48, 49, 52, 53, 54, 55, 56, 57, 58, 59, 60, 61, 62, 63, 64, 65, 66, 67, 68, 69, 8, 50, 51, 10] (fun Q44 f45 w46 =>
    Rd Try.prog (WS.at w46) (sBin .leq 3 false (f45 10) (f45 3)) fun t47 =>
    CondK t47
     (Rd Try.prog (WS.at w46) (sNilCheck (f45 0)) fun t48 =>
     Rd Try.prog (WS.at w46) (sFieldAddr 124 t48 1) fun t49 =>
     Rd Try.prog (WS.at w46) (sIndexAddr 122 t49 (f45 9)) fun t50 =>
     Rd Try.prog (WS.at w46) (sIndexAddr 121 t50 (f45 2)) fun t51 =>
     Rd Try.prog (WS.at w46) (sIndexAddr 120 t51 (f45 10)) fun t52 =>
     Rd Try.prog (WS.at w46) (sLoad 4 t52) fun t53 =>
     GuardK t53 true (fun k w' => k (f45 0) w') (fun t54 w55 =>
     GuardK t53 true (fun k w' => k (f45 1) w') (fun t56 w57 =>
     GuardK t53 true (fun k w' => Rd Try.prog (WS.at w57) (sSlice 27 t56 (some (.int .i64 1)) none none) fun v => k v w') (fun t58 w59 =>
     GuardK t53 true (fun k w' => k (f45 10) w') (fun t60 w61 =>
     GuardK t53 true (fun k w' => k (f45 3) w') (fun t62 w63 =>
     GuardK t53 true (fun k w' => CallK Try.prog 155 [t54, t58, t60, t62] k w') (fun t64 w65 =>
     Rd Try.prog (WS.at w65) (sPick t53 t64 (.bool false)) fun t66 =>
     CondK t66
      (Q44 .ret (F.upd (F.upd (F.upd (F.upd (F.upd (F.upd (F.upd (F.upd (F.upd (F.upd (F.upd (F.upd (F.upd (F.upd (F.upd (F.upd (F.upd (F.upd (F.upd (F.upd (F.upd (F.upd f45 47 (f45 10)) 48 (f45 3)) 49 t47) 52 (f45 0)) 53 (f45 9)) 54 (f45 2)) 55 (f45 10)) 56 t48) 57 t49) 58 t50) 59 t51) 60 t52) 61 t53) 62 t53) 63 t54) 64 t56) 65 t58) 66 t60) 67 t62) 68 t64) 69 t66) 8 (.bool true)) w65)
      (Rd Try.prog (WS.at w65) (sBin .add 3 true (f45 10) (.int .i64 1)) fun t67 =>
      Q44 .normal (F.upd (F.upd (F.upd (F.upd (F.upd (F.upd (F.upd (F.upd (F.upd (F.upd (F.upd (F.upd (F.upd (F.upd (F.upd (F.upd (F.upd (F.upd (F.upd (F.upd (F.upd (F.upd (F.upd (F.upd f45 47 (f45 10)) 48 (f45 3)) 49 t47) 52 (f45 0)) 53 (f45 9)) 54 (f45 2)) 55 (f45 10)) 56 t48) 57 t49) 58 t50) 59 t51) 60 t52) 61 t53) 62 t53) 63 t54) 64 t56) 65 t58) 66 t60) 67 t62) 68 t64) 69 t66) 50 (f45 10)) 51 t67) 10 t67) w65)) w63) w61) w59) w57) w55) w46)
     (Q44 (.exit 0) (F.upd (F.upd (F.upd f45 47 (f45 10)) 48 (f45 3)) 49 t47) w46))
    (blockQ 0 (seqQ (fun f68 w69 =>
   k (.bool false) w69) (bodyQ Try.prog [.tmp 8] k)))
    (F.upd (F.upd (F.upd (F.upd (F.upd (F.upd (F.upd (F.upd (F.upd (F.upd (F.upd (F.upd (initF [v0, v1, v2, v3]) 8 (.bool false)) 11 v1) 12 t1) 13 t2) 17 v1) 18 t4) 19 t5) 9 t5) 20 t5) 21 t6) 46 v2) 10 v2) w))
theorem body155 : Try.f155.body = some (bodyOf Try.f155) := by kernel_rfl
theorem same155 (v0 v1 v2 v3 : Value) (k : Value → World → Prop) (w : World) : wpF Try.prog pl155 (bodyOf Try.f155) (bodyQ Try.prog Try.f155.results.toList k) (initF [v0, v1, v2, v3]) w = S155 v0 v1 v2 v3 k w := by kernel_rfl
theorem enter155 {v0 v1 v2 v3 : Value} {k : Value → World → Prop} {w : World} (h : S155 v0 v1 v2 v3 k w) : CallK Try.prog 155 [v0, v1, v2, v3] k w :=
  call_of_wpF (pl := pl155) mixed Try.func155 body155 (by kernel_rfl) (of_decide_eq_true (by kernel_rfl)) (by kernel_rfl) (by kernel_rfl) (Eq.mpr (same155 v0 v1 v2 v3 k w) h)

/-! loop.example/g00758/spec.l4Fits -/
/-! loop.example/g00758/spec.l4Symbol -/
end Go.Proofs.Ytegcjkhebecgbaa

/- Contracts: what derives a part of a word, by the reference. -/
set_option linter.unusedVariables false
set_option linter.unusedSimpArgs false
set_option maxRecDepth 100000
namespace Go.Sh
open Go
/-- The reference's table in memory. -/
structure TabS (w : World) (U : Option Addr) (nons n : Nat) (T : Tab) : Prop where
  ptr : 0 < nons → U = some (ad U)
  row : ∀ x, x < nons → ∃ R c, w.cell? ((ad U).add x) = some (.slice R (n * n) c) ∧ R = some (ad R) ∧ ∀ i j, i < n → j < n → w.cell? ((ad R).add (i * n + j)) = some (.bool (T x i j))
theorem TabS.gr {w w' : World} {U : Option Addr} {nons n : Nat} {T : Tab} (h : TabS w U nons n T) (g : Gr w w') : TabS w' U nons n T := ⟨h.ptr, fun x hx => by
  obtain ⟨R, c, h1, h2, h3⟩ := h.row x hx
  exact ⟨R, c, g.cell h1, h2, fun i j hi hj => g.cell (h3 i j hi hj)⟩⟩
theorem place_lt {n i j : Nat} (hi : i < n) (hj : j < n) : i * n + j < n * n := by
  have : (i + 1) * n ≤ n * n := Nat.mul_le_mul_right n hi
  rw [Nat.add_mul] at this
  omega
theorem foldl_range {α : Type} (f : α → Nat → α) (s : α) (n : Nat) : (List.range (n + 1)).foldl f s = f ((List.range n).foldl f s) n := by
  rw [List.range_succ, List.foldl_append]
  rfl
theorem foldl_range' {α : Type} (f : α → Nat → α) (s : α) (a n : Nat) : (List.range' a (n + 1)).foldl f s = f ((List.range' a n).foldl f s) (a + n) := by
  rw [List.range'_concat, List.foldl_append]
  simp
theorem foldl_take {α : Type} (f : α → RuleL → α) (s : α) (rs : List RuleL) {n : Nat} (h : n < rs.length) : (rs.take (n + 1)).foldl f s = f ((rs.take n).foldl f s) (rul rs n) := by
  rw [List.take_succ_eq_append_getElem h, List.foldl_append, rul_eq h]
  rfl
end Go.Sh
namespace Go.Proofs.Ytegcjkhebecgbaa
open Go Go.Sh Go.RowKit

end Go.Proofs.Ytegcjkhebecgbaa

/- Contract: the parts of a tree, told by the reference. -/
set_option linter.unusedVariables false
set_option linter.unusedSimpArgs false
set_option maxRecDepth 100000
namespace Go.Sh
open Go
end Go.Sh
namespace Go.Proofs.Ytegcjkhebecgbaa
open Go Go.Sh Go.RowKit

end Go.Proofs.Ytegcjkhebecgbaa

/- Contracts: the parts of a tree in memory, and the two that can be pumped, by the program. -/
set_option linter.unusedVariables false
set_option linter.unusedSimpArgs false
set_option maxRecDepth 100000
namespace Go.Sh
open Go
end Go.Sh
namespace Go.Proofs.Ytegcjkhebecgbaa
open Go Go.Sh Go.RowKit

end Go.Proofs.Ytegcjkhebecgbaa

/- Contracts: what of a tree can be pumped, by the reference. -/
set_option linter.unusedVariables false
set_option linter.unusedSimpArgs false
set_option maxRecDepth 100000
namespace Go.Sh
open Go
/-- The whole tree that a list of rules is. -/
structure Whole (gm : Gram) (tree : List Int) (p : PT) (ws : List Int) : Prop where
  good : goodG gm = true
  le : tree.length ≤ 60
  read : readT gm.rules tree tree.length 0 0 [] = some (p, ws)
  fin : p.fin = tree.length
theorem Whole.laid {gm : Gram} {tree : List Int} {p : PT} {ws : List Int} (h : Whole gm tree p ws) : Laid p.parts 0 := (readT_laid _ _ _ _ _ _ _ _ h.read).1
theorem Whole.len {gm : Gram} {tree : List Int} {p : PT} {ws : List Int} (h : Whole gm tree p ws) : p.parts.length = tree.length := by
  have := (readT_laid _ _ _ _ _ _ _ _ h.read).2.1
  have := h.fin
  omega
theorem Whole.words {gm : Gram} {tree : List Int} {p : PT} {ws : List Int} (h : Whole gm tree p ws) : ws.length ≤ 240 := by
  have := (readT_words (good_rule h.good) _ _ _ _ _ _ h.read).2
  have := h.len
  have := h.le
  simp at *
  omega
theorem asked_whole {gm : Gram} {tree : List Int} : (askedT gm tree = true → ∃ p ws, Whole gm tree p ws) ∧ (askedT gm tree = false → ∀ p ws, ¬ Whole gm tree p ws) := by
  have he := endT_eq gm.rules tree tree.length 0 0 []
  constructor
  · intro h
    simp only [askedT, isT, Bool.and_eq_true, decide_eq_true_eq] at h
    rw [h.2.2] at he
    cases hz : readT gm.rules tree tree.length 0 0 [] with
    | none => rw [hz] at he; cases he
    | some z =>
      rw [hz] at he
      exact ⟨z.1, z.2, h.1.1, h.1.2, hz, by simpa using he.symm⟩
  · intro h p ws hw
    have h1 : askedT gm tree = true := by
      simp only [askedT, isT, Bool.and_eq_true, decide_eq_true_eq]
      refine ⟨⟨hw.good, hw.le⟩, ?_, ?_⟩
      · have := hw.len
        rw [parts_cons] at this
        simp at this
        omega
      · rw [he, hw.read]
        simp [hw.fin]
    rw [h] at h1
    cases h1
end Go.Sh
namespace Go.Proofs.Ytegcjkhebecgbaa
open Go Go.Sh Go.RowKit

end Go.Proofs.Ytegcjkhebecgbaa

/- Contracts: PumpOf, PathIn, PumpTree of the reference. -/
set_option linter.unusedVariables false
set_option linter.unusedSimpArgs false
set_option maxRecDepth 100000
namespace Go.Sh
open Go
def wholeP (gm : Gram) (tree : List Int) : Option PT := if askedT gm tree = true then (readT gm.rules tree tree.length 0 0 []).map fun z => z.1 else none
theorem Whole.eq {gm : Gram} {tree : List Int} {p : PT} {ws : List Int} (h : Whole gm tree p ws) : wholeP gm tree = some p := by
  have ha : askedT gm tree = true := by
    cases e : askedT gm tree with
    | true => rfl
    | false => exact absurd h (asked_whole.2 e p ws)
  unfold wholeP
  rw [if_pos ha, h.read]
  rfl
end Go.Sh
namespace Go.Proofs.Ytegcjkhebecgbaa
open Go Go.Sh Go.RowKit

end Go.Proofs.Ytegcjkhebecgbaa

/- Contract: the first two parts that can be pumped, by the program. -/
set_option linter.unusedVariables false
set_option linter.unusedSimpArgs false
set_option maxRecDepth 100000
namespace Go.Proofs.Ytegcjkhebecgbaa
open Go Go.Sh Go.RowKit

end Go.Proofs.Ytegcjkhebecgbaa

/- Contract: the tree that a list of rules begins with, read by the program. -/
set_option linter.unusedVariables false
set_option linter.unusedSimpArgs false
set_option maxRecDepth 100000
namespace Go.Sh
open Go
theorem AllPt.same {F : Nat → Prop} {w w' : World} {ps : List PT} {bs : List Nat} (h : AllPt F w ps bs) (hs : ∀ q, F q → w'.heap[q]? = w.heap[q]?) : AllPt F w' ps bs := ⟨h.1, fun i hi => PartAt.same hs _ _ (h.2 i hi)⟩
theorem AllPt.mono {F E : Nat → Prop} {w : World} {ps : List PT} {bs : List Nat} (h : AllPt F w ps bs) (he : ∀ q, F q → E q) : AllPt E w ps bs := ⟨h.1, fun i hi => PartAt.mono he _ _ (h.2 i hi)⟩
theorem good_symb {g : Gram} (hg : goodG g = true) {q : Nat} (hq : q < g.rules.length) {i : Nat} (hi : i < (rul g.rules q).2.length) : -4 ≤ (rul g.rules q).2.getD i 0 ∧ (rul g.rules q).2.getD i 0 ≤ 5 ∧ -g.toks ≤ (rul g.rules q).2.getD i 0 ∧ (rul g.rules q).2.getD i 0 ≤ g.nons - 1 := by
  have hn := good_nons hg
  have ht := good_toks hg
  simp only [goodG, Bool.and_eq_true, List.all_eq_true] at hg
  have h1 := hg.2 q (List.mem_range.2 hq)
  simp only [goodR, Bool.and_eq_true, List.all_eq_true] at h1
  have h2 := h1.1.2 _ (getD_mem hi)
  simp only [symB, inB, Bool.and_eq_true, decide_eq_true_eq] at h2
  omega
end Go.Sh
namespace Go.Proofs.Ytegcjkhebecgbaa
open Go Go.Sh Go.RowKit
theorem symbolOf_c {x : Int} {w : World} {k : Value → World → Prop} (hk : k (.int .i64 (IntKind.i64.wrap (-1 - x))) w) : CallK Try.prog 254 [.int .i64 x] k w := by
  refine enter254 ?_
  unfold S254
  simp only [go_sem, Nat.reduceEqDiff]
  exact hk
abbrev readF (bR bG bW bF : Nat) : Value := .func (.func 260) #[] #[ptrv bR, ptrv bG, ptrv bW, ptrv bF]
end Go.Proofs.Ytegcjkhebecgbaa

/- Contracts: what derives a part of a word, by the program. -/
set_option linter.unusedVariables false
set_option linter.unusedSimpArgs false
set_option maxRecDepth 100000
namespace Go.Sh
open Go
def cellsT (T : Tab) : List Value := (List.range 726).map fun p => .bool (cellT T p)
theorem cellsT_length (T : Tab) : (cellsT T).length = 726 := by simp [cellsT]
theorem cellT_at {T : Tab} {x i j : Nat} (hi : i < 11) (hj : j < 11) : cellT T (x * 121 + i * 11 + j) = T x i j := by
  have e1 : (x * 121 + i * 11 + j) / 121 = x := by omega
  have e2 : (x * 121 + i * 11 + j) / 11 % 11 = i := by omega
  have e3 : (x * 121 + i * 11 + j) % 11 = j := by omega
  simp [cellT, e1, e2, e3]
theorem cellsT_at {T : Tab} {v : Value} {x i j : Nat} (hx : x < 6) (hi : i < 11) (hj : j < 11) : (v :: cellsT T)[x * 121 + i * 11 + j + 1]? = some (.bool (T x i j)) := by
  rw [List.getElem?_cons_succ]
  simp only [cellsT, List.getElem?_map]
  rw [List.getElem?_range (by omega)]
  simp only [Option.map_some, cellT_at hi hj]
theorem cellsT_put {T : Tab} {v : Value} {x i j : Nat} (hx : x < 6) (hi : i < 11) (hj : j < 11) : (v :: cellsT T).set (x * 121 + i * 11 + j + 1) (.bool true) = v :: cellsT (T.put x i j) := by
  rw [List.set_cons_succ]
  congr 1
  refine List.ext_getElem? fun p => ?_
  rw [List.getElem?_set]
  by_cases hp : x * 121 + i * 11 + j = p
  · subst hp
    rw [if_pos rfl, if_pos (by rw [cellsT_length]; omega)]
    simp only [cellsT, List.getElem?_map]
    rw [List.getElem?_range (by omega)]
    simp only [Option.map_some, cellT_at hi hj]
    simp [Tab.put]
  · rw [if_neg hp]
    simp only [cellsT, List.getElem?_map]
    by_cases hlt : p < 726
    · rw [List.getElem?_range hlt]
      simp only [Option.map_some, cellT, Tab.put]
      have : ¬ (p / 121 = x ∧ p / 11 % 11 = i ∧ p % 11 = j) := by omega
      rw [if_neg this]
    · rw [List.getElem?_eq_none (by simp; omega)]
      rfl
theorem take_put_drop {l : List Value} {m : Nat} {v : Value} (h : m < l.length) : l.take m ++ [v] ++ l.drop (m + 1) = l.set m v := by
  rw [List.set_eq_take_append_cons_drop, if_pos h]
  simp
end Go.Sh
namespace Go.Proofs.Ytegcjkhebecgbaa
open Go Go.Sh Go.RowKit

theorem sequence_c {ws : List Int} (hl : ws.length ≤ 10) (hw : ∀ t ∈ ws, 0 ≤ t ∧ t ≤ 100) : ∀ (right : List Int) {w : World} {b : Nat} {X Y : Option Addr} {cx cy : Nat} {T : Tab} {i j : Nat} {k : Value → World → Prop}, Box w b (.slice X ws.length cx :: cellsT T) 124 → Ints w X ws → Ints w Y right → right.length ≤ cy → (∀ x ∈ right, x < 6 ∧ -100 ≤ x) → i ≤ j → j ≤ ws.length → k (.bool (fitsT T ws right i j)) w →
    CallK Try.prog 155 [ptrv b, .slice Y right.length cy, .int .i64 i, .int .i64 j] k w := by
  intro right
  induction right with
  | nil =>
    intro w b X Y cx cy T i j k hB hX hY hcy hr hi hj hk
    refine enter155 ?_
    unfold S155
    simp only [go_sem, List.length_nil]
    simp only [Int.natCast_zero, decide_true, go_sem, Nat.reduceEqDiff, Int.natCast_inj]
    exact hk
  | cons x right ih =>
    intro w b X Y cx cy T i j k hB hX hY hcy hr hi hj hk
    refine enter155 ?_
    unfold S155
    simp only [go_sem, List.length_cons]
    simp only [show ¬ (((right.length + 1 : Nat) : Int) = 0) from by omega, decide_false, go_sem, Nat.reduceEqDiff]
    have hx := hr x (List.mem_cons_self ..)
    have hr' : ∀ y ∈ right, y < 6 ∧ -100 ≤ y := fun y hy => hr y (List.mem_cons_of_mem _ hy)
    simp only [List.length_cons] at hcy
    have hY' : Ints w (sub Y 1 cy 1) right := by
      have := hY.sub (l := 1) (c := cy) (by simp) (by simp; omega) (right.length)
      simpa using this
    rw [ix27_0 (fun _ => hY.ptr (by simp)) (by omega), ld3 (hY.cell 0 (by simp))]
    simp only [List.getD_cons_zero, go_sem, Nat.reduceEqDiff]
    by_cases hneg : x < 0
    · simp only [hneg, decide_true, go_sem, Nat.reduceEqDiff]
      rw [fits_tok hneg] at hk
      by_cases hij : i < j
      case neg =>
        simp only [show ¬ ((i : Int) < j) from by omega, decide_false, go_sem, Nat.reduceEqDiff]
        simpa only [hij, decide_false, Bool.false_and] using hk
      simp only [show ((i : Int) < j) from by omega, decide_true, go_sem, Nat.reduceEqDiff]
      rw [decide_eq_true hij, Bool.true_and] at hk
      rw [ldB27 hB rfl, ixn27 hX.ptr (by omega), ld3 (hX.cell i (by omega))]
      refine symbolOf_c ?_
      have hwi := hw _ (getD_mem (show i < ws.length by omega))
      rw [i64_of (by omega) (by omega)]
      simp only [go_sem, Nat.reduceEqDiff]
      by_cases he : ws.getD i 0 = -1 - x
      case neg =>
        simp only [show ¬ (-1 - ws.getD i 0 = x) from by omega, decide_false, go_sem, Nat.reduceEqDiff]
        simpa only [he, decide_false, Bool.false_and] using hk
      simp only [show (-1 - ws.getD i 0 = x) from by omega, decide_true, go_sem, Nat.reduceEqDiff]
      rw [decide_eq_true he, Bool.true_and] at hk
      rw [sll27 (by decide) (by omega), i64_of (by omega) (by omega)]
      rw [show (1 : Int).toNat = 1 from rfl, Nat.add_sub_cancel]
      refine ih (i := i + 1) hB hX hY' (by omega) hr' (by omega) hj ?_
      exact hk
    · simp only [hneg, decide_false, go_sem, Nat.reduceEqDiff]
      rw [fits_non hneg] at hk
      obtain ⟨x, rfl⟩ : ∃ x' : Nat, x = x' := ⟨x.toNat, by omega⟩
      rw [Int.toNat_natCast] at hk
      refine loop_to (j + 1) i (fun m f w' => i ≤ m ∧ m ≤ j + 1 ∧ f 10 = .int .i64 m ∧ (∀ m', i ≤ m' → m' < m → (T x i m' && fitsT T ws right m' j) = false) ∧ w' = w) ⟨Nat.le_refl _, by omega, rfl, fun m' h1 h2 => by omega, rfl⟩ ?_
      rintro m f w' N hag ⟨hm1, hm2, h10, hno, rfl⟩ hN
      have f0 : f 0 = ptrv b := hag 0 (by decide)
      have f1 : f 1 = .slice Y (right.length + 1) cy := hag 1 (by decide)
      have f2 : f 2 = .int .i64 i := hag 2 (by decide)
      have f3 : f 3 = .int .i64 j := hag 3 (by decide)
      have f9 : f 9 = .int .i64 (x : Nat) := hag 9 (by decide)
      simp only [f0, f1, f2, f3, f9, h10, go_sem, Nat.reduceEqDiff]
      by_cases hle : m ≤ j
      case neg =>
        simp only [show ¬ ((m : Int) ≤ j) from by omega, decide_false, go_sem, Nat.reduceEqDiff]
        rw [any_upto (fun m' h1 h2 => hno m' h1 (by omega))] at hk
        exact hk
      simp only [show ((m : Int) ≤ j) from by omega, decide_true, go_sem, Nat.reduceEqDiff]
      rw [ixa122 (by omega) (by omega), ixa121 (by omega) (by omega), ixa120 (by omega) (by omega)]
      simp only [Int.toNat_natCast, go_sem, Nat.reduceEqDiff]
      rw [ldB4 (off := 0 + 1 + x * 121 + i * 11 + m) hB (by rw [show 0 + 1 + x * 121 + i * 11 + m = x * 121 + i * 11 + m + 1 from by omega]; exact cellsT_at (by omega) (by omega) (by omega))]
      cases hs : T x i m
      · simp only [go_sem, Nat.reduceEqDiff]
        rw [i64_of (by omega) (by omega)]
        exact hN _ _ (by omega) ⟨by omega, by omega, rfl, fun m' h1 h2 => by
          by_cases e : m' = m
          · rw [e, hs, Bool.false_and]
          · exact hno m' h1 (by omega), rfl⟩
      · simp only [go_sem, Nat.reduceEqDiff]
        rw [sll27 (by decide) (by omega)]
        rw [show (1 : Int).toNat = 1 from rfl, Nat.add_sub_cancel]
        refine ih hB hX hY' (by omega) hr' (by omega) hj ?_
        cases hf : fitsT T ws right m j
        · simp only [go_sem, Nat.reduceEqDiff]
          rw [i64_of (by omega) (by omega)]
          exact hN _ _ (by omega) ⟨by omega, by omega, rfl, fun m' h1 h2 => by
            by_cases e : m' = m
            · rw [e, hf, Bool.and_false]
            · exact hno m' h1 (by omega), rfl⟩
        · simp only [go_sem, Nat.reduceEqDiff]
          rw [any_at hm1 hle (by rw [hs, hf]; rfl)] at hk
          exact hk
end Go.Proofs.Ytegcjkhebecgbaa

/- Contracts: the reference's table of what derives what. -/
set_option linter.unusedVariables false
set_option linter.unusedSimpArgs false
set_option maxRecDepth 100000
namespace Go.Sh
open Go
theorem madeCells_one (v : Value) (n : Nat) : (madeCells #[v] (n * 1)).toList = List.replicate n v := by
  rw [Nat.mul_one]
  refine List.ext_getElem? fun i => ?_
  unfold madeCells
  by_cases h : i < n
  · simp [h, Nat.mod_one]
  · rw [List.getElem?_eq_none (by simp; omega), List.getElem?_eq_none (by simp; omega)]
theorem set_td {α : Type} {xs ys : List α} {i : Nat} {a : α} (h : i < ys.length) (hl : xs.length = ys.length) (ha : xs[i]? = some a) : (xs.take i ++ ys.drop i).set i a = xs.take (i + 1) ++ ys.drop (i + 1) := by
  have hi : i < xs.length := by omega
  obtain rfl : xs[i] = a := by simpa [hi] using ha
  rw [List.take_succ_eq_append_getElem hi, List.set_append_right _ _ (by simp; omega)]
  rw [show i - (xs.take i).length = 0 from by simp; omega, List.drop_eq_getElem_cons h, List.set_cons_zero, List.append_assoc]
  rfl
def tabSt (rs : List RuleL) (ws : List Int) (s : Tab × Bool) : Prop := if s.2 = true then ∀ U, Span rs ws s.1 U → Span rs ws noTab U else Span rs ws noTab s.1
theorem tabSt_next {rs : List RuleL} {ws : List Int} {T : Tab} (h : tabSt rs ws (T, true)) : tabSt rs ws (passT rs ws (T, false)) := by
  unfold tabSt at h ⊢
  rw [if_pos rfl] at h
  cases hc : (passT rs ws (T, false)).2
  · rw [if_neg (by decide)]
    exact h _ (.done hc)
  · rw [if_pos rfl]
    exact fun U hU => h U (.more hc hU)
theorem good_right {g : Gram} (hg : goodG g = true) {q : Nat} (hq : q < g.rules.length) : ∀ x ∈ (rul g.rules q).2, x < g.nons ∧ -100 ≤ x := fun x hx => by
  obtain ⟨i, hi, rfl⟩ := List.getElem_of_mem hx
  have := good_symb hg hq hi
  rw [List.getD_eq_getElem?_getD, List.getElem?_eq_getElem hi] at this
  simp only [Option.getD_some] at this
  omega
theorem good_left {g : Gram} (hg : goodG g = true) {q : Nat} (hq : q < g.rules.length) : 0 ≤ (rul g.rules q).1 ∧ (rul g.rules q).1 ≤ g.nons - 1 := by
  simp only [goodG, Bool.and_eq_true, List.all_eq_true] at hg
  have h1 := hg.2 q (List.mem_range.2 hq)
  simp only [goodR, Bool.and_eq_true, inB, decide_eq_true_eq] at h1
  exact h1.1.1.1
theorem good_left6 {g : Gram} (hg : goodG g = true) : ∀ r ∈ g.rules, r.1.toNat < 6 := fun r hr => by
  obtain ⟨i, hi, rfl⟩ := List.getElem_of_mem hr
  have := good_left hg hi
  have := good_nons hg
  rw [rul_eq hi] at *
  omega
end Go.Sh
namespace Go.Proofs.Ytegcjkhebecgbaa
open Go Go.Sh Go.RowKit
theorem inf4' : Inf Try.prog 4 (.bool false) 1 1 := inf_of (by kernel_rfl)

end Go.Proofs.Ytegcjkhebecgbaa

/- Contract: the program's table of what derives what. -/
set_option linter.unusedVariables false
set_option linter.unusedSimpArgs false
set_option maxRecDepth 100000
namespace Go.Sh
open Go
theorem map_const_range (n : Nat) (v : Value) : (List.range n).map (fun _ => v) = List.replicate n v := by
  rw [List.map_const', List.length_range]
theorem cellsT_none : cellsT noTab = List.replicate 726 (.bool false) := map_const_range 726 (.bool false)
theorem fill_one {place : Nat → Option (Nat × Nat)} {cells : Array Value} {v : Value} (hp : place 0 = some (0, 1)) (hv : v.cells = #[v]) (h0 : 0 < cells.size) : Instr.fill place cells [(0, v)] = some (cells.setIfInBounds 0 v) := by
  simp only [Instr.fill, hp, hv]
  have e : (decide ((#[v] : Array Value).size ≠ 1) || decide (0 + (#[v] : Array Value).size > cells.size)) = false := by
    rw [Bool.or_eq_false_iff]
    exact ⟨by simp, decide_eq_false (by show ¬ (0 + 1 > cells.size); omega)⟩
  rw [if_neg (by rw [e]; exact Bool.false_ne_true)]
  simp
theorem set_head {a v : Value} {R : Array Value} : (#[a] ++ R).setIfInBounds 0 v = #[v] ++ R := by
  apply Array.ext'
  simp
theorem agg_pos (v : Value) (R : Array Value) : 0 < (Value.agg (#[v] ++ R)).cells.size := by
  show 0 < (#[v] ++ R).size
  simp
  omega
theorem agg_list (v : Value) (R : Array Value) : (Value.agg (#[v] ++ R)).cells.toList = v :: R.toList := by
  show (#[v] ++ R).toList = _
  simp
theorem rep_list (n : Nat) (v : Value) : (Array.replicate n v).toList = List.replicate n v := Array.toList_replicate
end Go.Sh
namespace Go.Proofs.Ytegcjkhebecgbaa
open Go Go.Sh Go.RowKit
theorem inf124' : Inf Try.prog 124 (.agg (#[.slice none 0 0] ++ Array.replicate 726 (.bool false))) 727 752 := inf_of (by kernel_rfl)
theorem sz122' : szOf Try.prog 122 726 := szOf_of (by kernel_rfl)
theorem bd124 (X : Option Addr) (n c : Nat) : ∃ z : Value, (∀ (S : WS) (k : Value → Prop), Rd Try.prog S (sBuild 124 [(0, .slice X n c)]) k = k z) ∧ z.cells.toList = .slice X n c :: cellsT noTab := by
  refine ⟨.agg (#[.slice X n c] ++ Array.replicate 726 (.bool false)), fun S k => ?_, ?_⟩
  · refine rd_buildN (ps := [(0, 1), (1, 726)]) Try.underlying124 inf124' ⟨⟨rfl, sz27⟩, ⟨rfl, sz122'⟩, trivial⟩ ((fill_one rfl rfl ?_).trans (congrArg some set_head))
    exact agg_pos _ _
  · rw [agg_list, cellsT_none]
    exact congrArg _ (rep_list _ _)

theorem spans_c {F : Nat → Prop} {w : World} {v : Value} {gm : Gram} {X : Option Addr} {cx n0 : Nat} {ws : List Int} (hv : GramV F w v gm) (hg : goodG gm = true) (hX : Ints w X ws) (hn : n0 = ws.length) (hl : ws.length ≤ 10) (hw : ∀ t ∈ ws, 0 ≤ t ∧ t ≤ 100) {k : Value → World → Prop}
    (hk : ∀ w' b, Apt w w' [bx b (.slice X ws.length cx :: cellsT (spanT gm.rules ws)) 124] → k (ptrv b) w') :
    CallK Try.prog 151 [v, .slice X n0 cx] k w := by
  subst hn
  obtain ⟨Y, cy, rfl, hc, hy⟩ := hv
  have hn6 := good_nons hg
  have hr16 := good_len hg
  have hleft6 := good_left6 hg
  refine enter151 ?_
  unfold S151
  have H := Apt.nil w
  refine boxH H fun b1 w1 H => ?_
  obtain ⟨z, hz1, hz2⟩ := bd124 X ws.length cx
  refine rdi (hz1 _ _) ?_
  refine boxH H fun b2 w2 H => ?_
  rw [hz2] at H
  simp only [List.nil_append, List.cons_append] at H
  refine loop_ghost (fun (s : Tab × Bool) f w' => tabSt gm.rules ws s ∧ f 6 = .bool s.2 ∧ Apt w w' [bx b1 [.int .i64 gm.nons, .int .i64 gm.toks, .slice Y gm.rules.length cy] 26, bx b2 (.slice X ws.length cx :: cellsT s.1) 124]) (fun s => if s.2 = true then openT s.1 + 1 else 0) (noTab, true)
    ⟨by unfold tabSt; rw [if_pos rfl]; exact fun U h => h, rfl, H⟩ ?_
  rintro ⟨T, more⟩ f7 w6 N2 hag2 ⟨hst, h8, H⟩ hN2
  have f2' : f7 2 = ptrv b1 := hag2 2 (by decide)
  have f5' : f7 5 = ptrv b2 := hag2 5 (by decide)
  have f1' : f7 1 = .slice X ws.length cx := hag2 1 (by decide)
  simp only [h8, f2', go_sem, Nat.reduceEqDiff]
  cases more
  · simp only [go_sem, Nat.reduceEqDiff]
    rw [f5']
    have hsp : T = spanT gm.rules ws := by
      unfold tabSt at hst
      rw [if_neg Bool.false_ne_true] at hst
      exact hst.eq
    rw [← hsp] at hk
    exact hk _ b2 (H.erase 0)
  simp only [go_sem, Nat.reduceEqDiff]
  rw [ldB24 (H.box 0 rfl) rfl]
  simp only [go_sem, Nat.reduceEqDiff]
  refine loop_to gm.rules.length 0 (fun q f w' => q ≤ gm.rules.length ∧ f 18 = .int .i64 q ∧ f 6 = .bool ((gm.rules.take q).foldl (ruleT ws) (T, false)).2 ∧ Apt w w' [bx b1 [.int .i64 gm.nons, .int .i64 gm.toks, .slice Y gm.rules.length cy] 26, bx b2 (.slice X ws.length cx :: cellsT ((gm.rules.take q).foldl (ruleT ws) (T, false)).1) 124])
    ⟨Nat.zero_le _, rfl, rfl, H⟩ ?_
  rintro q g1 w7 N3 hag3 ⟨hq, h36, h8', H⟩ hN3
  have e34 : g1 16 = .slice Y gm.rules.length cy := hag3 16 (by decide)
  have e35 : g1 17 = .int .i64 gm.rules.length := hag3 17 (by decide)
  have e5 : g1 5 = ptrv b2 := (hag3 5 (by decide)).trans f5'
  have e1 : g1 1 = .slice X ws.length cx := (hag3 1 (by decide)).trans f1'
  simp only [e34, e35, e1, h36, go_sem, Nat.reduceEqDiff]
  by_cases hlq : q < gm.rules.length
  case neg =>
    simp only [show ¬ ((q : Int) < gm.rules.length) from by omega, decide_false, go_sem, Nat.reduceEqDiff]
    rw [List.take_of_length_le (by omega)] at h8' H
    have hinc := passT_inc hleft6 hl (T, false)
    refine hN2 (passT gm.rules ws (T, false)) _ _ ⟨tabSt_next hst, h8', H⟩ ?_
    rw [if_pos rfl]
    rcases hinc with he | ⟨h1, h2⟩
    · rw [he, if_neg Bool.false_ne_true]
      omega
    · rw [if_pos h1]
      dsimp only at h2 ⊢
      omega
  simp only [show ((q : Int) < gm.rules.length) from by omega, decide_true, go_sem, Nat.reduceEqDiff]
  obtain ⟨Z, cz, t1, t2, t3, t4⟩ := hy.row q hlq
  have hleft := good_left hg hlq
  have hright := good_right hg hlq
  have hR4 := good_rule hg q hlq
  generalize hr : rul gm.rules q = r at *
  obtain ⟨xl, hxl⟩ : ∃ x : Nat, r.1 = x := ⟨r.1.toNat, by omega⟩
  rw [hxl] at t1 hleft
  rw [ixn24 hy.ptr hlq, ld_agg agg33 sz33 (cs := [.int .i64 xl, .slice Z r.2.length cz]) rfl (fun j hj => by
    match j, hj with
    | 0, _ => rw [add_add, Nat.add_zero]; exact H.gr.cell t1
    | 1, _ => rw [add_add]; exact H.gr.cell t2)]
  refine allocH H inf33 fun b3 w8 H => ?_
  refine storeH H 2 rfl sz33 rfl rfl rfl fun w9 H => ?_
  simp only [List.nil_append, List.cons_append, List.set_cons_zero, List.set_cons_succ] at H
  generalize hN : ws.length + 1 = n at *
  have hNi : ((ws.length : Int) + 1) = (n : Int) := by omega
  rw [hNi, i64_of (n := (n : Int)) (by omega) (by omega)]
  generalize hs0 : (gm.rules.take q).foldl (ruleT ws) (T, false) = s0 at *
  refine loop_to n 0 (fun a f w' => a ≤ n ∧ f 25 = .int .i64 a ∧ f 6 = .bool ((List.range a).foldl (rowT ws r) s0).2 ∧ Apt w w' [bx b1 [.int .i64 gm.nons, .int .i64 gm.toks, .slice Y gm.rules.length cy] 26, bx b2 (.slice X ws.length cx :: cellsT ((List.range a).foldl (rowT ws r) s0).1) 124, bx b3 [.int .i64 xl, .slice Z r.2.length cz] 33])
    ⟨Nat.zero_le _, rfl, h8', H⟩ ?_
  rintro a g2 w10 N4 hag4 ⟨ha, h11, h8a, H⟩ hN4
  have k24 : g2 24 = .int .i64 n := hag4 24 (by decide)
  have k5 : g2 5 = ptrv b2 := (hag4 5 (by decide)).trans e5
  have k1 : g2 1 = .slice X ws.length cx := (hag4 1 (by decide)).trans e1
  have k8 : g2 8 = ptrv b3 := hag4 8 (by decide)
  have k18 : g2 18 = .int .i64 q := (hag4 18 (by decide)).trans h36
  simp only [k24, h11, k18, go_sem, Nat.reduceEqDiff]
  by_cases hla : a < n
  case neg =>
    simp only [show ¬ ((a : Int) < n) from by omega, decide_false, go_sem, Nat.reduceEqDiff]
    rw [i64_of (by omega) (by omega)]
    have han : a = n := by omega
    rw [han] at h8a H
    have hstep : (gm.rules.take (q + 1)).foldl (ruleT ws) (T, false) = (List.range n).foldl (rowT ws r) s0 := by
      rw [foldl_take _ _ _ hlq, hs0, hr, ← hN]
      rfl
    refine hN3 _ _ hlq ⟨hlq, rfl, ?_, ?_⟩
    · rw [hstep]
      exact h8a
    · rw [hstep]
      exact H.take 2
  simp only [show ((a : Int) < n) from by omega, decide_true, go_sem, Nat.reduceEqDiff]
  generalize hs1 : (List.range a).foldl (rowT ws r) s0 = s1 at *
  refine loop_to n a (fun b f w' => a ≤ b ∧ b ≤ n ∧ f 10 = .int .i64 b ∧ f 6 = .bool ((List.range' a (b - a)).foldl (Sh.stepT ws r a) s1).2 ∧ Apt w w' [bx b1 [.int .i64 gm.nons, .int .i64 gm.toks, .slice Y gm.rules.length cy] 26, bx b2 (.slice X ws.length cx :: cellsT ((List.range' a (b - a)).foldl (Sh.stepT ws r a) s1).1) 124, bx b3 [.int .i64 xl, .slice Z r.2.length cz] 33])
    ⟨Nat.le_refl _, by omega, rfl, by rw [Nat.sub_self]; exact h8a, by rw [Nat.sub_self]; exact H⟩ ?_
  rintro b g3 w11 N5 hag5 ⟨hb1, hb2, h12, h8b, H⟩ hN5
  have m5 : g3 5 = ptrv b2 := (hag5 5 (by decide)).trans k5
  have m1 : g3 1 = .slice X ws.length cx := (hag5 1 (by decide)).trans k1
  have m8 : g3 8 = ptrv b3 := (hag5 8 (by decide)).trans k8
  have m9 : g3 9 = .int .i64 a := hag5 9 (by decide)
  have m25 : g3 25 = .int .i64 a := (hag5 25 (by decide)).trans h11
  simp only [m5, m1, m8, m9, m25, h12, go_sem, Nat.reduceEqDiff]
  by_cases hlb : b < n
  case neg =>
    simp only [show ¬ ((b : Int) ≤ ws.length) from by omega, decide_false, go_sem, Nat.reduceEqDiff]
    rw [i64_of (by omega) (by omega)]
    have hbn : b = n := by omega
    rw [hbn] at h8b H
    have hstep : (List.range (a + 1)).foldl (rowT ws r) s0 = (List.range' a (n - a)).foldl (Sh.stepT ws r a) s1 := by
      rw [foldl_range, hs1, ← hN]
      rfl
    refine hN4 _ _ hla ⟨hla, rfl, ?_, ?_⟩
    · rw [hstep]
      exact h8b
    · rw [hstep]
      exact H
  simp only [show ((b : Int) ≤ ws.length) from by omega, decide_true, go_sem, Nat.reduceEqDiff]
  have hstep : (List.range' a (b + 1 - a)).foldl (Sh.stepT ws r a) s1 = Sh.stepT ws r a ((List.range' a (b - a)).foldl (Sh.stepT ws r a) s1) b := by
    rw [show b + 1 - a = b - a + 1 from by omega, foldl_range', show a + (b - a) = b from by omega]
  generalize hs2 : (List.range' a (b - a)).foldl (Sh.stepT ws r a) s1 = s2 at *
  have hxn : xl < 6 := by omega
  have hstepT : Sh.stepT ws r a s2 b = if (!s2.1 xl a b && fitsT s2.1 ws r.2 a b) = true then (s2.1.put xl a b, true) else s2 := by
    unfold Sh.stepT
    rw [hxl, Int.toNat_natCast]
  have H := H.drew
  have stay : Sh.stepT ws r a s2 b = s2 → ∀ f', f' 10 = .int .i64 (b + 1 : Nat) → f' 6 = .bool s2.2 → N5 f' w11.drew := fun he f' q12 q8 => hN5 f' w11.drew hlb ⟨by omega, hlb, q12, by rw [hstep, he]; exact q8, by rw [hstep, he]; exact H⟩
  rw [ldB3 (H.box 2 rfl) rfl]
  rw [ixa122 (by omega) (by omega), ixa121 (by omega) (by omega), ixa120 (by omega) (by omega)]
  simp only [Int.toNat_natCast, go_sem, Nat.reduceEqDiff]
  have hoff : 0 + 1 + xl * 121 + a * 11 + b = xl * 121 + a * 11 + b + 1 := by omega
  rw [hoff, ldB4 (H.box 1 rfl) (cellsT_at hxn (by omega) (by omega))]
  simp only [go_sem, Nat.reduceEqDiff]
  cases hc0 : s2.1 xl a b
  case true =>
    simp only [Bool.not_true, go_sem, Nat.reduceEqDiff]
    rw [i64_of (n := (b : Int) + 1) (by omega) (by omega)]
    exact stay (by rw [hstepT, hc0]; rfl) _ rfl h8b
  simp only [Bool.not_false, go_sem, Nat.reduceEqDiff]
  rw [ldB27 (H.box 2 rfl) rfl]
  refine sequence_c hl hw r.2 (H.box 1 rfl) (hX.gr H.gr) (t4.is.gr H.gr) t3 (fun x hx => by have := hright x hx; omega) hb1 (by omega) ?_
  cases hft : fitsT s2.1 ws r.2 a b
  · simp only [go_sem, Nat.reduceEqDiff]
    rw [i64_of (n := (b : Int) + 1) (by omega) (by omega)]
    exact stay (by rw [hstepT, hc0, hft]; rfl) _ rfl h8b
  simp only [go_sem, Nat.reduceEqDiff]
  have H := H.drew
  rw [ldB3 (H.box 2 rfl) rfl]
  rw [ixa122 (by omega) (by omega), ixa121 (by omega) (by omega), ixa120 (by omega) (by omega)]
  simp only [Int.toNat_natCast, go_sem, Nat.reduceEqDiff]
  rw [hoff]
  refine storeH H 1 rfl sz4 rfl rfl (by rw [Nat.ble_eq, List.length_cons, cellsT_length]; omega) fun w12 H => ?_
  have hset : List.take (xl * 121 + a * 11 + b + 1) (.slice X ws.length cx :: cellsT s2.1) ++ (Value.bool true).cells.toList ++ List.drop (xl * 121 + a * 11 + b + 1 + 1) (.slice X ws.length cx :: cellsT s2.1) = .slice X ws.length cx :: cellsT (s2.1.put xl a b) := by
    rw [show (Value.bool true).cells.toList = [.bool true] from rfl, take_put_drop (by rw [List.length_cons, cellsT_length]; omega)]
    exact cellsT_put hxn (by omega) (by omega)
  rw [hset] at H
  rw [i64_of (n := (b : Int) + 1) (by omega) (by omega)]
  refine hN5 _ _ hlb ⟨by omega, hlb, rfl, ?_, ?_⟩
  · rw [hstep, hstepT, hc0, hft]
    rfl
  · rw [hstep, hstepT, hc0, hft]
    exact H
end Go.Proofs.Ytegcjkhebecgbaa

/- Contracts of what PumpWord reaches, third part. -/
set_option linter.unusedVariables false
set_option linter.unusedSimpArgs false
set_option maxRecDepth 100000
namespace Go.Sh
open Go
end Go.Sh
namespace Go.Proofs.Ytegcjkhebecgbaa
open Go Go.Sh Go.RowKit

end Go.Proofs.Ytegcjkhebecgbaa

/- The law of PumpWord, over its contracts. -/
set_option linter.unusedVariables false
set_option linter.unusedSimpArgs false
set_option maxRecDepth 100000
namespace Go.Proofs.Ytegcjkhebecgbaa
open Go Go.Sh Go.RowKit

end Go.Proofs.Ytegcjkhebecgbaa

/- Contracts: words of tokens, by the reference and by the program; what can be pumped at given places. -/
set_option linter.unusedVariables false
set_option linter.unusedSimpArgs false
set_option maxRecDepth 100000
namespace Go.Sh
open Go
def wordB (toks : Int) (ws : List Int) : Bool := decide (ws.length ≤ 10) && allB ws 0 (toks - 1)
end Go.Sh
namespace Go.Proofs.Ytegcjkhebecgbaa
open Go Go.Sh Go.RowKit

end Go.Proofs.Ytegcjkhebecgbaa

/- Contracts: PumpOf and PathIn of the program. -/
set_option linter.unusedVariables false
set_option linter.unusedSimpArgs false
set_option maxRecDepth 100000
namespace Go.Sh
open Go
theorem Apt.emptySS {w0 w : World} {L : List Thing} (H : Apt w0 w L) (i : Nat) {e1 e2 c : Nat} {X : Option Addr} (ps : Nat → Option Addr × Nat) (hi : L[i]? = some (rwi e1 1 X 0 c [])) : Apt w0 w (L.set i (Sh.lssi e1 e2 X c [] ps)) := by
  have hr := H.row i hi
  have o : OwnSS e1 e2 w w0.heap.size X c [] ps := ⟨⟨[], hr, fun j hj => by simp at hj⟩, fun j hj => by simp at hj, fun i j hi => by simp at hi⟩
  refine H.set hi (Gx.refl _ w) (fun q hq => ?_) (fun q hq => (o.foot hq).2) (lssi_kept o)
  rcases hq with hq | ⟨l, hl, _⟩
  · exact .inl hq
  · simp at hl
end Go.Sh
namespace Go.Proofs.Ytegcjkhebecgbaa
open Go Go.Sh Go.RowKit

end Go.Proofs.Ytegcjkhebecgbaa

/- Bg: bodies of functions as terms of the frame calculus, printed by shgen.py of this repository. -/
set_option linter.unusedVariables false
set_option maxRecDepth 100000
namespace Go.Proofs.Ytegcjkhebecgbaa
open Go Go.Sh

/-! loop.example/g00758/spec.CountByLong -/
/-! loop.example/g00758/impl.CountByLong -/
/-! loop.example/g00758/spec.SameUpTo -/
/-! loop.example/g00758/impl.SameUpTo -/
/-! loop.example/g00758/spec.NearWord -/
/-! loop.example/g00758/impl.NearWord -/
/-! loop.example/g00758/spec.FirstUnlike -/
/-! loop.example/g00758/impl.FirstUnlike -/
/-! loop.example/g00758/spec.ShortWords -/
/-! loop.example/g00758/impl.ShortWords -/
def pl23 : Plans := fun _ => ⟨false, [], .nil⟩
def S23 (v0 v1 : Value) (k : Value → World → Prop) (w : World) : Prop :=
 Do Try.prog (sBox 26 v0) (fun t1 w2 =>
 Rd Try.prog (WS.at w2) (sLoad 26 t1) fun t3 =>
 CallK Try.prog 148 [t3] (fun t4 w5 =>
 Rd Try.prog (WS.at w5) (sUn .not t4) fun t6 =>
 GuardK t6 false (fun k w' => k v1 w') (fun t7 w8 =>
 GuardK t6 false (fun k w' => CallK Try.prog 149 [t7, (.int .i64 0), (.int .i64 4)] k w') (fun t9 w10 =>
 GuardK t6 false (fun k w' => Rd Try.prog (WS.at w10) (sUn .not t9) fun v => k v w') (fun t11 w12 =>
 Rd Try.prog (WS.at w12) (sPick t6 (.bool true) t11) fun t13 =>
 CondK t13
  (k (.tuple #[(.slice none 0 0), (.bool false)]) w12)
  (Do Try.prog (sBuildSlice 35 0 []) (fun t14 w15 =>
  Rd Try.prog (WS.at w15) (sBin .add 3 true v1 (.int .i64 1)) fun t16 =>
  LoopF [22, 23, 7, 24, 25, 26, 27, 28, 29, 30, 31, 32, 9, 33, 34, 35, 36, 37, 38, 39, 40, 41, 42, 43, 44, 45, 46, 6, 47, 29, 48, 21] (fun Q17 f18 w19 =>
   Rd Try.prog (WS.at w19) (sBin .lss 3 false (f18 21) (f18 20)) fun t20 =>
   CondK t20
    (Rd Try.prog (WS.at w19) (sFieldAddr 26 (f18 2) 1) fun t21 =>
    Rd Try.prog (WS.at w19) (sLoad 3 t21) fun t22 =>
    CallK Try.prog 157 [t22, (f18 21)] (fun t23 w24 =>
    Rd Try.prog (WS.at w24) (sBuiltin .len #[35] 3 [false] [t23]) fun t25 =>
    LoopF [30, 31, 32, 9, 33, 34, 35, 36, 37, 38, 39, 40, 41, 42, 43, 44, 45, 46, 6, 47, 29] (fun Q26 f27 w28 =>
     Rd Try.prog (WS.at w28) (sBin .lss 3 false (f27 29) (f27 28)) fun t29 =>
     CondK t29
      (Join (fun K30 =>
      Rd Try.prog (WS.at w28) (sIndexAddr 35 (f27 27) (f27 29)) fun t33 =>
      Rd Try.prog (WS.at w28) (sLoad 27 t33) fun t34 =>
      Rd Try.prog (WS.at w28) (sLoad 26 (f27 2)) fun t35 =>
      CallK Try.prog 151 [t35, t34] (fun t36 w37 =>
      Rd Try.prog (WS.at w37) (sNilCheck t36) fun t38 =>
      Rd Try.prog (WS.at w37) (sFieldAddr 124 t38 1) fun t39 =>
      Rd Try.prog (WS.at w37) (sIndexAddr 122 t39 (.int .i64 0)) fun t40 =>
      Rd Try.prog (WS.at w37) (sIndexAddr 121 t40 (.int .i64 0)) fun t41 =>
      Rd Try.prog (WS.at w37) (sIndexAddr 120 t41 (f27 7)) fun t42 =>
      Rd Try.prog (WS.at w37) (sLoad 4 t42) fun t43 =>
      CondK t43
       (Do Try.prog (sBuildSlice 35 1 [(0, t34)]) (fun t44 w45 =>
       Do Try.prog (sBuiltin .append #[35, 35] 35 [false, false] [(f27 6), t44]) (fun t46 w47 =>
       K30 (F.upd (F.upd (F.upd (F.upd (F.upd (F.upd (F.upd (F.upd (F.upd (F.upd (F.upd (F.upd (F.upd (F.upd (F.upd (F.upd (F.upd (F.upd (F.upd f27 30 t29) 31 t33) 32 t34) 9 t34) 33 t35) 34 t34) 35 t36) 36 (f27 7)) 37 t38) 38 t39) 39 t40) 40 t41) 41 t42) 42 t43) 43 (f27 6)) 44 t34) 45 t44) 46 t46) 6 t46) w47) w45) w37)
       (K30 (F.upd (F.upd (F.upd (F.upd (F.upd (F.upd (F.upd (F.upd (F.upd (F.upd (F.upd (F.upd (F.upd (F.upd f27 30 t29) 31 t33) 32 t34) 9 t34) 33 t35) 34 t34) 35 t36) 36 (f27 7)) 37 t38) 38 t39) 39 t40) 40 t41) 41 t42) 42 t43) w37)) w28) (fun f31 w32 =>
      Rd Try.prog (WS.at w32) (sBin .add 3 true (f31 29) (.int .i64 1)) fun t48 =>
      Q26 .normal (F.upd (F.upd f31 47 t48) 29 t48) w32))
      (Q26 (.exit 2) (F.upd f27 30 t29) w28))
     (blockQ 2 (blockQ 1 (seqQ (fun f49 w50 =>
    Rd Try.prog (WS.at w50) (sBin .add 3 true (f49 21) (.int .i64 1)) fun t51 =>
    Q17 .normal (F.upd (F.upd f49 48 t51) 21 t51) w50) Q17)))
     (F.upd (F.upd (F.upd (F.upd (F.upd (F.upd (F.upd (F.upd (F.upd f18 22 t20) 23 (f18 21)) 7 (f18 21)) 24 t21) 25 t22) 26 (f18 21)) 27 t23) 28 t25) 29 (.int .i64 0)) w24) w19)
    (Q17 (.exit 0) (F.upd f18 22 t20) w19))
   (blockQ 0 (seqQ (fun f52 w53 =>
  k (.tuple #[(f52 6), (.bool true)]) w53) (bodyQ Try.prog [.tmp 4, .tmp 5] k)))
   (F.upd (F.upd (F.upd (F.upd (F.upd (F.upd (F.upd (F.upd (F.upd (F.upd (F.upd (F.upd (F.upd (F.upd (F.upd (F.upd (initF [v0, v1]) 2 t1) 4 (.slice none 0 0)) 5 (.bool false)) 10 t3) 11 t4) 12 t6) 13 t6) 14 t7) 15 t9) 16 t11) 17 t13) 18 t14) 6 t14) 19 v1) 20 t16) 21 (.int .i64 0)) w15) w12)) w10) w8) w5) w2) w
theorem body23 : Try.f23.body = some (bodyOf Try.f23) := by kernel_rfl
theorem same23 (v0 v1 : Value) (k : Value → World → Prop) (w : World) : wpF Try.prog pl23 (bodyOf Try.f23) (bodyQ Try.prog Try.f23.results.toList k) (initF [v0, v1]) w = S23 v0 v1 k w := by kernel_rfl
theorem enter23 {v0 v1 : Value} {k : Value → World → Prop} {w : World} (h : S23 v0 v1 k w) : CallK Try.prog 23 [v0, v1] k w :=
  call_of_wpF (pl := pl23) mixed Try.func23 body23 (by kernel_rfl) (of_decide_eq_true (by kernel_rfl)) (by kernel_rfl) (by kernel_rfl) (Eq.mpr (same23 v0 v1 k w) h)

/-! loop.example/g00758/spec.l20Unlike -/
/-! slices.EqualFunc[[][]int,[][]int,[]int,[]int] -/
/-! loop.example/g00758/impl.SameUpTo$1 -/
/-! loop.example/g00758/spec.l17Apart -/
/-! loop.example/g00758/impl.apart -/
/-! loop.example/g00758/impl.compareWords -/
/-! loop.example/g00758/impl.wordsOf -/
def pl157 : Plans := fun _ => ⟨false, [], .nil⟩
def S157 (v0 v1 : Value) (k : Value → World → Prop) (w : World) : Prop :=
 Do Try.prog (sBuildSlice 27 0 []) (fun t1 w2 =>
 Do Try.prog (sBuildSlice 35 1 [(0, t1)]) (fun t3 w4 =>
 LoopF [14, 15, 6, 16, 17, 18, 19, 20, 21, 8, 22, 23, 24, 25, 9, 26, 27, 28, 29, 30, 31, 32, 33, 34, 6, 35, 23, 36, 18, 37, 5, 38, 13] (fun Q5 f6 w7 =>
  Rd Try.prog (WS.at w7) (sBin .lss 3 false (f6 13) (f6 12)) fun t8 =>
  CondK t8
   (Do Try.prog (sBuildSlice 35 0 []) (fun t9 w10 =>
   Rd Try.prog (WS.at w10) (sBuiltin .len #[35] 3 [false] [(f6 5)]) fun t11 =>
   LoopF [19, 20, 21, 8, 22, 23, 24, 25, 9, 26, 27, 28, 29, 30, 31, 32, 33, 34, 6, 35, 23, 36, 18] (fun Q12 f13 w14 =>
    Rd Try.prog (WS.at w14) (sBin .lss 3 false (f13 18) (f13 17)) fun t15 =>
    CondK t15
     (Rd Try.prog (WS.at w14) (sIndexAddr 35 (f13 16) (f13 18)) fun t16 =>
     Rd Try.prog (WS.at w14) (sLoad 27 t16) fun t17 =>
     LoopF [24, 25, 9, 26, 27, 28, 29, 30, 31, 32, 33, 34, 6, 35, 23] (fun Q18 f19 w20 =>
      Rd Try.prog (WS.at w20) (sBin .lss 3 false (f19 23) (f19 22)) fun t21 =>
      CondK t21
       (Do Try.prog (sBuildSlice 27 0 []) (fun t22 w23 =>
       Do Try.prog (sBuiltin .append #[27, 27] 27 [false, false] [t22, (f19 8)]) (fun t24 w25 =>
       Do Try.prog (sBuildSlice 27 1 [(0, (f19 23))]) (fun t26 w27 =>
       Do Try.prog (sBuiltin .append #[27, 27] 27 [false, false] [t24, t26]) (fun t28 w29 =>
       Do Try.prog (sBuildSlice 35 1 [(0, t28)]) (fun t30 w31 =>
       Do Try.prog (sBuiltin .append #[35, 35] 35 [false, false] [(f19 6), t30]) (fun t32 w33 =>
       Rd Try.prog (WS.at w33) (sBin .add 3 true (f19 23) (.int .i64 1)) fun t34 =>
       Q18 .normal (F.upd (F.upd (F.upd (F.upd (F.upd (F.upd (F.upd (F.upd (F.upd (F.upd (F.upd (F.upd (F.upd (F.upd (F.upd f19 24 t21) 25 (f19 23)) 9 (f19 23)) 26 (f19 6)) 27 t22) 28 (f19 8)) 29 t24) 30 (f19 23)) 31 t26) 32 t28) 33 t30) 34 t32) 6 t32) 35 t34) 23 t34) w33) w31) w29) w27) w25) w23) w20)
       (Q18 (.exit 4) (F.upd f19 24 t21) w20))
      (blockQ 4 (blockQ 3 (seqQ (fun f35 w36 =>
     Rd Try.prog (WS.at w36) (sBin .add 3 true (f35 18) (.int .i64 1)) fun t37 =>
     Q12 .normal (F.upd (F.upd f35 36 t37) 18 t37) w36) Q12)))
      (F.upd (F.upd (F.upd (F.upd (F.upd (F.upd f13 19 t15) 20 t16) 21 t17) 8 t17) 22 (f13 0)) 23 (.int .i64 0)) w14)
     (Q12 (.exit 2) (F.upd f13 19 t15) w14))
    (blockQ 2 (seqQ (fun f38 w39 =>
   Rd Try.prog (WS.at w39) (sBin .add 3 true (f38 13) (.int .i64 1)) fun t40 =>
   Q5 .normal (F.upd (F.upd (F.upd (F.upd f38 37 (f38 6)) 5 (f38 6)) 38 t40) 13 t40) w39) (blockQ 1 (seqQ (fun f41 w42 =>
   Rd Try.prog (WS.at w42) (sBin .add 3 true (f41 13) (.int .i64 1)) fun t43 =>
   Q5 .normal (F.upd (F.upd f41 38 t43) 13 t43) w42) Q5))))
    (F.upd (F.upd (F.upd (F.upd (F.upd (F.upd f6 14 t8) 15 t9) 6 t9) 16 (f6 5)) 17 t11) 18 (.int .i64 0)) w10) w7)
   (Q5 (.exit 0) (F.upd f6 14 t8) w7))
  (blockQ 0 (seqQ (fun f44 w45 =>
 k (f44 5) w45) (bodyQ Try.prog [.tmp 4] k)))
  (F.upd (F.upd (F.upd (F.upd (F.upd (F.upd (initF [v0, v1]) 4 (.slice none 0 0)) 10 t1) 11 t3) 5 t3) 12 v1) 13 (.int .i64 0)) w4) w2) w
theorem body157 : Try.f157.body = some (bodyOf Try.f157) := by kernel_rfl
theorem same157 (v0 v1 : Value) (k : Value → World → Prop) (w : World) : wpF Try.prog pl157 (bodyOf Try.f157) (bodyQ Try.prog Try.f157.results.toList k) (initF [v0, v1]) w = S157 v0 v1 k w := by kernel_rfl
theorem enter157 {v0 v1 : Value} {k : Value → World → Prop} {w : World} (h : S157 v0 v1 k w) : CallK Try.prog 157 [v0, v1] k w :=
  call_of_wpF (pl := pl157) mixed Try.func157 body157 (by kernel_rfl) (of_decide_eq_true (by kernel_rfl)) (by kernel_rfl) (by kernel_rfl) (Eq.mpr (same157 v0 v1 k w) h)

/-! loop.example/g00758/spec.l20Less -/
/-! loop.example/g00758/spec.l1Least -/
/-! cmp.Or[int] -/
/-! cmp.Compare[int] -/
/-! slices.Compare[[]int,int] -/
/-! loop.example/g00758/spec.l5Less -/
/-! cmp.isNaN[int] -/
end Go.Proofs.Ytegcjkhebecgbaa

/- Contract: all short words of a language, by the reference. -/
set_option linter.unusedVariables false
set_option linter.unusedSimpArgs false
set_option maxRecDepth 100000
namespace Go.Sh
open Go
def extW (toks : Nat) (w : List Int) : List (List Int) := (List.range toks).map fun (t : Nat) => w ++ [(t : Int)]
def wordsN (toks : Nat) : Nat → List (List Int)
  | 0 => [[]]
  | n + 1 => (wordsN toks n).flatMap (extW toks)
noncomputable def shortW (gm : Gram) (n : Nat) : List (List Int) := (List.range n).flatMap fun m => (wordsN gm.toks.toNat m).filter (inL gm.rules)
noncomputable def shortV (gm : Gram) (most : Int) : List (List Int) × Bool := if (goodG gm && inB most 0 4) = true then (shortW gm (most.toNat + 1), true) else ([], false)
theorem flatMap_len {α β : Type} {f : α → List β} {k : Nat} : ∀ {l : List α}, (∀ a ∈ l, (f a).length = k) → (l.flatMap f).length = l.length * k := by
  intro l
  induction l with
  | nil => intro _; simp
  | cons a l ih =>
    intro h
    rw [List.flatMap_cons, List.length_append, h a (List.mem_cons_self ..), ih fun b hb => h b (List.mem_cons_of_mem _ hb), List.length_cons, Nat.succ_mul]
    omega
theorem wordsN_length (toks n : Nat) : (wordsN toks n).length = toks ^ n := by
  induction n with
  | zero => rfl
  | succ n ih =>
    rw [wordsN, flatMap_len (k := toks) (fun w _ => by simp [extW]), ih, Nat.pow_succ]
theorem wordsN_le {toks n : Nat} (ht : toks ≤ 4) (hn : n ≤ 5) : (wordsN toks n).length ≤ 1024 := by
  rw [wordsN_length]
  have h1 : toks ^ n ≤ 4 ^ n := Nat.pow_le_pow_left ht n
  have h2 : 4 ^ n ≤ 4 ^ 5 := Nat.pow_le_pow_right (by decide) hn
  have : (4 : Nat) ^ 5 = 1024 := rfl
  omega
theorem wordsN_mem {toks : Nat} : ∀ {n : Nat} {w : List Int}, w ∈ wordsN toks n → w.length = n ∧ ∀ t ∈ w, 0 ≤ t ∧ t < toks := by
  intro n
  induction n with
  | zero =>
    intro w h
    simp only [wordsN, List.mem_singleton] at h
    subst h
    exact ⟨rfl, fun t h => by simp at h⟩
  | succ n ih =>
    intro w h
    simp only [wordsN, List.mem_flatMap, extW, List.mem_map, List.mem_range] at h
    obtain ⟨v, hv, t, ht, rfl⟩ := h
    obtain ⟨h1, h2⟩ := ih hv
    refine ⟨by simp [h1], fun x hx => ?_⟩
    rcases List.mem_append.1 hx with hx | hx
    · exact h2 x hx
    · have : x = t := by simpa using hx
      subst this
      omega
theorem rgt_mem {ls : List (List Int)} {i : Nat} (h : i < ls.length) : rgt ls i ∈ ls := by
  rw [rgt_eq h]
  exact List.getElem_mem h
theorem filter_snoc (p : List Int → Bool) (ls : List (List Int)) (l : List Int) : (ls ++ [l]).filter p = ls.filter p ++ (if p l = true then [l] else []) := by
  rw [List.filter_append]
  congr 1
  cases h : p l <;> simp [h]
theorem filter_le (p : List Int → Bool) (ls : List (List Int)) : (ls.filter p).length ≤ ls.length := List.length_filter_le _ _
theorem shortW_succ (gm : Gram) (n : Nat) : shortW gm (n + 1) = shortW gm n ++ (wordsN gm.toks.toNat n).filter (inL gm.rules) := by
  unfold shortW
  rw [List.range_succ, List.flatMap_append]
  simp
theorem shortW_len {gm : Gram} (ht : gm.toks ≤ 4) : ∀ {n : Nat}, n ≤ 6 → (shortW gm n).length ≤ 1024 * n := by
  intro n
  induction n with
  | zero => intro _; simp [shortW]
  | succ n ih =>
    intro hn
    rw [shortW_succ, List.length_append]
    have h1 := ih (by omega)
    have h2 := filter_le (inL gm.rules) (wordsN gm.toks.toNat n)
    have h3 := wordsN_le (toks := gm.toks.toNat) (n := n) (by omega) (by omega)
    omega
theorem shortW_mem {gm : Gram} {n : Nat} {x : List Int} (h : x ∈ shortW gm n) : x.length < n ∧ ∀ t ∈ x, 0 ≤ t ∧ t < gm.toks.toNat := by
  unfold shortW at h
  rw [List.mem_flatMap] at h
  obtain ⟨m, hm, hx⟩ := h
  rw [List.mem_range] at hm
  have := wordsN_mem (List.mem_filter.1 hx).1
  exact ⟨by omega, this.2⟩
theorem extW_succ (toks : Nat) (w : List Int) : extW (toks + 1) w = extW toks w ++ [w ++ [(toks : Int)]] := by
  unfold extW
  rw [List.range_succ, List.map_append]
  rfl
theorem flatMap_snoc {α β : Type} (f : α → List β) (ls : List α) (l : α) : (ls ++ [l]).flatMap f = ls.flatMap f ++ f l := by
  rw [List.flatMap_append]
  simp
theorem flatMap_take_le {ls : List (List Int)} {k : Nat} (i : Nat) : ((ls.take i).flatMap (extW k)).length ≤ ls.length * k := by
  rw [flatMap_len (k := k) (fun w _ => by simp [extW]), List.length_take]
  exact Nat.mul_le_mul_right _ (Nat.min_le_right _ _)
end Go.Sh
namespace Go.Proofs.Ytegcjkhebecgbaa
open Go Go.Sh Go.RowKit

end Go.Proofs.Ytegcjkhebecgbaa

/- Contracts: how long a word must be, by the reference and by the program. -/
set_option linter.unusedVariables false
set_option linter.unusedSimpArgs false
set_option maxRecDepth 100000
namespace Go.Sh
open Go
end Go.Sh
namespace Go.Proofs.Ytegcjkhebecgbaa
open Go Go.Sh Go.RowKit

end Go.Proofs.Ytegcjkhebecgbaa

/- Contracts: any grammar, a word, a word of a language often (anyGrammar, word, wordIn). -/
set_option linter.unusedVariables false
set_option linter.unusedSimpArgs false
set_option maxRecDepth 100000
namespace Go.Proofs.Ytegcjkhebecgbaa
open Go Go.Sh Go.RowKit
section
variable {w0 w : World} {L E : List Thing} {bc N : Nat} {C : Option Addr} {cap : Nat} {bs : List Int} {k : Value → World → Prop}
theorem leftH (H : Apt w0 w L) (i : Nat) {ft : Nat → Prop} {X : Option Addr} {c : Nat} {r : RuleL} {rs : List RuleL} {v : Int} (hi : L[i]? = some (gth ft X c (r :: rs))) (h : ∀ w', Apt w0 w' (L.set i (gth ft X c ((v, r.2) :: rs))) → k undef w') : Do Try.prog (sStore 3 (.pointer (some ((ad X).add 0))) (.int .i64 v)) k w := by
  obtain ⟨cells, hrow, hrc⟩ := H.gow i hi
  refine do_store_row sz3 rfl rfl hrow (by rw [List.length_cons]; omega) fun w' hg hs hr => ?_
  cases hrc with
  | @cons _ _ Y d cells h1 h2 h3 =>
    refine h w' (H.set hi (it' := gth ft X c ((v, r.2) :: rs)) (gx_of hg fun q hq => .inl hq) (fun q hq => .inl hq) (fun q hq => Nat.lt_of_lt_of_le ((H.ok i _ hi).hi q hq) hg.size) (gow_kept (B := 0) ⟨_, hr, ?_⟩))
    refine .cons (r := (v, r.2)) h1 ?_ ?_
    · have hf : IntsF (fun q => (ft q ∧ blk X ≠ some q) ∧ q < w.heap.size) w Y r.2 := ltF h2
      exact (hf.same' fun q hq => hg.block q hq.2 fun e => hq.1.2 e.symm).mono fun q hq => hq.1
    · exact (h3.lt.same fun q hq => hg.block q hq.2 fun e => hq.1.2 e.symm).mono fun q hq => hq.1
set_option maxHeartbeats 3200000 in
theorem any_c (H : Apt w0 w (cur bc (.slice C bs.length cap) N :: E)) (hC : Byts w0 C bs) (hN : N ≤ 1000000) (hk : ∀ w' gm ft X c, Drawn 101 gm → Apt w0 w' (cur bc (.slice C bs.length cap) (N + 600) :: gth ft X c gm.rules :: E) → k (.agg #[.int .i64 gm.nons, .int .i64 gm.toks, .slice X gm.rules.length c]) w') :
    CallK Try.prog 145 [ptrv bc] k w := by
  refine enter145 ?_
  unfold S145
  refine allocH H inf26 fun b1 w1 H => ?_
  have H := H.insert 1
  simp only [List.take_succ_cons, List.take_zero, List.drop_succ_cons, List.drop_zero, List.nil_append, List.cons_append] at H
  refine grammar_c H hC hN fun w2 gm ft X c hd H => ?_
  refine allocH H inf26 fun b5 w3 H => ?_
  have H := H.insert 2
  simp only [List.take_succ_cons, List.take_zero, List.drop_succ_cons, List.drop_zero, List.nil_append, List.cons_append] at H
  refine storeH H 2 rfl sz26 rfl rfl rfl fun w4 H => ?_
  simp only [List.set_cons_zero, List.set_cons_succ, List.take_zero, List.drop_succ_cons, List.drop_zero, List.nil_append, List.append_nil, Value.cells] at H
  refine join_as (fun f w' => f 2 = ptrv b1 ∧ f 3 = ptrv b5 ∧ ∃ gm ft X c, Drawn 101 gm ∧ Apt w0 w' (cur bc (.slice C bs.length cap) (N + 600) :: gth ft X c gm.rules :: bx b5 [.int .i64 gm.nons, .int .i64 gm.toks, .slice X gm.rules.length c] 26 :: bx b1 [.int .i64 0, .int .i64 0, .slice none 0 0] 26 :: E)) (fun K hK => ?_) ?_
  case refine_2 =>
    clear H
    rintro f w5 ⟨f2, f3, gm, ft, X, c, hd, H⟩
    simp only [f2, f3]
    rw [ldB_agg agg26 sz26 rfl (H.box 2 rfl)]
    refine storeH H 3 rfl sz26 rfl rfl rfl fun w9 H => ?_
    simp only [List.set_cons_zero, List.set_cons_succ] at H
    rw [rd_loadVar, ldB_agg agg26 sz26 rfl (H.box 3 rfl)]
    have H := (H.erase 3).erase 2
    simp only [List.eraseIdx_cons_zero, List.eraseIdx_cons_succ] at H
    exact hk w9 gm ft X c hd H
  refine pick_c H 0 rfl hC (by omega) (by omega) fun w5 t _ ht H => ?_
  simp only [List.set_cons_zero] at H
  have ht := ht (by omega)
  have amongs : ∀ (x y z : Int), (0 ≤ x ∧ x ≤ 1000) → (0 ≤ y ∧ y ≤ 1000) → (0 ≤ z ∧ z ≤ 1000) → ∀ (kk : Value → Value → World → Prop), (∀ v : Int, 0 ≤ v ∧ v ≤ 1000 → ∀ u w', Apt w0 w' (cur bc (.slice C bs.length cap) (N + 504) :: gth ft X c gm.rules :: bx b5 [.int .i64 gm.nons, .int .i64 gm.toks, .slice X gm.rules.length c] 26 :: bx b1 [.int .i64 0, .int .i64 0, .slice none 0 0] 26 :: E) → kk u (.int .i64 v) w') → Do Try.prog (sBuildSlice 27 3 [(0, .int .i64 x), (1, .int .i64 y), (2, .int .i64 z)]) (fun t14 w15 => CallK Try.prog 156 [ptrv bc, t14] (fun t16 w17 => kk t14 t16 w17) w15) w5 := fun x y z hx hy hz kk hkk => by
    refine buildH H u27 inf3 (ints [x, y, z]) (by decide) (by decide) (by simp [Instr.fill, madeCells, Value.cells, rng3, ints]) rfl fun b7 w6 H => ?_
    have H := H.insert 1
    simp only [List.take_succ_cons, List.take_zero, List.drop_succ_cons, List.drop_zero, List.nil_append, List.cons_append] at H
    refine among_c (xs := [x, y, z]) H 0 rfl hC (by omega) (fun w' H => Apt.ints H 1 (xs := [x, y, z]) rfl) rfl (by simp) (by simp) fun w7 j hj H => ?_
    have H := H.erase 1
    simp only [List.set_cons_zero, List.eraseIdx_cons_zero, List.eraseIdx_cons_succ] at H
    refine hkk _ ?_ _ _ H
    have hj : j = 0 ∨ j = 1 ∨ j = 2 := by simp at hj; omega
    rcases hj with rfl | rfl | rfl
    · exact hx
    · exact hy
    · exact hz
  simp only [zq18, zq19, zq20, zq21, zq22, zq23, zq24, zq25, zq26, zq27, zq28, zq4, zq3, zq1, zq2, zq0, zq29, zq30, zq14, zq15, zq16, zq17, zq13, zq10, zq12, zq11, zq7, zq5, zq6, zq9, zq8, zq31, zq32, ite_T, ite_F, zq33, zq34, zq35, Nat.reduceEqDiff, len22, len24, fa26_0, fa26_1, fa26_2, len27, fa33_0, fa33_1, len35, fa114_0, fa114_1, fa114_2, fa124_0, fa124_1, len134]
  by_cases h0 : t = 0
  · subst h0
    simp only [show (((0 : Nat) : Int) = 0) from rfl, decide_true, zq18, zq19, zq20, zq21, zq22, zq23, zq24, zq25, zq26, zq27, zq28, zq4, zq3, zq1, zq2, zq0, zq29, zq30, zq14, zq15, zq16, zq17, zq13, zq10, zq12, zq11, zq7, zq5, zq6, zq9, zq8, zq31, zq32, ite_T, ite_F, zq33, zq34, zq35, Nat.reduceEqDiff, len22, len24, fa26_0, fa26_1, fa26_2, len27, fa33_0, fa33_1, len35, fa114_0, fa114_1, fa114_2, fa124_0, fa124_1, len134]
    refine amongs 0 6 7 (by omega) (by omega) (by omega) _ fun v hv u w7 H => ?_
    refine storeH H 2 rfl sz3 rfl rfl rfl fun w8 H => ?_
    simp only [List.set_cons_zero, List.set_cons_succ, List.take_succ_cons, List.take_zero, List.drop_succ_cons, List.drop_zero, List.nil_append, List.cons_append, Value.cells] at H
    exact hK _ _ ⟨rfl, rfl, ⟨v, gm.toks, gm.rules⟩, ft, X, c, ⟨hv, hd.toks, hd.some, by have := hd.few; show List.length gm.rules ≤ 101; omega⟩, curMore (m := N + 600) H (by omega)⟩
  simp only [show ¬ ((t : Int) = 0) from by omega, decide_false, zq18, zq19, zq20, zq21, zq22, zq23, zq24, zq25, zq26, zq27, zq28, zq4, zq3, zq1, zq2, zq0, zq29, zq30, zq14, zq15, zq16, zq17, zq13, zq10, zq12, zq11, zq7, zq5, zq6, zq9, zq8, zq31, zq32, ite_T, ite_F, zq33, zq34, zq35, Nat.reduceEqDiff, len22, len24, fa26_0, fa26_1, fa26_2, len27, fa33_0, fa33_1, len35, fa114_0, fa114_1, fa114_2, fa124_0, fa124_1, len134]
  by_cases h1 : t = 1
  · subst h1
    simp only [show (((1 : Nat) : Int) = 1) from rfl, decide_true, zq18, zq19, zq20, zq21, zq22, zq23, zq24, zq25, zq26, zq27, zq28, zq4, zq3, zq1, zq2, zq0, zq29, zq30, zq14, zq15, zq16, zq17, zq13, zq10, zq12, zq11, zq7, zq5, zq6, zq9, zq8, zq31, zq32, ite_T, ite_F, zq33, zq34, zq35, Nat.reduceEqDiff, len22, len24, fa26_0, fa26_1, fa26_2, len27, fa33_0, fa33_1, len35, fa114_0, fa114_1, fa114_2, fa124_0, fa124_1, len134]
    refine amongs 0 4 5 (by omega) (by omega) (by omega) _ fun v hv u w7 H => ?_
    refine storeH H 2 rfl sz3 rfl rfl rfl fun w8 H => ?_
    simp only [List.set_cons_zero, List.set_cons_succ, List.take_succ_cons, List.take_zero, List.drop_succ_cons, List.drop_zero, List.nil_append, List.cons_append, Value.cells] at H
    exact hK _ _ ⟨rfl, rfl, ⟨gm.nons, v, gm.rules⟩, ft, X, c, ⟨hd.nons, hv, hd.some, by have := hd.few; show List.length gm.rules ≤ 101; omega⟩, curMore (m := N + 600) H (by omega)⟩
  simp only [show ¬ ((t : Int) = 1) from by omega, decide_false, zq18, zq19, zq20, zq21, zq22, zq23, zq24, zq25, zq26, zq27, zq28, zq4, zq3, zq1, zq2, zq0, zq29, zq30, zq14, zq15, zq16, zq17, zq13, zq10, zq12, zq11, zq7, zq5, zq6, zq9, zq8, zq31, zq32, ite_T, ite_F, zq33, zq34, zq35, Nat.reduceEqDiff, len22, len24, fa26_0, fa26_1, fa26_2, len27, fa33_0, fa33_1, len35, fa114_0, fa114_1, fa114_2, fa124_0, fa124_1, len134]
  obtain ⟨nn, tt, rules⟩ := gm
  cases rules with
  | nil => exact absurd hd.some (by simp)
  | cons r rs =>
  by_cases h2 : t = 2
  · subst h2
    simp only [show (((2 : Nat) : Int) = 2) from rfl, decide_true, zq18, zq19, zq20, zq21, zq22, zq23, zq24, zq25, zq26, zq27, zq28, zq4, zq3, zq1, zq2, zq0, zq29, zq30, zq14, zq15, zq16, zq17, zq13, zq10, zq12, zq11, zq7, zq5, zq6, zq9, zq8, zq31, zq32, ite_T, ite_F, zq33, zq34, zq35, Nat.reduceEqDiff, len22, len24, fa26_0, fa26_1, fa26_2, len27, fa33_0, fa33_1, len35, fa114_0, fa114_1, fa114_2, fa124_0, fa124_1, len134]
    have H := H.drew
    obtain ⟨cells, hrow, hrc⟩ := H.gow 1 rfl
    refine ⟨fun w' => Gr w5.drew w', Gr.refl _, ?_⟩
    refine rdi (rdG one24 (H.box 2 rfl) rfl) (rdi (rdG one24 (H.box 2 rfl) rfl) ?_)
    refine rdi (ix24_0 (fun _ => hrow.ptr (by simp)) (by simp)) ?_
    have hsrc := hrow.src
    obtain ⟨Y, d, a1, a2, a3, a4⟩ := hrc.cell 0 (by simp)
    rw [rd_loadAgg agg33 sz33 (cs := [.int .i64 r.1, .slice Y r.2.length d]) rfl (fun w' hw j hj => by
      match j, hj with
      | 0, _ => rw [add_add]; exact hw.cell (hsrc.cell _ _ a1)
      | 1, _ => rw [add_add]; exact hw.cell (hsrc.cell _ _ a2))]
    refine do_build_of u24 inf33 (cells := [.int .i64 r.1, .slice Y r.2.length d]) (by decide) (by decide) (by simp [Instr.fill, madeCells, Value.cells, rng1, rng2]) rfl fun b6 w6 hb5 hb6 g6 _ r6 => ?_
    refine ⟨g6, ?_⟩
    have H := H.step g6
    obtain ⟨cells, hrow, hrc⟩ := H.gow 1 rfl
    refine do_append2 u24 inf33 rfl (by decide) hrow (Row.src (r6 _ (Nat.le_refl _))) rfl (by intro v hv; simp at hv; rcases hv with rfl | rfl <;> rfl) (by have := hd.few; simp only [List.length_cons] at this ⊢; omega) (by have := hd.few; simp only [List.length_cons] at this ⊢; omega) (Nat.zero_le _) fun X' c' w' hr' hg hmv => ?_
    have hnew : ∀ q, q < w6.heap.size → blk X ≠ some q → blk X' ≠ some q := fun q hq hn e => by
      rcases hmv with h1 | h1
      · exact hn (h1 ▸ e)
      · have := h1 q e
        omega
    have hrc2 : RuleCells (fun q => ft q ∧ blk X' ≠ some q) w' ((r :: rs) ++ [r]) (cells ++ [.int .i64 r.1, .slice Y r.2.length d]) := by
      refine RuleCells.append ((hrc.lt.same fun q hq => hg.block q hq.2 fun e => hq.1.2 e.symm).mono fun q hq => ⟨hq.1.1, hnew q hq.2 hq.1.2⟩) (.cons a3 ?_ .nil)
      exact ((ltF (a4.gr g6)).same' fun q hq => hg.block q hq.2 fun e => hq.1.2 e.symm).mono fun q hq => ⟨hq.1.1, hnew q hq.2 hq.1.2⟩
    have hlen : (r :: rs).length + 1 = ((r :: rs) ++ [r]).length := by simp
    rw [hlen] at hr' ⊢
    have H := H.set (i := 1) rfl (it' := gth ft X' c' ((r :: rs) ++ [r])) (gx_of hg fun q hq => .inl hq) (fun q hq => by
      rcases hq with hq | hq
      · rcases hmv with e | e
        · exact .inl (.inl (e ▸ hq))
        · exact .inr (e q hq)
      · exact .inl (.inr hq)) (fun q hq => by
      rcases hq with hq | hq
      · exact (hr'.ge hq).2
      · exact Nat.lt_of_lt_of_le ((H.ok 1 _ rfl).hi q (.inr hq)) hg.size) (gow_kept ⟨_, hr', hrc2⟩)
    simp only [List.set_cons_zero, List.set_cons_succ] at H
    simp only [zq18, zq19, zq20, zq21, zq22, zq23, zq24, zq25, zq26, zq27, zq28, zq4, zq3, zq1, zq2, zq0, zq29, zq30, zq14, zq15, zq16, zq17, zq13, zq10, zq12, zq11, zq7, zq5, zq6, zq9, zq8, zq31, zq32, ite_T, ite_F, zq33, zq34, zq35, Nat.reduceEqDiff, len22, len24, fa26_0, fa26_1, fa26_2, len27, fa33_0, fa33_1, len35, fa114_0, fa114_1, fa114_2, fa124_0, fa124_1, len134]
    refine storeH H 2 rfl sz24 rfl rfl rfl fun w8 H => ?_
    simp only [List.set_cons_zero, List.set_cons_succ, List.take_succ_cons, List.take_zero, List.drop_succ_cons, List.drop_zero, List.nil_append, List.cons_append, Value.cells] at H
    exact hK _ _ ⟨rfl, rfl, ⟨nn, tt, (r :: rs) ++ [r]⟩, ft, X', c', ⟨hd.nons, hd.toks, by simp, by have := hd.few; simp only [List.length_append, List.length_cons, List.length_nil] at this ⊢; omega⟩, curMore (m := N + 600) H (by omega)⟩
  simp only [show ¬ ((t : Int) = 2) from by omega, decide_false, zq18, zq19, zq20, zq21, zq22, zq23, zq24, zq25, zq26, zq27, zq28, zq4, zq3, zq1, zq2, zq0, zq29, zq30, zq14, zq15, zq16, zq17, zq13, zq10, zq12, zq11, zq7, zq5, zq6, zq9, zq8, zq31, zq32, ite_T, ite_F, zq33, zq34, zq35, Nat.reduceEqDiff, len22, len24, fa26_0, fa26_1, fa26_2, len27, fa33_0, fa33_1, len35, fa114_0, fa114_1, fa114_2, fa124_0, fa124_1, len134]
  by_cases h3 : t = 3
  · subst h3
    simp only [show (((3 : Nat) : Int) = 3) from rfl, decide_true, zq18, zq19, zq20, zq21, zq22, zq23, zq24, zq25, zq26, zq27, zq28, zq4, zq3, zq1, zq2, zq0, zq29, zq30, zq14, zq15, zq16, zq17, zq13, zq10, zq12, zq11, zq7, zq5, zq6, zq9, zq8, zq31, zq32, ite_T, ite_F, zq33, zq34, zq35, Nat.reduceEqDiff, len22, len24, fa26_0, fa26_1, fa26_2, len27, fa33_0, fa33_1, len35, fa114_0, fa114_1, fa114_2, fa124_0, fa124_1, len134]
    have H := H.drew
    refine ⟨fun w' => Box w' b5 [.int .i64 nn, .int .i64 tt, .slice X (r :: rs).length c] 26, H.box 2 rfl, ?_⟩
    refine rdi (ldS24 (a := ⟨b5, 0 + 2, none⟩) fun w' hw' => (hw'.cell (0 + 2)).trans rfl) ?_
    refine pick_c H 0 rfl hC (by omega) (by omega) fun w6 y _ hy H => ?_
    simp only [List.set_cons_zero, zq18, zq19, zq20, zq21, zq22, zq23, zq24, zq25, zq26, zq27, zq28, zq4, zq3, zq1, zq2, zq0, zq29, zq30, zq14, zq15, zq16, zq17, zq13, zq10, zq12, zq11, zq7, zq5, zq6, zq9, zq8, zq31, zq32, ite_T, ite_F, zq33, zq34, zq35, Nat.reduceEqDiff, len22, len24, fa26_0, fa26_1, fa26_2, len27, fa33_0, fa33_1, len35, fa114_0, fa114_1, fa114_2, fa124_0, fa124_1, len134] at H ⊢
    refine ⟨H.box 2 rfl, ?_⟩
    obtain ⟨cells, hrow, hrc⟩ := H.gow 1 rfl
    refine rdi (ix24_0 (fun _ => hrow.ptr (by simp)) (by simp)) ?_
    simp only [zq18, zq19, zq20, zq21, zq22, zq23, zq24, zq25, zq26, zq27, zq28, zq4, zq3, zq1, zq2, zq0, zq29, zq30, zq14, zq15, zq16, zq17, zq13, zq10, zq12, zq11, zq7, zq5, zq6, zq9, zq8, zq31, zq32, ite_T, ite_F, zq33, zq34, zq35, Nat.reduceEqDiff, len22, len24, fa26_0, fa26_1, fa26_2, len27, fa33_0, fa33_1, len35, fa114_0, fa114_1, fa114_2, fa124_0, fa124_1, len134]
    generalize IntKind.i64.wrap ((y : Int) - 1) = v
    refine leftH H 1 rfl fun w8 H => ?_
    simp only [List.set_cons_zero, List.set_cons_succ] at H
    exact hK _ _ ⟨rfl, rfl, ⟨nn, tt, (v, r.2) :: rs⟩, ft, X, c, ⟨hd.nons, hd.toks, by simp, by have := hd.few; simp only [List.length_cons] at this ⊢; omega⟩, curMore (m := N + 600) H (by omega)⟩
  simp only [show ¬ ((t : Int) = 3) from by omega, decide_false, zq18, zq19, zq20, zq21, zq22, zq23, zq24, zq25, zq26, zq27, zq28, zq4, zq3, zq1, zq2, zq0, zq29, zq30, zq14, zq15, zq16, zq17, zq13, zq10, zq12, zq11, zq7, zq5, zq6, zq9, zq8, zq31, zq32, ite_T, ite_F, zq33, zq34, zq35, Nat.reduceEqDiff, len22, len24, fa26_0, fa26_1, fa26_2, len27, fa33_0, fa33_1, len35, fa114_0, fa114_1, fa114_2, fa124_0, fa124_1, len134]
  exact hK _ _ ⟨rfl, rfl, ⟨nn, tt, r :: rs⟩, ft, X, c, ⟨hd.nons, hd.toks, hd.some, by have := hd.few; simp only [List.length_cons] at this ⊢; omega⟩, curMore (m := N + 600) H (by omega)⟩
end
end Go.Proofs.Ytegcjkhebecgbaa

/- Cb: bodies of functions as terms of the frame calculus, printed by shgen.py of this repository. -/
set_option linter.unusedVariables false
set_option maxRecDepth 100000
namespace Go.Proofs.Ytegcjkhebecgbaa
open Go Go.Sh

/-! loop.example/g00758/laws.big -/
def pl15 : Plans := fun _ => ⟨false, [], .nil⟩
def S15 (v0 v1 : Value) (k : Value → World → Prop) (w : World) : Prop :=
 Rd Try.prog (WS.at w) (sBuiltin .len #[22] 3 [false] [v0]) fun t1 =>
 Rd Try.prog (WS.at w) (sBin .gtr 3 true t1 (.int .i64 1048576)) fun t2 =>
 GuardK t2 false (fun k w' => k v1 w') (fun t3 w4 =>
 GuardK t2 false (fun k w' => Rd Try.prog (WS.at w4) (sBuiltin .len #[22] 3 [false] [t3]) fun v => k v w') (fun t5 w6 =>
 GuardK t2 false (fun k w' => k v0 w') (fun t7 w8 =>
 GuardK t2 false (fun k w' => Rd Try.prog (WS.at w8) (sBuiltin .len #[22] 3 [false] [t7]) fun v => k v w') (fun t9 w10 =>
 GuardK t2 false (fun k w' => Rd Try.prog (WS.at w10) (sBin .sub 3 true (.int .i64 1048576) t9) fun v => k v w') (fun t11 w12 =>
 GuardK t2 false (fun k w' => Rd Try.prog (WS.at w12) (sBin .gtr 3 false t5 t11) fun v => k v w') (fun t13 w14 =>
 Rd Try.prog (WS.at w14) (sPick t2 (.bool true) t13) fun t15 =>
 k t15 w14) w12) w10) w8) w6) w4) w
theorem body15 : Try.f15.body = some (bodyOf Try.f15) := by kernel_rfl
theorem same15 (v0 v1 : Value) (k : Value → World → Prop) (w : World) : wpF Try.prog pl15 (bodyOf Try.f15) (bodyQ Try.prog Try.f15.results.toList k) (initF [v0, v1]) w = S15 v0 v1 k w := by kernel_rfl
theorem enter15 {v0 v1 : Value} {k : Value → World → Prop} {w : World} (h : S15 v0 v1 k w) : CallK Try.prog 15 [v0, v1] k w :=
  call_of_wpF (pl := pl15) mixed Try.func15 body15 (by kernel_rfl) (of_decide_eq_true (by kernel_rfl)) (by kernel_rfl) (by kernel_rfl) (Eq.mpr (same15 v0 v1 k w) h)

/-! loop.example/g00758/impl.Derives -/
/-! loop.example/g00758/spec.Derives -/
def S18 (v0 v1 v2 : Value) (k : Value → World → Prop) (w : World) : Prop :=
 Do Try.prog (sBox 26 v0) (fun t1 w2 =>
 Rd Try.prog (WS.at w2) (sLoad 26 t1) fun t3 =>
 CallK Try.prog 128 [t3, v2] (fun t4 w5 =>
 Rd Try.prog (WS.at w5) (sUn .not t4) fun t6 =>
 GuardK t6 false (fun k w' => k v1 w') (fun t7 w8 =>
 GuardK t6 false (fun k w' => Rd Try.prog (WS.at w8) (sFieldAddr 26 t1 0) fun v => k v w') (fun t9 w10 =>
 GuardK t6 false (fun k w' => Rd Try.prog (WS.at w10) (sLoad 3 t9) fun v => k v w') (fun t11 w12 =>
 GuardK t6 false (fun k w' => Rd Try.prog (WS.at w12) (sBin .sub 3 true t11 (.int .i64 1)) fun v => k v w') (fun t13 w14 =>
 GuardK t6 false (fun k w' => CallK Try.prog 152 [t7, (.int .i64 0), t13] k w') (fun t15 w16 =>
 GuardK t6 false (fun k w' => Rd Try.prog (WS.at w16) (sUn .not t15) fun v => k v w') (fun t17 w18 =>
 Rd Try.prog (WS.at w18) (sPick t6 (.bool true) t17) fun t19 =>
 CondK t19
  (k (.tuple #[(.bool false), (.bool false)]) w18)
  (Rd Try.prog (WS.at w18) (sLoad 26 t1) fun t20 =>
  CallK Try.prog 153 [t20, v1, v2] (fun t21 w22 =>
  k (.tuple #[t21, (.bool true)]) w22) w18)) w16) w14) w12) w10) w8) w5) w2) w
/-! loop.example/g00758/impl.SequenceDerives -/
/-! loop.example/g00758/impl.SpansOf -/
/-! loop.example/g00758/laws.containsList -/
/-! loop.example/g00758/spec.DrawShortWords -/
/-! loop.example/g00758/spec.DrawDerives -/
/-! loop.example/g00758/laws.sameLists -/
def S25 (v0 v1 : Value) (k : Value → World → Prop) (w : World) : Prop :=
 Rd Try.prog (WS.at w) (sBuiltin .len #[35] 3 [false] [v0]) fun t1 =>
 Rd Try.prog (WS.at w) (sBuiltin .len #[35] 3 [false] [v1]) fun t2 =>
 Rd Try.prog (WS.at w) (sBin .neq 3 false t1 t2) fun t3 =>
 CondK t3
  (k (.bool false) w)
  (Rd Try.prog (WS.at w) (sBuiltin .len #[35] 3 [false] [v0]) fun t4 =>
  LoopF [14, 15, 5, 16, 17, 18, 19, 20, 21, 22, 23, 24, 25, 4, 26, 13] (fun Q5 f6 w7 =>
   Rd Try.prog (WS.at w7) (sBin .lss 3 false (f6 13) (f6 12)) fun t8 =>
   CondK t8
    (Rd Try.prog WS.any (sIndexAddr 35 (f6 0) (f6 13)) fun t9 =>
    Rd Try.prog (WS.at w7.drew) (sLoad 27 t9) fun t10 =>
    Rd Try.prog WS.any (sIndexAddr 35 (f6 1) (f6 13)) fun t11 =>
    Rd Try.prog (WS.at w7.drew) (sLoad 27 t11) fun t12 =>
    CallK Try.prog 34 [t10, t12] (fun t13 w14 =>
    Rd Try.prog WS.any (sUn .not t13) fun t15 =>
    CondK t15
     (Q5 .ret (F.upd (F.upd (F.upd (F.upd (F.upd (F.upd (F.upd (F.upd (F.upd (F.upd (F.upd (F.upd (F.upd (F.upd f6 14 t8) 15 (f6 13)) 5 (f6 13)) 16 (f6 0)) 17 (f6 13)) 18 t9) 19 t10) 20 (f6 1)) 21 (f6 13)) 22 t11) 23 t12) 24 t13) 25 t15) 4 (.bool false)) w14)
     (Rd Try.prog (WS.at w14) (sBin .add 3 true (f6 13) (.int .i64 1)) fun t16 =>
     Q5 .normal (F.upd (F.upd (F.upd (F.upd (F.upd (F.upd (F.upd (F.upd (F.upd (F.upd (F.upd (F.upd (F.upd (F.upd (F.upd f6 14 t8) 15 (f6 13)) 5 (f6 13)) 16 (f6 0)) 17 (f6 13)) 18 t9) 19 t10) 20 (f6 1)) 21 (f6 13)) 22 t11) 23 t12) 24 t13) 25 t15) 26 t16) 13 t16) w14)) w7.drew)
    (Q5 (.exit 0) (F.upd f6 14 t8) w7))
   (blockQ 0 (seqQ (fun f17 w18 =>
  k (.bool true) w18) (bodyQ Try.prog [.tmp 4] k)))
   (F.upd (F.upd (F.upd (F.upd (F.upd (F.upd (F.upd (F.upd (F.upd (initF [v0, v1]) 4 (.bool false)) 6 v0) 7 t1) 8 v1) 9 t2) 10 t3) 11 v0) 12 t4) 13 (.int .i64 0)) w)
/-! loop.example/g00758/impl.InLanguage -/
/-! loop.example/g00758/spec.DrawSequenceDerives -/
/-! loop.example/g00758/spec.SequenceDerives -/
def S28 (v0 v1 v2 : Value) (k : Value → World → Prop) (w : World) : Prop :=
 Do Try.prog (sBox 26 v0) (fun t1 w2 =>
 Rd Try.prog (WS.at w2) (sLoad 26 t1) fun t3 =>
 CallK Try.prog 128 [t3, v2] (fun t4 w5 =>
 Rd Try.prog (WS.at w5) (sUn .not t4) fun t6 =>
 GuardK t6 false (fun k w' => Rd Try.prog (WS.at w5) (sLoad 26 t1) fun v => k v w') (fun t7 w8 =>
 GuardK t6 false (fun k w' => k v1 w') (fun t9 w10 =>
 GuardK t6 false (fun k w' => CallK Try.prog 160 [t7, t9, (.int .i64 4)] k w') (fun t11 w12 =>
 GuardK t6 false (fun k w' => Rd Try.prog (WS.at w12) (sUn .not t11) fun v => k v w') (fun t13 w14 =>
 Rd Try.prog (WS.at w14) (sPick t6 (.bool true) t13) fun t15 =>
 CondK t15
  (k (.tuple #[(.bool false), (.bool false)]) w14)
  (Rd Try.prog (WS.at w14) (sLoad 26 t1) fun t16 =>
  CallK Try.prog 162 [t16, v2] (fun t17 w18 =>
  Rd Try.prog (WS.at w18) (sBuiltin .len #[27] 3 [false] [v2]) fun t19 =>
  CallK Try.prog 161 [t17, v2, v1, (.int .i64 0), t19] (fun t20 w21 =>
  k (.tuple #[t20, (.bool true)]) w21) w18) w14)) w12) w10) w8) w5) w2) w
/-! loop.example/g00758/spec.DrawSpansOf -/
/-! loop.example/g00758/spec.SpansOf -/
/-! loop.example/g00758/laws.sameInts -/
/-! loop.example/g00758/spec.DrawInLanguage -/
def S43 (v0 : Value) (k : Value → World → Prop) (w : World) : Prop :=
 Do Try.prog (sAlloc 26) (fun t1 w2 =>
 Rd Try.prog (WS.at w2) (sBuild 114 [(0, v0)]) fun t3 =>
 Do Try.prog (sBox 114 t3) (fun t4 w5 =>
 CallK Try.prog 145 [t4] (fun t6 w7 =>
 Do Try.prog (sAlloc 26) (fun t8 w9 =>
 Do Try.prog (sStore 26 t8 t6) (fun _ w10 =>
 ∃ S11 : World → Prop, ∃ h12 : S11 w10.drew,
 Rd Try.prog ⟨S11, w10.drew, h12⟩ (sLoad 26 t8) fun t13 =>
 Rd Try.prog ⟨S11, w10.drew, h12⟩ (sLoad 26 t8) fun t14 =>
 CallK Try.prog 147 [t4, t14] (fun t15 w16 =>
 S11 w16 ∧ Do Try.prog (sStore 26 t1 t13) (fun _ w17 =>
 Rd Try.prog (WS.at w17) (sLoadVar 26 t1) fun t18 => k (.tuple #[t18, t15]) w17) w16) w10.drew) w9) w7) w5) w2) w
/-! loop.example/g00758/spec.l4Form -/
/-! loop.example/g00758/laws.FnDerives -/
end Go.Proofs.Ytegcjkhebecgbaa

/- Ce: bodies of functions as terms of the frame calculus, printed by shgen.py of this repository. -/
set_option linter.unusedVariables false
set_option maxRecDepth 100000
namespace Go.Proofs.Ytegcjkhebecgbaa
open Go Go.Sh

/-! loop.example/g00758/laws.FnFinite -/
def pl7 : Plans := fun _ => ⟨false, [], .nil⟩
def S7 (v0 v1 : Value) (k : Value → World → Prop) (w : World) : Prop :=
 CallK Try.prog 15 [v0, v1] (fun t1 w2 =>
 CondK t1
  (k (.bool true) w2)
  (CallK Try.prog 55 [v0] (fun t3 w4 =>
  Do Try.prog (sAlloc 26) (fun t5 w6 =>
  Do Try.prog (sStore 26 t5 t3) (fun _ w7 =>
  Rd Try.prog (WS.at w7) (sLoad 26 t5) fun t8 =>
  CallK Try.prog 56 [t8] (fun t9 w10 =>
  Rd Try.prog (WS.at w10) (sExtract t9 0) fun t11 =>
  Rd Try.prog (WS.at w10) (sExtract t9 1) fun t12 =>
  Rd Try.prog (WS.at w10) (sLoad 26 t5) fun t13 =>
  CallK Try.prog 57 [t13] (fun t14 w15 =>
  Rd Try.prog (WS.at w15) (sExtract t14 0) fun t16 =>
  Rd Try.prog (WS.at w15) (sExtract t14 1) fun t17 =>
  Rd Try.prog (WS.at w15) (sLoad 26 t5) fun t18 =>
  CallK Try.prog 58 [t18] (fun t19 w20 =>
  Rd Try.prog (WS.at w20) (sExtract t19 0) fun t21 =>
  Rd Try.prog (WS.at w20) (sExtract t19 1) fun t22 =>
  Rd Try.prog (WS.at w20) (sLoad 26 t5) fun t23 =>
  CallK Try.prog 59 [t23] (fun t24 w25 =>
  Rd Try.prog (WS.at w25) (sExtract t24 0) fun t26 =>
  Rd Try.prog (WS.at w25) (sExtract t24 1) fun t27 =>
  Rd Try.prog (WS.at w25) (sBin .neq 4 false t12 t17) fun t28 =>
  GuardK t28 false (fun k w' => k t11 w') (fun t29 w30 =>
  GuardK t28 false (fun k w' => k t16 w') (fun t31 w32 =>
  GuardK t28 false (fun k w' => Rd Try.prog (WS.at w32) (sBin .neq 4 false t29 t31) fun v => k v w') (fun t33 w34 =>
  Rd Try.prog (WS.at w34) (sPick t28 (.bool true) t33) fun t35 =>
  GuardK t35 false (fun k w' => k t22 w') (fun t36 w37 =>
  GuardK t35 false (fun k w' => k t27 w') (fun t38 w39 =>
  GuardK t35 false (fun k w' => Rd Try.prog (WS.at w39) (sBin .neq 4 false t36 t38) fun v => k v w') (fun t40 w41 =>
  Rd Try.prog (WS.at w41) (sPick t35 (.bool true) t40) fun t42 =>
  GuardK t42 false (fun k w' => k t21 w') (fun t43 w44 =>
  GuardK t42 false (fun k w' => k t26 w') (fun t45 w46 =>
  GuardK t42 false (fun k w' => Rd Try.prog (WS.at w46) (sBin .neq 3 false t43 t45) fun v => k v w') (fun t47 w48 =>
  Rd Try.prog (WS.at w48) (sPick t42 (.bool true) t47) fun t49 =>
  CondK t49
   (k (.bool false) w48)
   (Join (fun K50 =>
   CondK t12
    (Rd Try.prog (WS.at w48) (sLoad 26 t5) fun t53 =>
    CallK Try.prog 60 [t53] (fun t54 w55 =>
    Rd Try.prog (WS.at w55) (sExtract t54 0) fun t56 =>
    Rd Try.prog (WS.at w55) (sExtract t54 1) fun t57 =>
    Rd Try.prog (WS.at w55) (sLoad 26 t5) fun t58 =>
    CallK Try.prog 23 [t58, (.int .i64 3)] (fun t59 w60 =>
    Rd Try.prog (WS.at w60) (sExtract t59 0) fun t61 =>
    Rd Try.prog (WS.at w60) (sExtract t59 1) fun t62 =>
    Rd Try.prog (WS.at w60) (sUn .not t57) fun t63 =>
    GuardK t63 false (fun k w' => k t22 w') (fun t64 w65 =>
    GuardK t63 false (fun k w' => k t56 w') (fun t66 w67 =>
    GuardK t63 false (fun k w' => CallK Try.prog 35 [t66, (.int .i64 0)] k w') (fun t68 w69 =>
    GuardK t63 false (fun k w' => Rd Try.prog (WS.at w69) (sBin .neq 4 false t64 t68) fun v => k v w') (fun t70 w71 =>
    Rd Try.prog (WS.at w71) (sPick t63 (.bool true) t70) fun t72 =>
    GuardK t72 false (fun k w' => k t62 w') (fun t73 w74 =>
    GuardK t72 false (fun k w' => Rd Try.prog (WS.at w74) (sUn .not t73) fun v => k v w') (fun t75 w76 =>
    Rd Try.prog (WS.at w76) (sPick t72 (.bool true) t75) fun t77 =>
    GuardK t77 false (fun k w' => k t22 w') (fun t78 w79 =>
    GuardK t77 false (fun k w' => Rd Try.prog (WS.at w79) (sUn .not t78) fun v => k v w') (fun t80 w81 =>
    GuardK t77 false (fun k w' => k t80 w') (fun t82 w83 =>
    GuardK t82 true (fun k w' => k t61 w') (fun t84 w85 =>
    GuardK t82 true (fun k w' => Rd Try.prog (WS.at w85) (sBuiltin .len #[35] 3 [false] [t84]) fun v => k v w') (fun t86 w87 =>
    GuardK t82 true (fun k w' => Rd Try.prog (WS.at w87) (sBin .gtr 3 true t86 (.int .i64 0)) fun v => k v w') (fun t88 w89 =>
    GuardK t77 false (fun k w' => Rd Try.prog (WS.at w89) (sPick t82 t88 (.bool false)) fun v => k v w') (fun t90 w91 =>
    Rd Try.prog (WS.at w91) (sPick t77 (.bool true) t90) fun t92 =>
    GuardK t92 false (fun k w' => k t22 w') (fun t93 w94 =>
    GuardK t92 false (fun k w' => k t93 w') (fun t95 w96 =>
    GuardK t95 true (fun k w' => k t21 w') (fun t97 w98 =>
    GuardK t95 true (fun k w' => Rd Try.prog (WS.at w98) (sBin .leq 3 true t97 (.int .i64 3)) fun v => k v w') (fun t99 w100 =>
    GuardK t92 false (fun k w' => Rd Try.prog (WS.at w100) (sPick t95 t99 (.bool false)) fun v => k v w') (fun t101 w102 =>
    GuardK t92 false (fun k w' => k t101 w') (fun t103 w104 =>
    GuardK t103 true (fun k w' => k t61 w') (fun t105 w106 =>
    GuardK t103 true (fun k w' => Rd Try.prog (WS.at w106) (sBuiltin .len #[35] 3 [false] [t105]) fun v => k v w') (fun t107 w108 =>
    GuardK t103 true (fun k w' => Rd Try.prog (WS.at w108) (sBin .eql 3 true t107 (.int .i64 0)) fun v => k v w') (fun t109 w110 =>
    GuardK t103 true (fun k w' => k t109 w') (fun t111 w112 =>
    GuardK t111 false (fun k w' => k t61 w') (fun t113 w114 =>
    GuardK t111 false (fun k w' => Rd Try.prog (WS.at w114) (sIndexAddr 35 t113 (.int .i64 0)) fun v => k v w') (fun t115 w116 =>
    GuardK t111 false (fun k w' => Rd Try.prog (WS.at w116) (sLoad 27 t115) fun v => k v w') (fun t117 w118 =>
    GuardK t111 false (fun k w' => Rd Try.prog (WS.at w118) (sBuiltin .len #[27] 3 [false] [t117]) fun v => k v w') (fun t119 w120 =>
    GuardK t111 false (fun k w' => k t21 w') (fun t121 w122 =>
    GuardK t111 false (fun k w' => Rd Try.prog (WS.at w122) (sBin .neq 3 false t119 t121) fun v => k v w') (fun t123 w124 =>
    GuardK t103 true (fun k w' => Rd Try.prog (WS.at w124) (sPick t111 (.bool true) t123) fun v => k v w') (fun t125 w126 =>
    GuardK t92 false (fun k w' => Rd Try.prog (WS.at w126) (sPick t103 t125 (.bool false)) fun v => k v w') (fun t127 w128 =>
    Rd Try.prog (WS.at w128) (sPick t92 (.bool true) t127) fun t129 =>
    GuardK t129 false (fun k w' => k t22 w') (fun t130 w131 =>
    GuardK t129 false (fun k w' => k t130 w') (fun t132 w133 =>
    GuardK t132 true (fun k w' => k t21 w') (fun t134 w135 =>
    GuardK t132 true (fun k w' => Rd Try.prog (WS.at w135) (sBin .gtr 3 true t134 (.int .i64 3)) fun v => k v w') (fun t136 w137 =>
    GuardK t129 false (fun k w' => Rd Try.prog (WS.at w137) (sPick t132 t136 (.bool false)) fun v => k v w') (fun t138 w139 =>
    GuardK t129 false (fun k w' => k t138 w') (fun t140 w141 =>
    GuardK t140 true (fun k w' => k t61 w') (fun t142 w143 =>
    GuardK t140 true (fun k w' => Rd Try.prog (WS.at w143) (sBuiltin .len #[35] 3 [false] [t142]) fun v => k v w') (fun t144 w145 =>
    GuardK t140 true (fun k w' => Rd Try.prog (WS.at w145) (sBin .gtr 3 true t144 (.int .i64 0)) fun v => k v w') (fun t146 w147 =>
    GuardK t129 false (fun k w' => Rd Try.prog (WS.at w147) (sPick t140 t146 (.bool false)) fun v => k v w') (fun t148 w149 =>
    Rd Try.prog (WS.at w149) (sPick t129 (.bool true) t148) fun t150 =>
    GuardK t150 false (fun k w' => k t22 w') (fun t151 w152 =>
    GuardK t150 false (fun k w' => Rd Try.prog (WS.at w152) (sUn .not t151) fun v => k v w') (fun t153 w154 =>
    GuardK t150 false (fun k w' => k t153 w') (fun t155 w156 =>
    GuardK t155 true (fun k w' => k t11 w') (fun t157 w158 =>
    GuardK t155 true (fun k w' => Rd Try.prog (WS.at w158) (sUn .not t157) fun v => k v w') (fun t159 w160 =>
    GuardK t150 false (fun k w' => Rd Try.prog (WS.at w160) (sPick t155 t159 (.bool false)) fun v => k v w') (fun t161 w162 =>
    Rd Try.prog (WS.at w162) (sPick t150 (.bool true) t161) fun t163 =>
    CondK t163
     (k (.bool false) w162)
     (Rd Try.prog (WS.at w162) (sLoad 26 t5) fun t164 =>
     CallK Try.prog 61 [t164] (fun t165 w166 =>
     Rd Try.prog (WS.at w166) (sExtract t165 0) fun t167 =>
     Rd Try.prog (WS.at w166) (sExtract t165 1) fun t168 =>
     Rd Try.prog (WS.at w166) (sUn .not t168) fun t169 =>
     GuardK t169 false (fun k w' => k t167 w') (fun t170 w171 =>
     GuardK t169 false (fun k w' => CallK Try.prog 35 [t170, (.int .i64 0)] k w') (fun t172 w173 =>
     GuardK t169 false (fun k w' => k t22 w') (fun t174 w175 =>
     GuardK t169 false (fun k w' => k t174 w') (fun t176 w177 =>
     GuardK t176 true (fun k w' => k t21 w') (fun t178 w179 =>
     GuardK t176 true (fun k w' => Rd Try.prog (WS.at w179) (sBin .eql 3 true t178 (.int .i64 0)) fun v => k v w') (fun t180 w181 =>
     GuardK t169 false (fun k w' => Rd Try.prog (WS.at w181) (sPick t176 t180 (.bool false)) fun v => k v w') (fun t182 w183 =>
     GuardK t169 false (fun k w' => Rd Try.prog (WS.at w183) (sBin .neq 4 false t172 t182) fun v => k v w') (fun t184 w185 =>
     Rd Try.prog (WS.at w185) (sPick t169 (.bool true) t184) fun t186 =>
     CondK t186
      (k (.bool false) w185)
      (K50 (F.upd (F.upd (F.upd (F.upd (F.upd (F.upd (F.upd (F.upd (F.upd (F.upd (F.upd (F.upd (F.upd (F.upd (F.upd (F.upd (F.upd (F.upd (F.upd (F.upd (F.upd (F.upd (F.upd (F.upd (F.upd (F.upd (F.upd (F.upd (F.upd (F.upd (F.upd (F.upd (F.upd (F.upd (F.upd (F.upd (F.upd (F.upd (F.upd (F.upd (F.upd (F.upd (F.upd (F.upd (F.upd (F.upd (F.upd (F.upd (F.upd (F.upd (F.upd (F.upd (F.upd (F.upd (F.upd (F.upd (F.upd (F.upd (F.upd (F.upd (F.upd (F.upd (F.upd (F.upd (F.upd (F.upd (F.upd (F.upd (F.upd (F.upd (F.upd (F.upd (F.upd (F.upd (F.upd (F.upd (F.upd (F.upd (F.upd (F.upd (F.upd (F.upd (F.upd (F.upd (F.upd (F.upd (F.upd (F.upd (F.upd (F.upd (F.upd (F.upd (F.upd (F.upd (F.upd (F.upd (F.upd (F.upd (F.upd (F.upd (F.upd (F.upd (F.upd (F.upd (F.upd (F.upd (F.upd (F.upd (F.upd (F.upd (F.upd (F.upd (F.upd (F.upd (F.upd (F.upd (F.upd (F.upd (F.upd (F.upd (F.upd (F.upd (F.upd (F.upd (F.upd (F.upd (F.upd (F.upd (F.upd (F.upd (F.upd (F.upd (F.upd (F.upd (F.upd (F.upd (F.upd (F.upd (F.upd (F.upd (F.upd (F.upd (F.upd (F.upd (F.upd (F.upd (F.upd (F.upd (initF [v0, v1]) 4 (.bool false)) 25 v0) 26 v1) 27 t1) 28 v0) 29 t3) 5 t5) 31 t8) 32 t9) 30 t9) 33 t11) 34 t12) 6 t11) 7 t12) 36 t13) 37 t14) 35 t14) 38 t16) 39 t17) 8 t16) 9 t17) 41 t18) 42 t19) 40 t19) 43 t21) 44 t22) 10 t21) 11 t22) 46 t23) 47 t24) 45 t24) 48 t26) 49 t27) 12 t26) 13 t27) 50 t12) 51 t17) 52 t28) 53 t28) 54 t29) 55 t31) 56 t33) 57 t35) 58 t35) 59 t36) 60 t38) 61 t40) 62 t42) 63 t42) 64 t43) 65 t45) 66 t47) 67 t49) 68 t12) 70 t53) 71 t54) 69 t54) 72 t56) 73 t57) 14 t56) 15 t57) 75 t58) 76 t59) 74 t59) 77 t61) 78 t62) 16 t61) 17 t62) 79 t57) 80 t63) 81 t63) 82 t64) 83 t66) 84 t68) 85 t70) 86 t72) 87 t72) 88 t73) 89 t75) 90 t77) 91 t77) 92 t78) 93 t80) 94 t82) 95 t84) 96 t86) 97 t88) 98 t90) 99 t92) 100 t92) 101 t93) 102 t95) 103 t97) 104 t99) 105 t101) 106 t103) 107 t105) 108 t107) 109 t109) 110 t111) 111 t113) 112 t115) 113 t117) 114 t119) 115 t121) 116 t123) 117 t125) 118 t127) 119 t129) 120 t129) 121 t130) 122 t132) 123 t134) 124 t136) 125 t138) 126 t140) 127 t142) 128 t144) 129 t146) 130 t148) 131 t150) 132 t150) 133 t151) 134 t153) 135 t155) 136 t157) 137 t159) 138 t161) 139 t163) 141 t164) 142 t165) 140 t165) 143 t167) 144 t168) 18 t167) 19 t168) 145 t168) 146 t169) 147 t169) 148 t170) 149 t172) 150 t174) 151 t176) 152 t178) 153 t180) 154 t182) 155 t184) 156 t186) w185)) w183) w181) w179) w177) w175) w173) w171) w166) w162)) w160) w158) w156) w154) w152) w149) w147) w145) w143) w141) w139) w137) w135) w133) w131) w128) w126) w124) w122) w120) w118) w116) w114) w112) w110) w108) w106) w104) w102) w100) w98) w96) w94) w91) w89) w87) w85) w83) w81) w79) w76) w74) w71) w69) w67) w65) w60) w55) w48)
    (K50 (F.upd (F.upd (F.upd (F.upd (F.upd (F.upd (F.upd (F.upd (F.upd (F.upd (F.upd (F.upd (F.upd (F.upd (F.upd (F.upd (F.upd (F.upd (F.upd (F.upd (F.upd (F.upd (F.upd (F.upd (F.upd (F.upd (F.upd (F.upd (F.upd (F.upd (F.upd (F.upd (F.upd (F.upd (F.upd (F.upd (F.upd (F.upd (F.upd (F.upd (F.upd (F.upd (F.upd (F.upd (F.upd (F.upd (F.upd (F.upd (F.upd (F.upd (F.upd (F.upd (F.upd (F.upd (initF [v0, v1]) 4 (.bool false)) 25 v0) 26 v1) 27 t1) 28 v0) 29 t3) 5 t5) 31 t8) 32 t9) 30 t9) 33 t11) 34 t12) 6 t11) 7 t12) 36 t13) 37 t14) 35 t14) 38 t16) 39 t17) 8 t16) 9 t17) 41 t18) 42 t19) 40 t19) 43 t21) 44 t22) 10 t21) 11 t22) 46 t23) 47 t24) 45 t24) 48 t26) 49 t27) 12 t26) 13 t27) 50 t12) 51 t17) 52 t28) 53 t28) 54 t29) 55 t31) 56 t33) 57 t35) 58 t35) 59 t36) 60 t38) 61 t40) 62 t42) 63 t42) 64 t43) 65 t45) 66 t47) 67 t49) 68 t12) w48)) (fun f51 w52 =>
   CallK Try.prog 62 [(f51 1)] (fun t187 w188 =>
   Do Try.prog (sAlloc 26) (fun t189 w190 =>
   Do Try.prog (sStore 26 t189 t187) (fun _ w191 =>
   Rd Try.prog (WS.at w191) (sLoad 26 t189) fun t192 =>
   CallK Try.prog 58 [t192] (fun t193 w194 =>
   Rd Try.prog (WS.at w194) (sExtract t193 0) fun t195 =>
   Rd Try.prog (WS.at w194) (sExtract t193 1) fun t196 =>
   Rd Try.prog (WS.at w194) (sLoad 26 t189) fun t197 =>
   CallK Try.prog 59 [t197] (fun t198 w199 =>
   Rd Try.prog (WS.at w199) (sExtract t198 0) fun t200 =>
   Rd Try.prog (WS.at w199) (sExtract t198 1) fun t201 =>
   Rd Try.prog (WS.at w199) (sBin .eql 4 false t196 t201) fun t202 =>
   GuardK t202 true (fun k w' => k t195 w') (fun t203 w204 =>
   GuardK t202 true (fun k w' => k t200 w') (fun t205 w206 =>
   GuardK t202 true (fun k w' => Rd Try.prog (WS.at w206) (sBin .eql 3 false t203 t205) fun v => k v w') (fun t207 w208 =>
   Rd Try.prog (WS.at w208) (sPick t202 t207 (.bool false)) fun t209 =>
   k t209 w208) w206) w204) w199) w194) w191) w190) w188) w52))) w46) w44) w41) w39) w37) w34) w32) w30) w25) w20) w15) w10) w7) w6) w4) w2)) w
theorem body7 : Try.f7.body = some (bodyOf Try.f7) := by kernel_rfl
theorem same7 (v0 v1 : Value) (k : Value → World → Prop) (w : World) : wpF Try.prog pl7 (bodyOf Try.f7) (bodyQ Try.prog Try.f7.results.toList k) (initF [v0, v1]) w = S7 v0 v1 k w := by kernel_rfl
theorem enter7 {v0 v1 : Value} {k : Value → World → Prop} {w : World} (h : S7 v0 v1 k w) : CallK Try.prog 7 [v0, v1] k w :=
  call_of_wpF (pl := pl7) mixed Try.func7 body7 (by kernel_rfl) (of_decide_eq_true (by kernel_rfl)) (by kernel_rfl) (by kernel_rfl) (Eq.mpr (same7 v0 v1 k w) h)

/-! loop.example/g00758/laws.FnUseful -/
/-! loop.example/g00758/laws.FnUnlike -/
/-! loop.example/g00758/laws.has -/
def pl35 : Plans := fun _ => ⟨false, [], .nil⟩
def S35 (v0 v1 : Value) (k : Value → World → Prop) (w : World) : Prop :=
 Rd Try.prog (WS.at w) (sBuiltin .len #[27] 3 [false] [v0]) fun t1 =>
 LoopF [10, 11, 12, 6, 13, 14, 15, 4, 16, 9] (fun Q2 f3 w4 =>
  Rd Try.prog (WS.at w4) (sBin .lss 3 false (f3 9) (f3 8)) fun t5 =>
  CondK t5
   (Rd Try.prog (WS.at w4) (sIndexAddr 27 (f3 7) (f3 9)) fun t6 =>
   Rd Try.prog (WS.at w4) (sLoad 3 t6) fun t7 =>
   Rd Try.prog (WS.at w4) (sBin .eql 3 false t7 (f3 1)) fun t8 =>
   CondK t8
    (Q2 .ret (F.upd (F.upd (F.upd (F.upd (F.upd (F.upd (F.upd (F.upd f3 10 t5) 11 t6) 12 t7) 6 t7) 13 t7) 14 (f3 1)) 15 t8) 4 (.bool true)) w4)
    (Rd Try.prog (WS.at w4) (sBin .add 3 true (f3 9) (.int .i64 1)) fun t9 =>
    Q2 .normal (F.upd (F.upd (F.upd (F.upd (F.upd (F.upd (F.upd (F.upd (F.upd f3 10 t5) 11 t6) 12 t7) 6 t7) 13 t7) 14 (f3 1)) 15 t8) 16 t9) 9 t9) w4))
   (Q2 (.exit 0) (F.upd f3 10 t5) w4))
  (blockQ 0 (seqQ (fun f10 w11 =>
 k (.bool false) w11) (bodyQ Try.prog [.tmp 4] k)))
  (F.upd (F.upd (F.upd (F.upd (initF [v0, v1]) 4 (.bool false)) 7 v0) 8 t1) 9 (.int .i64 0)) w
theorem body35 : Try.f35.body = some (bodyOf Try.f35) := by kernel_rfl
theorem same35 (v0 v1 : Value) (k : Value → World → Prop) (w : World) : wpF Try.prog pl35 (bodyOf Try.f35) (bodyQ Try.prog Try.f35.results.toList k) (initF [v0, v1]) w = S35 v0 v1 k w := by kernel_rfl
theorem enter35 {v0 v1 : Value} {k : Value → World → Prop} {w : World} (h : S35 v0 v1 k w) : CallK Try.prog 35 [v0, v1] k w :=
  call_of_wpF (pl := pl35) mixed Try.func35 body35 (by kernel_rfl) (of_decide_eq_true (by kernel_rfl)) (by kernel_rfl) (by kernel_rfl) (Eq.mpr (same35 v0 v1 k w) h)

/-! loop.example/g00758/laws.sameGrammar -/
/-! loop.example/g00758/laws.sameRules -/
/-! loop.example/g00758/spec.DrawSameUpTo -/
def S74 (v0 : Value) (k : Value → World → Prop) (w : World) : Prop :=
 Do Try.prog (sAlloc 26) (fun t1 w2 =>
 Do Try.prog (sAlloc 26) (fun t3 w4 =>
 Rd Try.prog (WS.at w4) (sBuild 114 [(0, v0)]) fun t5 =>
 Do Try.prog (sBox 114 t5) (fun t6 w7 =>
 CallK Try.prog 168 [t6] (fun t8 w9 =>
 Rd Try.prog (WS.at w9) (sExtract t8 0) fun t10 =>
 Rd Try.prog (WS.at w9) (sExtract t8 1) fun t11 =>
 Do Try.prog (sAlloc 26) (fun t12 w13 =>
 Do Try.prog (sAlloc 26) (fun t14 w15 =>
 Do Try.prog (sStore 26 t12 t10) (fun _ w16 =>
 Do Try.prog (sStore 26 t14 t11) (fun _ w17 =>
 ∃ S18 : World → Prop, ∃ h19 : S18 w17.drew,
 Rd Try.prog ⟨S18, w17.drew, h19⟩ (sLoad 26 t12) fun t20 =>
 Rd Try.prog ⟨S18, w17.drew, h19⟩ (sLoad 26 t14) fun t21 =>
 Do Try.prog (sBuildSlice 27 6 [(0, (.int .i64 0)), (1, (.int .i64 1)), (2, (.int .i64 2)), (3, (.int .i64 3)), (4, (.int .i64 3)), (5, (.int .i64 5))]) (fun t22 w23 =>
 S18 w23 ∧ CallK Try.prog 156 [t6, t22] (fun t24 w25 =>
 S18 w25 ∧ Do Try.prog (sStore 26 t1 t20) (fun _ w26 =>
 S18 w26 ∧ Do Try.prog (sStore 26 t3 t21) (fun _ w27 =>
 Rd Try.prog (WS.at w27) (sLoadVar 26 t1) fun t28 => Rd Try.prog (WS.at w27) (sLoadVar 26 t3) fun t29 => k (.tuple #[t28, t29, t24]) w27) w26) w25) w23) w17.drew) w16) w15) w13) w9) w7) w4) w2) w
/-! loop.example/g00758/spec.DrawCountByLong -/
/-! loop.example/g00758/spec.DrawUnionOf -/
/-! loop.example/g00758/laws.FnBeside -/
def S5 (v0 v1 : Value) (k : Value → World → Prop) (w : World) : Prop :=
 CallK Try.prog 15 [v0, v1] (fun t1 w2 =>
 CondK t1
  (k (.bool true) w2)
  (CallK Try.prog 36 [v0] (fun t3 w4 =>
  Rd Try.prog (WS.at w4) (sExtract t3 0) fun t5 =>
  Rd Try.prog (WS.at w4) (sExtract t3 1) fun t6 =>
  Do Try.prog (sAlloc 26) (fun t7 w8 =>
  Do Try.prog (sAlloc 26) (fun t9 w10 =>
  Do Try.prog (sStore 26 t7 t5) (fun _ w11 =>
  Do Try.prog (sStore 26 t9 t6) (fun _ w12 =>
  Rd Try.prog (WS.at w12) (sLoad 26 t7) fun t13 =>
  Rd Try.prog (WS.at w12) (sLoad 26 t9) fun t14 =>
  CallK Try.prog 37 [t13, t14] (fun t15 w16 =>
  Rd Try.prog (WS.at w16) (sExtract t15 0) fun t17 =>
  Rd Try.prog (WS.at w16) (sExtract t15 1) fun t18 =>
  Do Try.prog (sAlloc 26) (fun t19 w20 =>
  Do Try.prog (sStore 26 t19 t17) (fun _ w21 =>
  Rd Try.prog (WS.at w21) (sLoad 26 t7) fun t22 =>
  Rd Try.prog (WS.at w21) (sLoad 26 t9) fun t23 =>
  CallK Try.prog 38 [t22, t23] (fun t24 w25 =>
  Rd Try.prog (WS.at w25) (sExtract t24 0) fun t26 =>
  Rd Try.prog (WS.at w25) (sExtract t24 1) fun t27 =>
  Do Try.prog (sAlloc 26) (fun t28 w29 =>
  Do Try.prog (sStore 26 t28 t26) (fun _ w30 =>
  Rd Try.prog (WS.at w30) (sLoad 26 t7) fun t31 =>
  Rd Try.prog (WS.at w30) (sLoad 26 t9) fun t32 =>
  CallK Try.prog 39 [t31, t32] (fun t33 w34 =>
  Rd Try.prog (WS.at w34) (sExtract t33 0) fun t35 =>
  Rd Try.prog (WS.at w34) (sExtract t33 1) fun t36 =>
  Do Try.prog (sAlloc 26) (fun t37 w38 =>
  Do Try.prog (sStore 26 t37 t35) (fun _ w39 =>
  Rd Try.prog (WS.at w39) (sLoad 26 t7) fun t40 =>
  Rd Try.prog (WS.at w39) (sLoad 26 t9) fun t41 =>
  CallK Try.prog 40 [t40, t41] (fun t42 w43 =>
  Rd Try.prog (WS.at w43) (sExtract t42 0) fun t44 =>
  Rd Try.prog (WS.at w43) (sExtract t42 1) fun t45 =>
  Do Try.prog (sAlloc 26) (fun t46 w47 =>
  Do Try.prog (sStore 26 t46 t44) (fun _ w48 =>
  Rd Try.prog (WS.at w48) (sBin .neq 4 false t18 t27) fun t49 =>
  GuardK t49 false (fun k w' => Rd Try.prog (WS.at w48) (sLoad 26 t19) fun v => k v w') (fun t50 w51 =>
  GuardK t49 false (fun k w' => Rd Try.prog (WS.at w51) (sLoad 26 t28) fun v => k v w') (fun t52 w53 =>
  GuardK t49 false (fun k w' => CallK Try.prog 41 [t50, t52] k w') (fun t54 w55 =>
  GuardK t49 false (fun k w' => Rd Try.prog (WS.at w55) (sUn .not t54) fun v => k v w') (fun t56 w57 =>
  Rd Try.prog (WS.at w57) (sPick t49 (.bool true) t56) fun t58 =>
  GuardK t58 false (fun k w' => k t36 w') (fun t59 w60 =>
  GuardK t58 false (fun k w' => k t45 w') (fun t61 w62 =>
  GuardK t58 false (fun k w' => Rd Try.prog (WS.at w62) (sBin .neq 4 false t59 t61) fun v => k v w') (fun t63 w64 =>
  Rd Try.prog (WS.at w64) (sPick t58 (.bool true) t63) fun t65 =>
  GuardK t65 false (fun k w' => Rd Try.prog (WS.at w64) (sLoad 26 t37) fun v => k v w') (fun t66 w67 =>
  GuardK t65 false (fun k w' => Rd Try.prog (WS.at w67) (sLoad 26 t46) fun v => k v w') (fun t68 w69 =>
  GuardK t65 false (fun k w' => CallK Try.prog 41 [t66, t68] k w') (fun t70 w71 =>
  GuardK t65 false (fun k w' => Rd Try.prog (WS.at w71) (sUn .not t70) fun v => k v w') (fun t72 w73 =>
  Rd Try.prog (WS.at w73) (sPick t65 (.bool true) t72) fun t74 =>
  CondK t74
   (k (.bool false) w73)
   (Join (fun K75 =>
   Rd Try.prog (WS.at w73) (sLoad 26 t7) fun t78 =>
   CallK Try.prog 42 [t78] (fun t79 w80 =>
   GuardK t79 true (fun k w' => Rd Try.prog (WS.at w80) (sLoad 26 t9) fun v => k v w') (fun t81 w82 =>
   GuardK t79 true (fun k w' => CallK Try.prog 42 [t81] k w') (fun t83 w84 =>
   Rd Try.prog (WS.at w84) (sPick t79 t83 (.bool false)) fun t85 =>
   GuardK t85 true (fun k w' => Rd Try.prog (WS.at w84) (sFieldAddr 26 t7 1) fun v => k v w') (fun t86 w87 =>
   GuardK t85 true (fun k w' => Rd Try.prog (WS.at w87) (sLoad 3 t86) fun v => k v w') (fun t88 w89 =>
   GuardK t85 true (fun k w' => Rd Try.prog (WS.at w89) (sFieldAddr 26 t9 1) fun v => k v w') (fun t90 w91 =>
   GuardK t85 true (fun k w' => Rd Try.prog (WS.at w91) (sLoad 3 t90) fun v => k v w') (fun t92 w93 =>
   GuardK t85 true (fun k w' => Rd Try.prog (WS.at w93) (sBin .eql 3 false t88 t92) fun v => k v w') (fun t94 w95 =>
   Rd Try.prog (WS.at w95) (sPick t85 t94 (.bool false)) fun t96 =>
   CondK t96
    (CallK Try.prog 43 [v1] (fun t97 w98 =>
    Rd Try.prog (WS.at w98) (sExtract t97 0) fun t99 =>
    Rd Try.prog (WS.at w98) (sExtract t97 1) fun t100 =>
    Do Try.prog (sAlloc 26) (fun t101 w102 =>
    Do Try.prog (sStore 26 t101 t99) (fun _ w103 =>
    Rd Try.prog (WS.at w103) (sLoad 26 t7) fun t104 =>
    CallK Try.prog 44 [t104, t100] (fun t105 w106 =>
    CondK t105
     (Rd Try.prog (WS.at w106) (sLoad 26 t7) fun t107 =>
     CallK Try.prog 26 [t107, t100] (fun t108 w109 =>
     Rd Try.prog (WS.at w109) (sExtract t108 0) fun t110 =>
     Rd Try.prog (WS.at w109) (sExtract t108 1) fun t111 =>
     Rd Try.prog (WS.at w109) (sLoad 26 t9) fun t112 =>
     CallK Try.prog 26 [t112, t100] (fun t113 w114 =>
     Rd Try.prog (WS.at w114) (sExtract t113 0) fun t115 =>
     Rd Try.prog (WS.at w114) (sExtract t113 1) fun t116 =>
     Rd Try.prog (WS.at w114) (sUn .not t111) fun t117 =>
     GuardK t117 false (fun k w' => k t116 w') (fun t118 w119 =>
     GuardK t117 false (fun k w' => Rd Try.prog (WS.at w119) (sUn .not t118) fun v => k v w') (fun t120 w121 =>
     Rd Try.prog (WS.at w121) (sPick t117 (.bool true) t120) fun t122 =>
     CondK t122
      (k (.bool false) w121)
      (Join (fun K123 =>
      CondK t18
       (Rd Try.prog (WS.at w121) (sLoad 26 t19) fun t126 =>
       CallK Try.prog 26 [t126, t100] (fun t127 w128 =>
       Rd Try.prog (WS.at w128) (sExtract t127 0) fun t129 =>
       Rd Try.prog (WS.at w128) (sExtract t127 1) fun t130 =>
       Rd Try.prog (WS.at w128) (sUn .not t130) fun t131 =>
       GuardK t131 false (fun k w' => k t129 w') (fun t132 w133 =>
       GuardK t131 false (fun k w' => k t110 w') (fun t134 w135 =>
       GuardK t131 false (fun k w' => k t134 w') (fun t136 w137 =>
       GuardK t136 false (fun k w' => k t115 w') (fun t138 w139 =>
       GuardK t131 false (fun k w' => Rd Try.prog (WS.at w139) (sPick t136 (.bool true) t138) fun v => k v w') (fun t140 w141 =>
       GuardK t131 false (fun k w' => Rd Try.prog (WS.at w141) (sBin .neq 4 false t132 t140) fun v => k v w') (fun t142 w143 =>
       Rd Try.prog (WS.at w143) (sPick t131 (.bool true) t142) fun t144 =>
       CondK t144
        (k (.bool false) w143)
        (K123 (F.upd (F.upd (F.upd (F.upd (F.upd (F.upd (F.upd (F.upd (F.upd (F.upd (F.upd (F.upd (F.upd (F.upd (F.upd (F.upd (F.upd (F.upd (F.upd (F.upd (F.upd (F.upd (F.upd (F.upd (F.upd (F.upd (F.upd (F.upd (F.upd (F.upd (F.upd (F.upd (F.upd (F.upd (F.upd (F.upd (F.upd (F.upd (F.upd (F.upd (F.upd (F.upd (F.upd (F.upd (F.upd (F.upd (F.upd (F.upd (F.upd (F.upd (F.upd (F.upd (F.upd (F.upd (F.upd (F.upd (F.upd (F.upd (F.upd (F.upd (F.upd (F.upd (F.upd (F.upd (F.upd (F.upd (F.upd (F.upd (F.upd (F.upd (F.upd (F.upd (F.upd (F.upd (F.upd (F.upd (F.upd (F.upd (F.upd (F.upd (F.upd (F.upd (F.upd (F.upd (F.upd (F.upd (F.upd (F.upd (F.upd (F.upd (F.upd (F.upd (F.upd (F.upd (F.upd (F.upd (F.upd (F.upd (F.upd (F.upd (F.upd (F.upd (F.upd (F.upd (F.upd (F.upd (F.upd (F.upd (F.upd (F.upd (F.upd (F.upd (F.upd (F.upd (F.upd (F.upd (F.upd (F.upd (F.upd (F.upd (F.upd (F.upd (F.upd (F.upd (F.upd (F.upd (F.upd (initF [v0, v1]) 4 (.bool false)) 46 v0) 47 v1) 48 t1) 50 v0) 51 t3) 49 t3) 52 t5) 53 t6) 5 t7) 6 t9) 55 t13) 56 t14) 57 t15) 54 t15) 58 t17) 59 t18) 7 t19) 8 t18) 61 t22) 62 t23) 63 t24) 60 t24) 64 t26) 65 t27) 9 t28) 10 t27) 67 t31) 68 t32) 69 t33) 66 t33) 70 t35) 71 t36) 11 t37) 12 t36) 73 t40) 74 t41) 75 t42) 72 t42) 76 t44) 77 t45) 13 t46) 14 t45) 78 t18) 79 t27) 80 t49) 81 t49) 82 t50) 83 t52) 84 t54) 85 t56) 86 t58) 87 t58) 88 t59) 89 t61) 90 t63) 91 t65) 92 t65) 93 t66) 94 t68) 95 t70) 96 t72) 97 t74) 98 t78) 99 t79) 100 t79) 101 t81) 102 t83) 103 t85) 104 t85) 105 t86) 106 t88) 107 t90) 108 t92) 109 t94) 110 t96) 112 v1) 113 t97) 111 t97) 114 t99) 115 t100) 15 t101) 16 t100) 116 t104) 117 t100) 118 t105) 120 t107) 121 t100) 122 t108) 119 t108) 123 t110) 124 t111) 17 t110) 18 t111) 126 t112) 127 t100) 128 t113) 125 t113) 129 t115) 130 t116) 19 t115) 20 t116) 131 t111) 132 t117) 133 t117) 134 t118) 135 t120) 136 t122) 137 t18) 139 t126) 140 t100) 141 t127) 138 t127) 142 t129) 143 t130) 21 t129) 22 t130) 144 t130) 145 t131) 146 t131) 147 t132) 148 t134) 149 t136) 150 t138) 151 t140) 152 t142) 153 t144) w143)) w141) w139) w137) w135) w133) w128) w121)
       (K123 (F.upd (F.upd (F.upd (F.upd (F.upd (F.upd (F.upd (F.upd (F.upd (F.upd (F.upd (F.upd (F.upd (F.upd (F.upd (F.upd (F.upd (F.upd (F.upd (F.upd (F.upd (F.upd (F.upd (F.upd (F.upd (F.upd (F.upd (F.upd (F.upd (F.upd (F.upd (F.upd (F.upd (F.upd (F.upd (F.upd (F.upd (F.upd (F.upd (F.upd (F.upd (F.upd (F.upd (F.upd (F.upd (F.upd (F.upd (F.upd (F.upd (F.upd (F.upd (F.upd (F.upd (F.upd (F.upd (F.upd (F.upd (F.upd (F.upd (F.upd (F.upd (F.upd (F.upd (F.upd (F.upd (F.upd (F.upd (F.upd (F.upd (F.upd (F.upd (F.upd (F.upd (F.upd (F.upd (F.upd (F.upd (F.upd (F.upd (F.upd (F.upd (F.upd (F.upd (F.upd (F.upd (F.upd (F.upd (F.upd (F.upd (F.upd (F.upd (F.upd (F.upd (F.upd (F.upd (F.upd (F.upd (F.upd (F.upd (F.upd (F.upd (F.upd (F.upd (F.upd (F.upd (F.upd (F.upd (F.upd (F.upd (initF [v0, v1]) 4 (.bool false)) 46 v0) 47 v1) 48 t1) 50 v0) 51 t3) 49 t3) 52 t5) 53 t6) 5 t7) 6 t9) 55 t13) 56 t14) 57 t15) 54 t15) 58 t17) 59 t18) 7 t19) 8 t18) 61 t22) 62 t23) 63 t24) 60 t24) 64 t26) 65 t27) 9 t28) 10 t27) 67 t31) 68 t32) 69 t33) 66 t33) 70 t35) 71 t36) 11 t37) 12 t36) 73 t40) 74 t41) 75 t42) 72 t42) 76 t44) 77 t45) 13 t46) 14 t45) 78 t18) 79 t27) 80 t49) 81 t49) 82 t50) 83 t52) 84 t54) 85 t56) 86 t58) 87 t58) 88 t59) 89 t61) 90 t63) 91 t65) 92 t65) 93 t66) 94 t68) 95 t70) 96 t72) 97 t74) 98 t78) 99 t79) 100 t79) 101 t81) 102 t83) 103 t85) 104 t85) 105 t86) 106 t88) 107 t90) 108 t92) 109 t94) 110 t96) 112 v1) 113 t97) 111 t97) 114 t99) 115 t100) 15 t101) 16 t100) 116 t104) 117 t100) 118 t105) 120 t107) 121 t100) 122 t108) 119 t108) 123 t110) 124 t111) 17 t110) 18 t111) 126 t112) 127 t100) 128 t113) 125 t113) 129 t115) 130 t116) 19 t115) 20 t116) 131 t111) 132 t117) 133 t117) 134 t118) 135 t120) 136 t122) 137 t18) w121)) (fun f124 w125 =>
      CondK (f124 12)
       (LoopF [155, 156, 157, 158, 162, 163, 164, 165, 166, 161, 167, 168, 25, 26, 170, 171, 172, 173, 174, 169, 175, 176, 27, 28, 177, 178, 179, 180, 181, 182, 183, 184, 185, 186, 187, 188, 189, 23, 159, 160, 24] (fun Q145 f146 w147 =>
        Rd Try.prog (WS.at w147) (sBuiltin .len #[27] 3 [false] [(f146 16)]) fun t148 =>
        Rd Try.prog (WS.at w147) (sBin .leq 3 false (f146 24) t148) fun t149 =>
        CondK t149
         (Rd Try.prog (WS.at w147.drew) (sLoad 26 (f146 5)) fun t150 =>
         Rd Try.prog WS.any (sSlice 27 (f146 16) none (some (f146 24)) none) fun t151 =>
         CallK Try.prog 26 [t150, t151] (fun t152 w153 =>
         Rd Try.prog WS.any (sExtract t152 0) fun t154 =>
         Rd Try.prog WS.any (sExtract t152 1) fun t155 =>
         Rd Try.prog (WS.at w153.drew) (sLoad 26 (f146 6)) fun t156 =>
         Rd Try.prog WS.any (sSlice 27 (f146 16) (some (f146 24)) none none) fun t157 =>
         CallK Try.prog 26 [t156, t157] (fun t158 w159 =>
         Rd Try.prog WS.any (sExtract t158 0) fun t160 =>
         Rd Try.prog WS.any (sExtract t158 1) fun t161 =>
         GuardK (f146 23) false (fun k w' => k t155 w') (fun t162 w163 =>
         GuardK (f146 23) false (fun k w' => k t162 w') (fun t164 w165 =>
         GuardK t164 true (fun k w' => k t161 w') (fun t166 w167 =>
         GuardK (f146 23) false (fun k w' => Rd Try.prog (WS.at w167) (sPick t164 t166 (.bool false)) fun v => k v w') (fun t168 w169 =>
         GuardK (f146 23) false (fun k w' => k t168 w') (fun t170 w171 =>
         GuardK t170 true (fun k w' => k t154 w') (fun t172 w173 =>
         GuardK (f146 23) false (fun k w' => Rd Try.prog (WS.at w173) (sPick t170 t172 (.bool false)) fun v => k v w') (fun t174 w175 =>
         GuardK (f146 23) false (fun k w' => k t174 w') (fun t176 w177 =>
         GuardK t176 true (fun k w' => k t160 w') (fun t178 w179 =>
         GuardK (f146 23) false (fun k w' => Rd Try.prog (WS.at w179) (sPick t176 t178 (.bool false)) fun v => k v w') (fun t180 w181 =>
         Rd Try.prog (WS.at w181) (sPick (f146 23) (.bool true) t180) fun t182 =>
         Rd Try.prog (WS.at w181) (sBin .add 3 true (f146 24) (.int .i64 1)) fun t183 =>
         Q145 .normal (F.upd (F.upd (F.upd (F.upd (F.upd (F.upd (F.upd (F.upd (F.upd (F.upd (F.upd (F.upd (F.upd (F.upd (F.upd (F.upd (F.upd (F.upd (F.upd (F.upd (F.upd (F.upd (F.upd (F.upd (F.upd (F.upd (F.upd (F.upd (F.upd (F.upd (F.upd (F.upd (F.upd (F.upd (F.upd (F.upd (F.upd (F.upd (F.upd (F.upd (F.upd f146 155 (f146 24)) 156 (f146 16)) 157 t148) 158 t149) 162 t150) 163 (f146 16)) 164 (f146 24)) 165 t151) 166 t152) 161 t152) 167 t154) 168 t155) 25 t154) 26 t155) 170 t156) 171 (f146 16)) 172 (f146 24)) 173 t157) 174 t158) 169 t158) 175 t160) 176 t161) 27 t160) 28 t161) 177 (f146 23)) 178 (f146 23)) 179 t162) 180 t164) 181 t166) 182 t168) 183 t170) 184 t172) 185 t174) 186 t176) 187 t178) 188 t180) 189 t182) 23 t182) 159 (f146 24)) 160 t183) 24 t183) w181) w179) w177) w175) w173) w171) w169) w167) w165) w163) w159) w153.drew) w147.drew)
         (Q145 (.exit 0) (F.upd (F.upd (F.upd (F.upd f146 155 (f146 24)) 156 (f146 16)) 157 t148) 158 t149) w147))
        (blockQ 0 (seqQ (fun f184 w185 =>
       Rd Try.prog (WS.at w185) (sLoad 26 (f184 11)) fun t186 =>
       CallK Try.prog 26 [t186, (f184 16)] (fun t187 w188 =>
       Rd Try.prog (WS.at w188) (sExtract t187 0) fun t189 =>
       Rd Try.prog (WS.at w188) (sExtract t187 1) fun t190 =>
       Rd Try.prog (WS.at w188) (sUn .not t190) fun t191 =>
       GuardK t191 false (fun k w' => k t189 w') (fun t192 w193 =>
       GuardK t191 false (fun k w' => k (f184 23) w') (fun t194 w195 =>
       GuardK t191 false (fun k w' => Rd Try.prog (WS.at w195) (sBin .neq 4 false t192 t194) fun v => k v w') (fun t196 w197 =>
       Rd Try.prog (WS.at w197) (sPick t191 (.bool true) t196) fun t198 =>
       CondK t198
        (k (.bool false) w197)
        (K75 (F.upd (F.upd (F.upd (F.upd (F.upd (F.upd (F.upd (F.upd (F.upd (F.upd (F.upd (F.upd (F.upd (F.upd (F.upd f184 191 t186) 192 (f184 16)) 193 t187) 190 t187) 194 t189) 195 t190) 29 t189) 30 t190) 196 t190) 197 t191) 198 t191) 199 t192) 200 t194) 201 t196) 202 t198) w197)) w195) w193) w188) w185) (seqQ K75 (bodyQ Try.prog [.tmp 4] k))))
        (F.upd (F.upd (F.upd f124 154 (f124 12)) 23 (.bool false)) 24 (.int .i64 0)) w125)
       (K75 (F.upd f124 154 (f124 12)) w125)))) w119) w114) w109) w106)
     (K75 (F.upd (F.upd (F.upd (F.upd (F.upd (F.upd (F.upd (F.upd (F.upd (F.upd (F.upd (F.upd (F.upd (F.upd (F.upd (F.upd (F.upd (F.upd (F.upd (F.upd (F.upd (F.upd (F.upd (F.upd (F.upd (F.upd (F.upd (F.upd (F.upd (F.upd (F.upd (F.upd (F.upd (F.upd (F.upd (F.upd (F.upd (F.upd (F.upd (F.upd (F.upd (F.upd (F.upd (F.upd (F.upd (F.upd (F.upd (F.upd (F.upd (F.upd (F.upd (F.upd (F.upd (F.upd (F.upd (F.upd (F.upd (F.upd (F.upd (F.upd (F.upd (F.upd (F.upd (F.upd (F.upd (F.upd (F.upd (F.upd (F.upd (F.upd (F.upd (F.upd (F.upd (F.upd (F.upd (F.upd (F.upd (F.upd (F.upd (F.upd (F.upd (F.upd (F.upd (F.upd (F.upd (F.upd (initF [v0, v1]) 4 (.bool false)) 46 v0) 47 v1) 48 t1) 50 v0) 51 t3) 49 t3) 52 t5) 53 t6) 5 t7) 6 t9) 55 t13) 56 t14) 57 t15) 54 t15) 58 t17) 59 t18) 7 t19) 8 t18) 61 t22) 62 t23) 63 t24) 60 t24) 64 t26) 65 t27) 9 t28) 10 t27) 67 t31) 68 t32) 69 t33) 66 t33) 70 t35) 71 t36) 11 t37) 12 t36) 73 t40) 74 t41) 75 t42) 72 t42) 76 t44) 77 t45) 13 t46) 14 t45) 78 t18) 79 t27) 80 t49) 81 t49) 82 t50) 83 t52) 84 t54) 85 t56) 86 t58) 87 t58) 88 t59) 89 t61) 90 t63) 91 t65) 92 t65) 93 t66) 94 t68) 95 t70) 96 t72) 97 t74) 98 t78) 99 t79) 100 t79) 101 t81) 102 t83) 103 t85) 104 t85) 105 t86) 106 t88) 107 t90) 108 t92) 109 t94) 110 t96) 112 v1) 113 t97) 111 t97) 114 t99) 115 t100) 15 t101) 16 t100) 116 t104) 117 t100) 118 t105) w106)) w103) w102) w98) w95)
    (K75 (F.upd (F.upd (F.upd (F.upd (F.upd (F.upd (F.upd (F.upd (F.upd (F.upd (F.upd (F.upd (F.upd (F.upd (F.upd (F.upd (F.upd (F.upd (F.upd (F.upd (F.upd (F.upd (F.upd (F.upd (F.upd (F.upd (F.upd (F.upd (F.upd (F.upd (F.upd (F.upd (F.upd (F.upd (F.upd (F.upd (F.upd (F.upd (F.upd (F.upd (F.upd (F.upd (F.upd (F.upd (F.upd (F.upd (F.upd (F.upd (F.upd (F.upd (F.upd (F.upd (F.upd (F.upd (F.upd (F.upd (F.upd (F.upd (F.upd (F.upd (F.upd (F.upd (F.upd (F.upd (F.upd (F.upd (F.upd (F.upd (F.upd (F.upd (F.upd (F.upd (F.upd (F.upd (F.upd (F.upd (initF [v0, v1]) 4 (.bool false)) 46 v0) 47 v1) 48 t1) 50 v0) 51 t3) 49 t3) 52 t5) 53 t6) 5 t7) 6 t9) 55 t13) 56 t14) 57 t15) 54 t15) 58 t17) 59 t18) 7 t19) 8 t18) 61 t22) 62 t23) 63 t24) 60 t24) 64 t26) 65 t27) 9 t28) 10 t27) 67 t31) 68 t32) 69 t33) 66 t33) 70 t35) 71 t36) 11 t37) 12 t36) 73 t40) 74 t41) 75 t42) 72 t42) 76 t44) 77 t45) 13 t46) 14 t45) 78 t18) 79 t27) 80 t49) 81 t49) 82 t50) 83 t52) 84 t54) 85 t56) 86 t58) 87 t58) 88 t59) 89 t61) 90 t63) 91 t65) 92 t65) 93 t66) 94 t68) 95 t70) 96 t72) 97 t74) 98 t78) 99 t79) 100 t79) 101 t81) 102 t83) 103 t85) 104 t85) 105 t86) 106 t88) 107 t90) 108 t92) 109 t94) 110 t96) w95)) w93) w91) w89) w87) w84) w82) w80) w73) (fun f76 w77 =>
   CallK Try.prog 45 [(f76 1)] (fun t201 w202 =>
   Do Try.prog (sAlloc 26) (fun t203 w204 =>
   Do Try.prog (sStore 26 t203 t201) (fun _ w205 =>
   Rd Try.prog (WS.at w205) (sLoad 26 t203) fun t206 =>
   CallK Try.prog 46 [t206] (fun t207 w208 =>
   Rd Try.prog (WS.at w208) (sExtract t207 0) fun t209 =>
   Rd Try.prog (WS.at w208) (sExtract t207 1) fun t210 =>
   Do Try.prog (sAlloc 26) (fun t211 w212 =>
   Do Try.prog (sStore 26 t211 t209) (fun _ w213 =>
   Rd Try.prog (WS.at w213) (sLoad 26 t203) fun t214 =>
   CallK Try.prog 47 [t214] (fun t215 w216 =>
   Rd Try.prog (WS.at w216) (sExtract t215 0) fun t217 =>
   Rd Try.prog (WS.at w216) (sExtract t215 1) fun t218 =>
   Do Try.prog (sAlloc 26) (fun t219 w220 =>
   Do Try.prog (sStore 26 t219 t217) (fun _ w221 =>
   Rd Try.prog (WS.at w221) (sBin .neq 4 false t210 t218) fun t222 =>
   GuardK t222 false (fun k w' => Rd Try.prog (WS.at w221) (sLoad 26 t211) fun v => k v w') (fun t223 w224 =>
   GuardK t222 false (fun k w' => Rd Try.prog (WS.at w224) (sLoad 26 t219) fun v => k v w') (fun t225 w226 =>
   GuardK t222 false (fun k w' => CallK Try.prog 41 [t223, t225] k w') (fun t227 w228 =>
   GuardK t222 false (fun k w' => Rd Try.prog (WS.at w228) (sUn .not t227) fun v => k v w') (fun t229 w230 =>
   Rd Try.prog (WS.at w230) (sPick t222 (.bool true) t229) fun t231 =>
   CondK t231
    (k (.bool false) w230)
    (Join (fun K232 =>
    CondK t210
     (Rd Try.prog (WS.at w230) (sLoad 26 t211) fun t235 =>
     CallK Try.prog 26 [t235, (.slice none 0 0)] (fun t236 w237 =>
     Rd Try.prog (WS.at w237) (sExtract t236 0) fun t238 =>
     Rd Try.prog (WS.at w237) (sExtract t236 1) fun t239 =>
     Rd Try.prog (WS.at w237) (sUn .not t239) fun t240 =>
     GuardK t240 false (fun k w' => k t238 w') (fun t241 w242 =>
     GuardK t240 false (fun k w' => Rd Try.prog (WS.at w242) (sUn .not t241) fun v => k v w') (fun t243 w244 =>
     Rd Try.prog (WS.at w244) (sPick t240 (.bool true) t243) fun t245 =>
     CondK t245
      (k (.bool false) w244)
      (Rd Try.prog (WS.at w244) (sLoad 26 t203) fun t246 =>
      CallK Try.prog 23 [t246, (.int .i64 2)] (fun t247 w248 =>
      Rd Try.prog (WS.at w248) (sExtract t247 0) fun t249 =>
      Rd Try.prog (WS.at w248) (sExtract t247 1) fun t250 =>
      Rd Try.prog (WS.at w248) (sBuiltin .len #[35] 3 [false] [t249]) fun t251 =>
      LoopF [244, 245, 246, 41, 247, 248, 249, 250, 251, 252, 43, 254, 255, 256, 257, 258, 259, 260, 253, 261, 262, 44, 45, 263, 264, 265, 266, 267, 268, 269, 270, 271, 272, 4, 273, 249, 274, 243] (fun Q252 f253 w254 =>
       Rd Try.prog (WS.at w254) (sBin .lss 3 false (f253 243) (f253 242)) fun t255 =>
       CondK t255
        (Rd Try.prog (WS.at w254) (sIndexAddr 35 (f253 241) (f253 243)) fun t256 =>
        Rd Try.prog (WS.at w254) (sLoad 27 t256) fun t257 =>
        Rd Try.prog (WS.at w254) (sBuiltin .len #[35] 3 [false] [(f253 38)]) fun t258 =>
        LoopF [250, 251, 252, 43, 254, 255, 256, 257, 258, 259, 260, 253, 261, 262, 44, 45, 263, 264, 265, 266, 267, 268, 269, 270, 271, 272, 4, 273, 249] (fun Q259 f260 w261 =>
         Rd Try.prog (WS.at w261) (sBin .lss 3 false (f260 249) (f260 248)) fun t262 =>
         CondK t262
          (Rd Try.prog (WS.at w261) (sIndexAddr 35 (f260 247) (f260 249)) fun t263 =>
          Rd Try.prog (WS.at w261) (sLoad 27 t263) fun t264 =>
          ∃ S265 : World → Prop, ∃ h266 : S265 w261.drew,
          Rd Try.prog ⟨S265, w261.drew, h266⟩ (sLoad 26 (f260 32)) fun t267 =>
          Do Try.prog (sBuildSlice 27 0 []) (fun t268 w269 =>
          S265 w269 ∧ Do Try.prog (sBuiltin .append #[27, 27] 27 [false, false] [t268, (f260 41)]) (fun t270 w271 =>
          S265 w271 ∧ Do Try.prog (sBuiltin .append #[27, 27] 27 [false, false] [t270, t264]) (fun t272 w273 =>
          S265 w273 ∧ CallK Try.prog 26 [t267, t272] (fun t274 w275 =>
          Rd Try.prog WS.any (sExtract t274 0) fun t276 =>
          Rd Try.prog WS.any (sExtract t274 1) fun t277 =>
          Rd Try.prog (WS.at w275) (sUn .not (f260 39)) fun t278 =>
          GuardK t278 false (fun k w' => k t277 w') (fun t279 w280 =>
          GuardK t278 false (fun k w' => Rd Try.prog (WS.at w280) (sUn .not t279) fun v => k v w') (fun t281 w282 =>
          Rd Try.prog (WS.at w282) (sPick t278 (.bool true) t281) fun t283 =>
          GuardK t283 false (fun k w' => k t276 w') (fun t284 w285 =>
          GuardK t283 false (fun k w' => Rd Try.prog (WS.at w285) (sUn .not t284) fun v => k v w') (fun t286 w287 =>
          Rd Try.prog (WS.at w287) (sPick t283 (.bool true) t286) fun t288 =>
          CondK t288
           (Q259 .ret (F.upd (F.upd (F.upd (F.upd (F.upd (F.upd (F.upd (F.upd (F.upd (F.upd (F.upd (F.upd (F.upd (F.upd (F.upd (F.upd (F.upd (F.upd (F.upd (F.upd (F.upd (F.upd (F.upd (F.upd (F.upd (F.upd (F.upd f260 250 t262) 251 t263) 252 t264) 43 t264) 254 t267) 256 (f260 41)) 258 t264) 255 t268) 257 t270) 259 t272) 260 t274) 253 t274) 261 t276) 262 t277) 44 t276) 45 t277) 263 (f260 39)) 264 t278) 265 t278) 266 t279) 267 t281) 268 t283) 269 t283) 270 t284) 271 t286) 272 t288) 4 (.bool false)) w287)
           (Rd Try.prog (WS.at w287) (sBin .add 3 true (f260 249) (.int .i64 1)) fun t289 =>
           Q259 .normal (F.upd (F.upd (F.upd (F.upd (F.upd (F.upd (F.upd (F.upd (F.upd (F.upd (F.upd (F.upd (F.upd (F.upd (F.upd (F.upd (F.upd (F.upd (F.upd (F.upd (F.upd (F.upd (F.upd (F.upd (F.upd (F.upd (F.upd (F.upd f260 250 t262) 251 t263) 252 t264) 43 t264) 254 t267) 256 (f260 41)) 258 t264) 255 t268) 257 t270) 259 t272) 260 t274) 253 t274) 261 t276) 262 t277) 44 t276) 45 t277) 263 (f260 39)) 264 t278) 265 t278) 266 t279) 267 t281) 268 t283) 269 t283) 270 t284) 271 t286) 272 t288) 273 t289) 249 t289) w287)) w285) w282) w280) w275) w273) w271) w269) w261.drew)
          (Q259 (.exit 4) (F.upd f260 250 t262) w261))
         (blockQ 4 (blockQ 3 (seqQ (fun f290 w291 =>
        Rd Try.prog (WS.at w291) (sBin .add 3 true (f290 243) (.int .i64 1)) fun t292 =>
        Q252 .normal (F.upd (F.upd f290 274 t292) 243 t292) w291) Q252)))
         (F.upd (F.upd (F.upd (F.upd (F.upd (F.upd (F.upd f253 244 t255) 245 t256) 246 t257) 41 t257) 247 (f253 38)) 248 t258) 249 (.int .i64 0)) w254)
        (Q252 (.exit 2) (F.upd f253 244 t255) w254))
       (blockQ 2 (seqQ K232 (bodyQ Try.prog [.tmp 4] k)))
       (F.upd (F.upd (F.upd (F.upd (F.upd (F.upd (F.upd (F.upd (F.upd (F.upd (F.upd (F.upd (F.upd (F.upd (F.upd (F.upd (F.upd (F.upd (F.upd (F.upd (F.upd (F.upd (F.upd (F.upd (F.upd (F.upd (F.upd (F.upd (F.upd (F.upd (F.upd (F.upd (F.upd (F.upd (F.upd (F.upd (F.upd (F.upd (F.upd (F.upd (F.upd (F.upd (F.upd (F.upd (F.upd (F.upd (F.upd (F.upd (F.upd (F.upd f76 203 (f76 1)) 204 t201) 31 t203) 206 t206) 207 t207) 205 t207) 208 t209) 209 t210) 32 t211) 33 t210) 211 t214) 212 t215) 210 t215) 213 t217) 214 t218) 34 t219) 35 t218) 215 t210) 216 t218) 217 t222) 218 t222) 219 t223) 220 t225) 221 t227) 222 t229) 223 t231) 224 t210) 226 t235) 227 t236) 225 t236) 228 t238) 229 t239) 36 t238) 37 t239) 230 t239) 231 t240) 232 t240) 233 t241) 234 t243) 235 t245) 237 t246) 238 t247) 236 t247) 239 t249) 240 t250) 38 t249) 39 t250) 241 t249) 242 t251) 243 (.int .i64 0)) w248) w244)) w242) w237) w230)
     (K232 (F.upd (F.upd (F.upd (F.upd (F.upd (F.upd (F.upd (F.upd (F.upd (F.upd (F.upd (F.upd (F.upd (F.upd (F.upd (F.upd (F.upd (F.upd (F.upd (F.upd (F.upd (F.upd (F.upd (F.upd (F.upd (F.upd (F.upd f76 203 (f76 1)) 204 t201) 31 t203) 206 t206) 207 t207) 205 t207) 208 t209) 209 t210) 32 t211) 33 t210) 211 t214) 212 t215) 210 t215) 213 t217) 214 t218) 34 t219) 35 t218) 215 t210) 216 t218) 217 t222) 218 t222) 219 t223) 220 t225) 221 t227) 222 t229) 223 t231) 224 t210) w230)) (fun f233 w234 =>
    k (.bool true) w234))) w228) w226) w224) w221) w220) w216) w213) w212) w208) w205) w204) w202) w77))) w71) w69) w67) w64) w62) w60) w57) w55) w53) w51) w48) w47) w43) w39) w38) w34) w30) w29) w25) w21) w20) w16) w12) w11) w10) w8) w4) w2)) w
/-! loop.example/g00758/impl.GoodGrammar -/
/-! loop.example/g00758/impl.GoodWord -/
end Go.Proofs.Ytegcjkhebecgbaa

/- What is known and stays so; the laws' own small functions: big, sameInts, sameLists, containsList, sameRules, sameGrammar, has. -/
set_option linter.unusedVariables false
set_option linter.unusedSimpArgs false
set_option maxRecDepth 100000
namespace Go.Sh
open Go
/-- Facts that hold in each world to come. -/
def Kn (w : World) (L : List (World → Prop)) : Prop := ∀ (i : Nat) (P : World → Prop), L[i]? = some P → ∀ w', Gr w w' → P w'
section
variable {w w' : World} {L : List (World → Prop)} {P : World → Prop}
theorem Kn.step (H : Kn w L) (g : Gr w w') : Kn w' L := fun i P hi w'' g' => H i P hi w'' (gr_trans g g')
theorem Kn.drew (H : Kn w L) : Kn w.drew L := H.step (gr_drew w)
theorem Kn.get (H : Kn w L) (i : Nat) (hi : L[i]? = some P) : P w := H i P hi w (Gr.refl w)
theorem Kn.nil (w : World) : Kn w [fun w' => Gr w w'] := fun i P hi w' g => by
  match i, hi with
  | 0, hi => obtain rfl := Option.some.inj hi; exact g
  | i + 1, hi => simp at hi
theorem Kn.add (H : Kn w L) (h : ∀ w', Gr w w' → P w') : Kn w (L ++ [P]) := fun i Q hi w' g => by
  rw [List.getElem?_append] at hi
  split at hi
  · exact H i Q hi w' g
  · rename_i hn
    match hk : i - L.length, hi with
    | 0, hi => simp at hi; subst hi; exact h w' g
    | k + 1, hi => simp at hi
end
abbrev kI (X : Option Addr) (xs : List Int) (c : Nat) : World → Prop := fun w => Ints w X xs ∧ xs.length ≤ c
abbrev kG (Y : Option Addr) (cy : Nat) (rs : List RuleL) : World → Prop := fun w => rs.length ≤ cy ∧ RulesF (fun _ => True) w Y rs
abbrev kS (X : Option Addr) (ls : List (List Int)) : World → Prop := fun w => Intss w X ls
abbrev kB (b : Nat) (cs : List Value) (t : TypeId) : World → Prop := fun w => Box w b cs t
section
variable {w w' : World} {L : List (World → Prop)}
theorem Kn.addI (H : Kn w L) {X : Option Addr} {xs : List Int} {c : Nat} (h : Ints w X xs) (hc : xs.length ≤ c) : Kn w (L ++ [kI X xs c]) := H.add fun w' g => ⟨h.gr g, hc⟩
theorem Kn.addG (H : Kn w L) {Y : Option Addr} {cy : Nat} {rs : List RuleL} (hc : rs.length ≤ cy) (h : RulesF (fun _ => True) w Y rs) : Kn w (L ++ [kG Y cy rs]) := H.add fun w' g => ⟨hc, h.gr g⟩
theorem Kn.addS (H : Kn w L) {X : Option Addr} {ls : List (List Int)} (h : Intss w X ls) : Kn w (L ++ [kS X ls]) := H.add fun w' g => h.gr g
theorem Kn.addB (H : Kn w L) {b : Nat} {cs : List Value} {t : TypeId} (h : Box w b cs t) : Kn w (L ++ [kB b cs t]) := H.add fun w' g => h.gr g
theorem gvK {Y : Option Addr} {cy : Nat} {gm : Gram} (h : kG Y cy gm.rules w) : GramV (fun _ => True) w (.agg #[.int .i64 gm.nons, .int .i64 gm.toks, .slice Y gm.rules.length cy]) gm := ⟨Y, cy, rfl, h.1, h.2⟩
end
/-- A box filled at once. -/
theorem do_new {P : Program} {k : Value → World → Prop} {w : World} {L : List (World → Prop)} {t sz by' : Nat} {z : Value} {cs : List Value} (H : Kn w L) (I : Inf P t z sz by') (hs : szOf P t sz) (hz : z.cells.size = sz) (hl : cs.length = sz) (h1 : cs.all Value.oneCell' = true) (hv : (Value.agg cs.toArray).cells = cs.toArray)
    (h : ∀ b w', Kn w' (L ++ [kB b cs t]) → k (.pointer (some ⟨b, 0, none⟩)) w') : Do P (sAlloc t) (fun p w1 => Do P (sStore t p (.agg cs.toArray)) (fun _ w2 => k p w2) w1) w := by
  refine do_alloc_of I fun b w1 g1 hb B1 => ?_
  refine do_store (n := sz) hs (by rw [hv]; simpa using hl) (fun u hu => ?_) B1 (by simp [hz]) fun w2 g2 _ B2 => ?_
  · rw [hv] at hu
    exact List.all_eq_true.1 h1 u (by simpa using hu)
  · have g : Gr w w2 := gr_mod g1 g2 fun q hq => by
      obtain rfl := Option.some.inj hq
      exact hb
    refine h b w2 ((H.step g).addB ?_)
    have e : List.take 0 z.cells.toList ++ (Value.agg cs.toArray).cells.toList ++ List.drop (0 + sz) z.cells.toList = cs := by
      rw [hv, List.drop_eq_nil_of_le (by simp [hz])]
      simp
    rw [← e]
    exact B2
end Go.Sh
namespace Go.Proofs.Ytegcjkhebecgbaa
open Go Go.Sh Go.RowKit
theorem big_c {w : World} {X Y : Option Addr} {n m c d : Nat} (hn : n ≤ 9223372036854775807) (hm : m ≤ 9223372036854775807) {k : Value → World → Prop} (hk : ∀ b, k (.bool b) w) :
    CallK Try.prog 15 [.slice X n c, .slice Y m d] k w := by
  refine enter15 ?_
  unfold S15
  simp only [zq18, zq19, zq20, zq21, zq22, zq23, zq24, zq25, zq26, zq27, zq28, zq4, zq3, zq1, zq2, zq0, zq29, zq30, zq14, zq15, zq16, zq17, zq13, zq10, zq12, zq11, zq7, zq5, zq6, zq9, zq8, zq31, zq32, ite_T, ite_F, zq33, zq34, zq35, Nat.reduceEqDiff, len22, len24, fa26_0, fa26_1, fa26_2, len27, fa33_0, fa33_1, len35, fa114_0, fa114_1, fa114_2, fa124_0, fa124_1, len134]
  by_cases h : (1048576 : Int) < n
  · simp only [h, decide_true, zq18, zq19, zq20, zq21, zq22, zq23, zq24, zq25, zq26, zq27, zq28, zq4, zq3, zq1, zq2, zq0, zq29, zq30, zq14, zq15, zq16, zq17, zq13, zq10, zq12, zq11, zq7, zq5, zq6, zq9, zq8, zq31, zq32, ite_T, ite_F, zq33, zq34, zq35, Nat.reduceEqDiff, len22, len24, fa26_0, fa26_1, fa26_2, len27, fa33_0, fa33_1, len35, fa114_0, fa114_1, fa114_2, fa124_0, fa124_1, len134]
    exact hk _
  · simp only [h, decide_false, zq18, zq19, zq20, zq21, zq22, zq23, zq24, zq25, zq26, zq27, zq28, zq4, zq3, zq1, zq2, zq0, zq29, zq30, zq14, zq15, zq16, zq17, zq13, zq10, zq12, zq11, zq7, zq5, zq6, zq9, zq8, zq31, zq32, ite_T, ite_F, zq33, zq34, zq35, Nat.reduceEqDiff, len22, len24, fa26_0, fa26_1, fa26_2, len27, fa33_0, fa33_1, len35, fa114_0, fa114_1, fa114_2, fa124_0, fa124_1, len134]
    exact hk _
theorem has_c {w : World} {X : Option Addr} {c : Nat} {xs : List Int} {n : Int} (hx : Ints w X xs) {k : Value → World → Prop} (hk : ∀ w', Gr w w' → k (.bool (decide (n ∈ xs))) w') :
    CallK Try.prog 35 [.slice X xs.length c, .int .i64 n] k w := by
  refine enter35 ?_
  unfold S35
  simp only [zq18, zq19, zq20, zq21, zq22, zq23, zq24, zq25, zq26, zq27, zq28, zq4, zq3, zq1, zq2, zq0, zq29, zq30, zq14, zq15, zq16, zq17, zq13, zq10, zq12, zq11, zq7, zq5, zq6, zq9, zq8, zq31, zq32, ite_T, ite_F, zq33, zq34, zq35, Nat.reduceEqDiff, len22, len24, fa26_0, fa26_1, fa26_2, len27, fa33_0, fa33_1, len35, fa114_0, fa114_1, fa114_2, fa124_0, fa124_1, len134]
  refine loop_to xs.length 0 (fun i f w' => i ≤ xs.length ∧ f 9 = .int .i64 i ∧ Gr w w' ∧ n ∉ xs.take i) ⟨Nat.zero_le _, rfl, Gr.refl w, by simp⟩ ?_
  rintro i f w1 N hag ⟨hi, h9, hg, hpre⟩ hN
  have h1 : f 1 = .int .i64 n := hag 1 (by decide)
  have h7 : f 7 = .slice X xs.length c := hag 7 (by decide)
  have h8 : f 8 = .int .i64 xs.length := hag 8 (by decide)
  simp only [h1, h7, h8, h9, zq18, zq19, zq20, zq21, zq22, zq23, zq24, zq25, zq26, zq27, zq28, zq4, zq3, zq1, zq2, zq0, zq29, zq30, zq14, zq15, zq16, zq17, zq13, zq10, zq12, zq11, zq7, zq5, zq6, zq9, zq8, zq31, zq32, ite_T, ite_F, zq33, zq34, zq35, Nat.reduceEqDiff, len22, len24, fa26_0, fa26_1, fa26_2, len27, fa33_0, fa33_1, len35, fa114_0, fa114_1, fa114_2, fa124_0, fa124_1, len134]
  by_cases hlt : i < xs.length
  · have hlt' : (i : Int) < xs.length := by omega
    have := hx.le
    simp only [hlt', decide_true, zq18, zq19, zq20, zq21, zq22, zq23, zq24, zq25, zq26, zq27, zq28, zq4, zq3, zq1, zq2, zq0, zq29, zq30, zq14, zq15, zq16, zq17, zq13, zq10, zq12, zq11, zq7, zq5, zq6, zq9, zq8, zq31, zq32, ite_T, ite_F, zq33, zq34, zq35, Nat.reduceEqDiff, len22, len24, fa26_0, fa26_1, fa26_2, len27, fa33_0, fa33_1, len35, fa114_0, fa114_1, fa114_2, fa124_0, fa124_1, len134]
    rw [ixn27 hx.ptr hlt, ld3 ((hx.gr hg).cell i hlt)]
    simp only [zq18, zq19, zq20, zq21, zq22, zq23, zq24, zq25, zq26, zq27, zq28, zq4, zq3, zq1, zq2, zq0, zq29, zq30, zq14, zq15, zq16, zq17, zq13, zq10, zq12, zq11, zq7, zq5, zq6, zq9, zq8, zq31, zq32, ite_T, ite_F, zq33, zq34, zq35, Nat.reduceEqDiff, len22, len24, fa26_0, fa26_1, fa26_2, len27, fa33_0, fa33_1, len35, fa114_0, fa114_1, fa114_2, fa124_0, fa124_1, len134]
    by_cases he : xs.getD i 0 = n
    · simp only [he, decide_true, zq18, zq19, zq20, zq21, zq22, zq23, zq24, zq25, zq26, zq27, zq28, zq4, zq3, zq1, zq2, zq0, zq29, zq30, zq14, zq15, zq16, zq17, zq13, zq10, zq12, zq11, zq7, zq5, zq6, zq9, zq8, zq31, zq32, ite_T, ite_F, zq33, zq34, zq35, Nat.reduceEqDiff, len22, len24, fa26_0, fa26_1, fa26_2, len27, fa33_0, fa33_1, len35, fa114_0, fa114_1, fa114_2, fa124_0, fa124_1, len134]
      have := hk _ hg
      rwa [decide_eq_true (by rw [← he]; exact getD_mem hlt)] at this
    · simp only [he, decide_false, zq18, zq19, zq20, zq21, zq22, zq23, zq24, zq25, zq26, zq27, zq28, zq4, zq3, zq1, zq2, zq0, zq29, zq30, zq14, zq15, zq16, zq17, zq13, zq10, zq12, zq11, zq7, zq5, zq6, zq9, zq8, zq31, zq32, ite_T, ite_F, zq33, zq34, zq35, Nat.reduceEqDiff, len22, len24, fa26_0, fa26_1, fa26_2, len27, fa33_0, fa33_1, len35, fa114_0, fa114_1, fa114_2, fa124_0, fa124_1, len134]
      rw [i64_of (by omega) (by omega)]
      refine hN _ _ hlt ⟨by omega, rfl, hg, ?_⟩
      rw [take_snoc hlt, List.mem_append, List.mem_singleton]
      exact fun h => h.elim hpre fun e => he e.symm
  · simp only [show ¬ (i : Int) < xs.length from by omega, decide_false, zq18, zq19, zq20, zq21, zq22, zq23, zq24, zq25, zq26, zq27, zq28, zq4, zq3, zq1, zq2, zq0, zq29, zq30, zq14, zq15, zq16, zq17, zq13, zq10, zq12, zq11, zq7, zq5, zq6, zq9, zq8, zq31, zq32, ite_T, ite_F, zq33, zq34, zq35, Nat.reduceEqDiff, len22, len24, fa26_0, fa26_1, fa26_2, len27, fa33_0, fa33_1, len35, fa114_0, fa114_1, fa114_2, fa124_0, fa124_1, len134]
    have := hk _ hg
    rw [List.take_of_length_le (by omega)] at hpre
    rwa [decide_eq_false hpre] at this
end Go.Proofs.Ytegcjkhebecgbaa

/- Contracts: Derives, InLanguage, SequenceDerives. -/
set_option linter.unusedVariables false
set_option linter.unusedSimpArgs false
set_option maxRecDepth 100000
namespace Go.Sh
open Go
end Go.Sh
namespace Go.Proofs.Ytegcjkhebecgbaa
open Go Go.Sh Go.RowKit
section
variable {w : World} {X Z Y : Option Addr} {cx cz cy : Nat} {gm : Gram} {ws xs : List Int} {k : Value → World → Prop}
abbrev grv (gm : Gram) (Y : Option Addr) (cy : Nat) : Value := .agg #[.int .i64 gm.nons, .int .i64 gm.toks, .slice Y gm.rules.length cy]
end
end Go.Proofs.Ytegcjkhebecgbaa

/- Contracts: DrawDerives, DrawShortWords, DrawInLanguage, DrawSpansOf, DrawSequenceDerives. -/
set_option linter.unusedVariables false
set_option linter.unusedSimpArgs false
set_option maxRecDepth 100000
namespace Go.Proofs.Ytegcjkhebecgbaa
open Go Go.Sh Go.RowKit
theorem inf114' : Inf Try.prog 114 (.agg #[.slice none 0 0, .int .i64 0, .int .u64 0]) 3 40 := inf_of (by kernel_rfl)
theorem bd114 {S : WS} {k : Value → Prop} {ps : List (Nat × Value)} {cells : Array Value} (hf : Instr.fill (#[(0, 1), (1, 1), (2, 1)][·]?) #[.slice none 0 0, .int .i64 0, .int .u64 0] ps = some cells) : Rd Try.prog S (sBuild 114 ps) k = k (.agg cells) :=
  rd_build3 Try.underlying114 inf114' sz22 sz3 sz112 hf
abbrev zg : List Value := [.int .i64 0, .int .i64 0, .slice none 0 0]
section
variable {w0 w : World} {E : List Thing} {C : Option Addr} {cap : Nat} {bs : List Int} {k : Value → World → Prop}
/-- A draw begins: a place for the grammar, a cursor. -/
theorem draw0 {K : Value → Value → Value → World → Prop} (h : ∀ b1 b4 w', Apt w w' [cur b4 (.slice C bs.length cap) 0, bx b1 zg 26] → K (ptrv b1) (.agg #[.slice C bs.length cap, .int .i64 0, .int .u64 0]) (ptrv b4) w') :
    Do Try.prog (sAlloc 26) (fun t1 w2 => Rd Try.prog (WS.at w2) (sBuild 114 [(0, .slice C bs.length cap)]) fun t3 => Do Try.prog (sBox 114 t3) (fun t4 w5 => K t1 t3 t4 w5) w2) w := by
  have H := Apt.nil w
  refine allocH H inf26 fun b1 w1 H => ?_
  refine rdi (bd114 (cells := #[.slice C bs.length cap, .int .i64 0, .int .u64 0]) rfl) ?_
  refine boxH H fun b4 w2 H => ?_
  simp only [List.nil_append, List.cons_append] at H
  have H := H.shutCur (N := 0) (tc := TC) (bc := b4) (cv := .slice C bs.length cap) (a := 0) (s := 0) 1 rfl (by omega) (by omega)
  simp only [List.set_cons_succ, List.set_cons_zero] at H
  exact h b1 b4 w2 (H.perm (List.Perm.swap _ _ _))
theorem rdS26 {S : WS} {k : Value → Prop} {b e : Nat} {cs : List Value} (hl : cs.length = 3) (h : ∀ w', S.S w' → Box w' b cs e) : Rd Try.prog S (sLoad 26 (ptrv b)) k = k (.agg cs.toArray) := by
  refine rd_loadAgg agg26 sz26 (cs := cs) hl fun w' hw j hj => ?_
  rw [show (⟨b, 0, none⟩ : Addr).add j = ⟨b, 0 + j, none⟩ from zq34 b 0 j, Nat.zero_add, (h w' hw).cell j]
  exact List.getElem?_eq_getElem hj
theorem gowK {ft : Nat → Prop} {Y : Option Addr} {cy : Nat} {rs : List RuleL} (h : OwnG 33 ft w 0 Y cy rs) : kG Y cy rs w := by
  have h1 := h.read
  obtain ⟨cells, hr, _⟩ := h
  exact ⟨hr.cap.1, h1⟩
end
end Go.Proofs.Ytegcjkhebecgbaa

/- What the drawn laws do: comparisons of yes and no, boxes of rules, bytes that are known. -/
set_option linter.unusedVariables false
set_option linter.unusedSimpArgs false
set_option maxRecDepth 100000
namespace Go.Proofs.Ytegcjkhebecgbaa
open Go Go.Sh Go.RowKit
abbrev kC (C : Option Addr) (bs : List Int) : World → Prop := fun w => Byts w C bs
section
variable {S : WS} {k : Value → Prop}
theorem bneq {c x y : Bool} : Rd Try.prog S (sBin .neq 4 c (.bool x) (.bool y)) k = k (.bool (!(x == y))) := bin_neq_bool Try.underlying4
theorem beql {c x y : Bool} : Rd Try.prog S (sBin .eql 4 c (.bool x) (.bool y)) k = k (.bool (x == y)) := bin_eql_bool Try.underlying4
end
section
variable {w w' : World} {L : List (World → Prop)}
theorem knC (H : Kn w L) {C : Option Addr} {bs : List Int} (h : Byts w C bs) : Kn w (L ++ [kC C bs]) := H.add fun w' g => h.gr g
/-- A grammar is put into a place of its own. -/
theorem newG {k : Value → World → Prop} (H : Kn w L) {gm : Gram} {Y : Option Addr} {cy : Nat} (h : ∀ b w', Kn w' (L ++ [kB b [.int .i64 gm.nons, .int .i64 gm.toks, .slice Y gm.rules.length cy] 26]) → k (ptrv b) w') :
    Do Try.prog (sAlloc 26) (fun p w1 => Do Try.prog (sStore 26 p (grv gm Y cy)) (fun _ w2 => k p w2) w1) w :=
  do_new (cs := [.int .i64 gm.nons, .int .i64 gm.toks, .slice Y gm.rules.length cy]) H inf26 sz26 rfl rfl rfl rfl h
/-- A rule is put into a place of its own. -/
theorem newR {k : Value → World → Prop} (H : Kn w L) {l : Int} {Y : Option Addr} {n c : Nat} (h : ∀ b w', Kn w' (L ++ [kB b [.int .i64 l, .slice Y n c] 33]) → k (ptrv b) w') :
    Do Try.prog (sAlloc 33) (fun p w1 => Do Try.prog (sStore 33 p (.agg #[.int .i64 l, .slice Y n c])) (fun _ w2 => k p w2) w1) w :=
  do_new (cs := [.int .i64 l, .slice Y n c]) H inf33 sz33 rfl rfl rfl rfl h
end
end Go.Proofs.Ytegcjkhebecgbaa

/- Cc: bodies of functions as terms of the frame calculus, printed by shgen.py of this repository. -/
set_option linter.unusedVariables false
set_option maxRecDepth 100000
namespace Go.Proofs.Ytegcjkhebecgbaa
open Go Go.Sh

/-! loop.example/g00758/spec.l1Has -/
def pl244 : Plans := fun _ => ⟨false, [], .nil⟩
def S244 (v0 v1 : Value) (k : Value → World → Prop) (w : World) : Prop :=
 Rd Try.prog (WS.at w) (sBuiltin .len #[27] 3 [false] [v0]) fun t1 =>
 LoopF [10, 11, 12, 6, 13, 14, 15, 4, 16, 9] (fun Q2 f3 w4 =>
  Rd Try.prog (WS.at w4) (sBin .lss 3 false (f3 9) (f3 8)) fun t5 =>
  CondK t5
   (Rd Try.prog (WS.at w4) (sIndexAddr 27 (f3 7) (f3 9)) fun t6 =>
   Rd Try.prog (WS.at w4) (sLoad 3 t6) fun t7 =>
   Rd Try.prog (WS.at w4) (sBin .eql 3 false t7 (f3 1)) fun t8 =>
   CondK t8
    (Q2 .ret (F.upd (F.upd (F.upd (F.upd (F.upd (F.upd (F.upd (F.upd f3 10 t5) 11 t6) 12 t7) 6 t7) 13 t7) 14 (f3 1)) 15 t8) 4 (.bool true)) w4)
    (Rd Try.prog (WS.at w4) (sBin .add 3 true (f3 9) (.int .i64 1)) fun t9 =>
    Q2 .normal (F.upd (F.upd (F.upd (F.upd (F.upd (F.upd (F.upd (F.upd (F.upd f3 10 t5) 11 t6) 12 t7) 6 t7) 13 t7) 14 (f3 1)) 15 t8) 16 t9) 9 t9) w4))
   (Q2 (.exit 0) (F.upd f3 10 t5) w4))
  (blockQ 0 (seqQ (fun f10 w11 =>
 k (.bool false) w11) (bodyQ Try.prog [.tmp 4] k)))
  (F.upd (F.upd (F.upd (F.upd (initF [v0, v1]) 4 (.bool false)) 7 v0) 8 t1) 9 (.int .i64 0)) w
theorem body244 : Try.f244.body = some (bodyOf Try.f244) := by kernel_rfl
theorem same244 (v0 v1 : Value) (k : Value → World → Prop) (w : World) : wpF Try.prog pl244 (bodyOf Try.f244) (bodyQ Try.prog Try.f244.results.toList k) (initF [v0, v1]) w = S244 v0 v1 k w := by kernel_rfl
theorem enter244 {v0 v1 : Value} {k : Value → World → Prop} {w : World} (h : S244 v0 v1 k w) : CallK Try.prog 244 [v0, v1] k w :=
  call_of_wpF (pl := pl244) mixed Try.func244 body244 (by kernel_rfl) (of_decide_eq_true (by kernel_rfl)) (by kernel_rfl) (by kernel_rfl) (Eq.mpr (same244 v0 v1 k w) h)

/-! loop.example/g00758/spec.l1Put -/
def pl274 : Plans := fun _ => ⟨false, [], .nil⟩
def S274 (v0 v1 : Value) (k : Value → World → Prop) (w : World) : Prop :=
 LoopF [7, 8, 9, 10, 11, 12, 13, 14, 15, 16, 17, 18, 19, 20, 5] (fun Q1 f2 w3 =>
  Rd Try.prog (WS.at w3) (sBuiltin .len #[27] 3 [false] [(f2 0)]) fun t4 =>
  Rd Try.prog (WS.at w3) (sBin .lss 3 false (f2 5) t4) fun t5 =>
  GuardK t5 true (fun k w' => k (f2 0) w') (fun t6 w7 =>
  GuardK t5 true (fun k w' => k (f2 5) w') (fun t8 w9 =>
  GuardK t5 true (fun k w' => Rd Try.prog (WS.at w9) (sIndexAddr 27 t6 t8) fun v => k v w') (fun t10 w11 =>
  GuardK t5 true (fun k w' => Rd Try.prog (WS.at w11) (sLoad 3 t10) fun v => k v w') (fun t12 w13 =>
  GuardK t5 true (fun k w' => k (f2 1) w') (fun t14 w15 =>
  GuardK t5 true (fun k w' => Rd Try.prog (WS.at w15) (sBin .lss 3 false t12 t14) fun v => k v w') (fun t16 w17 =>
  Rd Try.prog (WS.at w17) (sPick t5 t16 (.bool false)) fun t18 =>
  CondK t18
   (Rd Try.prog (WS.at w17) (sBin .add 3 true (f2 5) (.int .i64 1)) fun t19 =>
   Q1 .normal (F.upd (F.upd (F.upd (F.upd (F.upd (F.upd (F.upd (F.upd (F.upd (F.upd (F.upd (F.upd (F.upd (F.upd (F.upd f2 7 (f2 5)) 8 (f2 0)) 9 t4) 10 t5) 11 t5) 12 t6) 13 t8) 14 t10) 15 t12) 16 t14) 17 t16) 18 t18) 19 (f2 5)) 20 t19) 5 t19) w17)
   (Q1 (.exit 0) (F.upd (F.upd (F.upd (F.upd (F.upd (F.upd (F.upd (F.upd (F.upd (F.upd (F.upd (F.upd f2 7 (f2 5)) 8 (f2 0)) 9 t4) 10 t5) 11 t5) 12 t6) 13 t8) 14 t10) 15 t12) 16 t14) 17 t16) 18 t18) w17)) w15) w13) w11) w9) w7) w3)
  (blockQ 0 (seqQ (fun f20 w21 =>
 Rd Try.prog (WS.at w21) (sBuiltin .len #[27] 3 [false] [(f20 0)]) fun t22 =>
 Rd Try.prog (WS.at w21) (sBin .lss 3 false (f20 5) t22) fun t23 =>
 GuardK t23 true (fun k w' => k (f20 0) w') (fun t24 w25 =>
 GuardK t23 true (fun k w' => k (f20 5) w') (fun t26 w27 =>
 GuardK t23 true (fun k w' => Rd Try.prog (WS.at w27) (sIndexAddr 27 t24 t26) fun v => k v w') (fun t28 w29 =>
 GuardK t23 true (fun k w' => Rd Try.prog (WS.at w29) (sLoad 3 t28) fun v => k v w') (fun t30 w31 =>
 GuardK t23 true (fun k w' => k (f20 1) w') (fun t32 w33 =>
 GuardK t23 true (fun k w' => Rd Try.prog (WS.at w33) (sBin .eql 3 false t30 t32) fun v => k v w') (fun t34 w35 =>
 Rd Try.prog (WS.at w35) (sPick t23 t34 (.bool false)) fun t36 =>
 CondK t36
  (k (f20 0) w35)
  (Do Try.prog (sBuildSlice 27 0 []) (fun t37 w38 =>
  Rd Try.prog (WS.at w38) (sSlice 27 (f20 0) none (some (f20 5)) none) fun t39 =>
  Do Try.prog (sBuiltin .append #[27, 27] 27 [false, false] [t37, t39]) (fun t40 w41 =>
  Do Try.prog (sBuildSlice 27 1 [(0, (f20 1))]) (fun t42 w43 =>
  Do Try.prog (sBuiltin .append #[27, 27] 27 [false, false] [t40, t42]) (fun t44 w45 =>
  Rd Try.prog (WS.at w45) (sSlice 27 (f20 0) (some (f20 5)) none none) fun t46 =>
  Do Try.prog (sBuiltin .append #[27, 27] 27 [false, false] [t44, t46]) (fun t47 w48 =>
  k t47 w48) w45) w43) w41) w38) w35)) w33) w31) w29) w27) w25) w21) (bodyQ Try.prog [.tmp 4] k)))
  (F.upd (F.upd (initF [v0, v1]) 4 (.slice none 0 0)) 5 (.int .i64 0)) w
theorem body274 : Try.f274.body = some (bodyOf Try.f274) := by kernel_rfl
theorem same274 (v0 v1 : Value) (k : Value → World → Prop) (w : World) : wpF Try.prog pl274 (bodyOf Try.f274) (bodyQ Try.prog Try.f274.results.toList k) (initF [v0, v1]) w = S274 v0 v1 k w := by kernel_rfl
theorem enter274 {v0 v1 : Value} {k : Value → World → Prop} {w : World} (h : S274 v0 v1 k w) : CallK Try.prog 274 [v0, v1] k w :=
  call_of_wpF (pl := pl274) mixed Try.func274 body274 (by kernel_rfl) (of_decide_eq_true (by kernel_rfl)) (by kernel_rfl) (by kernel_rfl) (Eq.mpr (same274 v0 v1 k w) h)

/-! loop.example/g00758/spec.l3Close -/
def pl192 : Plans := fun _ => ⟨false, [], .nil⟩
def S192 (v0 v1 : Value) (k : Value → World → Prop) (w : World) : Prop :=
 Do Try.prog (sBox 26 v0) (fun t1 w2 =>
 LoopF [12, 6, 13, 14, 15, 16, 17, 18, 19, 8, 20, 21, 22, 23, 24, 9, 25, 26, 27, 28, 29, 30, 31, 11, 32, 33, 34, 35, 36, 37, 38, 39, 40, 41, 42, 43, 44, 45, 46, 47, 48, 9, 49, 28, 50, 51, 52, 53, 54, 5, 6, 55, 16] (fun Q3 f4 w5 =>
  CondK (f4 6)
   (Rd Try.prog (WS.at w5) (sFieldAddr 26 (f4 2) 2) fun t6 =>
   Rd Try.prog (WS.at w5) (sLoad 24 t6) fun t7 =>
   Rd Try.prog (WS.at w5) (sBuiltin .len #[24] 3 [false] [t7]) fun t8 =>
   LoopF [17, 18, 19, 8, 20, 21, 22, 23, 24, 9, 25, 26, 27, 28, 29, 30, 31, 11, 32, 33, 34, 35, 36, 37, 38, 39, 40, 41, 42, 43, 44, 45, 46, 47, 48, 9, 49, 28, 50, 51, 52, 53, 54, 5, 6, 55, 16] (fun Q9 f10 w11 =>
    Rd Try.prog (WS.at w11) (sBin .lss 3 false (f10 16) (f10 15)) fun t12 =>
    CondK t12
     (Join (fun K13 =>
     Rd Try.prog (WS.at w11) (sIndexAddr 24 (f10 14) (f10 16)) fun t16 =>
     Rd Try.prog (WS.at w11) (sLoad 33 t16) fun t17 =>
     Do Try.prog (sAlloc 33) (fun t18 w19 =>
     Do Try.prog (sStore 33 t18 t17) (fun _ w20 =>
     Rd Try.prog (WS.at w20) (sFieldAddr 33 t18 0) fun t21 =>
     Rd Try.prog (WS.at w20) (sLoad 3 t21) fun t22 =>
     CallK Try.prog 244 [(f10 5), t22] (fun t23 w24 =>
     Rd Try.prog (WS.at w24) (sUn .not t23) fun t25 =>
     Rd Try.prog (WS.at w24) (sFieldAddr 33 t18 1) fun t26 =>
     Rd Try.prog (WS.at w24) (sLoad 27 t26) fun t27 =>
     Rd Try.prog (WS.at w24) (sBuiltin .len #[27] 3 [false] [t27]) fun t28 =>
     LoopF [29, 30, 31, 11, 32, 33, 34, 35, 36, 37, 38, 39, 40, 41, 42, 43, 44, 45, 46, 47, 48, 9, 49, 28] (fun Q29 f30 w31 =>
      Rd Try.prog (WS.at w31) (sBin .lss 3 false (f30 28) (f30 27)) fun t32 =>
      CondK t32
       (Rd Try.prog (WS.at w31) (sIndexAddr 27 (f30 26) (f30 28)) fun t33 =>
       Rd Try.prog (WS.at w31) (sLoad 3 t33) fun t34 =>
       GuardK (f30 9) true (fun k w' => k t34 w') (fun t35 w36 =>
       GuardK (f30 9) true (fun k w' => Rd Try.prog (WS.at w36) (sBin .lss 3 true t35 (.int .i64 0)) fun v => k v w') (fun t37 w38 =>
       GuardK (f30 9) true (fun k w' => k t37 w') (fun t39 w40 =>
       GuardK t39 true (fun k w' => k (f30 1) w') (fun t41 w42 =>
       GuardK (f30 9) true (fun k w' => Rd Try.prog (WS.at w42) (sPick t39 t41 (.bool false)) fun v => k v w') (fun t43 w44 =>
       GuardK (f30 9) true (fun k w' => k t43 w') (fun t45 w46 =>
       GuardK t45 false (fun k w' => k t34 w') (fun t47 w48 =>
       GuardK t45 false (fun k w' => Rd Try.prog (WS.at w48) (sBin .geq 3 true t47 (.int .i64 0)) fun v => k v w') (fun t49 w50 =>
       GuardK t45 false (fun k w' => k t49 w') (fun t51 w52 =>
       GuardK t51 true (fun k w' => k (f30 5) w') (fun t53 w54 =>
       GuardK t51 true (fun k w' => k t34 w') (fun t55 w56 =>
       GuardK t51 true (fun k w' => CallK Try.prog 244 [t53, t55] k w') (fun t57 w58 =>
       GuardK t45 false (fun k w' => Rd Try.prog (WS.at w58) (sPick t51 t57 (.bool false)) fun v => k v w') (fun t59 w60 =>
       GuardK (f30 9) true (fun k w' => Rd Try.prog (WS.at w60) (sPick t45 (.bool true) t59) fun v => k v w') (fun t61 w62 =>
       Rd Try.prog (WS.at w62) (sPick (f30 9) t61 (.bool false)) fun t63 =>
       Rd Try.prog (WS.at w62) (sBin .add 3 true (f30 28) (.int .i64 1)) fun t64 =>
       Q29 .normal (F.upd (F.upd (F.upd (F.upd (F.upd (F.upd (F.upd (F.upd (F.upd (F.upd (F.upd (F.upd (F.upd (F.upd (F.upd (F.upd (F.upd (F.upd (F.upd (F.upd (F.upd (F.upd (F.upd (F.upd f30 29 t32) 30 t33) 31 t34) 11 t34) 32 (f30 9)) 33 (f30 9)) 34 t35) 35 t37) 36 t39) 37 t41) 38 t43) 39 t45) 40 t47) 41 t49) 42 t51) 43 t53) 44 t55) 45 t57) 46 t59) 47 t61) 48 t63) 9 t63) 49 t64) 28 t64) w62) w60) w58) w56) w54) w52) w50) w48) w46) w44) w42) w40) w38) w36) w31)
       (Q29 (.exit 4) (F.upd f30 29 t32) w31))
      (blockQ 4 (seqQ (fun f65 w66 =>
     CondK (f65 9)
      (Rd Try.prog (WS.at w66) (sFieldAddr 33 (f65 8) 0) fun t67 =>
      Rd Try.prog (WS.at w66) (sLoad 3 t67) fun t68 =>
      CallK Try.prog 274 [(f65 5), t68] (fun t69 w70 =>
      K13 (F.upd (F.upd (F.upd (F.upd (F.upd (F.upd (F.upd f65 50 (f65 9)) 51 (f65 5)) 52 t67) 53 t68) 54 t69) 5 t69) 6 (.bool true)) w70) w66)
      (K13 (F.upd f65 50 (f65 9)) w66)) (blockQ 3 (seqQ K13 Q9))))
      (F.upd (F.upd (F.upd (F.upd (F.upd (F.upd (F.upd (F.upd (F.upd (F.upd (F.upd (F.upd (F.upd (F.upd f10 17 t12) 18 t16) 19 t17) 8 t18) 20 (f10 5)) 21 t21) 22 t22) 23 t23) 24 t25) 9 t25) 25 t26) 26 t27) 27 t28) 28 (.int .i64 0)) w24) w20) w19) w11) (fun f14 w15 =>
     Rd Try.prog (WS.at w15) (sBin .add 3 true (f14 16) (.int .i64 1)) fun t73 =>
     Q9 .normal (F.upd (F.upd f14 55 t73) 16 t73) w15))
     (Q9 (.exit 2) (F.upd f10 17 t12) w11))
    (blockQ 2 (blockQ 1 Q3))
    (F.upd (F.upd (F.upd (F.upd (F.upd (F.upd f4 12 (f4 6)) 6 (.bool false)) 13 t6) 14 t7) 15 t8) 16 (.int .i64 0)) w5)
   (Q3 (.exit 0) (F.upd f4 12 (f4 6)) w5))
  (blockQ 0 (seqQ (fun f74 w75 =>
 k (f74 5) w75) (bodyQ Try.prog [.tmp 4] k)))
  (F.upd (F.upd (F.upd (F.upd (initF [v0, v1]) 2 t1) 4 (.slice none 0 0)) 5 (.slice none 0 0)) 6 (.bool true)) w2) w
theorem body192 : Try.f192.body = some (bodyOf Try.f192) := by kernel_rfl
theorem same192 (v0 v1 : Value) (k : Value → World → Prop) (w : World) : wpF Try.prog pl192 (bodyOf Try.f192) (bodyQ Try.prog Try.f192.results.toList k) (initF [v0, v1]) w = S192 v0 v1 k w := by kernel_rfl
theorem enter192 {v0 v1 : Value} {k : Value → World → Prop} {w : World} (h : S192 v0 v1 k w) : CallK Try.prog 192 [v0, v1] k w :=
  call_of_wpF (pl := pl192) mixed Try.func192 body192 (by kernel_rfl) (of_decide_eq_true (by kernel_rfl)) (by kernel_rfl) (by kernel_rfl) (Eq.mpr (same192 v0 v1 k w) h)

/-! loop.example/g00758/spec.l3Reached -/
def pl193 : Plans := fun _ => ⟨false, [], .nil⟩
def S193 (v0 : Value) (k : Value → World → Prop) (w : World) : Prop :=
 Do Try.prog (sBox 26 v0) (fun t1 w2 =>
 Do Try.prog (sBuildSlice 27 1 [(0, (.int .i64 0))]) (fun t3 w4 =>
 LoopF [10, 4, 11, 12, 13, 14, 15, 16, 17, 6, 18, 19, 20, 21, 22, 23, 24, 8, 25, 26, 27, 28, 29, 30, 31, 32, 33, 34, 35, 36, 37, 38, 39, 40, 41, 3, 4, 42, 21, 43, 14] (fun Q5 f6 w7 =>
  CondK (f6 4)
   (Rd Try.prog (WS.at w7) (sFieldAddr 26 (f6 1) 2) fun t8 =>
   Rd Try.prog (WS.at w7) (sLoad 24 t8) fun t9 =>
   Rd Try.prog (WS.at w7) (sBuiltin .len #[24] 3 [false] [t9]) fun t10 =>
   LoopF [15, 16, 17, 6, 18, 19, 20, 21, 22, 23, 24, 8, 25, 26, 27, 28, 29, 30, 31, 32, 33, 34, 35, 36, 37, 38, 39, 40, 41, 3, 4, 42, 21, 43, 14] (fun Q11 f12 w13 =>
    Rd Try.prog (WS.at w13) (sBin .lss 3 false (f12 14) (f12 13)) fun t14 =>
    CondK t14
     (Rd Try.prog (WS.at w13) (sIndexAddr 24 (f12 12) (f12 14)) fun t15 =>
     Rd Try.prog (WS.at w13) (sLoad 33 t15) fun t16 =>
     Do Try.prog (sAlloc 33) (fun t17 w18 =>
     Do Try.prog (sStore 33 t17 t16) (fun _ w19 =>
     Rd Try.prog (WS.at w19) (sFieldAddr 33 t17 1) fun t20 =>
     Rd Try.prog (WS.at w19) (sLoad 27 t20) fun t21 =>
     Rd Try.prog (WS.at w19) (sBuiltin .len #[27] 3 [false] [t21]) fun t22 =>
     LoopF [22, 23, 24, 8, 25, 26, 27, 28, 29, 30, 31, 32, 33, 34, 35, 36, 37, 38, 39, 40, 41, 3, 4, 42, 21] (fun Q23 f24 w25 =>
      Rd Try.prog (WS.at w25) (sBin .lss 3 false (f24 21) (f24 20)) fun t26 =>
      CondK t26
       (Join (fun K27 =>
       Rd Try.prog (WS.at w25) (sIndexAddr 27 (f24 19) (f24 21)) fun t30 =>
       Rd Try.prog (WS.at w25) (sLoad 3 t30) fun t31 =>
       Rd Try.prog (WS.at w25) (sBin .geq 3 true t31 (.int .i64 0)) fun t32 =>
       GuardK t32 true (fun k w' => k (f24 3) w') (fun t33 w34 =>
       GuardK t32 true (fun k w' => Rd Try.prog (WS.at w34) (sFieldAddr 33 (f24 6) 0) fun v => k v w') (fun t35 w36 =>
       GuardK t32 true (fun k w' => Rd Try.prog (WS.at w36) (sLoad 3 t35) fun v => k v w') (fun t37 w38 =>
       GuardK t32 true (fun k w' => CallK Try.prog 244 [t33, t37] k w') (fun t39 w40 =>
       Rd Try.prog (WS.at w40) (sPick t32 t39 (.bool false)) fun t41 =>
       GuardK t41 true (fun k w' => k (f24 3) w') (fun t42 w43 =>
       GuardK t41 true (fun k w' => k t31 w') (fun t44 w45 =>
       GuardK t41 true (fun k w' => CallK Try.prog 244 [t42, t44] k w') (fun t46 w47 =>
       GuardK t41 true (fun k w' => Rd Try.prog (WS.at w47) (sUn .not t46) fun v => k v w') (fun t48 w49 =>
       Rd Try.prog (WS.at w49) (sPick t41 t48 (.bool false)) fun t50 =>
       CondK t50
        (CallK Try.prog 274 [(f24 3), t31] (fun t51 w52 =>
        K27 (F.upd (F.upd (F.upd (F.upd (F.upd (F.upd (F.upd (F.upd (F.upd (F.upd (F.upd (F.upd (F.upd (F.upd (F.upd (F.upd (F.upd (F.upd (F.upd (F.upd (F.upd (F.upd (F.upd f24 22 t26) 23 t30) 24 t31) 8 t31) 25 t31) 26 t32) 27 t32) 28 t33) 29 t35) 30 t37) 31 t39) 32 t41) 33 t41) 34 t42) 35 t44) 36 t46) 37 t48) 38 t50) 39 (f24 3)) 40 t31) 41 t51) 3 t51) 4 (.bool true)) w52) w49)
        (K27 (F.upd (F.upd (F.upd (F.upd (F.upd (F.upd (F.upd (F.upd (F.upd (F.upd (F.upd (F.upd (F.upd (F.upd (F.upd (F.upd (F.upd (F.upd f24 22 t26) 23 t30) 24 t31) 8 t31) 25 t31) 26 t32) 27 t32) 28 t33) 29 t35) 30 t37) 31 t39) 32 t41) 33 t41) 34 t42) 35 t44) 36 t46) 37 t48) 38 t50) w49)) w47) w45) w43) w40) w38) w36) w34) w25) (fun f28 w29 =>
       Rd Try.prog (WS.at w29) (sBin .add 3 true (f28 21) (.int .i64 1)) fun t53 =>
       Q23 .normal (F.upd (F.upd f28 42 t53) 21 t53) w29))
       (Q23 (.exit 4) (F.upd f24 22 t26) w25))
      (blockQ 4 (blockQ 3 (seqQ (fun f54 w55 =>
     Rd Try.prog (WS.at w55) (sBin .add 3 true (f54 14) (.int .i64 1)) fun t56 =>
     Q11 .normal (F.upd (F.upd f54 43 t56) 14 t56) w55) Q11)))
      (F.upd (F.upd (F.upd (F.upd (F.upd (F.upd (F.upd (F.upd f12 15 t14) 16 t15) 17 t16) 6 t17) 18 t20) 19 t21) 20 t22) 21 (.int .i64 0)) w19) w18) w13)
     (Q11 (.exit 2) (F.upd f12 15 t14) w13))
    (blockQ 2 (blockQ 1 Q5))
    (F.upd (F.upd (F.upd (F.upd (F.upd (F.upd f6 10 (f6 4)) 4 (.bool false)) 11 t8) 12 t9) 13 t10) 14 (.int .i64 0)) w7)
   (Q5 (.exit 0) (F.upd f6 10 (f6 4)) w7))
  (blockQ 0 (seqQ (fun f57 w58 =>
 k (f57 3) w58) (bodyQ Try.prog [.tmp 2] k)))
  (F.upd (F.upd (F.upd (F.upd (F.upd (initF [v0]) 1 t1) 2 (.slice none 0 0)) 9 t3) 3 t3) 4 (.bool true)) w4) w2) w
theorem body193 : Try.f193.body = some (bodyOf Try.f193) := by kernel_rfl
theorem same193 (v0 : Value) (k : Value → World → Prop) (w : World) : wpF Try.prog pl193 (bodyOf Try.f193) (bodyQ Try.prog Try.f193.results.toList k) (initF [v0]) w = S193 v0 k w := by kernel_rfl
theorem enter193 {v0 : Value} {k : Value → World → Prop} {w : World} (h : S193 v0 k w) : CallK Try.prog 193 [v0] k w :=
  call_of_wpF (pl := pl193) mixed Try.func193 body193 (by kernel_rfl) (of_decide_eq_true (by kernel_rfl)) (by kernel_rfl) (by kernel_rfl) (Eq.mpr (same193 v0 k w) h)

/-! loop.example/g00758/spec.l3Useful -/
def pl190 : Plans := fun i => match i with
  | 13 => ⟨true, [9, 11], .step 0 .any (.step 1 .held (.step 2 .any (.step 3 .held (.step 4 .any (.step 5 .held (.step 6 .one (.step 7 .any (.step 8 .one (.step 9 .last (.step 10 .any (.step 11 .last (.nil))))))))))))⟩
  | _ => ⟨false, [], .nil⟩
def S190 (v0 : Value) (k : Value → World → Prop) (w : World) : Prop :=
 Do Try.prog (sBox 26 v0) (fun t1 w2 =>
 Do Try.prog (sAlloc 26) (fun t3 w4 =>
 Rd Try.prog (WS.at w4) (sLoad 26 t1) fun t5 =>
 CallK Try.prog 192 [t5, (.bool true)] (fun t6 w7 =>
 Rd Try.prog (WS.at w7) (sFieldAddr 26 t1 0) fun t8 =>
 Rd Try.prog (WS.at w7) (sLoad 3 t8) fun t9 =>
 Rd Try.prog (WS.at w7) (sFieldAddr 26 t1 1) fun t10 =>
 Rd Try.prog (WS.at w7) (sLoad 3 t10) fun t11 =>
 Rd Try.prog (WS.at w7) (sBuild 26 [(0, t9), (1, t11)]) fun t12 =>
 Do Try.prog (sAlloc 26) (fun t13 w14 =>
 Do Try.prog (sStore 26 t13 t12) (fun _ w15 =>
 Rd Try.prog (WS.at w15) (sFieldAddr 26 t1 2) fun t16 =>
 Rd Try.prog (WS.at w15) (sLoad 24 t16) fun t17 =>
 Rd Try.prog (WS.at w15) (sBuiltin .len #[24] 3 [false] [t17]) fun t18 =>
 LoopF [25, 26, 27, 6, 28, 29, 30, 31, 7, 32, 33, 34, 35, 36, 37, 38, 9, 39, 40, 41, 42, 43, 44, 45, 46, 47, 48, 7, 49, 35, 50, 51, 52, 53, 54, 55, 56, 57, 58, 59, 60, 61, 62, 24] (fun Q19 f20 w21 =>
  Rd Try.prog (WS.at w21) (sBin .lss 3 false (f20 24) (f20 23)) fun t22 =>
  CondK t22
   (Join (fun K23 =>
   Rd Try.prog (WS.at w21) (sIndexAddr 24 (f20 22) (f20 24)) fun t26 =>
   Rd Try.prog (WS.at w21) (sLoad 33 t26) fun t27 =>
   Do Try.prog (sAlloc 33) (fun t28 w29 =>
   Do Try.prog (sStore 33 t28 t27) (fun _ w30 =>
   Rd Try.prog (WS.at w30) (sFieldAddr 33 t28 0) fun t31 =>
   Rd Try.prog (WS.at w30) (sLoad 3 t31) fun t32 =>
   CallK Try.prog 244 [(f20 3), t32] (fun t33 w34 =>
   Rd Try.prog (WS.at w34) (sFieldAddr 33 t28 1) fun t35 =>
   Rd Try.prog (WS.at w34) (sLoad 27 t35) fun t36 =>
   Rd Try.prog (WS.at w34) (sBuiltin .len #[27] 3 [false] [t36]) fun t37 =>
   LoopF [36, 37, 38, 9, 39, 40, 41, 42, 43, 44, 45, 46, 47, 48, 7, 49, 35] (fun Q38 f39 w40 =>
    Rd Try.prog (WS.at w40) (sBin .lss 3 false (f39 35) (f39 34)) fun t41 =>
    CondK t41
     (Rd Try.prog (WS.at w40) (sIndexAddr 27 (f39 33) (f39 35)) fun t42 =>
     Rd Try.prog (WS.at w40) (sLoad 3 t42) fun t43 =>
     GuardK (f39 7) true (fun k w' => k t43 w') (fun t44 w45 =>
     GuardK (f39 7) true (fun k w' => Rd Try.prog (WS.at w45) (sBin .lss 3 true t44 (.int .i64 0)) fun v => k v w') (fun t46 w47 =>
     GuardK (f39 7) true (fun k w' => k t46 w') (fun t48 w49 =>
     GuardK t48 false (fun k w' => k (f39 3) w') (fun t50 w51 =>
     GuardK t48 false (fun k w' => k t43 w') (fun t52 w53 =>
     GuardK t48 false (fun k w' => CallK Try.prog 244 [t50, t52] k w') (fun t54 w55 =>
     GuardK (f39 7) true (fun k w' => Rd Try.prog (WS.at w55) (sPick t48 (.bool true) t54) fun v => k v w') (fun t56 w57 =>
     Rd Try.prog (WS.at w57) (sPick (f39 7) t56 (.bool false)) fun t58 =>
     Rd Try.prog (WS.at w57) (sBin .add 3 true (f39 35) (.int .i64 1)) fun t59 =>
     Q38 .normal (F.upd (F.upd (F.upd (F.upd (F.upd (F.upd (F.upd (F.upd (F.upd (F.upd (F.upd (F.upd (F.upd (F.upd (F.upd (F.upd (F.upd f39 36 t41) 37 t42) 38 t43) 9 t43) 39 (f39 7)) 40 (f39 7)) 41 t44) 42 t46) 43 t48) 44 t50) 45 t52) 46 t54) 47 t56) 48 t58) 7 t58) 49 t59) 35 t59) w57) w55) w53) w51) w49) w47) w45) w40)
     (Q38 (.exit 2) (F.upd f39 36 t41) w40))
    (blockQ 2 (seqQ (fun f60 w61 =>
   CondK (f60 7)
    (∃ S62 : World → Prop, ∃ h63 : S62 w61.drew,
    Rd Try.prog WS.any (sFieldAddr 26 (f60 4) 2) fun t64 =>
    Rd Try.prog ⟨S62, w61.drew, h63⟩ (sLoad 24 t64) fun t65 =>
    Rd Try.prog WS.any (sFieldAddr 33 (f60 6) 0) fun t66 =>
    Rd Try.prog ⟨S62, w61.drew, h63⟩ (sLoad 3 t66) fun t67 =>
    Rd Try.prog WS.any (sFieldAddr 33 (f60 6) 1) fun t68 =>
    Rd Try.prog ⟨S62, w61.drew, h63⟩ (sLoad 27 t68) fun t69 =>
    CallK Try.prog 158 [t69] (fun t70 w71 =>
    S62 w71 ∧ Rd Try.prog WS.any (sBuild 33 [(0, t67), (1, t70)]) fun t72 =>
    Do Try.prog (sBuildSlice 24 1 [(0, t72)]) (fun t73 w74 =>
    S62 w74 ∧ Do Try.prog (sBuiltin .append #[24, 24] 24 [false, false] [t65, t73]) (fun t75 w76 =>
    Rd Try.prog WS.any (sFieldAddr 26 (f60 4) 2) fun t77 =>
    Do Try.prog (sStore 24 t77 t75) (fun _ w78 =>
    K23 (F.upd (F.upd (F.upd (F.upd (F.upd (F.upd (F.upd (F.upd (F.upd (F.upd (F.upd (F.upd f60 50 (f60 7)) 51 t64) 52 t65) 53 t66) 54 t67) 55 t68) 56 t69) 57 t70) 58 t72) 59 t73) 60 t75) 61 t77) w78) w76) w74) w71) w61.drew)
    (K23 (F.upd f60 50 (f60 7)) w61)) (blockQ 1 (seqQ K23 Q19))))
    (F.upd (F.upd (F.upd (F.upd (F.upd (F.upd (F.upd (F.upd (F.upd (F.upd (F.upd (F.upd (F.upd f20 25 t22) 26 t26) 27 t27) 6 t28) 28 (f20 3)) 29 t31) 30 t32) 31 t33) 7 t33) 32 t35) 33 t36) 34 t37) 35 (.int .i64 0)) w34) w30) w29) w21) (fun f24 w25 =>
   Rd Try.prog (WS.at w25) (sBin .add 3 true (f24 24) (.int .i64 1)) fun t81 =>
   Q19 .normal (F.upd (F.upd f24 62 t81) 24 t81) w25))
   (Q19 (.exit 0) (F.upd f20 25 t22) w21))
  (blockQ 0 (seqQ (fun f82 w83 =>
 Rd Try.prog (WS.at w83) (sLoad 26 (f82 4)) fun t84 =>
 CallK Try.prog 193 [t84] (fun t85 w86 =>
 Rd Try.prog (WS.at w86) (sFieldAddr 26 (f82 1) 0) fun t87 =>
 Rd Try.prog (WS.at w86) (sLoad 3 t87) fun t88 =>
 Rd Try.prog (WS.at w86) (sFieldAddr 26 (f82 1) 1) fun t89 =>
 Rd Try.prog (WS.at w86) (sLoad 3 t89) fun t90 =>
 Rd Try.prog (WS.at w86) (sBuild 26 [(0, t88), (1, t90)]) fun t91 =>
 Do Try.prog (sAlloc 26) (fun t92 w93 =>
 Do Try.prog (sStore 26 t92 t91) (fun _ w94 =>
 Rd Try.prog (WS.at w94) (sFieldAddr 26 (f82 4) 2) fun t95 =>
 Rd Try.prog (WS.at w94) (sLoad 24 t95) fun t96 =>
 Rd Try.prog (WS.at w94) (sBuiltin .len #[24] 3 [false] [t96]) fun t97 =>
 LoopF [74, 75, 76, 13, 77, 78, 79, 80, 81, 82, 83, 84, 85, 86, 87, 73] (fun Q98 f99 w100 =>
  Rd Try.prog (WS.at w100) (sBin .lss 3 false (f99 73) (f99 72)) fun t101 =>
  CondK t101
   (Join (fun K102 =>
   Rd Try.prog (WS.at w100) (sIndexAddr 24 (f99 71) (f99 73)) fun t105 =>
   Rd Try.prog (WS.at w100) (sLoad 33 t105) fun t106 =>
   Do Try.prog (sAlloc 33) (fun t107 w108 =>
   Do Try.prog (sStore 33 t107 t106) (fun _ w109 =>
   Rd Try.prog (WS.at w109) (sFieldAddr 33 t107 0) fun t110 =>
   Rd Try.prog (WS.at w109) (sLoad 3 t110) fun t111 =>
   CallK Try.prog 244 [(f99 10), t111] (fun t112 w113 =>
   CondK t112
    (Rd Try.prog (WS.at w113) (sFieldAddr 26 (f99 11) 2) fun t114 =>
    Rd Try.prog (WS.at w113) (sLoad 24 t114) fun t115 =>
    Rd Try.prog (WS.at w113) (sLoad 33 t107) fun t116 =>
    Do Try.prog (sBuildSlice 24 1 [(0, t116)]) (fun t117 w118 =>
    Do Try.prog (sBuiltin .append #[24, 24] 24 [false, false] [t115, t117]) (fun t119 w120 =>
    Rd Try.prog (WS.at w120) (sFieldAddr 26 (f99 11) 2) fun t121 =>
    Do Try.prog (sStore 24 t121 t119) (fun _ w122 =>
    K102 (F.upd (F.upd (F.upd (F.upd (F.upd (F.upd (F.upd (F.upd (F.upd (F.upd (F.upd (F.upd (F.upd (F.upd f99 74 t101) 75 t105) 76 t106) 13 t107) 77 (f99 10)) 78 t110) 79 t111) 80 t112) 81 t114) 82 t115) 83 t116) 84 t117) 85 t119) 86 t121) w122) w120) w118) w113)
    (K102 (F.upd (F.upd (F.upd (F.upd (F.upd (F.upd (F.upd (F.upd f99 74 t101) 75 t105) 76 t106) 13 t107) 77 (f99 10)) 78 t110) 79 t111) 80 t112) w113)) w109) w108) w100) (fun f103 w104 =>
   Rd Try.prog (WS.at w104) (sBin .add 3 true (f103 73) (.int .i64 1)) fun t123 =>
   Q98 .normal (F.upd (F.upd f103 87 t123) 73 t123) w104))
   (Q98 (.exit 4) (F.upd f99 74 t101) w100))
  (blockQ 4 (seqQ (fun f124 w125 =>
 Rd Try.prog (WS.at w125) (sLoad 26 (f124 11)) fun t126 =>
 Do Try.prog (sStore 26 (f124 2) t126) (fun _ w127 =>
 Rd Try.prog (WS.at w127) (sLoadVar 26 (f124 2)) fun t128 => k t128 w127) w125) (bodyQ Try.prog [.cell 2 26] k)))
  (F.upd (F.upd (F.upd (F.upd (F.upd (F.upd (F.upd (F.upd (F.upd (F.upd (F.upd (F.upd (F.upd f82 63 t84) 64 t85) 10 t85) 65 t87) 66 t88) 67 t89) 68 t90) 69 t91) 11 t92) 70 t95) 71 t96) 72 t97) 73 (.int .i64 0)) w94) w93) w86) w83) (bodyQ Try.prog [.cell 2 26] k)))
  (F.upd (F.upd (F.upd (F.upd (F.upd (F.upd (F.upd (F.upd (F.upd (F.upd (F.upd (F.upd (F.upd (F.upd (F.upd (initF [v0]) 1 t1) 2 t3) 14 t5) 15 t6) 3 t6) 16 t8) 17 t9) 18 t10) 19 t11) 20 t12) 4 t13) 21 t16) 22 t17) 23 t18) 24 (.int .i64 0)) w15) w14) w7) w4) w2) w
theorem body190 : Try.f190.body = some (bodyOf Try.f190) := by kernel_rfl
theorem same190 (v0 : Value) (k : Value → World → Prop) (w : World) : wpF Try.prog pl190 (bodyOf Try.f190) (bodyQ Try.prog Try.f190.results.toList k) (initF [v0]) w = S190 v0 k w := by kernel_rfl
theorem enter190 {v0 : Value} {k : Value → World → Prop} {w : World} (h : S190 v0 k w) : CallK Try.prog 190 [v0] k w :=
  call_of_wpF (pl := pl190) mixed Try.func190 body190 (by kernel_rfl) (of_decide_eq_true (by kernel_rfl)) (by kernel_rfl) (by kernel_rfl) (Eq.mpr (same190 v0 k w) h)

/-! loop.example/g00758/spec.l3Growing -/
def pl195 : Plans := fun _ => ⟨false, [], .nil⟩
def S195 (v0 : Value) (k : Value → World → Prop) (w : World) : Prop :=
 Do Try.prog (sBox 26 v0) (fun t1 w2 =>
 Rd Try.prog (WS.at w2) (sLoad 26 t1) fun t3 =>
 CallK Try.prog 192 [t3, (.bool true)] (fun t4 w5 =>
 LoopF [14, 5, 15, 16, 17, 18, 19, 20, 21, 7, 8, 9, 22, 23, 24, 25, 26, 27, 28, 11, 29, 30, 31, 32, 33, 34, 35, 36, 37, 38, 8, 39, 40, 41, 42, 43, 44, 45, 46, 47, 48, 9, 49, 25, 50, 51, 52, 53, 54, 55, 56, 57, 58, 59, 60, 61, 62, 63, 64, 4, 5, 65, 18] (fun Q6 f7 w8 =>
  CondK (f7 5)
   (Rd Try.prog (WS.at w8) (sFieldAddr 26 (f7 1) 2) fun t9 =>
   Rd Try.prog (WS.at w8) (sLoad 24 t9) fun t10 =>
   Rd Try.prog (WS.at w8) (sBuiltin .len #[24] 3 [false] [t10]) fun t11 =>
   LoopF [19, 20, 21, 7, 8, 9, 22, 23, 24, 25, 26, 27, 28, 11, 29, 30, 31, 32, 33, 34, 35, 36, 37, 38, 8, 39, 40, 41, 42, 43, 44, 45, 46, 47, 48, 9, 49, 25, 50, 51, 52, 53, 54, 55, 56, 57, 58, 59, 60, 61, 62, 63, 64, 4, 5, 65, 18] (fun Q12 f13 w14 =>
    Rd Try.prog (WS.at w14) (sBin .lss 3 false (f13 18) (f13 17)) fun t15 =>
    CondK t15
     (Join (fun K16 =>
     Rd Try.prog (WS.at w14) (sIndexAddr 24 (f13 16) (f13 18)) fun t19 =>
     Rd Try.prog (WS.at w14) (sLoad 33 t19) fun t20 =>
     Do Try.prog (sAlloc 33) (fun t21 w22 =>
     Do Try.prog (sStore 33 t21 t20) (fun _ w23 =>
     Rd Try.prog (WS.at w23) (sFieldAddr 33 t21 1) fun t24 =>
     Rd Try.prog (WS.at w23) (sLoad 27 t24) fun t25 =>
     Rd Try.prog (WS.at w23) (sBuiltin .len #[27] 3 [false] [t25]) fun t26 =>
     LoopF [26, 27, 28, 11, 29, 30, 31, 32, 33, 34, 35, 36, 37, 38, 8, 39, 40, 41, 42, 43, 44, 45, 46, 47, 48, 9, 49, 25] (fun Q27 f28 w29 =>
      Rd Try.prog (WS.at w29) (sBin .lss 3 false (f28 25) (f28 24)) fun t30 =>
      CondK t30
       (Rd Try.prog (WS.at w29) (sIndexAddr 27 (f28 23) (f28 25)) fun t31 =>
       Rd Try.prog (WS.at w29) (sLoad 3 t31) fun t32 =>
       GuardK (f28 8) true (fun k w' => k t32 w') (fun t33 w34 =>
       GuardK (f28 8) true (fun k w' => Rd Try.prog (WS.at w34) (sBin .lss 3 true t33 (.int .i64 0)) fun v => k v w') (fun t35 w36 =>
       GuardK (f28 8) true (fun k w' => k t35 w') (fun t37 w38 =>
       GuardK t37 false (fun k w' => k (f28 3) w') (fun t39 w40 =>
       GuardK t37 false (fun k w' => k t32 w') (fun t41 w42 =>
       GuardK t37 false (fun k w' => CallK Try.prog 244 [t39, t41] k w') (fun t43 w44 =>
       GuardK (f28 8) true (fun k w' => Rd Try.prog (WS.at w44) (sPick t37 (.bool true) t43) fun v => k v w') (fun t45 w46 =>
       Rd Try.prog (WS.at w46) (sPick (f28 8) t45 (.bool false)) fun t47 =>
       GuardK (f28 9) false (fun k w' => k t32 w') (fun t48 w49 =>
       GuardK (f28 9) false (fun k w' => Rd Try.prog (WS.at w49) (sBin .lss 3 true t48 (.int .i64 0)) fun v => k v w') (fun t50 w51 =>
       Rd Try.prog (WS.at w51) (sPick (f28 9) (.bool true) t50) fun t52 =>
       GuardK t52 false (fun k w' => k (f28 4) w') (fun t53 w54 =>
       GuardK t52 false (fun k w' => k t32 w') (fun t55 w56 =>
       GuardK t52 false (fun k w' => CallK Try.prog 244 [t53, t55] k w') (fun t57 w58 =>
       Rd Try.prog (WS.at w58) (sPick t52 (.bool true) t57) fun t59 =>
       Rd Try.prog (WS.at w58) (sBin .add 3 true (f28 25) (.int .i64 1)) fun t60 =>
       Q27 .normal (F.upd (F.upd (F.upd (F.upd (F.upd (F.upd (F.upd (F.upd (F.upd (F.upd (F.upd (F.upd (F.upd (F.upd (F.upd (F.upd (F.upd (F.upd (F.upd (F.upd (F.upd (F.upd (F.upd (F.upd (F.upd (F.upd (F.upd (F.upd f28 26 t30) 27 t31) 28 t32) 11 t32) 29 (f28 8)) 30 (f28 8)) 31 t33) 32 t35) 33 t37) 34 t39) 35 t41) 36 t43) 37 t45) 38 t47) 8 t47) 39 (f28 9)) 40 (f28 9)) 41 t48) 42 t50) 43 t52) 44 t52) 45 t53) 46 t55) 47 t57) 48 t59) 9 t59) 49 t60) 25 t60) w58) w56) w54) w51) w49) w46) w44) w42) w40) w38) w36) w34) w29)
       (Q27 (.exit 4) (F.upd f28 26 t30) w29))
      (blockQ 4 (seqQ (fun f61 w62 =>
     GuardK (f61 8) true (fun k w' => k (f61 9) w') (fun t63 w64 =>
     Rd Try.prog (WS.at w64) (sPick (f61 8) t63 (.bool false)) fun t65 =>
     GuardK t65 true (fun k w' => k (f61 4) w') (fun t66 w67 =>
     GuardK t65 true (fun k w' => Rd Try.prog (WS.at w67) (sFieldAddr 33 (f61 7) 0) fun v => k v w') (fun t68 w69 =>
     GuardK t65 true (fun k w' => Rd Try.prog (WS.at w69) (sLoad 3 t68) fun v => k v w') (fun t70 w71 =>
     GuardK t65 true (fun k w' => CallK Try.prog 244 [t66, t70] k w') (fun t72 w73 =>
     GuardK t65 true (fun k w' => Rd Try.prog (WS.at w73) (sUn .not t72) fun v => k v w') (fun t74 w75 =>
     Rd Try.prog (WS.at w75) (sPick t65 t74 (.bool false)) fun t76 =>
     CondK t76
      (Rd Try.prog (WS.at w75) (sFieldAddr 33 (f61 7) 0) fun t77 =>
      Rd Try.prog (WS.at w75) (sLoad 3 t77) fun t78 =>
      CallK Try.prog 274 [(f61 4), t78] (fun t79 w80 =>
      K16 (F.upd (F.upd (F.upd (F.upd (F.upd (F.upd (F.upd (F.upd (F.upd (F.upd (F.upd (F.upd (F.upd (F.upd (F.upd (F.upd (F.upd f61 50 (f61 8)) 51 (f61 8)) 52 t63) 53 t65) 54 t65) 55 t66) 56 t68) 57 t70) 58 t72) 59 t74) 60 t76) 61 (f61 4)) 62 t77) 63 t78) 64 t79) 4 t79) 5 (.bool true)) w80) w75)
      (K16 (F.upd (F.upd (F.upd (F.upd (F.upd (F.upd (F.upd (F.upd (F.upd (F.upd (F.upd f61 50 (f61 8)) 51 (f61 8)) 52 t63) 53 t65) 54 t65) 55 t66) 56 t68) 57 t70) 58 t72) 59 t74) 60 t76) w75)) w73) w71) w69) w67) w64) w62) (blockQ 3 (seqQ K16 Q12))))
      (F.upd (F.upd (F.upd (F.upd (F.upd (F.upd (F.upd (F.upd (F.upd (F.upd f13 19 t15) 20 t19) 21 t20) 7 t21) 8 (.bool true)) 9 (.bool false)) 22 t24) 23 t25) 24 t26) 25 (.int .i64 0)) w23) w22) w14) (fun f17 w18 =>
     Rd Try.prog (WS.at w18) (sBin .add 3 true (f17 18) (.int .i64 1)) fun t83 =>
     Q12 .normal (F.upd (F.upd f17 65 t83) 18 t83) w18))
     (Q12 (.exit 2) (F.upd f13 19 t15) w14))
    (blockQ 2 (blockQ 1 Q6))
    (F.upd (F.upd (F.upd (F.upd (F.upd (F.upd f7 14 (f7 5)) 5 (.bool false)) 15 t9) 16 t10) 17 t11) 18 (.int .i64 0)) w8)
   (Q6 (.exit 0) (F.upd f7 14 (f7 5)) w8))
  (blockQ 0 (seqQ (fun f84 w85 =>
 k (f84 4) w85) (bodyQ Try.prog [.tmp 2] k)))
  (F.upd (F.upd (F.upd (F.upd (F.upd (F.upd (F.upd (initF [v0]) 1 t1) 2 (.slice none 0 0)) 12 t3) 13 t4) 3 t4) 4 (.slice none 0 0)) 5 (.bool true)) w5) w2) w
theorem body195 : Try.f195.body = some (bodyOf Try.f195) := by kernel_rfl
theorem same195 (v0 : Value) (k : Value → World → Prop) (w : World) : wpF Try.prog pl195 (bodyOf Try.f195) (bodyQ Try.prog Try.f195.results.toList k) (initF [v0]) w = S195 v0 k w := by kernel_rfl
theorem enter195 {v0 : Value} {k : Value → World → Prop} {w : World} (h : S195 v0 k w) : CallK Try.prog 195 [v0] k w :=
  call_of_wpF (pl := pl195) mixed Try.func195 body195 (by kernel_rfl) (of_decide_eq_true (by kernel_rfl)) (by kernel_rfl) (by kernel_rfl) (Eq.mpr (same195 v0 k w) h)

/-! loop.example/g00758/spec.UsefulOf -/
/-! loop.example/g00758/spec.DrawIsUseful -/
/-! loop.example/g00758/spec.IsUseful -/
/-! loop.example/g00758/spec.NullableOf -/
/-! loop.example/g00758/spec.ProductiveOf -/
/-! loop.example/g00758/spec.ReachedOf -/
/-! loop.example/g00758/spec.GrowingOf -/
/-! loop.example/g00758/spec.LeastLong -/
def pl59 : Plans := fun _ => ⟨false, [], .nil⟩
def S59 (v0 : Value) (k : Value → World → Prop) (w : World) : Prop :=
 Do Try.prog (sBox 26 v0) (fun t1 w2 =>
 Rd Try.prog (WS.at w2) (sLoad 26 t1) fun t3 =>
 CallK Try.prog 127 [t3] (fun t4 w5 =>
 Rd Try.prog (WS.at w5) (sUn .not t4) fun t6 =>
 CondK t6
  (k (.tuple #[(.int .i64 0), (.bool false)]) w5)
  (Rd Try.prog (WS.at w5) (sFieldAddr 26 t1 0) fun t7 =>
  Rd Try.prog (WS.at w5) (sLoad 3 t7) fun t8 =>
  Do Try.prog (sMakeSlice 27 t8 t8) (fun t9 w10 =>
  Rd Try.prog (WS.at w10) (sBuiltin .len #[27] 3 [false] [t9]) fun t11 =>
  LoopF [21, 22, 5, 23, 24, 25, 26, 20] (fun Q12 f13 w14 =>
   Rd Try.prog (WS.at w14) (sBin .lss 3 false (f13 20) (f13 19)) fun t15 =>
   CondK t15
    (Rd Try.prog (WS.at w14) (sIndexAddr 27 (f13 4) (f13 20)) fun t16 =>
    Do Try.prog (sStore 3 t16 (.int .i64 (-1))) (fun _ w17 =>
    Rd Try.prog (WS.at w17) (sBin .add 3 true (f13 20) (.int .i64 1)) fun t18 =>
    Q12 .normal (F.upd (F.upd (F.upd (F.upd (F.upd (F.upd (F.upd (F.upd f13 21 t15) 22 (f13 20)) 5 (f13 20)) 23 (f13 4)) 24 (f13 20)) 25 t16) 26 t18) 20 t18) w17) w14)
    (Q12 (.exit 0) (F.upd f13 21 t15) w14))
   (blockQ 0 (seqQ (fun f19 w20 =>
  LoopF [27, 6, 28, 29, 30, 31, 32, 33, 34, 8, 9, 35, 36, 37, 38, 39, 40, 41, 11, 49, 50, 48, 52, 53, 51, 54, 55, 9, 57, 58, 59, 60, 61, 56, 9, 42, 43, 44, 45, 46, 47, 9, 62, 38, 63, 64, 65, 66, 67, 68, 69, 70, 71, 72, 73, 74, 75, 76, 77, 78, 79, 80, 81, 82, 83, 84, 85, 86, 6, 87, 31] (fun Q21 f22 w23 =>
   CondK (f22 6)
    (Rd Try.prog (WS.at w23) (sFieldAddr 26 (f22 1) 2) fun t24 =>
    Rd Try.prog (WS.at w23) (sLoad 24 t24) fun t25 =>
    Rd Try.prog (WS.at w23) (sBuiltin .len #[24] 3 [false] [t25]) fun t26 =>
    LoopF [32, 33, 34, 8, 9, 35, 36, 37, 38, 39, 40, 41, 11, 49, 50, 48, 52, 53, 51, 54, 55, 9, 57, 58, 59, 60, 61, 56, 9, 42, 43, 44, 45, 46, 47, 9, 62, 38, 63, 64, 65, 66, 67, 68, 69, 70, 71, 72, 73, 74, 75, 76, 77, 78, 79, 80, 81, 82, 83, 84, 85, 86, 6, 87, 31] (fun Q27 f28 w29 =>
     Rd Try.prog (WS.at w29) (sBin .lss 3 false (f28 31) (f28 30)) fun t30 =>
     CondK t30
      (Join (fun K31 =>
      Rd Try.prog (WS.at w29) (sIndexAddr 24 (f28 29) (f28 31)) fun t34 =>
      Rd Try.prog (WS.at w29) (sLoad 33 t34) fun t35 =>
      Do Try.prog (sAlloc 33) (fun t36 w37 =>
      Do Try.prog (sStore 33 t36 t35) (fun _ w38 =>
      Rd Try.prog (WS.at w38) (sFieldAddr 33 t36 1) fun t39 =>
      Rd Try.prog (WS.at w38) (sLoad 27 t39) fun t40 =>
      Rd Try.prog (WS.at w38) (sBuiltin .len #[27] 3 [false] [t40]) fun t41 =>
      LoopF [39, 40, 41, 11, 49, 50, 48, 52, 53, 51, 54, 55, 9, 57, 58, 59, 60, 61, 56, 9, 42, 43, 44, 45, 46, 47, 9, 62, 38] (fun Q42 f43 w44 =>
       Rd Try.prog (WS.at w44) (sBin .lss 3 false (f43 38) (f43 37)) fun t45 =>
       CondK t45
        (Join (fun K46 =>
        Rd Try.prog (WS.at w44) (sIndexAddr 27 (f43 36) (f43 38)) fun t49 =>
        Rd Try.prog (WS.at w44) (sLoad 3 t49) fun t50 =>
        Rd Try.prog (WS.at w44) (sBin .lss 3 true (f43 9) (.int .i64 0)) fun t51 =>
        CondK t51
         (K46 (F.upd (F.upd (F.upd (F.upd (F.upd (F.upd (F.upd f43 39 t45) 40 t49) 41 t50) 11 t50) 49 (f43 9)) 50 t51) 48 t51) w44)
         (Rd Try.prog (WS.at w44) (sBin .lss 3 true t50 (.int .i64 0)) fun t52 =>
         CondK t52
          (Rd Try.prog (WS.at w44) (sBin .add 3 true (f43 9) (.int .i64 1)) fun t53 =>
          K46 (F.upd (F.upd (F.upd (F.upd (F.upd (F.upd (F.upd (F.upd (F.upd (F.upd (F.upd (F.upd (F.upd f43 39 t45) 40 t49) 41 t50) 11 t50) 49 (f43 9)) 50 t51) 48 t51) 52 t50) 53 t52) 51 t52) 54 (f43 9)) 55 t53) 9 t53) w44)
          (Rd Try.prog (WS.at w44) (sIndexAddr 27 (f43 4) t50) fun t54 =>
          Rd Try.prog (WS.at w44) (sLoad 3 t54) fun t55 =>
          Rd Try.prog (WS.at w44) (sBin .lss 3 true t55 (.int .i64 0)) fun t56 =>
          CondK t56
           (K46 (F.upd (F.upd (F.upd (F.upd (F.upd (F.upd (F.upd (F.upd (F.upd (F.upd (F.upd (F.upd (F.upd (F.upd (F.upd (F.upd (F.upd f43 39 t45) 40 t49) 41 t50) 11 t50) 49 (f43 9)) 50 t51) 48 t51) 52 t50) 53 t52) 51 t52) 57 (f43 4)) 58 t50) 59 t54) 60 t55) 61 t56) 56 t56) 9 (.int .i64 (-1))) w44)
           (Rd Try.prog (WS.at w44) (sIndexAddr 27 (f43 4) t50) fun t57 =>
           Rd Try.prog (WS.at w44) (sLoad 3 t57) fun t58 =>
           Rd Try.prog (WS.at w44) (sBin .add 3 false (f43 9) t58) fun t59 =>
           K46 (F.upd (F.upd (F.upd (F.upd (F.upd (F.upd (F.upd (F.upd (F.upd (F.upd (F.upd (F.upd (F.upd (F.upd (F.upd (F.upd (F.upd (F.upd (F.upd (F.upd (F.upd (F.upd (F.upd f43 39 t45) 40 t49) 41 t50) 11 t50) 49 (f43 9)) 50 t51) 48 t51) 52 t50) 53 t52) 51 t52) 57 (f43 4)) 58 t50) 59 t54) 60 t55) 61 t56) 56 t56) 42 (f43 9)) 43 (f43 4)) 44 t50) 45 t57) 46 t58) 47 t59) 9 t59) w44)))) (fun f47 w48 =>
        Rd Try.prog (WS.at w48) (sBin .add 3 true (f47 38) (.int .i64 1)) fun t60 =>
        Q42 .normal (F.upd (F.upd f47 62 t60) 38 t60) w48))
        (Q42 (.exit 6) (F.upd f43 39 t45) w44))
       (blockQ 6 (seqQ (fun f61 w62 =>
      Rd Try.prog (WS.at w62) (sBin .geq 3 true (f61 9) (.int .i64 0)) fun t63 =>
      GuardK t63 true (fun k w' => k (f61 4) w') (fun t64 w65 =>
      GuardK t63 true (fun k w' => Rd Try.prog (WS.at w65) (sFieldAddr 33 (f61 8) 0) fun v => k v w') (fun t66 w67 =>
      GuardK t63 true (fun k w' => Rd Try.prog (WS.at w67) (sLoad 3 t66) fun v => k v w') (fun t68 w69 =>
      GuardK t63 true (fun k w' => Rd Try.prog (WS.at w69) (sIndexAddr 27 t64 t68) fun v => k v w') (fun t70 w71 =>
      GuardK t63 true (fun k w' => Rd Try.prog (WS.at w71) (sLoad 3 t70) fun v => k v w') (fun t72 w73 =>
      GuardK t63 true (fun k w' => Rd Try.prog (WS.at w73) (sBin .lss 3 true t72 (.int .i64 0)) fun v => k v w') (fun t74 w75 =>
      GuardK t63 true (fun k w' => k t74 w') (fun t76 w77 =>
      GuardK t76 false (fun k w' => k (f61 9) w') (fun t78 w79 =>
      GuardK t76 false (fun k w' => k (f61 4) w') (fun t80 w81 =>
      GuardK t76 false (fun k w' => Rd Try.prog (WS.at w81) (sFieldAddr 33 (f61 8) 0) fun v => k v w') (fun t82 w83 =>
      GuardK t76 false (fun k w' => Rd Try.prog (WS.at w83) (sLoad 3 t82) fun v => k v w') (fun t84 w85 =>
      GuardK t76 false (fun k w' => Rd Try.prog (WS.at w85) (sIndexAddr 27 t80 t84) fun v => k v w') (fun t86 w87 =>
      GuardK t76 false (fun k w' => Rd Try.prog (WS.at w87) (sLoad 3 t86) fun v => k v w') (fun t88 w89 =>
      GuardK t76 false (fun k w' => Rd Try.prog (WS.at w89) (sBin .lss 3 false t78 t88) fun v => k v w') (fun t90 w91 =>
      GuardK t63 true (fun k w' => Rd Try.prog (WS.at w91) (sPick t76 (.bool true) t90) fun v => k v w') (fun t92 w93 =>
      Rd Try.prog (WS.at w93) (sPick t63 t92 (.bool false)) fun t94 =>
      CondK t94
       (Rd Try.prog (WS.at w93) (sFieldAddr 33 (f61 8) 0) fun t95 =>
       Rd Try.prog (WS.at w93) (sLoad 3 t95) fun t96 =>
       Rd Try.prog (WS.at w93) (sIndexAddr 27 (f61 4) t96) fun t97 =>
       Do Try.prog (sStore 3 t97 (f61 9)) (fun _ w98 =>
       K31 (F.upd (F.upd (F.upd (F.upd (F.upd (F.upd (F.upd (F.upd (F.upd (F.upd (F.upd (F.upd (F.upd (F.upd (F.upd (F.upd (F.upd (F.upd (F.upd (F.upd (F.upd (F.upd (F.upd (F.upd (F.upd f61 63 (f61 9)) 64 t63) 65 t63) 66 t64) 67 t66) 68 t68) 69 t70) 70 t72) 71 t74) 72 t76) 73 t78) 74 t80) 75 t82) 76 t84) 77 t86) 78 t88) 79 t90) 80 t92) 81 t94) 82 (f61 4)) 83 t95) 84 t96) 85 (f61 9)) 86 t97) 6 (.bool true)) w98) w93)
       (K31 (F.upd (F.upd (F.upd (F.upd (F.upd (F.upd (F.upd (F.upd (F.upd (F.upd (F.upd (F.upd (F.upd (F.upd (F.upd (F.upd (F.upd (F.upd (F.upd f61 63 (f61 9)) 64 t63) 65 t63) 66 t64) 67 t66) 68 t68) 69 t70) 70 t72) 71 t74) 72 t76) 73 t78) 74 t80) 75 t82) 76 t84) 77 t86) 78 t88) 79 t90) 80 t92) 81 t94) w93)) w91) w89) w87) w85) w83) w81) w79) w77) w75) w73) w71) w69) w67) w65) w62) (blockQ 5 (seqQ K31 Q27))))
       (F.upd (F.upd (F.upd (F.upd (F.upd (F.upd (F.upd (F.upd (F.upd f28 32 t30) 33 t34) 34 t35) 8 t36) 9 (.int .i64 0)) 35 t39) 36 t40) 37 t41) 38 (.int .i64 0)) w38) w37) w29) (fun f32 w33 =>
      Rd Try.prog (WS.at w33) (sBin .add 3 true (f32 31) (.int .i64 1)) fun t101 =>
      Q27 .normal (F.upd (F.upd f32 87 t101) 31 t101) w33))
      (Q27 (.exit 4) (F.upd f28 32 t30) w29))
     (blockQ 4 (blockQ 3 Q21))
     (F.upd (F.upd (F.upd (F.upd (F.upd (F.upd f22 27 (f22 6)) 6 (.bool false)) 28 t24) 29 t25) 30 t26) 31 (.int .i64 0)) w23)
    (Q21 (.exit 2) (F.upd f22 27 (f22 6)) w23))
   (blockQ 2 (seqQ (fun f102 w103 =>
  Rd Try.prog (WS.at w103) (sIndexAddr 27 (f102 4) (.int .i64 0)) fun t104 =>
  Rd Try.prog (WS.at w103) (sLoad 3 t104) fun t105 =>
  Rd Try.prog (WS.at w103) (sBin .lss 3 true t105 (.int .i64 0)) fun t106 =>
  CondK t106
   (k (.tuple #[(.int .i64 0), (.bool false)]) w103)
   (Rd Try.prog (WS.at w103) (sIndexAddr 27 (f102 4) (.int .i64 0)) fun t107 =>
   Rd Try.prog (WS.at w103) (sLoad 3 t107) fun t108 =>
   k (.tuple #[t108, (.bool true)]) w103)) (bodyQ Try.prog [.tmp 2, .tmp 3] k)))
   (F.upd f19 6 (.bool true)) w20) (bodyQ Try.prog [.tmp 2, .tmp 3] k)))
   (F.upd (F.upd (F.upd (F.upd (F.upd (F.upd (F.upd (F.upd (F.upd (F.upd (F.upd (F.upd (F.upd (initF [v0]) 1 t1) 2 (.int .i64 0)) 3 (.bool false)) 12 t3) 13 t4) 14 t6) 15 t7) 16 t8) 17 t9) 4 t9) 18 t9) 19 t11) 20 (.int .i64 0)) w10) w5)) w2) w
theorem body59 : Try.f59.body = some (bodyOf Try.f59) := by kernel_rfl
theorem same59 (v0 : Value) (k : Value → World → Prop) (w : World) : wpF Try.prog pl59 (bodyOf Try.f59) (bodyQ Try.prog Try.f59.results.toList k) (initF [v0]) w = S59 v0 k w := by kernel_rfl
theorem enter59 {v0 : Value} {k : Value → World → Prop} {w : World} (h : S59 v0 k w) : CallK Try.prog 59 [v0] k w :=
  call_of_wpF (pl := pl59) mixed Try.func59 body59 (by kernel_rfl) (of_decide_eq_true (by kernel_rfl)) (by kernel_rfl) (by kernel_rfl) (Eq.mpr (same59 v0 k w) h)

/-! loop.example/g00758/spec.DrawGoodGrammar -/
def pl173 : Plans := fun _ => ⟨false, [], .nil⟩
def S173 (v0 : Value) (k : Value → World → Prop) (w : World) : Prop :=
 Do Try.prog (sAlloc 26) (fun t1 w2 =>
 Rd Try.prog (WS.at w2) (sBuild 114 [(0, v0)]) fun t3 =>
 Do Try.prog (sBox 114 t3) (fun t4 w5 =>
 CallK Try.prog 145 [t4] (fun t6 w7 =>
 Do Try.prog (sStore 26 t1 t6) (fun _ w8 =>
 Rd Try.prog (WS.at w8) (sLoadVar 26 t1) fun t9 => k t9 w8) w7) w5) w2) w
theorem body173 : Try.f173.body = some (bodyOf Try.f173) := by kernel_rfl
theorem same173 (v0 : Value) (k : Value → World → Prop) (w : World) : wpF Try.prog pl173 (bodyOf Try.f173) (bodyQ Try.prog Try.f173.results.toList k) (initF [v0]) w = S173 v0 k w := by kernel_rfl
theorem enter173 {v0 : Value} {k : Value → World → Prop} {w : World} (h : S173 v0 k w) : CallK Try.prog 173 [v0] k w :=
  call_of_wpF (pl := pl173) mixed Try.func173 body173 (by kernel_rfl) (of_decide_eq_true (by kernel_rfl)) (by kernel_rfl) (by kernel_rfl) (Eq.mpr (same173 v0 k w) h)

/-! loop.example/g00758/spec.DrawIsFinite -/
def pl55 : Plans := fun _ => ⟨false, [], .nil⟩
def S55 (v0 : Value) (k : Value → World → Prop) (w : World) : Prop :=
 Do Try.prog (sAlloc 26) (fun t1 w2 =>
 CallK Try.prog 173 [v0] (fun t3 w4 =>
 Do Try.prog (sStore 26 t1 t3) (fun _ w5 =>
 Rd Try.prog (WS.at w5) (sLoadVar 26 t1) fun t6 => k t6 w5) w4) w2) w
theorem body55 : Try.f55.body = some (bodyOf Try.f55) := by kernel_rfl
theorem same55 (v0 : Value) (k : Value → World → Prop) (w : World) : wpF Try.prog pl55 (bodyOf Try.f55) (bodyQ Try.prog Try.f55.results.toList k) (initF [v0]) w = S55 v0 k w := by kernel_rfl
theorem enter55 {v0 : Value} {k : Value → World → Prop} {w : World} (h : S55 v0 k w) : CallK Try.prog 55 [v0] k w :=
  call_of_wpF (pl := pl55) mixed Try.func55 body55 (by kernel_rfl) (of_decide_eq_true (by kernel_rfl)) (by kernel_rfl) (by kernel_rfl) (Eq.mpr (same55 v0 k w) h)

/-! loop.example/g00758/spec.DrawLeastLong -/
def pl62 : Plans := fun _ => ⟨false, [], .nil⟩
def S62 (v0 : Value) (k : Value → World → Prop) (w : World) : Prop :=
 Do Try.prog (sAlloc 26) (fun t1 w2 =>
 CallK Try.prog 173 [v0] (fun t3 w4 =>
 Do Try.prog (sStore 26 t1 t3) (fun _ w5 =>
 Rd Try.prog (WS.at w5) (sLoadVar 26 t1) fun t6 => k t6 w5) w4) w2) w
theorem body62 : Try.f62.body = some (bodyOf Try.f62) := by kernel_rfl
theorem same62 (v0 : Value) (k : Value → World → Prop) (w : World) : wpF Try.prog pl62 (bodyOf Try.f62) (bodyQ Try.prog Try.f62.results.toList k) (initF [v0]) w = S62 v0 k w := by kernel_rfl
theorem enter62 {v0 : Value} {k : Value → World → Prop} {w : World} (h : S62 v0 k w) : CallK Try.prog 62 [v0] k w :=
  call_of_wpF (pl := pl62) mixed Try.func62 body62 (by kernel_rfl) (of_decide_eq_true (by kernel_rfl)) (by kernel_rfl) (by kernel_rfl) (Eq.mpr (same62 v0 k w) h)

/-! loop.example/g00758/spec.DrawLongEnough -/
/-! loop.example/g00758/spec.DrawStarOf -/
/-! loop.example/g00758/spec.DrawSizeOf -/
end Go.Proofs.Ytegcjkhebecgbaa

/- Contracts: l1Has, l1Put; rising lists as sets. -/
set_option linter.unusedVariables false
set_option linter.unusedSimpArgs false
set_option maxRecDepth 100000
namespace Go.Sh
open Go
/-- A number comes to its place, once. -/
def putL (n : Int) : List Int → List Int
  | [] => [n]
  | x :: xs => if x < n then x :: putL n xs else if x = n then x :: xs else n :: x :: xs
abbrev RiseI (xs : List Int) : Prop := xs.Pairwise fun a b => a < b
theorem rise_cons {x : Int} {xs : List Int} : RiseI (x :: xs) ↔ (∀ b ∈ xs, x < b) ∧ RiseI xs := List.pairwise_cons
theorem putL_mem {n m : Int} : ∀ {xs : List Int}, m ∈ putL n xs ↔ m = n ∨ m ∈ xs := by
  intro xs
  induction xs with
  | nil => simp [putL]
  | cons x xs ih =>
    unfold putL
    split
    · rw [List.mem_cons, ih, List.mem_cons]
      constructor
      · rintro (h | h | h)
        · exact .inr (.inl h)
        · exact .inl h
        · exact .inr (.inr h)
      · rintro (h | h | h)
        · exact .inr (.inl h)
        · exact .inl h
        · exact .inr (.inr h)
    · split
      · rename_i h
        subst h
        rw [List.mem_cons]
        constructor
        · exact fun h => .inr h
        · rintro (h | h)
          · exact .inl h
          · exact h
      · rw [List.mem_cons]
theorem putL_rise {n : Int} : ∀ {xs : List Int}, RiseI xs → RiseI (putL n xs) := by
  intro xs
  induction xs with
  | nil => intro _; simp [putL]
  | cons x xs ih =>
    intro h
    rw [rise_cons] at h
    unfold putL
    split
    · rename_i hx
      rw [rise_cons]
      refine ⟨fun b hb => ?_, ih h.2⟩
      rcases putL_mem.1 hb with rfl | hb
      · exact hx
      · exact h.1 b hb
    · split
      · rw [rise_cons]
        exact h
      · rw [rise_cons, rise_cons]
        refine ⟨fun b hb => ?_, h⟩
        rcases List.mem_cons.1 hb with rfl | hb
        · omega
        · have := h.1 b hb
          omega
theorem putL_more {n : Int} : ∀ {xs : List Int}, RiseI xs → n ∉ xs → (putL n xs).length = xs.length + 1 := by
  intro xs
  induction xs with
  | nil => intro _ _; simp [putL]
  | cons x xs ih =>
    intro h hn
    rw [rise_cons] at h
    rw [List.mem_cons] at hn
    unfold putL
    split
    · rw [List.length_cons, ih h.2 (fun e => hn (.inr e)), List.length_cons]
    · split
      · rename_i e
        exact absurd (.inl e.symm) hn
      · simp
theorem putL_split {n : Int} : ∀ {xs : List Int} {k : Nat}, k ≤ xs.length → (∀ j, j < k → xs.getD j 0 < n) → (k < xs.length → ¬ xs.getD k 0 < n) → putL n xs = if k < xs.length ∧ xs.getD k 0 = n then xs else xs.take k ++ n :: xs.drop k := by
  intro xs
  induction xs with
  | nil =>
    intro k hk _ _
    obtain rfl : k = 0 := by simpa using hk
    simp [putL]
  | cons x xs ih =>
    intro k hk h1 h2
    cases k with
    | zero =>
      have h3 := h2 (by simp)
      simp only [List.getD_cons_zero] at h3 ⊢
      unfold putL
      rw [if_neg h3]
      by_cases e : x = n
      · rw [if_pos e, if_pos ⟨by simp, e⟩]
      · rw [if_neg e, if_neg (fun h => e h.2)]
        rfl
    | succ k =>
      have h3 := h1 0 (by omega)
      simp only [List.getD_cons_zero] at h3
      unfold putL
      rw [if_pos h3, ih (k := k) (by simpa using hk) (fun j hj => by have := h1 (j + 1) (by omega); simpa using this) (fun hl => by have := h2 (by simpa using hl); simpa using this)]
      simp only [List.length_cons, List.getD_cons_succ, Nat.add_lt_add_iff_right]
      split <;> rfl
/-- Rising lists with the same members are the same. -/
theorem rise_ext : ∀ {xs ys : List Int}, RiseI xs → RiseI ys → (∀ m, m ∈ xs ↔ m ∈ ys) → xs = ys := by
  intro xs
  induction xs with
  | nil =>
    intro ys _ _ h
    cases ys with
    | nil => rfl
    | cons y ys => exact absurd ((h y).2 (List.mem_cons_self ..)) (by simp)
  | cons x xs ih =>
    intro ys hx hy h
    rw [rise_cons] at hx
    cases ys with
    | nil => exact absurd ((h x).1 (List.mem_cons_self ..)) (by simp)
    | cons y ys =>
      rw [rise_cons] at hy
      have e : x = y := by
        have h1 := (h x).1 (List.mem_cons_self ..)
        have h2 := (h y).2 (List.mem_cons_self ..)
        rcases List.mem_cons.1 h1 with e | h1
        · exact e
        · rcases List.mem_cons.1 h2 with e | h2
          · exact e.symm
          · have := hy.1 x h1
            have := hx.1 y h2
            omega
      subst e
      congr 1
      refine ih hx.2 hy.2 fun m => ?_
      have hm := h m
      rw [List.mem_cons, List.mem_cons] at hm
      constructor
      · intro h1
        rcases hm.1 (.inr h1) with rfl | h2
        · exact absurd (hx.1 m h1) (by omega)
        · exact h2
      · intro h1
        rcases hm.2 (.inr h1) with rfl | h2
        · exact absurd (hy.1 m h1) (by omega)
        · exact h2
open Classical in
/-- The numbers below n for which something holds. -/
noncomputable def setL (n : Nat) (P : Nat → Prop) : List Int := ((List.range n).filter fun a => decide (P a)).map fun (a : Nat) => (a : Int)
open Classical in
theorem setL_mem {n : Nat} {P : Nat → Prop} {m : Int} : m ∈ setL n P ↔ ∃ a : Nat, m = a ∧ a < n ∧ P a := by
  unfold setL
  rw [List.mem_map]
  constructor
  · rintro ⟨a, ha, rfl⟩
    rw [List.mem_filter, List.mem_range, decide_eq_true_eq] at ha
    exact ⟨a, rfl, ha⟩
  · rintro ⟨a, rfl, ha⟩
    exact ⟨a, by rw [List.mem_filter, List.mem_range, decide_eq_true_eq]; exact ha, rfl⟩
theorem setL_rise (n : Nat) (P : Nat → Prop) : RiseI (setL n P) := by
  unfold RiseI setL
  rw [List.pairwise_map]
  refine (List.Pairwise.sublist List.filter_sublist ?_)
  have := List.pairwise_lt_range (n := n)
  exact this.imp fun h => by omega
theorem setL_len (n : Nat) (P : Nat → Prop) : (setL n P).length ≤ n := by
  unfold setL
  rw [List.length_map]
  have := List.length_filter_le (fun a => @decide (P a) (Classical.propDecidable _)) (List.range n)
  simpa using this
theorem rise_len : ∀ {xs : List Int} {a n : Int}, RiseI xs → (∀ x ∈ xs, a ≤ x ∧ x < n) → a ≤ n → (xs.length : Int) ≤ n - a := by
  intro xs
  induction xs with
  | nil => intro a n _ _ h; simp; omega
  | cons x xs ih =>
    intro a n h hb ha
    rw [rise_cons] at h
    have h1 := hb x (List.mem_cons_self ..)
    have := ih (a := x + 1) (n := n) h.2 (fun y hy => by have := h.1 y hy; have := hb y (List.mem_cons_of_mem _ hy); omega) (by omega)
    rw [List.length_cons]
    omega
end Go.Sh
namespace Go.Proofs.Ytegcjkhebecgbaa
open Go Go.Sh Go.RowKit
theorem l1Has_c {w : World} {X : Option Addr} {c : Nat} {xs : List Int} {n : Int} (hx : Ints w X xs) {k : Value → World → Prop} (hk : ∀ w', Gr w w' → k (.bool (decide (n ∈ xs))) w') :
    CallK Try.prog 244 [.slice X xs.length c, .int .i64 n] k w := by
  refine enter244 ?_
  unfold S244
  simp only [zq18, zq19, zq20, zq21, zq22, zq23, zq24, zq25, zq26, zq27, zq28, zq4, zq3, zq1, zq2, zq0, zq29, zq30, zq14, zq15, zq16, zq17, zq13, zq10, zq12, zq11, zq7, zq5, zq6, zq9, zq8, zq31, zq32, ite_T, ite_F, zq33, zq34, zq35, Nat.reduceEqDiff, len22, len24, fa26_0, fa26_1, fa26_2, len27, fa33_0, fa33_1, len35, fa114_0, fa114_1, fa114_2, fa124_0, fa124_1, len134]
  refine loop_to xs.length 0 (fun i f w' => i ≤ xs.length ∧ f 9 = .int .i64 i ∧ Gr w w' ∧ n ∉ xs.take i) ⟨Nat.zero_le _, rfl, Gr.refl w, by simp⟩ ?_
  rintro i f w1 N hag ⟨hi, h9, hg, hpre⟩ hN
  have h1 : f 1 = .int .i64 n := hag 1 (by decide)
  have h7 : f 7 = .slice X xs.length c := hag 7 (by decide)
  have h8 : f 8 = .int .i64 xs.length := hag 8 (by decide)
  simp only [h1, h7, h8, h9, zq18, zq19, zq20, zq21, zq22, zq23, zq24, zq25, zq26, zq27, zq28, zq4, zq3, zq1, zq2, zq0, zq29, zq30, zq14, zq15, zq16, zq17, zq13, zq10, zq12, zq11, zq7, zq5, zq6, zq9, zq8, zq31, zq32, ite_T, ite_F, zq33, zq34, zq35, Nat.reduceEqDiff, len22, len24, fa26_0, fa26_1, fa26_2, len27, fa33_0, fa33_1, len35, fa114_0, fa114_1, fa114_2, fa124_0, fa124_1, len134]
  by_cases hlt : i < xs.length
  · have hlt' : (i : Int) < xs.length := by omega
    have := hx.le
    simp only [hlt', decide_true, zq18, zq19, zq20, zq21, zq22, zq23, zq24, zq25, zq26, zq27, zq28, zq4, zq3, zq1, zq2, zq0, zq29, zq30, zq14, zq15, zq16, zq17, zq13, zq10, zq12, zq11, zq7, zq5, zq6, zq9, zq8, zq31, zq32, ite_T, ite_F, zq33, zq34, zq35, Nat.reduceEqDiff, len22, len24, fa26_0, fa26_1, fa26_2, len27, fa33_0, fa33_1, len35, fa114_0, fa114_1, fa114_2, fa124_0, fa124_1, len134]
    rw [ixn27 hx.ptr hlt, ld3 ((hx.gr hg).cell i hlt)]
    simp only [zq18, zq19, zq20, zq21, zq22, zq23, zq24, zq25, zq26, zq27, zq28, zq4, zq3, zq1, zq2, zq0, zq29, zq30, zq14, zq15, zq16, zq17, zq13, zq10, zq12, zq11, zq7, zq5, zq6, zq9, zq8, zq31, zq32, ite_T, ite_F, zq33, zq34, zq35, Nat.reduceEqDiff, len22, len24, fa26_0, fa26_1, fa26_2, len27, fa33_0, fa33_1, len35, fa114_0, fa114_1, fa114_2, fa124_0, fa124_1, len134]
    by_cases he : xs.getD i 0 = n
    · simp only [he, decide_true, zq18, zq19, zq20, zq21, zq22, zq23, zq24, zq25, zq26, zq27, zq28, zq4, zq3, zq1, zq2, zq0, zq29, zq30, zq14, zq15, zq16, zq17, zq13, zq10, zq12, zq11, zq7, zq5, zq6, zq9, zq8, zq31, zq32, ite_T, ite_F, zq33, zq34, zq35, Nat.reduceEqDiff, len22, len24, fa26_0, fa26_1, fa26_2, len27, fa33_0, fa33_1, len35, fa114_0, fa114_1, fa114_2, fa124_0, fa124_1, len134]
      have := hk _ hg
      rwa [decide_eq_true (by rw [← he]; exact getD_mem hlt)] at this
    · simp only [he, decide_false, zq18, zq19, zq20, zq21, zq22, zq23, zq24, zq25, zq26, zq27, zq28, zq4, zq3, zq1, zq2, zq0, zq29, zq30, zq14, zq15, zq16, zq17, zq13, zq10, zq12, zq11, zq7, zq5, zq6, zq9, zq8, zq31, zq32, ite_T, ite_F, zq33, zq34, zq35, Nat.reduceEqDiff, len22, len24, fa26_0, fa26_1, fa26_2, len27, fa33_0, fa33_1, len35, fa114_0, fa114_1, fa114_2, fa124_0, fa124_1, len134]
      rw [i64_of (by omega) (by omega)]
      refine hN _ _ hlt ⟨by omega, rfl, hg, ?_⟩
      rw [take_snoc hlt, List.mem_append, List.mem_singleton]
      exact fun h => h.elim hpre fun e => he e.symm
  · simp only [show ¬ (i : Int) < xs.length from by omega, decide_false, zq18, zq19, zq20, zq21, zq22, zq23, zq24, zq25, zq26, zq27, zq28, zq4, zq3, zq1, zq2, zq0, zq29, zq30, zq14, zq15, zq16, zq17, zq13, zq10, zq12, zq11, zq7, zq5, zq6, zq9, zq8, zq31, zq32, ite_T, ite_F, zq33, zq34, zq35, Nat.reduceEqDiff, len22, len24, fa26_0, fa26_1, fa26_2, len27, fa33_0, fa33_1, len35, fa114_0, fa114_1, fa114_2, fa124_0, fa124_1, len134]
    have := hk _ hg
    rw [List.take_of_length_le (by omega)] at hpre
    rwa [decide_eq_false hpre] at this
set_option maxHeartbeats 1600000 in
theorem l1Put_c {w : World} {X : Option Addr} {c : Nat} {xs : List Int} {n : Int} (hx : kI X xs c w) (hl : xs.length ≤ 100000) {k : Value → World → Prop} (hk : ∀ w' X' c', Gr w w' → kI X' (putL n xs) c' w' → k (.slice X' (putL n xs).length c') w') :
    CallK Try.prog 274 [.slice X xs.length c, .int .i64 n] k w := by
  refine enter274 ?_
  unfold S274
  obtain ⟨hi0, hc⟩ := hx
  refine loop_to xs.length 0 (fun i f w' => i ≤ xs.length ∧ f 5 = .int .i64 i ∧ w' = w ∧ ∀ j, j < i → xs.getD j 0 < n) ⟨Nat.zero_le _, rfl, rfl, fun j hj => by omega⟩ ?_
  rintro i f w1 N hag ⟨hi, h5, rfl, hpre⟩ hN
  have h0 : f 0 = .slice X xs.length c := hag 0 (by decide)
  have h1 : f 1 = .int .i64 n := hag 1 (by decide)
  simp only [h0, h1, h5, zq18, zq19, zq20, zq21, zq22, zq23, zq24, zq25, zq26, zq27, zq28, zq4, zq3, zq1, zq2, zq0, zq29, zq30, zq14, zq15, zq16, zq17, zq13, zq10, zq12, zq11, zq7, zq5, zq6, zq9, zq8, zq31, zq32, ite_T, ite_F, zq33, zq34, zq35, Nat.reduceEqDiff, len22, len24, fa26_0, fa26_1, fa26_2, len27, fa33_0, fa33_1, len35, fa114_0, fa114_1, fa114_2, fa124_0, fa124_1, len134]
  have fin : (i < xs.length → ¬ xs.getD i 0 < n) → ∀ (K : Value → World → Prop), (∀ w' X' c', Gr w1 w' → kI X' (putL n xs) c' w' → K (.slice X' (putL n xs).length c') w') → ¬ (i < xs.length ∧ xs.getD i 0 = n) →
      Do Try.prog (sBuildSlice 27 0 []) (fun t37 w38 =>
        Rd Try.prog (WS.at w38) (sSlice 27 (.slice X xs.length c) none (some (.int .i64 i)) none) fun t39 =>
        Do Try.prog (sBuiltin .append #[27, 27] 27 [false, false] [t37, t39]) (fun t40 w41 =>
        Do Try.prog (sBuildSlice 27 1 [(0, .int .i64 n)]) (fun t42 w43 =>
        Do Try.prog (sBuiltin .append #[27, 27] 27 [false, false] [t40, t42]) (fun t44 w45 =>
        Rd Try.prog (WS.at w45) (sSlice 27 (.slice X xs.length c) (some (.int .i64 i)) none none) fun t46 =>
        Do Try.prog (sBuiltin .append #[27, 27] 27 [false, false] [t44, t46]) (fun t47 w48 => K t47 w48) w45) w43) w41) w38) w1 := fun hnot K hK hne => by
    have H := Apt.nil w1
    refine buildH H u27 inf3 [] (by decide) (by decide) (by simp [Instr.fill, madeCells]) rfl fun b0 w2 H => ?_
    simp only [List.nil_append] at H
    refine rdi (slh27 (by omega) (by omega)) ?_
    have hs1 : Ints w2 (sub X 0 c 1) (xs.take i) := by
      have := (hi0.gr H.gr).sub (l := 0) (c := c) (Nat.zero_le _) hc i
      simpa using this
    have hlt : (xs.take i).length = i := by simp; omega
    refine apH H 0 (xs := []) rfl hs1 rfl (by rw [hlt]; simp) (by simp; omega) fun X1 d1 w3 H => ?_
    simp only [List.set_cons_zero, List.nil_append] at H ⊢
    refine pushH H 0 rfl rfl (by omega) fun t1 X2 d2 w4 H => ?_
    simp only [List.set_cons_zero] at H
    refine rdi (sll27 (by omega) (by omega)) ?_
    have hs2 : Ints w4 (sub X i c 1) (xs.drop i) := by
      have := (hi0.gr H.gr).sub (l := i) (c := c) hi hc xs.length
      rwa [List.take_of_length_le (by simp)] at this
    rw [Int.toNat_natCast]
    refine apH H 0 rfl hs2 rfl (by simp) (by simp; omega) fun X3 d3 w5 H => ?_
    simp only [List.set_cons_zero] at H
    have e : xs.take i ++ [n] ++ xs.drop i = putL n xs := by
      rw [putL_split hi hpre hnot, if_neg hne, List.append_assoc]
      rfl
    rw [e] at H ⊢
    exact hK w5 X3 d3 H.gr ⟨H.ints 0 rfl, (H.row 0 rfl).cap.1⟩
  by_cases hlt : i < xs.length
  · have hlt' : (i : Int) < xs.length := by omega
    have := hi0.le
    simp only [hlt', decide_true, zq18, zq19, zq20, zq21, zq22, zq23, zq24, zq25, zq26, zq27, zq28, zq4, zq3, zq1, zq2, zq0, zq29, zq30, zq14, zq15, zq16, zq17, zq13, zq10, zq12, zq11, zq7, zq5, zq6, zq9, zq8, zq31, zq32, ite_T, ite_F, zq33, zq34, zq35, Nat.reduceEqDiff, len22, len24, fa26_0, fa26_1, fa26_2, len27, fa33_0, fa33_1, len35, fa114_0, fa114_1, fa114_2, fa124_0, fa124_1, len134]
    rw [ixn27 hi0.ptr hlt, ld3 (hi0.cell i hlt)]
    simp only [zq18, zq19, zq20, zq21, zq22, zq23, zq24, zq25, zq26, zq27, zq28, zq4, zq3, zq1, zq2, zq0, zq29, zq30, zq14, zq15, zq16, zq17, zq13, zq10, zq12, zq11, zq7, zq5, zq6, zq9, zq8, zq31, zq32, ite_T, ite_F, zq33, zq34, zq35, Nat.reduceEqDiff, len22, len24, fa26_0, fa26_1, fa26_2, len27, fa33_0, fa33_1, len35, fa114_0, fa114_1, fa114_2, fa124_0, fa124_1, len134]
    by_cases hlt2 : xs.getD i 0 < n
    · simp only [hlt2, decide_true, zq18, zq19, zq20, zq21, zq22, zq23, zq24, zq25, zq26, zq27, zq28, zq4, zq3, zq1, zq2, zq0, zq29, zq30, zq14, zq15, zq16, zq17, zq13, zq10, zq12, zq11, zq7, zq5, zq6, zq9, zq8, zq31, zq32, ite_T, ite_F, zq33, zq34, zq35, Nat.reduceEqDiff, len22, len24, fa26_0, fa26_1, fa26_2, len27, fa33_0, fa33_1, len35, fa114_0, fa114_1, fa114_2, fa124_0, fa124_1, len134]
      rw [i64_of (by omega) (by omega)]
      refine hN _ _ hlt ⟨by omega, rfl, rfl, fun j hj => ?_⟩
      rcases Nat.lt_succ_iff_lt_or_eq.1 hj with h | rfl
      · exact hpre j h
      · exact hlt2
    · simp only [hlt2, decide_false, h0, h1, h5, zq18, zq19, zq20, zq21, zq22, zq23, zq24, zq25, zq26, zq27, zq28, zq4, zq3, zq1, zq2, zq0, zq29, zq30, zq14, zq15, zq16, zq17, zq13, zq10, zq12, zq11, zq7, zq5, zq6, zq9, zq8, zq31, zq32, ite_T, ite_F, zq33, zq34, zq35, Nat.reduceEqDiff, len22, len24, fa26_0, fa26_1, fa26_2, len27, fa33_0, fa33_1, len35, fa114_0, fa114_1, fa114_2, fa124_0, fa124_1, len134]
      rw [ixn27 hi0.ptr hlt, ld3 (hi0.cell i hlt)]
      simp only [zq18, zq19, zq20, zq21, zq22, zq23, zq24, zq25, zq26, zq27, zq28, zq4, zq3, zq1, zq2, zq0, zq29, zq30, zq14, zq15, zq16, zq17, zq13, zq10, zq12, zq11, zq7, zq5, zq6, zq9, zq8, zq31, zq32, ite_T, ite_F, zq33, zq34, zq35, Nat.reduceEqDiff, len22, len24, fa26_0, fa26_1, fa26_2, len27, fa33_0, fa33_1, len35, fa114_0, fa114_1, fa114_2, fa124_0, fa124_1, len134]
      by_cases he : xs.getD i 0 = n
      · simp only [he, decide_true, zq18, zq19, zq20, zq21, zq22, zq23, zq24, zq25, zq26, zq27, zq28, zq4, zq3, zq1, zq2, zq0, zq29, zq30, zq14, zq15, zq16, zq17, zq13, zq10, zq12, zq11, zq7, zq5, zq6, zq9, zq8, zq31, zq32, ite_T, ite_F, zq33, zq34, zq35, Nat.reduceEqDiff, len22, len24, fa26_0, fa26_1, fa26_2, len27, fa33_0, fa33_1, len35, fa114_0, fa114_1, fa114_2, fa124_0, fa124_1, len134]
        have e : putL n xs = xs := by rw [putL_split hi hpre (fun _ => hlt2), if_pos ⟨hlt, he⟩]
        have := hk w1 X c (Gr.refl _)
        rw [e] at this
        exact this ⟨hi0, hc⟩
      · simp only [he, decide_false, zq18, zq19, zq20, zq21, zq22, zq23, zq24, zq25, zq26, zq27, zq28, zq4, zq3, zq1, zq2, zq0, zq29, zq30, zq14, zq15, zq16, zq17, zq13, zq10, zq12, zq11, zq7, zq5, zq6, zq9, zq8, zq31, zq32, ite_T, ite_F, zq33, zq34, zq35, Nat.reduceEqDiff, len22, len24, fa26_0, fa26_1, fa26_2, len27, fa33_0, fa33_1, len35, fa114_0, fa114_1, fa114_2, fa124_0, fa124_1, len134]
        exact fin (fun _ => hlt2) k hk (fun h => he h.2)
  · simp only [show ¬ (i : Int) < xs.length from by omega, decide_false, h0, h1, h5, zq18, zq19, zq20, zq21, zq22, zq23, zq24, zq25, zq26, zq27, zq28, zq4, zq3, zq1, zq2, zq0, zq29, zq30, zq14, zq15, zq16, zq17, zq13, zq10, zq12, zq11, zq7, zq5, zq6, zq9, zq8, zq31, zq32, ite_T, ite_F, zq33, zq34, zq35, Nat.reduceEqDiff, len22, len24, fa26_0, fa26_1, fa26_2, len27, fa33_0, fa33_1, len35, fa114_0, fa114_1, fa114_2, fa124_0, fa124_1, len134]
    exact fin (fun h => absurd h hlt) k hk (fun h => hlt h.1)
end Go.Proofs.Ytegcjkhebecgbaa

/- Contracts: words of so many tokens, and all short words of a language, by the program. -/
set_option linter.unusedVariables false
set_option linter.unusedSimpArgs false
set_option maxRecDepth 100000
namespace Go.Sh
open Go
/-- Slices of numbers of which those from place n on are the call's own still. -/
structure OwnSF (e1 e2 : Nat) (w : World) (B : Nat) (X : Option Addr) (c : Nat) (ls : List (List Int)) (ps : Nat → Option Addr × Nat) (n : Nat) : Prop where
  row : ∃ cells, Row w B e1 1 X ls.length c cells ∧ ∀ j, j < ls.length → cells[j]? = some (.slice (ps j).1 (rgt ls j).length (ps j).2)
  own : ∀ j, n ≤ j → j < ls.length → Own e2 w B (ps j).1 (ps j).2 (rgt ls j)
  two : ∀ i j, n ≤ i → n ≤ j → i < ls.length → j < ls.length → i ≠ j → blk (ps i).1 = none ∨ blk (ps i).1 ≠ blk (ps j).1
def FootF (X : Option Addr) (ps : Nat → Option Addr × Nat) (n m : Nat) (q : Nat) : Prop := blk X = some q ∨ ∃ l, n ≤ l ∧ l < m ∧ blk (ps l).1 = some q
section
variable {e1 e2 c n B : Nat} {w w' w0 : World} {X : Option Addr} {ls : List (List Int)} {ps : Nat → Option Addr × Nat} {L : List Thing}
theorem OwnSF.same (h : OwnSF e1 e2 w B X c ls ps n) (hs : ∀ q, FootF X ps n ls.length q → w'.heap[q]? = w.heap[q]?) : OwnSF e1 e2 w' B X c ls ps n := by
  obtain ⟨⟨cells, hr, hc⟩, ho, ht⟩ := h
  exact ⟨⟨cells, hr.same fun q hq => hs q (.inl hq), hc⟩, fun j hn hj => Row.same (ho j hn hj) fun q hq => hs q (.inr ⟨j, hn, hj, hq⟩), ht⟩
theorem OwnSF.up {B' : Nat} (h : OwnSF e1 e2 w B X c ls ps n) (hs : ∀ q, FootF X ps n ls.length q → B' ≤ q) : OwnSF e1 e2 w B' X c ls ps n := by
  obtain ⟨⟨cells, hr, hc⟩, ho, ht⟩ := h
  exact ⟨⟨cells, hr.up fun q hq => hs q (.inl hq), hc⟩, fun j hn hj => Row.up (ho j hn hj) fun q hq => hs q (.inr ⟨j, hn, hj, hq⟩), ht⟩
theorem OwnSF.mono {B' : Nat} (h : OwnSF e1 e2 w B X c ls ps n) (hb : B' ≤ B) : OwnSF e1 e2 w B' X c ls ps n := by
  obtain ⟨⟨cells, hr, hc⟩, ho, ht⟩ := h
  exact ⟨⟨cells, Row.mono hr hb, hc⟩, fun j hn hj => Row.mono (ho j hn hj) hb, ht⟩
theorem OwnSF.foot (h : OwnSF e1 e2 w B X c ls ps n) {q : Nat} (hq : FootF X ps n ls.length q) : B ≤ q ∧ q < w.heap.size := by
  obtain ⟨⟨cells, hr, hc⟩, ho, ht⟩ := h
  rcases hq with hq | ⟨l, hn, hl, hq⟩
  · exact hr.ge hq
  · exact Row.ge (ho l hn hl) hq
theorem OwnSF.ptr (h : OwnSF e1 e2 w B X c ls ps n) (hl : 0 < ls.length) : X = some (ad X) := by
  obtain ⟨⟨cells, hr, hc⟩, _⟩ := h
  exact hr.ptr hl
theorem OwnSF.cell (h : OwnSF e1 e2 w B X c ls ps n) {j : Nat} (hj : j < ls.length) : w.cell? ((ad X).add j) = some (.slice (ps j).1 (rgt ls j).length (ps j).2) := by
  obtain ⟨⟨cells, hr, hc⟩, _⟩ := h
  exact hr.src.cell _ _ (hc j hj)
def lsfi (e1 e2 : Nat) (X : Option Addr) (c : Nat) (ls : List (List Int)) (ps : Nat → Option Addr × Nat) (n : Nat) : Thing := ⟨fun w => OwnSF e1 e2 w 0 X c ls ps n, FootF X ps n ls.length⟩
theorem Apt.lsfi (H : Apt w0 w L) (i : Nat) (hi : L[i]? = some (lsfi e1 e2 X c ls ps n)) : OwnSF e1 e2 w w0.heap.size X c ls ps n := OwnSF.up (H.get i hi) (H.ok i _ hi).lo
theorem Apt.lsf0 (H : Apt w0 w L) (i : Nat) (hi : L[i]? = some (Sh.lssi e1 e2 X c ls ps)) : Apt w0 w (L.set i (Sh.lsfi e1 e2 X c ls ps 0)) := by
  have o := H.lssi i hi
  refine H.set hi (Gx.refl _ w) (fun q hq => .inl ?_) (fun q hq => (o.foot ?_).2) fun w' hs => ?_
  · rcases hq with hq | ⟨l, _, hl, hq⟩
    · exact .inl hq
    · exact .inr ⟨l, hl, hq⟩
  · rcases hq with hq | ⟨l, _, hl, hq⟩
    · exact .inl hq
    · exact .inr ⟨l, hl, hq⟩
  · have o' : OwnSF e1 e2 w w0.heap.size X c ls ps 0 := ⟨o.row, fun j _ hj => o.own j hj, fun i j _ _ hi hj => o.two i j hi hj⟩
    exact (o'.mono (Nat.zero_le _)).same hs
/-- The slice at place n is taken out. -/
theorem Apt.pull (H : Apt w0 w L) (j : Nat) (he : e1 ≠ e2) (hj : L[j]? = some (Sh.lsfi e1 e2 X c ls ps n)) (hn : n < ls.length) : Apt w0 w (L.set j (Sh.lsfi e1 e2 X c ls ps (n + 1)) ++ [rwi e2 1 (ps n).1 (rgt ls n).length (ps n).2 (Sh.ints (rgt ls n))]) := by
  have o := H.lsfi j hj
  have okj := H.ok j _ hj
  have hsub : ∀ q, FootF X ps (n + 1) ls.length q → FootF X ps n ls.length q := fun q hq => by
    rcases hq with hq | ⟨l, h1, hl, hq⟩
    · exact .inl hq
    · exact .inr ⟨l, by omega, hl, hq⟩
  have hin : ∀ q, blk (ps n).1 = some q → FootF X ps n ls.length q := fun q hq => .inr ⟨n, Nat.le_refl _, hn, hq⟩
  have hoff : ∀ q, FootF X ps (n + 1) ls.length q → blk (ps n).1 ≠ some q := fun q hq e => by
    rcases hq with hq | ⟨l, h1, hl, hq⟩
    · obtain ⟨cells, hr, _⟩ := o.row
      rcases row_ne (o.own n (Nat.le_refl _) hn) hr (fun e => he e.symm) with h | h
      · rw [h] at e; cases e
      · exact h (e.trans hq.symm)
    · rcases o.two n l (Nat.le_refl _) (by omega) hn hl (by omega) with h | h
      · rw [h] at e; cases e
      · exact h (e.trans hq.symm)
  have sub : ∀ l x, (L.set j (Sh.lsfi e1 e2 X c ls ps (n + 1)) ++ [rwi e2 1 (ps n).1 (rgt ls n).length (ps n).2 (Sh.ints (rgt ls n))])[l]? = some x → (l = j ∧ x = Sh.lsfi e1 e2 X c ls ps (n + 1)) ∨ (l ≠ j ∧ L[l]? = some x) ∨ (l = L.length ∧ x = rwi e2 1 (ps n).1 (rgt ls n).length (ps n).2 (Sh.ints (rgt ls n))) := fun l x hx => by
    rcases get_snoc hx with h | ⟨h1, h2⟩
    · rcases get_set h with h | h
      · exact .inl h
      · exact .inr (.inl h)
    · rw [List.length_set] at h1
      exact .inr (.inr ⟨h1, h2⟩)
  have ho := o.own n (Nat.le_refl _) hn
  refine ⟨H.gr, fun l x hx => ?_, fun l m x y hlm hx hy q hq hq' => ?_⟩
  · rcases sub l x hx with ⟨_, rfl⟩ | ⟨_, h⟩ | ⟨_, rfl⟩
    · have o' : OwnSF e1 e2 w w0.heap.size X c ls ps (n + 1) := ⟨o.row, fun i hi => o.own i (by omega), fun a b ha hb => o.two a b (by omega) (by omega)⟩
      exact ⟨fun q hq => okj.lo q (hsub q hq), fun q hq => okj.hi q (hsub q hq), fun w' hs => (o'.mono (Nat.zero_le _)).same hs⟩
    · exact H.ok l x h
    · exact ⟨fun q hq => okj.lo q (hin q hq), fun q hq => okj.hi q (hin q hq), rwi_kept ho⟩
  · rcases sub l x hx with ⟨hl, rfl⟩ | ⟨hl, h⟩ | ⟨hl, rfl⟩
    · rcases sub m y hy with ⟨hm, rfl⟩ | ⟨hm, h'⟩ | ⟨hm, rfl⟩
      · exact hlm (hl.trans hm.symm)
      · exact H.two j m _ y (fun e => hm e.symm) hj h' q (hsub q hq) hq'
      · exact hoff q hq hq'
    · rcases sub m y hy with ⟨hm, rfl⟩ | ⟨hm, h'⟩ | ⟨hm, rfl⟩
      · exact H.two l j x _ hl h hj q hq (hsub q hq')
      · exact H.two l m x y hlm h h' q hq hq'
      · exact H.two l j x _ hl h hj q hq (hin q hq')
    · rcases sub m y hy with ⟨hm, rfl⟩ | ⟨hm, h'⟩ | ⟨hm, rfl⟩
      · exact hoff q hq' hq
      · exact H.two m j y _ hm h' hj q hq' (hin q hq)
      · exact hlm (hl.trans hm.symm)
end
end Go.Sh
namespace Go.Proofs.Ytegcjkhebecgbaa
open Go Go.Sh Go.RowKit
abbrev lsf (X : Option Addr) (c : Nat) (ls : List (List Int)) (ps : Nat → Option Addr × Nat) (n : Nat) : Thing := lsfi 27 3 X c ls ps n
theorem wordsOf_c {toks n : Nat} {tk : Int} {w : World} (htk : tk = toks) (ht : toks ≤ 4) (hn : n ≤ 4) {k : Value → World → Prop}
    (hk : ∀ w' U d ps, Gr w w' → OwnSS 27 3 w' w.heap.size U d (wordsN toks n) ps → k (.slice U (wordsN toks n).length d) w') :
    CallK Try.prog 157 [.int .i64 tk, .int .i64 n] k w := by
  subst htk
  refine enter157 ?_
  unfold S157
  have H := Apt.nil w
  refine buildH H u27 inf3 [] (by decide) (by decide) (by simp [Instr.fill, madeCells]) rfl fun b0 w1 H => ?_
  refine buildH H u35 inf27 [.slice (some ⟨b0, 0, none⟩) 0 0] (by decide) (by decide) (by simp [Instr.fill, madeCells, Value.cells, rng1]) rfl fun b1 w2 H => ?_
  simp only [List.nil_append, List.cons_append] at H
  have H := (H.single (i := 1) (j := 0) (by decide) (e2 := 3) (ys := []) rfl rfl).erase 0
  simp only [List.set_cons_zero, List.set_cons_succ, List.eraseIdx_cons_zero, List.eraseIdx_cons_succ] at H
  refine loop_to n 0 (fun m f w' => m ≤ n ∧ f 13 = .int .i64 m ∧ ∃ (U : Option Addr) (d : Nat) (ps : Nat → Option Addr × Nat), f 5 = .slice U (wordsN toks m).length d ∧ Apt w w' [lss U d (wordsN toks m) ps])
    ⟨Nat.zero_le _, rfl, _, _, _, rfl, H⟩ ?_
  rintro m f w3 N hag ⟨hm, h13, U, d, ps, h5, H⟩ hN
  have f0 : f 0 = .int .i64 toks := hag 0 (by decide)
  have f12 : f 12 = .int .i64 n := hag 12 (by decide)
  simp only [f12, h13, h5, f0, go_sem, Nat.reduceEqDiff]
  by_cases hlt : m < n
  case neg =>
    simp only [show ¬ ((m : Int) < n) from by omega, decide_false, go_sem, Nat.reduceEqDiff]
    obtain rfl : m = n := by omega
    exact hk _ U d ps H.gr (H.lssi 0 rfl)
  simp only [show ((m : Int) < n) from by omega, decide_true, go_sem, Nat.reduceEqDiff]
  have hwl := wordsN_le (toks := toks) (n := m) (by omega) (by omega)
  have hwm := fun w => @wordsN_mem toks m w
  have hnext : wordsN toks (m + 1) = (wordsN toks m).flatMap (extW toks) := rfl
  generalize wordsN toks m = ls at *
  refine buildH H u35 inf27 [] (by decide) (by decide) (by simp [Instr.fill, madeCells]) rfl fun b2 w4 H => ?_
  simp only [List.nil_append, List.cons_append] at H
  have H := H.emptySS 1 (e2 := 3) (fun _ => (none, 0)) rfl
  simp only [List.set_cons_zero, List.set_cons_succ] at H
  refine loop_to ls.length 0 (fun i f w' => i ≤ ls.length ∧ f 18 = .int .i64 i ∧ ∃ (X : Option Addr) (c : Nat) (rs : Nat → Option Addr × Nat), f 6 = .slice X ((ls.take i).flatMap (extW toks)).length c ∧
      Apt w w' [lss U d ls ps, lss X c ((ls.take i).flatMap (extW toks)) rs])
    ⟨Nat.zero_le _, rfl, _, _, _, rfl, H⟩ ?_
  rintro i g w5 N2 hag2 ⟨hi, h18, X, c, rs, h6, H⟩ hN2
  have g0 : g 0 = .int .i64 toks := (hag2 0 (by decide)).trans f0
  have g16 : g 16 = .slice U ls.length d := hag2 16 (by decide)
  have g17 : g 17 = .int .i64 ls.length := hag2 17 (by decide)
  have g13 : g 13 = .int .i64 m := (hag2 13 (by decide)).trans h13
  simp only [g0, g16, g17, g13, h18, h6, go_sem, Nat.reduceEqDiff]
  by_cases hlt2 : i < ls.length
  case neg =>
    simp only [show ¬ ((i : Int) < ls.length) from by omega, decide_false, go_sem, Nat.reduceEqDiff]
    rw [List.take_of_length_le (by omega)] at H h6 ⊢
    rw [i64_of (by omega) (by omega)]
    refine hN _ _ hlt ⟨by omega, rfl, X, c, rs, ?_, ?_⟩
    · rw [hnext]
      exact rfl
    · rw [hnext]
      exact H.erase 0
  simp only [show ((i : Int) < ls.length) from by omega, decide_true, go_sem, Nat.reduceEqDiff]
  have o := H.lssi 0 rfl
  have hm2 := hwm _ (rgt_mem hlt2)
  have hflat := flatMap_take_le (ls := ls) (k := toks) i
  have hmul : ls.length * toks ≤ 1024 * 4 := Nat.mul_le_mul hwl (by omega)
  have hel : ∀ t, (extW t (rgt ls i)).length = t := fun t => by simp [extW]
  refine rdi (ixn35 (fun h => o.ptr h) hlt2) ?_
  refine rdi (ld27 (o.cell hlt2)) ?_
  refine loop_to toks 0 (fun t f w' => t ≤ toks ∧ f 23 = .int .i64 t ∧ ∃ (X : Option Addr) (c : Nat) (rs : Nat → Option Addr × Nat), f 6 = .slice X ((ls.take i).flatMap (extW toks) ++ extW t (rgt ls i)).length c ∧
      Apt w w' [lss U d ls ps, lss X c ((ls.take i).flatMap (extW toks) ++ extW t (rgt ls i)) rs])
    ⟨Nat.zero_le _, rfl, X, c, rs, by simp only [extW, List.range_zero, List.map_nil, List.append_nil]; exact h6, by simpa only [extW, List.range_zero, List.map_nil, List.append_nil] using H⟩ ?_
  rintro t r w7 N3 hag3 ⟨ht', r23, X, c, rs, r6, H⟩ hN3
  have r8 : r 8 = .slice (ps i).1 (rgt ls i).length (ps i).2 := hag3 8 (by decide)
  have r22 : r 22 = .int .i64 toks := hag3 22 (by decide)
  have r18 : r 18 = .int .i64 i := (hag3 18 (by decide)).trans h18
  simp only [r8, r22, r23, r6, go_sem, Nat.reduceEqDiff]
  by_cases hlt3 : t < toks
  case neg =>
    simp only [show ¬ ((t : Int) < toks) from by omega, decide_false, r18, go_sem, Nat.reduceEqDiff]
    rw [i64_of (by omega) (by omega)]
    obtain rfl : t = toks := by omega
    refine hN2 _ _ hlt2 ⟨by omega, rfl, X, c, rs, ?_, ?_⟩
    · rw [take_snoc_rgt hlt2, flatMap_snoc]
      exact r6
    · rw [take_snoc_rgt hlt2, flatMap_snoc]
      exact H
  simp only [show ((t : Int) < toks) from by omega, decide_true, go_sem, Nat.reduceEqDiff]
  refine buildH H u27 inf3 [] (by decide) (by decide) (by simp [Instr.fill, madeCells]) rfl fun b3 w8 H => ?_
  simp only [List.nil_append, List.cons_append] at H
  have o := H.lssi 0 rfl
  have hwi := (o.own i hlt2).ints
  refine apH H 2 (xs := []) rfl hwi rfl rfl (by simp; omega) fun X1 d1 w9 H => ?_
  simp only [List.set_cons_zero, List.set_cons_succ, List.nil_append] at H ⊢
  refine pushH H 2 rfl rfl (by omega) fun t1 X2 d2 w10 H => ?_
  simp only [List.set_cons_zero, List.set_cons_succ] at H
  refine pushSSH H 1 2 (by decide) rfl rfl rfl rfl (by rw [List.length_append, hel]; omega) fun t2 X3 c3 w11 rs3 H => ?_
  have H := H.erase 2
  simp only [List.set_cons_zero, List.set_cons_succ, List.eraseIdx_cons_zero, List.eraseIdx_cons_succ] at H
  rw [i64_of (by omega) (by omega)]
  refine hN3 _ _ hlt3 ⟨by omega, rfl, X3, c3, rs3, ?_, ?_⟩
  · rw [extW_succ, ← List.append_assoc]
    rfl
  · rw [extW_succ, ← List.append_assoc]
    exact H
theorem implShortWords_c {F : Nat → Prop} {w : World} {v : Value} {gm : Gram} {most : Int} (hv : GramV F w v gm) {k : Value → World → Prop}
    (hk : ∀ w' U d ps, Gr w w' → OwnSS 27 3 w' w.heap.size U d (shortV gm most).1 ps → k (.tuple #[.slice U (shortV gm most).1.length d, .bool (shortV gm most).2]) w') :
    CallK Try.prog 23 [v, .int .i64 most] k w := by
  obtain ⟨Y, cy, rfl, hc, hy⟩ := hv
  refine enter23 ?_
  unfold S23
  have H := Apt.nil w
  refine boxH H fun b1 w1 H => ?_
  rw [ldB_agg agg26 sz26 rfl (H.box 0 rfl)]
  refine isGrammar_c (gm := gm) ⟨Y, cy, rfl, hc, hy.gr H.gr⟩ fun w2 g2 => ?_
  have H := H.step g2
  unfold shortV at hk
  cases hg : goodG gm
  · simp only [Bool.not_false, go_sem, Nat.reduceEqDiff]
    rw [hg, Bool.false_and, if_neg Bool.false_ne_true] at hk
    exact hk _ none 0 (fun _ => (none, 0)) H.gr (OwnSS.nil _ _ _ _ _)
  simp only [Bool.not_true, go_sem, Nat.reduceEqDiff]
  refine in_c ?_
  rw [hg, Bool.true_and] at hk
  cases hm : inB most 0 4
  · simp only [Bool.not_false, go_sem, Nat.reduceEqDiff]
    rw [hm, if_neg Bool.false_ne_true] at hk
    exact hk _ none 0 (fun _ => (none, 0)) H.gr (OwnSS.nil _ _ _ _ _)
  rw [hm, if_pos rfl] at hk
  obtain ⟨most, rfl⟩ : ∃ m' : Nat, most = m' := by
    simp only [inB, Bool.and_eq_true, decide_eq_true_eq] at hm
    exact ⟨most.toNat, by omega⟩
  have hm4 : most ≤ 4 := by
    simp only [inB, Bool.and_eq_true, decide_eq_true_eq] at hm
    omega
  rw [Int.toNat_natCast] at hk
  dsimp only at hk
  have htk := good_toks hg
  obtain ⟨toks, htoks⟩ : ∃ t : Nat, gm.toks = t := ⟨gm.toks.toNat, by omega⟩
  have htn : gm.toks.toNat = toks := by omega
  simp only [Bool.not_true, go_sem, Nat.reduceEqDiff]
  simp only [List.nil_append] at H
  refine buildH H u35 inf27 [] (by decide) (by decide) (by simp [Instr.fill, madeCells]) rfl fun b2 w3 H => ?_
  simp only [List.nil_append, List.cons_append] at H
  have H := H.emptySS 1 (e2 := 3) (fun _ => (none, 0)) rfl
  simp only [List.set_cons_zero, List.set_cons_succ] at H
  rw [i64_of (by omega) (by omega)]
  refine loop_to (most + 1) 0 (fun n f w' => n ≤ most + 1 ∧ f 21 = .int .i64 n ∧ ∃ (V : Option Addr) (e : Nat) (qs : Nat → Option Addr × Nat), f 6 = .slice V (shortW gm n).length e ∧
      Apt w w' [bx b1 [.int .i64 gm.nons, .int .i64 gm.toks, .slice Y gm.rules.length cy] 26, lss V e (shortW gm n) qs])
    ⟨Nat.zero_le _, rfl, _, _, _, rfl, H⟩ ?_
  rintro n f w4 N hag ⟨hn, h21, V, e, qs, h6, H⟩ hN
  have f20 : f 20 = .int .i64 ((most : Int) + 1) := hag 20 (by decide)
  have f2 : f 2 = ptrv b1 := hag 2 (by decide)
  simp only [f20, f2, h21, h6, go_sem, Nat.reduceEqDiff]
  by_cases hlt0 : n < most + 1
  case neg =>
    simp only [show ¬ ((n : Int) < (most : Int) + 1) from by omega, decide_false, go_sem, Nat.reduceEqDiff]
    obtain rfl : n = most + 1 := by omega
    exact hk _ V e qs H.gr (H.lssi 1 rfl)
  simp only [show ((n : Int) < (most : Int) + 1) from by omega, decide_true, go_sem, Nat.reduceEqDiff]
  rw [ldB3 (H.box 0 rfl) rfl]
  refine wordsOf_c (toks := toks) htoks (by omega) (by omega) fun w5 U d ps g5 o5 => ?_
  have H := H.addLss g5 o5
  have H := H.lsf0 2 rfl
  simp only [List.nil_append, List.cons_append, List.set_cons_zero, List.set_cons_succ] at H
  have hwl := wordsN_le (toks := toks) (n := n) (by omega) (by omega)
  have hwm := fun w => @wordsN_mem toks n w
  have hsl := shortW_len (gm := gm) htk.2 (n := n) (by omega)
  have hshort := shortW_succ gm n
  rw [htn] at hshort
  clear o5
  generalize wordsN toks n = ls at *
  generalize shortW gm n = so at *
  simp only [go_sem, Nat.reduceEqDiff]
  refine loop_to ls.length 0 (fun i f w' => i ≤ ls.length ∧ f 29 = .int .i64 i ∧ ∃ (V : Option Addr) (e : Nat) (qs : Nat → Option Addr × Nat), f 6 = .slice V (so ++ (ls.take i).filter (inL gm.rules)).length e ∧
      Apt w w' [bx b1 [.int .i64 gm.nons, .int .i64 gm.toks, .slice Y gm.rules.length cy] 26, lss V e (so ++ (ls.take i).filter (inL gm.rules)) qs, lsf U d ls ps i])
    ⟨Nat.zero_le _, rfl, V, e, qs, by simp only [List.take_zero, List.filter_nil, List.append_nil]; exact h6, by simpa only [List.take_zero, List.filter_nil, List.append_nil] using H⟩ ?_
  rintro i g w6 N2 hag2 ⟨hi, h29, V, e, qs, h6, H⟩ hN2
  have g27 : g 27 = .slice U ls.length d := hag2 27 (by decide)
  have g28 : g 28 = .int .i64 ls.length := hag2 28 (by decide)
  have g2' : g 2 = ptrv b1 := (hag2 2 (by decide)).trans f2
  have g7 : g 7 = .int .i64 n := hag2 7 (by decide)
  have g21 : g 21 = .int .i64 n := (hag2 21 (by decide)).trans h21
  simp only [g27, g28, g2', g7, g21, h29, h6, go_sem, Nat.reduceEqDiff]
  by_cases hlt : i < ls.length
  case neg =>
    simp only [show ¬ ((i : Int) < ls.length) from by omega, decide_false, go_sem, Nat.reduceEqDiff]
    rw [List.take_of_length_le (by omega)] at H h6
    rw [i64_of (by omega) (by omega)]
    refine hN _ _ hlt0 ⟨by omega, rfl, V, e, qs, ?_, ?_⟩
    · rw [hshort]
      exact h6
    · rw [hshort]
      exact H.erase 2
  simp only [show ((i : Int) < ls.length) from by omega, decide_true, go_sem, Nat.reduceEqDiff]
  have o := H.lsfi 2 rfl
  have hm2 := hwm _ (rgt_mem hlt)
  have hwi := (o.own i (Nat.le_refl _) hlt).ints
  have hfl := filter_le (inL gm.rules) (ls.take i)
  rw [List.length_take] at hfl
  have hxt : ∀ t ∈ rgt ls i, 0 ≤ t ∧ t ≤ 100 := fun t hmem => by
    have := hm2.2 t hmem
    omega
  refine rdi (ixn35 (fun h => o.ptr h) hlt) ?_
  refine rdi (ld27 (o.cell hlt)) ?_
  refine rdi (ldB_agg agg26 sz26 rfl (H.box 0 rfl)) ?_
  refine spans_c (gm := gm) ⟨Y, cy, rfl, hc, hy.gr H.gr⟩ hg hwi rfl (by omega) hxt fun w7 bT HT => ?_
  simp only [go_sem, Nat.reduceEqDiff]
  refine rdi (ixa122 (by decide) (by decide)) ?_
  refine rdi (ixa121 (by decide) (by decide)) ?_
  refine rdi (ixa120 (by omega) (by omega)) ?_
  simp only [Int.toNat_natCast, go_sem, Nat.reduceEqDiff]
  have hoff : 0 + (0 + 1) + Int.toNat 0 * 121 + Int.toNat 0 * 11 + n = 0 * 121 + 0 * 11 + (rgt ls i).length + 1 := by
    rw [show Int.toNat 0 = 0 from rfl, hm2.1]
    omega
  rw [hoff]
  refine rdi (ldB4 (HT.box 0 rfl) (cellsT_at (by decide) (by decide) (by omega))) ?_
  have H := (H.step HT.gr).pull 2 (by decide) rfl hlt
  simp only [List.nil_append, List.cons_append, List.set_cons_zero, List.set_cons_succ] at H
  have hsp : spanT gm.rules (rgt ls i) 0 0 (rgt ls i).length = inL gm.rules (rgt ls i) := rfl
  rw [hsp]
  cases hin : inL gm.rules (rgt ls i)
  · simp only [go_sem, Nat.reduceEqDiff]
    rw [i64_of (by omega) (by omega)]
    have hso : so ++ (ls.take (i + 1)).filter (inL gm.rules) = so ++ (ls.take i).filter (inL gm.rules) := by
      rw [take_snoc_rgt hlt, filter_snoc, hin, if_neg Bool.false_ne_true, List.append_nil]
    rw [← hso] at H h6
    exact hN2 _ _ hlt ⟨by omega, rfl, V, e, qs, h6, H.erase 3⟩
  · simp only [go_sem, Nat.reduceEqDiff]
    have hso : so ++ (ls.take (i + 1)).filter (inL gm.rules) = so ++ (ls.take i).filter (inL gm.rules) ++ [rgt ls i] := by
      rw [take_snoc_rgt hlt, filter_snoc, hin, if_pos rfl, List.append_assoc]
    refine pushSSH H 1 3 (by decide) rfl rfl rfl rfl (by rw [List.length_append]; omega) fun t V' e' w8 qs' H => ?_
    have H := H.erase 3
    simp only [List.set_cons_zero, List.set_cons_succ, List.eraseIdx_cons_zero, List.eraseIdx_cons_succ] at H
    rw [i64_of (by omega) (by omega)]
    rw [← hso] at H
    refine hN2 _ _ hlt ⟨by omega, rfl, V', e', qs', ?_, H⟩
    rw [hso]
    exact rfl
end Go.Proofs.Ytegcjkhebecgbaa

/- Contract: what comes again and again, by the program. -/
set_option linter.unusedVariables false
set_option linter.unusedSimpArgs false
set_option maxRecDepth 100000
namespace Go.Proofs.Ytegcjkhebecgbaa
open Go Go.Sh Go.RowKit

end Go.Proofs.Ytegcjkhebecgbaa

/- Bm: bodies of functions as terms of the frame calculus, printed by shgen.py of this repository. -/
set_option linter.unusedVariables false
set_option maxRecDepth 100000
namespace Go.Proofs.Ytegcjkhebecgbaa
open Go Go.Sh

/-! loop.example/g00758/spec.l20Two -/
end Go.Proofs.Ytegcjkhebecgbaa

/- Contract: whether two grammars may be set beside each other (the reference's l20Two). -/
set_option linter.unusedVariables false
set_option linter.unusedSimpArgs false
set_option maxRecDepth 100000
namespace Go.Sh
open Go
end Go.Sh
namespace Go.Proofs.Ytegcjkhebecgbaa
open Go Go.Sh Go.RowKit

end Go.Proofs.Ytegcjkhebecgbaa

/- Contracts: words in order, the first unlike word of two lists (the reference), equal lists (the program's library). -/
set_option linter.unusedVariables false
set_option linter.unusedSimpArgs false
set_option maxRecDepth 100000
namespace Go.Sh
open Go
end Go.Sh
namespace Go.Proofs.Ytegcjkhebecgbaa
open Go Go.Sh Go.RowKit
end Go.Proofs.Ytegcjkhebecgbaa

/- Contracts: equal lists (the program's library), SameUpTo of the reference and of the program. -/
set_option linter.unusedVariables false
set_option linter.unusedSimpArgs false
set_option maxRecDepth 100000
namespace Go.Sh
open Go
end Go.Sh
namespace Go.Proofs.Ytegcjkhebecgbaa
open Go Go.Sh Go.RowKit
end Go.Proofs.Ytegcjkhebecgbaa

/- Contracts: words compared (the program's library), FirstUnlike of the reference and of the program. -/
set_option linter.unusedVariables false
set_option linter.unusedSimpArgs false
set_option maxRecDepth 100000
namespace Go.Sh
open Go
def cmpI (x y : Int) : Int := if x < y then -1 else if y < x then 1 else 0
def cmpL : List Int → List Int → Int
  | x :: xs, y :: ys => if cmpI x y ≠ 0 then cmpI x y else cmpL xs ys
  | [], [] => 0
  | [], _ :: _ => -1
  | _ :: _, [] => 1
theorem cmpI_lt {x y : Int} : cmpI x y < 0 ↔ x < y := by
  unfold cmpI
  split
  · omega
  · split <;> omega
theorem cmpI_eq {x y : Int} : cmpI x y = 0 ↔ x = y := by
  unfold cmpI
  split
  · omega
  · split <;> omega
/-- The rest of a list of slices, from place i on. -/
structure AtS (w : World) (X : Option Addr) (n c : Nat) (ls : List (List Int)) (ps : Nat → Option Addr × Nat) (i : Nat) : Prop where
  len : n = ls.length - i
  le : n ≤ c
  ptr : 0 < n → X = some (ad X)
  cell : ∀ j, j < n → w.cell? ((ad X).add j) = some (.slice (ps (i + j)).1 (rgt ls (i + j)).length (ps (i + j)).2)
theorem AtS.gr {w w' : World} {X : Option Addr} {n c i : Nat} {ls : List (List Int)} {ps : Nat → Option Addr × Nat} (h : AtS w X n c ls ps i) (g : Gr w w') : AtS w' X n c ls ps i := ⟨h.len, h.le, h.ptr, fun j hj => g.cell (h.cell j hj)⟩
theorem AtS.first {w : World} {X : Option Addr} {n c i : Nat} {ls : List (List Int)} {ps : Nat → Option Addr × Nat} (h : AtS w X n c ls ps i) (h0 : 0 < n) : w.cell? ((ad X).add 0) = some (.slice (ps i).1 (rgt ls i).length (ps i).2) := h.cell 0 h0
theorem AtS.next {w : World} {X : Option Addr} {n c i : Nat} {ls : List (List Int)} {ps : Nat → Option Addr × Nat} (h : AtS w X n c ls ps i) (h0 : 0 < n) : AtS w (sub X 1 c 1) (n - 1) (c - 1) ls ps (i + 1) := by
  have hl := h.len
  have hle := h.le
  have hX := h.ptr h0
  refine ⟨by omega, by omega, fun h1 => ?_, fun j hj => ?_⟩
  · unfold Sh.sub
    rw [if_neg (by omega), hX]
    rfl
  · have := h.cell (j + 1) (by omega)
    unfold Sh.sub
    rw [if_neg (by omega), hX]
    show w.cell? (((ad X).add (1 * 1)).add j) = _
    rw [add_add, show 1 * 1 + j = j + 1 from by omega, this, show i + (j + 1) = i + 1 + j from by omega]
theorem AtS.of {w : World} {e1 e2 B c : Nat} {X : Option Addr} {ls : List (List Int)} {ps : Nat → Option Addr × Nat} (o : OwnSS e1 e2 w B X c ls ps) : AtS w X ls.length c ls ps 0 := by
  refine ⟨by omega, ?_, fun h => o.ptr h, fun j hj => ?_⟩
  · obtain ⟨⟨cells, hr, hc⟩, _⟩ := o
    exact hr.cap.1
  · rw [Nat.zero_add]
    exact o.cell hj
end Go.Sh
namespace Go.Proofs.Ytegcjkhebecgbaa
open Go Go.Sh Go.RowKit
end Go.Proofs.Ytegcjkhebecgbaa
