/- Texts of this repository put together: Bf, ShS1, ShQ3, ShQ4, ShQ5, ShQ6, ShQ7, ShQ8, ShS2, ShS3, ShS4, ShC3, ShC5, ShT1, ShQ9, Bg, ShU1, ShG7, ShZ8, Cb, Ce, ShE1, ShE2, ShE4, ShE5, Cc, ShF1, ShU2, ShH6, Bm. -/
import Derived.Test.YteabbgaffgpegaaProg
import Derived.Test.YteabbgaffgpegaaKFirstsa
import Derived.Test.YteabbgaffgpegaaKFirstsb

set_option linter.unusedVariables false
set_option maxRecDepth 100000
namespace Go.Proofs.Yteabbgaffgpegaa
open Go Go.Sh

def pl55 : Plans := fun _ => ⟨false, [], .nil⟩
def S55 (v0 v1 v2 v3 : Value) (k : Value → World → Prop) (w : World) : Prop :=
 Rd Try.prog (WS.at w) (ze_ .len #[27] 3 [false] [v1]) fun t1 =>
 Rd Try.prog (WS.at w) (sBin .eql 3 true t1 (.int .i64 0)) fun t2 =>
 zk_ t2
  (Rd Try.prog (WS.at w) (sBin .eql 3 false v2 v3) fun t3 =>
  k t3 w)
  (Rd Try.prog (WS.at w) (zd_ 27 v1 (.int .i64 0)) fun t4 =>
  Rd Try.prog (WS.at w) (zc_ 3 t4) fun t5 =>
  Rd Try.prog (WS.at w) (sBin .lss 3 true t5 (.int .i64 0)) fun t6 =>
  zk_ t6
   (Rd Try.prog (WS.at w) (sBin .lss 3 false v2 v3) fun t7 =>
   zb_ t7 true (fun k w' => k v0 w') (fun t8 w9 =>
   zb_ t7 true (fun k w' => Rd Try.prog (WS.at w9) (zgb_ t8) fun v => k v w') (fun t10 w11 =>
   zb_ t7 true (fun k w' => Rd Try.prog (WS.at w11) (za_ 97 t10 0) fun v => k v w') (fun t12 w13 =>
   zb_ t7 true (fun k w' => Rd Try.prog (WS.at w13) (zc_ 27 t12) fun v => k v w') (fun t14 w15 =>
   zb_ t7 true (fun k w' => k v2 w') (fun t16 w17 =>
   zb_ t7 true (fun k w' => Rd Try.prog (WS.at w17) (zd_ 27 t14 t16) fun v => k v w') (fun t18 w19 =>
   zb_ t7 true (fun k w' => Rd Try.prog (WS.at w19) (zc_ 3 t18) fun v => k v w') (fun t20 w21 =>
   zb_ t7 true (fun k w' => CallK Try.prog 107 [t20] k w') (fun t22 w23 =>
   zb_ t7 true (fun k w' => k t5 w') (fun t24 w25 =>
   zb_ t7 true (fun k w' => Rd Try.prog (WS.at w25) (sBin .eql 3 false t22 t24) fun v => k v w') (fun t26 w27 =>
   Rd Try.prog (WS.at w27) (zcb_ t7 t26 (.bool false)) fun t28 =>
   zb_ t28 true (fun k w' => k v0 w') (fun t29 w30 =>
   zb_ t28 true (fun k w' => k v1 w') (fun t31 w32 =>
   zb_ t28 true (fun k w' => Rd Try.prog (WS.at w32) (zyb_ 27 t31 (some (.int .i64 1)) none none) fun v => k v w') (fun t33 w34 =>
   zb_ t28 true (fun k w' => k v2 w') (fun t35 w36 =>
   zb_ t28 true (fun k w' => Rd Try.prog (WS.at w36) (sBin .add 3 true t35 (.int .i64 1)) fun v => k v w') (fun t37 w38 =>
   zb_ t28 true (fun k w' => k v3 w') (fun t39 w40 =>
   zb_ t28 true (fun k w' => CallK Try.prog 55 [t29, t33, t37, t39] k w') (fun t41 w42 =>
   Rd Try.prog (WS.at w42) (zcb_ t28 t41 (.bool false)) fun t43 =>
   k t43 w42) w40) w38) w36) w34) w32) w30) w27) w25) w23) w21) w19) w17) w15) w13) w11) w9) w)
   (zfb_ [47, 48, 49, 52, 53, 54, 55, 56, 57, 58, 59, 60, 61, 62, 63, 64, 65, 66, 67, 68, 69, 8, 50, 51, 10] (fun Q44 f45 w46 =>
    Rd Try.prog (WS.at w46) (sBin .leq 3 false (f45 10) (f45 3)) fun t47 =>
    zk_ t47
     (Rd Try.prog (WS.at w46) (zgb_ (f45 0)) fun t48 =>
     Rd Try.prog (WS.at w46) (za_ 97 t48 1) fun t49 =>
     Rd Try.prog (WS.at w46) (zd_ 95 t49 (f45 9)) fun t50 =>
     Rd Try.prog (WS.at w46) (zd_ 94 t50 (f45 2)) fun t51 =>
     Rd Try.prog (WS.at w46) (zd_ 93 t51 (f45 10)) fun t52 =>
     Rd Try.prog (WS.at w46) (zc_ 4 t52) fun t53 =>
     zb_ t53 true (fun k w' => k (f45 0) w') (fun t54 w55 =>
     zb_ t53 true (fun k w' => k (f45 1) w') (fun t56 w57 =>
     zb_ t53 true (fun k w' => Rd Try.prog (WS.at w57) (zyb_ 27 t56 (some (.int .i64 1)) none none) fun v => k v w') (fun t58 w59 =>
     zb_ t53 true (fun k w' => k (f45 10) w') (fun t60 w61 =>
     zb_ t53 true (fun k w' => k (f45 3) w') (fun t62 w63 =>
     zb_ t53 true (fun k w' => CallK Try.prog 55 [t54, t58, t60, t62] k w') (fun t64 w65 =>
     Rd Try.prog (WS.at w65) (zcb_ t53 t64 (.bool false)) fun t66 =>
     zk_ t66
      (Q44 .ret (F.upd (F.upd (F.upd (F.upd (F.upd (F.upd (F.upd (F.upd (F.upd (F.upd (F.upd (F.upd (F.upd (F.upd (F.upd (F.upd (F.upd (F.upd (F.upd (F.upd (F.upd (F.upd f45 47 (f45 10)) 48 (f45 3)) 49 t47) 52 (f45 0)) 53 (f45 9)) 54 (f45 2)) 55 (f45 10)) 56 t48) 57 t49) 58 t50) 59 t51) 60 t52) 61 t53) 62 t53) 63 t54) 64 t56) 65 t58) 66 t60) 67 t62) 68 t64) 69 t66) 8 (.bool true)) w65)
      (Rd Try.prog (WS.at w65) (sBin .add 3 true (f45 10) (.int .i64 1)) fun t67 =>
      Q44 .normal (F.upd (F.upd (F.upd (F.upd (F.upd (F.upd (F.upd (F.upd (F.upd (F.upd (F.upd (F.upd (F.upd (F.upd (F.upd (F.upd (F.upd (F.upd (F.upd (F.upd (F.upd (F.upd (F.upd (F.upd f45 47 (f45 10)) 48 (f45 3)) 49 t47) 52 (f45 0)) 53 (f45 9)) 54 (f45 2)) 55 (f45 10)) 56 t48) 57 t49) 58 t50) 59 t51) 60 t52) 61 t53) 62 t53) 63 t54) 64 t56) 65 t58) 66 t60) 67 t62) 68 t64) 69 t66) 50 (f45 10)) 51 t67) 10 t67) w65)) w63) w61) w59) w57) w55) w46)
     (Q44 (.exit 0) (F.upd (F.upd (F.upd f45 47 (f45 10)) 48 (f45 3)) 49 t47) w46))
    (zr_ 0 (seqQ (fun f68 w69 =>
   k (.bool false) w69) (zt_ Try.prog [.tmp 8] k)))
    (F.upd (F.upd (F.upd (F.upd (F.upd (F.upd (F.upd (F.upd (F.upd (F.upd (F.upd (F.upd (zp_ [v0, v1, v2, v3]) 8 (.bool false)) 11 v1) 12 t1) 13 t2) 17 v1) 18 t4) 19 t5) 9 t5) 20 t5) 21 t6) 46 v2) 10 v2) w))
theorem body55 : Try.f55.body = some (zg_ Try.f55) := by kernel_rfl
theorem same55 (v0 v1 v2 v3 : Value) (k : Value → World → Prop) (w : World) : wpF Try.prog pl55 (zg_ Try.f55) (zt_ Try.prog Try.f55.results.toList k) (zp_ [v0, v1, v2, v3]) w = S55 v0 v1 v2 v3 k w := by kernel_rfl
theorem enter55 {v0 v1 v2 v3 : Value} {k : Value → World → Prop} {w : World} (h : S55 v0 v1 v2 v3 k w) : CallK Try.prog 55 [v0, v1, v2, v3] k w :=
  zi_ (pl := pl55) zbb_ Try.func55 body55 (by kernel_rfl) (of_decide_eq_true (by kernel_rfl)) (by kernel_rfl) (by kernel_rfl) (Eq.mpr (same55 v0 v1 v2 v3 k w) h)

def pl54 : Plans := fun i => match i with
  | 14 => ⟨false, [18], .step 0 .any (.step 1 .any (.step 2 .held (.step 3 .any (.step 4 .any (.step 5 .any (.step 6 .any (.step 7 .any (.step 8 .any (.step 9 .any (.step 10 .held (.step 11 .any (.step 12 .any (.step 13 .any (.step 14 .any (.step 15 .held (.step 16 .any (.step 17 .any (.step 18 .last (.step 19 .any (.nil))))))))))))))))))))⟩
  | 15 => ⟨false, [10], .step 0 .any (.step 1 .any (.step 2 .held (.step 3 .any (.step 4 .any (.step 5 .any (.step 6 .any (.step 7 .any (.step 8 .any (.step 9 .any (.step 10 .last (.nil)))))))))))⟩
  | _ => ⟨false, [], .nil⟩
def S54 (v0 v1 : Value) (k : Value → World → Prop) (w : World) : Prop :=
 Do Try.prog (sBox 26 v0) (fun t1 w2 =>
 Rd Try.prog (WS.at w2) (zx_ 97 [(0, v1)]) fun t3 =>
 Do Try.prog (sBox 97 t3) (fun t4 w5 =>
 zfb_ [14, 6, 15, 16, 17, 18, 19, 20, 21, 8, 22, 23, 24, 25, 26, 27, 9, 28, 10, 29, 30, 31, 32, 35, 36, 37, 38, 39, 40, 41, 42, 43, 44, 45, 46, 47, 48, 49, 50, 51, 52, 53, 54, 55, 56, 57, 58, 59, 60, 61, 62, 63, 64, 6, 33, 34, 10, 65, 25, 66, 18] (fun Q6 f7 w8 =>
  zk_ (f7 6)
   (Rd Try.prog (WS.at w8) (za_ 26 (f7 2) 2) fun t9 =>
   Rd Try.prog (WS.at w8) (zc_ 24 t9) fun t10 =>
   Rd Try.prog (WS.at w8) (ze_ .len #[24] 3 [false] [t10]) fun t11 =>
   zfb_ [19, 20, 21, 8, 22, 23, 24, 25, 26, 27, 9, 28, 10, 29, 30, 31, 32, 35, 36, 37, 38, 39, 40, 41, 42, 43, 44, 45, 46, 47, 48, 49, 50, 51, 52, 53, 54, 55, 56, 57, 58, 59, 60, 61, 62, 63, 64, 6, 33, 34, 10, 65, 25, 66, 18] (fun Q12 f13 w14 =>
    Rd Try.prog (WS.at w14) (sBin .lss 3 false (f13 18) (f13 17)) fun t15 =>
    zk_ t15
     (Rd Try.prog (WS.at w14) (zd_ 24 (f13 16) (f13 18)) fun t16 =>
     Rd Try.prog (WS.at w14) (zc_ 106 t16) fun t17 =>
     Do Try.prog (zib_ 106) (fun t18 w19 =>
     Do Try.prog (zu_ 106 t18 t17) (fun _ w20 =>
     Rd Try.prog (WS.at w20) (ze_ .len #[27] 3 [false] [(f13 1)]) fun t21 =>
     Rd Try.prog (WS.at w20) (sBin .add 3 true t21 (.int .i64 1)) fun t22 =>
     zfb_ [26, 27, 9, 28, 10, 29, 30, 31, 32, 35, 36, 37, 38, 39, 40, 41, 42, 43, 44, 45, 46, 47, 48, 49, 50, 51, 52, 53, 54, 55, 56, 57, 58, 59, 60, 61, 62, 63, 64, 6, 33, 34, 10, 65, 25] (fun Q23 f24 w25 =>
      Rd Try.prog (WS.at w25) (sBin .lss 3 false (f24 25) (f24 24)) fun t26 =>
      zk_ t26
       (zfb_ [29, 30, 31, 32, 35, 36, 37, 38, 39, 40, 41, 42, 43, 44, 45, 46, 47, 48, 49, 50, 51, 52, 53, 54, 55, 56, 57, 58, 59, 60, 61, 62, 63, 64, 6, 33, 34, 10] (fun Q27 f28 w29 =>
        Rd Try.prog (WS.at w29) (ze_ .len #[27] 3 [false] [(f28 1)]) fun t30 =>
        Rd Try.prog (WS.at w29) (sBin .leq 3 false (f28 10) t30) fun t31 =>
        zk_ t31
         (Join (fun K32 =>
         Rd Try.prog WS.any (za_ 106 (f28 8) 0) fun t35 =>
         Rd Try.prog (WS.at w29.drew) (zc_ 3 t35) fun t36 =>
         Rd Try.prog WS.any (zgb_ (f28 5)) fun t37 =>
         Rd Try.prog WS.any (za_ 97 t37 1) fun t38 =>
         Rd Try.prog WS.any (zd_ 95 t38 t36) fun t39 =>
         Rd Try.prog WS.any (zd_ 94 t39 (f28 9)) fun t40 =>
         Rd Try.prog WS.any (zd_ 93 t40 (f28 10)) fun t41 =>
         Rd Try.prog (WS.at w29.drew) (zc_ 4 t41) fun t42 =>
         Rd Try.prog WS.any (sUn .not t42) fun t43 =>
         zb_ t43 true (fun k w' => k (f28 5) w') (fun t44 w45 =>
         zb_ t43 true (fun k w' => Rd Try.prog WS.any (za_ 106 (f28 8) 1) fun v => k v w') (fun t46 w47 =>
         zb_ t43 true (fun k w' => Rd Try.prog (WS.at w29.drew) (zc_ 27 t46) fun v => k v w') (fun t48 w49 =>
         zb_ t43 true (fun k w' => k (f28 9) w') (fun t50 w51 =>
         zb_ t43 true (fun k w' => k (f28 10) w') (fun t52 w53 =>
         zb_ t43 true (fun k w' => CallK Try.prog 55 [t44, t48, t50, t52] k w') (fun t54 w55 =>
         Rd Try.prog WS.any (zcb_ t43 t54 (.bool false)) fun t56 =>
         zk_ t56
          (Rd Try.prog WS.any (za_ 106 (f28 8) 0) fun t57 =>
          Rd Try.prog (WS.at w55.drew) (zc_ 3 t57) fun t58 =>
          Rd Try.prog WS.any (zgb_ (f28 5)) fun t59 =>
          Rd Try.prog WS.any (za_ 97 t59 1) fun t60 =>
          Rd Try.prog WS.any (zd_ 95 t60 t58) fun t61 =>
          Rd Try.prog WS.any (zd_ 94 t61 (f28 9)) fun t62 =>
          Rd Try.prog WS.any (zd_ 93 t62 (f28 10)) fun t63 =>
          Do Try.prog (zu_ 4 t63 (.bool true)) (fun _ w64 =>
          K32 (F.upd (F.upd (F.upd (F.upd (F.upd (F.upd (F.upd (F.upd (F.upd (F.upd (F.upd (F.upd (F.upd (F.upd (F.upd (F.upd (F.upd (F.upd (F.upd (F.upd (F.upd (F.upd (F.upd (F.upd (F.upd (F.upd (F.upd (F.upd (F.upd (F.upd (F.upd (F.upd (F.upd (F.upd (F.upd f28 29 (f28 10)) 30 (f28 1)) 31 t30) 32 t31) 35 (f28 5)) 36 t35) 37 t36) 38 (f28 9)) 39 (f28 10)) 40 t37) 41 t38) 42 t39) 43 t40) 44 t41) 45 t42) 46 t43) 47 t43) 48 t44) 49 t46) 50 t48) 51 t50) 52 t52) 53 t54) 54 t56) 55 (f28 5)) 56 t57) 57 t58) 58 (f28 9)) 59 (f28 10)) 60 t59) 61 t60) 62 t61) 63 t62) 64 t63) 6 (.bool true)) w64) w55.drew)
          (K32 (F.upd (F.upd (F.upd (F.upd (F.upd (F.upd (F.upd (F.upd (F.upd (F.upd (F.upd (F.upd (F.upd (F.upd (F.upd (F.upd (F.upd (F.upd (F.upd (F.upd (F.upd (F.upd (F.upd (F.upd f28 29 (f28 10)) 30 (f28 1)) 31 t30) 32 t31) 35 (f28 5)) 36 t35) 37 t36) 38 (f28 9)) 39 (f28 10)) 40 t37) 41 t38) 42 t39) 43 t40) 44 t41) 45 t42) 46 t43) 47 t43) 48 t44) 49 t46) 50 t48) 51 t50) 52 t52) 53 t54) 54 t56) w55)) w53) w51) w49) w47) w45) w29.drew) (fun f33 w34 =>
         Rd Try.prog (WS.at w34) (sBin .add 3 true (f33 10) (.int .i64 1)) fun t65 =>
         Q27 .normal (F.upd (F.upd (F.upd f33 33 (f33 10)) 34 t65) 10 t65) w34))
         (Q27 (.exit 6) (F.upd (F.upd (F.upd (F.upd f28 29 (f28 10)) 30 (f28 1)) 31 t30) 32 t31) w29))
        (zr_ 6 (zr_ 5 (seqQ (fun f66 w67 =>
       Rd Try.prog (WS.at w67) (sBin .add 3 true (f66 25) (.int .i64 1)) fun t68 =>
       Q23 .normal (F.upd (F.upd f66 65 t68) 25 t68) w67) Q23)))
        (F.upd (F.upd (F.upd (F.upd (F.upd f24 26 t26) 27 (f24 25)) 9 (f24 25)) 28 (f24 25)) 10 (f24 25)) w25)
       (Q23 (.exit 4) (F.upd f24 26 t26) w25))
      (zr_ 4 (zr_ 3 (seqQ (fun f69 w70 =>
     Rd Try.prog (WS.at w70) (sBin .add 3 true (f69 18) (.int .i64 1)) fun t71 =>
     Q12 .normal (F.upd (F.upd f69 66 t71) 18 t71) w70) Q12)))
      (F.upd (F.upd (F.upd (F.upd (F.upd (F.upd (F.upd (F.upd f13 19 t15) 20 t16) 21 t17) 8 t18) 22 (f13 1)) 23 t21) 24 t22) 25 (.int .i64 0)) w20) w19) w14)
     (Q12 (.exit 2) (F.upd f13 19 t15) w14))
    (zr_ 2 (zr_ 1 Q6))
    (F.upd (F.upd (F.upd (F.upd (F.upd (F.upd f7 14 (f7 6)) 6 (.bool false)) 15 t9) 16 t10) 17 t11) 18 (.int .i64 0)) w8)
   (Q6 (.exit 0) (F.upd f7 14 (f7 6)) w8))
  (zr_ 0 (seqQ (fun f72 w73 =>
 k (f72 5) w73) (zt_ Try.prog [.tmp 4] k)))
  (F.upd (F.upd (F.upd (F.upd (F.upd (F.upd (F.upd (zp_ [v0, v1]) 2 t1) 4 (.pointer none)) 11 v1) 12 t3) 13 t4) 5 t4) 6 (.bool true)) w5) w2) w
theorem body54 : Try.f54.body = some (zg_ Try.f54) := by kernel_rfl
theorem same54 (v0 v1 : Value) (k : Value → World → Prop) (w : World) : wpF Try.prog pl54 (zg_ Try.f54) (zt_ Try.prog Try.f54.results.toList k) (zp_ [v0, v1]) w = S54 v0 v1 k w := by kernel_rfl
theorem enter54 {v0 v1 : Value} {k : Value → World → Prop} {w : World} (h : S54 v0 v1 k w) : CallK Try.prog 54 [v0, v1] k w :=
  zi_ (pl := pl54) zbb_ Try.func54 body54 (by kernel_rfl) (of_decide_eq_true (by kernel_rfl)) (by kernel_rfl) (by kernel_rfl) (Eq.mpr (same54 v0 v1 k w) h)

def pl53 : Plans := fun _ => ⟨false, [], .nil⟩
def S53 (v0 v1 : Value) (k : Value → World → Prop) (w : World) : Prop :=
 Do Try.prog (sBox 3 v0) (fun t1 w2 =>
 Rd Try.prog (WS.at w2) (ze_ .len #[27] 3 [false] [v1]) fun t3 =>
 Rd Try.prog (WS.at w2) (sBin .leq 3 true t3 (.int .i64 10)) fun t4 =>
 zb_ t4 true (fun k w' => k v1 w') (fun t5 w6 =>
 zb_ t4 true (fun k w' => Rd Try.prog (WS.at w6) (zhd_ (.func 115) [] [t1]) fun v => k v w') (fun t7 w8 =>
 zb_ t4 true (fun k w' => CallK Try.prog 101 [t5, t7] k w') (fun t9 w10 =>
 zb_ t4 true (fun k w' => Rd Try.prog (WS.at w10) (sUn .not t9) fun v => k v w') (fun t11 w12 =>
 Rd Try.prog (WS.at w12) (zcb_ t4 t11 (.bool false)) fun t13 =>
 k t13 w12) w10) w8) w6) w2) w
theorem body53 : Try.f53.body = some (zg_ Try.f53) := by kernel_rfl
theorem same53 (v0 v1 : Value) (k : Value → World → Prop) (w : World) : wpF Try.prog pl53 (zg_ Try.f53) (zt_ Try.prog Try.f53.results.toList k) (zp_ [v0, v1]) w = S53 v0 v1 k w := by kernel_rfl
theorem enter53 {v0 v1 : Value} {k : Value → World → Prop} {w : World} (h : S53 v0 v1 k w) : CallK Try.prog 53 [v0, v1] k w :=
  zi_ (pl := pl53) zbb_ Try.func53 body53 (by kernel_rfl) (of_decide_eq_true (by kernel_rfl)) (by kernel_rfl) (by kernel_rfl) (Eq.mpr (same53 v0 v1 k w) h)

def pl115 : Plans := fun _ => ⟨false, [], .nil⟩
def S115 (v0 v1 : Value) (k : Value → World → Prop) (w : World) : Prop :=
 Rd Try.prog (WS.at w) (zc_ 3 v1) fun t1 =>
 Rd Try.prog (WS.at w) (sBin .sub 3 true t1 (.int .i64 1)) fun t2 =>
 CallK Try.prog 65 [v0, (.int .i64 0), t2] (fun t3 w4 =>
 Rd Try.prog (WS.at w4) (sUn .not t3) fun t5 =>
 k t5 w4) w
theorem body115 : Try.f115.body = some (zg_ Try.f115) := by kernel_rfl
theorem same115 (v0 v1 : Value) (k : Value → World → Prop) (w : World) : wpF Try.prog pl115 (zg_ Try.f115) (zt_ Try.prog Try.f115.results.toList k) (zp_ [v0, v1]) w = S115 v0 v1 k w := by kernel_rfl
theorem enter115 {v0 v1 : Value} {k : Value → World → Prop} {w : World} (h : S115 v0 v1 k w) : CallK Try.prog 115 [v0, v1] k w :=
  zi_ (pl := pl115) zbb_ Try.func115 body115 (by kernel_rfl) (of_decide_eq_true (by kernel_rfl)) (by kernel_rfl) (by kernel_rfl) (Eq.mpr (same115 v0 v1 k w) h)

def pl180 : Plans := fun _ => ⟨false, [], .nil⟩
def S180 (v0 v1 v2 v3 v4 : Value) (k : Value → World → Prop) (w : World) : Prop :=
 Rd Try.prog (WS.at w) (ze_ .len #[27] 3 [false] [v2]) fun t1 =>
 Rd Try.prog (WS.at w) (sBin .eql 3 true t1 (.int .i64 0)) fun t2 =>
 zk_ t2
  (Rd Try.prog (WS.at w) (sBin .eql 3 false v3 v4) fun t3 =>
  k t3 w)
  (zfb_ [19, 20, 21, 24, 25, 26, 27, 28, 29, 30, 31, 32, 33, 34, 35, 36, 37, 38, 39, 40, 10, 22, 23, 11] (fun Q4 f5 w6 =>
   Rd Try.prog (WS.at w6) (sBin .leq 3 false (f5 11) (f5 4)) fun t7 =>
   zk_ t7
    (Rd Try.prog (WS.at w6) (zd_ 27 (f5 2) (.int .i64 0)) fun t8 =>
    Rd Try.prog (WS.at w6) (zc_ 3 t8) fun t9 =>
    CallK Try.prog 184 [(f5 0), (f5 1), t9, (f5 3), (f5 11)] (fun t10 w11 =>
    zb_ t10 true (fun k w' => k (f5 0) w') (fun t12 w13 =>
    zb_ t10 true (fun k w' => k (f5 1) w') (fun t14 w15 =>
    zb_ t10 true (fun k w' => k (f5 2) w') (fun t16 w17 =>
    zb_ t10 true (fun k w' => Rd Try.prog (WS.at w17) (zyb_ 27 t16 (some (.int .i64 1)) none none) fun v => k v w') (fun t18 w19 =>
    zb_ t10 true (fun k w' => k (f5 11) w') (fun t20 w21 =>
    zb_ t10 true (fun k w' => k (f5 4) w') (fun t22 w23 =>
    zb_ t10 true (fun k w' => CallK Try.prog 180 [t12, t14, t18, t20, t22] k w') (fun t24 w25 =>
    Rd Try.prog (WS.at w25) (zcb_ t10 t24 (.bool false)) fun t26 =>
    zk_ t26
     (Q4 .ret (F.upd (F.upd (F.upd (F.upd (F.upd (F.upd (F.upd (F.upd (F.upd (F.upd (F.upd (F.upd (F.upd (F.upd (F.upd (F.upd (F.upd (F.upd (F.upd (F.upd (F.upd f5 19 (f5 11)) 20 (f5 4)) 21 t7) 24 (f5 0)) 25 (f5 1)) 26 (f5 2)) 27 t8) 28 t9) 29 (f5 3)) 30 (f5 11)) 31 t10) 32 t10) 33 t12) 34 t14) 35 t16) 36 t18) 37 t20) 38 t22) 39 t24) 40 t26) 10 (.bool true)) w25)
     (Rd Try.prog (WS.at w25) (sBin .add 3 true (f5 11) (.int .i64 1)) fun t27 =>
     Q4 .normal (F.upd (F.upd (F.upd (F.upd (F.upd (F.upd (F.upd (F.upd (F.upd (F.upd (F.upd (F.upd (F.upd (F.upd (F.upd (F.upd (F.upd (F.upd (F.upd (F.upd (F.upd (F.upd (F.upd f5 19 (f5 11)) 20 (f5 4)) 21 t7) 24 (f5 0)) 25 (f5 1)) 26 (f5 2)) 27 t8) 28 t9) 29 (f5 3)) 30 (f5 11)) 31 t10) 32 t10) 33 t12) 34 t14) 35 t16) 36 t18) 37 t20) 38 t22) 39 t24) 40 t26) 22 (f5 11)) 23 t27) 11 t27) w25)) w23) w21) w19) w17) w15) w13) w11) w6)
    (Q4 (.exit 0) (F.upd (F.upd (F.upd f5 19 (f5 11)) 20 (f5 4)) 21 t7) w6))
   (zr_ 0 (seqQ (fun f28 w29 =>
  k (.bool false) w29) (zt_ Try.prog [.tmp 10] k)))
   (F.upd (F.upd (F.upd (F.upd (F.upd (F.upd (zp_ [v0, v1, v2, v3, v4]) 10 (.bool false)) 12 v2) 13 t1) 14 t2) 18 v3) 11 v3) w)
theorem body180 : Try.f180.body = some (zg_ Try.f180) := by kernel_rfl
theorem same180 (v0 v1 v2 v3 v4 : Value) (k : Value → World → Prop) (w : World) : wpF Try.prog pl180 (zg_ Try.f180) (zt_ Try.prog Try.f180.results.toList k) (zp_ [v0, v1, v2, v3, v4]) w = S180 v0 v1 v2 v3 v4 k w := by kernel_rfl
theorem enter180 {v0 v1 v2 v3 v4 : Value} {k : Value → World → Prop} {w : World} (h : S180 v0 v1 v2 v3 v4 k w) : CallK Try.prog 180 [v0, v1, v2, v3, v4] k w :=
  zi_ (pl := pl180) zbb_ Try.func180 body180 (by kernel_rfl) (of_decide_eq_true (by kernel_rfl)) (by kernel_rfl) (by kernel_rfl) (Eq.mpr (same180 v0 v1 v2 v3 v4 k w) h)

def pl162 : Plans := fun _ => ⟨false, [], .nil⟩
def S162 (v0 v1 v2 : Value) (k : Value → World → Prop) (w : World) : Prop :=
 Do Try.prog (sBox 26 v0) (fun t1 w2 =>
 Rd Try.prog (WS.at w2) (zc_ 26 t1) fun t3 =>
 CallK Try.prog 171 [t3, v2] (fun t4 w5 =>
 Rd Try.prog (WS.at w5) (zd_ 192 t4 v1) fun t6 =>
 Rd Try.prog (WS.at w5) (zc_ 191 t6) fun t7 =>
 Rd Try.prog (WS.at w5) (ze_ .len #[27] 3 [false] [v2]) fun t8 =>
 Rd Try.prog (WS.at w5) (zd_ 191 t7 t8) fun t9 =>
 Rd Try.prog (WS.at w5) (zc_ 4 t9) fun t10 =>
 k t10 w5) w2) w
theorem body162 : Try.f162.body = some (zg_ Try.f162) := by kernel_rfl
theorem same162 (v0 v1 v2 : Value) (k : Value → World → Prop) (w : World) : wpF Try.prog pl162 (zg_ Try.f162) (zt_ Try.prog Try.f162.results.toList k) (zp_ [v0, v1, v2]) w = S162 v0 v1 v2 k w := by kernel_rfl
theorem enter162 {v0 v1 v2 : Value} {k : Value → World → Prop} {w : World} (h : S162 v0 v1 v2 k w) : CallK Try.prog 162 [v0, v1, v2] k w :=
  zi_ (pl := pl162) zbb_ Try.func162 body162 (by kernel_rfl) (of_decide_eq_true (by kernel_rfl)) (by kernel_rfl) (by kernel_rfl) (Eq.mpr (same162 v0 v1 v2 k w) h)

def pl184 : Plans := fun _ => ⟨false, [], .nil⟩
def S184 (v0 v1 v2 v3 v4 : Value) (k : Value → World → Prop) (w : World) : Prop :=
 Rd Try.prog (WS.at w) (sBin .lss 3 true v2 (.int .i64 0)) fun t1 =>
 zk_ t1
  (Rd Try.prog (WS.at w) (sBin .add 3 true v3 (.int .i64 1)) fun t2 =>
  Rd Try.prog (WS.at w) (sBin .eql 3 false v4 t2) fun t3 =>
  zb_ t3 true (fun k w' => k v1 w') (fun t4 w5 =>
  zb_ t3 true (fun k w' => k v3 w') (fun t6 w7 =>
  zb_ t3 true (fun k w' => Rd Try.prog (WS.at w7) (zd_ 27 t4 t6) fun v => k v w') (fun t8 w9 =>
  zb_ t3 true (fun k w' => Rd Try.prog (WS.at w9) (zc_ 3 t8) fun v => k v w') (fun t10 w11 =>
  zb_ t3 true (fun k w' => k v2 w') (fun t12 w13 =>
  zb_ t3 true (fun k w' => Rd Try.prog (WS.at w13) (sBin .sub 3 true (.int .i64 (-1)) t12) fun v => k v w') (fun t14 w15 =>
  zb_ t3 true (fun k w' => Rd Try.prog (WS.at w15) (sBin .eql 3 false t10 t14) fun v => k v w') (fun t16 w17 =>
  Rd Try.prog (WS.at w17) (zcb_ t3 t16 (.bool false)) fun t18 =>
  k t18 w17) w15) w13) w11) w9) w7) w5) w)
  (Rd Try.prog (WS.at w) (zd_ 192 v0 v2) fun t19 =>
  Rd Try.prog (WS.at w) (zc_ 191 t19) fun t20 =>
  Rd Try.prog (WS.at w) (ze_ .len #[27] 3 [false] [v1]) fun t21 =>
  Rd Try.prog (WS.at w) (sBin .add 3 true t21 (.int .i64 1)) fun t22 =>
  Rd Try.prog (WS.at w) (sBin .mul 3 false v3 t22) fun t23 =>
  Rd Try.prog (WS.at w) (sBin .add 3 false t23 v4) fun t24 =>
  Rd Try.prog (WS.at w) (zd_ 191 t20 t24) fun t25 =>
  Rd Try.prog (WS.at w) (zc_ 4 t25) fun t26 =>
  k t26 w)
theorem body184 : Try.f184.body = some (zg_ Try.f184) := by kernel_rfl
theorem same184 (v0 v1 v2 v3 v4 : Value) (k : Value → World → Prop) (w : World) : wpF Try.prog pl184 (zg_ Try.f184) (zt_ Try.prog Try.f184.results.toList k) (zp_ [v0, v1, v2, v3, v4]) w = S184 v0 v1 v2 v3 v4 k w := by kernel_rfl
theorem enter184 {v0 v1 v2 v3 v4 : Value} {k : Value → World → Prop} {w : World} (h : S184 v0 v1 v2 v3 v4 k w) : CallK Try.prog 184 [v0, v1, v2, v3, v4] k w :=
  zi_ (pl := pl184) zbb_ Try.func184 body184 (by kernel_rfl) (of_decide_eq_true (by kernel_rfl)) (by kernel_rfl) (by kernel_rfl) (Eq.mpr (same184 v0 v1 v2 v3 v4 k w) h)

def pl171 : Plans := fun _ => ⟨false, [], .nil⟩
def S171 (v0 v1 : Value) (k : Value → World → Prop) (w : World) : Prop :=
 Do Try.prog (sBox 26 v0) (fun t1 w2 =>
 Rd Try.prog (WS.at w2) (ze_ .len #[27] 3 [false] [v1]) fun t3 =>
 Rd Try.prog (WS.at w2) (sBin .add 3 true t3 (.int .i64 1)) fun t4 =>
 Rd Try.prog (WS.at w2) (za_ 26 t1 0) fun t5 =>
 Rd Try.prog (WS.at w2) (zc_ 3 t5) fun t6 =>
 Do Try.prog (zrc_ 192 t6 t6) (fun t7 w8 =>
 Rd Try.prog (WS.at w8) (ze_ .len #[192] 3 [false] [t7]) fun t9 =>
 zfb_ [22, 23, 7, 24, 25, 26, 27, 28, 29, 30, 31, 21] (fun Q10 f11 w12 =>
  Rd Try.prog (WS.at w12) (sBin .lss 3 false (f11 21) (f11 20)) fun t13 =>
  zk_ t13
   (Rd Try.prog (WS.at w12) (sBin .mul 3 false (f11 5) (f11 5)) fun t14 =>
   Do Try.prog (zrc_ 191 t14 t14) (fun t15 w16 =>
   Rd Try.prog (WS.at w16) (zd_ 192 (f11 6) (f11 21)) fun t17 =>
   Do Try.prog (zu_ 191 t17 t15) (fun _ w18 =>
   Rd Try.prog (WS.at w18) (sBin .add 3 true (f11 21) (.int .i64 1)) fun t19 =>
   Q10 .normal (F.upd (F.upd (F.upd (F.upd (F.upd (F.upd (F.upd (F.upd (F.upd (F.upd (F.upd (F.upd f11 22 t13) 23 (f11 21)) 7 (f11 21)) 24 (f11 6)) 25 (f11 21)) 26 (f11 5)) 27 (f11 5)) 28 t14) 29 t15) 30 t17) 31 t19) 21 t19) w18) w16) w12)
   (Q10 (.exit 0) (F.upd f11 22 t13) w12))
  (zr_ 0 (seqQ (fun f20 w21 =>
 zfb_ [32, 8, 33, 34, 35, 36, 37, 38, 39, 10, 11, 40, 41, 42, 45, 12, 46, 47, 48, 51, 52, 53, 54, 55, 56, 57, 58, 59, 60, 61, 62, 63, 64, 65, 66, 67, 68, 69, 70, 71, 72, 73, 74, 75, 76, 77, 78, 79, 80, 81, 82, 83, 8, 49, 50, 12, 43, 44, 11, 84, 36] (fun Q22 f23 w24 =>
  zk_ (f23 8)
   (Rd Try.prog (WS.at w24) (za_ 26 (f23 2) 2) fun t25 =>
   Rd Try.prog (WS.at w24) (zc_ 24 t25) fun t26 =>
   Rd Try.prog (WS.at w24) (ze_ .len #[24] 3 [false] [t26]) fun t27 =>
   zfb_ [37, 38, 39, 10, 11, 40, 41, 42, 45, 12, 46, 47, 48, 51, 52, 53, 54, 55, 56, 57, 58, 59, 60, 61, 62, 63, 64, 65, 66, 67, 68, 69, 70, 71, 72, 73, 74, 75, 76, 77, 78, 79, 80, 81, 82, 83, 8, 49, 50, 12, 43, 44, 11, 84, 36] (fun Q28 f29 w30 =>
    Rd Try.prog (WS.at w30) (sBin .lss 3 false (f29 36) (f29 35)) fun t31 =>
    zk_ t31
     (Rd Try.prog (WS.at w30) (zd_ 24 (f29 34) (f29 36)) fun t32 =>
     Rd Try.prog (WS.at w30) (zc_ 106 t32) fun t33 =>
     Do Try.prog (zib_ 106) (fun t34 w35 =>
     Do Try.prog (zu_ 106 t34 t33) (fun _ w36 =>
     zfb_ [40, 41, 42, 45, 12, 46, 47, 48, 51, 52, 53, 54, 55, 56, 57, 58, 59, 60, 61, 62, 63, 64, 65, 66, 67, 68, 69, 70, 71, 72, 73, 74, 75, 76, 77, 78, 79, 80, 81, 82, 83, 8, 49, 50, 12, 43, 44, 11] (fun Q37 f38 w39 =>
      Rd Try.prog (WS.at w39) (sBin .lss 3 false (f38 11) (f38 5)) fun t40 =>
      zk_ t40
       (zfb_ [46, 47, 48, 51, 52, 53, 54, 55, 56, 57, 58, 59, 60, 61, 62, 63, 64, 65, 66, 67, 68, 69, 70, 71, 72, 73, 74, 75, 76, 77, 78, 79, 80, 81, 82, 83, 8, 49, 50, 12] (fun Q41 f42 w43 =>
        Rd Try.prog (WS.at w43) (sBin .lss 3 false (f42 12) (f42 5)) fun t44 =>
        zk_ t44
         (Join (fun K45 =>
         Rd Try.prog (WS.at w43) (za_ 106 (f42 10) 0) fun t48 =>
         Rd Try.prog (WS.at w43) (zc_ 3 t48) fun t49 =>
         Rd Try.prog (WS.at w43) (zd_ 192 (f42 6) t49) fun t50 =>
         Rd Try.prog (WS.at w43) (zc_ 191 t50) fun t51 =>
         Rd Try.prog (WS.at w43) (sBin .mul 3 false (f42 11) (f42 5)) fun t52 =>
         Rd Try.prog (WS.at w43) (sBin .add 3 false t52 (f42 12)) fun t53 =>
         Rd Try.prog (WS.at w43) (zd_ 191 t51 t53) fun t54 =>
         Rd Try.prog (WS.at w43) (zc_ 4 t54) fun t55 =>
         Rd Try.prog (WS.at w43) (sUn .not t55) fun t56 =>
         zb_ t56 true (fun k w' => k (f42 6) w') (fun t57 w58 =>
         zb_ t56 true (fun k w' => k (f42 1) w') (fun t59 w60 =>
         zb_ t56 true (fun k w' => Rd Try.prog (WS.at w60) (za_ 106 (f42 10) 1) fun v => k v w') (fun t61 w62 =>
         zb_ t56 true (fun k w' => Rd Try.prog (WS.at w62) (zc_ 27 t61) fun v => k v w') (fun t63 w64 =>
         zb_ t56 true (fun k w' => k (f42 11) w') (fun t65 w66 =>
         zb_ t56 true (fun k w' => k (f42 12) w') (fun t67 w68 =>
         zb_ t56 true (fun k w' => CallK Try.prog 180 [t57, t59, t63, t65, t67] k w') (fun t69 w70 =>
         Rd Try.prog (WS.at w70) (zcb_ t56 t69 (.bool false)) fun t71 =>
         zk_ t71
          (Rd Try.prog (WS.at w70) (za_ 106 (f42 10) 0) fun t72 =>
          Rd Try.prog (WS.at w70) (zc_ 3 t72) fun t73 =>
          Rd Try.prog (WS.at w70) (zd_ 192 (f42 6) t73) fun t74 =>
          Rd Try.prog (WS.at w70) (zc_ 191 t74) fun t75 =>
          Rd Try.prog (WS.at w70) (sBin .mul 3 false (f42 11) (f42 5)) fun t76 =>
          Rd Try.prog (WS.at w70) (sBin .add 3 false t76 (f42 12)) fun t77 =>
          Rd Try.prog (WS.at w70) (zd_ 191 t75 t77) fun t78 =>
          Do Try.prog (zu_ 4 t78 (.bool true)) (fun _ w79 =>
          K45 (F.upd (F.upd (F.upd (F.upd (F.upd (F.upd (F.upd (F.upd (F.upd (F.upd (F.upd (F.upd (F.upd (F.upd (F.upd (F.upd (F.upd (F.upd (F.upd (F.upd (F.upd (F.upd (F.upd (F.upd (F.upd (F.upd (F.upd (F.upd (F.upd (F.upd (F.upd (F.upd (F.upd (F.upd (F.upd (F.upd (F.upd f42 46 (f42 12)) 47 (f42 5)) 48 t44) 51 (f42 6)) 52 t48) 53 t49) 54 t50) 55 t51) 56 (f42 11)) 57 (f42 5)) 58 t52) 59 (f42 12)) 60 t53) 61 t54) 62 t55) 63 t56) 64 t56) 65 t57) 66 t59) 67 t61) 68 t63) 69 t65) 70 t67) 71 t69) 72 t71) 73 (f42 6)) 74 t72) 75 t73) 76 t74) 77 t75) 78 (f42 11)) 79 (f42 5)) 80 t76) 81 (f42 12)) 82 t77) 83 t78) 8 (.bool true)) w79) w70)
          (K45 (F.upd (F.upd (F.upd (F.upd (F.upd (F.upd (F.upd (F.upd (F.upd (F.upd (F.upd (F.upd (F.upd (F.upd (F.upd (F.upd (F.upd (F.upd (F.upd (F.upd (F.upd (F.upd (F.upd (F.upd (F.upd f42 46 (f42 12)) 47 (f42 5)) 48 t44) 51 (f42 6)) 52 t48) 53 t49) 54 t50) 55 t51) 56 (f42 11)) 57 (f42 5)) 58 t52) 59 (f42 12)) 60 t53) 61 t54) 62 t55) 63 t56) 64 t56) 65 t57) 66 t59) 67 t61) 68 t63) 69 t65) 70 t67) 71 t69) 72 t71) w70)) w68) w66) w64) w62) w60) w58) w43) (fun f46 w47 =>
         Rd Try.prog (WS.at w47) (sBin .add 3 true (f46 12) (.int .i64 1)) fun t80 =>
         Q41 .normal (F.upd (F.upd (F.upd f46 49 (f46 12)) 50 t80) 12 t80) w47))
         (Q41 (.exit 8) (F.upd (F.upd (F.upd f42 46 (f42 12)) 47 (f42 5)) 48 t44) w43))
        (zr_ 8 (zr_ 7 (seqQ (fun f81 w82 =>
       Rd Try.prog (WS.at w82) (sBin .add 3 true (f81 11) (.int .i64 1)) fun t83 =>
       Q37 .normal (F.upd (F.upd (F.upd f81 43 (f81 11)) 44 t83) 11 t83) w82) Q37)))
        (F.upd (F.upd (F.upd (F.upd (F.upd f38 40 (f38 11)) 41 (f38 5)) 42 t40) 45 (f38 11)) 12 (f38 11)) w39)
       (Q37 (.exit 6) (F.upd (F.upd (F.upd f38 40 (f38 11)) 41 (f38 5)) 42 t40) w39))
      (zr_ 6 (zr_ 5 (seqQ (fun f84 w85 =>
     Rd Try.prog (WS.at w85) (sBin .add 3 true (f84 36) (.int .i64 1)) fun t86 =>
     Q28 .normal (F.upd (F.upd f84 84 t86) 36 t86) w85) Q28)))
      (F.upd (F.upd (F.upd (F.upd (F.upd f29 37 t31) 38 t32) 39 t33) 10 t34) 11 (.int .i64 0)) w36) w35) w30)
     (Q28 (.exit 4) (F.upd f29 37 t31) w30))
    (zr_ 4 (zr_ 3 Q22))
    (F.upd (F.upd (F.upd (F.upd (F.upd (F.upd f23 32 (f23 8)) 8 (.bool false)) 33 t25) 34 t26) 35 t27) 36 (.int .i64 0)) w24)
   (Q22 (.exit 2) (F.upd f23 32 (f23 8)) w24))
  (zr_ 2 (seqQ (fun f87 w88 =>
 k (f87 6) w88) (zt_ Try.prog [.tmp 4] k)))
  (F.upd f20 8 (.bool true)) w21) (zt_ Try.prog [.tmp 4] k)))
  (F.upd (F.upd (F.upd (F.upd (F.upd (F.upd (F.upd (F.upd (F.upd (F.upd (F.upd (F.upd (F.upd (zp_ [v0, v1]) 2 t1) 4 (.slice none 0 0)) 13 v1) 14 t3) 15 t4) 5 t4) 16 t5) 17 t6) 18 t7) 6 t7) 19 t7) 20 t9) 21 (.int .i64 0)) w8) w2) w
theorem body171 : Try.f171.body = some (zg_ Try.f171) := by kernel_rfl
theorem same171 (v0 v1 : Value) (k : Value → World → Prop) (w : World) : wpF Try.prog pl171 (zg_ Try.f171) (zt_ Try.prog Try.f171.results.toList k) (zp_ [v0, v1]) w = S171 v0 v1 k w := by kernel_rfl
theorem enter171 {v0 v1 : Value} {k : Value → World → Prop} {w : World} (h : S171 v0 v1 k w) : CallK Try.prog 171 [v0, v1] k w :=
  zi_ (pl := pl171) zbb_ Try.func171 body171 (by kernel_rfl) (of_decide_eq_true (by kernel_rfl)) (by kernel_rfl) (by kernel_rfl) (Eq.mpr (same171 v0 v1 k w) h)

end Go.Proofs.Yteabbgaffgpegaa

set_option linter.unusedSimpArgs false
namespace Go.Sh
open Go
structure TabS (w : World) (U : Option Addr) (nons n : Nat) (T : Tab) : Prop where
  ptr : 0 < nons → U = some (ad U)
  row : ∀ x, x < nons → ∃ R c, w.cell? ((ad U).add x) = some (.slice R (n * n) c) ∧ R = some (ad R) ∧ ∀ i j, i < n → j < n → w.cell? ((ad R).add (i * n + j)) = some (.bool (T x i j))
theorem TabS.gr {w w' : World} {U : Option Addr} {nons n : Nat} {T : Tab} (h : TabS w U nons n T) (g : Gr w w') : TabS w' U nons n T := ⟨h.ptr, fun x hx => by
  obtain ⟨R, c, h1, h2, h3⟩ := h.row x hx
  exact ⟨R, c, g.cell h1, h2, fun i j hi hj => g.cell (h3 i j hi hj)⟩⟩
def rowB (T : Tab) (n x : Nat) : List Value := (List.range (n * n)).map fun p => .bool (T x (p / n) (p % n))
def zcd_ (T : Tab) (nons n : Nat) : List (List Value) := (List.range nons).map (rowB T n)
theorem zge_ (T : Tab) (n x : Nat) : (rowB T n x).length = n * n := by simp [rowB]
theorem zwc_ (T : Tab) (nons n : Nat) : (zcd_ T nons n).length = nons := by simp [zcd_]
theorem zwg_ {T : Tab} {nons n x : Nat} (h : x < nons) : vls (zcd_ T nons n) x = rowB T n x := by
  rw [vls_eq (by rw [zwc_]; exact h)]
  simp [zcd_]
theorem zaf_ {n i j : Nat} (hi : i < n) (hj : j < n) : i * n + j < n * n := by
  have : (i + 1) * n ≤ n * n := Nat.mul_le_mul_right n hi
  rw [Nat.add_mul] at this
  omega
theorem rowB_at {T : Tab} {n x i j : Nat} (hi : i < n) (hj : j < n) : (rowB T n x)[i * n + j]? = some (.bool (T x i j)) := by
  have hn : 0 < n := by omega
  have e1 : (i * n + j) / n = i := by rw [Nat.mul_comm, Nat.mul_add_div hn, Nat.div_eq_of_lt hj, Nat.add_zero]
  have e2 : (i * n + j) % n = j := by rw [Nat.mul_comm, Nat.mul_add_mod, Nat.mod_eq_of_lt hj]
  simp [rowB, zaf_ hi hj, e1, e2]
theorem rowB_put {T : Tab} {n x i j : Nat} (hi : i < n) (hj : j < n) : (rowB T n x).set (i * n + j) (.bool true) = rowB (T.put x i j) n x := by
  have hn : 0 < n := by omega
  refine List.ext_getElem? fun p => ?_
  rw [List.getElem?_set]
  by_cases hp : i * n + j = p
  · subst hp
    rw [if_pos rfl, if_pos (by rw [zge_]; exact zaf_ hi hj), rowB_at hi hj]
    simp [Tab.put]
  · rw [if_neg hp]
    simp only [rowB, List.getElem?_map, List.getElem?_range']
    by_cases hlt : p < n * n
    · simp only [List.getElem?_range hlt, Option.map_some, Tab.put]
      have : ¬ (x = x ∧ p / n = i ∧ p % n = j) := by
        rintro ⟨_, h1, h2⟩
        apply hp
        have := Nat.div_add_mod p n
        rw [h1, h2, Nat.mul_comm] at this
        exact this
      rw [if_neg (fun h => this ⟨rfl, h.2⟩)]
    · rw [List.getElem?_eq_none (by simp; omega)]
      rfl
theorem rowB_other {T : Tab} {n x y i j : Nat} (h : y ≠ x) : rowB (T.put x i j) n y = rowB T n y := by
  simp [rowB, Tab.put, h]
theorem rowsB_put {T : Tab} {nons n x i j : Nat} (hx : x < nons) (hi : i < n) (hj : j < n) : (zcd_ T nons n).set x ((vls (zcd_ T nons n) x).set (i * n + j) (.bool true)) = zcd_ (T.put x i j) nons n := by
  rw [zwg_ hx, rowB_put hi hj]
  refine List.ext_getElem? fun p => ?_
  rw [List.getElem?_set]
  by_cases hp : x = p
  · subst hp
    rw [if_pos rfl, if_pos (by rw [zwc_]; exact hx)]
    simp [zcd_, hx]
  · rw [if_neg hp]
    by_cases hlt : p < nons
    · simp [zcd_, hlt, rowB_other (fun e => hp e.symm)]
    · rw [List.getElem?_eq_none (by rw [zwc_]; omega), List.getElem?_eq_none (by rw [zwc_]; omega)]
theorem OwnV.tab {e1 e2 : Nat} {w : World} {B c nons n : Nat} {X : Option Addr} {T : Tab} {ps : Nat → Option Addr × Nat} (h : OwnV e1 e2 w B X c (zcd_ T nons n) ps) (hn : 0 < n) : TabS w X nons n T := by
  refine ⟨fun hp => h.ptr (by rw [zwc_]; exact hp), fun x hx => ?_⟩
  have hx' : x < (zcd_ T nons n).length := by rw [zwc_]; exact hx
  have hc := h.cell hx'
  have ho := h.own x hx'
  rw [zwg_ hx, zge_] at hc ho
  refine ⟨_, _, hc, ho.ptr (Nat.mul_pos hn hn), fun i j hi hj => ho.src.cell _ _ (rowB_at hi hj)⟩
theorem zaj_ {α : Type} (f : α → Nat → α) (s : α) (n : Nat) : (List.range (n + 1)).foldl f s = f ((List.range n).foldl f s) n := by
  rw [List.range_succ, List.foldl_append]
  rfl
theorem zji_ {α : Type} (f : α → Nat → α) (s : α) (a n : Nat) : (List.range' a (n + 1)).foldl f s = f ((List.range' a n).foldl f s) (a + n) := by
  rw [List.range'_concat, List.foldl_append]
  simp
theorem zhk_ {α : Type} (f : α → RuleL → α) (s : α) (rs : List RuleL) {n : Nat} (h : n < rs.length) : (rs.take (n + 1)).foldl f s = f ((rs.take n).foldl f s) (rul rs n) := by
  rw [List.take_succ_eq_append_getElem h, List.foldl_append, zic_ h]
  rfl
end Go.Sh
namespace Go.Proofs.Yteabbgaffgpegaa
open Go Go.Sh Go.RowKit

theorem l4Symbol_c {w : World} {U X : Option Addr} {cu cx nons : Nat} {T : Tab} {ws : List Int} {x : Int} {i j : Nat} (hT : TabS w U nons (ws.length + 1) T) (hX : Ints w X ws) (hl : ws.length ≤ 10) (hx : x < nons) (hx0 : -100 ≤ x) (hi : i ≤ j) (hj : j ≤ ws.length) {k : Value → World → Prop} (hk : k (.bool (symT T ws x i j)) w) :
    CallK Try.prog 184 [.slice U nons cu, .slice X ws.length cx, .int .i64 x, .int .i64 i, .int .i64 j] k w := by
  refine enter184 ?_
  unfold S184
  simp only [go_sem, Nat.reduceEqDiff]
  by_cases hneg : x < 0
  · simp only [hneg, decide_true, go_sem, Nat.reduceEqDiff]
    rw [zm_ (n := (i : Int) + 1) (by omega) (by omega)]
    unfold symT at hk
    rw [if_pos hneg] at hk
    by_cases he : j = i + 1
    · subst he
      simp only [show (((i + 1 : Nat) : Int) = (i : Int) + 1) from rfl, decide_true, go_sem, Nat.reduceEqDiff]
      rw [zwb_ hX.ptr (by omega), ld3 (hX.cell i (by omega))]
      simp only [go_sem, Nat.reduceEqDiff]
      rw [zm_ (by omega) (by omega)]
      simpa only [decide_true, Bool.true_and] using hk
    · simp only [show ¬ ((j : Int) = (i : Int) + 1) from by omega, decide_false, go_sem, Nat.reduceEqDiff]
      simpa only [he, decide_false, Bool.false_and] using hk
  · simp only [hneg, decide_false, go_sem, Nat.reduceEqDiff]
    unfold symT at hk
    rw [if_neg hneg] at hk
    obtain ⟨x, rfl⟩ : ∃ x' : Nat, x = x' := ⟨x.toNat, by omega⟩
    rw [Int.toNat_natCast] at hk
    obtain ⟨R, c, h1, h2, h3⟩ := hT.row x (by omega)
    have hm : (i : Int) * ((ws.length : Int) + 1) = ((i * (ws.length + 1) : Nat) : Int) := by push_cast; rfl
    have hb := zaf_ (n := ws.length + 1) (show i < ws.length + 1 by omega) (show j < ws.length + 1 by omega)
    have hnn : (ws.length + 1) * (ws.length + 1) ≤ 11 * 11 := Nat.mul_le_mul (by omega) (by omega)
    rw [ixn192 (fun h => hT.ptr h) (by omega), ld191 h1, zm_ (n := (ws.length : Int) + 1) (by omega) (by omega), hm, zm_ (n := ((i * (ws.length + 1) : Nat) : Int)) (by omega) (by omega), zm_ (by omega) (by omega)]
    rw [show (((i * (ws.length + 1) : Nat) : Int) + (j : Int)) = ((i * (ws.length + 1) + j : Nat) : Int) from by push_cast; rfl]
    rw [ixn191 (fun _ => h2) hb, ld4 (h3 i j (by omega) (by omega))]
    exact hk
theorem l4Fits_c {ws : List Int} (hl : ws.length ≤ 10) {nons : Nat} : ∀ (right : List Int) {w : World} {U X Y : Option Addr} {cu cx cy : Nat} {T : Tab} {i j : Nat} {k : Value → World → Prop}, TabS w U nons (ws.length + 1) T → Ints w X ws → Ints w Y right → right.length ≤ cy → (∀ x ∈ right, x < nons ∧ -100 ≤ x) → i ≤ j → j ≤ ws.length → k (.bool (zxb_ T ws right i j)) w →
    CallK Try.prog 180 [.slice U nons cu, .slice X ws.length cx, .slice Y right.length cy, .int .i64 i, .int .i64 j] k w := by
  intro right
  induction right with
  | nil =>
    intro w U X Y cu cx cy T i j k hT hX hY hcy hr hi hj hk
    refine enter180 ?_
    unfold S180
    simp only [go_sem, List.length_nil]
    simp only [Int.natCast_zero, decide_true, go_sem, Nat.reduceEqDiff, Int.natCast_inj]
    exact hk
  | cons x right ih =>
    intro w U X Y cu cx cy T i j k hT hX hY hcy hr hi hj hk
    refine enter180 ?_
    unfold S180
    simp only [go_sem, List.length_cons]
    simp only [show ¬ (((right.length + 1 : Nat) : Int) = 0) from by omega, decide_false, go_sem, Nat.reduceEqDiff]
    have hfs : zxb_ T ws (x :: right) i j = (List.range' i (j + 1 - i)).any fun m => symT T ws x i m && zxb_ T ws right m j := rfl
    rw [hfs] at hk
    have hx := hr x (List.mem_cons_self ..)
    have hr' : ∀ y ∈ right, y < nons ∧ -100 ≤ y := fun y hy => hr y (List.mem_cons_of_mem _ hy)
    have hYl := hY.le
    simp only [List.length_cons] at hYl hcy
    have hY' : Ints w (sub Y 1 cy 1) right := by
      have := hY.sub (l := 1) (c := cy) (by simp) (by simp; omega) (right.length)
      simpa using this
    refine zhb_ (j + 1) i (fun m f w' => i ≤ m ∧ m ≤ j + 1 ∧ f 11 = .int .i64 m ∧ (∀ m', i ≤ m' → m' < m → (symT T ws x i m' && zxb_ T ws right m' j) = false) ∧ w' = w) ⟨Nat.le_refl _, by omega, rfl, fun m' h1 h2 => by omega, rfl⟩ ?_
    rintro m f w' N hag ⟨hm1, hm2, h11, hno, rfl⟩ hN
    have f0 : f 0 = .slice U nons cu := hag 0 (by decide)
    have f1 : f 1 = .slice X ws.length cx := hag 1 (by decide)
    have f2 : f 2 = .slice Y (right.length + 1) cy := hag 2 (by decide)
    have f3 : f 3 = .int .i64 i := hag 3 (by decide)
    have f4 : f 4 = .int .i64 j := hag 4 (by decide)
    simp only [f0, f1, f2, f3, f4, h11, go_sem, Nat.reduceEqDiff]
    by_cases hle : m ≤ j
    case neg =>
      simp only [show ¬ ((m : Int) ≤ j) from by omega, decide_false, go_sem, Nat.reduceEqDiff]
      rw [any_upto (fun m' h1 h2 => hno m' h1 (by omega))] at hk
      exact hk
    simp only [show ((m : Int) ≤ j) from by omega, decide_true, go_sem, Nat.reduceEqDiff]
    rw [ix27_0 (fun _ => hY.ptr (by simp)) (by omega), ld3 (hY.cell 0 (by simp))]
    simp only [List.getD_cons_zero]
    refine l4Symbol_c hT hX hl hx.1 hx.2 hm1 (by omega) ?_
    cases hs : symT T ws x i m
    · simp only [go_sem, Nat.reduceEqDiff]
      rw [zm_ (by omega) (by omega)]
      exact hN _ _ (by omega) ⟨by omega, by omega, rfl, fun m' h1 h2 => by
        by_cases e : m' = m
        · rw [e, hs, Bool.false_and]
        · exact hno m' h1 (by omega), rfl⟩
    · simp only [go_sem, Nat.reduceEqDiff]
      rw [sll27 (by decide) (by omega)]
      rw [show (1 : Int).toNat = 1 from rfl, Nat.add_sub_cancel]
      refine ih hT hX hY' (by omega) hr' (by omega) hj ?_
      cases hf : zxb_ T ws right m j
      · simp only [go_sem, Nat.reduceEqDiff]
        rw [zm_ (by omega) (by omega)]
        exact hN _ _ (by omega) ⟨by omega, by omega, rfl, fun m' h1 h2 => by
          by_cases e : m' = m
          · rw [e, hf, Bool.and_false]
          · exact hno m' h1 (by omega), rfl⟩
      · simp only [go_sem, Nat.reduceEqDiff]
        rw [any_at hm1 hle (by rw [hs, hf]; rfl)] at hk
        exact hk
end Go.Proofs.Yteabbgaffgpegaa

namespace Go.Sh
open Go
end Go.Sh
namespace Go.Proofs.Yteabbgaffgpegaa
open Go Go.Sh Go.RowKit

end Go.Proofs.Yteabbgaffgpegaa

namespace Go.Sh
open Go
end Go.Sh
namespace Go.Proofs.Yteabbgaffgpegaa
open Go Go.Sh Go.RowKit

end Go.Proofs.Yteabbgaffgpegaa

namespace Go.Sh
open Go
structure Whole (gm : Gram) (tree : List Int) (p : PT) (ws : List Int) : Prop where
  good : zab_ gm = true
  le : tree.length ≤ 60
  read : readT gm.rules tree tree.length 0 0 [] = some (p, ws)
  fin : p.fin = tree.length
theorem Whole.laid {gm : Gram} {tree : List Int} {p : PT} {ws : List Int} (h : Whole gm tree p ws) : Laid p.parts 0 := (zfk_ _ _ _ _ _ _ _ _ h.read).1
theorem Whole.len {gm : Gram} {tree : List Int} {p : PT} {ws : List Int} (h : Whole gm tree p ws) : p.parts.length = tree.length := by
  have := (zfk_ _ _ _ _ _ _ _ _ h.read).2.1
  have := h.fin
  omega
theorem Whole.words {gm : Gram} {tree : List Int} {p : PT} {ws : List Int} (h : Whole gm tree p ws) : ws.length ≤ 240 := by
  have := (readT_words (zhi_ h.good) _ _ _ _ _ _ h.read).2
  have := h.len
  have := h.le
  simp at *
  omega
theorem asked_whole {gm : Gram} {tree : List Int} : (ztf_ gm tree = true → ∃ p ws, Whole gm tree p ws) ∧ (ztf_ gm tree = false → ∀ p ws, ¬ Whole gm tree p ws) := by
  have he := endT_eq gm.rules tree tree.length 0 0 []
  constructor
  · intro h
    simp only [ztf_, isT, Bool.and_eq_true, decide_eq_true_eq] at h
    rw [h.2.2] at he
    cases hz : readT gm.rules tree tree.length 0 0 [] with
    | none => rw [hz] at he; cases he
    | some z =>
      rw [hz] at he
      exact ⟨z.1, z.2, h.1.1, h.1.2, hz, by simpa using he.symm⟩
  · intro h p ws hw
    have h1 : ztf_ gm tree = true := by
      simp only [ztf_, isT, Bool.and_eq_true, decide_eq_true_eq]
      refine ⟨⟨hw.good, hw.le⟩, ?_, ?_⟩
      · have := hw.len
        rw [parts_cons] at this
        simp at this
        omega
      · rw [he, hw.read]
        simp [hw.fin]
    rw [h] at h1
    cases h1
end Go.Sh
namespace Go.Proofs.Yteabbgaffgpegaa
open Go Go.Sh Go.RowKit

end Go.Proofs.Yteabbgaffgpegaa

namespace Go.Sh
open Go
def wholeP (gm : Gram) (tree : List Int) : Option PT := if ztf_ gm tree = true then (readT gm.rules tree tree.length 0 0 []).map fun z => z.1 else none
theorem Whole.eq {gm : Gram} {tree : List Int} {p : PT} {ws : List Int} (h : Whole gm tree p ws) : wholeP gm tree = some p := by
  have ha : ztf_ gm tree = true := by
    cases e : ztf_ gm tree with
    | true => rfl
    | false => exact absurd h (asked_whole.2 e p ws)
  unfold wholeP
  rw [if_pos ha, h.read]
  rfl
end Go.Sh
namespace Go.Proofs.Yteabbgaffgpegaa
open Go Go.Sh Go.RowKit


end Go.Proofs.Yteabbgaffgpegaa

namespace Go.Sh
open Go
theorem AllPt.same {F : Nat → Prop} {w w' : World} {ps : List PT} {bs : List Nat} (h : AllPt F w ps bs) (hs : ∀ q, F q → w'.heap[q]? = w.heap[q]?) : AllPt F w' ps bs := ⟨h.1, fun i hi => PartAt.same hs _ _ (h.2 i hi)⟩
theorem AllPt.mono {F E : Nat → Prop} {w : World} {ps : List PT} {bs : List Nat} (h : AllPt F w ps bs) (he : ∀ q, F q → E q) : AllPt E w ps bs := ⟨h.1, fun i hi => PartAt.mono he _ _ (h.2 i hi)⟩
theorem good_symb {g : Gram} (hg : zab_ g = true) {q : Nat} (hq : q < g.rules.length) {i : Nat} (hi : i < (rul g.rules q).2.length) : -4 ≤ (rul g.rules q).2.getD i 0 ∧ (rul g.rules q).2.getD i 0 ≤ 5 ∧ -g.toks ≤ (rul g.rules q).2.getD i 0 ∧ (rul g.rules q).2.getD i 0 ≤ g.nons - 1 := by
  have hn := zjc_ hg
  have ht := zdd_ hg
  simp only [zab_, Bool.and_eq_true, List.all_eq_true] at hg
  have h1 := hg.2 q (List.mem_range.2 hq)
  simp only [zbd_, Bool.and_eq_true, List.all_eq_true] at h1
  have h2 := h1.1.2 _ (zec_ hi)
  simp only [symB, inB, Bool.and_eq_true, decide_eq_true_eq] at h2
  omega
end Go.Sh
namespace Go.Proofs.Yteabbgaffgpegaa
open Go Go.Sh Go.RowKit
theorem zik_ {x : Int} {w : World} {k : Value → World → Prop} (hk : k (.int .i64 (IntKind.i64.wrap (-1 - x))) w) : CallK Try.prog 107 [.int .i64 x] k w := by
  refine enter107 ?_
  unfold S107
  simp only [go_sem, Nat.reduceEqDiff]
  exact hk
end Go.Proofs.Yteabbgaffgpegaa

namespace Go.Sh
open Go
def zkc_ (T : Tab) : List Value := (List.range 726).map fun p => .bool (cellT T p)
theorem zag_ (T : Tab) : (zkc_ T).length = 726 := by simp [zkc_]
theorem cellT_at {T : Tab} {x i j : Nat} (hi : i < 11) (hj : j < 11) : cellT T (x * 121 + i * 11 + j) = T x i j := by
  have e1 : (x * 121 + i * 11 + j) / 121 = x := by omega
  have e2 : (x * 121 + i * 11 + j) / 11 % 11 = i := by omega
  have e3 : (x * 121 + i * 11 + j) % 11 = j := by omega
  simp [cellT, e1, e2, e3]
theorem zrm_ {T : Tab} {v : Value} {x i j : Nat} (hx : x < 6) (hi : i < 11) (hj : j < 11) : (v :: zkc_ T)[x * 121 + i * 11 + j + 1]? = some (.bool (T x i j)) := by
  rw [List.getElem?_cons_succ]
  simp only [zkc_, List.getElem?_map]
  rw [List.getElem?_range (by omega)]
  simp only [Option.map_some, cellT_at hi hj]
theorem cellsT_put {T : Tab} {v : Value} {x i j : Nat} (hx : x < 6) (hi : i < 11) (hj : j < 11) : (v :: zkc_ T).set (x * 121 + i * 11 + j + 1) (.bool true) = v :: zkc_ (T.put x i j) := by
  rw [List.set_cons_succ]
  congr 1
  refine List.ext_getElem? fun p => ?_
  rw [List.getElem?_set]
  by_cases hp : x * 121 + i * 11 + j = p
  · subst hp
    rw [if_pos rfl, if_pos (by rw [zag_]; omega)]
    simp only [zkc_, List.getElem?_map]
    rw [List.getElem?_range (by omega)]
    simp only [Option.map_some, cellT_at hi hj]
    simp [Tab.put]
  · rw [if_neg hp]
    simp only [zkc_, List.getElem?_map]
    by_cases hlt : p < 726
    · rw [List.getElem?_range hlt]
      simp only [Option.map_some, cellT, Tab.put]
      have : ¬ (p / 121 = x ∧ p / 11 % 11 = i ∧ p % 11 = j) := by omega
      rw [if_neg this]
    · rw [List.getElem?_eq_none (by simp; omega)]
      rfl
theorem zrp_ {l : List Value} {m : Nat} {v : Value} (h : m < l.length) : l.take m ++ [v] ++ l.drop (m + 1) = l.set m v := by
  rw [List.set_eq_take_append_cons_drop, if_pos h]
  simp
end Go.Sh
namespace Go.Proofs.Yteabbgaffgpegaa
open Go Go.Sh Go.RowKit

theorem zjk_ {ws : List Int} (hl : ws.length ≤ 10) (hw : ∀ t ∈ ws, 0 ≤ t ∧ t ≤ 100) : ∀ (right : List Int) {w : World} {b : Nat} {X Y : Option Addr} {cx cy : Nat} {T : Tab} {i j : Nat} {k : Value → World → Prop}, Box w b (.slice X ws.length cx :: zkc_ T) 97 → Ints w X ws → Ints w Y right → right.length ≤ cy → (∀ x ∈ right, x < 6 ∧ -100 ≤ x) → i ≤ j → j ≤ ws.length → k (.bool (zxb_ T ws right i j)) w →
    CallK Try.prog 55 [ptrv b, .slice Y right.length cy, .int .i64 i, .int .i64 j] k w := by
  intro right
  induction right with
  | nil =>
    intro w b X Y cx cy T i j k hB hX hY hcy hr hi hj hk
    refine enter55 ?_
    unfold S55
    simp only [go_sem, List.length_nil]
    simp only [Int.natCast_zero, decide_true, go_sem, Nat.reduceEqDiff, Int.natCast_inj]
    exact hk
  | cons x right ih =>
    intro w b X Y cx cy T i j k hB hX hY hcy hr hi hj hk
    refine enter55 ?_
    unfold S55
    simp only [go_sem, List.length_cons]
    simp only [show ¬ (((right.length + 1 : Nat) : Int) = 0) from by omega, decide_false, go_sem, Nat.reduceEqDiff]
    have hx := hr x (List.mem_cons_self ..)
    have hr' : ∀ y ∈ right, y < 6 ∧ -100 ≤ y := fun y hy => hr y (List.mem_cons_of_mem _ hy)
    simp only [List.length_cons] at hcy
    have hY' : Ints w (sub Y 1 cy 1) right := by
      have := hY.sub (l := 1) (c := cy) (by simp) (by simp; omega) (right.length)
      simpa using this
    rw [ix27_0 (fun _ => hY.ptr (by simp)) (by omega), ld3 (hY.cell 0 (by simp))]
    simp only [List.getD_cons_zero, go_sem, Nat.reduceEqDiff]
    by_cases hneg : x < 0
    · simp only [hneg, decide_true, go_sem, Nat.reduceEqDiff]
      rw [zmj_ hneg] at hk
      by_cases hij : i < j
      case neg =>
        simp only [show ¬ ((i : Int) < j) from by omega, decide_false, go_sem, Nat.reduceEqDiff]
        simpa only [hij, decide_false, Bool.false_and] using hk
      simp only [show ((i : Int) < j) from by omega, decide_true, go_sem, Nat.reduceEqDiff]
      rw [decide_eq_true hij, Bool.true_and] at hk
      rw [zad_ hB rfl, zwb_ hX.ptr (by omega), ld3 (hX.cell i (by omega))]
      refine zik_ ?_
      have hwi := hw _ (zec_ (show i < ws.length by omega))
      rw [zm_ (by omega) (by omega)]
      simp only [go_sem, Nat.reduceEqDiff]
      by_cases he : ws.getD i 0 = -1 - x
      case neg =>
        simp only [show ¬ (-1 - ws.getD i 0 = x) from by omega, decide_false, go_sem, Nat.reduceEqDiff]
        simpa only [he, decide_false, Bool.false_and] using hk
      simp only [show (-1 - ws.getD i 0 = x) from by omega, decide_true, go_sem, Nat.reduceEqDiff]
      rw [decide_eq_true he, Bool.true_and] at hk
      rw [sll27 (by decide) (by omega), zm_ (by omega) (by omega)]
      rw [show (1 : Int).toNat = 1 from rfl, Nat.add_sub_cancel]
      refine ih (i := i + 1) hB hX hY' (by omega) hr' (by omega) hj ?_
      exact hk
    · simp only [hneg, decide_false, go_sem, Nat.reduceEqDiff]
      rw [zpj_ hneg] at hk
      obtain ⟨x, rfl⟩ : ∃ x' : Nat, x = x' := ⟨x.toNat, by omega⟩
      rw [Int.toNat_natCast] at hk
      refine zhb_ (j + 1) i (fun m f w' => i ≤ m ∧ m ≤ j + 1 ∧ f 10 = .int .i64 m ∧ (∀ m', i ≤ m' → m' < m → (T x i m' && zxb_ T ws right m' j) = false) ∧ w' = w) ⟨Nat.le_refl _, by omega, rfl, fun m' h1 h2 => by omega, rfl⟩ ?_
      rintro m f w' N hag ⟨hm1, hm2, h10, hno, rfl⟩ hN
      have f0 : f 0 = ptrv b := hag 0 (by decide)
      have f1 : f 1 = .slice Y (right.length + 1) cy := hag 1 (by decide)
      have f2 : f 2 = .int .i64 i := hag 2 (by decide)
      have f3 : f 3 = .int .i64 j := hag 3 (by decide)
      have f9 : f 9 = .int .i64 (x : Nat) := hag 9 (by decide)
      simp only [f0, f1, f2, f3, f9, h10, go_sem, Nat.reduceEqDiff]
      by_cases hle : m ≤ j
      case neg =>
        simp only [show ¬ ((m : Int) ≤ j) from by omega, decide_false, go_sem, Nat.reduceEqDiff]
        rw [any_upto (fun m' h1 h2 => hno m' h1 (by omega))] at hk
        exact hk
      simp only [show ((m : Int) ≤ j) from by omega, decide_true, go_sem, Nat.reduceEqDiff]
      rw [ixa95 (by omega) (by omega), ixa94 (by omega) (by omega), ixa93 (by omega) (by omega)]
      simp only [Int.toNat_natCast, go_sem, Nat.reduceEqDiff]
      rw [ldB4 (off := 0 + 1 + x * 121 + i * 11 + m) hB (by rw [show 0 + 1 + x * 121 + i * 11 + m = x * 121 + i * 11 + m + 1 from by omega]; exact zrm_ (by omega) (by omega) (by omega))]
      cases hs : T x i m
      · simp only [go_sem, Nat.reduceEqDiff]
        rw [zm_ (by omega) (by omega)]
        exact hN _ _ (by omega) ⟨by omega, by omega, rfl, fun m' h1 h2 => by
          by_cases e : m' = m
          · rw [e, hs, Bool.false_and]
          · exact hno m' h1 (by omega), rfl⟩
      · simp only [go_sem, Nat.reduceEqDiff]
        rw [sll27 (by decide) (by omega)]
        rw [show (1 : Int).toNat = 1 from rfl, Nat.add_sub_cancel]
        refine ih hB hX hY' (by omega) hr' (by omega) hj ?_
        cases hf : zxb_ T ws right m j
        · simp only [go_sem, Nat.reduceEqDiff]
          rw [zm_ (by omega) (by omega)]
          exact hN _ _ (by omega) ⟨by omega, by omega, rfl, fun m' h1 h2 => by
            by_cases e : m' = m
            · rw [e, hf, Bool.and_false]
            · exact hno m' h1 (by omega), rfl⟩
        · simp only [go_sem, Nat.reduceEqDiff]
          rw [any_at hm1 hle (by rw [hs, hf]; rfl)] at hk
          exact hk
end Go.Proofs.Yteabbgaffgpegaa

namespace Go.Sh
open Go
theorem zbg_ (v : Value) (n : Nat) : (madeCells #[v] (n * 1)).toList = List.replicate n v := by
  rw [Nat.mul_one]
  refine List.ext_getElem? fun i => ?_
  unfold madeCells
  by_cases h : i < n
  · simp [h, Nat.mod_one]
  · rw [List.getElem?_eq_none (by simp; omega), List.getElem?_eq_none (by simp; omega)]
theorem rowB_none (n x : Nat) : rowB noTab n x = List.replicate (n * n) (.bool false) := by
  refine List.ext_getElem? fun i => ?_
  by_cases h : i < n * n
  · simp [rowB, h, noTab]
  · rw [List.getElem?_eq_none (by rw [zge_]; omega), List.getElem?_eq_none (by simp; omega)]
theorem set_td {α : Type} {xs ys : List α} {i : Nat} {a : α} (h : i < ys.length) (hl : xs.length = ys.length) (ha : xs[i]? = some a) : (xs.take i ++ ys.drop i).set i a = xs.take (i + 1) ++ ys.drop (i + 1) := by
  have hi : i < xs.length := by omega
  obtain rfl : xs[i] = a := by simpa [hi] using ha
  rw [List.take_succ_eq_append_getElem hi, List.set_append_right _ _ (by simp; omega)]
  rw [show i - (xs.take i).length = 0 from by simp; omega, List.drop_eq_getElem_cons h, List.set_cons_zero, List.append_assoc]
  rfl
def tabSt (rs : List RuleL) (ws : List Int) (s : Tab × Bool) : Prop := if s.2 = true then ∀ U, Span rs ws s.1 U → Span rs ws noTab U else Span rs ws noTab s.1
theorem zkk_ {rs : List RuleL} {ws : List Int} {T : Tab} (h : tabSt rs ws (T, true)) : tabSt rs ws (zie_ rs ws (T, false)) := by
  unfold tabSt at h ⊢
  rw [if_pos rfl] at h
  cases hc : (zie_ rs ws (T, false)).2
  · rw [if_neg (by decide)]
    exact h _ (.done hc)
  · rw [if_pos rfl]
    exact fun U hU => h U (.more hc hU)
theorem zmk_ {g : Gram} (hg : zab_ g = true) {q : Nat} (hq : q < g.rules.length) : ∀ x ∈ (rul g.rules q).2, x < g.nons ∧ -100 ≤ x := fun x hx => by
  obtain ⟨i, hi, rfl⟩ := List.getElem_of_mem hx
  have := good_symb hg hq hi
  rw [List.getD_eq_getElem?_getD, List.getElem?_eq_getElem hi] at this
  simp only [Option.getD_some] at this
  omega
theorem zuf_ {g : Gram} (hg : zab_ g = true) {q : Nat} (hq : q < g.rules.length) : 0 ≤ (rul g.rules q).1 ∧ (rul g.rules q).1 ≤ g.nons - 1 := by
  simp only [zab_, Bool.and_eq_true, List.all_eq_true] at hg
  have h1 := hg.2 q (List.mem_range.2 hq)
  simp only [zbd_, Bool.and_eq_true, inB, decide_eq_true_eq] at h1
  exact h1.1.1.1
theorem zuh_ {g : Gram} (hg : zab_ g = true) : ∀ r ∈ g.rules, r.1.toNat < 6 := fun r hr => by
  obtain ⟨i, hi, rfl⟩ := List.getElem_of_mem hr
  have := zuf_ hg hi
  have := zjc_ hg
  rw [zic_ hi] at *
  omega
end Go.Sh
namespace Go.Proofs.Yteabbgaffgpegaa
open Go Go.Sh Go.RowKit
theorem inf4' : Inf Try.prog 4 (.bool false) 1 1 := zke_ (by kernel_rfl)

theorem l4Table_c {F : Nat → Prop} {w : World} {v : Value} {gm : Gram} {X : Option Addr} {cx n0 : Nat} {ws : List Int} (hv : GramV F w v gm) (hg : zab_ gm = true) (hX : Ints w X ws) (hn : n0 = ws.length) (hl : ws.length ≤ 10) {k : Value → World → Prop}
    (hk : ∀ w' U c nons, Gr w w' → gm.nons = (nons : Nat) → TabS w' U nons (ws.length + 1) (spanT gm.rules ws) → k (.slice U nons c) w') :
    CallK Try.prog 171 [v, .slice X n0 cx] k w := by
  subst hn
  obtain ⟨Y, cy, rfl, hc, hy⟩ := hv
  have hn6 := zjc_ hg
  have hr16 := good_len hg
  have hleft6 := zuh_ hg
  obtain ⟨nons, hnn⟩ : ∃ n : Nat, gm.nons = n := ⟨gm.nons.toNat, by omega⟩
  refine enter171 ?_
  unfold S171
  have H := Apt.nil w
  refine boxH H fun b1 w1 H => ?_
  rw [hnn] at H
  simp only [go_sem, Nat.reduceEqDiff]
  rw [ldB3 (H.box 0 rfl) rfl]
  rw [zm_ (by omega) (by omega)]
  refine makeH H u192 inf191 (by omega) (by omega) fun b2 w2 H => ?_
  rw [show (Value.slice none 0 0).cells = #[.slice none 0 0] from rfl, zbg_] at H
  have H := H.nilVV 1 4 rfl
  simp only [List.nil_append, List.cons_append, List.set_cons_zero, List.set_cons_succ] at H
  simp only [go_sem, Nat.reduceEqDiff]
  generalize hN : ws.length + 1 = n at *
  have hNi : ((ws.length : Int) + 1) = (n : Int) := by omega
  rw [hNi]
  have hnn11 : n * n ≤ 11 * 11 := Nat.mul_le_mul (by omega) (by omega)
  have hrl : (zcd_ noTab nons n).length = nons := zwc_ _ _ _
  refine zhb_ nons 0 (fun i f w' => i ≤ nons ∧ f 21 = .int .i64 i ∧ ∃ (ps : Nat → Option Addr × Nat), Apt w w' [bx b1 [.int .i64 nons, .int .i64 gm.toks, .slice Y gm.rules.length cy] 26, vvi 191 4 (some ⟨b2, 0, none⟩) nons ((zcd_ noTab nons n).take i ++ (List.replicate nons []).drop i) ps])
    ⟨Nat.zero_le _, rfl, _, by rw [List.take_zero, List.drop_zero, List.nil_append]; exact H⟩ ?_
  rintro i f w3 N hag ⟨hi, h21, ps, H⟩ hN'
  have f20 : f 20 = .int .i64 nons := hag 20 (by decide)
  have f5 : f 5 = .int .i64 n := hag 5 (by decide)
  have f6 : f 6 = .slice (some ⟨b2, 0, none⟩) nons nons := hag 6 (by decide)
  have f2 : f 2 = ptrv b1 := hag 2 (by decide)
  have f1 : f 1 = .slice X ws.length cx := hag 1 (by decide)
  simp only [f20, f5, f6, h21, go_sem, Nat.reduceEqDiff]
  by_cases hlt : i < nons
  · simp only [show (i : Int) < nons from by omega, decide_true, go_sem, Nat.reduceEqDiff]
    rw [show (n : Int) * (n : Int) = ((n * n : Nat) : Int) from by push_cast; rfl, zm_ (by omega) (by omega)]
    refine makeH H (n := n * n) u191 inf4' (by omega) (by omega) fun b3 w4 H => ?_
    rw [show (Value.bool false).cells = #[.bool false] from rfl, zbg_, ← rowB_none n i] at H
    rw [ixn192 (fun _ => rfl) hlt]
    refine setRowVV H 1 2 i (by decide) rfl rfl (by rw [zge_]) (by decide) sz191 (by simp; omega) fun w5 ps' H => ?_
    have H := H.erase 2
    rw [set_td (by simp; omega) (by simp [hrl]) (by simp [zcd_, hlt])] at H
    rw [zm_ (by omega) (by omega)]
    exact hN' _ _ hlt ⟨hlt, rfl, ps', H⟩
  have hin : i = nons := by omega
  simp only [show ¬ ((i : Int) < nons) from by omega, decide_false, go_sem, Nat.reduceEqDiff]
  rw [hin, List.drop_eq_nil_of_le (by simp), List.append_nil, List.take_of_length_le (by rw [hrl]; exact Nat.le_refl _)] at H
  clear hN' hin h21 hi hlt
  refine zfc_ (fun (s : Tab × Bool) f w' => tabSt gm.rules ws s ∧ f 8 = .bool s.2 ∧ ∃ (ps : Nat → Option Addr × Nat), Apt w w' [bx b1 [.int .i64 nons, .int .i64 gm.toks, .slice Y gm.rules.length cy] 26, vvi 191 4 (some ⟨b2, 0, none⟩) nons (zcd_ s.1 nons n) ps]) (fun s => if s.2 = true then openT s.1 + 1 else 0) (noTab, true)
    ⟨by unfold tabSt; rw [if_pos rfl]; exact fun U h => h, rfl, ps, H⟩ ?_
  rintro ⟨T, more⟩ f7 w6 N2 hag2 ⟨hst, h8, ps, H⟩ hN2
  have f2' : f7 2 = ptrv b1 := (hag2 2 (by decide)).trans f2
  have f6' : f7 6 = .slice (some ⟨b2, 0, none⟩) nons nons := (hag2 6 (by decide)).trans f6
  have f5' : f7 5 = .int .i64 n := (hag2 5 (by decide)).trans f5
  have f1' : f7 1 = .slice X ws.length cx := (hag2 1 (by decide)).trans f1
  simp only [h8, f2', go_sem, Nat.reduceEqDiff]
  cases more
  · simp only [go_sem, Nat.reduceEqDiff]
    rw [f6']
    have hsp : T = spanT gm.rules ws := by
      unfold tabSt at hst
      rw [if_neg Bool.false_ne_true] at hst
      exact hst.eq
    rw [← hsp] at hk
    exact hk _ _ nons _ H.gr hnn ((H.vv 1 rfl).tab (by omega))
  simp only [go_sem, Nat.reduceEqDiff]
  rw [zhe_ (H.box 0 rfl) rfl]
  simp only [go_sem, Nat.reduceEqDiff]
  refine zhb_ gm.rules.length 0 (fun q f w' => q ≤ gm.rules.length ∧ f 36 = .int .i64 q ∧ f 8 = .bool ((gm.rules.take q).foldl (ruleT ws) (T, false)).2 ∧ ∃ (ps : Nat → Option Addr × Nat), Apt w w' [bx b1 [.int .i64 nons, .int .i64 gm.toks, .slice Y gm.rules.length cy] 26, vvi 191 4 (some ⟨b2, 0, none⟩) nons (zcd_ ((gm.rules.take q).foldl (ruleT ws) (T, false)).1 nons n) ps])
    ⟨Nat.zero_le _, rfl, rfl, ps, H⟩ ?_
  rintro q g1 w7 N3 hag3 ⟨hq, h36, h8', ps, H⟩ hN3
  have e34 : g1 34 = .slice Y gm.rules.length cy := hag3 34 (by decide)
  have e35 : g1 35 = .int .i64 gm.rules.length := hag3 35 (by decide)
  have e5 : g1 5 = .int .i64 n := (hag3 5 (by decide)).trans f5'
  have e6 : g1 6 = .slice (some ⟨b2, 0, none⟩) nons nons := (hag3 6 (by decide)).trans f6'
  have e1 : g1 1 = .slice X ws.length cx := (hag3 1 (by decide)).trans f1'
  simp only [e34, e35, h36, go_sem, Nat.reduceEqDiff]
  by_cases hlq : q < gm.rules.length
  case neg =>
    simp only [show ¬ ((q : Int) < gm.rules.length) from by omega, decide_false, go_sem, Nat.reduceEqDiff]
    rw [List.take_of_length_le (by omega)] at h8' H
    have hinc := zrf_ hleft6 hl (T, false)
    refine hN2 (zie_ gm.rules ws (T, false)) _ _ ⟨zkk_ hst, h8', ps, H⟩ ?_
    rw [if_pos rfl]
    rcases hinc with he | ⟨h1, h2⟩
    · rw [he, if_neg Bool.false_ne_true]
      omega
    · rw [if_pos h1]
      dsimp only at h2 ⊢
      omega
  simp only [show ((q : Int) < gm.rules.length) from by omega, decide_true, go_sem, Nat.reduceEqDiff]
  obtain ⟨Z, cz, t1, t2, t3, t4⟩ := hy.row q hlq
  have hleft := zuf_ hg hlq
  have hright := zmk_ hg hlq
  have hR4 := zhi_ hg q hlq
  generalize hr : rul gm.rules q = r at *
  obtain ⟨xl, hxl⟩ : ∃ x : Nat, r.1 = x := ⟨r.1.toNat, by omega⟩
  rw [hxl] at t1 hleft
  rw [ixn24 hy.ptr hlq, zjg_ zdc_ zkb_ (cs := [.int .i64 xl, .slice Z r.2.length cz]) rfl (fun j hj => by
    match j, hj with
    | 0, _ => rw [zxc_, Nat.add_zero]; exact H.gr.cell t1
    | 1, _ => rw [zxc_]; exact H.gr.cell t2)]
  refine zpb_ H zvb_ fun b3 w8 H => ?_
  refine zdb_ H 2 rfl zkb_ rfl rfl rfl fun w9 H => ?_
  simp only [List.nil_append, List.cons_append, List.set_cons_zero, List.set_cons_succ] at H
  generalize hs0 : (gm.rules.take q).foldl (ruleT ws) (T, false) = s0 at *
  refine zhb_ n 0 (fun a f w' => a ≤ n ∧ f 11 = .int .i64 a ∧ f 8 = .bool ((List.range a).foldl (rowT ws r) s0).2 ∧ ∃ (ps : Nat → Option Addr × Nat), Apt w w' [bx b1 [.int .i64 nons, .int .i64 gm.toks, .slice Y gm.rules.length cy] 26, vvi 191 4 (some ⟨b2, 0, none⟩) nons (zcd_ ((List.range a).foldl (rowT ws r) s0).1 nons n) ps, bx b3 [.int .i64 xl, .slice Z r.2.length cz] 106])
    ⟨Nat.zero_le _, rfl, h8', ps, H⟩ ?_
  rintro a g2 w10 N4 hag4 ⟨ha, h11, h8a, ps, H⟩ hN4
  have k5 : g2 5 = .int .i64 n := (hag4 5 (by decide)).trans e5
  have k6 : g2 6 = .slice (some ⟨b2, 0, none⟩) nons nons := (hag4 6 (by decide)).trans e6
  have k1 : g2 1 = .slice X ws.length cx := (hag4 1 (by decide)).trans e1
  have k10 : g2 10 = ptrv b3 := hag4 10 (by decide)
  have k36 : g2 36 = .int .i64 q := (hag4 36 (by decide)).trans h36
  simp only [k5, h11, k36, go_sem, Nat.reduceEqDiff]
  by_cases hla : a < n
  case neg =>
    simp only [show ¬ ((a : Int) < n) from by omega, decide_false, go_sem, Nat.reduceEqDiff]
    rw [zm_ (by omega) (by omega)]
    have han : a = n := by omega
    rw [han] at h8a H
    have hstep : (gm.rules.take (q + 1)).foldl (ruleT ws) (T, false) = (List.range n).foldl (rowT ws r) s0 := by
      rw [zhk_ _ _ _ hlq, hs0, hr, ← hN]
      rfl
    refine hN3 _ _ hlq ⟨hlq, rfl, ?_, ps, ?_⟩
    · rw [hstep]
      exact h8a
    · rw [hstep]
      exact H.take 2
  simp only [show ((a : Int) < n) from by omega, decide_true, go_sem, Nat.reduceEqDiff]
  generalize hs1 : (List.range a).foldl (rowT ws r) s0 = s1 at *
  refine zhb_ n a (fun b f w' => a ≤ b ∧ b ≤ n ∧ f 12 = .int .i64 b ∧ f 8 = .bool ((List.range' a (b - a)).foldl (Sh.stepT ws r a) s1).2 ∧ ∃ (ps : Nat → Option Addr × Nat), Apt w w' [bx b1 [.int .i64 nons, .int .i64 gm.toks, .slice Y gm.rules.length cy] 26, vvi 191 4 (some ⟨b2, 0, none⟩) nons (zcd_ ((List.range' a (b - a)).foldl (Sh.stepT ws r a) s1).1 nons n) ps, bx b3 [.int .i64 xl, .slice Z r.2.length cz] 106])
    ⟨Nat.le_refl _, by omega, rfl, by rw [Nat.sub_self]; exact h8a, ps, by rw [Nat.sub_self]; exact H⟩ ?_
  rintro b g3 w11 N5 hag5 ⟨hb1, hb2, h12, h8b, ps, H⟩ hN5
  have m5 : g3 5 = .int .i64 n := (hag5 5 (by decide)).trans k5
  have m6 : g3 6 = .slice (some ⟨b2, 0, none⟩) nons nons := (hag5 6 (by decide)).trans k6
  have m1 : g3 1 = .slice X ws.length cx := (hag5 1 (by decide)).trans k1
  have m10 : g3 10 = ptrv b3 := (hag5 10 (by decide)).trans k10
  have m11 : g3 11 = .int .i64 a := (hag5 11 (by decide)).trans h11
  simp only [m5, m6, m1, m10, m11, h12, go_sem, Nat.reduceEqDiff]
  by_cases hlb : b < n
  case neg =>
    simp only [show ¬ ((b : Int) < n) from by omega, decide_false, go_sem, Nat.reduceEqDiff]
    rw [zm_ (by omega) (by omega)]
    have hbn : b = n := by omega
    rw [hbn] at h8b H
    have hstep : (List.range (a + 1)).foldl (rowT ws r) s0 = (List.range' a (n - a)).foldl (Sh.stepT ws r a) s1 := by
      rw [zaj_, hs1, ← hN]
      rfl
    refine hN4 _ _ hla ⟨hla, rfl, ?_, ps, ?_⟩
    · rw [hstep]
      exact h8b
    · rw [hstep]
      exact H
  simp only [show ((b : Int) < n) from by omega, decide_true, go_sem, Nat.reduceEqDiff]
  have hstep : (List.range' a (b + 1 - a)).foldl (Sh.stepT ws r a) s1 = Sh.stepT ws r a ((List.range' a (b - a)).foldl (Sh.stepT ws r a) s1) b := by
    rw [show b + 1 - a = b - a + 1 from by omega, zji_, show a + (b - a) = b from by omega]
  generalize hs2 : (List.range' a (b - a)).foldl (Sh.stepT ws r a) s1 = s2 at *
  have hxn : xl < nons := by omega
  have hab := zaf_ (n := n) (show a < n by omega) hlb
  have hT := (H.vv 1 rfl).tab (by omega)
  have hxr : xl < (zcd_ s2.1 nons n).length := by rw [zwc_]; exact hxn
  have hcell := (H.vv 1 rfl).cell hxr
  have hown := (H.vv 1 rfl).own xl hxr
  rw [zwg_ hxn, zge_] at hcell hown
  have hR0 : (ps xl).1 = some (ad (ps xl).1) := hown.ptr (by omega)
  have hab' : (a : Int) * (n : Int) = ((a * n : Nat) : Int) := by push_cast; rfl
  have hidx : IntKind.i64.wrap (IntKind.i64.wrap ((a : Int) * (n : Int)) + (b : Int)) = ((a * n + b : Nat) : Int) := by
    rw [hab', zm_ (n := ((a * n : Nat) : Int)) (by omega) (by omega), zm_ (by omega) (by omega)]
    rfl
  rw [hidx, ldB3 (H.box 2 rfl) rfl]
  refine rdi (ixn192 (fun _ => rfl) hxn) (rdi (ld191 hcell) (rdi (ixn191 (fun _ => hR0) hab) (rdi (ld4 (hown.src.cell _ _ (rowB_at hla hlb))) ?_)))
  simp only [go_sem, Nat.reduceEqDiff]
  have hstepT : Sh.stepT ws r a s2 b = if (!s2.1 xl a b && zxb_ s2.1 ws r.2 a b) = true then (s2.1.put xl a b, true) else s2 := by
    unfold Sh.stepT
    rw [hxl, Int.toNat_natCast]
  have stay : Sh.stepT ws r a s2 b = s2 → ∀ f', f' 12 = .int .i64 (b + 1 : Nat) → f' 8 = .bool s2.2 → N5 f' w11 := fun he f' q12 q8 => hN5 f' w11 hlb ⟨by omega, hlb, q12, by rw [hstep, he]; exact q8, ps, by rw [hstep, he]; exact H⟩
  cases hc0 : s2.1 xl a b
  case true =>
    simp only [Bool.not_true, go_sem, Nat.reduceEqDiff]
    rw [zm_ (n := (b : Int) + 1) (by omega) (by omega)]
    exact stay (by rw [hstepT, hc0]; rfl) _ rfl h8b
  simp only [Bool.not_false, go_sem, Nat.reduceEqDiff]
  rw [zad_ (H.box 2 rfl) rfl]
  rw [← hN] at hT
  refine l4Fits_c hl r.2 hT (hX.gr H.gr) (t4.is.gr H.gr) t3 (fun x hx => by have := hright x hx; omega) hb1 (by omega) ?_
  cases hft : zxb_ s2.1 ws r.2 a b
  · simp only [go_sem, Nat.reduceEqDiff]
    rw [zm_ (n := (b : Int) + 1) (by omega) (by omega)]
    exact stay (by rw [hstepT, hc0, hft]; rfl) _ rfl h8b
  simp only [go_sem, Nat.reduceEqDiff]
  rw [ldB3 (H.box 2 rfl) rfl]
  refine rdi (ixn192 (fun _ => rfl) hxn) (rdi (ld191 hcell) (rdi (ixn191 (fun _ => hR0) hab) ?_))
  refine storeVV H 1 xl (m := a * n + b) rfl (by decide) sz4 rfl rfl hxr (by rw [zwg_ hxn, zge_]; exact hab) fun w12 H => ?_
  rw [rowsB_put hxn hla hlb] at H
  rw [zm_ (n := (b : Int) + 1) (by omega) (by omega)]
  refine hN5 _ _ hlb ⟨by omega, hlb, rfl, ?_, ps, ?_⟩
  · rw [hstep, hstepT, hc0, hft]
    rfl
  · rw [hstep, hstepT, hc0, hft]
    exact H
theorem l4In_c {F : Nat → Prop} {w : World} {v : Value} {gm : Gram} {X : Option Addr} {cx n0 : Nat} {ws : List Int} (hv : GramV F w v gm) (hg : zab_ gm = true) (hX : Ints w X ws) (hn : n0 = ws.length) (hl : ws.length ≤ 10) {k : Value → World → Prop}
    (hk : ∀ w', Gr w w' → k (.bool (inL gm.rules ws)) w') : CallK Try.prog 162 [v, .int .i64 0, .slice X n0 cx] k w := by
  subst hn
  obtain ⟨Y, cy, rfl, hc, hy⟩ := hv
  have hn6 := zjc_ hg
  refine enter162 ?_
  unfold S162
  have H := Apt.nil w
  refine boxH H fun b1 w1 H => ?_
  rw [zw_ zmb_ sz26 rfl (H.box 0 rfl)]
  refine l4Table_c (gm := gm) ⟨Y, cy, rfl, hc, hy.gr H.gr⟩ hg (hX.gr H.gr) rfl hl fun w2 U c nons g2 hnn hT => ?_
  have hns : 0 < nons := by omega
  obtain ⟨R, cr, h1, h2, h3⟩ := hT.row 0 hns
  have := h3 0 ws.length (by omega) (by omega)
  rw [Nat.zero_mul, Nat.zero_add] at this
  rw [ix192_0 hT.ptr hns, ld191 h1]
  simp only [go_sem, Nat.reduceEqDiff]
  rw [ixn191 (fun _ => h2) (Nat.lt_of_lt_of_le (Nat.lt_succ_self _) (Nat.le_mul_of_pos_left _ (by omega))), ld4 this]
  exact hk _ (zf_ H.gr g2)
end Go.Proofs.Yteabbgaffgpegaa

namespace Go.Sh
open Go
theorem zpk_ (n : Nat) (v : Value) : (List.range n).map (fun _ => v) = List.replicate n v := by
  rw [List.map_const', List.length_range]
theorem cellsT_none : zkc_ noTab = List.replicate 726 (.bool false) := zpk_ 726 (.bool false)
theorem fill_one {place : Nat → Option (Nat × Nat)} {cells : Array Value} {v : Value} (hp : place 0 = some (0, 1)) (hv : v.cells = #[v]) (h0 : 0 < cells.size) : Instr.fill place cells [(0, v)] = some (cells.setIfInBounds 0 v) := by
  simp only [Instr.fill, hp, hv]
  have e : (decide ((#[v] : Array Value).size ≠ 1) || decide (0 + (#[v] : Array Value).size > cells.size)) = false := by
    rw [Bool.or_eq_false_iff]
    exact ⟨by simp, decide_eq_false (by show ¬ (0 + 1 > cells.size); omega)⟩
  rw [if_neg (by rw [e]; exact Bool.false_ne_true)]
  simp
theorem set_head {a v : Value} {R : Array Value} : (#[a] ++ R).setIfInBounds 0 v = #[v] ++ R := by
  apply Array.ext'
  simp
theorem agg_pos (v : Value) (R : Array Value) : 0 < (Value.agg (#[v] ++ R)).cells.size := by
  show 0 < (#[v] ++ R).size
  simp
  omega
theorem agg_list (v : Value) (R : Array Value) : (Value.agg (#[v] ++ R)).cells.toList = v :: R.toList := by
  show (#[v] ++ R).toList = _
  simp
theorem rep_list (n : Nat) (v : Value) : (Array.replicate n v).toList = List.replicate n v := Array.toList_replicate
end Go.Sh
namespace Go.Proofs.Yteabbgaffgpegaa
open Go Go.Sh Go.RowKit
theorem inf97' : Inf Try.prog 97 (.agg (#[.slice none 0 0] ++ Array.replicate 726 (.bool false))) 727 752 := zke_ (by kernel_rfl)
theorem sz95' : szOf Try.prog 95 726 := zhc_ (by kernel_rfl)
theorem bd97 (X : Option Addr) (n c : Nat) : ∃ z : Value, (∀ (S : WS) (k : Value → Prop), Rd Try.prog S (zx_ 97 [(0, .slice X n c)]) k = k z) ∧ z.cells.toList = .slice X n c :: zkc_ noTab := by
  refine ⟨.agg (#[.slice X n c] ++ Array.replicate 726 (.bool false)), fun S k => ?_, ?_⟩
  · refine zkm_ (ps := [(0, 1), (1, 726)]) Try.underlying97 inf97' ⟨⟨rfl, sz27⟩, ⟨rfl, sz95'⟩, trivial⟩ ((fill_one rfl rfl ?_).trans (congrArg some set_head))
    exact agg_pos _ _
  · rw [agg_list, cellsT_none]
    exact congrArg _ (rep_list _ _)

theorem spans_c {F : Nat → Prop} {w : World} {v : Value} {gm : Gram} {X : Option Addr} {cx n0 : Nat} {ws : List Int} (hv : GramV F w v gm) (hg : zab_ gm = true) (hX : Ints w X ws) (hn : n0 = ws.length) (hl : ws.length ≤ 10) (hw : ∀ t ∈ ws, 0 ≤ t ∧ t ≤ 100) {k : Value → World → Prop}
    (hk : ∀ w' b, Apt w w' [bx b (.slice X ws.length cx :: zkc_ (spanT gm.rules ws)) 97] → k (ptrv b) w') :
    CallK Try.prog 54 [v, .slice X n0 cx] k w := by
  subst hn
  obtain ⟨Y, cy, rfl, hc, hy⟩ := hv
  have hn6 := zjc_ hg
  have hr16 := good_len hg
  have hleft6 := zuh_ hg
  refine enter54 ?_
  unfold S54
  have H := Apt.nil w
  refine boxH H fun b1 w1 H => ?_
  obtain ⟨z, hz1, hz2⟩ := bd97 X ws.length cx
  refine rdi (hz1 _ _) ?_
  refine boxH H fun b2 w2 H => ?_
  rw [hz2] at H
  simp only [List.nil_append, List.cons_append] at H
  refine zfc_ (fun (s : Tab × Bool) f w' => tabSt gm.rules ws s ∧ f 6 = .bool s.2 ∧ Apt w w' [bx b1 [.int .i64 gm.nons, .int .i64 gm.toks, .slice Y gm.rules.length cy] 26, bx b2 (.slice X ws.length cx :: zkc_ s.1) 97]) (fun s => if s.2 = true then openT s.1 + 1 else 0) (noTab, true)
    ⟨by unfold tabSt; rw [if_pos rfl]; exact fun U h => h, rfl, H⟩ ?_
  rintro ⟨T, more⟩ f7 w6 N2 hag2 ⟨hst, h8, H⟩ hN2
  have f2' : f7 2 = ptrv b1 := hag2 2 (by decide)
  have f5' : f7 5 = ptrv b2 := hag2 5 (by decide)
  have f1' : f7 1 = .slice X ws.length cx := hag2 1 (by decide)
  simp only [h8, f2', go_sem, Nat.reduceEqDiff]
  cases more
  · simp only [go_sem, Nat.reduceEqDiff]
    rw [f5']
    have hsp : T = spanT gm.rules ws := by
      unfold tabSt at hst
      rw [if_neg Bool.false_ne_true] at hst
      exact hst.eq
    rw [← hsp] at hk
    exact hk _ b2 (H.erase 0)
  simp only [go_sem, Nat.reduceEqDiff]
  rw [zhe_ (H.box 0 rfl) rfl]
  simp only [go_sem, Nat.reduceEqDiff]
  refine zhb_ gm.rules.length 0 (fun q f w' => q ≤ gm.rules.length ∧ f 18 = .int .i64 q ∧ f 6 = .bool ((gm.rules.take q).foldl (ruleT ws) (T, false)).2 ∧ Apt w w' [bx b1 [.int .i64 gm.nons, .int .i64 gm.toks, .slice Y gm.rules.length cy] 26, bx b2 (.slice X ws.length cx :: zkc_ ((gm.rules.take q).foldl (ruleT ws) (T, false)).1) 97])
    ⟨Nat.zero_le _, rfl, rfl, H⟩ ?_
  rintro q g1 w7 N3 hag3 ⟨hq, h36, h8', H⟩ hN3
  have e34 : g1 16 = .slice Y gm.rules.length cy := hag3 16 (by decide)
  have e35 : g1 17 = .int .i64 gm.rules.length := hag3 17 (by decide)
  have e5 : g1 5 = ptrv b2 := (hag3 5 (by decide)).trans f5'
  have e1 : g1 1 = .slice X ws.length cx := (hag3 1 (by decide)).trans f1'
  simp only [e34, e35, e1, h36, go_sem, Nat.reduceEqDiff]
  by_cases hlq : q < gm.rules.length
  case neg =>
    simp only [show ¬ ((q : Int) < gm.rules.length) from by omega, decide_false, go_sem, Nat.reduceEqDiff]
    rw [List.take_of_length_le (by omega)] at h8' H
    have hinc := zrf_ hleft6 hl (T, false)
    refine hN2 (zie_ gm.rules ws (T, false)) _ _ ⟨zkk_ hst, h8', H⟩ ?_
    rw [if_pos rfl]
    rcases hinc with he | ⟨h1, h2⟩
    · rw [he, if_neg Bool.false_ne_true]
      omega
    · rw [if_pos h1]
      dsimp only at h2 ⊢
      omega
  simp only [show ((q : Int) < gm.rules.length) from by omega, decide_true, go_sem, Nat.reduceEqDiff]
  obtain ⟨Z, cz, t1, t2, t3, t4⟩ := hy.row q hlq
  have hleft := zuf_ hg hlq
  have hright := zmk_ hg hlq
  have hR4 := zhi_ hg q hlq
  generalize hr : rul gm.rules q = r at *
  obtain ⟨xl, hxl⟩ : ∃ x : Nat, r.1 = x := ⟨r.1.toNat, by omega⟩
  rw [hxl] at t1 hleft
  rw [ixn24 hy.ptr hlq, zjg_ zdc_ zkb_ (cs := [.int .i64 xl, .slice Z r.2.length cz]) rfl (fun j hj => by
    match j, hj with
    | 0, _ => rw [zxc_, Nat.add_zero]; exact H.gr.cell t1
    | 1, _ => rw [zxc_]; exact H.gr.cell t2)]
  refine zpb_ H zvb_ fun b3 w8 H => ?_
  refine zdb_ H 2 rfl zkb_ rfl rfl rfl fun w9 H => ?_
  simp only [List.nil_append, List.cons_append, List.set_cons_zero, List.set_cons_succ] at H
  generalize hN : ws.length + 1 = n at *
  have hNi : ((ws.length : Int) + 1) = (n : Int) := by omega
  rw [hNi, zm_ (n := (n : Int)) (by omega) (by omega)]
  generalize hs0 : (gm.rules.take q).foldl (ruleT ws) (T, false) = s0 at *
  refine zhb_ n 0 (fun a f w' => a ≤ n ∧ f 25 = .int .i64 a ∧ f 6 = .bool ((List.range a).foldl (rowT ws r) s0).2 ∧ Apt w w' [bx b1 [.int .i64 gm.nons, .int .i64 gm.toks, .slice Y gm.rules.length cy] 26, bx b2 (.slice X ws.length cx :: zkc_ ((List.range a).foldl (rowT ws r) s0).1) 97, bx b3 [.int .i64 xl, .slice Z r.2.length cz] 106])
    ⟨Nat.zero_le _, rfl, h8', H⟩ ?_
  rintro a g2 w10 N4 hag4 ⟨ha, h11, h8a, H⟩ hN4
  have k24 : g2 24 = .int .i64 n := hag4 24 (by decide)
  have k5 : g2 5 = ptrv b2 := (hag4 5 (by decide)).trans e5
  have k1 : g2 1 = .slice X ws.length cx := (hag4 1 (by decide)).trans e1
  have k8 : g2 8 = ptrv b3 := hag4 8 (by decide)
  have k18 : g2 18 = .int .i64 q := (hag4 18 (by decide)).trans h36
  simp only [k24, h11, k18, go_sem, Nat.reduceEqDiff]
  by_cases hla : a < n
  case neg =>
    simp only [show ¬ ((a : Int) < n) from by omega, decide_false, go_sem, Nat.reduceEqDiff]
    rw [zm_ (by omega) (by omega)]
    have han : a = n := by omega
    rw [han] at h8a H
    have hstep : (gm.rules.take (q + 1)).foldl (ruleT ws) (T, false) = (List.range n).foldl (rowT ws r) s0 := by
      rw [zhk_ _ _ _ hlq, hs0, hr, ← hN]
      rfl
    refine hN3 _ _ hlq ⟨hlq, rfl, ?_, ?_⟩
    · rw [hstep]
      exact h8a
    · rw [hstep]
      exact H.take 2
  simp only [show ((a : Int) < n) from by omega, decide_true, go_sem, Nat.reduceEqDiff]
  generalize hs1 : (List.range a).foldl (rowT ws r) s0 = s1 at *
  refine zhb_ n a (fun b f w' => a ≤ b ∧ b ≤ n ∧ f 10 = .int .i64 b ∧ f 6 = .bool ((List.range' a (b - a)).foldl (Sh.stepT ws r a) s1).2 ∧ Apt w w' [bx b1 [.int .i64 gm.nons, .int .i64 gm.toks, .slice Y gm.rules.length cy] 26, bx b2 (.slice X ws.length cx :: zkc_ ((List.range' a (b - a)).foldl (Sh.stepT ws r a) s1).1) 97, bx b3 [.int .i64 xl, .slice Z r.2.length cz] 106])
    ⟨Nat.le_refl _, by omega, rfl, by rw [Nat.sub_self]; exact h8a, by rw [Nat.sub_self]; exact H⟩ ?_
  rintro b g3 w11 N5 hag5 ⟨hb1, hb2, h12, h8b, H⟩ hN5
  have m5 : g3 5 = ptrv b2 := (hag5 5 (by decide)).trans k5
  have m1 : g3 1 = .slice X ws.length cx := (hag5 1 (by decide)).trans k1
  have m8 : g3 8 = ptrv b3 := (hag5 8 (by decide)).trans k8
  have m9 : g3 9 = .int .i64 a := hag5 9 (by decide)
  have m25 : g3 25 = .int .i64 a := (hag5 25 (by decide)).trans h11
  simp only [m5, m1, m8, m9, m25, h12, go_sem, Nat.reduceEqDiff]
  by_cases hlb : b < n
  case neg =>
    simp only [show ¬ ((b : Int) ≤ ws.length) from by omega, decide_false, go_sem, Nat.reduceEqDiff]
    rw [zm_ (by omega) (by omega)]
    have hbn : b = n := by omega
    rw [hbn] at h8b H
    have hstep : (List.range (a + 1)).foldl (rowT ws r) s0 = (List.range' a (n - a)).foldl (Sh.stepT ws r a) s1 := by
      rw [zaj_, hs1, ← hN]
      rfl
    refine hN4 _ _ hla ⟨hla, rfl, ?_, ?_⟩
    · rw [hstep]
      exact h8b
    · rw [hstep]
      exact H
  simp only [show ((b : Int) ≤ ws.length) from by omega, decide_true, go_sem, Nat.reduceEqDiff]
  have hstep : (List.range' a (b + 1 - a)).foldl (Sh.stepT ws r a) s1 = Sh.stepT ws r a ((List.range' a (b - a)).foldl (Sh.stepT ws r a) s1) b := by
    rw [show b + 1 - a = b - a + 1 from by omega, zji_, show a + (b - a) = b from by omega]
  generalize hs2 : (List.range' a (b - a)).foldl (Sh.stepT ws r a) s1 = s2 at *
  have hxn : xl < 6 := by omega
  have hstepT : Sh.stepT ws r a s2 b = if (!s2.1 xl a b && zxb_ s2.1 ws r.2 a b) = true then (s2.1.put xl a b, true) else s2 := by
    unfold Sh.stepT
    rw [hxl, Int.toNat_natCast]
  have H := H.drew
  have stay : Sh.stepT ws r a s2 b = s2 → ∀ f', f' 10 = .int .i64 (b + 1 : Nat) → f' 6 = .bool s2.2 → N5 f' w11.drew := fun he f' q12 q8 => hN5 f' w11.drew hlb ⟨by omega, hlb, q12, by rw [hstep, he]; exact q8, by rw [hstep, he]; exact H⟩
  rw [ldB3 (H.box 2 rfl) rfl]
  rw [ixa95 (by omega) (by omega), ixa94 (by omega) (by omega), ixa93 (by omega) (by omega)]
  simp only [Int.toNat_natCast, go_sem, Nat.reduceEqDiff]
  have hoff : 0 + 1 + xl * 121 + a * 11 + b = xl * 121 + a * 11 + b + 1 := by omega
  rw [hoff, ldB4 (H.box 1 rfl) (zrm_ hxn (by omega) (by omega))]
  simp only [go_sem, Nat.reduceEqDiff]
  cases hc0 : s2.1 xl a b
  case true =>
    simp only [Bool.not_true, go_sem, Nat.reduceEqDiff]
    rw [zm_ (n := (b : Int) + 1) (by omega) (by omega)]
    exact stay (by rw [hstepT, hc0]; rfl) _ rfl h8b
  simp only [Bool.not_false, go_sem, Nat.reduceEqDiff]
  rw [zad_ (H.box 2 rfl) rfl]
  refine zjk_ hl hw r.2 (H.box 1 rfl) (hX.gr H.gr) (t4.is.gr H.gr) t3 (fun x hx => by have := hright x hx; omega) hb1 (by omega) ?_
  cases hft : zxb_ s2.1 ws r.2 a b
  · simp only [go_sem, Nat.reduceEqDiff]
    rw [zm_ (n := (b : Int) + 1) (by omega) (by omega)]
    exact stay (by rw [hstepT, hc0, hft]; rfl) _ rfl h8b
  simp only [go_sem, Nat.reduceEqDiff]
  have H := H.drew
  rw [ldB3 (H.box 2 rfl) rfl]
  rw [ixa95 (by omega) (by omega), ixa94 (by omega) (by omega), ixa93 (by omega) (by omega)]
  simp only [Int.toNat_natCast, go_sem, Nat.reduceEqDiff]
  rw [hoff]
  refine zdb_ H 1 rfl sz4 rfl rfl (by rw [Nat.ble_eq, List.length_cons, zag_]; omega) fun w12 H => ?_
  have hset : List.take (xl * 121 + a * 11 + b + 1) (.slice X ws.length cx :: zkc_ s2.1) ++ (Value.bool true).cells.toList ++ List.drop (xl * 121 + a * 11 + b + 1 + 1) (.slice X ws.length cx :: zkc_ s2.1) = .slice X ws.length cx :: zkc_ (s2.1.put xl a b) := by
    rw [show (Value.bool true).cells.toList = [.bool true] from rfl, zrp_ (by rw [List.length_cons, zag_]; omega)]
    exact cellsT_put hxn (by omega) (by omega)
  rw [hset] at H
  rw [zm_ (n := (b : Int) + 1) (by omega) (by omega)]
  refine hN5 _ _ hlb ⟨by omega, hlb, rfl, ?_, ?_⟩
  · rw [hstep, hstepT, hc0, hft]
    rfl
  · rw [hstep, hstepT, hc0, hft]
    exact H
end Go.Proofs.Yteabbgaffgpegaa

namespace Go.Sh
open Go
end Go.Sh
namespace Go.Proofs.Yteabbgaffgpegaa
open Go Go.Sh Go.RowKit


end Go.Proofs.Yteabbgaffgpegaa

namespace Go.Sh
open Go
def zyd_ (toks : Int) (ws : List Int) : Bool := decide (ws.length ≤ 10) && allB ws 0 (toks - 1)
end Go.Sh
namespace Go.Proofs.Yteabbgaffgpegaa
open Go Go.Sh Go.RowKit

theorem isWord1_c {x toks : Int} {w : World} {b t : Nat} (hB : Box w b [.int .i64 toks] t) (h1 : 1 ≤ toks) (h4 : toks ≤ 4) {k : Value → World → Prop} (hk : k (.bool (!inB x 0 (toks - 1))) w) : CallK Try.prog 115 [.int .i64 x, ptrv b] k w := by
  refine enter115 ?_
  unfold S115
  rw [ldB3 hB rfl]
  simp only [go_sem, Nat.reduceEqDiff]
  rw [zm_ (by omega) (by omega)]
  refine in_c ?_
  simp only [go_sem, Nat.reduceEqDiff]
  exact hk
theorem isWord_c {w : World} {X : Option Addr} {n cx : Nat} {toks : Int} {ws : List Int} (hX : Ints w X ws) (hn : n = ws.length) (h1 : 1 ≤ toks) (h4 : toks ≤ 4) {k : Value → World → Prop} (hk : ∀ w', Gr w w' → k (.bool (zyd_ toks ws)) w') :
    CallK Try.prog 53 [.int .i64 toks, .slice X n cx] k w := by
  subst hn
  refine enter53 ?_
  unfold S53
  have H := Apt.nil w
  refine boxH H fun b1 w1 H => ?_
  simp only [go_sem, Nat.reduceEqDiff]
  unfold zyd_ at hk
  by_cases hl : ws.length ≤ 10
  case neg =>
    simp only [show ¬ ((ws.length : Int) ≤ 10) from by omega, decide_false, go_sem, Nat.reduceEqDiff]
    simpa only [hl, decide_false, Bool.false_and] using hk _ H.gr
  simp only [show ((ws.length : Int) ≤ 10) from by omega, decide_true, go_sem, Nat.reduceEqDiff]
  have hb : Box w1 b1 [.int .i64 toks] 3 := H.box 0 rfl
  have hp : Pred 4 (.func (.func 115) [].toArray [ptrv b1].toArray) (fun x => !inB x 0 (toks - 1)) w1 := fun w3 g3 x k hk =>
    callVc (isWord1_c (hb.gr g3) h1 h4 (hk w3 (Gr.refl w3)))
  refine zhh_ (hX.gr H.gr) hp fun w3 g3 => ?_
  have H := H.step g3
  simp only [go_sem, Nat.reduceEqDiff]
  have := hk _ H.gr
  simp only [hl, decide_true, Bool.true_and] at this
  rwa [show allB ws 0 (toks - 1) = !ws.any (fun x => !inB x 0 (toks - 1)) from by simp [allB, List.not_any_eq_all_not]] at this
end Go.Proofs.Yteabbgaffgpegaa

namespace Go.Sh
open Go
theorem Apt.emptySS {w0 w : World} {L : List Thing} (H : Apt w0 w L) (i : Nat) {e1 e2 c : Nat} {X : Option Addr} (ps : Nat → Option Addr × Nat) (hi : L[i]? = some (rwi e1 1 X 0 c [])) : Apt w0 w (L.set i (Sh.lssi e1 e2 X c [] ps)) := by
  have hr := H.row i hi
  have o : OwnSS e1 e2 w w0.heap.size X c [] ps := ⟨⟨[], hr, fun j hj => by simp at hj⟩, fun j hj => by simp at hj, fun i j hi => by simp at hi⟩
  refine H.set hi (Gx.refl _ w) (fun q hq => ?_) (fun q hq => (o.foot hq).2) (zvg_ o)
  rcases hq with hq | ⟨l, hl, _⟩
  · exact .inl hq
  · simp at hl
end Go.Sh
namespace Go.Proofs.Yteabbgaffgpegaa
open Go Go.Sh Go.RowKit

open Go Go.Sh

def pl140 : Plans := fun _ => ⟨false, [], .nil⟩
def S140 (v0 v1 : Value) (k : Value → World → Prop) (w : World) : Prop :=
 Do Try.prog (sBox 26 v0) (fun t1 w2 =>
 Rd Try.prog (WS.at w2) (zc_ 26 t1) fun t3 =>
 CallK Try.prog 49 [t3] (fun t4 w5 =>
 Rd Try.prog (WS.at w5) (sUn .not t4) fun t6 =>
 zb_ t6 false (fun k w' => k v1 w') (fun t7 w8 =>
 zb_ t6 false (fun k w' => CallK Try.prog 67 [t7, (.int .i64 0), (.int .i64 4)] k w') (fun t9 w10 =>
 zb_ t6 false (fun k w' => Rd Try.prog (WS.at w10) (sUn .not t9) fun v => k v w') (fun t11 w12 =>
 Rd Try.prog (WS.at w12) (zcb_ t6 (.bool true) t11) fun t13 =>
 zk_ t13
  (k (.tuple #[(.slice none 0 0), (.bool false)]) w12)
  (Do Try.prog (zh_ 35 1 [(0, (.slice none 0 0))]) (fun t14 w15 =>
  zfb_ [22, 23, 24, 9, 27, 28, 29, 30, 31, 32, 11, 33, 34, 35, 36, 37, 38, 39, 40, 6, 12, 41, 42, 43, 44, 47, 48, 49, 50, 51, 52, 53, 54, 9, 45, 46, 12, 55, 29, 56, 7, 25, 26, 8] (fun Q16 f17 w18 =>
   Rd Try.prog (WS.at w18) (sBin .leq 3 false (f17 8) (f17 1)) fun t19 =>
   zk_ t19
    (Rd Try.prog (WS.at w18) (ze_ .len #[35] 3 [false] [(f17 7)]) fun t20 =>
    zfb_ [30, 31, 32, 11, 33, 34, 35, 36, 37, 38, 39, 40, 6, 12, 41, 42, 43, 44, 47, 48, 49, 50, 51, 52, 53, 54, 9, 45, 46, 12, 55, 29] (fun Q21 f22 w23 =>
     Rd Try.prog (WS.at w23) (sBin .lss 3 false (f22 29) (f22 28)) fun t24 =>
     zk_ t24
      (Join (fun K25 =>
      Rd Try.prog (WS.at w23) (zd_ 35 (f22 27) (f22 29)) fun t28 =>
      Rd Try.prog (WS.at w23) (zc_ 27 t28) fun t29 =>
      Join (fun K30 =>
      Rd Try.prog (WS.at w23) (zc_ 26 (f22 2)) fun t33 =>
      CallK Try.prog 162 [t33, (.int .i64 0), t29] (fun t34 w35 =>
      zk_ t34
       (CallK Try.prog 80 [t29] (fun t36 w37 =>
       Do Try.prog (zh_ 35 1 [(0, t36)]) (fun t38 w39 =>
       Do Try.prog (ze_ .append #[35, 35] 35 [false, false] [(f22 6), t38]) (fun t40 w41 =>
       K30 (F.upd (F.upd (F.upd (F.upd (F.upd (F.upd (F.upd (F.upd (F.upd (F.upd (F.upd (F.upd (F.upd f22 30 t24) 31 t28) 32 t29) 11 t29) 33 t33) 34 t29) 35 t34) 36 (f22 6)) 37 t29) 38 t36) 39 t38) 40 t40) 6 t40) w41) w39) w37) w35)
       (K30 (F.upd (F.upd (F.upd (F.upd (F.upd (F.upd (F.upd f22 30 t24) 31 t28) 32 t29) 11 t29) 33 t33) 34 t29) 35 t34) w35)) w23) (fun f31 w32 =>
      zfb_ [41, 42, 43, 44, 47, 48, 49, 50, 51, 52, 53, 54, 9, 45, 46, 12] (fun Q42 f43 w44 =>
       Rd Try.prog (WS.at w44) (za_ 26 (f43 2) 1) fun t45 =>
       Rd Try.prog (WS.at w44) (zc_ 3 t45) fun t46 =>
       Rd Try.prog (WS.at w44) (sBin .lss 3 false (f43 12) t46) fun t47 =>
       zk_ t47
        (CallK Try.prog 80 [(f43 11)] (fun t48 w49 =>
        Do Try.prog (zh_ 27 1 [(0, (f43 12))]) (fun t50 w51 =>
        Do Try.prog (ze_ .append #[27, 27] 27 [false, false] [t48, t50]) (fun t52 w53 =>
        Do Try.prog (zh_ 35 1 [(0, t52)]) (fun t54 w55 =>
        Do Try.prog (ze_ .append #[35, 35] 35 [false, false] [(f43 9), t54]) (fun t56 w57 =>
        Rd Try.prog (WS.at w57) (sBin .add 3 true (f43 12) (.int .i64 1)) fun t58 =>
        Q42 .normal (F.upd (F.upd (F.upd (F.upd (F.upd (F.upd (F.upd (F.upd (F.upd (F.upd (F.upd (F.upd (F.upd (F.upd (F.upd (F.upd f43 41 (f43 12)) 42 t45) 43 t46) 44 t47) 47 (f43 9)) 48 (f43 11)) 49 t48) 50 (f43 12)) 51 t50) 52 t52) 53 t54) 54 t56) 9 t56) 45 (f43 12)) 46 t58) 12 t58) w57) w55) w53) w51) w49) w44)
        (Q42 (.exit 4) (F.upd (F.upd (F.upd (F.upd f43 41 (f43 12)) 42 t45) 43 t46) 44 t47) w44))
       (zr_ 4 (zr_ 3 (seqQ K25 Q21)))
       (F.upd f31 12 (.int .i64 0)) w32)) (fun f26 w27 =>
      Rd Try.prog (WS.at w27) (sBin .add 3 true (f26 29) (.int .i64 1)) fun t61 =>
      Q21 .normal (F.upd (F.upd f26 55 t61) 29 t61) w27))
      (Q21 (.exit 2) (F.upd f22 30 t24) w23))
     (zr_ 2 (seqQ (fun f62 w63 =>
    Rd Try.prog (WS.at w63) (sBin .add 3 true (f62 8) (.int .i64 1)) fun t64 =>
    Q16 .normal (F.upd (F.upd (F.upd (F.upd (F.upd f62 56 (f62 9)) 7 (f62 9)) 25 (f62 8)) 26 t64) 8 t64) w63) (zr_ 1 (seqQ (fun f65 w66 =>
    Rd Try.prog (WS.at w66) (sBin .add 3 true (f65 8) (.int .i64 1)) fun t67 =>
    Q16 .normal (F.upd (F.upd (F.upd f65 25 (f65 8)) 26 t67) 8 t67) w66) Q16))))
     (F.upd (F.upd (F.upd (F.upd (F.upd (F.upd (F.upd f17 22 (f17 8)) 23 (f17 1)) 24 t19) 9 (.slice none 0 0)) 27 (f17 7)) 28 t20) 29 (.int .i64 0)) w18)
    (Q16 (.exit 0) (F.upd (F.upd (F.upd f17 22 (f17 8)) 23 (f17 1)) 24 t19) w18))
   (zr_ 0 (seqQ (fun f68 w69 =>
  k (.tuple #[(f68 6), (.bool true)]) w69) (zt_ Try.prog [.tmp 4, .tmp 5] k)))
   (F.upd (F.upd (F.upd (F.upd (F.upd (F.upd (F.upd (F.upd (F.upd (F.upd (F.upd (F.upd (F.upd (F.upd (F.upd (zp_ [v0, v1]) 2 t1) 4 (.slice none 0 0)) 5 (.bool false)) 13 t3) 14 t4) 15 t6) 16 t6) 17 t7) 18 t9) 19 t11) 20 t13) 6 (.slice none 0 0)) 21 t14) 7 t14) 8 (.int .i64 0)) w15) w12)) w10) w8) w5) w2) w
theorem body140 : Try.f140.body = some (zg_ Try.f140) := by kernel_rfl
theorem same140 (v0 v1 : Value) (k : Value → World → Prop) (w : World) : wpF Try.prog pl140 (zg_ Try.f140) (zt_ Try.prog Try.f140.results.toList k) (zp_ [v0, v1]) w = S140 v0 v1 k w := by kernel_rfl
theorem enter140 {v0 v1 : Value} {k : Value → World → Prop} {w : World} (h : S140 v0 v1 k w) : CallK Try.prog 140 [v0, v1] k w :=
  zi_ (pl := pl140) zbb_ Try.func140 body140 (by kernel_rfl) (of_decide_eq_true (by kernel_rfl)) (by kernel_rfl) (by kernel_rfl) (Eq.mpr (same140 v0 v1 k w) h)

end Go.Proofs.Yteabbgaffgpegaa

namespace Go.Sh
open Go
def extW (toks : Nat) (w : List Int) : List (List Int) := (List.range toks).map fun (t : Nat) => w ++ [(t : Int)]
def zfd_ (toks : Nat) : Nat → List (List Int)
  | 0 => [[]]
  | n + 1 => (zfd_ toks n).flatMap (extW toks)
noncomputable def shortW (gm : Gram) (n : Nat) : List (List Int) := (List.range n).flatMap fun m => (zfd_ gm.toks.toNat m).filter (inL gm.rules)
noncomputable def shortV (gm : Gram) (most : Int) : List (List Int) × Bool := if (zab_ gm && inB most 0 4) = true then (shortW gm (most.toNat + 1), true) else ([], false)
theorem zbj_ {α β : Type} {f : α → List β} {k : Nat} : ∀ {l : List α}, (∀ a ∈ l, (f a).length = k) → (l.flatMap f).length = l.length * k := by
  intro l
  induction l with
  | nil => intro _; simp
  | cons a l ih =>
    intro h
    rw [List.flatMap_cons, List.length_append, h a (List.mem_cons_self ..), ih fun b hb => h b (List.mem_cons_of_mem _ hb), List.length_cons, Nat.succ_mul]
    omega
theorem ztp_ (toks n : Nat) : (zfd_ toks n).length = toks ^ n := by
  induction n with
  | zero => rfl
  | succ n ih =>
    rw [zfd_, zbj_ (k := toks) (fun w _ => by simp [extW]), ih, Nat.pow_succ]
theorem ztm_ {toks n : Nat} (ht : toks ≤ 4) (hn : n ≤ 5) : (zfd_ toks n).length ≤ 1024 := by
  rw [ztp_]
  have h1 : toks ^ n ≤ 4 ^ n := Nat.pow_le_pow_left ht n
  have h2 : 4 ^ n ≤ 4 ^ 5 := Nat.pow_le_pow_right (by decide) hn
  have : (4 : Nat) ^ 5 = 1024 := rfl
  omega
theorem zrk_ {toks : Nat} : ∀ {n : Nat} {w : List Int}, w ∈ zfd_ toks n → w.length = n ∧ ∀ t ∈ w, 0 ≤ t ∧ t < toks := by
  intro n
  induction n with
  | zero =>
    intro w h
    simp only [zfd_, List.mem_singleton] at h
    subst h
    exact ⟨rfl, fun t h => by simp at h⟩
  | succ n ih =>
    intro w h
    simp only [zfd_, List.mem_flatMap, extW, List.mem_map, List.mem_range] at h
    obtain ⟨v, hv, t, ht, rfl⟩ := h
    obtain ⟨h1, h2⟩ := ih hv
    refine ⟨by simp [h1], fun x hx => ?_⟩
    rcases List.mem_append.1 hx with hx | hx
    · exact h2 x hx
    · have : x = t := by simpa using hx
      subst this
      omega
theorem rgt_mem {ls : List (List Int)} {i : Nat} (h : i < ls.length) : rgt ls i ∈ ls := by
  rw [rgt_eq h]
  exact List.getElem_mem h
theorem zcj_ (p : List Int → Bool) (ls : List (List Int)) (l : List Int) : (ls ++ [l]).filter p = ls.filter p ++ (if p l = true then [l] else []) := by
  rw [List.filter_append]
  congr 1
  cases h : p l <;> simp [h]
theorem zum_ (p : List Int → Bool) (ls : List (List Int)) : (ls.filter p).length ≤ ls.length := List.length_filter_le _ _
theorem zdj_ (gm : Gram) (n : Nat) : shortW gm (n + 1) = shortW gm n ++ (zfd_ gm.toks.toNat n).filter (inL gm.rules) := by
  unfold shortW
  rw [List.range_succ, List.flatMap_append]
  simp
theorem ztk_ {gm : Gram} (ht : gm.toks ≤ 4) : ∀ {n : Nat}, n ≤ 6 → (shortW gm n).length ≤ 1024 * n := by
  intro n
  induction n with
  | zero => intro _; simp [shortW]
  | succ n ih =>
    intro hn
    rw [zdj_, List.length_append]
    have h1 := ih (by omega)
    have h2 := zum_ (inL gm.rules) (zfd_ gm.toks.toNat n)
    have h3 := ztm_ (toks := gm.toks.toNat) (n := n) (by omega) (by omega)
    omega
theorem shortW_mem {gm : Gram} {n : Nat} {x : List Int} (h : x ∈ shortW gm n) : x.length < n ∧ ∀ t ∈ x, 0 ≤ t ∧ t < gm.toks.toNat := by
  unfold shortW at h
  rw [List.mem_flatMap] at h
  obtain ⟨m, hm, hx⟩ := h
  rw [List.mem_range] at hm
  have := zrk_ (List.mem_filter.1 hx).1
  exact ⟨by omega, this.2⟩
theorem zxg_ (toks : Nat) (w : List Int) : extW (toks + 1) w = extW toks w ++ [w ++ [(toks : Int)]] := by
  unfold extW
  rw [List.range_succ, List.map_append]
  rfl
theorem zcf_ {α β : Type} (f : α → List β) (ls : List α) (l : α) : (ls ++ [l]).flatMap f = ls.flatMap f ++ f l := by
  rw [List.flatMap_append]
  simp
theorem zuk_ {ls : List (List Int)} {k : Nat} (i : Nat) : ((ls.take i).flatMap (extW k)).length ≤ ls.length * k := by
  rw [zbj_ (k := k) (fun w _ => by simp [extW]), List.length_take]
  exact Nat.mul_le_mul_right _ (Nat.min_le_right _ _)
end Go.Sh
namespace Go.Proofs.Yteabbgaffgpegaa
open Go Go.Sh Go.RowKit

theorem zrj_ {F : Nat → Prop} {w : World} {v : Value} {gm : Gram} {most : Int} (hv : GramV F w v gm) {k : Value → World → Prop}
    (hk : ∀ w' U d ps, Gr w w' → OwnSS 27 3 w' w.heap.size U d (shortV gm most).1 ps → k (.tuple #[.slice U (shortV gm most).1.length d, .bool (shortV gm most).2]) w') :
    CallK Try.prog 140 [v, .int .i64 most] k w := by
  obtain ⟨Y, cy, rfl, hc, hy⟩ := hv
  refine enter140 ?_
  unfold S140
  have H := Apt.nil w
  refine boxH H fun b1 w1 H => ?_
  rw [zw_ zmb_ sz26 rfl (H.box 0 rfl)]
  refine zai_ (gm := gm) ⟨Y, cy, rfl, hc, hy.gr H.gr⟩ fun w2 g2 => ?_
  have H := H.step g2
  unfold shortV at hk
  cases hg : zab_ gm
  · simp only [Bool.not_false, go_sem, Nat.reduceEqDiff]
    rw [hg, Bool.false_and, if_neg Bool.false_ne_true] at hk
    exact hk _ none 0 (fun _ => (none, 0)) H.gr (OwnSS.nil _ _ _ _ _)
  simp only [Bool.not_true, go_sem, Nat.reduceEqDiff]
  refine l1In_c ?_
  rw [hg, Bool.true_and] at hk
  cases hm : inB most 0 4
  · simp only [Bool.not_false, go_sem, Nat.reduceEqDiff]
    rw [hm, if_neg Bool.false_ne_true] at hk
    exact hk _ none 0 (fun _ => (none, 0)) H.gr (OwnSS.nil _ _ _ _ _)
  rw [hm, if_pos rfl] at hk
  obtain ⟨most, rfl⟩ : ∃ m' : Nat, most = m' := by
    simp only [inB, Bool.and_eq_true, decide_eq_true_eq] at hm
    exact ⟨most.toNat, by omega⟩
  have hm4 : most ≤ 4 := by
    simp only [inB, Bool.and_eq_true, decide_eq_true_eq] at hm
    omega
  rw [Int.toNat_natCast] at hk
  dsimp only at hk
  have htk := zdd_ hg
  obtain ⟨toks, htoks⟩ : ∃ t : Nat, gm.toks = t := ⟨gm.toks.toNat, by omega⟩
  have htn : gm.toks.toNat = toks := by omega
  simp only [Bool.not_true, go_sem, Nat.reduceEqDiff]
  refine buildH H u35 inf27 [.slice none 0 0] (by decide) (by decide) (by simp [Instr.fill, madeCells, Value.cells, rng1]) rfl fun b2 w3 H => ?_
  have H := (H.addNil 3 1).single (i := 1) (j := 2) (by decide) (e2 := 3) (ys := []) rfl rfl
  have H := ((H.addNil 27 1).emptySS 3 (e2 := 3) (fun _ => (none, 0)) rfl).erase 2
  simp only [List.nil_append, List.cons_append, List.set_cons_zero, List.set_cons_succ, List.eraseIdx_cons_zero, List.eraseIdx_cons_succ] at H
  refine zhb_ (most + 1) 0 (fun n f w' => n ≤ most + 1 ∧ f 8 = .int .i64 n ∧ ∃ (U V : Option Addr) (d e : Nat) (ps qs : Nat → Option Addr × Nat), f 7 = .slice U (zfd_ toks n).length d ∧ f 6 = .slice V (shortW gm n).length e ∧
      Apt w w' [bx b1 [.int .i64 gm.nons, .int .i64 gm.toks, .slice Y gm.rules.length cy] 26, lss U d (zfd_ toks n) ps, lss V e (shortW gm n) qs])
    ⟨Nat.zero_le _, rfl, _, none, _, 0, _, _, rfl, rfl, H⟩ ?_
  rintro n f w4 N hag ⟨hn, h8, U, V, d, e, ps, qs, h7, h6, H⟩ hN
  have f1 : f 1 = .int .i64 most := hag 1 (by decide)
  have f2 : f 2 = ptrv b1 := hag 2 (by decide)
  simp only [f1, h8, h7, h6, go_sem, Nat.reduceEqDiff]
  by_cases hle : n ≤ most
  case neg =>
    simp only [show ¬ ((n : Int) ≤ most) from by omega, decide_false, go_sem, Nat.reduceEqDiff]
    obtain rfl : n = most + 1 := by omega
    exact hk _ V e qs H.gr (H.lssi 2 rfl)
  simp only [show ((n : Int) ≤ most) from by omega, decide_true, go_sem, Nat.reduceEqDiff]
  have hwl := ztm_ (toks := toks) (n := n) (by omega) (by omega)
  have hwm := fun w => @zrk_ toks n w
  have hsl := ztk_ (gm := gm) htk.2 (n := n) (by omega)
  have hnext : zfd_ toks (n + 1) = (zfd_ toks n).flatMap (extW toks) := rfl
  have hshort := zdj_ gm n
  rw [htn] at hshort
  generalize zfd_ toks n = ls at *
  generalize shortW gm n = so at *
  have H := (H.addNil 27 1).emptySS 3 (e2 := 3) (fun _ => (none, 0)) rfl
  simp only [List.nil_append, List.cons_append, List.set_cons_zero, List.set_cons_succ] at H
  refine zhb_ ls.length 0 (fun i f w' => i ≤ ls.length ∧ f 29 = .int .i64 i ∧ ∃ (V X : Option Addr) (e c : Nat) (qs rs : Nat → Option Addr × Nat), f 6 = .slice V (so ++ (ls.take i).filter (inL gm.rules)).length e ∧ f 9 = .slice X ((ls.take i).flatMap (extW toks)).length c ∧
      Apt w w' [bx b1 [.int .i64 gm.nons, .int .i64 gm.toks, .slice Y gm.rules.length cy] 26, lss U d ls ps, lss V e (so ++ (ls.take i).filter (inL gm.rules)) qs, lss X c ((ls.take i).flatMap (extW toks)) rs])
    ⟨Nat.zero_le _, rfl, V, none, e, 0, qs, _, by simp; exact h6, rfl, by simpa using H⟩ ?_
  rintro i g w5 N2 hag2 ⟨hi, h29, V, X, e, c, qs, rs, h6, h9, H⟩ hN2
  have g27 : g 27 = .slice U ls.length d := hag2 27 (by decide)
  have g28 : g 28 = .int .i64 ls.length := hag2 28 (by decide)
  have g2' : g 2 = ptrv b1 := (hag2 2 (by decide)).trans f2
  have g8 : g 8 = .int .i64 n := (hag2 8 (by decide)).trans h8
  simp only [g27, g28, g2', g8, h29, h6, h9, go_sem, Nat.reduceEqDiff]
  by_cases hlt : i < ls.length
  case neg =>
    simp only [show ¬ ((i : Int) < ls.length) from by omega, decide_false, go_sem, Nat.reduceEqDiff]
    rw [List.take_of_length_le (by omega)] at H h9 h6 ⊢
    rw [zm_ (by omega) (by omega)]
    refine hN _ _ (by omega) ⟨by omega, rfl, X, V, c, e, rs, qs, ?_, ?_, ?_⟩
    · rw [hnext]
      exact rfl
    · rw [hshort]
      exact h6
    · rw [hnext, hshort]
      exact ((H.erase 1).pick (L' := [_, _, _]) (fun i => [0, 2, 1].getD i 0) (fun i a ha => by
        match i, ha with
        | 0, ha => exact ha
        | 1, ha => exact ha
        | 2, ha => exact ha
        | i + 3, ha => simp at ha) (fun i j hi hj e => by
        simp only [List.length_cons, List.length_nil] at hi hj
        match i, j, hi, hj, e with
        | 0, 0, _, _, _ | 1, 1, _, _, _ | 2, 2, _, _, _ => rfl
        | 0, 1, _, _, e | 0, 2, _, _, e | 1, 0, _, _, e | 1, 2, _, _, e | 2, 0, _, _, e | 2, 1, _, _, e => exact absurd e (by decide)
        | i + 3, _, h, _, _ => omega
        | _, j + 3, _, h, _ => omega))
  simp only [show ((i : Int) < ls.length) from by omega, decide_true, go_sem, Nat.reduceEqDiff]
  have o := H.lssi 1 rfl
  have hm2 := hwm _ (rgt_mem hlt)
  have hwi := (o.own i hlt).ints
  have hfl := zum_ (inL gm.rules) (ls.take i)
  rw [List.length_take] at hfl
  have hflat := zuk_ (ls := ls) (k := toks) i
  have hmul : ls.length * toks ≤ 1024 * 4 := Nat.mul_le_mul hwl (by omega)
  have hel : ∀ t, (extW t (rgt ls i)).length = t := fun t => by simp [extW]
  refine rdi (ixn35 (fun h => o.ptr h) hlt) ?_
  refine rdi (ld27 (o.cell hlt)) ?_
  refine rdi (zw_ zmb_ sz26 rfl (H.box 0 rfl)) ?_
  refine l4In_c (gm := gm) ⟨Y, cy, rfl, hc, hy.gr H.gr⟩ hg hwi rfl (by omega) fun w6 g6 => ?_
  have H := H.step g6
  have o := H.lssi 1 rfl
  have hwi := (o.own i hlt).ints
  cases hin : inL gm.rules (rgt ls i)
  · simp only [go_sem, Nat.reduceEqDiff]
    have hso : so ++ (ls.take (i + 1)).filter (inL gm.rules) = so ++ (ls.take i).filter (inL gm.rules) := by
      rw [zgd_ hlt, zcj_, hin, if_neg Bool.false_ne_true, List.append_nil]
    rw [← hso] at H
    refine zhb_ toks 0 (fun t f w' => t ≤ toks ∧ f 12 = .int .i64 t ∧ ∃ (X : Option Addr) (c : Nat) (rs : Nat → Option Addr × Nat), f 9 = .slice X ((ls.take i).flatMap (extW toks) ++ extW t (rgt ls i)).length c ∧
        Apt w w' [bx b1 [.int .i64 gm.nons, .int .i64 gm.toks, .slice Y gm.rules.length cy] 26, lss U d ls ps, lss V e (so ++ (ls.take (i + 1)).filter (inL gm.rules)) qs, lss X c ((ls.take i).flatMap (extW toks) ++ extW t (rgt ls i)) rs])
      ⟨Nat.zero_le _, rfl, X, c, rs, by simp only [extW, List.range_zero, List.map_nil, List.append_nil]; exact h9, by simpa only [extW, List.range_zero, List.map_nil, List.append_nil] using H⟩ ?_
    rintro t r w7 N3 hag3 ⟨ht, r12, X, c, rs, r9, H⟩ hN3
    have r2 : r 2 = ptrv b1 := (hag3 2 (by decide)).trans g2'
    have r11 : r 11 = .slice (ps i).1 (rgt ls i).length (ps i).2 := hag3 11 (by decide)
    have r6 : r 6 = .slice V (so ++ (ls.take (i + 1)).filter (inL gm.rules)).length e := by
      rw [hso]
      exact (hag3 6 (by decide)).trans h6
    have r29 : r 29 = .int .i64 i := (hag3 29 (by decide)).trans h29
    simp only [r2, r11, r12, r9, go_sem, Nat.reduceEqDiff]
    rw [ldB3 (H.box 0 rfl) rfl]
    simp only [go_sem, Nat.reduceEqDiff]
    by_cases hlt2 : t < toks
    case neg =>
      simp only [show ¬ ((t : Int) < gm.toks) from by omega, decide_false, r29, go_sem, Nat.reduceEqDiff]
      rw [zm_ (by omega) (by omega)]
      obtain rfl : t = toks := by omega
      refine hN2 _ _ hlt ⟨by omega, rfl, V, X, e, c, qs, rs, r6, ?_, ?_⟩
      · rw [zgd_ hlt, zcf_]
        exact r9
      · rw [show (ls.take (i + 1)).flatMap (extW t) = (ls.take i).flatMap (extW t) ++ extW t (rgt ls i) from by rw [zgd_ hlt, zcf_]]
        exact H
    simp only [show ((t : Int) < gm.toks) from by omega, decide_true, go_sem, Nat.reduceEqDiff]
    have o := H.lssi 1 rfl
    have hwi := (o.own i hlt).ints
    refine zui_ hwi rfl (by omega) fun X1 d1 w8 g8 o1 => ?_
    have H := H.addRow g8 o1
    simp only [List.nil_append, List.cons_append] at H
    refine pushH H 4 rfl rfl (by omega) fun t1 X2 d2 w9 H => ?_
    simp only [List.set_cons_zero, List.set_cons_succ] at H
    refine pushSSH H 3 4 (by decide) rfl rfl rfl rfl (by rw [List.length_append, hel]; omega) fun t2 X3 c3 w10 rs3 H => ?_
    have H := H.erase 4
    simp only [List.set_cons_zero, List.set_cons_succ, List.eraseIdx_cons_zero, List.eraseIdx_cons_succ] at H
    rw [zm_ (by omega) (by omega)]
    refine hN3 _ _ hlt2 ⟨by omega, rfl, X3, c3, rs3, ?_, ?_⟩
    · rw [zxg_, ← List.append_assoc]
      rfl
    · rw [zxg_, ← List.append_assoc]
      exact H
  · simp only [go_sem, Nat.reduceEqDiff]
    have hso : so ++ (ls.take (i + 1)).filter (inL gm.rules) = so ++ (ls.take i).filter (inL gm.rules) ++ [rgt ls i] := by
      rw [zgd_ hlt, zcj_, hin, if_pos rfl, List.append_assoc]
    refine zui_ hwi rfl (by omega) fun X1 d1 w7 g7 o1 => ?_
    have H := H.addRow g7 o1
    simp only [List.nil_append, List.cons_append] at H
    refine pushSSH H 2 4 (by decide) rfl rfl rfl rfl (by rw [List.length_append]; omega) fun t V' e' w8 qs' H => ?_
    have H := H.erase 4
    simp only [List.set_cons_zero, List.set_cons_succ, List.eraseIdx_cons_zero, List.eraseIdx_cons_succ] at H
    rw [← hso] at H
    refine zhb_ toks 0 (fun t f w' => t ≤ toks ∧ f 12 = .int .i64 t ∧ ∃ (X : Option Addr) (c : Nat) (rs : Nat → Option Addr × Nat), f 9 = .slice X ((ls.take i).flatMap (extW toks) ++ extW t (rgt ls i)).length c ∧
        Apt w w' [bx b1 [.int .i64 gm.nons, .int .i64 gm.toks, .slice Y gm.rules.length cy] 26, lss U d ls ps, lss V' e' (so ++ (ls.take (i + 1)).filter (inL gm.rules)) qs', lss X c ((ls.take i).flatMap (extW toks) ++ extW t (rgt ls i)) rs])
      ⟨Nat.zero_le _, rfl, X, c, rs, by simp only [extW, List.range_zero, List.map_nil, List.append_nil]; exact h9, by simpa only [extW, List.range_zero, List.map_nil, List.append_nil] using H⟩ ?_
    rintro t r w7 N3 hag3 ⟨ht, r12, X, c, rs, r9, H⟩ hN3
    have r2 : r 2 = ptrv b1 := (hag3 2 (by decide)).trans g2'
    have r11 : r 11 = .slice (ps i).1 (rgt ls i).length (ps i).2 := hag3 11 (by decide)
    have r6 : r 6 = .slice V' (so ++ (ls.take (i + 1)).filter (inL gm.rules)).length e' := by
      rw [hso]
      exact hag3 6 (by decide)
    have r29 : r 29 = .int .i64 i := (hag3 29 (by decide)).trans h29
    simp only [r2, r11, r12, r9, go_sem, Nat.reduceEqDiff]
    rw [ldB3 (H.box 0 rfl) rfl]
    simp only [go_sem, Nat.reduceEqDiff]
    by_cases hlt2 : t < toks
    case neg =>
      simp only [show ¬ ((t : Int) < gm.toks) from by omega, decide_false, r29, go_sem, Nat.reduceEqDiff]
      rw [zm_ (by omega) (by omega)]
      obtain rfl : t = toks := by omega
      refine hN2 _ _ hlt ⟨by omega, rfl, V', X, e', c, qs', rs, r6, ?_, ?_⟩
      · rw [zgd_ hlt, zcf_]
        exact r9
      · rw [show (ls.take (i + 1)).flatMap (extW t) = (ls.take i).flatMap (extW t) ++ extW t (rgt ls i) from by rw [zgd_ hlt, zcf_]]
        exact H
    simp only [show ((t : Int) < gm.toks) from by omega, decide_true, go_sem, Nat.reduceEqDiff]
    have o := H.lssi 1 rfl
    have hwi := (o.own i hlt).ints
    refine zui_ hwi rfl (by omega) fun X1 d1 w8 g8 o1 => ?_
    have H := H.addRow g8 o1
    simp only [List.nil_append, List.cons_append] at H
    refine pushH H 4 rfl rfl (by omega) fun t1 X2 d2 w9 H => ?_
    simp only [List.set_cons_zero, List.set_cons_succ] at H
    refine pushSSH H 3 4 (by decide) rfl rfl rfl rfl (by rw [List.length_append, hel]; omega) fun t2 X3 c3 w10 rs3 H => ?_
    have H := H.erase 4
    simp only [List.set_cons_zero, List.set_cons_succ, List.eraseIdx_cons_zero, List.eraseIdx_cons_succ] at H
    rw [zm_ (by omega) (by omega)]
    refine hN3 _ _ hlt2 ⟨by omega, rfl, X3, c3, rs3, ?_, ?_⟩
    · rw [zxg_, ← List.append_assoc]
      rfl
    · rw [zxg_, ← List.append_assoc]
      exact H
end Go.Proofs.Yteabbgaffgpegaa

namespace Go.Sh
open Go
end Go.Sh
namespace Go.Proofs.Yteabbgaffgpegaa
open Go Go.Sh Go.RowKit

theorem l1Most_c {x y : Int} {w : World} {k : Value → World → Prop} (hk : k (.int .i64 (if x < y then y else x)) w) : CallK Try.prog 96 [.int .i64 x, .int .i64 y] k w := by
  refine enter96 ?_
  unfold S96
  simp only [go_sem, Nat.reduceEqDiff]
  by_cases h : y < x
  · simp only [h, decide_true, go_sem, Nat.reduceEqDiff]
    rwa [if_neg (by omega)] at hk
  · simp only [h, decide_false, go_sem, Nat.reduceEqDiff]
    by_cases h2 : x < y
    · rwa [if_pos h2] at hk
    · rw [if_neg h2] at hk
      have : x = y := by omega
      rwa [this] at hk
section
variable {w0 w : World} {L E : List Thing} {bc N : Nat} {C : Option Addr} {cap : Nat} {bs : List Int} {k : Value → World → Prop}
theorem leftH (H : Apt w0 w L) (i : Nat) {ft : Nat → Prop} {X : Option Addr} {c : Nat} {r : RuleL} {rs : List RuleL} {v : Int} (hi : L[i]? = some (gth ft X c (r :: rs))) (h : ∀ w', Apt w0 w' (L.set i (gth ft X c ((v, r.2) :: rs))) → k undef w') : Do Try.prog (zu_ 3 (.pointer (some ((ad X).add 0))) (.int .i64 v)) k w := by
  obtain ⟨cells, hrow, hrc⟩ := H.gow i hi
  refine zme_ sz3 rfl rfl hrow (by rw [List.length_cons]; omega) fun w' hg hs hr => ?_
  cases hrc with
  | @cons _ _ Y d cells h1 h2 h3 =>
    refine h w' (H.set hi (it' := gth ft X c ((v, r.2) :: rs)) (gx_of hg fun q hq => .inl hq) (fun q hq => .inl hq) (fun q hq => Nat.lt_of_lt_of_le ((H.ok i _ hi).hi q hq) hg.size) (zrg_ (B := 0) ⟨_, hr, ?_⟩))
    refine .cons (r := (v, r.2)) h1 ?_ ?_
    · have hf : IntsF (fun q => (ft q ∧ blk X ≠ some q) ∧ q < w.heap.size) w Y r.2 := ltF h2
      exact (hf.same' fun q hq => hg.block q hq.2 fun e => hq.1.2 e.symm).mono fun q hq => hq.1
    · exact (h3.lt.same fun q hq => hg.block q hq.2 fun e => hq.1.2 e.symm).mono fun q hq => hq.1
set_option maxHeartbeats 3200000 in
theorem any_c (H : Apt w0 w (cur bc (.slice C bs.length cap) N :: E)) (hC : Byts w0 C bs) (hN : N ≤ 1000000) (hk : ∀ w' gm ft X c, Drawn 101 gm → Apt w0 w' (cur bc (.slice C bs.length cap) (N + 600) :: gth ft X c gm.rules :: E) → k (.agg #[.int .i64 gm.nons, .int .i64 gm.toks, .slice X gm.rules.length c]) w') :
    CallK Try.prog 56 [ptrv bc] k w := by
  refine enter56 ?_
  unfold S56
  refine zpb_ H inf26 fun b1 w1 H => ?_
  have H := H.insert 1
  simp only [List.take_succ_cons, List.take_zero, List.drop_succ_cons, List.drop_zero, List.nil_append, List.cons_append] at H
  refine grammar_c H hC hN fun w2 gm ft X c hd H => ?_
  refine zpb_ H inf26 fun b5 w3 H => ?_
  have H := H.insert 2
  simp only [List.take_succ_cons, List.take_zero, List.drop_succ_cons, List.drop_zero, List.nil_append, List.cons_append] at H
  refine zdb_ H 2 rfl sz26 rfl rfl rfl fun w4 H => ?_
  simp only [List.set_cons_zero, List.set_cons_succ, List.take_zero, List.drop_succ_cons, List.drop_zero, List.nil_append, List.append_nil, Value.cells] at H
  refine zed_ (fun f w' => f 2 = ptrv b1 ∧ f 3 = ptrv b5 ∧ ∃ gm ft X c, Drawn 101 gm ∧ Apt w0 w' (cur bc (.slice C bs.length cap) (N + 600) :: gth ft X c gm.rules :: bx b5 [.int .i64 gm.nons, .int .i64 gm.toks, .slice X gm.rules.length c] 26 :: bx b1 [.int .i64 0, .int .i64 0, .slice none 0 0] 26 :: E)) (fun K hK => ?_) ?_
  case refine_2 =>
    clear H
    rintro f w5 ⟨f2, f3, gm, ft, X, c, hd, H⟩
    simp only [f2, f3]
    rw [zw_ zmb_ sz26 rfl (H.box 2 rfl)]
    refine zdb_ H 3 rfl sz26 rfl rfl rfl fun w9 H => ?_
    simp only [List.set_cons_zero, List.set_cons_succ] at H
    rw [ztc_, zw_ zmb_ sz26 rfl (H.box 3 rfl)]
    have H := (H.erase 3).erase 2
    simp only [List.eraseIdx_cons_zero, List.eraseIdx_cons_succ] at H
    exact hk w9 gm ft X c hd H
  refine zvc_ H 0 rfl hC (by omega) (by omega) fun w5 t _ ht H => ?_
  simp only [List.set_cons_zero] at H
  have ht := ht (by omega)
  have amongs : ∀ (x y z : Int), (0 ≤ x ∧ x ≤ 1000) → (0 ≤ y ∧ y ≤ 1000) → (0 ≤ z ∧ z ≤ 1000) → ∀ (kk : Value → Value → World → Prop), (∀ v : Int, 0 ≤ v ∧ v ≤ 1000 → ∀ u w', Apt w0 w' (cur bc (.slice C bs.length cap) (N + 504) :: gth ft X c gm.rules :: bx b5 [.int .i64 gm.nons, .int .i64 gm.toks, .slice X gm.rules.length c] 26 :: bx b1 [.int .i64 0, .int .i64 0, .slice none 0 0] 26 :: E) → kk u (.int .i64 v) w') → Do Try.prog (zh_ 27 3 [(0, .int .i64 x), (1, .int .i64 y), (2, .int .i64 z)]) (fun t14 w15 => CallK Try.prog 69 [ptrv bc, t14] (fun t16 w17 => kk t14 t16 w17) w15) w5 := fun x y z hx hy hz kk hkk => by
    refine buildH H u27 inf3 (ints [x, y, z]) (by decide) (by decide) (by simp [Instr.fill, madeCells, Value.cells, rng3, ints]) rfl fun b7 w6 H => ?_
    have H := H.insert 1
    simp only [List.take_succ_cons, List.take_zero, List.drop_succ_cons, List.drop_zero, List.nil_append, List.cons_append] at H
    refine among_c (xs := [x, y, z]) H 0 rfl hC (by omega) (fun w' H => Apt.ints H 1 (xs := [x, y, z]) rfl) rfl (by simp) (by simp) fun w7 j hj H => ?_
    have H := H.erase 1
    simp only [List.set_cons_zero, List.eraseIdx_cons_zero, List.eraseIdx_cons_succ] at H
    refine hkk _ ?_ _ _ H
    have hj : j = 0 ∨ j = 1 ∨ j = 2 := by simp at hj; omega
    rcases hj with rfl | rfl | rfl
    · exact hx
    · exact hy
    · exact hz
  simp only [zq18, zq19, zq20, zq21, zq22, zq23, zq24, zq25, zq26, zq27, zq28, zq4, zq3, zq1, zq2, zq0, zq29, zq30, zq14, zq15, zq16, zq17, zq13, zq10, zq12, zq11, zq7, zq5, zq6, zq9, zq8, zq31, zq32, ite_T, ite_F, zq33, zq34, zq35, Nat.reduceEqDiff, len22, len24, fa26_0, fa26_1, fa26_2, len27, len35, fa86_0, fa86_1, fa86_2, fa97_0, fa97_1, fa106_0, fa106_1, fa145_0, fa145_1, fa145_2, fa145_3, fa145_4, len192]
  by_cases h0 : t = 0
  · subst h0
    simp only [show (((0 : Nat) : Int) = 0) from rfl, decide_true, zq18, zq19, zq20, zq21, zq22, zq23, zq24, zq25, zq26, zq27, zq28, zq4, zq3, zq1, zq2, zq0, zq29, zq30, zq14, zq15, zq16, zq17, zq13, zq10, zq12, zq11, zq7, zq5, zq6, zq9, zq8, zq31, zq32, ite_T, ite_F, zq33, zq34, zq35, Nat.reduceEqDiff, len22, len24, fa26_0, fa26_1, fa26_2, len27, len35, fa86_0, fa86_1, fa86_2, fa97_0, fa97_1, fa106_0, fa106_1, fa145_0, fa145_1, fa145_2, fa145_3, fa145_4, len192]
    refine amongs 0 6 7 (by omega) (by omega) (by omega) _ fun v hv u w7 H => ?_
    refine zdb_ H 2 rfl sz3 rfl rfl rfl fun w8 H => ?_
    simp only [List.set_cons_zero, List.set_cons_succ, List.take_succ_cons, List.take_zero, List.drop_succ_cons, List.drop_zero, List.nil_append, List.cons_append, Value.cells] at H
    exact hK _ _ ⟨rfl, rfl, ⟨v, gm.toks, gm.rules⟩, ft, X, c, ⟨hv, hd.toks, hd.some, by have := hd.few; show List.length gm.rules ≤ 101; omega, hd.rights⟩, zfe_ (m := N + 600) H (by omega)⟩
  simp only [show ¬ ((t : Int) = 0) from by omega, decide_false, zq18, zq19, zq20, zq21, zq22, zq23, zq24, zq25, zq26, zq27, zq28, zq4, zq3, zq1, zq2, zq0, zq29, zq30, zq14, zq15, zq16, zq17, zq13, zq10, zq12, zq11, zq7, zq5, zq6, zq9, zq8, zq31, zq32, ite_T, ite_F, zq33, zq34, zq35, Nat.reduceEqDiff, len22, len24, fa26_0, fa26_1, fa26_2, len27, len35, fa86_0, fa86_1, fa86_2, fa97_0, fa97_1, fa106_0, fa106_1, fa145_0, fa145_1, fa145_2, fa145_3, fa145_4, len192]
  by_cases h1 : t = 1
  · subst h1
    simp only [show (((1 : Nat) : Int) = 1) from rfl, decide_true, zq18, zq19, zq20, zq21, zq22, zq23, zq24, zq25, zq26, zq27, zq28, zq4, zq3, zq1, zq2, zq0, zq29, zq30, zq14, zq15, zq16, zq17, zq13, zq10, zq12, zq11, zq7, zq5, zq6, zq9, zq8, zq31, zq32, ite_T, ite_F, zq33, zq34, zq35, Nat.reduceEqDiff, len22, len24, fa26_0, fa26_1, fa26_2, len27, len35, fa86_0, fa86_1, fa86_2, fa97_0, fa97_1, fa106_0, fa106_1, fa145_0, fa145_1, fa145_2, fa145_3, fa145_4, len192]
    refine amongs 0 4 5 (by omega) (by omega) (by omega) _ fun v hv u w7 H => ?_
    refine zdb_ H 2 rfl sz3 rfl rfl rfl fun w8 H => ?_
    simp only [List.set_cons_zero, List.set_cons_succ, List.take_succ_cons, List.take_zero, List.drop_succ_cons, List.drop_zero, List.nil_append, List.cons_append, Value.cells] at H
    exact hK _ _ ⟨rfl, rfl, ⟨gm.nons, v, gm.rules⟩, ft, X, c, ⟨hd.nons, hv, hd.some, by have := hd.few; show List.length gm.rules ≤ 101; omega, hd.rights⟩, zfe_ (m := N + 600) H (by omega)⟩
  simp only [show ¬ ((t : Int) = 1) from by omega, decide_false, zq18, zq19, zq20, zq21, zq22, zq23, zq24, zq25, zq26, zq27, zq28, zq4, zq3, zq1, zq2, zq0, zq29, zq30, zq14, zq15, zq16, zq17, zq13, zq10, zq12, zq11, zq7, zq5, zq6, zq9, zq8, zq31, zq32, ite_T, ite_F, zq33, zq34, zq35, Nat.reduceEqDiff, len22, len24, fa26_0, fa26_1, fa26_2, len27, len35, fa86_0, fa86_1, fa86_2, fa97_0, fa97_1, fa106_0, fa106_1, fa145_0, fa145_1, fa145_2, fa145_3, fa145_4, len192]
  obtain ⟨nn, tt, rules⟩ := gm
  cases rules with
  | nil => exact absurd hd.some (by simp)
  | cons r rs =>
  by_cases h2 : t = 2
  · subst h2
    simp only [show (((2 : Nat) : Int) = 2) from rfl, decide_true, zq18, zq19, zq20, zq21, zq22, zq23, zq24, zq25, zq26, zq27, zq28, zq4, zq3, zq1, zq2, zq0, zq29, zq30, zq14, zq15, zq16, zq17, zq13, zq10, zq12, zq11, zq7, zq5, zq6, zq9, zq8, zq31, zq32, ite_T, ite_F, zq33, zq34, zq35, Nat.reduceEqDiff, len22, len24, fa26_0, fa26_1, fa26_2, len27, len35, fa86_0, fa86_1, fa86_2, fa97_0, fa97_1, fa106_0, fa106_1, fa145_0, fa145_1, fa145_2, fa145_3, fa145_4, len192]
    have H := H.drew
    obtain ⟨cells, hrow, hrc⟩ := H.gow 1 rfl
    refine ⟨fun w' => Gr w5.drew w', Gr.refl _, ?_⟩
    refine rdi (rdG one24 (H.box 2 rfl) rfl) (rdi (rdG one24 (H.box 2 rfl) rfl) ?_)
    refine rdi (ix24_0 (fun _ => hrow.ptr (by simp)) (by simp)) ?_
    have hsrc := hrow.src
    obtain ⟨Y, d, a1, a2, a3, a4⟩ := hrc.cell 0 (by simp)
    rw [zrh_ zdc_ zkb_ (cs := [.int .i64 r.1, .slice Y r.2.length d]) rfl (fun w' hw j hj => by
      match j, hj with
      | 0, _ => rw [zxc_]; exact hw.cell (hsrc.cell _ _ a1)
      | 1, _ => rw [zxc_]; exact hw.cell (hsrc.cell _ _ a2))]
    refine zv_ u24 zvb_ (cells := [.int .i64 r.1, .slice Y r.2.length d]) (by decide) (by decide) (by simp [Instr.fill, madeCells, Value.cells, rng1, rng2]) rfl fun b6 w6 hb5 hb6 g6 _ r6 => ?_
    refine ⟨g6, ?_⟩
    have H := H.step g6
    obtain ⟨cells, hrow, hrc⟩ := H.gow 1 rfl
    refine zdg_ u24 zvb_ rfl (by decide) hrow (Row.src (r6 _ (Nat.le_refl _))) rfl (by intro v hv; simp at hv; rcases hv with rfl | rfl <;> rfl) (by have := hd.few; simp only [List.length_cons] at this ⊢; omega) (by have := hd.few; simp only [List.length_cons] at this ⊢; omega) (Nat.zero_le _) fun X' c' w' hr' hg hmv => ?_
    have hnew : ∀ q, q < w6.heap.size → blk X ≠ some q → blk X' ≠ some q := fun q hq hn e => by
      rcases hmv with h1 | h1
      · exact hn (h1 ▸ e)
      · have := h1 q e
        omega
    have hrc2 : RuleCells (fun q => ft q ∧ blk X' ≠ some q) w' ((r :: rs) ++ [r]) (cells ++ [.int .i64 r.1, .slice Y r.2.length d]) := by
      refine RuleCells.append ((hrc.lt.same fun q hq => hg.block q hq.2 fun e => hq.1.2 e.symm).mono fun q hq => ⟨hq.1.1, hnew q hq.2 hq.1.2⟩) (.cons a3 ?_ .nil)
      exact ((ltF (a4.gr g6)).same' fun q hq => hg.block q hq.2 fun e => hq.1.2 e.symm).mono fun q hq => ⟨hq.1.1, hnew q hq.2 hq.1.2⟩
    have hlen : (r :: rs).length + 1 = ((r :: rs) ++ [r]).length := by simp
    rw [hlen] at hr' ⊢
    have H := H.set (i := 1) rfl (it' := gth ft X' c' ((r :: rs) ++ [r])) (gx_of hg fun q hq => .inl hq) (fun q hq => by
      rcases hq with hq | hq
      · rcases hmv with e | e
        · exact .inl (.inl (e ▸ hq))
        · exact .inr (e q hq)
      · exact .inl (.inr hq)) (fun q hq => by
      rcases hq with hq | hq
      · exact (hr'.ge hq).2
      · exact Nat.lt_of_lt_of_le ((H.ok 1 _ rfl).hi q (.inr hq)) hg.size) (zrg_ ⟨_, hr', hrc2⟩)
    simp only [List.set_cons_zero, List.set_cons_succ] at H
    simp only [zq18, zq19, zq20, zq21, zq22, zq23, zq24, zq25, zq26, zq27, zq28, zq4, zq3, zq1, zq2, zq0, zq29, zq30, zq14, zq15, zq16, zq17, zq13, zq10, zq12, zq11, zq7, zq5, zq6, zq9, zq8, zq31, zq32, ite_T, ite_F, zq33, zq34, zq35, Nat.reduceEqDiff, len22, len24, fa26_0, fa26_1, fa26_2, len27, len35, fa86_0, fa86_1, fa86_2, fa97_0, fa97_1, fa106_0, fa106_1, fa145_0, fa145_1, fa145_2, fa145_3, fa145_4, len192]
    refine zdb_ H 2 rfl sz24 rfl rfl rfl fun w8 H => ?_
    simp only [List.set_cons_zero, List.set_cons_succ, List.take_succ_cons, List.take_zero, List.drop_succ_cons, List.drop_zero, List.nil_append, List.cons_append, Value.cells] at H
    exact hK _ _ ⟨rfl, rfl, ⟨nn, tt, (r :: rs) ++ [r]⟩, ft, X', c', ⟨hd.nons, hd.toks, by simp, by have := hd.few; simp only [List.length_append, List.length_cons, List.length_nil] at this ⊢; omega, fun q hq => hd.rights q (by simp only [List.mem_append, List.mem_singleton] at hq; rcases hq with hq | hq; exact hq; rw [hq]; exact List.mem_cons_self ..)⟩, zfe_ (m := N + 600) H (by omega)⟩
  simp only [show ¬ ((t : Int) = 2) from by omega, decide_false, zq18, zq19, zq20, zq21, zq22, zq23, zq24, zq25, zq26, zq27, zq28, zq4, zq3, zq1, zq2, zq0, zq29, zq30, zq14, zq15, zq16, zq17, zq13, zq10, zq12, zq11, zq7, zq5, zq6, zq9, zq8, zq31, zq32, ite_T, ite_F, zq33, zq34, zq35, Nat.reduceEqDiff, len22, len24, fa26_0, fa26_1, fa26_2, len27, len35, fa86_0, fa86_1, fa86_2, fa97_0, fa97_1, fa106_0, fa106_1, fa145_0, fa145_1, fa145_2, fa145_3, fa145_4, len192]
  by_cases h3 : t = 3
  · subst h3
    simp only [show (((3 : Nat) : Int) = 3) from rfl, decide_true, zq18, zq19, zq20, zq21, zq22, zq23, zq24, zq25, zq26, zq27, zq28, zq4, zq3, zq1, zq2, zq0, zq29, zq30, zq14, zq15, zq16, zq17, zq13, zq10, zq12, zq11, zq7, zq5, zq6, zq9, zq8, zq31, zq32, ite_T, ite_F, zq33, zq34, zq35, Nat.reduceEqDiff, len22, len24, fa26_0, fa26_1, fa26_2, len27, len35, fa86_0, fa86_1, fa86_2, fa97_0, fa97_1, fa106_0, fa106_1, fa145_0, fa145_1, fa145_2, fa145_3, fa145_4, len192]
    have H := H.drew
    refine ⟨fun w' => Box w' b5 [.int .i64 nn, .int .i64 tt, .slice X (r :: rs).length c] 26, H.box 2 rfl, ?_⟩
    refine rdi (ldS24 (a := ⟨b5, 0 + 2, none⟩) fun w' hw' => (hw'.cell (0 + 2)).trans rfl) ?_
    refine zvc_ H 0 rfl hC (by omega) (by omega) fun w6 y _ hy H => ?_
    simp only [List.set_cons_zero, zq18, zq19, zq20, zq21, zq22, zq23, zq24, zq25, zq26, zq27, zq28, zq4, zq3, zq1, zq2, zq0, zq29, zq30, zq14, zq15, zq16, zq17, zq13, zq10, zq12, zq11, zq7, zq5, zq6, zq9, zq8, zq31, zq32, ite_T, ite_F, zq33, zq34, zq35, Nat.reduceEqDiff, len22, len24, fa26_0, fa26_1, fa26_2, len27, len35, fa86_0, fa86_1, fa86_2, fa97_0, fa97_1, fa106_0, fa106_1, fa145_0, fa145_1, fa145_2, fa145_3, fa145_4, len192] at H ⊢
    refine ⟨H.box 2 rfl, ?_⟩
    obtain ⟨cells, hrow, hrc⟩ := H.gow 1 rfl
    refine rdi (ix24_0 (fun _ => hrow.ptr (by simp)) (by simp)) ?_
    simp only [zq18, zq19, zq20, zq21, zq22, zq23, zq24, zq25, zq26, zq27, zq28, zq4, zq3, zq1, zq2, zq0, zq29, zq30, zq14, zq15, zq16, zq17, zq13, zq10, zq12, zq11, zq7, zq5, zq6, zq9, zq8, zq31, zq32, ite_T, ite_F, zq33, zq34, zq35, Nat.reduceEqDiff, len22, len24, fa26_0, fa26_1, fa26_2, len27, len35, fa86_0, fa86_1, fa86_2, fa97_0, fa97_1, fa106_0, fa106_1, fa145_0, fa145_1, fa145_2, fa145_3, fa145_4, len192]
    generalize IntKind.i64.wrap ((y : Int) - 1) = v
    refine leftH H 1 rfl fun w8 H => ?_
    simp only [List.set_cons_zero, List.set_cons_succ] at H
    exact hK _ _ ⟨rfl, rfl, ⟨nn, tt, (v, r.2) :: rs⟩, ft, X, c, ⟨hd.nons, hd.toks, by simp, by have := hd.few; simp only [List.length_cons] at this ⊢; omega, fun q hq => by rcases List.mem_cons.1 hq with hq | hq; rw [hq]; exact hd.rights r (List.mem_cons_self ..); exact hd.rights q (List.mem_cons_of_mem _ hq)⟩, zfe_ (m := N + 600) H (by omega)⟩
  simp only [show ¬ ((t : Int) = 3) from by omega, decide_false, zq18, zq19, zq20, zq21, zq22, zq23, zq24, zq25, zq26, zq27, zq28, zq4, zq3, zq1, zq2, zq0, zq29, zq30, zq14, zq15, zq16, zq17, zq13, zq10, zq12, zq11, zq7, zq5, zq6, zq9, zq8, zq31, zq32, ite_T, ite_F, zq33, zq34, zq35, Nat.reduceEqDiff, len22, len24, fa26_0, fa26_1, fa26_2, len27, len35, fa86_0, fa86_1, fa86_2, fa97_0, fa97_1, fa106_0, fa106_1, fa145_0, fa145_1, fa145_2, fa145_3, fa145_4, len192]
  exact hK _ _ ⟨rfl, rfl, ⟨nn, tt, r :: rs⟩, ft, X, c, ⟨hd.nons, hd.toks, hd.some, by have := hd.few; simp only [List.length_cons] at this ⊢; omega, hd.rights⟩, zfe_ (m := N + 600) H (by omega)⟩
set_option maxHeartbeats 1600000 in
theorem word_c (H : Apt w0 w (cur bc (.slice C bs.length cap) N :: E)) (hC : Byts w0 C bs) (hN : N ≤ 10000000) {nons toks : Int} {g : Value} {most : Int} (hm : 0 ≤ most ∧ most ≤ 10) (ht : 0 ≤ toks ∧ toks ≤ 1000) (hk : ∀ w' Z d ws, ws.length ≤ 10 → Apt w0 w' (cur bc (.slice C bs.length cap) (N + 100) :: ows Z d ws :: E) → k (.slice Z ws.length d) w') :
    CallK Try.prog 141 [ptrv bc, .agg #[.int .i64 nons, .int .i64 toks, g], .int .i64 most] k w := by
  refine enter141 ?_
  unfold S141
  refine boxH H fun b1 w1 H => ?_
  have H := H.insert 1
  simp only [List.take_succ_cons, List.take_zero, List.drop_succ_cons, List.drop_zero, List.nil_append, List.cons_append] at H
  simp only [zq18, zq19, zq20, zq21, zq22, zq23, zq24, zq25, zq26, zq27, zq28, zq4, zq3, zq1, zq2, zq0, zq29, zq30, zq14, zq15, zq16, zq17, zq13, zq10, zq12, zq11, zq7, zq5, zq6, zq9, zq8, zq31, zq32, ite_T, ite_F, zq33, zq34, zq35, Nat.reduceEqDiff, len22, len24, fa26_0, fa26_1, fa26_2, len27, len35, fa86_0, fa86_1, fa86_2, fa97_0, fa97_1, fa106_0, fa106_1, fa145_0, fa145_1, fa145_2, fa145_3, fa145_4, len192]
  rw [zm_ (by omega) (by omega)]
  refine zvc_ H 0 rfl hC (by omega) (by omega) fun w2 n0 h1 h2 H => ?_
  simp only [List.set_cons_zero] at H
  have hn0 : n0 ≤ 10 := by
    by_cases h : most + 1 ≤ 1
    · have := h1 h; omega
    · have := h2 (by omega); omega
  have H := (H.addOwn (Gr.refl _) (show Own 3 w2 w2.heap.size none 0 [] from Row.nil _ _ _ _)).insert 1
  simp only [List.take_succ_cons, List.take_zero, List.drop_succ_cons, List.drop_zero, List.nil_append, List.cons_append] at H
  refine zfc_ (fun o f w' => o ≤ n0 ∧ f 8 = .int .i64 (o : Int) ∧ ∃ N2 Z d, ∃ xs : List Int, f 7 = .slice Z xs.length d ∧ N2 ≤ N + 2 + (n0 - o) * 2 ∧ xs.length ≤ n0 - o ∧ Apt w0 w' (cur bc (.slice C bs.length cap) N2 :: ows Z d xs :: bx b1 (Value.agg #[.int .i64 nons, .int .i64 toks, g]).cells.toList 26 :: E)) (fun o => o) n0
    ⟨Nat.le_refl _, rfl, _, none, 0, [], rfl, by omega, by simp, H⟩ ?_
  clear H
  rintro o f w3 NN hag ⟨ho, f8, N2, Z, d, xs, f7, hN2, hxs, H⟩ hN'
  have f0 : f 0 = ptrv bc := hag 0 (by decide)
  have f4 : f 4 = ptrv b1 := hag 4 (by decide)
  simp only [f0, f4, f7, f8, zq18, zq19, zq20, zq21, zq22, zq23, zq24, zq25, zq26, zq27, zq28, zq4, zq3, zq1, zq2, zq0, zq29, zq30, zq14, zq15, zq16, zq17, zq13, zq10, zq12, zq11, zq7, zq5, zq6, zq9, zq8, zq31, zq32, ite_T, ite_F, zq33, zq34, zq35, Nat.reduceEqDiff, len22, len24, fa26_0, fa26_1, fa26_2, len27, len35, fa86_0, fa86_1, fa86_2, fa97_0, fa97_1, fa106_0, fa106_1, fa145_0, fa145_1, fa145_2, fa145_3, fa145_4, len192]
  by_cases ho0 : 0 < o
  case neg =>
    simp only [show ¬ ((0 : Int) < (o : Int)) from by omega, decide_false, zq18, zq19, zq20, zq21, zq22, zq23, zq24, zq25, zq26, zq27, zq28, zq4, zq3, zq1, zq2, zq0, zq29, zq30, zq14, zq15, zq16, zq17, zq13, zq10, zq12, zq11, zq7, zq5, zq6, zq9, zq8, zq31, zq32, ite_T, ite_F, zq33, zq34, zq35, Nat.reduceEqDiff, len22, len24, fa26_0, fa26_1, fa26_2, len27, len35, fa86_0, fa86_1, fa86_2, fa97_0, fa97_1, fa106_0, fa106_1, fa145_0, fa145_1, fa145_2, fa145_3, fa145_4, len192]
    have fin : ∀ w' N2 Z d ws, N2 ≤ N + 100 → List.length ws ≤ 10 → Apt w0 w' (cur bc (.slice C bs.length cap) N2 :: ows Z d ws :: bx b1 (Value.agg #[.int .i64 nons, .int .i64 toks, g]).cells.toList 26 :: E) → k (.slice Z ws.length d) w' := fun w' N2 Z d ws hn hl H => by
      have H := H.erase 2
      simp only [List.eraseIdx_cons_zero, List.eraseIdx_cons_succ] at H
      exact hk w' Z d ws hl (zfe_ H hn)
    refine zed_ (fun f w' => ∃ N2 Z d, ∃ ws : List Int, f 7 = .slice Z ws.length d ∧ N2 ≤ N + 100 ∧ ws.length ≤ 10 ∧ Apt w0 w' (cur bc (.slice C bs.length cap) N2 :: ows Z d ws :: bx b1 (Value.agg #[.int .i64 nons, .int .i64 toks, g]).cells.toList 26 :: E)) (fun K hK => ?_) ?_
    case refine_2 =>
      rintro f w' ⟨N2, Z, d, ws, f7, h1, h2, H⟩
      rw [f7]
      exact fin w' N2 Z d ws h1 h2 H
    by_cases hx0 : xs.length = 0
    · simp only [show ¬ ((0 : Int) < (xs.length : Int)) from by omega, decide_false, zq18, zq19, zq20, zq21, zq22, zq23, zq24, zq25, zq26, zq27, zq28, zq4, zq3, zq1, zq2, zq0, zq29, zq30, zq14, zq15, zq16, zq17, zq13, zq10, zq12, zq11, zq7, zq5, zq6, zq9, zq8, zq31, zq32, ite_T, ite_F, zq33, zq34, zq35, Nat.reduceEqDiff, len22, len24, fa26_0, fa26_1, fa26_2, len27, len35, fa86_0, fa86_1, fa86_2, fa97_0, fa97_1, fa106_0, fa106_1, fa145_0, fa145_1, fa145_2, fa145_3, fa145_4, len192]
      exact hK _ _ ⟨N2, Z, d, xs, f7, by omega, by omega, H⟩
    simp only [show ((0 : Int) < (xs.length : Int)) from by omega, decide_true, zq18, zq19, zq20, zq21, zq22, zq23, zq24, zq25, zq26, zq27, zq28, zq4, zq3, zq1, zq2, zq0, zq29, zq30, zq14, zq15, zq16, zq17, zq13, zq10, zq12, zq11, zq7, zq5, zq6, zq9, zq8, zq31, zq32, ite_T, ite_F, zq33, zq34, zq35, Nat.reduceEqDiff, len22, len24, fa26_0, fa26_1, fa26_2, len27, len35, fa86_0, fa86_1, fa86_2, fa97_0, fa97_1, fa106_0, fa106_1, fa145_0, fa145_1, fa145_2, fa145_3, fa145_4, len192]
    refine one_c H 0 rfl hC (by omega) (by omega) fun w4 b H => ?_
    simp only [List.set_cons_zero] at H
    cases b
    · simp only [zq18, zq19, zq20, zq21, zq22, zq23, zq24, zq25, zq26, zq27, zq28, zq4, zq3, zq1, zq2, zq0, zq29, zq30, zq14, zq15, zq16, zq17, zq13, zq10, zq12, zq11, zq7, zq5, zq6, zq9, zq8, zq31, zq32, ite_T, ite_F, zq33, zq34, zq35, Nat.reduceEqDiff, len22, len24, fa26_0, fa26_1, fa26_2, len27, len35, fa86_0, fa86_1, fa86_2, fa97_0, fa97_1, fa106_0, fa106_1, fa145_0, fa145_1, fa145_2, fa145_3, fa145_4, len192]
      exact hK _ _ ⟨_, Z, d, xs, f7, by omega, by omega, H⟩
    simp only [zq18, zq19, zq20, zq21, zq22, zq23, zq24, zq25, zq26, zq27, zq28, zq4, zq3, zq1, zq2, zq0, zq29, zq30, zq14, zq15, zq16, zq17, zq13, zq10, zq12, zq11, zq7, zq5, zq6, zq9, zq8, zq31, zq32, ite_T, ite_F, zq33, zq34, zq35, Nat.reduceEqDiff, len22, len24, fa26_0, fa26_1, fa26_2, len27, len35, fa86_0, fa86_1, fa86_2, fa97_0, fa97_1, fa106_0, fa106_1, fa145_0, fa145_1, fa145_2, fa145_3, fa145_4, len192]
    refine buildH H u27 inf3 (ints [-1, 4]) (by decide) (by decide) (by simp [Instr.fill, madeCells, Value.cells, rng2, ints]) rfl fun b7 w6 H => ?_
    have H := H.insert 1
    simp only [List.take_succ_cons, List.take_zero, List.drop_succ_cons, List.drop_zero, List.nil_append, List.cons_append] at H
    refine among_c (xs := [-1, 4]) H 0 rfl hC (by omega) (fun w' H => Apt.ints H 1 (xs := [-1, 4]) rfl) rfl (by simp) (by simp) fun w7 j hj H => ?_
    have H := H.erase 1
    simp only [List.set_cons_zero, List.eraseIdx_cons_zero, List.eraseIdx_cons_succ] at H
    have hrow := H.own 1 rfl
    refine rdi (ix27_0 (fun _ => hrow.ptr (by omega)) (by omega)) ?_
    generalize ([-1, 4] : List Int).getD j 0 = y
    refine zme_ sz3 rfl rfl hrow (by omega) fun w8 hg hs hr => ?_
    have hl : (xs.set 0 y).length = xs.length := List.length_set
    have hr2 : Own 3 w8 w0.heap.size Z d (xs.set 0 y) := by
      show Row w8 w0.heap.size 3 1 Z (xs.set 0 y).length d (ints (xs.set 0 y))
      rw [hl, show ints (xs.set 0 y) = (ints xs).set 0 (.int .i64 y) from by simp [ints]]
      exact hr
    have H := H.set (i := 1) rfl (it' := ows Z d (xs.set 0 y)) (gx_of hg fun q hq => hq) (fun q hq => .inl hq) (fun q hq => (Row.ge hr2 hq).2) (zjj_ hr2)
    simp only [List.set_cons_zero, List.set_cons_succ] at H
    exact hK _ _ ⟨_, Z, d, xs.set 0 y, by rw [hl]; exact f7, by omega, by omega, H⟩
  simp only [show ((0 : Int) < (o : Int)) from by omega, decide_true, zq18, zq19, zq20, zq21, zq22, zq23, zq24, zq25, zq26, zq27, zq28, zq4, zq3, zq1, zq2, zq0, zq29, zq30, zq14, zq15, zq16, zq17, zq13, zq10, zq12, zq11, zq7, zq5, zq6, zq9, zq8, zq31, zq32, ite_T, ite_F, zq33, zq34, zq35, Nat.reduceEqDiff, len22, len24, fa26_0, fa26_1, fa26_2, len27, len35, fa86_0, fa86_1, fa86_2, fa97_0, fa97_1, fa106_0, fa106_1, fa145_0, fa145_1, fa145_2, fa145_3, fa145_4, len192]
  rw [ldB3 (H.box 2 rfl) rfl]
  refine l1Most_c ?_
  refine zvc_ H 0 rfl hC (by omega) (by split <;> omega) fun w4 y _ _ H => ?_
  simp only [List.set_cons_zero] at H
  refine pushH H 1 rfl rfl (by omega) fun t1 Z2 d2 w5 H => ?_
  simp only [List.set_cons_zero, List.set_cons_succ, zq18, zq19, zq20, zq21, zq22, zq23, zq24, zq25, zq26, zq27, zq28, zq4, zq3, zq1, zq2, zq0, zq29, zq30, zq14, zq15, zq16, zq17, zq13, zq10, zq12, zq11, zq7, zq5, zq6, zq9, zq8, zq31, zq32, ite_T, ite_F, zq33, zq34, zq35, Nat.reduceEqDiff, len22, len24, fa26_0, fa26_1, fa26_2, len27, len35, fa86_0, fa86_1, fa86_2, fa97_0, fa97_1, fa106_0, fa106_1, fa145_0, fa145_1, fa145_2, fa145_3, fa145_4, len192] at H ⊢
  rw [zm_ (by omega) (by omega), show (o : Int) - 1 = ((o - 1 : Nat) : Int) from by omega]
  exact hN' (o - 1) _ _ ⟨by omega, rfl, _, Z2, d2, xs ++ [(y : Int)], rfl, by omega, by rw [List.length_append, List.length_singleton]; omega, H⟩ (by omega)
set_option maxHeartbeats 1600000 in
theorem wordIn_c (H : Apt w0 w (cur bc (.slice C bs.length cap) N :: E)) (hC : Byts w0 C bs) (hN : N ≤ 1000000) {gm : Gram} {Y : Option Addr} {cy : Nat} (hc : gm.rules.length ≤ cy) (hy : RulesF (fun _ => True) w Y gm.rules) (ht : 0 ≤ gm.toks ∧ gm.toks ≤ 1000) (hk : ∀ w' Z d ws, ws.length ≤ 20 → Apt w0 w' (cur bc (.slice C bs.length cap) (N + 200) :: ows Z d ws :: E) → k (.slice Z ws.length d) w') :
    CallK Try.prog 97 [ptrv bc, .agg #[.int .i64 gm.nons, .int .i64 gm.toks, .slice Y gm.rules.length cy]] k w := by
  refine enter97 ?_
  unfold S97
  refine zub_ fun b1 w1 g1 hb1 hB1 => ?_
  have H := (H.addBox g1 hb1 hB1).insert 1
  simp only [List.take_succ_cons, List.take_zero, List.drop_succ_cons, List.drop_zero, List.nil_append, List.cons_append] at H
  rw [zw_ zmb_ sz26 rfl (H.box 1 rfl)]
  refine zrj_ (gm := gm) (most := 3) ⟨Y, cy, rfl, hc, hy.gr g1⟩ fun w2 U d ps g2 o2 => ?_
  have H := (H.addLss g2 o2).insert 1
  simp only [List.take_succ_cons, List.take_zero, List.drop_succ_cons, List.drop_zero, List.nil_append, List.cons_append] at H
  have hsv : ∀ x ∈ (shortV gm 3).1, x.length ≤ 4 := fun x hx => by
    unfold shortV at hx
    split at hx
    · have := (shortW_mem hx).1
      simp at this
      omega
    · simp at hx
  have hsl : (shortV gm 3).1.length ≤ 10000 := by
    unfold shortV
    split
    · rename_i hh
      simp only [Bool.and_eq_true] at hh
      have := ztk_ (gm := gm) (n := (3 : Int).toNat + 1) (by have := (zdd_ hh.1).2; omega) (by decide)
      simp at this ⊢
      omega
    · simp
  generalize hSW : (shortV gm 3).1 = SW at *
  generalize (shortV gm 3).2 = okb at *
  have sec : ∀ {w' : World} {N' : Nat}, N' ≤ N + 100 → Apt w0 w' (cur bc (.slice C bs.length cap) N' :: lss U d SW ps :: bx b1 (Value.agg #[.int .i64 gm.nons, .int .i64 gm.toks, .slice Y gm.rules.length cy]).cells.toList 26 :: E) → Rd Try.prog (WS.at w') (zc_ 26 (ptrv b1)) fun t34 => CallK Try.prog 141 [ptrv bc, t34, .int .i64 5] (fun t35 w36 => k t35 w36) w' := fun {w' N'} hn H => by
    rw [zw_ zmb_ sz26 rfl (H.box 2 rfl)]
    have H := (H.erase 2).erase 1
    simp only [List.eraseIdx_cons_zero, List.eraseIdx_cons_succ] at H
    refine word_c H hC (by omega) (by omega) ht fun w3 Z d ws hl H => ?_
    exact hk w3 Z d ws (by omega) (zfe_ H (by omega))
  simp only [zq18, zq19, zq20, zq21, zq22, zq23, zq24, zq25, zq26, zq27, zq28, zq4, zq3, zq1, zq2, zq0, zq29, zq30, zq14, zq15, zq16, zq17, zq13, zq10, zq12, zq11, zq7, zq5, zq6, zq9, zq8, zq31, zq32, ite_T, ite_F, zq33, zq34, zq35, Nat.reduceEqDiff, len22, len24, fa26_0, fa26_1, fa26_2, len27, len35, fa86_0, fa86_1, fa86_2, fa97_0, fa97_1, fa106_0, fa106_1, fa145_0, fa145_1, fa145_2, fa145_3, fa145_4, len192]
  cases okb
  · simp only [zq18, zq19, zq20, zq21, zq22, zq23, zq24, zq25, zq26, zq27, zq28, zq4, zq3, zq1, zq2, zq0, zq29, zq30, zq14, zq15, zq16, zq17, zq13, zq10, zq12, zq11, zq7, zq5, zq6, zq9, zq8, zq31, zq32, ite_T, ite_F, zq33, zq34, zq35, Nat.reduceEqDiff, len22, len24, fa26_0, fa26_1, fa26_2, len27, len35, fa86_0, fa86_1, fa86_2, fa97_0, fa97_1, fa106_0, fa106_1, fa145_0, fa145_1, fa145_2, fa145_3, fa145_4, len192]
    exact sec (by omega) H
  simp only [zq18, zq19, zq20, zq21, zq22, zq23, zq24, zq25, zq26, zq27, zq28, zq4, zq3, zq1, zq2, zq0, zq29, zq30, zq14, zq15, zq16, zq17, zq13, zq10, zq12, zq11, zq7, zq5, zq6, zq9, zq8, zq31, zq32, ite_T, ite_F, zq33, zq34, zq35, Nat.reduceEqDiff, len22, len24, fa26_0, fa26_1, fa26_2, len27, len35, fa86_0, fa86_1, fa86_2, fa97_0, fa97_1, fa106_0, fa106_1, fa145_0, fa145_1, fa145_2, fa145_3, fa145_4, len192]
  by_cases hl0 : SW.length = 0
  · simp only [show ¬ ((0 : Int) < (SW.length : Int)) from by omega, decide_false, zq18, zq19, zq20, zq21, zq22, zq23, zq24, zq25, zq26, zq27, zq28, zq4, zq3, zq1, zq2, zq0, zq29, zq30, zq14, zq15, zq16, zq17, zq13, zq10, zq12, zq11, zq7, zq5, zq6, zq9, zq8, zq31, zq32, ite_T, ite_F, zq33, zq34, zq35, Nat.reduceEqDiff, len22, len24, fa26_0, fa26_1, fa26_2, len27, len35, fa86_0, fa86_1, fa86_2, fa97_0, fa97_1, fa106_0, fa106_1, fa145_0, fa145_1, fa145_2, fa145_3, fa145_4, len192]
    exact sec (by omega) H
  simp only [show ((0 : Int) < (SW.length : Int)) from by omega, decide_true, zq18, zq19, zq20, zq21, zq22, zq23, zq24, zq25, zq26, zq27, zq28, zq4, zq3, zq1, zq2, zq0, zq29, zq30, zq14, zq15, zq16, zq17, zq13, zq10, zq12, zq11, zq7, zq5, zq6, zq9, zq8, zq31, zq32, ite_T, ite_F, zq33, zq34, zq35, Nat.reduceEqDiff, len22, len24, fa26_0, fa26_1, fa26_2, len27, len35, fa86_0, fa86_1, fa86_2, fa97_0, fa97_1, fa106_0, fa106_1, fa145_0, fa145_1, fa145_2, fa145_3, fa145_4, len192]
  refine one_c H 0 rfl hC (by omega) (by omega) fun w4 b H => ?_
  simp only [List.set_cons_zero] at H
  cases b
  · simp only [zq18, zq19, zq20, zq21, zq22, zq23, zq24, zq25, zq26, zq27, zq28, zq4, zq3, zq1, zq2, zq0, zq29, zq30, zq14, zq15, zq16, zq17, zq13, zq10, zq12, zq11, zq7, zq5, zq6, zq9, zq8, zq31, zq32, ite_T, ite_F, zq33, zq34, zq35, Nat.reduceEqDiff, len22, len24, fa26_0, fa26_1, fa26_2, len27, len35, fa86_0, fa86_1, fa86_2, fa97_0, fa97_1, fa106_0, fa106_1, fa145_0, fa145_1, fa145_2, fa145_3, fa145_4, len192]
    exact sec (by omega) H
  simp only [zq18, zq19, zq20, zq21, zq22, zq23, zq24, zq25, zq26, zq27, zq28, zq4, zq3, zq1, zq2, zq0, zq29, zq30, zq14, zq15, zq16, zq17, zq13, zq10, zq12, zq11, zq7, zq5, zq6, zq9, zq8, zq31, zq32, ite_T, ite_F, zq33, zq34, zq35, Nat.reduceEqDiff, len22, len24, fa26_0, fa26_1, fa26_2, len27, len35, fa86_0, fa86_1, fa86_2, fa97_0, fa97_1, fa106_0, fa106_1, fa145_0, fa145_1, fa145_2, fa145_3, fa145_4, len192]
  refine zvc_ H 0 rfl hC (by omega) (by omega) fun w5 j h1 h2 H => ?_
  simp only [List.set_cons_zero] at H
  have hj : j < SW.length := by
    by_cases h : (SW.length : Int) ≤ 1
    · have := h1 h; omega
    · have := h2 (by omega); omega
  have hr := (H.lssi 1 rfl).read
  obtain ⟨Z, cz, t1, t2, t3⟩ := hr.row j hj
  have hx4 := hsv _ (rgt_mem hj)
  refine rdi (ixn35 hr.ptr hj) (rdi (ld27 t1) ?_)
  refine zui_ t3 rfl (by omega) fun X1 d1 w6 g6 o6 => ?_
  have H := (H.addOwn g6 o6).insert 1
  simp only [List.take_succ_cons, List.take_zero, List.drop_succ_cons, List.drop_zero, List.nil_append, List.cons_append] at H
  refine zed_ (fun f w' => ∃ N2 Z d, ∃ ws : List Int, f 7 = .slice Z ws.length d ∧ N2 ≤ N + 200 ∧ ws.length ≤ 20 ∧ Apt w0 w' (cur bc (.slice C bs.length cap) N2 :: ows Z d ws :: E)) (fun K hK => ?_) ?_
  case refine_2 =>
    rintro f w' ⟨N2, Z, d, ws, f7, h1, h2, H⟩
    rw [f7]
    exact hk w' Z d ws h2 (zfe_ H h1)
  refine one_c H 0 rfl hC (by omega) (by omega) fun w7 b H => ?_
  simp only [List.set_cons_zero] at H
  have H := (H.erase 3).erase 2
  simp only [List.eraseIdx_cons_zero, List.eraseIdx_cons_succ] at H
  cases b
  · simp only [zq18, zq19, zq20, zq21, zq22, zq23, zq24, zq25, zq26, zq27, zq28, zq4, zq3, zq1, zq2, zq0, zq29, zq30, zq14, zq15, zq16, zq17, zq13, zq10, zq12, zq11, zq7, zq5, zq6, zq9, zq8, zq31, zq32, ite_T, ite_F, zq33, zq34, zq35, Nat.reduceEqDiff, len22, len24, fa26_0, fa26_1, fa26_2, len27, len35, fa86_0, fa86_1, fa86_2, fa97_0, fa97_1, fa106_0, fa106_1, fa145_0, fa145_1, fa145_2, fa145_3, fa145_4, len192]
    exact hK _ _ ⟨_, X1, d1, rgt SW j, rfl, by omega, by omega, H⟩
  simp only [zq18, zq19, zq20, zq21, zq22, zq23, zq24, zq25, zq26, zq27, zq28, zq4, zq3, zq1, zq2, zq0, zq29, zq30, zq14, zq15, zq16, zq17, zq13, zq10, zq12, zq11, zq7, zq5, zq6, zq9, zq8, zq31, zq32, ite_T, ite_F, zq33, zq34, zq35, Nat.reduceEqDiff, len22, len24, fa26_0, fa26_1, fa26_2, len27, len35, fa86_0, fa86_1, fa86_2, fa97_0, fa97_1, fa106_0, fa106_1, fa145_0, fa145_1, fa145_2, fa145_3, fa145_4, len192]
  refine apH H 1 rfl (H.ints 1 rfl) rfl rfl (by omega) fun X2 d2 w8 H => ?_
  simp only [List.set_cons_zero, List.set_cons_succ] at H
  exact hK _ _ ⟨_, X2, d2, rgt SW j ++ rgt SW j, rfl, by omega, by rw [List.length_append]; omega, H⟩
end
open Go Go.Sh


def pl105 : Plans := fun _ => ⟨false, [], .nil⟩
def S105 (v0 : Value) (k : Value → World → Prop) (w : World) : Prop :=
 Do Try.prog (sBox 26 v0) (fun t1 w2 =>
 Do Try.prog (zib_ 141) (fun t3 w4 =>
 Rd Try.prog (WS.at w4) (zc_ 26 t1) fun t5 =>
 CallK Try.prog 142 [t5, (.func (.func 145) #[] #[])] (fun t6 w7 =>
 Do Try.prog (zu_ 141 t3 t6) (fun _ w8 =>
 Rd Try.prog (WS.at w8) (zjb_ 141 t3) fun t9 => k t9 w8) w7) w4) w2) w
theorem body105 : Try.f105.body = some (zg_ Try.f105) := by kernel_rfl
theorem same105 (v0 : Value) (k : Value → World → Prop) (w : World) : wpF Try.prog pl105 (zg_ Try.f105) (zt_ Try.prog Try.f105.results.toList k) (zp_ [v0]) w = S105 v0 k w := by kernel_rfl
theorem enter105 {v0 : Value} {k : Value → World → Prop} {w : World} (h : S105 v0 k w) : CallK Try.prog 105 [v0] k w :=
  zi_ (pl := pl105) zbb_ Try.func105 body105 (by kernel_rfl) (of_decide_eq_true (by kernel_rfl)) (by kernel_rfl) (by kernel_rfl) (Eq.mpr (same105 v0 k w) h)

def pl145 : Plans := fun _ => ⟨false, [], .nil⟩
def S145 (v0 v1 : Value) (k : Value → World → Prop) (w : World) : Prop :=
 Do Try.prog (sBox 106 v0) (fun t1 w2 =>
 Do Try.prog (sBox 141 v1) (fun t3 w4 =>
 Rd Try.prog (WS.at w4) (za_ 106 t1 1) fun t5 =>
 Rd Try.prog (WS.at w4) (zc_ 27 t5) fun t6 =>
 Rd Try.prog (WS.at w4) (zhd_ (.func 146) [] [t3]) fun t7 =>
 CallK Try.prog 101 [t6, t7] (fun t8 w9 =>
 Rd Try.prog (WS.at w9) (sUn .not t8) fun t10 =>
 k t10 w9) w4) w2) w
theorem body145 : Try.f145.body = some (zg_ Try.f145) := by kernel_rfl
theorem same145 (v0 v1 : Value) (k : Value → World → Prop) (w : World) : wpF Try.prog pl145 (zg_ Try.f145) (zt_ Try.prog Try.f145.results.toList k) (zp_ [v0, v1]) w = S145 v0 v1 k w := by kernel_rfl
theorem enter145 {v0 v1 : Value} {k : Value → World → Prop} {w : World} (h : S145 v0 v1 k w) : CallK Try.prog 145 [v0, v1] k w :=
  zi_ (pl := pl145) zbb_ Try.func145 body145 (by kernel_rfl) (of_decide_eq_true (by kernel_rfl)) (by kernel_rfl) (by kernel_rfl) (Eq.mpr (same145 v0 v1 k w) h)

def pl146 : Plans := fun _ => ⟨false, [], .nil⟩
def S146 (v0 v1 : Value) (k : Value → World → Prop) (w : World) : Prop :=
 Rd Try.prog (WS.at w) (sBin .lss 3 true v0 (.int .i64 0)) fun t1 =>
 zb_ t1 false (fun k w' => k v0 w') (fun t2 w3 =>
 zb_ t1 false (fun k w' => Rd Try.prog (WS.at w3) (zd_ 141 v1 t2) fun v => k v w') (fun t4 w5 =>
 zb_ t1 false (fun k w' => Rd Try.prog (WS.at w5) (zc_ 4 t4) fun v => k v w') (fun t6 w7 =>
 zb_ t1 false (fun k w' => Rd Try.prog (WS.at w7) (sUn .not t6) fun v => k v w') (fun t8 w9 =>
 Rd Try.prog (WS.at w9) (zcb_ t1 (.bool true) t8) fun t10 =>
 k t10 w9) w7) w5) w3) w
theorem body146 : Try.f146.body = some (zg_ Try.f146) := by kernel_rfl
theorem same146 (v0 v1 : Value) (k : Value → World → Prop) (w : World) : wpF Try.prog pl146 (zg_ Try.f146) (zt_ Try.prog Try.f146.results.toList k) (zp_ [v0, v1]) w = S146 v0 v1 k w := by kernel_rfl
theorem enter146 {v0 v1 : Value} {k : Value → World → Prop} {w : World} (h : S146 v0 v1 k w) : CallK Try.prog 146 [v0, v1] k w :=
  zi_ (pl := pl146) zbb_ Try.func146 body146 (by kernel_rfl) (of_decide_eq_true (by kernel_rfl)) (by kernel_rfl) (by kernel_rfl) (Eq.mpr (same146 v0 v1 k w) h)

def pl104 : Plans := fun _ => ⟨false, [], .nil⟩
def S104 (v0 : Value) (k : Value → World → Prop) (w : World) : Prop :=
 Do Try.prog (sBox 26 v0) (fun t1 w2 =>
 Do Try.prog (zib_ 141) (fun t3 w4 =>
 Rd Try.prog (WS.at w4) (zc_ 26 t1) fun t5 =>
 CallK Try.prog 142 [t5, (.func (.func 143) #[] #[])] (fun t6 w7 =>
 Do Try.prog (zu_ 141 t3 t6) (fun _ w8 =>
 Rd Try.prog (WS.at w8) (zjb_ 141 t3) fun t9 => k t9 w8) w7) w4) w2) w
theorem body104 : Try.f104.body = some (zg_ Try.f104) := by kernel_rfl
theorem same104 (v0 : Value) (k : Value → World → Prop) (w : World) : wpF Try.prog pl104 (zg_ Try.f104) (zt_ Try.prog Try.f104.results.toList k) (zp_ [v0]) w = S104 v0 k w := by kernel_rfl
theorem enter104 {v0 : Value} {k : Value → World → Prop} {w : World} (h : S104 v0 k w) : CallK Try.prog 104 [v0] k w :=
  zi_ (pl := pl104) zbb_ Try.func104 body104 (by kernel_rfl) (of_decide_eq_true (by kernel_rfl)) (by kernel_rfl) (by kernel_rfl) (Eq.mpr (same104 v0 k w) h)

def pl143 : Plans := fun _ => ⟨false, [], .nil⟩
def S143 (v0 v1 : Value) (k : Value → World → Prop) (w : World) : Prop :=
 Do Try.prog (sBox 106 v0) (fun t1 w2 =>
 Do Try.prog (sBox 141 v1) (fun t3 w4 =>
 Rd Try.prog (WS.at w4) (za_ 106 t1 1) fun t5 =>
 Rd Try.prog (WS.at w4) (zc_ 27 t5) fun t6 =>
 Rd Try.prog (WS.at w4) (zhd_ (.func 144) [] [t3]) fun t7 =>
 CallK Try.prog 101 [t6, t7] (fun t8 w9 =>
 Rd Try.prog (WS.at w9) (sUn .not t8) fun t10 =>
 k t10 w9) w4) w2) w
theorem body143 : Try.f143.body = some (zg_ Try.f143) := by kernel_rfl
theorem same143 (v0 v1 : Value) (k : Value → World → Prop) (w : World) : wpF Try.prog pl143 (zg_ Try.f143) (zt_ Try.prog Try.f143.results.toList k) (zp_ [v0, v1]) w = S143 v0 v1 k w := by kernel_rfl
theorem enter143 {v0 v1 : Value} {k : Value → World → Prop} {w : World} (h : S143 v0 v1 k w) : CallK Try.prog 143 [v0, v1] k w :=
  zi_ (pl := pl143) zbb_ Try.func143 body143 (by kernel_rfl) (of_decide_eq_true (by kernel_rfl)) (by kernel_rfl) (by kernel_rfl) (Eq.mpr (same143 v0 v1 k w) h)

def pl144 : Plans := fun _ => ⟨false, [], .nil⟩
def S144 (v0 v1 : Value) (k : Value → World → Prop) (w : World) : Prop :=
 Rd Try.prog (WS.at w) (sBin .geq 3 true v0 (.int .i64 0)) fun t1 =>
 zb_ t1 true (fun k w' => k v0 w') (fun t2 w3 =>
 zb_ t1 true (fun k w' => Rd Try.prog (WS.at w3) (zd_ 141 v1 t2) fun v => k v w') (fun t4 w5 =>
 zb_ t1 true (fun k w' => Rd Try.prog (WS.at w5) (zc_ 4 t4) fun v => k v w') (fun t6 w7 =>
 zb_ t1 true (fun k w' => Rd Try.prog (WS.at w7) (sUn .not t6) fun v => k v w') (fun t8 w9 =>
 Rd Try.prog (WS.at w9) (zcb_ t1 t8 (.bool false)) fun t10 =>
 k t10 w9) w7) w5) w3) w
theorem body144 : Try.f144.body = some (zg_ Try.f144) := by kernel_rfl
theorem same144 (v0 v1 : Value) (k : Value → World → Prop) (w : World) : wpF Try.prog pl144 (zg_ Try.f144) (zt_ Try.prog Try.f144.results.toList k) (zp_ [v0, v1]) w = S144 v0 v1 k w := by kernel_rfl
theorem enter144 {v0 v1 : Value} {k : Value → World → Prop} {w : World} (h : S144 v0 v1 k w) : CallK Try.prog 144 [v0, v1] k w :=
  zi_ (pl := pl144) zbb_ Try.func144 body144 (by kernel_rfl) (of_decide_eq_true (by kernel_rfl)) (by kernel_rfl) (by kernel_rfl) (Eq.mpr (same144 v0 v1 k w) h)

def pl12 : Plans := fun _ => ⟨false, [], .nil⟩
def S12 (v0 v1 v2 : Value) (k : Value → World → Prop) (w : World) : Prop :=
 Do Try.prog (sBox 26 v0) (fun t1 w2 =>
 Rd Try.prog (WS.at w2) (zc_ 26 t1) fun t3 =>
 CallK Try.prog 44 [t3] (fun t4 w5 =>
 Rd Try.prog (WS.at w5) (sUn .not t4) fun t6 =>
 zb_ t6 false (fun k w' => k v1 w') (fun t7 w8 =>
 zb_ t6 false (fun k w' => Rd Try.prog (WS.at w8) (ze_ .len #[27] 3 [false] [t7]) fun v => k v w') (fun t9 w10 =>
 zb_ t6 false (fun k w' => Rd Try.prog (WS.at w10) (sBin .gtr 3 true t9 (.int .i64 4)) fun v => k v w') (fun t11 w12 =>
 Rd Try.prog (WS.at w12) (zcb_ t6 (.bool true) t11) fun t13 =>
 zb_ t13 false (fun k w' => k v1 w') (fun t14 w15 =>
 zb_ t13 false (fun k w' => Rd Try.prog (WS.at w15) (za_ 26 t1 0) fun v => k v w') (fun t16 w17 =>
 zb_ t13 false (fun k w' => Rd Try.prog (WS.at w17) (zc_ 3 t16) fun v => k v w') (fun t18 w19 =>
 zb_ t13 false (fun k w' => Rd Try.prog (WS.at w19) (za_ 26 t1 1) fun v => k v w') (fun t20 w21 =>
 zb_ t13 false (fun k w' => Rd Try.prog (WS.at w21) (zc_ 3 t20) fun v => k v w') (fun t22 w23 =>
 zb_ t13 false (fun k w' => CallK Try.prog 45 [t14, t18, t22] k w') (fun t24 w25 =>
 zb_ t13 false (fun k w' => Rd Try.prog (WS.at w25) (sUn .not t24) fun v => k v w') (fun t26 w27 =>
 Rd Try.prog (WS.at w27) (zcb_ t13 (.bool true) t26) fun t28 =>
 zb_ t28 false (fun k w' => Rd Try.prog (WS.at w27) (za_ 26 t1 1) fun v => k v w') (fun t29 w30 =>
 zb_ t28 false (fun k w' => Rd Try.prog (WS.at w30) (zc_ 3 t29) fun v => k v w') (fun t31 w32 =>
 zb_ t28 false (fun k w' => k v2 w') (fun t33 w34 =>
 zb_ t28 false (fun k w' => CallK Try.prog 53 [t31, t33] k w') (fun t35 w36 =>
 zb_ t28 false (fun k w' => Rd Try.prog (WS.at w36) (sUn .not t35) fun v => k v w') (fun t37 w38 =>
 Rd Try.prog (WS.at w38) (zcb_ t28 (.bool true) t37) fun t39 =>
 zk_ t39
  (k (.tuple #[(.bool false), (.bool false)]) w38)
  (Rd Try.prog (WS.at w38) (zc_ 26 t1) fun t40 =>
  CallK Try.prog 54 [t40, v2] (fun t41 w42 =>
  Rd Try.prog (WS.at w42) (ze_ .len #[27] 3 [false] [v2]) fun t43 =>
  CallK Try.prog 55 [t41, v1, (.int .i64 0), t43] (fun t44 w45 =>
  k (.tuple #[t44, (.bool true)]) w45) w42) w38)) w36) w34) w32) w30) w27) w25) w23) w21) w19) w17) w15) w12) w10) w8) w5) w2) w
theorem body12 : Try.f12.body = some (zg_ Try.f12) := by kernel_rfl
theorem same12 (v0 v1 v2 : Value) (k : Value → World → Prop) (w : World) : wpF Try.prog pl12 (zg_ Try.f12) (zt_ Try.prog Try.f12.results.toList k) (zp_ [v0, v1, v2]) w = S12 v0 v1 v2 k w := by kernel_rfl
theorem enter12 {v0 v1 v2 : Value} {k : Value → World → Prop} {w : World} (h : S12 v0 v1 v2 k w) : CallK Try.prog 12 [v0, v1, v2] k w :=
  zi_ (pl := pl12) zbb_ Try.func12 body12 (by kernel_rfl) (of_decide_eq_true (by kernel_rfl)) (by kernel_rfl) (by kernel_rfl) (Eq.mpr (same12 v0 v1 v2 k w) h)

def pl7 : Plans := fun _ => ⟨false, [], .nil⟩
def S7 (v0 v1 : Value) (k : Value → World → Prop) (w : World) : Prop :=
 Rd Try.prog (WS.at w) (ze_ .len #[22] 3 [false] [v0]) fun t1 =>
 Rd Try.prog (WS.at w) (sBin .gtr 3 true t1 (.int .i64 1048576)) fun t2 =>
 zb_ t2 false (fun k w' => k v1 w') (fun t3 w4 =>
 zb_ t2 false (fun k w' => Rd Try.prog (WS.at w4) (ze_ .len #[22] 3 [false] [t3]) fun v => k v w') (fun t5 w6 =>
 zb_ t2 false (fun k w' => k v0 w') (fun t7 w8 =>
 zb_ t2 false (fun k w' => Rd Try.prog (WS.at w8) (ze_ .len #[22] 3 [false] [t7]) fun v => k v w') (fun t9 w10 =>
 zb_ t2 false (fun k w' => Rd Try.prog (WS.at w10) (sBin .sub 3 true (.int .i64 1048576) t9) fun v => k v w') (fun t11 w12 =>
 zb_ t2 false (fun k w' => Rd Try.prog (WS.at w12) (sBin .gtr 3 false t5 t11) fun v => k v w') (fun t13 w14 =>
 Rd Try.prog (WS.at w14) (zcb_ t2 (.bool true) t13) fun t15 =>
 k t15 w14) w12) w10) w8) w6) w4) w
theorem body7 : Try.f7.body = some (zg_ Try.f7) := by kernel_rfl
theorem same7 (v0 v1 : Value) (k : Value → World → Prop) (w : World) : wpF Try.prog pl7 (zg_ Try.f7) (zt_ Try.prog Try.f7.results.toList k) (zp_ [v0, v1]) w = S7 v0 v1 k w := by kernel_rfl
theorem enter7 {v0 v1 : Value} {k : Value → World → Prop} {w : World} (h : S7 v0 v1 k w) : CallK Try.prog 7 [v0, v1] k w :=
  zi_ (pl := pl7) zbb_ Try.func7 body7 (by kernel_rfl) (of_decide_eq_true (by kernel_rfl)) (by kernel_rfl) (by kernel_rfl) (Eq.mpr (same7 v0 v1 k w) h)

def pl13 : Plans := fun _ => ⟨false, [], .nil⟩
def S13 (v0 v1 : Value) (k : Value → World → Prop) (w : World) : Prop :=
 Rd Try.prog (WS.at w) (ze_ .len #[27] 3 [false] [v0]) fun t1 =>
 zfb_ [10, 11, 12, 6, 13, 14, 15, 4, 16, 9] (fun Q2 f3 w4 =>
  Rd Try.prog (WS.at w4) (sBin .lss 3 false (f3 9) (f3 8)) fun t5 =>
  zk_ t5
   (Rd Try.prog (WS.at w4) (zd_ 27 (f3 7) (f3 9)) fun t6 =>
   Rd Try.prog (WS.at w4) (zc_ 3 t6) fun t7 =>
   Rd Try.prog (WS.at w4) (sBin .eql 3 false t7 (f3 1)) fun t8 =>
   zk_ t8
    (Q2 .ret (F.upd (F.upd (F.upd (F.upd (F.upd (F.upd (F.upd (F.upd f3 10 t5) 11 t6) 12 t7) 6 t7) 13 t7) 14 (f3 1)) 15 t8) 4 (.bool true)) w4)
    (Rd Try.prog (WS.at w4) (sBin .add 3 true (f3 9) (.int .i64 1)) fun t9 =>
    Q2 .normal (F.upd (F.upd (F.upd (F.upd (F.upd (F.upd (F.upd (F.upd (F.upd f3 10 t5) 11 t6) 12 t7) 6 t7) 13 t7) 14 (f3 1)) 15 t8) 16 t9) 9 t9) w4))
   (Q2 (.exit 0) (F.upd f3 10 t5) w4))
  (zr_ 0 (seqQ (fun f10 w11 =>
 k (.bool false) w11) (zt_ Try.prog [.tmp 4] k)))
  (F.upd (F.upd (F.upd (F.upd (zp_ [v0, v1]) 4 (.bool false)) 7 v0) 8 t1) 9 (.int .i64 0)) w
theorem body13 : Try.f13.body = some (zg_ Try.f13) := by kernel_rfl
theorem same13 (v0 v1 : Value) (k : Value → World → Prop) (w : World) : wpF Try.prog pl13 (zg_ Try.f13) (zt_ Try.prog Try.f13.results.toList k) (zp_ [v0, v1]) w = S13 v0 v1 k w := by kernel_rfl
theorem enter13 {v0 v1 : Value} {k : Value → World → Prop} {w : World} (h : S13 v0 v1 k w) : CallK Try.prog 13 [v0, v1] k w :=
  zi_ (pl := pl13) zbb_ Try.func13 body13 (by kernel_rfl) (of_decide_eq_true (by kernel_rfl)) (by kernel_rfl) (by kernel_rfl) (Eq.mpr (same13 v0 v1 k w) h)

def pl11 : Plans := fun i => match i with
  | 6 => ⟨false, [], .step 0 .any (.step 1 .any (.step 2 .any (.step 3 .held (.step 4 .any (.step 5 .any (.step 6 .any (.step 7 .held (.step 8 .any (.nil)))))))))⟩
  | _ => ⟨false, [], .nil⟩
def S11 (v0 v1 : Value) (k : Value → World → Prop) (w : World) : Prop :=
 Rd Try.prog (WS.at w) (ze_ .len #[27] 3 [false] [v0]) fun t1 =>
 Rd Try.prog (WS.at w) (ze_ .len #[27] 3 [false] [v1]) fun t2 =>
 Rd Try.prog (WS.at w) (sBin .neq 3 false t1 t2) fun t3 =>
 zk_ t3
  (k (.bool false) w)
  (Rd Try.prog (WS.at w) (ze_ .len #[27] 3 [false] [v0]) fun t4 =>
  zfb_ [14, 15, 5, 16, 17, 18, 19, 20, 21, 22, 23, 24, 4, 25, 13] (fun Q5 f6 w7 =>
   Rd Try.prog (WS.at w7) (sBin .lss 3 false (f6 13) (f6 12)) fun t8 =>
   zk_ t8
    (Rd Try.prog WS.any (zd_ 27 (f6 0) (f6 13)) fun t9 =>
    Rd Try.prog (WS.at w7.drew) (zc_ 3 t9) fun t10 =>
    Rd Try.prog WS.any (zd_ 27 (f6 1) (f6 13)) fun t11 =>
    Rd Try.prog (WS.at w7.drew) (zc_ 3 t11) fun t12 =>
    Rd Try.prog WS.any (sBin .neq 3 false t10 t12) fun t13 =>
    zk_ t13
     (Q5 .ret (F.upd (F.upd (F.upd (F.upd (F.upd (F.upd (F.upd (F.upd (F.upd (F.upd (F.upd (F.upd (F.upd f6 14 t8) 15 (f6 13)) 5 (f6 13)) 16 (f6 0)) 17 (f6 13)) 18 t9) 19 t10) 20 (f6 1)) 21 (f6 13)) 22 t11) 23 t12) 24 t13) 4 (.bool false)) w7.drew)
     (Rd Try.prog (WS.at w7.drew) (sBin .add 3 true (f6 13) (.int .i64 1)) fun t14 =>
     Q5 .normal (F.upd (F.upd (F.upd (F.upd (F.upd (F.upd (F.upd (F.upd (F.upd (F.upd (F.upd (F.upd (F.upd (F.upd f6 14 t8) 15 (f6 13)) 5 (f6 13)) 16 (f6 0)) 17 (f6 13)) 18 t9) 19 t10) 20 (f6 1)) 21 (f6 13)) 22 t11) 23 t12) 24 t13) 25 t14) 13 t14) w7.drew))
    (Q5 (.exit 0) (F.upd f6 14 t8) w7))
   (zr_ 0 (seqQ (fun f15 w16 =>
  k (.bool true) w16) (zt_ Try.prog [.tmp 4] k)))
   (F.upd (F.upd (F.upd (F.upd (F.upd (F.upd (F.upd (F.upd (F.upd (zp_ [v0, v1]) 4 (.bool false)) 6 v0) 7 t1) 8 v1) 9 t2) 10 t3) 11 v0) 12 t4) 13 (.int .i64 0)) w)
theorem body11 : Try.f11.body = some (zg_ Try.f11) := by kernel_rfl
theorem same11 (v0 v1 : Value) (k : Value → World → Prop) (w : World) : wpF Try.prog pl11 (zg_ Try.f11) (zt_ Try.prog Try.f11.results.toList k) (zp_ [v0, v1]) w = S11 v0 v1 k w := by kernel_rfl
theorem enter11 {v0 v1 : Value} {k : Value → World → Prop} {w : World} (h : S11 v0 v1 k w) : CallK Try.prog 11 [v0, v1] k w :=
  zi_ (pl := pl11) zbb_ Try.func11 body11 (by kernel_rfl) (of_decide_eq_true (by kernel_rfl)) (by kernel_rfl) (by kernel_rfl) (Eq.mpr (same11 v0 v1 k w) h)

def pl43 : Plans := fun i => match i with
  | 8 => ⟨true, [5], .step 0 .held (.step 1 .any (.step 2 .any (.step 3 .held (.step 4 .one (.step 5 .last (.step 6 .any (.step 7 .any (.nil))))))))⟩
  | _ => ⟨false, [], .nil⟩
def S43 (v0 : Value) (k : Value → World → Prop) (w : World) : Prop :=
 Do Try.prog (zib_ 26) (fun t1 w2 =>
 Rd Try.prog (WS.at w2) (zx_ 86 [(0, v0)]) fun t3 =>
 Do Try.prog (sBox 86 t3) (fun t4 w5 =>
 CallK Try.prog 56 [t4] (fun t6 w7 =>
 Do Try.prog (zib_ 26) (fun t8 w9 =>
 Do Try.prog (zu_ 26 t8 t6) (fun _ w10 =>
 CallK Try.prog 57 [t4, (.int .i64 4)] (fun t11 w12 =>
 zfb_ [16, 17, 20, 21, 22, 23, 24, 25, 26, 27, 28, 29, 7, 18, 19, 8] (fun Q13 f14 w15 =>
  Rd Try.prog (WS.at w15) (sBin .gtr 3 true (f14 8) (.int .i64 0)) fun t16 =>
  zk_ t16
   (Rd Try.prog (WS.at w15) (za_ 26 (f14 6) 0) fun t17 =>
   Rd Try.prog (WS.at w15) (zc_ 3 t17) fun t18 =>
   CallK Try.prog 96 [(.int .i64 1), t18] (fun t19 w20 =>
   Rd Try.prog (WS.at w20) (sBin .add 3 true t19 (.int .i64 2)) fun t21 =>
   CallK Try.prog 57 [(f14 5), t21] (fun t22 w23 =>
   Rd Try.prog (WS.at w23) (sBin .sub 3 true t22 (.int .i64 2)) fun t24 =>
   Do Try.prog (zh_ 27 1 [(0, t24)]) (fun t25 w26 =>
   Do Try.prog (ze_ .append #[27, 27] 27 [false, false] [(f14 7), t25]) (fun t27 w28 =>
   Rd Try.prog (WS.at w28) (sBin .sub 3 true (f14 8) (.int .i64 1)) fun t29 =>
   Q13 .normal (F.upd (F.upd (F.upd (F.upd (F.upd (F.upd (F.upd (F.upd (F.upd (F.upd (F.upd (F.upd (F.upd (F.upd (F.upd (F.upd f14 16 (f14 8)) 17 t16) 20 (f14 7)) 21 (f14 5)) 22 t17) 23 t18) 24 t19) 25 t21) 26 t22) 27 t24) 28 t25) 29 t27) 7 t27) 18 (f14 8)) 19 t29) 8 t29) w28) w26) w23) w20) w15)
   (Q13 (.exit 0) (F.upd (F.upd f14 16 (f14 8)) 17 t16) w15))
  (zr_ 0 (seqQ (fun f30 w31 =>
 ∃ U32 : World → Prop, ∃ h33 : U32 w31.drew,
 Rd Try.prog ⟨U32, w31.drew, h33⟩ (zc_ 26 (f30 6)) fun t34 =>
 Rd Try.prog ⟨U32, w31.drew, h33⟩ (zc_ 26 (f30 6)) fun t35 =>
 CallK Try.prog 97 [(f30 5), t35] (fun t36 w37 =>
 U32 w37 ∧ Do Try.prog (zu_ 26 (f30 2) t34) (fun _ w38 =>
 Rd Try.prog (WS.at w38) (zjb_ 26 (f30 2)) fun t39 => k (.tuple #[t39, (f30 7), t36]) w38) w37) w31.drew) (zt_ Try.prog [.cell 2 26, .tmp 3, .tmp 4] k)))
  (F.upd (F.upd (F.upd (F.upd (F.upd (F.upd (F.upd (F.upd (F.upd (F.upd (F.upd (F.upd (F.upd (F.upd (zp_ [v0]) 2 t1) 3 (.slice none 0 0)) 4 (.slice none 0 0)) 9 v0) 10 t3) 11 t4) 5 t4) 12 t4) 13 t6) 6 t8) 7 (.slice none 0 0)) 14 t4) 15 t11) 8 t11) w12) w10) w9) w7) w5) w2) w
theorem body43 : Try.f43.body = some (zg_ Try.f43) := by kernel_rfl
theorem same43 (v0 : Value) (k : Value → World → Prop) (w : World) : wpF Try.prog pl43 (zg_ Try.f43) (zt_ Try.prog Try.f43.results.toList k) (zp_ [v0]) w = S43 v0 k w := by kernel_rfl
theorem enter43 {v0 : Value} {k : Value → World → Prop} {w : World} (h : S43 v0 k w) : CallK Try.prog 43 [v0] k w :=
  zi_ (pl := pl43) zbb_ Try.func43 body43 (by kernel_rfl) (of_decide_eq_true (by kernel_rfl)) (by kernel_rfl) (by kernel_rfl) (Eq.mpr (same43 v0 k w) h)

def pl111 : Plans := fun _ => ⟨false, [], .nil⟩
def S111 (v0 v1 : Value) (k : Value → World → Prop) (w : World) : Prop :=
 Do Try.prog (sBox 26 v0) (fun t1 w2 =>
 zfb_ [12, 6, 13, 14, 15, 16, 17, 18, 19, 8, 20, 21, 22, 23, 24, 9, 25, 26, 27, 28, 29, 30, 31, 11, 32, 33, 34, 35, 36, 37, 38, 39, 40, 41, 42, 43, 44, 45, 46, 47, 48, 9, 49, 28, 50, 51, 52, 53, 54, 5, 6, 55, 16] (fun Q3 f4 w5 =>
  zk_ (f4 6)
   (Rd Try.prog (WS.at w5) (za_ 26 (f4 2) 2) fun t6 =>
   Rd Try.prog (WS.at w5) (zc_ 24 t6) fun t7 =>
   Rd Try.prog (WS.at w5) (ze_ .len #[24] 3 [false] [t7]) fun t8 =>
   zfb_ [17, 18, 19, 8, 20, 21, 22, 23, 24, 9, 25, 26, 27, 28, 29, 30, 31, 11, 32, 33, 34, 35, 36, 37, 38, 39, 40, 41, 42, 43, 44, 45, 46, 47, 48, 9, 49, 28, 50, 51, 52, 53, 54, 5, 6, 55, 16] (fun Q9 f10 w11 =>
    Rd Try.prog (WS.at w11) (sBin .lss 3 false (f10 16) (f10 15)) fun t12 =>
    zk_ t12
     (Join (fun K13 =>
     Rd Try.prog (WS.at w11) (zd_ 24 (f10 14) (f10 16)) fun t16 =>
     Rd Try.prog (WS.at w11) (zc_ 106 t16) fun t17 =>
     Do Try.prog (zib_ 106) (fun t18 w19 =>
     Do Try.prog (zu_ 106 t18 t17) (fun _ w20 =>
     Rd Try.prog (WS.at w20) (za_ 106 t18 0) fun t21 =>
     Rd Try.prog (WS.at w20) (zc_ 3 t21) fun t22 =>
     CallK Try.prog 112 [(f10 5), t22] (fun t23 w24 =>
     Rd Try.prog (WS.at w24) (sUn .not t23) fun t25 =>
     Rd Try.prog (WS.at w24) (za_ 106 t18 1) fun t26 =>
     Rd Try.prog (WS.at w24) (zc_ 27 t26) fun t27 =>
     Rd Try.prog (WS.at w24) (ze_ .len #[27] 3 [false] [t27]) fun t28 =>
     zfb_ [29, 30, 31, 11, 32, 33, 34, 35, 36, 37, 38, 39, 40, 41, 42, 43, 44, 45, 46, 47, 48, 9, 49, 28] (fun Q29 f30 w31 =>
      Rd Try.prog (WS.at w31) (sBin .lss 3 false (f30 28) (f30 27)) fun t32 =>
      zk_ t32
       (Rd Try.prog (WS.at w31) (zd_ 27 (f30 26) (f30 28)) fun t33 =>
       Rd Try.prog (WS.at w31) (zc_ 3 t33) fun t34 =>
       zb_ (f30 9) true (fun k w' => k t34 w') (fun t35 w36 =>
       zb_ (f30 9) true (fun k w' => Rd Try.prog (WS.at w36) (sBin .lss 3 true t35 (.int .i64 0)) fun v => k v w') (fun t37 w38 =>
       zb_ (f30 9) true (fun k w' => k t37 w') (fun t39 w40 =>
       zb_ t39 true (fun k w' => k (f30 1) w') (fun t41 w42 =>
       zb_ (f30 9) true (fun k w' => Rd Try.prog (WS.at w42) (zcb_ t39 t41 (.bool false)) fun v => k v w') (fun t43 w44 =>
       zb_ (f30 9) true (fun k w' => k t43 w') (fun t45 w46 =>
       zb_ t45 false (fun k w' => k t34 w') (fun t47 w48 =>
       zb_ t45 false (fun k w' => Rd Try.prog (WS.at w48) (sBin .geq 3 true t47 (.int .i64 0)) fun v => k v w') (fun t49 w50 =>
       zb_ t45 false (fun k w' => k t49 w') (fun t51 w52 =>
       zb_ t51 true (fun k w' => k (f30 5) w') (fun t53 w54 =>
       zb_ t51 true (fun k w' => k t34 w') (fun t55 w56 =>
       zb_ t51 true (fun k w' => CallK Try.prog 112 [t53, t55] k w') (fun t57 w58 =>
       zb_ t45 false (fun k w' => Rd Try.prog (WS.at w58) (zcb_ t51 t57 (.bool false)) fun v => k v w') (fun t59 w60 =>
       zb_ (f30 9) true (fun k w' => Rd Try.prog (WS.at w60) (zcb_ t45 (.bool true) t59) fun v => k v w') (fun t61 w62 =>
       Rd Try.prog (WS.at w62) (zcb_ (f30 9) t61 (.bool false)) fun t63 =>
       Rd Try.prog (WS.at w62) (sBin .add 3 true (f30 28) (.int .i64 1)) fun t64 =>
       Q29 .normal (F.upd (F.upd (F.upd (F.upd (F.upd (F.upd (F.upd (F.upd (F.upd (F.upd (F.upd (F.upd (F.upd (F.upd (F.upd (F.upd (F.upd (F.upd (F.upd (F.upd (F.upd (F.upd (F.upd (F.upd f30 29 t32) 30 t33) 31 t34) 11 t34) 32 (f30 9)) 33 (f30 9)) 34 t35) 35 t37) 36 t39) 37 t41) 38 t43) 39 t45) 40 t47) 41 t49) 42 t51) 43 t53) 44 t55) 45 t57) 46 t59) 47 t61) 48 t63) 9 t63) 49 t64) 28 t64) w62) w60) w58) w56) w54) w52) w50) w48) w46) w44) w42) w40) w38) w36) w31)
       (Q29 (.exit 4) (F.upd f30 29 t32) w31))
      (zr_ 4 (seqQ (fun f65 w66 =>
     zk_ (f65 9)
      (Rd Try.prog (WS.at w66) (za_ 106 (f65 8) 0) fun t67 =>
      Rd Try.prog (WS.at w66) (zc_ 3 t67) fun t68 =>
      CallK Try.prog 148 [(f65 5), t68] (fun t69 w70 =>
      K13 (F.upd (F.upd (F.upd (F.upd (F.upd (F.upd (F.upd f65 50 (f65 9)) 51 (f65 5)) 52 t67) 53 t68) 54 t69) 5 t69) 6 (.bool true)) w70) w66)
      (K13 (F.upd f65 50 (f65 9)) w66)) (zr_ 3 (seqQ K13 Q9))))
      (F.upd (F.upd (F.upd (F.upd (F.upd (F.upd (F.upd (F.upd (F.upd (F.upd (F.upd (F.upd (F.upd (F.upd f10 17 t12) 18 t16) 19 t17) 8 t18) 20 (f10 5)) 21 t21) 22 t22) 23 t23) 24 t25) 9 t25) 25 t26) 26 t27) 27 t28) 28 (.int .i64 0)) w24) w20) w19) w11) (fun f14 w15 =>
     Rd Try.prog (WS.at w15) (sBin .add 3 true (f14 16) (.int .i64 1)) fun t73 =>
     Q9 .normal (F.upd (F.upd f14 55 t73) 16 t73) w15))
     (Q9 (.exit 2) (F.upd f10 17 t12) w11))
    (zr_ 2 (zr_ 1 Q3))
    (F.upd (F.upd (F.upd (F.upd (F.upd (F.upd f4 12 (f4 6)) 6 (.bool false)) 13 t6) 14 t7) 15 t8) 16 (.int .i64 0)) w5)
   (Q3 (.exit 0) (F.upd f4 12 (f4 6)) w5))
  (zr_ 0 (seqQ (fun f74 w75 =>
 k (f74 5) w75) (zt_ Try.prog [.tmp 4] k)))
  (F.upd (F.upd (F.upd (F.upd (zp_ [v0, v1]) 2 t1) 4 (.slice none 0 0)) 5 (.slice none 0 0)) 6 (.bool true)) w2) w
theorem body111 : Try.f111.body = some (zg_ Try.f111) := by kernel_rfl
theorem same111 (v0 v1 : Value) (k : Value → World → Prop) (w : World) : wpF Try.prog pl111 (zg_ Try.f111) (zt_ Try.prog Try.f111.results.toList k) (zp_ [v0, v1]) w = S111 v0 v1 k w := by kernel_rfl
theorem enter111 {v0 v1 : Value} {k : Value → World → Prop} {w : World} (h : S111 v0 v1 k w) : CallK Try.prog 111 [v0, v1] k w :=
  zi_ (pl := pl111) zbb_ Try.func111 body111 (by kernel_rfl) (of_decide_eq_true (by kernel_rfl)) (by kernel_rfl) (by kernel_rfl) (Eq.mpr (same111 v0 v1 k w) h)

def pl50 : Plans := fun _ => ⟨false, [], .nil⟩
def S50 (v0 v1 v2 : Value) (k : Value → World → Prop) (w : World) : Prop :=
 Do Try.prog (sBox 26 v0) (fun t1 w2 =>
 Rd Try.prog (WS.at w2) (ze_ .len #[27] 3 [false] [v1]) fun t3 =>
 Rd Try.prog (WS.at w2) (sBin .leq 3 false t3 v2) fun t4 =>
 zb_ t4 true (fun k w' => k v1 w') (fun t5 w6 =>
 zb_ t4 true (fun k w' => Rd Try.prog (WS.at w6) (za_ 26 t1 1) fun v => k v w') (fun t7 w8 =>
 zb_ t4 true (fun k w' => Rd Try.prog (WS.at w8) (zc_ 3 t7) fun v => k v w') (fun t9 w10 =>
 zb_ t4 true (fun k w' => Rd Try.prog (WS.at w10) (sUn .neg t9) fun v => k v w') (fun t11 w12 =>
 zb_ t4 true (fun k w' => Rd Try.prog (WS.at w12) (za_ 26 t1 0) fun v => k v w') (fun t13 w14 =>
 zb_ t4 true (fun k w' => Rd Try.prog (WS.at w14) (zc_ 3 t13) fun v => k v w') (fun t15 w16 =>
 zb_ t4 true (fun k w' => Rd Try.prog (WS.at w16) (sBin .sub 3 true t15 (.int .i64 1)) fun v => k v w') (fun t17 w18 =>
 zb_ t4 true (fun k w' => CallK Try.prog 110 [t5, t11, t17] k w') (fun t19 w20 =>
 Rd Try.prog (WS.at w20) (zcb_ t4 t19 (.bool false)) fun t21 =>
 k t21 w20) w18) w16) w14) w12) w10) w8) w6) w2) w
theorem body50 : Try.f50.body = some (zg_ Try.f50) := by kernel_rfl
theorem same50 (v0 v1 v2 : Value) (k : Value → World → Prop) (w : World) : wpF Try.prog pl50 (zg_ Try.f50) (zt_ Try.prog Try.f50.results.toList k) (zp_ [v0, v1, v2]) w = S50 v0 v1 v2 k w := by kernel_rfl
theorem enter50 {v0 v1 v2 : Value} {k : Value → World → Prop} {w : World} (h : S50 v0 v1 v2 k w) : CallK Try.prog 50 [v0, v1, v2] k w :=
  zi_ (pl := pl50) zbb_ Try.func50 body50 (by kernel_rfl) (of_decide_eq_true (by kernel_rfl)) (by kernel_rfl) (by kernel_rfl) (Eq.mpr (same50 v0 v1 v2 k w) h)

end Go.Proofs.Yteabbgaffgpegaa

namespace Go.Sh
open Go
def Kn (w : World) (L : List (World → Prop)) : Prop := ∀ (i : Nat) (P : World → Prop), L[i]? = some P → ∀ w', Gr w w' → P w'
section
variable {w w' : World} {L : List (World → Prop)} {P : World → Prop}
theorem Kn.step (H : Kn w L) (g : Gr w w') : Kn w' L := fun i P hi w'' g' => H i P hi w'' (zf_ g g')
theorem Kn.drew (H : Kn w L) : Kn w.drew L := H.step (zyc_ w)
theorem Kn.get (H : Kn w L) (i : Nat) (hi : L[i]? = some P) : P w := H i P hi w (Gr.refl w)
theorem Kn.nil (w : World) : Kn w [fun w' => Gr w w'] := fun i P hi w' g => by
  match i, hi with
  | 0, hi => obtain rfl := Option.some.inj hi; exact g
  | i + 1, hi => simp at hi
theorem Kn.add (H : Kn w L) (h : ∀ w', Gr w w' → P w') : Kn w (L ++ [P]) := fun i Q hi w' g => by
  rw [List.getElem?_append] at hi
  split at hi
  · exact H i Q hi w' g
  · rename_i hn
    match hk : i - L.length, hi with
    | 0, hi => simp at hi; subst hi; exact h w' g
    | k + 1, hi => simp at hi
end
abbrev kI (X : Option Addr) (xs : List Int) (c : Nat) : World → Prop := fun w => Ints w X xs ∧ xs.length ≤ c
abbrev kG (Y : Option Addr) (cy : Nat) (rs : List RuleL) : World → Prop := fun w => rs.length ≤ cy ∧ RulesF (fun _ => True) w Y rs
abbrev kB (b : Nat) (cs : List Value) (t : TypeId) : World → Prop := fun w => Box w b cs t
section
variable {w w' : World} {L : List (World → Prop)}
theorem Kn.addI (H : Kn w L) {X : Option Addr} {xs : List Int} {c : Nat} (h : Ints w X xs) (hc : xs.length ≤ c) : Kn w (L ++ [kI X xs c]) := H.add fun w' g => ⟨h.gr g, hc⟩
theorem Kn.addG (H : Kn w L) {Y : Option Addr} {cy : Nat} {rs : List RuleL} (hc : rs.length ≤ cy) (h : RulesF (fun _ => True) w Y rs) : Kn w (L ++ [kG Y cy rs]) := H.add fun w' g => ⟨hc, h.gr g⟩
theorem Kn.addB (H : Kn w L) {b : Nat} {cs : List Value} {t : TypeId} (h : Box w b cs t) : Kn w (L ++ [kB b cs t]) := H.add fun w' g => h.gr g
theorem gvK {Y : Option Addr} {cy : Nat} {gm : Gram} (h : kG Y cy gm.rules w) : GramV (fun _ => True) w (.agg #[.int .i64 gm.nons, .int .i64 gm.toks, .slice Y gm.rules.length cy]) gm := ⟨Y, cy, rfl, h.1, h.2⟩
end
theorem do_new {P : Program} {k : Value → World → Prop} {w : World} {L : List (World → Prop)} {t sz by' : Nat} {z : Value} {cs : List Value} (H : Kn w L) (I : Inf P t z sz by') (hs : szOf P t sz) (hz : z.cells.size = sz) (hl : cs.length = sz) (h1 : cs.all Value.oneCell' = true) (hv : (Value.agg cs.toArray).cells = cs.toArray)
    (h : ∀ b w', Kn w' (L ++ [kB b cs t]) → k (.pointer (some ⟨b, 0, none⟩)) w') : Do P (zib_ t) (fun p w1 => Do P (zu_ t p (.agg cs.toArray)) (fun _ w2 => k p w2) w1) w := by
  refine zue_ I fun b w1 g1 hb B1 => ?_
  refine zig_ (n := sz) hs (by rw [hv]; simpa using hl) (fun u hu => ?_) B1 (by simp [hz]) fun w2 g2 _ B2 => ?_
  · rw [hv] at hu
    exact List.all_eq_true.1 h1 u (by simpa using hu)
  · have g : Gr w w2 := gr_mod g1 g2 fun q hq => by
      obtain rfl := Option.some.inj hq
      exact hb
    refine h b w2 ((H.step g).addB ?_)
    have e : List.take 0 z.cells.toList ++ (Value.agg cs.toArray).cells.toList ++ List.drop (0 + sz) z.cells.toList = cs := by
      rw [hv, List.drop_eq_nil_of_le (by simp [hz])]
      simp
    rw [← e]
    exact B2
end Go.Sh
namespace Go.Proofs.Yteabbgaffgpegaa
open Go Go.Sh Go.RowKit
theorem big_c {w : World} {X Y : Option Addr} {n m c d : Nat} (hn : n ≤ 9223372036854775807) (hm : m ≤ 9223372036854775807) {k : Value → World → Prop} (hk : ∀ b, k (.bool b) w) :
    CallK Try.prog 7 [.slice X n c, .slice Y m d] k w := by
  refine enter7 ?_
  unfold S7
  simp only [zq18, zq19, zq20, zq21, zq22, zq23, zq24, zq25, zq26, zq27, zq28, zq4, zq3, zq1, zq2, zq0, zq29, zq30, zq14, zq15, zq16, zq17, zq13, zq10, zq12, zq11, zq7, zq5, zq6, zq9, zq8, zq31, zq32, ite_T, ite_F, zq33, zq34, zq35, Nat.reduceEqDiff, len22, len24, fa26_0, fa26_1, fa26_2, len27, len35, fa86_0, fa86_1, fa86_2, fa97_0, fa97_1, fa106_0, fa106_1, fa145_0, fa145_1, fa145_2, fa145_3, fa145_4, len192]
  by_cases h : (1048576 : Int) < n
  · simp only [h, decide_true, zq18, zq19, zq20, zq21, zq22, zq23, zq24, zq25, zq26, zq27, zq28, zq4, zq3, zq1, zq2, zq0, zq29, zq30, zq14, zq15, zq16, zq17, zq13, zq10, zq12, zq11, zq7, zq5, zq6, zq9, zq8, zq31, zq32, ite_T, ite_F, zq33, zq34, zq35, Nat.reduceEqDiff, len22, len24, fa26_0, fa26_1, fa26_2, len27, len35, fa86_0, fa86_1, fa86_2, fa97_0, fa97_1, fa106_0, fa106_1, fa145_0, fa145_1, fa145_2, fa145_3, fa145_4, len192]
    exact hk _
  · simp only [h, decide_false, zq18, zq19, zq20, zq21, zq22, zq23, zq24, zq25, zq26, zq27, zq28, zq4, zq3, zq1, zq2, zq0, zq29, zq30, zq14, zq15, zq16, zq17, zq13, zq10, zq12, zq11, zq7, zq5, zq6, zq9, zq8, zq31, zq32, ite_T, ite_F, zq33, zq34, zq35, Nat.reduceEqDiff, len22, len24, fa26_0, fa26_1, fa26_2, len27, len35, fa86_0, fa86_1, fa86_2, fa97_0, fa97_1, fa106_0, fa106_1, fa145_0, fa145_1, fa145_2, fa145_3, fa145_4, len192]
    exact hk _
theorem zvk_ {w : World} {X Y : Option Addr} {c d : Nat} {xs ys : List Int} (hx : Ints w X xs) (hy : Ints w Y ys) {k : Value → World → Prop} (hk : ∀ w', Gr w w' → k (.bool (decide (xs = ys))) w') :
    CallK Try.prog 11 [.slice X xs.length c, .slice Y ys.length d] k w := by
  refine enter11 ?_
  unfold S11
  simp only [zq18, zq19, zq20, zq21, zq22, zq23, zq24, zq25, zq26, zq27, zq28, zq4, zq3, zq1, zq2, zq0, zq29, zq30, zq14, zq15, zq16, zq17, zq13, zq10, zq12, zq11, zq7, zq5, zq6, zq9, zq8, zq31, zq32, ite_T, ite_F, zq33, zq34, zq35, Nat.reduceEqDiff, len22, len24, fa26_0, fa26_1, fa26_2, len27, len35, fa86_0, fa86_1, fa86_2, fa97_0, fa97_1, fa106_0, fa106_1, fa145_0, fa145_1, fa145_2, fa145_3, fa145_4, len192]
  by_cases hl : xs.length = ys.length
  · simp only [Int.ofNat_inj, hl, decide_true, Bool.not_true, zq18, zq19, zq20, zq21, zq22, zq23, zq24, zq25, zq26, zq27, zq28, zq4, zq3, zq1, zq2, zq0, zq29, zq30, zq14, zq15, zq16, zq17, zq13, zq10, zq12, zq11, zq7, zq5, zq6, zq9, zq8, zq31, zq32, ite_T, ite_F, zq33, zq34, zq35, Nat.reduceEqDiff, len22, len24, fa26_0, fa26_1, fa26_2, len27, len35, fa86_0, fa86_1, fa86_2, fa97_0, fa97_1, fa106_0, fa106_1, fa145_0, fa145_1, fa145_2, fa145_3, fa145_4, len192]
    rw [← hl]
    refine zhb_ xs.length 0 (fun i f w' => i ≤ xs.length ∧ f 13 = .int .i64 i ∧ Gr w w' ∧ xs.take i = ys.take i) ⟨Nat.zero_le _, rfl, Gr.refl w, rfl⟩ ?_
    rintro i f w1 N hag ⟨hi, h13, hg, hpre⟩ hN
    have h0 : f 0 = .slice X xs.length c := hag 0 (by decide)
    have h1 : f 1 = .slice Y xs.length d := hag 1 (by decide)
    have h12 : f 12 = .int .i64 xs.length := hag 12 (by decide)
    simp only [h0, h1, h12, h13, zq18, zq19, zq20, zq21, zq22, zq23, zq24, zq25, zq26, zq27, zq28, zq4, zq3, zq1, zq2, zq0, zq29, zq30, zq14, zq15, zq16, zq17, zq13, zq10, zq12, zq11, zq7, zq5, zq6, zq9, zq8, zq31, zq32, ite_T, ite_F, zq33, zq34, zq35, Nat.reduceEqDiff, len22, len24, fa26_0, fa26_1, fa26_2, len27, len35, fa86_0, fa86_1, fa86_2, fa97_0, fa97_1, fa106_0, fa106_1, fa145_0, fa145_1, fa145_2, fa145_3, fa145_4, len192]
    by_cases hlt : i < xs.length
    · have hlt' : (i : Int) < xs.length := by omega
      have := hx.le
      simp only [hlt', decide_true, zq18, zq19, zq20, zq21, zq22, zq23, zq24, zq25, zq26, zq27, zq28, zq4, zq3, zq1, zq2, zq0, zq29, zq30, zq14, zq15, zq16, zq17, zq13, zq10, zq12, zq11, zq7, zq5, zq6, zq9, zq8, zq31, zq32, ite_T, ite_F, zq33, zq34, zq35, Nat.reduceEqDiff, len22, len24, fa26_0, fa26_1, fa26_2, len27, len35, fa86_0, fa86_1, fa86_2, fa97_0, fa97_1, fa106_0, fa106_1, fa145_0, fa145_1, fa145_2, fa145_3, fa145_4, len192]
      rw [zwb_ hx.ptr hlt, ld3 ((hx.gr (zf_ hg (zyc_ w1))).cell i hlt), zwb_ (hl ▸ hy.ptr) hlt, ld3 ((hy.gr (zf_ hg (zyc_ w1))).cell i (by omega))]
      simp only [zq18, zq19, zq20, zq21, zq22, zq23, zq24, zq25, zq26, zq27, zq28, zq4, zq3, zq1, zq2, zq0, zq29, zq30, zq14, zq15, zq16, zq17, zq13, zq10, zq12, zq11, zq7, zq5, zq6, zq9, zq8, zq31, zq32, ite_T, ite_F, zq33, zq34, zq35, Nat.reduceEqDiff, len22, len24, fa26_0, fa26_1, fa26_2, len27, len35, fa86_0, fa86_1, fa86_2, fa97_0, fa97_1, fa106_0, fa106_1, fa145_0, fa145_1, fa145_2, fa145_3, fa145_4, len192]
      by_cases he : xs.getD i 0 = ys.getD i 0
      · simp only [he, decide_true, Bool.not_true, zq18, zq19, zq20, zq21, zq22, zq23, zq24, zq25, zq26, zq27, zq28, zq4, zq3, zq1, zq2, zq0, zq29, zq30, zq14, zq15, zq16, zq17, zq13, zq10, zq12, zq11, zq7, zq5, zq6, zq9, zq8, zq31, zq32, ite_T, ite_F, zq33, zq34, zq35, Nat.reduceEqDiff, len22, len24, fa26_0, fa26_1, fa26_2, len27, len35, fa86_0, fa86_1, fa86_2, fa97_0, fa97_1, fa106_0, fa106_1, fa145_0, fa145_1, fa145_2, fa145_3, fa145_4, len192]
        rw [zm_ (by omega) (by omega)]
        refine hN _ _ hlt ⟨by omega, rfl, zf_ hg (zyc_ w1), ?_⟩
        rw [zmc_ hlt, zmc_ (by omega), hpre, he]
      · simp only [he, decide_false, Bool.not_false, zq18, zq19, zq20, zq21, zq22, zq23, zq24, zq25, zq26, zq27, zq28, zq4, zq3, zq1, zq2, zq0, zq29, zq30, zq14, zq15, zq16, zq17, zq13, zq10, zq12, zq11, zq7, zq5, zq6, zq9, zq8, zq31, zq32, ite_T, ite_F, zq33, zq34, zq35, Nat.reduceEqDiff, len22, len24, fa26_0, fa26_1, fa26_2, len27, len35, fa86_0, fa86_1, fa86_2, fa97_0, fa97_1, fa106_0, fa106_1, fa145_0, fa145_1, fa145_2, fa145_3, fa145_4, len192]
        have := hk _ (zf_ hg (zyc_ w1))
        rwa [decide_eq_false (fun e => he (by rw [e]))] at this
    · simp only [show ¬ (i : Int) < xs.length from by omega, decide_false, zq18, zq19, zq20, zq21, zq22, zq23, zq24, zq25, zq26, zq27, zq28, zq4, zq3, zq1, zq2, zq0, zq29, zq30, zq14, zq15, zq16, zq17, zq13, zq10, zq12, zq11, zq7, zq5, zq6, zq9, zq8, zq31, zq32, ite_T, ite_F, zq33, zq34, zq35, Nat.reduceEqDiff, len22, len24, fa26_0, fa26_1, fa26_2, len27, len35, fa86_0, fa86_1, fa86_2, fa97_0, fa97_1, fa106_0, fa106_1, fa145_0, fa145_1, fa145_2, fa145_3, fa145_4, len192]
      have := hk _ hg
      rwa [decide_eq_true] at this
      rwa [List.take_of_length_le (by omega), List.take_of_length_le (by omega)] at hpre
  · simp only [Int.ofNat_inj, hl, decide_false, Bool.not_false, zq18, zq19, zq20, zq21, zq22, zq23, zq24, zq25, zq26, zq27, zq28, zq4, zq3, zq1, zq2, zq0, zq29, zq30, zq14, zq15, zq16, zq17, zq13, zq10, zq12, zq11, zq7, zq5, zq6, zq9, zq8, zq31, zq32, ite_T, ite_F, zq33, zq34, zq35, Nat.reduceEqDiff, len22, len24, fa26_0, fa26_1, fa26_2, len27, len35, fa86_0, fa86_1, fa86_2, fa97_0, fa97_1, fa106_0, fa106_1, fa145_0, fa145_1, fa145_2, fa145_3, fa145_4, len192]
    have := hk _ (Gr.refl w)
    rwa [decide_eq_false (fun e => hl (by rw [e]))] at this
theorem has_c {w : World} {X : Option Addr} {c : Nat} {xs : List Int} {n : Int} (hx : Ints w X xs) {k : Value → World → Prop} (hk : ∀ w', Gr w w' → k (.bool (decide (n ∈ xs))) w') :
    CallK Try.prog 13 [.slice X xs.length c, .int .i64 n] k w := by
  refine enter13 ?_
  unfold S13
  simp only [zq18, zq19, zq20, zq21, zq22, zq23, zq24, zq25, zq26, zq27, zq28, zq4, zq3, zq1, zq2, zq0, zq29, zq30, zq14, zq15, zq16, zq17, zq13, zq10, zq12, zq11, zq7, zq5, zq6, zq9, zq8, zq31, zq32, ite_T, ite_F, zq33, zq34, zq35, Nat.reduceEqDiff, len22, len24, fa26_0, fa26_1, fa26_2, len27, len35, fa86_0, fa86_1, fa86_2, fa97_0, fa97_1, fa106_0, fa106_1, fa145_0, fa145_1, fa145_2, fa145_3, fa145_4, len192]
  refine zhb_ xs.length 0 (fun i f w' => i ≤ xs.length ∧ f 9 = .int .i64 i ∧ Gr w w' ∧ n ∉ xs.take i) ⟨Nat.zero_le _, rfl, Gr.refl w, by simp⟩ ?_
  rintro i f w1 N hag ⟨hi, h9, hg, hpre⟩ hN
  have h1 : f 1 = .int .i64 n := hag 1 (by decide)
  have h7 : f 7 = .slice X xs.length c := hag 7 (by decide)
  have h8 : f 8 = .int .i64 xs.length := hag 8 (by decide)
  simp only [h1, h7, h8, h9, zq18, zq19, zq20, zq21, zq22, zq23, zq24, zq25, zq26, zq27, zq28, zq4, zq3, zq1, zq2, zq0, zq29, zq30, zq14, zq15, zq16, zq17, zq13, zq10, zq12, zq11, zq7, zq5, zq6, zq9, zq8, zq31, zq32, ite_T, ite_F, zq33, zq34, zq35, Nat.reduceEqDiff, len22, len24, fa26_0, fa26_1, fa26_2, len27, len35, fa86_0, fa86_1, fa86_2, fa97_0, fa97_1, fa106_0, fa106_1, fa145_0, fa145_1, fa145_2, fa145_3, fa145_4, len192]
  by_cases hlt : i < xs.length
  · have hlt' : (i : Int) < xs.length := by omega
    have := hx.le
    simp only [hlt', decide_true, zq18, zq19, zq20, zq21, zq22, zq23, zq24, zq25, zq26, zq27, zq28, zq4, zq3, zq1, zq2, zq0, zq29, zq30, zq14, zq15, zq16, zq17, zq13, zq10, zq12, zq11, zq7, zq5, zq6, zq9, zq8, zq31, zq32, ite_T, ite_F, zq33, zq34, zq35, Nat.reduceEqDiff, len22, len24, fa26_0, fa26_1, fa26_2, len27, len35, fa86_0, fa86_1, fa86_2, fa97_0, fa97_1, fa106_0, fa106_1, fa145_0, fa145_1, fa145_2, fa145_3, fa145_4, len192]
    rw [zwb_ hx.ptr hlt, ld3 ((hx.gr hg).cell i hlt)]
    simp only [zq18, zq19, zq20, zq21, zq22, zq23, zq24, zq25, zq26, zq27, zq28, zq4, zq3, zq1, zq2, zq0, zq29, zq30, zq14, zq15, zq16, zq17, zq13, zq10, zq12, zq11, zq7, zq5, zq6, zq9, zq8, zq31, zq32, ite_T, ite_F, zq33, zq34, zq35, Nat.reduceEqDiff, len22, len24, fa26_0, fa26_1, fa26_2, len27, len35, fa86_0, fa86_1, fa86_2, fa97_0, fa97_1, fa106_0, fa106_1, fa145_0, fa145_1, fa145_2, fa145_3, fa145_4, len192]
    by_cases he : xs.getD i 0 = n
    · simp only [he, decide_true, zq18, zq19, zq20, zq21, zq22, zq23, zq24, zq25, zq26, zq27, zq28, zq4, zq3, zq1, zq2, zq0, zq29, zq30, zq14, zq15, zq16, zq17, zq13, zq10, zq12, zq11, zq7, zq5, zq6, zq9, zq8, zq31, zq32, ite_T, ite_F, zq33, zq34, zq35, Nat.reduceEqDiff, len22, len24, fa26_0, fa26_1, fa26_2, len27, len35, fa86_0, fa86_1, fa86_2, fa97_0, fa97_1, fa106_0, fa106_1, fa145_0, fa145_1, fa145_2, fa145_3, fa145_4, len192]
      have := hk _ hg
      rwa [decide_eq_true (by rw [← he]; exact zec_ hlt)] at this
    · simp only [he, decide_false, zq18, zq19, zq20, zq21, zq22, zq23, zq24, zq25, zq26, zq27, zq28, zq4, zq3, zq1, zq2, zq0, zq29, zq30, zq14, zq15, zq16, zq17, zq13, zq10, zq12, zq11, zq7, zq5, zq6, zq9, zq8, zq31, zq32, ite_T, ite_F, zq33, zq34, zq35, Nat.reduceEqDiff, len22, len24, fa26_0, fa26_1, fa26_2, len27, len35, fa86_0, fa86_1, fa86_2, fa97_0, fa97_1, fa106_0, fa106_1, fa145_0, fa145_1, fa145_2, fa145_3, fa145_4, len192]
      rw [zm_ (by omega) (by omega)]
      refine hN _ _ hlt ⟨by omega, rfl, hg, ?_⟩
      rw [zmc_ hlt, List.mem_append, List.mem_singleton]
      exact fun h => h.elim hpre fun e => he e.symm
  · simp only [show ¬ (i : Int) < xs.length from by omega, decide_false, zq18, zq19, zq20, zq21, zq22, zq23, zq24, zq25, zq26, zq27, zq28, zq4, zq3, zq1, zq2, zq0, zq29, zq30, zq14, zq15, zq16, zq17, zq13, zq10, zq12, zq11, zq7, zq5, zq6, zq9, zq8, zq31, zq32, ite_T, ite_F, zq33, zq34, zq35, Nat.reduceEqDiff, len22, len24, fa26_0, fa26_1, fa26_2, len27, len35, fa86_0, fa86_1, fa86_2, fa97_0, fa97_1, fa106_0, fa106_1, fa145_0, fa145_1, fa145_2, fa145_3, fa145_4, len192]
    have := hk _ hg
    rw [List.take_of_length_le (by omega)] at hpre
    rwa [decide_eq_false hpre] at this
end Go.Proofs.Yteabbgaffgpegaa

namespace Go.Sh
open Go
def wordG (gm : Gram) (ws : List Int) : Bool := zab_ gm && zyd_ gm.toks ws
def ztd_ (gm : Gram) (xs : List Int) (m : Int) : Bool := decide ((xs.length : Int) ≤ m) && allB xs (-gm.toks) (gm.nons - 1)
noncomputable def seqV (gm : Gram) (xs ws : List Int) : Bool × Bool := if (wordG gm ws && ztd_ gm xs 4) = true then (zxb_ (spanT gm.rules ws) ws xs 0 ws.length, true) else (false, false)
theorem zyg_ {gm : Gram} {xs : List Int} {m : Int} (h : ztd_ gm xs m = true) : (xs.length : Int) ≤ m ∧ ∀ x ∈ xs, -gm.toks ≤ x ∧ x ≤ gm.nons - 1 := by
  simp only [ztd_, allB, inB, Bool.and_eq_true, decide_eq_true_eq, List.all_eq_true] at h
  exact h
theorem wordB_of {toks : Int} {ws : List Int} (h : zyd_ toks ws = true) : ws.length ≤ 10 ∧ ∀ t ∈ ws, 0 ≤ t ∧ t ≤ toks - 1 := by
  simp only [zyd_, allB, inB, Bool.and_eq_true, decide_eq_true_eq, List.all_eq_true] at h
  exact h
end Go.Sh
namespace Go.Proofs.Yteabbgaffgpegaa
open Go Go.Sh Go.RowKit
section
variable {w : World} {X Z Y : Option Addr} {cx cz cy : Nat} {gm : Gram} {ws xs : List Int} {k : Value → World → Prop}
abbrev grv (gm : Gram) (Y : Option Addr) (cy : Nat) : Value := .agg #[.int .i64 gm.nons, .int .i64 gm.toks, .slice Y gm.rules.length cy]
theorem l4Form_c {m : Int} (hX : Ints w X xs) (hn : 0 ≤ gm.nons ∧ gm.nons ≤ 1000) (ht : 0 ≤ gm.toks ∧ gm.toks ≤ 1000) (hk : ∀ w', Gr w w' → k (.bool (ztd_ gm xs m)) w') :
    CallK Try.prog 50 [grv gm Y cy, .slice X xs.length cx, .int .i64 m] k w := by
  refine enter50 ?_
  unfold S50
  refine zub_ fun b1 w1 g1 hb B1 => ?_
  unfold ztd_ at hk
  simp only [zq18, zq19, zq20, zq21, zq22, zq23, zq24, zq25, zq26, zq27, zq28, zq4, zq3, zq1, zq2, zq0, zq29, zq30, zq14, zq15, zq16, zq17, zq13, zq10, zq12, zq11, zq7, zq5, zq6, zq9, zq8, zq31, zq32, ite_T, ite_F, zq33, zq34, zq35, Nat.reduceEqDiff, len22, len24, fa26_0, fa26_1, fa26_2, len27, len35, fa86_0, fa86_1, fa86_2, fa97_0, fa97_1, fa106_0, fa106_1, fa145_0, fa145_1, fa145_2, fa145_3, fa145_4, len192]
  by_cases hl : (xs.length : Int) ≤ m
  · simp only [hl, decide_true, zq18, zq19, zq20, zq21, zq22, zq23, zq24, zq25, zq26, zq27, zq28, zq4, zq3, zq1, zq2, zq0, zq29, zq30, zq14, zq15, zq16, zq17, zq13, zq10, zq12, zq11, zq7, zq5, zq6, zq9, zq8, zq31, zq32, ite_T, ite_F, zq33, zq34, zq35, Nat.reduceEqDiff, len22, len24, fa26_0, fa26_1, fa26_2, len27, len35, fa86_0, fa86_1, fa86_2, fa97_0, fa97_1, fa106_0, fa106_1, fa145_0, fa145_1, fa145_2, fa145_3, fa145_4, len192]
    rw [decide_eq_true hl, Bool.true_and] at hk
    rw [ldB3 B1 rfl]
    simp only [zq18, zq19, zq20, zq21, zq22, zq23, zq24, zq25, zq26, zq27, zq28, zq4, zq3, zq1, zq2, zq0, zq29, zq30, zq14, zq15, zq16, zq17, zq13, zq10, zq12, zq11, zq7, zq5, zq6, zq9, zq8, zq31, zq32, ite_T, ite_F, zq33, zq34, zq35, Nat.reduceEqDiff, len22, len24, fa26_0, fa26_1, fa26_2, len27, len35, fa86_0, fa86_1, fa86_2, fa97_0, fa97_1, fa106_0, fa106_1, fa145_0, fa145_1, fa145_2, fa145_3, fa145_4, len192]
    rw [zm_ (by omega) (by omega)]
    rw [ldB3 B1 rfl]
    simp only [zq18, zq19, zq20, zq21, zq22, zq23, zq24, zq25, zq26, zq27, zq28, zq4, zq3, zq1, zq2, zq0, zq29, zq30, zq14, zq15, zq16, zq17, zq13, zq10, zq12, zq11, zq7, zq5, zq6, zq9, zq8, zq31, zq32, ite_T, ite_F, zq33, zq34, zq35, Nat.reduceEqDiff, len22, len24, fa26_0, fa26_1, fa26_2, len27, len35, fa86_0, fa86_1, fa86_2, fa97_0, fa97_1, fa106_0, fa106_1, fa145_0, fa145_1, fa145_2, fa145_3, fa145_4, len192]
    rw [zm_ (by omega) (by omega)]
    refine l1All_c (hX.gr g1) fun w2 g2 => ?_
    exact hk _ (zf_ g1 g2)
  · simp only [hl, decide_false, zq18, zq19, zq20, zq21, zq22, zq23, zq24, zq25, zq26, zq27, zq28, zq4, zq3, zq1, zq2, zq0, zq29, zq30, zq14, zq15, zq16, zq17, zq13, zq10, zq12, zq11, zq7, zq5, zq6, zq9, zq8, zq31, zq32, ite_T, ite_F, zq33, zq34, zq35, Nat.reduceEqDiff, len22, len24, fa26_0, fa26_1, fa26_2, len27, len35, fa86_0, fa86_1, fa86_2, fa97_0, fa97_1, fa106_0, fa106_1, fa145_0, fa145_1, fa145_2, fa145_3, fa145_4, len192]
    rw [decide_eq_false hl, Bool.false_and] at hk
    exact hk _ g1
theorem zve_ {gm : Gram} {xs : List Int} : (decide ((xs.length : Int) ≤ 4) && xs.all (symB gm.nons gm.toks)) = ztd_ gm xs 4 := rfl
set_option maxHeartbeats 1600000 in
theorem zvm_ (hG : kG Y cy gm.rules w) (hZ : kI Z xs cz w) (hX : kI X ws cx w) (hk : ∀ w', Gr w w' → k (.tuple #[.bool (seqV gm xs ws).1, .bool (seqV gm xs ws).2]) w') :
    CallK Try.prog 12 [grv gm Y cy, .slice Z xs.length cz, .slice X ws.length cx] k w := by
  refine enter12 ?_
  unfold S12
  have H := (((Kn.nil w).addG hG.1 hG.2).addI hX.1 hX.2).addI hZ.1 hZ.2
  refine zub_ fun b1 w1 g1 hb B1 => ?_
  have H := (H.step g1).addB B1
  rw [zw_ zmb_ sz26 rfl (H.get 4 rfl)]
  refine zyi_ (gvK (H.get 1 rfl)) fun w2 g => ?_
  have H := H.step g
  unfold seqV wordG at hk
  cases hg : zab_ gm
  · simp only [Bool.not_false, zq18, zq19, zq20, zq21, zq22, zq23, zq24, zq25, zq26, zq27, zq28, zq4, zq3, zq1, zq2, zq0, zq29, zq30, zq14, zq15, zq16, zq17, zq13, zq10, zq12, zq11, zq7, zq5, zq6, zq9, zq8, zq31, zq32, ite_T, ite_F, zq33, zq34, zq35, Nat.reduceEqDiff, len22, len24, fa26_0, fa26_1, fa26_2, len27, len35, fa86_0, fa86_1, fa86_2, fa97_0, fa97_1, fa106_0, fa106_1, fa145_0, fa145_1, fa145_2, fa145_3, fa145_4, len192]
    rw [hg, Bool.false_and, Bool.false_and, if_neg Bool.false_ne_true] at hk
    exact hk _ (H.get 0 rfl)
  rw [hg, Bool.true_and] at hk
  have hn := zjc_ hg
  have ht := zdd_ hg
  simp only [Bool.not_true, zq18, zq19, zq20, zq21, zq22, zq23, zq24, zq25, zq26, zq27, zq28, zq4, zq3, zq1, zq2, zq0, zq29, zq30, zq14, zq15, zq16, zq17, zq13, zq10, zq12, zq11, zq7, zq5, zq6, zq9, zq8, zq31, zq32, ite_T, ite_F, zq33, zq34, zq35, Nat.reduceEqDiff, len22, len24, fa26_0, fa26_1, fa26_2, len27, len35, fa86_0, fa86_1, fa86_2, fa97_0, fa97_1, fa106_0, fa106_1, fa145_0, fa145_1, fa145_2, fa145_3, fa145_4, len192]
  by_cases hl : (4 : Int) < xs.length
  · simp only [hl, decide_true, zq18, zq19, zq20, zq21, zq22, zq23, zq24, zq25, zq26, zq27, zq28, zq4, zq3, zq1, zq2, zq0, zq29, zq30, zq14, zq15, zq16, zq17, zq13, zq10, zq12, zq11, zq7, zq5, zq6, zq9, zq8, zq31, zq32, ite_T, ite_F, zq33, zq34, zq35, Nat.reduceEqDiff, len22, len24, fa26_0, fa26_1, fa26_2, len27, len35, fa86_0, fa86_1, fa86_2, fa97_0, fa97_1, fa106_0, fa106_1, fa145_0, fa145_1, fa145_2, fa145_3, fa145_4, len192]
    rw [← zve_, decide_eq_false (by omega), Bool.false_and, Bool.and_false, if_neg Bool.false_ne_true] at hk
    exact hk _ (H.get 0 rfl)
  simp only [hl, decide_false, zq18, zq19, zq20, zq21, zq22, zq23, zq24, zq25, zq26, zq27, zq28, zq4, zq3, zq1, zq2, zq0, zq29, zq30, zq14, zq15, zq16, zq17, zq13, zq10, zq12, zq11, zq7, zq5, zq6, zq9, zq8, zq31, zq32, ite_T, ite_F, zq33, zq34, zq35, Nat.reduceEqDiff, len22, len24, fa26_0, fa26_1, fa26_2, len27, len35, fa86_0, fa86_1, fa86_2, fa97_0, fa97_1, fa106_0, fa106_1, fa145_0, fa145_1, fa145_2, fa145_3, fa145_4, len192]
  rw [ldB3 (H.get 4 rfl) rfl, ldB3 (H.get 4 rfl) rfl]
  refine zmg_ (H.get 3 rfl).1 (by simp [inB]; omega) (by simp [inB]; omega) fun w3 g => ?_
  have H := H.step g
  rw [← zve_, decide_eq_true (show (xs.length : Int) ≤ 4 by omega), Bool.true_and] at hk
  cases hs : xs.all (symB gm.nons gm.toks)
  · simp only [Bool.not_false, zq18, zq19, zq20, zq21, zq22, zq23, zq24, zq25, zq26, zq27, zq28, zq4, zq3, zq1, zq2, zq0, zq29, zq30, zq14, zq15, zq16, zq17, zq13, zq10, zq12, zq11, zq7, zq5, zq6, zq9, zq8, zq31, zq32, ite_T, ite_F, zq33, zq34, zq35, Nat.reduceEqDiff, len22, len24, fa26_0, fa26_1, fa26_2, len27, len35, fa86_0, fa86_1, fa86_2, fa97_0, fa97_1, fa106_0, fa106_1, fa145_0, fa145_1, fa145_2, fa145_3, fa145_4, len192]
    rw [hs, Bool.and_false, if_neg Bool.false_ne_true] at hk
    exact hk _ (H.get 0 rfl)
  rw [hs, Bool.and_true] at hk
  simp only [Bool.not_true, zq18, zq19, zq20, zq21, zq22, zq23, zq24, zq25, zq26, zq27, zq28, zq4, zq3, zq1, zq2, zq0, zq29, zq30, zq14, zq15, zq16, zq17, zq13, zq10, zq12, zq11, zq7, zq5, zq6, zq9, zq8, zq31, zq32, ite_T, ite_F, zq33, zq34, zq35, Nat.reduceEqDiff, len22, len24, fa26_0, fa26_1, fa26_2, len27, len35, fa86_0, fa86_1, fa86_2, fa97_0, fa97_1, fa106_0, fa106_1, fa145_0, fa145_1, fa145_2, fa145_3, fa145_4, len192]
  rw [ldB3 (H.get 4 rfl) rfl]
  refine isWord_c (H.get 2 rfl).1 rfl (by omega) (by omega) fun w4 g => ?_
  have H := H.step g
  cases hw : zyd_ gm.toks ws
  · simp only [Bool.not_false, zq18, zq19, zq20, zq21, zq22, zq23, zq24, zq25, zq26, zq27, zq28, zq4, zq3, zq1, zq2, zq0, zq29, zq30, zq14, zq15, zq16, zq17, zq13, zq10, zq12, zq11, zq7, zq5, zq6, zq9, zq8, zq31, zq32, ite_T, ite_F, zq33, zq34, zq35, Nat.reduceEqDiff, len22, len24, fa26_0, fa26_1, fa26_2, len27, len35, fa86_0, fa86_1, fa86_2, fa97_0, fa97_1, fa106_0, fa106_1, fa145_0, fa145_1, fa145_2, fa145_3, fa145_4, len192]
    rw [hw, if_neg Bool.false_ne_true] at hk
    exact hk _ (H.get 0 rfl)
  rw [hw, if_pos rfl] at hk
  simp only [Bool.not_true, zq18, zq19, zq20, zq21, zq22, zq23, zq24, zq25, zq26, zq27, zq28, zq4, zq3, zq1, zq2, zq0, zq29, zq30, zq14, zq15, zq16, zq17, zq13, zq10, zq12, zq11, zq7, zq5, zq6, zq9, zq8, zq31, zq32, ite_T, ite_F, zq33, zq34, zq35, Nat.reduceEqDiff, len22, len24, fa26_0, fa26_1, fa26_2, len27, len35, fa86_0, fa86_1, fa86_2, fa97_0, fa97_1, fa106_0, fa106_1, fa145_0, fa145_1, fa145_2, fa145_3, fa145_4, len192]
  have hW := wordB_of hw
  have hF := zyg_ (show ztd_ gm xs 4 = true by rw [← zve_, hs, decide_eq_true (by omega)]; rfl)
  rw [zw_ zmb_ sz26 rfl (H.get 4 rfl)]
  have hw100 : ∀ t ∈ ws, 0 ≤ t ∧ t ≤ 100 := fun t ht' => by have := hW.2 t ht'; omega
  refine spans_c (gvK (H.get 1 rfl)) hg (H.get 2 rfl).1 rfl hW.1 hw100 fun w5 bT HT => ?_
  have H := H.step HT.gr
  refine zjk_ hW.1 hw100 xs (HT.box 0 rfl) (H.get 2 rfl).1 (H.get 3 rfl).1 (H.get 3 rfl).2 (fun x hx => by have := hF.2 x hx; omega) (Nat.zero_le _) (Nat.le_refl _) ?_
  exact hk _ (H.get 0 rfl)
end
theorem inf86' : Inf Try.prog 86 (.agg #[.slice none 0 0, .int .i64 0, .int .u64 0]) 3 40 := zke_ (by kernel_rfl)
theorem bd86 {S : WS} {k : Value → Prop} {ps : List (Nat × Value)} {cells : Array Value} (hf : Instr.fill (#[(0, 1), (1, 1), (2, 1)][·]?) #[.slice none 0 0, .int .i64 0, .int .u64 0] ps = some cells) : Rd Try.prog S (zx_ 86 ps) k = k (.agg cells) :=
  zhm_ Try.underlying86 inf86' sz22 sz3 sz84 hf
abbrev zg : List Value := [.int .i64 0, .int .i64 0, .slice none 0 0]
section
variable {w0 w : World} {E : List Thing} {C : Option Addr} {cap : Nat} {bs : List Int} {k : Value → World → Prop}
theorem draw0 {K : Value → Value → Value → World → Prop} (h : ∀ b1 b4 w', Apt w w' [cur b4 (.slice C bs.length cap) 0, bx b1 zg 26] → K (ptrv b1) (.agg #[.slice C bs.length cap, .int .i64 0, .int .u64 0]) (ptrv b4) w') :
    Do Try.prog (zib_ 26) (fun t1 w2 => Rd Try.prog (WS.at w2) (zx_ 86 [(0, .slice C bs.length cap)]) fun t3 => Do Try.prog (sBox 86 t3) (fun t4 w5 => K t1 t3 t4 w5) w2) w := by
  have H := Apt.nil w
  refine zpb_ H inf26 fun b1 w1 H => ?_
  refine rdi (bd86 (cells := #[.slice C bs.length cap, .int .i64 0, .int .u64 0]) rfl) ?_
  refine boxH H fun b4 w2 H => ?_
  simp only [List.nil_append, List.cons_append] at H
  have H := H.shutCur (N := 0) (tc := TC) (bc := b4) (cv := .slice C bs.length cap) (a := 0) (s := 0) 1 rfl (by omega) (by omega)
  simp only [List.set_cons_succ, List.set_cons_zero] at H
  exact h b1 b4 w2 (H.perm (List.Perm.swap _ _ _))
theorem rdS26 {S : WS} {k : Value → Prop} {b e : Nat} {cs : List Value} (hl : cs.length = 3) (h : ∀ w', S.S w' → Box w' b cs e) : Rd Try.prog S (zc_ 26 (ptrv b)) k = k (.agg cs.toArray) := by
  refine zrh_ zmb_ sz26 (cs := cs) hl fun w' hw j hj => ?_
  rw [show (⟨b, 0, none⟩ : Addr).add j = ⟨b, 0 + j, none⟩ from zq34 b 0 j, Nat.zero_add, (h w' hw).cell j]
  exact List.getElem?_eq_getElem hj
theorem gowK {ft : Nat → Prop} {Y : Option Addr} {cy : Nat} {rs : List RuleL} (h : OwnG 106 ft w 0 Y cy rs) : kG Y cy rs w := by
  have h1 := h.read
  obtain ⟨cells, hr, _⟩ := h
  exact ⟨hr.cap.1, h1⟩
set_option maxHeartbeats 1600000 in
theorem drawSeq_c (hC : Byts w C bs) (hk : ∀ w' gm ft Y cy Z cz xs X cx ws, Drawn 101 gm → Apt w w' [ows X cx ws, ows Z cz xs, gth ft Y cy gm.rules] → k (.tuple #[grv gm Y cy, .slice Z (List.length xs) cz, .slice X (List.length ws) cx]) w') :
    CallK Try.prog 43 [.slice C bs.length cap] k w := by
  refine enter43 ?_
  unfold S43
  refine draw0 fun b1 b4 w1 H => ?_
  refine any_c H hC (by omega) fun w2 gm ft Y cy hd H => ?_
  refine zpb_ H inf26 fun b8 w3 H => ?_
  refine zdb_ H 3 rfl sz26 rfl rfl rfl fun w4 H => ?_
  simp only [List.cons_append, List.nil_append, List.set_cons_zero, List.set_cons_succ] at H
  refine zvc_ H 0 rfl hC (by omega) (by omega) fun w5 a _ ha H => ?_
  have ha := ha (by omega)
  simp only [List.set_cons_zero] at H
  have H := (H.addOwn (Gr.refl _) (show Own 3 w5 w5.heap.size none 0 [] from Row.nil _ _ _ _)).insert 1
  simp only [List.cons_append, List.take_succ_cons, List.take_zero, List.drop_succ_cons, List.drop_zero, List.nil_append] at H
  refine zfc_ (fun o f w' => o ≤ a ∧ f 8 = .int .i64 (o : Int) ∧ ∃ N2 Z d, ∃ xs : List Int, f 7 = .slice Z xs.length d ∧ N2 ≤ 700 + (a - o) * 2 ∧ xs.length ≤ a - o ∧ Apt w w' [cur b4 (.slice C bs.length cap) N2, ows Z d xs, gth ft Y cy gm.rules, bx b1 zg 26, bx b8 [.int .i64 gm.nons, .int .i64 gm.toks, .slice Y gm.rules.length cy] 26]) (fun o => o) a
    ⟨Nat.le_refl _, rfl, _, none, 0, [], rfl, by omega, by simp, H⟩ ?_
  clear H
  rintro o f w6 NN hag ⟨ho, f8, N2, Z, d, xs, f7, hN2, hxs, H⟩ hN'
  have f2 : f 2 = ptrv b1 := hag 2 (by decide)
  have f5 : f 5 = ptrv b4 := hag 5 (by decide)
  have f6 : f 6 = ptrv b8 := hag 6 (by decide)
  simp only [f2, f5, f6, f7, f8, zq18, zq19, zq20, zq21, zq22, zq23, zq24, zq25, zq26, zq27, zq28, zq4, zq3, zq1, zq2, zq0, zq29, zq30, zq14, zq15, zq16, zq17, zq13, zq10, zq12, zq11, zq7, zq5, zq6, zq9, zq8, zq31, zq32, ite_T, ite_F, zq33, zq34, zq35, Nat.reduceEqDiff, len22, len24, fa26_0, fa26_1, fa26_2, len27, len35, fa86_0, fa86_1, fa86_2, fa97_0, fa97_1, fa106_0, fa106_1, fa145_0, fa145_1, fa145_2, fa145_3, fa145_4, len192]
  by_cases ho0 : 0 < o
  case neg =>
    simp only [show ¬ ((0 : Int) < (o : Int)) from by omega, decide_false, f2, f5, f6, f7, zq18, zq19, zq20, zq21, zq22, zq23, zq24, zq25, zq26, zq27, zq28, zq4, zq3, zq1, zq2, zq0, zq29, zq30, zq14, zq15, zq16, zq17, zq13, zq10, zq12, zq11, zq7, zq5, zq6, zq9, zq8, zq31, zq32, ite_T, ite_F, zq33, zq34, zq35, Nat.reduceEqDiff, len22, len24, fa26_0, fa26_1, fa26_2, len27, len35, fa86_0, fa86_1, fa86_2, fa97_0, fa97_1, fa106_0, fa106_1, fa145_0, fa145_1, fa145_2, fa145_3, fa145_4, len192]
    have H := H.drew
    refine ⟨fun w' => Box w' b8 [.int .i64 gm.nons, .int .i64 gm.toks, .slice Y gm.rules.length cy] 26, H.box 4 rfl, ?_⟩
    refine rdi (rdS26 rfl fun w' h => h) (rdi (rdS26 rfl fun w' h => h) ?_)
    have hG := gowK (H.gow 2 rfl)
    refine wordIn_c H hC (by omega) hG.1 hG.2 hd.toks fun w7 U e ws _ H => ?_
    refine ⟨H.box 5 rfl, ?_⟩
    refine zdb_ H 4 rfl sz26 rfl rfl rfl fun w8 H => ?_
    simp only [List.cons_append, List.nil_append, List.set_cons_zero, List.set_cons_succ] at H
    rw [ztc_, zw_ zmb_ sz26 rfl (H.box 4 rfl)]
    have H := ((H.erase 0).erase 4).erase 3
    simp only [List.eraseIdx_cons_zero, List.eraseIdx_cons_succ] at H
    exact hk w8 gm ft Y cy Z d xs U e ws hd H
  simp only [show ((0 : Int) < (o : Int)) from by omega, decide_true, zq18, zq19, zq20, zq21, zq22, zq23, zq24, zq25, zq26, zq27, zq28, zq4, zq3, zq1, zq2, zq0, zq29, zq30, zq14, zq15, zq16, zq17, zq13, zq10, zq12, zq11, zq7, zq5, zq6, zq9, zq8, zq31, zq32, ite_T, ite_F, zq33, zq34, zq35, Nat.reduceEqDiff, len22, len24, fa26_0, fa26_1, fa26_2, len27, len35, fa86_0, fa86_1, fa86_2, fa97_0, fa97_1, fa106_0, fa106_1, fa145_0, fa145_1, fa145_2, fa145_3, fa145_4, len192]
  rw [ldB3 (H.box 4 rfl) rfl]
  refine l1Most_c ?_
  have hnons := hd.nons
  simp only [zq18, zq19, zq20, zq21, zq22, zq23, zq24, zq25, zq26, zq27, zq28, zq4, zq3, zq1, zq2, zq0, zq29, zq30, zq14, zq15, zq16, zq17, zq13, zq10, zq12, zq11, zq7, zq5, zq6, zq9, zq8, zq31, zq32, ite_T, ite_F, zq33, zq34, zq35, Nat.reduceEqDiff, len22, len24, fa26_0, fa26_1, fa26_2, len27, len35, fa86_0, fa86_1, fa86_2, fa97_0, fa97_1, fa106_0, fa106_1, fa145_0, fa145_1, fa145_2, fa145_3, fa145_4, len192]
  have hm : ∃ m : Int, 0 ≤ m ∧ m ≤ 1000 ∧ (if (1 : Int) < gm.nons then gm.nons else 1) = m := ⟨_, by split <;> omega, by split <;> omega, rfl⟩
  obtain ⟨m, hm0, hm1, hme⟩ := hm
  rw [hme, zm_ (by omega) (by omega)]
  refine zvc_ H 0 rfl hC (by omega) (by omega) fun w7 c _ _ H => ?_
  simp only [List.set_cons_zero, zq18, zq19, zq20, zq21, zq22, zq23, zq24, zq25, zq26, zq27, zq28, zq4, zq3, zq1, zq2, zq0, zq29, zq30, zq14, zq15, zq16, zq17, zq13, zq10, zq12, zq11, zq7, zq5, zq6, zq9, zq8, zq31, zq32, ite_T, ite_F, zq33, zq34, zq35, Nat.reduceEqDiff, len22, len24, fa26_0, fa26_1, fa26_2, len27, len35, fa86_0, fa86_1, fa86_2, fa97_0, fa97_1, fa106_0, fa106_1, fa145_0, fa145_1, fa145_2, fa145_3, fa145_4, len192] at H ⊢
  generalize IntKind.i64.wrap _ = x
  refine pushH H 1 rfl rfl (by omega) fun t1 Z2 d2 w8 H => ?_
  simp only [List.set_cons_zero, List.set_cons_succ, zq18, zq19, zq20, zq21, zq22, zq23, zq24, zq25, zq26, zq27, zq28, zq4, zq3, zq1, zq2, zq0, zq29, zq30, zq14, zq15, zq16, zq17, zq13, zq10, zq12, zq11, zq7, zq5, zq6, zq9, zq8, zq31, zq32, ite_T, ite_F, zq33, zq34, zq35, Nat.reduceEqDiff, len22, len24, fa26_0, fa26_1, fa26_2, len27, len35, fa86_0, fa86_1, fa86_2, fa97_0, fa97_1, fa106_0, fa106_1, fa145_0, fa145_1, fa145_2, fa145_3, fa145_4, len192] at H ⊢
  rw [zm_ (by omega) (by omega), show (o : Int) - 1 = ((o - 1 : Nat) : Int) from by omega]
  exact hN' (o - 1) _ _ ⟨by omega, rfl, _, Z2, d2, xs ++ [x], rfl, by omega, by rw [List.length_append, List.length_singleton]; omega, H⟩ (by omega)
end
abbrev kC (C : Option Addr) (bs : List Int) : World → Prop := fun w => Byts w C bs
section
variable {S : WS} {k : Value → Prop}
theorem bneq {c x y : Bool} : Rd Try.prog S (sBin .neq 4 c (.bool x) (.bool y)) k = k (.bool (!(x == y))) := bin_neq_bool Try.underlying4
theorem beql {c x y : Bool} : Rd Try.prog S (sBin .eql 4 c (.bool x) (.bool y)) k = k (.bool (x == y)) := bin_eql_bool Try.underlying4
end
section
variable {w w' : World} {L : List (World → Prop)}
theorem knC (H : Kn w L) {C : Option Addr} {bs : List Int} (h : Byts w C bs) : Kn w (L ++ [kC C bs]) := H.add fun w' g => h.gr g
theorem newG {k : Value → World → Prop} (H : Kn w L) {gm : Gram} {Y : Option Addr} {cy : Nat} (h : ∀ b w', Kn w' (L ++ [kB b [.int .i64 gm.nons, .int .i64 gm.toks, .slice Y gm.rules.length cy] 26]) → k (ptrv b) w') :
    Do Try.prog (zib_ 26) (fun p w1 => Do Try.prog (zu_ 26 p (grv gm Y cy)) (fun _ w2 => k p w2) w1) w :=
  do_new (cs := [.int .i64 gm.nons, .int .i64 gm.toks, .slice Y gm.rules.length cy]) H inf26 sz26 rfl rfl rfl rfl h
theorem newR {k : Value → World → Prop} (H : Kn w L) {l : Int} {Y : Option Addr} {n c : Nat} (h : ∀ b w', Kn w' (L ++ [kB b [.int .i64 l, .slice Y n c] 106]) → k (ptrv b) w') :
    Do Try.prog (zib_ 106) (fun p w1 => Do Try.prog (zu_ 106 p (.agg #[.int .i64 l, .slice Y n c])) (fun _ w2 => k p w2) w1) w :=
  do_new (cs := [.int .i64 l, .slice Y n c]) H zvb_ zkb_ rfl rfl rfl rfl h
end
open Go Go.Sh

def pl112 : Plans := fun _ => ⟨false, [], .nil⟩
def S112 (v0 v1 : Value) (k : Value → World → Prop) (w : World) : Prop :=
 Rd Try.prog (WS.at w) (ze_ .len #[27] 3 [false] [v0]) fun t1 =>
 zfb_ [10, 11, 12, 6, 13, 14, 15, 4, 16, 9] (fun Q2 f3 w4 =>
  Rd Try.prog (WS.at w4) (sBin .lss 3 false (f3 9) (f3 8)) fun t5 =>
  zk_ t5
   (Rd Try.prog (WS.at w4) (zd_ 27 (f3 7) (f3 9)) fun t6 =>
   Rd Try.prog (WS.at w4) (zc_ 3 t6) fun t7 =>
   Rd Try.prog (WS.at w4) (sBin .eql 3 false t7 (f3 1)) fun t8 =>
   zk_ t8
    (Q2 .ret (F.upd (F.upd (F.upd (F.upd (F.upd (F.upd (F.upd (F.upd f3 10 t5) 11 t6) 12 t7) 6 t7) 13 t7) 14 (f3 1)) 15 t8) 4 (.bool true)) w4)
    (Rd Try.prog (WS.at w4) (sBin .add 3 true (f3 9) (.int .i64 1)) fun t9 =>
    Q2 .normal (F.upd (F.upd (F.upd (F.upd (F.upd (F.upd (F.upd (F.upd (F.upd f3 10 t5) 11 t6) 12 t7) 6 t7) 13 t7) 14 (f3 1)) 15 t8) 16 t9) 9 t9) w4))
   (Q2 (.exit 0) (F.upd f3 10 t5) w4))
  (zr_ 0 (seqQ (fun f10 w11 =>
 k (.bool false) w11) (zt_ Try.prog [.tmp 4] k)))
  (F.upd (F.upd (F.upd (F.upd (zp_ [v0, v1]) 4 (.bool false)) 7 v0) 8 t1) 9 (.int .i64 0)) w
theorem body112 : Try.f112.body = some (zg_ Try.f112) := by kernel_rfl
theorem same112 (v0 v1 : Value) (k : Value → World → Prop) (w : World) : wpF Try.prog pl112 (zg_ Try.f112) (zt_ Try.prog Try.f112.results.toList k) (zp_ [v0, v1]) w = S112 v0 v1 k w := by kernel_rfl
theorem enter112 {v0 v1 : Value} {k : Value → World → Prop} {w : World} (h : S112 v0 v1 k w) : CallK Try.prog 112 [v0, v1] k w :=
  zi_ (pl := pl112) zbb_ Try.func112 body112 (by kernel_rfl) (of_decide_eq_true (by kernel_rfl)) (by kernel_rfl) (by kernel_rfl) (Eq.mpr (same112 v0 v1 k w) h)

def pl148 : Plans := fun _ => ⟨false, [], .nil⟩
def S148 (v0 v1 : Value) (k : Value → World → Prop) (w : World) : Prop :=
 zfb_ [7, 8, 9, 10, 11, 12, 13, 14, 15, 16, 17, 18, 19, 20, 5] (fun Q1 f2 w3 =>
  Rd Try.prog (WS.at w3) (ze_ .len #[27] 3 [false] [(f2 0)]) fun t4 =>
  Rd Try.prog (WS.at w3) (sBin .lss 3 false (f2 5) t4) fun t5 =>
  zb_ t5 true (fun k w' => k (f2 0) w') (fun t6 w7 =>
  zb_ t5 true (fun k w' => k (f2 5) w') (fun t8 w9 =>
  zb_ t5 true (fun k w' => Rd Try.prog (WS.at w9) (zd_ 27 t6 t8) fun v => k v w') (fun t10 w11 =>
  zb_ t5 true (fun k w' => Rd Try.prog (WS.at w11) (zc_ 3 t10) fun v => k v w') (fun t12 w13 =>
  zb_ t5 true (fun k w' => k (f2 1) w') (fun t14 w15 =>
  zb_ t5 true (fun k w' => Rd Try.prog (WS.at w15) (sBin .lss 3 false t12 t14) fun v => k v w') (fun t16 w17 =>
  Rd Try.prog (WS.at w17) (zcb_ t5 t16 (.bool false)) fun t18 =>
  zk_ t18
   (Rd Try.prog (WS.at w17) (sBin .add 3 true (f2 5) (.int .i64 1)) fun t19 =>
   Q1 .normal (F.upd (F.upd (F.upd (F.upd (F.upd (F.upd (F.upd (F.upd (F.upd (F.upd (F.upd (F.upd (F.upd (F.upd (F.upd f2 7 (f2 5)) 8 (f2 0)) 9 t4) 10 t5) 11 t5) 12 t6) 13 t8) 14 t10) 15 t12) 16 t14) 17 t16) 18 t18) 19 (f2 5)) 20 t19) 5 t19) w17)
   (Q1 (.exit 0) (F.upd (F.upd (F.upd (F.upd (F.upd (F.upd (F.upd (F.upd (F.upd (F.upd (F.upd (F.upd f2 7 (f2 5)) 8 (f2 0)) 9 t4) 10 t5) 11 t5) 12 t6) 13 t8) 14 t10) 15 t12) 16 t14) 17 t16) 18 t18) w17)) w15) w13) w11) w9) w7) w3)
  (zr_ 0 (seqQ (fun f20 w21 =>
 Rd Try.prog (WS.at w21) (ze_ .len #[27] 3 [false] [(f20 0)]) fun t22 =>
 Rd Try.prog (WS.at w21) (sBin .lss 3 false (f20 5) t22) fun t23 =>
 zb_ t23 true (fun k w' => k (f20 0) w') (fun t24 w25 =>
 zb_ t23 true (fun k w' => k (f20 5) w') (fun t26 w27 =>
 zb_ t23 true (fun k w' => Rd Try.prog (WS.at w27) (zd_ 27 t24 t26) fun v => k v w') (fun t28 w29 =>
 zb_ t23 true (fun k w' => Rd Try.prog (WS.at w29) (zc_ 3 t28) fun v => k v w') (fun t30 w31 =>
 zb_ t23 true (fun k w' => k (f20 1) w') (fun t32 w33 =>
 zb_ t23 true (fun k w' => Rd Try.prog (WS.at w33) (sBin .eql 3 false t30 t32) fun v => k v w') (fun t34 w35 =>
 Rd Try.prog (WS.at w35) (zcb_ t23 t34 (.bool false)) fun t36 =>
 zk_ t36
  (k (f20 0) w35)
  (Do Try.prog (zh_ 27 0 []) (fun t37 w38 =>
  Rd Try.prog (WS.at w38) (zyb_ 27 (f20 0) none (some (f20 5)) none) fun t39 =>
  Do Try.prog (ze_ .append #[27, 27] 27 [false, false] [t37, t39]) (fun t40 w41 =>
  Do Try.prog (zh_ 27 1 [(0, (f20 1))]) (fun t42 w43 =>
  Do Try.prog (ze_ .append #[27, 27] 27 [false, false] [t40, t42]) (fun t44 w45 =>
  Rd Try.prog (WS.at w45) (zyb_ 27 (f20 0) (some (f20 5)) none none) fun t46 =>
  Do Try.prog (ze_ .append #[27, 27] 27 [false, false] [t44, t46]) (fun t47 w48 =>
  k t47 w48) w45) w43) w41) w38) w35)) w33) w31) w29) w27) w25) w21) (zt_ Try.prog [.tmp 4] k)))
  (F.upd (F.upd (zp_ [v0, v1]) 4 (.slice none 0 0)) 5 (.int .i64 0)) w
theorem body148 : Try.f148.body = some (zg_ Try.f148) := by kernel_rfl
theorem same148 (v0 v1 : Value) (k : Value → World → Prop) (w : World) : wpF Try.prog pl148 (zg_ Try.f148) (zt_ Try.prog Try.f148.results.toList k) (zp_ [v0, v1]) w = S148 v0 v1 k w := by kernel_rfl
theorem enter148 {v0 v1 : Value} {k : Value → World → Prop} {w : World} (h : S148 v0 v1 k w) : CallK Try.prog 148 [v0, v1] k w :=
  zi_ (pl := pl148) zbb_ Try.func148 body148 (by kernel_rfl) (of_decide_eq_true (by kernel_rfl)) (by kernel_rfl) (by kernel_rfl) (Eq.mpr (same148 v0 v1 k w) h)

end Go.Proofs.Yteabbgaffgpegaa

namespace Go.Sh
open Go
def putL (n : Int) : List Int → List Int
  | [] => [n]
  | x :: xs => if x < n then x :: putL n xs else if x = n then x :: xs else n :: x :: xs
abbrev zjd_ (xs : List Int) : Prop := xs.Pairwise fun a b => a < b
theorem zkd_ {x : Int} {xs : List Int} : zjd_ (x :: xs) ↔ (∀ b ∈ xs, x < b) ∧ zjd_ xs := List.pairwise_cons
theorem putL_mem {n m : Int} : ∀ {xs : List Int}, m ∈ putL n xs ↔ m = n ∨ m ∈ xs := by
  intro xs
  induction xs with
  | nil => simp [putL]
  | cons x xs ih =>
    unfold putL
    split
    · rw [List.mem_cons, ih, List.mem_cons]
      constructor
      · rintro (h | h | h)
        · exact .inr (.inl h)
        · exact .inl h
        · exact .inr (.inr h)
      · rintro (h | h | h)
        · exact .inr (.inl h)
        · exact .inl h
        · exact .inr (.inr h)
    · split
      · rename_i h
        subst h
        rw [List.mem_cons]
        constructor
        · exact fun h => .inr h
        · rintro (h | h)
          · exact .inl h
          · exact h
      · rw [List.mem_cons]
theorem zah_ {n : Int} : ∀ {xs : List Int}, zjd_ xs → zjd_ (putL n xs) := by
  intro xs
  induction xs with
  | nil => intro _; simp [putL]
  | cons x xs ih =>
    intro h
    rw [zkd_] at h
    unfold putL
    split
    · rename_i hx
      rw [zkd_]
      refine ⟨fun b hb => ?_, ih h.2⟩
      rcases putL_mem.1 hb with rfl | hb
      · exact hx
      · exact h.1 b hb
    · split
      · rw [zkd_]
        exact h
      · rw [zkd_, zkd_]
        refine ⟨fun b hb => ?_, h⟩
        rcases List.mem_cons.1 hb with rfl | hb
        · omega
        · have := h.1 b hb
          omega
theorem zwm_ {n : Int} : ∀ {xs : List Int}, zjd_ xs → n ∉ xs → (putL n xs).length = xs.length + 1 := by
  intro xs
  induction xs with
  | nil => intro _ _; simp [putL]
  | cons x xs ih =>
    intro h hn
    rw [zkd_] at h
    rw [List.mem_cons] at hn
    unfold putL
    split
    · rw [List.length_cons, ih h.2 (fun e => hn (.inr e)), List.length_cons]
    · split
      · rename_i e
        exact absurd (.inl e.symm) hn
      · simp
theorem zeg_ {n : Int} : ∀ {xs : List Int} {k : Nat}, k ≤ xs.length → (∀ j, j < k → xs.getD j 0 < n) → (k < xs.length → ¬ xs.getD k 0 < n) → putL n xs = if k < xs.length ∧ xs.getD k 0 = n then xs else xs.take k ++ n :: xs.drop k := by
  intro xs
  induction xs with
  | nil =>
    intro k hk _ _
    obtain rfl : k = 0 := by simpa using hk
    simp [putL]
  | cons x xs ih =>
    intro k hk h1 h2
    cases k with
    | zero =>
      have h3 := h2 (by simp)
      simp only [List.getD_cons_zero] at h3 ⊢
      unfold putL
      rw [if_neg h3]
      by_cases e : x = n
      · rw [if_pos e, if_pos ⟨by simp, e⟩]
      · rw [if_neg e, if_neg (fun h => e h.2)]
        rfl
    | succ k =>
      have h3 := h1 0 (by omega)
      simp only [List.getD_cons_zero] at h3
      unfold putL
      rw [if_pos h3, ih (k := k) (by simpa using hk) (fun j hj => by have := h1 (j + 1) (by omega); simpa using this) (fun hl => by have := h2 (by simpa using hl); simpa using this)]
      simp only [List.length_cons, List.getD_cons_succ, Nat.add_lt_add_iff_right]
      split <;> rfl
theorem ztj_ : ∀ {xs ys : List Int}, zjd_ xs → zjd_ ys → (∀ m, m ∈ xs ↔ m ∈ ys) → xs = ys := by
  intro xs
  induction xs with
  | nil =>
    intro ys _ _ h
    cases ys with
    | nil => rfl
    | cons y ys => exact absurd ((h y).2 (List.mem_cons_self ..)) (by simp)
  | cons x xs ih =>
    intro ys hx hy h
    rw [zkd_] at hx
    cases ys with
    | nil => exact absurd ((h x).1 (List.mem_cons_self ..)) (by simp)
    | cons y ys =>
      rw [zkd_] at hy
      have e : x = y := by
        have h1 := (h x).1 (List.mem_cons_self ..)
        have h2 := (h y).2 (List.mem_cons_self ..)
        rcases List.mem_cons.1 h1 with e | h1
        · exact e
        · rcases List.mem_cons.1 h2 with e | h2
          · exact e.symm
          · have := hy.1 x h1
            have := hx.1 y h2
            omega
      subst e
      congr 1
      refine ih hx.2 hy.2 fun m => ?_
      have hm := h m
      rw [List.mem_cons, List.mem_cons] at hm
      constructor
      · intro h1
        rcases hm.1 (.inr h1) with rfl | h2
        · exact absurd (hx.1 m h1) (by omega)
        · exact h2
      · intro h1
        rcases hm.2 (.inr h1) with rfl | h2
        · exact absurd (hy.1 m h1) (by omega)
        · exact h2
open Classical in
noncomputable def setL (n : Nat) (P : Nat → Prop) : List Int := ((List.range n).filter fun a => decide (P a)).map fun (a : Nat) => (a : Int)
open Classical in
theorem setL_mem {n : Nat} {P : Nat → Prop} {m : Int} : m ∈ setL n P ↔ ∃ a : Nat, m = a ∧ a < n ∧ P a := by
  unfold setL
  rw [List.mem_map]
  constructor
  · rintro ⟨a, ha, rfl⟩
    rw [List.mem_filter, List.mem_range, decide_eq_true_eq] at ha
    exact ⟨a, rfl, ha⟩
  · rintro ⟨a, rfl, ha⟩
    exact ⟨a, by rw [List.mem_filter, List.mem_range, decide_eq_true_eq]; exact ha, rfl⟩
theorem zbh_ (n : Nat) (P : Nat → Prop) : zjd_ (setL n P) := by
  unfold zjd_ setL
  rw [List.pairwise_map]
  refine (List.Pairwise.sublist List.filter_sublist ?_)
  have := List.pairwise_lt_range (n := n)
  exact this.imp fun h => by omega
theorem setL_len (n : Nat) (P : Nat → Prop) : (setL n P).length ≤ n := by
  unfold setL
  rw [List.length_map]
  have := List.length_filter_le (fun a => @decide (P a) (Classical.propDecidable _)) (List.range n)
  simpa using this
theorem zuj_ : ∀ {xs : List Int} {a n : Int}, zjd_ xs → (∀ x ∈ xs, a ≤ x ∧ x < n) → a ≤ n → (xs.length : Int) ≤ n - a := by
  intro xs
  induction xs with
  | nil => intro a n _ _ h; simp; omega
  | cons x xs ih =>
    intro a n h hb ha
    rw [zkd_] at h
    have h1 := hb x (List.mem_cons_self ..)
    have := ih (a := x + 1) (n := n) h.2 (fun y hy => by have := h.1 y hy; have := hb y (List.mem_cons_of_mem _ hy); omega) (by omega)
    rw [List.length_cons]
    omega
end Go.Sh
namespace Go.Proofs.Yteabbgaffgpegaa
open Go Go.Sh Go.RowKit
theorem zjf_ {w : World} {X : Option Addr} {c : Nat} {xs : List Int} {n : Int} (hx : Ints w X xs) {k : Value → World → Prop} (hk : ∀ w', Gr w w' → k (.bool (decide (n ∈ xs))) w') :
    CallK Try.prog 112 [.slice X xs.length c, .int .i64 n] k w := by
  refine enter112 ?_
  unfold S112
  simp only [zq18, zq19, zq20, zq21, zq22, zq23, zq24, zq25, zq26, zq27, zq28, zq4, zq3, zq1, zq2, zq0, zq29, zq30, zq14, zq15, zq16, zq17, zq13, zq10, zq12, zq11, zq7, zq5, zq6, zq9, zq8, zq31, zq32, ite_T, ite_F, zq33, zq34, zq35, Nat.reduceEqDiff, len22, len24, fa26_0, fa26_1, fa26_2, len27, len35, fa86_0, fa86_1, fa86_2, fa97_0, fa97_1, fa106_0, fa106_1, fa145_0, fa145_1, fa145_2, fa145_3, fa145_4, len192]
  refine zhb_ xs.length 0 (fun i f w' => i ≤ xs.length ∧ f 9 = .int .i64 i ∧ Gr w w' ∧ n ∉ xs.take i) ⟨Nat.zero_le _, rfl, Gr.refl w, by simp⟩ ?_
  rintro i f w1 N hag ⟨hi, h9, hg, hpre⟩ hN
  have h1 : f 1 = .int .i64 n := hag 1 (by decide)
  have h7 : f 7 = .slice X xs.length c := hag 7 (by decide)
  have h8 : f 8 = .int .i64 xs.length := hag 8 (by decide)
  simp only [h1, h7, h8, h9, zq18, zq19, zq20, zq21, zq22, zq23, zq24, zq25, zq26, zq27, zq28, zq4, zq3, zq1, zq2, zq0, zq29, zq30, zq14, zq15, zq16, zq17, zq13, zq10, zq12, zq11, zq7, zq5, zq6, zq9, zq8, zq31, zq32, ite_T, ite_F, zq33, zq34, zq35, Nat.reduceEqDiff, len22, len24, fa26_0, fa26_1, fa26_2, len27, len35, fa86_0, fa86_1, fa86_2, fa97_0, fa97_1, fa106_0, fa106_1, fa145_0, fa145_1, fa145_2, fa145_3, fa145_4, len192]
  by_cases hlt : i < xs.length
  · have hlt' : (i : Int) < xs.length := by omega
    have := hx.le
    simp only [hlt', decide_true, zq18, zq19, zq20, zq21, zq22, zq23, zq24, zq25, zq26, zq27, zq28, zq4, zq3, zq1, zq2, zq0, zq29, zq30, zq14, zq15, zq16, zq17, zq13, zq10, zq12, zq11, zq7, zq5, zq6, zq9, zq8, zq31, zq32, ite_T, ite_F, zq33, zq34, zq35, Nat.reduceEqDiff, len22, len24, fa26_0, fa26_1, fa26_2, len27, len35, fa86_0, fa86_1, fa86_2, fa97_0, fa97_1, fa106_0, fa106_1, fa145_0, fa145_1, fa145_2, fa145_3, fa145_4, len192]
    rw [zwb_ hx.ptr hlt, ld3 ((hx.gr hg).cell i hlt)]
    simp only [zq18, zq19, zq20, zq21, zq22, zq23, zq24, zq25, zq26, zq27, zq28, zq4, zq3, zq1, zq2, zq0, zq29, zq30, zq14, zq15, zq16, zq17, zq13, zq10, zq12, zq11, zq7, zq5, zq6, zq9, zq8, zq31, zq32, ite_T, ite_F, zq33, zq34, zq35, Nat.reduceEqDiff, len22, len24, fa26_0, fa26_1, fa26_2, len27, len35, fa86_0, fa86_1, fa86_2, fa97_0, fa97_1, fa106_0, fa106_1, fa145_0, fa145_1, fa145_2, fa145_3, fa145_4, len192]
    by_cases he : xs.getD i 0 = n
    · simp only [he, decide_true, zq18, zq19, zq20, zq21, zq22, zq23, zq24, zq25, zq26, zq27, zq28, zq4, zq3, zq1, zq2, zq0, zq29, zq30, zq14, zq15, zq16, zq17, zq13, zq10, zq12, zq11, zq7, zq5, zq6, zq9, zq8, zq31, zq32, ite_T, ite_F, zq33, zq34, zq35, Nat.reduceEqDiff, len22, len24, fa26_0, fa26_1, fa26_2, len27, len35, fa86_0, fa86_1, fa86_2, fa97_0, fa97_1, fa106_0, fa106_1, fa145_0, fa145_1, fa145_2, fa145_3, fa145_4, len192]
      have := hk _ hg
      rwa [decide_eq_true (by rw [← he]; exact zec_ hlt)] at this
    · simp only [he, decide_false, zq18, zq19, zq20, zq21, zq22, zq23, zq24, zq25, zq26, zq27, zq28, zq4, zq3, zq1, zq2, zq0, zq29, zq30, zq14, zq15, zq16, zq17, zq13, zq10, zq12, zq11, zq7, zq5, zq6, zq9, zq8, zq31, zq32, ite_T, ite_F, zq33, zq34, zq35, Nat.reduceEqDiff, len22, len24, fa26_0, fa26_1, fa26_2, len27, len35, fa86_0, fa86_1, fa86_2, fa97_0, fa97_1, fa106_0, fa106_1, fa145_0, fa145_1, fa145_2, fa145_3, fa145_4, len192]
      rw [zm_ (by omega) (by omega)]
      refine hN _ _ hlt ⟨by omega, rfl, hg, ?_⟩
      rw [zmc_ hlt, List.mem_append, List.mem_singleton]
      exact fun h => h.elim hpre fun e => he e.symm
  · simp only [show ¬ (i : Int) < xs.length from by omega, decide_false, zq18, zq19, zq20, zq21, zq22, zq23, zq24, zq25, zq26, zq27, zq28, zq4, zq3, zq1, zq2, zq0, zq29, zq30, zq14, zq15, zq16, zq17, zq13, zq10, zq12, zq11, zq7, zq5, zq6, zq9, zq8, zq31, zq32, ite_T, ite_F, zq33, zq34, zq35, Nat.reduceEqDiff, len22, len24, fa26_0, fa26_1, fa26_2, len27, len35, fa86_0, fa86_1, fa86_2, fa97_0, fa97_1, fa106_0, fa106_1, fa145_0, fa145_1, fa145_2, fa145_3, fa145_4, len192]
    have := hk _ hg
    rw [List.take_of_length_le (by omega)] at hpre
    rwa [decide_eq_false hpre] at this
set_option maxHeartbeats 1600000 in
theorem l1Put_c {w : World} {X : Option Addr} {c : Nat} {xs : List Int} {n : Int} (hx : kI X xs c w) (hl : xs.length ≤ 100000) {k : Value → World → Prop} (hk : ∀ w' X' c', Gr w w' → kI X' (putL n xs) c' w' → k (.slice X' (putL n xs).length c') w') :
    CallK Try.prog 148 [.slice X xs.length c, .int .i64 n] k w := by
  refine enter148 ?_
  unfold S148
  obtain ⟨hi0, hc⟩ := hx
  refine zhb_ xs.length 0 (fun i f w' => i ≤ xs.length ∧ f 5 = .int .i64 i ∧ w' = w ∧ ∀ j, j < i → xs.getD j 0 < n) ⟨Nat.zero_le _, rfl, rfl, fun j hj => by omega⟩ ?_
  rintro i f w1 N hag ⟨hi, h5, rfl, hpre⟩ hN
  have h0 : f 0 = .slice X xs.length c := hag 0 (by decide)
  have h1 : f 1 = .int .i64 n := hag 1 (by decide)
  simp only [h0, h1, h5, zq18, zq19, zq20, zq21, zq22, zq23, zq24, zq25, zq26, zq27, zq28, zq4, zq3, zq1, zq2, zq0, zq29, zq30, zq14, zq15, zq16, zq17, zq13, zq10, zq12, zq11, zq7, zq5, zq6, zq9, zq8, zq31, zq32, ite_T, ite_F, zq33, zq34, zq35, Nat.reduceEqDiff, len22, len24, fa26_0, fa26_1, fa26_2, len27, len35, fa86_0, fa86_1, fa86_2, fa97_0, fa97_1, fa106_0, fa106_1, fa145_0, fa145_1, fa145_2, fa145_3, fa145_4, len192]
  have fin : (i < xs.length → ¬ xs.getD i 0 < n) → ∀ (K : Value → World → Prop), (∀ w' X' c', Gr w1 w' → kI X' (putL n xs) c' w' → K (.slice X' (putL n xs).length c') w') → ¬ (i < xs.length ∧ xs.getD i 0 = n) →
      Do Try.prog (zh_ 27 0 []) (fun t37 w38 =>
        Rd Try.prog (WS.at w38) (zyb_ 27 (.slice X xs.length c) none (some (.int .i64 i)) none) fun t39 =>
        Do Try.prog (ze_ .append #[27, 27] 27 [false, false] [t37, t39]) (fun t40 w41 =>
        Do Try.prog (zh_ 27 1 [(0, .int .i64 n)]) (fun t42 w43 =>
        Do Try.prog (ze_ .append #[27, 27] 27 [false, false] [t40, t42]) (fun t44 w45 =>
        Rd Try.prog (WS.at w45) (zyb_ 27 (.slice X xs.length c) (some (.int .i64 i)) none none) fun t46 =>
        Do Try.prog (ze_ .append #[27, 27] 27 [false, false] [t44, t46]) (fun t47 w48 => K t47 w48) w45) w43) w41) w38) w1 := fun hnot K hK hne => by
    have H := Apt.nil w1
    refine buildH H u27 inf3 [] (by decide) (by decide) (by simp [Instr.fill, madeCells]) rfl fun b0 w2 H => ?_
    simp only [List.nil_append] at H
    refine rdi (slh27 (by omega) (by omega)) ?_
    have hs1 : Ints w2 (sub X 0 c 1) (xs.take i) := by
      have := (hi0.gr H.gr).sub (l := 0) (c := c) (Nat.zero_le _) hc i
      simpa using this
    have hlt : (xs.take i).length = i := by simp; omega
    refine apH H 0 (xs := []) rfl hs1 rfl (by rw [hlt]; simp) (by simp; omega) fun X1 d1 w3 H => ?_
    simp only [List.set_cons_zero, List.nil_append] at H ⊢
    refine pushH H 0 rfl rfl (by omega) fun t1 X2 d2 w4 H => ?_
    simp only [List.set_cons_zero] at H
    refine rdi (sll27 (by omega) (by omega)) ?_
    have hs2 : Ints w4 (sub X i c 1) (xs.drop i) := by
      have := (hi0.gr H.gr).sub (l := i) (c := c) hi hc xs.length
      rwa [List.take_of_length_le (by simp)] at this
    rw [Int.toNat_natCast]
    refine apH H 0 rfl hs2 rfl (by simp) (by simp; omega) fun X3 d3 w5 H => ?_
    simp only [List.set_cons_zero] at H
    have e : xs.take i ++ [n] ++ xs.drop i = putL n xs := by
      rw [zeg_ hi hpre hnot, if_neg hne, List.append_assoc]
      rfl
    rw [e] at H ⊢
    exact hK w5 X3 d3 H.gr ⟨H.ints 0 rfl, (H.row 0 rfl).cap.1⟩
  by_cases hlt : i < xs.length
  · have hlt' : (i : Int) < xs.length := by omega
    have := hi0.le
    simp only [hlt', decide_true, zq18, zq19, zq20, zq21, zq22, zq23, zq24, zq25, zq26, zq27, zq28, zq4, zq3, zq1, zq2, zq0, zq29, zq30, zq14, zq15, zq16, zq17, zq13, zq10, zq12, zq11, zq7, zq5, zq6, zq9, zq8, zq31, zq32, ite_T, ite_F, zq33, zq34, zq35, Nat.reduceEqDiff, len22, len24, fa26_0, fa26_1, fa26_2, len27, len35, fa86_0, fa86_1, fa86_2, fa97_0, fa97_1, fa106_0, fa106_1, fa145_0, fa145_1, fa145_2, fa145_3, fa145_4, len192]
    rw [zwb_ hi0.ptr hlt, ld3 (hi0.cell i hlt)]
    simp only [zq18, zq19, zq20, zq21, zq22, zq23, zq24, zq25, zq26, zq27, zq28, zq4, zq3, zq1, zq2, zq0, zq29, zq30, zq14, zq15, zq16, zq17, zq13, zq10, zq12, zq11, zq7, zq5, zq6, zq9, zq8, zq31, zq32, ite_T, ite_F, zq33, zq34, zq35, Nat.reduceEqDiff, len22, len24, fa26_0, fa26_1, fa26_2, len27, len35, fa86_0, fa86_1, fa86_2, fa97_0, fa97_1, fa106_0, fa106_1, fa145_0, fa145_1, fa145_2, fa145_3, fa145_4, len192]
    by_cases hlt2 : xs.getD i 0 < n
    · simp only [hlt2, decide_true, zq18, zq19, zq20, zq21, zq22, zq23, zq24, zq25, zq26, zq27, zq28, zq4, zq3, zq1, zq2, zq0, zq29, zq30, zq14, zq15, zq16, zq17, zq13, zq10, zq12, zq11, zq7, zq5, zq6, zq9, zq8, zq31, zq32, ite_T, ite_F, zq33, zq34, zq35, Nat.reduceEqDiff, len22, len24, fa26_0, fa26_1, fa26_2, len27, len35, fa86_0, fa86_1, fa86_2, fa97_0, fa97_1, fa106_0, fa106_1, fa145_0, fa145_1, fa145_2, fa145_3, fa145_4, len192]
      rw [zm_ (by omega) (by omega)]
      refine hN _ _ hlt ⟨by omega, rfl, rfl, fun j hj => ?_⟩
      rcases Nat.lt_succ_iff_lt_or_eq.1 hj with h | rfl
      · exact hpre j h
      · exact hlt2
    · simp only [hlt2, decide_false, h0, h1, h5, zq18, zq19, zq20, zq21, zq22, zq23, zq24, zq25, zq26, zq27, zq28, zq4, zq3, zq1, zq2, zq0, zq29, zq30, zq14, zq15, zq16, zq17, zq13, zq10, zq12, zq11, zq7, zq5, zq6, zq9, zq8, zq31, zq32, ite_T, ite_F, zq33, zq34, zq35, Nat.reduceEqDiff, len22, len24, fa26_0, fa26_1, fa26_2, len27, len35, fa86_0, fa86_1, fa86_2, fa97_0, fa97_1, fa106_0, fa106_1, fa145_0, fa145_1, fa145_2, fa145_3, fa145_4, len192]
      rw [zwb_ hi0.ptr hlt, ld3 (hi0.cell i hlt)]
      simp only [zq18, zq19, zq20, zq21, zq22, zq23, zq24, zq25, zq26, zq27, zq28, zq4, zq3, zq1, zq2, zq0, zq29, zq30, zq14, zq15, zq16, zq17, zq13, zq10, zq12, zq11, zq7, zq5, zq6, zq9, zq8, zq31, zq32, ite_T, ite_F, zq33, zq34, zq35, Nat.reduceEqDiff, len22, len24, fa26_0, fa26_1, fa26_2, len27, len35, fa86_0, fa86_1, fa86_2, fa97_0, fa97_1, fa106_0, fa106_1, fa145_0, fa145_1, fa145_2, fa145_3, fa145_4, len192]
      by_cases he : xs.getD i 0 = n
      · simp only [he, decide_true, zq18, zq19, zq20, zq21, zq22, zq23, zq24, zq25, zq26, zq27, zq28, zq4, zq3, zq1, zq2, zq0, zq29, zq30, zq14, zq15, zq16, zq17, zq13, zq10, zq12, zq11, zq7, zq5, zq6, zq9, zq8, zq31, zq32, ite_T, ite_F, zq33, zq34, zq35, Nat.reduceEqDiff, len22, len24, fa26_0, fa26_1, fa26_2, len27, len35, fa86_0, fa86_1, fa86_2, fa97_0, fa97_1, fa106_0, fa106_1, fa145_0, fa145_1, fa145_2, fa145_3, fa145_4, len192]
        have e : putL n xs = xs := by rw [zeg_ hi hpre (fun _ => hlt2), if_pos ⟨hlt, he⟩]
        have := hk w1 X c (Gr.refl _)
        rw [e] at this
        exact this ⟨hi0, hc⟩
      · simp only [he, decide_false, zq18, zq19, zq20, zq21, zq22, zq23, zq24, zq25, zq26, zq27, zq28, zq4, zq3, zq1, zq2, zq0, zq29, zq30, zq14, zq15, zq16, zq17, zq13, zq10, zq12, zq11, zq7, zq5, zq6, zq9, zq8, zq31, zq32, ite_T, ite_F, zq33, zq34, zq35, Nat.reduceEqDiff, len22, len24, fa26_0, fa26_1, fa26_2, len27, len35, fa86_0, fa86_1, fa86_2, fa97_0, fa97_1, fa106_0, fa106_1, fa145_0, fa145_1, fa145_2, fa145_3, fa145_4, len192]
        exact fin (fun _ => hlt2) k hk (fun h => he h.2)
  · simp only [show ¬ (i : Int) < xs.length from by omega, decide_false, h0, h1, h5, zq18, zq19, zq20, zq21, zq22, zq23, zq24, zq25, zq26, zq27, zq28, zq4, zq3, zq1, zq2, zq0, zq29, zq30, zq14, zq15, zq16, zq17, zq13, zq10, zq12, zq11, zq7, zq5, zq6, zq9, zq8, zq31, zq32, ite_T, ite_F, zq33, zq34, zq35, Nat.reduceEqDiff, len22, len24, fa26_0, fa26_1, fa26_2, len27, len35, fa86_0, fa86_1, fa86_2, fa97_0, fa97_1, fa106_0, fa106_1, fa145_0, fa145_1, fa145_2, fa145_3, fa145_4, len192]
    exact fin (fun h => absurd h hlt) k hk (fun h => hlt h.1)
end Go.Proofs.Yteabbgaffgpegaa

namespace Go.Sh
open Go
structure OwnSF (e1 e2 : Nat) (w : World) (B : Nat) (X : Option Addr) (c : Nat) (ls : List (List Int)) (ps : Nat → Option Addr × Nat) (n : Nat) : Prop where
  row : ∃ cells, Row w B e1 1 X ls.length c cells ∧ ∀ j, j < ls.length → cells[j]? = some (.slice (ps j).1 (rgt ls j).length (ps j).2)
  own : ∀ j, n ≤ j → j < ls.length → Own e2 w B (ps j).1 (ps j).2 (rgt ls j)
  two : ∀ i j, n ≤ i → n ≤ j → i < ls.length → j < ls.length → i ≠ j → blk (ps i).1 = none ∨ blk (ps i).1 ≠ blk (ps j).1
def FootF (X : Option Addr) (ps : Nat → Option Addr × Nat) (n m : Nat) (q : Nat) : Prop := blk X = some q ∨ ∃ l, n ≤ l ∧ l < m ∧ blk (ps l).1 = some q
section
variable {e1 e2 c n B : Nat} {w w' w0 : World} {X : Option Addr} {ls : List (List Int)} {ps : Nat → Option Addr × Nat} {L : List Thing}
theorem OwnSF.same (h : OwnSF e1 e2 w B X c ls ps n) (hs : ∀ q, FootF X ps n ls.length q → w'.heap[q]? = w.heap[q]?) : OwnSF e1 e2 w' B X c ls ps n := by
  obtain ⟨⟨cells, hr, hc⟩, ho, ht⟩ := h
  exact ⟨⟨cells, hr.same fun q hq => hs q (.inl hq), hc⟩, fun j hn hj => Row.same (ho j hn hj) fun q hq => hs q (.inr ⟨j, hn, hj, hq⟩), ht⟩
theorem OwnSF.up {B' : Nat} (h : OwnSF e1 e2 w B X c ls ps n) (hs : ∀ q, FootF X ps n ls.length q → B' ≤ q) : OwnSF e1 e2 w B' X c ls ps n := by
  obtain ⟨⟨cells, hr, hc⟩, ho, ht⟩ := h
  exact ⟨⟨cells, hr.up fun q hq => hs q (.inl hq), hc⟩, fun j hn hj => Row.up (ho j hn hj) fun q hq => hs q (.inr ⟨j, hn, hj, hq⟩), ht⟩
theorem OwnSF.mono {B' : Nat} (h : OwnSF e1 e2 w B X c ls ps n) (hb : B' ≤ B) : OwnSF e1 e2 w B' X c ls ps n := by
  obtain ⟨⟨cells, hr, hc⟩, ho, ht⟩ := h
  exact ⟨⟨cells, Row.mono hr hb, hc⟩, fun j hn hj => Row.mono (ho j hn hj) hb, ht⟩
theorem OwnSF.foot (h : OwnSF e1 e2 w B X c ls ps n) {q : Nat} (hq : FootF X ps n ls.length q) : B ≤ q ∧ q < w.heap.size := by
  obtain ⟨⟨cells, hr, hc⟩, ho, ht⟩ := h
  rcases hq with hq | ⟨l, hn, hl, hq⟩
  · exact hr.ge hq
  · exact Row.ge (ho l hn hl) hq
theorem OwnSF.ptr (h : OwnSF e1 e2 w B X c ls ps n) (hl : 0 < ls.length) : X = some (ad X) := by
  obtain ⟨⟨cells, hr, hc⟩, _⟩ := h
  exact hr.ptr hl
theorem OwnSF.cell (h : OwnSF e1 e2 w B X c ls ps n) {j : Nat} (hj : j < ls.length) : w.cell? ((ad X).add j) = some (.slice (ps j).1 (rgt ls j).length (ps j).2) := by
  obtain ⟨⟨cells, hr, hc⟩, _⟩ := h
  exact hr.src.cell _ _ (hc j hj)
end
end Go.Sh
namespace Go.Proofs.Yteabbgaffgpegaa
open Go Go.Sh Go.RowKit

open Go Go.Sh

end Go.Proofs.Yteabbgaffgpegaa
