/- Texts of this repository put together: E2, Sh8E, Sh60, Cj, Sh63, Cg, ShFE, ShFF, ShFG, ShFH, ShB2, ShI4, Bd, ShJ1, ShB3, ShB4, ShI5, Sh82, Sh8F, Sh8G, Sh8H, ShM1, ShM2, ShM3, ShM4, ShM5, ShN1, Bh, ShM6, ShM7, ShN2. -/
import Derived.Test.YteabbgaffgpegaaProg
import Derived.Test.YteabbgaffgpegaaKRewritesa
import Derived.Test.YteabbgaffgpegaaKRewritesc
import Derived.Test.YteabbgaffgpegaaKRewritesb

set_option linter.unusedVariables false
set_option maxRecDepth 100000
namespace Go.Proofs.Yteabbgaffgpegaa
open Go Go.Sh

def pl15 : Plans := fun _ => ⟨false, [], .nil⟩
def S15 (v0 v1 : Value) (k : Value → World → Prop) (w : World) : Prop :=
 Do Try.prog (sBox 26 v0) (fun t1 w2 =>
 Rd Try.prog (WS.at w2) (zd_ 26 t1) fun t3 =>
 CallK Try.prog 44 [t3] (fun t4 w5 =>
 Rd Try.prog (WS.at w5) (sUn .not t4) fun t6 =>
 zb_ t6 false (fun k w' => k v1 w') (fun t7 w8 =>
 zb_ t6 false (fun k w' => Rd Try.prog (WS.at w8) (zc_ .len #[27] 3 [false] [t7]) fun v => k v w') (fun t9 w10 =>
 zb_ t6 false (fun k w' => Rd Try.prog (WS.at w10) (sBin .gtr 3 true t9 (.int .i64 60)) fun v => k v w') (fun t11 w12 =>
 Rd Try.prog (WS.at w12) (zcb_ t6 (.bool true) t11) fun t13 =>
 zm_ t13
  (k (.tuple #[(.slice none 0 0), (.bool false)]) w12)
  (Do Try.prog (zh_ 27 1 [(0, (.int .i64 0))]) (fun t14 w15 =>
  Rd Try.prog (WS.at w15) (zc_ .len #[27] 3 [false] [v1]) fun t16 =>
  zrb_ [24, 25, 26, 8, 27, 28, 9, 30, 31, 32, 33, 34, 29, 35, 36, 10, 11, 37, 38, 4, 5, 39, 6, 40, 23] (fun Q17 f18 w19 =>
   Rd Try.prog (WS.at w19) (sBin .lss 3 false (f18 23) (f18 22)) fun t20 =>
   zm_ t20
    (Rd Try.prog (WS.at w19) (zf_ 27 (f18 21) (f18 23)) fun t21 =>
    Rd Try.prog (WS.at w19) (zd_ 3 t21) fun t22 =>
    CallK Try.prog 61 [(f18 6), (.func (.func 62) #[] #[])] (fun t23 w24 =>
    Rd Try.prog (WS.at w24) (zd_ 26 (f18 2)) fun t25 =>
    CallK Try.prog 20 [t25, (f18 6), t23, t22] (fun t26 w27 =>
    Rd Try.prog (WS.at w27) (zu_ t26 0) fun t28 =>
    Rd Try.prog (WS.at w27) (zu_ t26 1) fun t29 =>
    Rd Try.prog (WS.at w27) (sUn .not t29) fun t30 =>
    zm_ t30
     (Q17 .ret (F.upd (F.upd (F.upd (F.upd (F.upd (F.upd (F.upd (F.upd (F.upd (F.upd (F.upd (F.upd (F.upd (F.upd (F.upd (F.upd (F.upd (F.upd (F.upd (F.upd (F.upd f18 24 t20) 25 t21) 26 t22) 8 t22) 27 (f18 6)) 28 t23) 9 t23) 30 t25) 31 (f18 6)) 32 t23) 33 t22) 34 t26) 29 t26) 35 t28) 36 t29) 10 t28) 11 t29) 37 t29) 38 t30) 4 (.slice none 0 0)) 5 (.bool false)) w27)
     (Rd Try.prog (WS.at w27) (sBin .add 3 true (f18 23) (.int .i64 1)) fun t31 =>
     Q17 .normal (F.upd (F.upd (F.upd (F.upd (F.upd (F.upd (F.upd (F.upd (F.upd (F.upd (F.upd (F.upd (F.upd (F.upd (F.upd (F.upd (F.upd (F.upd (F.upd (F.upd (F.upd (F.upd (F.upd f18 24 t20) 25 t21) 26 t22) 8 t22) 27 (f18 6)) 28 t23) 9 t23) 30 t25) 31 (f18 6)) 32 t23) 33 t22) 34 t26) 29 t26) 35 t28) 36 t29) 10 t28) 11 t29) 37 t29) 38 t30) 39 t28) 6 t28) 40 t31) 23 t31) w27)) w24) w19)
    (Q17 (.exit 0) (F.upd f18 24 t20) w19))
   (zgb_ 0 (seqQ (fun f32 w33 =>
  k (.tuple #[(f32 6), (.bool true)]) w33) (zv_ Try.prog [.tmp 4, .tmp 5] k)))
   (F.upd (F.upd (F.upd (F.upd (F.upd (F.upd (F.upd (F.upd (F.upd (F.upd (F.upd (F.upd (F.upd (F.upd (F.upd (F.upd (zr_ [v0, v1]) 2 t1) 4 (.slice none 0 0)) 5 (.bool false)) 12 t3) 13 t4) 14 t6) 15 t6) 16 t7) 17 t9) 18 t11) 19 t13) 20 t14) 6 t14) 21 v1) 22 t16) 23 (.int .i64 0)) w15) w12)) w10) w8) w5) w2) w
theorem body15 : Try.f15.body = some (zi_ Try.f15) := by kernel_rfl
theorem same15 (v0 v1 : Value) (k : Value → World → Prop) (w : World) : wpF Try.prog pl15 (zi_ Try.f15) (zv_ Try.prog Try.f15.results.toList k) (zr_ [v0, v1]) w = S15 v0 v1 k w := by kernel_rfl
theorem enter15 {v0 v1 : Value} {k : Value → World → Prop} {w : World} (h : S15 v0 v1 k w) : CallK Try.prog 15 [v0, v1] k w :=
  zk_ (pl := pl15) zdb_ Try.func15 body15 (by kernel_rfl) (of_decide_eq_true (by kernel_rfl)) (by kernel_rfl) (by kernel_rfl) (Eq.mpr (same15 v0 v1 k w) h)

def pl62 : Plans := fun _ => ⟨false, [], .nil⟩
def S62 (v0 : Value) (k : Value → World → Prop) (w : World) : Prop :=
 Rd Try.prog (WS.at w) (sBin .geq 3 true v0 (.int .i64 0)) fun t1 =>
 k t1 w
theorem body62 : Try.f62.body = some (zi_ Try.f62) := by kernel_rfl
theorem same62 (v0 : Value) (k : Value → World → Prop) (w : World) : wpF Try.prog pl62 (zi_ Try.f62) (zv_ Try.prog Try.f62.results.toList k) (zr_ [v0]) w = S62 v0 k w := by kernel_rfl
theorem enter62 {v0 : Value} {k : Value → World → Prop} {w : World} (h : S62 v0 k w) : CallK Try.prog 62 [v0] k w :=
  zk_ (pl := pl62) zdb_ Try.func62 body62 (by kernel_rfl) (of_decide_eq_true (by kernel_rfl)) (by kernel_rfl) (by kernel_rfl) (Eq.mpr (same62 v0 k w) h)

def pl20 : Plans := fun i => match i with
  | 1 => ⟨true, [], .step 0 .held (.step 1 .one (.step 2 .any (.step 3 .any (.step 4 .any (.step 5 .any (.step 6 .any (.step 7 .any (.step 8 .any (.step 9 .any (.step 10 .any (.step 11 .held (.step 12 .any (.step 13 .held (.step 14 .one (.step 15 .any (.step 16 .any (.step 17 .any (.step 18 .any (.step 19 .any (.step 20 .any (.step 21 .any (.step 22 .one (.step 23 .any (.step 24 .any (.step 25 .any (.step 26 .any (.step 27 .any (.step 28 .held (.step 29 .any (.step 30 .any (.step 31 .one (.step 32 .any (.step 33 .any (.step 34 .any (.step 35 .any (.step 36 .held (.step 37 .any (.step 38 .any (.step 39 .any (.step 40 .held (.step 41 .any (.step 42 .any (.step 43 .any (.step 44 .held (.step 45 .any (.step 46 .any (.nil)))))))))))))))))))))))))))))))))))))))))))))))⟩
  | 3 => ⟨true, [12], .step 1 .any (.step 3 .any (.step 4 .any (.step 5 .any (.step 6 .any (.step 7 .held (.step 8 .any (.step 9 .any (.step 10 .any (.step 11 .held (.step 0 .one (.step 2 .one (.step 12 .last (.step 13 .any (.nil))))))))))))))⟩
  | _ => ⟨false, [], .nil⟩
def S20 (v0 v1 v2 v3 : Value) (k : Value → World → Prop) (w : World) : Prop :=
 Do Try.prog (sBox 26 v0) (fun t1 w2 =>
 ∃ U3 : World → Prop, ∃ h4 : U3 w2.drew,
 Rd Try.prog ⟨U3, w2.drew, h4⟩ (zd_ 26 t1) fun t5 =>
 CallK Try.prog 44 [t5] (fun t6 w7 =>
 U3 w7 ∧ Rd Try.prog WS.any (sUn .not t6) fun t8 =>
 zb_ t8 false (fun k w' => k v1 w') (fun t9 w10 =>
 zb_ t8 false (fun k w' => Rd Try.prog WS.any (zc_ .len #[27] 3 [false] [t9]) fun v => k v w') (fun t11 w12 =>
 zb_ t8 false (fun k w' => Rd Try.prog WS.any (sBin .gtr 3 true t11 (.int .i64 40)) fun v => k v w') (fun t13 w14 =>
 Rd Try.prog WS.any (zcb_ t8 (.bool true) t13) fun t15 =>
 zb_ t15 false (fun k w' => k v1 w') (fun t16 w17 =>
 zb_ t15 false (fun k w' => Rd Try.prog WS.any (za_ 26 t1 0) fun v => k v w') (fun t18 w19 =>
 zb_ t15 false (fun k w' => Rd Try.prog ⟨U3, w2.drew, h4⟩ (zd_ 3 t18) fun v => k v w') (fun t20 w21 =>
 zb_ t15 false (fun k w' => Rd Try.prog WS.any (za_ 26 t1 1) fun v => k v w') (fun t22 w23 =>
 zb_ t15 false (fun k w' => Rd Try.prog ⟨U3, w2.drew, h4⟩ (zd_ 3 t22) fun v => k v w') (fun t24 w25 =>
 zb_ t15 false (fun k w' => CallK Try.prog 45 [t16, t20, t24] k w') (fun t26 w27 =>
 U3 w27 ∧ zb_ t15 false (fun k w' => Rd Try.prog WS.any (sUn .not t26) fun v => k v w') (fun t28 w29 =>
 Rd Try.prog WS.any (zcb_ t15 (.bool true) t28) fun t30 =>
 zb_ t30 false (fun k w' => k v2 w') (fun t31 w32 =>
 zb_ t30 false (fun k w' => k v1 w') (fun t33 w34 =>
 zb_ t30 false (fun k w' => Rd Try.prog WS.any (zc_ .len #[27] 3 [false] [t33]) fun v => k v w') (fun t35 w36 =>
 zb_ t30 false (fun k w' => Rd Try.prog WS.any (sBin .sub 3 true t35 (.int .i64 1)) fun v => k v w') (fun t37 w38 =>
 zb_ t30 false (fun k w' => CallK Try.prog 65 [t31, (.int .i64 0), t37] k w') (fun t39 w40 =>
 U3 w40 ∧ zb_ t30 false (fun k w' => Rd Try.prog WS.any (sUn .not t39) fun v => k v w') (fun t41 w42 =>
 Rd Try.prog WS.any (zcb_ t30 (.bool true) t41) fun t43 =>
 zb_ t43 false (fun k w' => k v3 w') (fun t44 w45 =>
 zb_ t43 false (fun k w' => Rd Try.prog WS.any (za_ 26 t1 2) fun v => k v w') (fun t46 w47 =>
 zb_ t43 false (fun k w' => Rd Try.prog ⟨U3, w2.drew, h4⟩ (zd_ 24 t46) fun v => k v w') (fun t48 w49 =>
 zb_ t43 false (fun k w' => Rd Try.prog WS.any (zc_ .len #[24] 3 [false] [t48]) fun v => k v w') (fun t50 w51 =>
 zb_ t43 false (fun k w' => Rd Try.prog WS.any (sBin .sub 3 true t50 (.int .i64 1)) fun v => k v w') (fun t52 w53 =>
 zb_ t43 false (fun k w' => CallK Try.prog 65 [t44, (.int .i64 0), t52] k w') (fun t54 w55 =>
 U3 w55 ∧ zb_ t43 false (fun k w' => Rd Try.prog WS.any (sUn .not t54) fun v => k v w') (fun t56 w57 =>
 Rd Try.prog WS.any (zcb_ t43 (.bool true) t56) fun t58 =>
 zb_ t58 false (fun k w' => Rd Try.prog WS.any (za_ 26 t1 2) fun v => k v w') (fun t59 w60 =>
 zb_ t58 false (fun k w' => Rd Try.prog ⟨U3, w2.drew, h4⟩ (zd_ 24 t59) fun v => k v w') (fun t61 w62 =>
 zb_ t58 false (fun k w' => k v3 w') (fun t63 w64 =>
 zb_ t58 false (fun k w' => Rd Try.prog WS.any (zf_ 24 t61 t63) fun v => k v w') (fun t65 w66 =>
 zb_ t58 false (fun k w' => Rd Try.prog WS.any (za_ 106 t65 0) fun v => k v w') (fun t67 w68 =>
 zb_ t58 false (fun k w' => Rd Try.prog ⟨U3, w2.drew, h4⟩ (zd_ 3 t67) fun v => k v w') (fun t69 w70 =>
 zb_ t58 false (fun k w' => k v1 w') (fun t71 w72 =>
 zb_ t58 false (fun k w' => k v2 w') (fun t73 w74 =>
 zb_ t58 false (fun k w' => Rd Try.prog WS.any (zf_ 27 t71 t73) fun v => k v w') (fun t75 w76 =>
 zb_ t58 false (fun k w' => Rd Try.prog ⟨U3, w2.drew, h4⟩ (zd_ 3 t75) fun v => k v w') (fun t77 w78 =>
 zb_ t58 false (fun k w' => Rd Try.prog WS.any (sBin .neq 3 false t69 t77) fun v => k v w') (fun t79 w80 =>
 Rd Try.prog WS.any (zcb_ t58 (.bool true) t79) fun t81 =>
 zm_ t81
  (k (.tuple #[(.slice none 0 0), (.bool false)]) w80)
  (∃ U82 : World → Prop, ∃ h83 : U82 w80.drew,
  Rd Try.prog WS.any (sBin .add 3 true v2 (.int .i64 1)) fun t84 =>
  Rd Try.prog WS.any (za_ 26 t1 2) fun t85 =>
  Rd Try.prog ⟨U82, w80.drew, h83⟩ (zd_ 24 t85) fun t86 =>
  Rd Try.prog WS.any (zf_ 24 t86 v3) fun t87 =>
  Rd Try.prog WS.any (za_ 106 t87 1) fun t88 =>
  Rd Try.prog ⟨U82, w80.drew, h83⟩ (zd_ 27 t88) fun t89 =>
  Do Try.prog (zh_ 27 0 []) (fun t90 w91 =>
  U82 w91 ∧ Do Try.prog (zc_ .append #[27, 27] 27 [false, false] [t90, v1]) (fun t92 w93 =>
  U82 w93 ∧ CallK Try.prog 66 [t92, v2, t84, t89] (fun t94 w95 =>
  Rd Try.prog (WS.at w95) (zc_ .len #[27] 3 [false] [t94]) fun t96 =>
  Rd Try.prog (WS.at w95) (sBin .gtr 3 true t96 (.int .i64 40)) fun t97 =>
  zm_ t97
   (k (.tuple #[(.slice none 0 0), (.bool false)]) w95)
   (k (.tuple #[t94, (.bool true)]) w95)) w93) w91) w80.drew)) w78) w76) w74) w72) w70) w68) w66) w64) w62) w60) w57) w55) w53) w51) w49) w47) w45) w42) w40) w38) w36) w34) w32) w29) w27) w25) w23) w21) w19) w17) w14) w12) w10) w7) w2.drew) w
theorem body20 : Try.f20.body = some (zi_ Try.f20) := by kernel_rfl
theorem same20 (v0 v1 v2 v3 : Value) (k : Value → World → Prop) (w : World) : wpF Try.prog pl20 (zi_ Try.f20) (zv_ Try.prog Try.f20.results.toList k) (zr_ [v0, v1, v2, v3]) w = S20 v0 v1 v2 v3 k w := by kernel_rfl
noncomputable def o20_0 : Array Oper := (regAt (zi_ Try.f20) 0).2
noncomputable def q20_0_47 : Go.Sh.Steps := .nil
noncomputable def q20_0_46 : Go.Sh.Steps := .step 46 .any q20_0_47
noncomputable def q20_0_45 : Go.Sh.Steps := .step 45 .any q20_0_46
noncomputable def q20_0_44 : Go.Sh.Steps := .step 44 .held q20_0_45
noncomputable def q20_0_43 : Go.Sh.Steps := .step 43 .any q20_0_44
noncomputable def q20_0_42 : Go.Sh.Steps := .step 42 .any q20_0_43
noncomputable def q20_0_41 : Go.Sh.Steps := .step 41 .any q20_0_42
noncomputable def q20_0_40 : Go.Sh.Steps := .step 40 .held q20_0_41
noncomputable def q20_0_39 : Go.Sh.Steps := .step 39 .any q20_0_40
noncomputable def q20_0_38 : Go.Sh.Steps := .step 38 .any q20_0_39
noncomputable def q20_0_37 : Go.Sh.Steps := .step 37 .any q20_0_38
noncomputable def q20_0_36 : Go.Sh.Steps := .step 36 .held q20_0_37
noncomputable def q20_0_35 : Go.Sh.Steps := .step 35 .any q20_0_36
noncomputable def q20_0_34 : Go.Sh.Steps := .step 34 .any q20_0_35
noncomputable def q20_0_33 : Go.Sh.Steps := .step 33 .any q20_0_34
noncomputable def q20_0_32 : Go.Sh.Steps := .step 32 .any q20_0_33
noncomputable def q20_0_31 : Go.Sh.Steps := .step 31 .one q20_0_32
noncomputable def q20_0_30 : Go.Sh.Steps := .step 30 .any q20_0_31
noncomputable def q20_0_29 : Go.Sh.Steps := .step 29 .any q20_0_30
noncomputable def q20_0_28 : Go.Sh.Steps := .step 28 .held q20_0_29
noncomputable def q20_0_27 : Go.Sh.Steps := .step 27 .any q20_0_28
noncomputable def q20_0_26 : Go.Sh.Steps := .step 26 .any q20_0_27
noncomputable def q20_0_25 : Go.Sh.Steps := .step 25 .any q20_0_26
noncomputable def q20_0_24 : Go.Sh.Steps := .step 24 .any q20_0_25
noncomputable def q20_0_23 : Go.Sh.Steps := .step 23 .any q20_0_24
noncomputable def q20_0_22 : Go.Sh.Steps := .step 22 .one q20_0_23
noncomputable def q20_0_21 : Go.Sh.Steps := .step 21 .any q20_0_22
noncomputable def q20_0_20 : Go.Sh.Steps := .step 20 .any q20_0_21
noncomputable def q20_0_19 : Go.Sh.Steps := .step 19 .any q20_0_20
noncomputable def q20_0_18 : Go.Sh.Steps := .step 18 .any q20_0_19
noncomputable def q20_0_17 : Go.Sh.Steps := .step 17 .any q20_0_18
noncomputable def q20_0_16 : Go.Sh.Steps := .step 16 .any q20_0_17
noncomputable def q20_0_15 : Go.Sh.Steps := .step 15 .any q20_0_16
noncomputable def q20_0_14 : Go.Sh.Steps := .step 14 .one q20_0_15
noncomputable def q20_0_13 : Go.Sh.Steps := .step 13 .held q20_0_14
noncomputable def q20_0_12 : Go.Sh.Steps := .step 12 .any q20_0_13
noncomputable def q20_0_11 : Go.Sh.Steps := .step 11 .held q20_0_12
noncomputable def q20_0_10 : Go.Sh.Steps := .step 10 .any q20_0_11
noncomputable def q20_0_9 : Go.Sh.Steps := .step 9 .any q20_0_10
noncomputable def q20_0_8 : Go.Sh.Steps := .step 8 .any q20_0_9
noncomputable def q20_0_7 : Go.Sh.Steps := .step 7 .any q20_0_8
noncomputable def q20_0_6 : Go.Sh.Steps := .step 6 .any q20_0_7
noncomputable def q20_0_5 : Go.Sh.Steps := .step 5 .any q20_0_6
noncomputable def q20_0_4 : Go.Sh.Steps := .step 4 .any q20_0_5
noncomputable def q20_0_3 : Go.Sh.Steps := .step 3 .any q20_0_4
noncomputable def q20_0_2 : Go.Sh.Steps := .step 2 .any q20_0_3
noncomputable def q20_0_1 : Go.Sh.Steps := .step 1 .one q20_0_2
noncomputable def q20_0_0 : Go.Sh.Steps := .step 0 .held q20_0_1
theorem z20_0_47 : zj_ o20_0 [] q20_0_47 0 #[true, true, true, true, true, true, true, true, true, true, true, true, true, true, true, true, true, true, true, true, true, true, true, true, true, true, true, true, true, true, true, true, true, true, true, true, true, true, true, true, true, true, true, true, true, true, true] true = true := ok_nil (by kernel_rfl)
theorem z20_0_46 : zj_ o20_0 [] q20_0_46 1 #[true, true, true, true, true, true, true, true, true, true, true, true, true, true, true, true, true, true, true, true, true, true, true, true, true, true, true, true, true, true, true, true, true, true, true, true, true, true, true, true, true, true, true, true, true, true, false] true = true := zjb_ (by kernel_rfl) (by kernel_rfl) z20_0_47
theorem z20_0_45 : zj_ o20_0 [] q20_0_45 2 #[true, true, true, true, true, true, true, true, true, true, true, true, true, true, true, true, true, true, true, true, true, true, true, true, true, true, true, true, true, true, true, true, true, true, true, true, true, true, true, true, true, true, true, true, true, false, false] true = true := zjb_ (by kernel_rfl) (by kernel_rfl) z20_0_46
theorem z20_0_44 : zj_ o20_0 [] q20_0_44 3 #[true, true, true, true, true, true, true, true, true, true, true, true, true, true, true, true, true, true, true, true, true, true, true, true, true, true, true, true, true, true, true, true, true, true, true, true, true, true, true, true, true, true, true, true, false, false, false] true = true := zre_ [] (by kernel_rfl) (by kernel_rfl) (by kernel_rfl) z20_0_45
theorem z20_0_43 : zj_ o20_0 [] q20_0_43 4 #[true, true, true, true, true, true, true, true, true, true, true, true, true, true, true, true, true, true, true, true, true, true, true, true, true, true, true, true, true, true, true, true, true, true, true, true, true, true, true, true, true, true, true, false, false, false, false] true = true := zjb_ (by kernel_rfl) (by kernel_rfl) z20_0_44
theorem z20_0_42 : zj_ o20_0 [] q20_0_42 5 #[true, true, true, true, true, true, true, true, true, true, true, true, true, true, true, true, true, true, true, true, true, true, true, true, true, true, true, true, true, true, true, true, true, true, true, true, true, true, true, true, true, true, false, false, false, false, false] true = true := zjb_ (by kernel_rfl) (by kernel_rfl) z20_0_43
theorem z20_0_41 : zj_ o20_0 [] q20_0_41 6 #[true, true, true, true, true, true, true, true, true, true, true, true, true, true, true, true, true, true, true, true, true, true, true, true, true, true, true, true, true, true, true, true, true, true, true, true, true, true, true, true, true, false, false, false, false, false, false] true = true := zjb_ (by kernel_rfl) (by kernel_rfl) z20_0_42
theorem z20_0_40 : zj_ o20_0 [] q20_0_40 7 #[true, true, true, true, true, true, true, true, true, true, true, true, true, true, true, true, true, true, true, true, true, true, true, true, true, true, true, true, true, true, true, true, true, true, true, true, true, true, true, true, false, false, false, false, false, false, false] true = true := zre_ [] (by kernel_rfl) (by kernel_rfl) (by kernel_rfl) z20_0_41
theorem z20_0_39 : zj_ o20_0 [] q20_0_39 8 #[true, true, true, true, true, true, true, true, true, true, true, true, true, true, true, true, true, true, true, true, true, true, true, true, true, true, true, true, true, true, true, true, true, true, true, true, true, true, true, false, false, false, false, false, false, false, false] true = true := zjb_ (by kernel_rfl) (by kernel_rfl) z20_0_40
theorem z20_0_38 : zj_ o20_0 [] q20_0_38 9 #[true, true, true, true, true, true, true, true, true, true, true, true, true, true, true, true, true, true, true, true, true, true, true, true, true, true, true, true, true, true, true, true, true, true, true, true, true, true, false, false, false, false, false, false, false, false, false] true = true := zjb_ (by kernel_rfl) (by kernel_rfl) z20_0_39
theorem z20_0_37 : zj_ o20_0 [] q20_0_37 10 #[true, true, true, true, true, true, true, true, true, true, true, true, true, true, true, true, true, true, true, true, true, true, true, true, true, true, true, true, true, true, true, true, true, true, true, true, true, false, false, false, false, false, false, false, false, false, false] true = true := zjb_ (by kernel_rfl) (by kernel_rfl) z20_0_38
theorem z20_0_36 : zj_ o20_0 [] q20_0_36 11 #[true, true, true, true, true, true, true, true, true, true, true, true, true, true, true, true, true, true, true, true, true, true, true, true, true, true, true, true, true, true, true, true, true, true, true, true, false, false, false, false, false, false, false, false, false, false, false] true = true := zre_ [] (by kernel_rfl) (by kernel_rfl) (by kernel_rfl) z20_0_37
theorem z20_0_35 : zj_ o20_0 [] q20_0_35 12 #[true, true, true, true, true, true, true, true, true, true, true, true, true, true, true, true, true, true, true, true, true, true, true, true, true, true, true, true, true, true, true, true, true, true, true, false, false, false, false, false, false, false, false, false, false, false, false] true = true := zjb_ (by kernel_rfl) (by kernel_rfl) z20_0_36
theorem z20_0_34 : zj_ o20_0 [] q20_0_34 13 #[true, true, true, true, true, true, true, true, true, true, true, true, true, true, true, true, true, true, true, true, true, true, true, true, true, true, true, true, true, true, true, true, true, true, false, false, false, false, false, false, false, false, false, false, false, false, false] true = true := zjb_ (by kernel_rfl) (by kernel_rfl) z20_0_35
theorem z20_0_33 : zj_ o20_0 [] q20_0_33 14 #[true, true, true, true, true, true, true, true, true, true, true, true, true, true, true, true, true, true, true, true, true, true, true, true, true, true, true, true, true, true, true, true, true, false, false, false, false, false, false, false, false, false, false, false, false, false, false] true = true := zjb_ (by kernel_rfl) (by kernel_rfl) z20_0_34
theorem z20_0_32 : zj_ o20_0 [] q20_0_32 15 #[true, true, true, true, true, true, true, true, true, true, true, true, true, true, true, true, true, true, true, true, true, true, true, true, true, true, true, true, true, true, true, true, false, false, false, false, false, false, false, false, false, false, false, false, false, false, false] true = true := zjb_ (by kernel_rfl) (by kernel_rfl) z20_0_33
theorem z20_0_31 : zj_ o20_0 [] q20_0_31 16 #[true, true, true, true, true, true, true, true, true, true, true, true, true, true, true, true, true, true, true, true, true, true, true, true, true, true, true, true, true, true, true, false, false, false, false, false, false, false, false, false, false, false, false, false, false, false, false] true = true := ok_one (by kernel_rfl) (by kernel_rfl) z20_0_32
theorem z20_0_30 : zj_ o20_0 [] q20_0_30 17 #[true, true, true, true, true, true, true, true, true, true, true, true, true, true, true, true, true, true, true, true, true, true, true, true, true, true, true, true, true, true, false, false, false, false, false, false, false, false, false, false, false, false, false, false, false, false, false] true = true := zjb_ (by kernel_rfl) (by kernel_rfl) z20_0_31
theorem z20_0_29 : zj_ o20_0 [] q20_0_29 18 #[true, true, true, true, true, true, true, true, true, true, true, true, true, true, true, true, true, true, true, true, true, true, true, true, true, true, true, true, true, false, false, false, false, false, false, false, false, false, false, false, false, false, false, false, false, false, false] true = true := zjb_ (by kernel_rfl) (by kernel_rfl) z20_0_30
theorem z20_0_28 : zj_ o20_0 [] q20_0_28 19 #[true, true, true, true, true, true, true, true, true, true, true, true, true, true, true, true, true, true, true, true, true, true, true, true, true, true, true, true, false, false, false, false, false, false, false, false, false, false, false, false, false, false, false, false, false, false, false] true = true := zre_ [] (by kernel_rfl) (by kernel_rfl) (by kernel_rfl) z20_0_29
theorem z20_0_27 : zj_ o20_0 [] q20_0_27 20 #[true, true, true, true, true, true, true, true, true, true, true, true, true, true, true, true, true, true, true, true, true, true, true, true, true, true, true, false, false, false, false, false, false, false, false, false, false, false, false, false, false, false, false, false, false, false, false] true = true := zjb_ (by kernel_rfl) (by kernel_rfl) z20_0_28
theorem z20_0_26 : zj_ o20_0 [] q20_0_26 21 #[true, true, true, true, true, true, true, true, true, true, true, true, true, true, true, true, true, true, true, true, true, true, true, true, true, true, false, false, false, false, false, false, false, false, false, false, false, false, false, false, false, false, false, false, false, false, false] true = true := zjb_ (by kernel_rfl) (by kernel_rfl) z20_0_27
theorem z20_0_25 : zj_ o20_0 [] q20_0_25 22 #[true, true, true, true, true, true, true, true, true, true, true, true, true, true, true, true, true, true, true, true, true, true, true, true, true, false, false, false, false, false, false, false, false, false, false, false, false, false, false, false, false, false, false, false, false, false, false] true = true := zjb_ (by kernel_rfl) (by kernel_rfl) z20_0_26
theorem z20_0_24 : zj_ o20_0 [] q20_0_24 23 #[true, true, true, true, true, true, true, true, true, true, true, true, true, true, true, true, true, true, true, true, true, true, true, true, false, false, false, false, false, false, false, false, false, false, false, false, false, false, false, false, false, false, false, false, false, false, false] true = true := zjb_ (by kernel_rfl) (by kernel_rfl) z20_0_25
theorem z20_0_23 : zj_ o20_0 [] q20_0_23 24 #[true, true, true, true, true, true, true, true, true, true, true, true, true, true, true, true, true, true, true, true, true, true, true, false, false, false, false, false, false, false, false, false, false, false, false, false, false, false, false, false, false, false, false, false, false, false, false] true = true := zjb_ (by kernel_rfl) (by kernel_rfl) z20_0_24
theorem z20_0_22 : zj_ o20_0 [] q20_0_22 25 #[true, true, true, true, true, true, true, true, true, true, true, true, true, true, true, true, true, true, true, true, true, true, false, false, false, false, false, false, false, false, false, false, false, false, false, false, false, false, false, false, false, false, false, false, false, false, false] true = true := ok_one (by kernel_rfl) (by kernel_rfl) z20_0_23
theorem z20_0_21 : zj_ o20_0 [] q20_0_21 26 #[true, true, true, true, true, true, true, true, true, true, true, true, true, true, true, true, true, true, true, true, true, false, false, false, false, false, false, false, false, false, false, false, false, false, false, false, false, false, false, false, false, false, false, false, false, false, false] true = true := zjb_ (by kernel_rfl) (by kernel_rfl) z20_0_22
theorem z20_0_20 : zj_ o20_0 [] q20_0_20 27 #[true, true, true, true, true, true, true, true, true, true, true, true, true, true, true, true, true, true, true, true, false, false, false, false, false, false, false, false, false, false, false, false, false, false, false, false, false, false, false, false, false, false, false, false, false, false, false] true = true := zjb_ (by kernel_rfl) (by kernel_rfl) z20_0_21
theorem z20_0_19 : zj_ o20_0 [] q20_0_19 28 #[true, true, true, true, true, true, true, true, true, true, true, true, true, true, true, true, true, true, true, false, false, false, false, false, false, false, false, false, false, false, false, false, false, false, false, false, false, false, false, false, false, false, false, false, false, false, false] true = true := zjb_ (by kernel_rfl) (by kernel_rfl) z20_0_20
theorem z20_0_18 : zj_ o20_0 [] q20_0_18 29 #[true, true, true, true, true, true, true, true, true, true, true, true, true, true, true, true, true, true, false, false, false, false, false, false, false, false, false, false, false, false, false, false, false, false, false, false, false, false, false, false, false, false, false, false, false, false, false] true = true := zjb_ (by kernel_rfl) (by kernel_rfl) z20_0_19
theorem z20_0_17 : zj_ o20_0 [] q20_0_17 30 #[true, true, true, true, true, true, true, true, true, true, true, true, true, true, true, true, true, false, false, false, false, false, false, false, false, false, false, false, false, false, false, false, false, false, false, false, false, false, false, false, false, false, false, false, false, false, false] true = true := zjb_ (by kernel_rfl) (by kernel_rfl) z20_0_18
theorem z20_0_16 : zj_ o20_0 [] q20_0_16 31 #[true, true, true, true, true, true, true, true, true, true, true, true, true, true, true, true, false, false, false, false, false, false, false, false, false, false, false, false, false, false, false, false, false, false, false, false, false, false, false, false, false, false, false, false, false, false, false] true = true := zjb_ (by kernel_rfl) (by kernel_rfl) z20_0_17
theorem z20_0_15 : zj_ o20_0 [] q20_0_15 32 #[true, true, true, true, true, true, true, true, true, true, true, true, true, true, true, false, false, false, false, false, false, false, false, false, false, false, false, false, false, false, false, false, false, false, false, false, false, false, false, false, false, false, false, false, false, false, false] true = true := zjb_ (by kernel_rfl) (by kernel_rfl) z20_0_16
theorem z20_0_14 : zj_ o20_0 [] q20_0_14 33 #[true, true, true, true, true, true, true, true, true, true, true, true, true, true, false, false, false, false, false, false, false, false, false, false, false, false, false, false, false, false, false, false, false, false, false, false, false, false, false, false, false, false, false, false, false, false, false] true = true := ok_one (by kernel_rfl) (by kernel_rfl) z20_0_15
theorem z20_0_13 : zj_ o20_0 [] q20_0_13 34 #[true, true, true, true, true, true, true, true, true, true, true, true, true, false, false, false, false, false, false, false, false, false, false, false, false, false, false, false, false, false, false, false, false, false, false, false, false, false, false, false, false, false, false, false, false, false, false] true = true := zre_ [] (by kernel_rfl) (by kernel_rfl) (by kernel_rfl) z20_0_14
theorem z20_0_12 : zj_ o20_0 [] q20_0_12 35 #[true, true, true, true, true, true, true, true, true, true, true, true, false, false, false, false, false, false, false, false, false, false, false, false, false, false, false, false, false, false, false, false, false, false, false, false, false, false, false, false, false, false, false, false, false, false, false] true = true := zjb_ (by kernel_rfl) (by kernel_rfl) z20_0_13
theorem z20_0_11 : zj_ o20_0 [] q20_0_11 36 #[true, true, true, true, true, true, true, true, true, true, true, false, false, false, false, false, false, false, false, false, false, false, false, false, false, false, false, false, false, false, false, false, false, false, false, false, false, false, false, false, false, false, false, false, false, false, false] true = true := zre_ [] (by kernel_rfl) (by kernel_rfl) (by kernel_rfl) z20_0_12
theorem z20_0_10 : zj_ o20_0 [] q20_0_10 37 #[true, true, true, true, true, true, true, true, true, true, false, false, false, false, false, false, false, false, false, false, false, false, false, false, false, false, false, false, false, false, false, false, false, false, false, false, false, false, false, false, false, false, false, false, false, false, false] true = true := zjb_ (by kernel_rfl) (by kernel_rfl) z20_0_11
theorem z20_0_9 : zj_ o20_0 [] q20_0_9 38 #[true, true, true, true, true, true, true, true, true, false, false, false, false, false, false, false, false, false, false, false, false, false, false, false, false, false, false, false, false, false, false, false, false, false, false, false, false, false, false, false, false, false, false, false, false, false, false] true = true := zjb_ (by kernel_rfl) (by kernel_rfl) z20_0_10
theorem z20_0_8 : zj_ o20_0 [] q20_0_8 39 #[true, true, true, true, true, true, true, true, false, false, false, false, false, false, false, false, false, false, false, false, false, false, false, false, false, false, false, false, false, false, false, false, false, false, false, false, false, false, false, false, false, false, false, false, false, false, false] true = true := zjb_ (by kernel_rfl) (by kernel_rfl) z20_0_9
theorem z20_0_7 : zj_ o20_0 [] q20_0_7 40 #[true, true, true, true, true, true, true, false, false, false, false, false, false, false, false, false, false, false, false, false, false, false, false, false, false, false, false, false, false, false, false, false, false, false, false, false, false, false, false, false, false, false, false, false, false, false, false] true = true := zjb_ (by kernel_rfl) (by kernel_rfl) z20_0_8
theorem z20_0_6 : zj_ o20_0 [] q20_0_6 41 #[true, true, true, true, true, true, false, false, false, false, false, false, false, false, false, false, false, false, false, false, false, false, false, false, false, false, false, false, false, false, false, false, false, false, false, false, false, false, false, false, false, false, false, false, false, false, false] true = true := zjb_ (by kernel_rfl) (by kernel_rfl) z20_0_7
theorem z20_0_5 : zj_ o20_0 [] q20_0_5 42 #[true, true, true, true, true, false, false, false, false, false, false, false, false, false, false, false, false, false, false, false, false, false, false, false, false, false, false, false, false, false, false, false, false, false, false, false, false, false, false, false, false, false, false, false, false, false, false] true = true := zjb_ (by kernel_rfl) (by kernel_rfl) z20_0_6
theorem z20_0_4 : zj_ o20_0 [] q20_0_4 43 #[true, true, true, true, false, false, false, false, false, false, false, false, false, false, false, false, false, false, false, false, false, false, false, false, false, false, false, false, false, false, false, false, false, false, false, false, false, false, false, false, false, false, false, false, false, false, false] true = true := zjb_ (by kernel_rfl) (by kernel_rfl) z20_0_5
theorem z20_0_3 : zj_ o20_0 [] q20_0_3 44 #[true, true, true, false, false, false, false, false, false, false, false, false, false, false, false, false, false, false, false, false, false, false, false, false, false, false, false, false, false, false, false, false, false, false, false, false, false, false, false, false, false, false, false, false, false, false, false] true = true := zjb_ (by kernel_rfl) (by kernel_rfl) z20_0_4
theorem z20_0_2 : zj_ o20_0 [] q20_0_2 45 #[true, true, false, false, false, false, false, false, false, false, false, false, false, false, false, false, false, false, false, false, false, false, false, false, false, false, false, false, false, false, false, false, false, false, false, false, false, false, false, false, false, false, false, false, false, false, false] true = true := zjb_ (by kernel_rfl) (by kernel_rfl) z20_0_3
theorem z20_0_1 : zj_ o20_0 [] q20_0_1 46 #[true, false, false, false, false, false, false, false, false, false, false, false, false, false, false, false, false, false, false, false, false, false, false, false, false, false, false, false, false, false, false, false, false, false, false, false, false, false, false, false, false, false, false, false, false, false, false] true = true := ok_one (by kernel_rfl) (by kernel_rfl) z20_0_2
theorem z20_0_0 : zj_ o20_0 [] q20_0_0 47 #[false, false, false, false, false, false, false, false, false, false, false, false, false, false, false, false, false, false, false, false, false, false, false, false, false, false, false, false, false, false, false, false, false, false, false, false, false, false, false, false, false, false, false, false, false, false, false] true = true := zre_ [] (by kernel_rfl) (by kernel_rfl) (by kernel_rfl) z20_0_1
theorem y20_0 : planOK (regAt (zi_ Try.f20) 0).2 (pl20 (regAt (zi_ Try.f20) 0).1) = zj_ o20_0 [] q20_0_0 47 #[false, false, false, false, false, false, false, false, false, false, false, false, false, false, false, false, false, false, false, false, false, false, false, false, false, false, false, false, false, false, false, false, false, false, false, false, false, false, false, false, false, false, false, false, false, false, false] true := by kernel_rfl
theorem plans20 : zbc_ pl20 (zi_ Try.f20) = true := plansOK_at (n := 2) (by kernel_rfl) fun i hi => match i, hi with
  | 0, _ => y20_0.trans z20_0_0
  | 1, _ => by kernel_rfl
  | i + 2, hi => absurd hi (by omega)
theorem enter20 {v0 v1 v2 v3 : Value} {k : Value → World → Prop} {w : World} (h : S20 v0 v1 v2 v3 k w) : CallK Try.prog 20 [v0, v1, v2, v3] k w :=
  zk_ (pl := pl20) zdb_ Try.func20 body20 (by kernel_rfl) (of_decide_eq_true (by kernel_rfl)) (by kernel_rfl) plans20 (Eq.mpr (same20 v0 v1 v2 v3 k w) h)

def pl66 : Plans := fun i => match i with
  | 9 => ⟨false, [], .step 0 .any (.step 1 .any (.step 2 .any (.step 3 .any (.step 4 .any (.step 5 .any (.step 6 .any (.step 7 .any (.step 8 .any (.step 9 .any (.step 10 .any (.step 11 .any (.step 12 .any (.nil)))))))))))))⟩
  | 13 => ⟨false, [9], .step 0 .any (.step 1 .any (.step 2 .any (.step 3 .any (.step 4 .any (.step 5 .any (.step 6 .any (.step 7 .any (.step 8 .any (.step 9 .last (.nil))))))))))⟩
  | 18 => ⟨false, [9], .step 0 .any (.step 1 .any (.step 2 .any (.step 3 .any (.step 4 .any (.step 5 .any (.step 6 .any (.step 7 .any (.step 8 .any (.step 9 .last (.nil))))))))))⟩
  | 22 => ⟨false, [9], .step 0 .any (.step 1 .any (.step 2 .any (.step 3 .any (.step 4 .any (.step 5 .any (.step 6 .any (.step 7 .any (.step 8 .any (.step 9 .last (.nil))))))))))⟩
  | 27 => ⟨false, [7], .step 0 .any (.step 1 .any (.step 2 .any (.step 3 .any (.step 4 .any (.step 5 .any (.step 6 .any (.step 7 .last (.nil))))))))⟩
  | 28 => ⟨false, [7], .step 0 .any (.step 1 .any (.step 2 .any (.step 3 .any (.step 4 .any (.step 5 .any (.step 6 .any (.step 7 .last (.nil))))))))⟩
  | 32 => ⟨false, [7], .step 0 .any (.step 1 .any (.step 2 .any (.step 3 .any (.step 4 .any (.step 5 .any (.step 6 .any (.step 7 .last (.nil))))))))⟩
  | 33 => ⟨false, [7], .step 0 .any (.step 1 .any (.step 2 .any (.step 3 .any (.step 4 .any (.step 5 .any (.step 6 .any (.step 7 .last (.nil))))))))⟩
  | 38 => ⟨false, [11], .step 0 .any (.step 1 .any (.step 2 .any (.step 3 .any (.step 4 .any (.step 5 .any (.step 6 .any (.step 7 .any (.step 8 .any (.step 9 .any (.step 10 .any (.step 11 .last (.nil))))))))))))⟩
  | _ => ⟨false, [], .nil⟩
def S66 (v0 v1 v2 v3 : Value) (k : Value → World → Prop) (w : World) : Prop :=
 Rd Try.prog (WS.at w) (zbb_ 27 v0 (some v1) (some v2) none) fun t1 =>
 Rd Try.prog (WS.at w) (sBin .eql 3 false v1 v2) fun t2 =>
 zm_ t2
  (CallK Try.prog 119 [v0, v1, v3] (fun t3 w4 =>
  k t3 w4) w)
  (Rd Try.prog (WS.at w) (zc_ .len #[27] 3 [false] [v0]) fun t5 =>
  Rd Try.prog (WS.at w) (sBin .eql 3 false v2 t5) fun t6 =>
  zm_ t6
   (Rd Try.prog (WS.at w) (zbb_ 27 v0 none (some v1) none) fun t7 =>
   Do Try.prog (zc_ .append #[27, 27] 27 [false, false] [t7, v3]) (fun t8 w9 =>
   Join (fun K10 =>
   Rd Try.prog (WS.at w9) (zc_ .len #[27] 3 [false] [t8]) fun t13 =>
   Rd Try.prog (WS.at w9) (zc_ .len #[27] 3 [false] [v0]) fun t14 =>
   Rd Try.prog (WS.at w9) (sBin .lss 3 false t13 t14) fun t15 =>
   zm_ t15
    (Rd Try.prog (WS.at w9) (zc_ .len #[27] 3 [false] [t8]) fun t16 =>
    Rd Try.prog (WS.at w9) (zbb_ 27 v0 (some t16) none none) fun t17 =>
    Do Try.prog (zc_ .clear #[27] 0 [false] [t17]) (fun _ w18 =>
    K10 (F.upd (F.upd (F.upd (F.upd (F.upd (F.upd (F.upd (F.upd (F.upd (F.upd (F.upd (F.upd (F.upd (F.upd (F.upd (F.upd (F.upd (F.upd (F.upd (F.upd (F.upd (F.upd (F.upd (F.upd (F.upd (F.upd (F.upd (zr_ [v0, v1, v2, v3]) 8 (.slice none 0 0)) 15 v0) 16 v1) 17 v2) 18 t1) 19 v1) 20 v2) 21 t2) 26 v2) 27 v0) 28 t5) 29 t6) 30 v0) 31 v1) 32 t7) 33 v3) 34 t8) 9 t8) 35 t8) 36 t13) 37 v0) 38 t14) 39 t15) 40 v0) 41 t8) 42 t16) 43 t17) w18) w9)
    (K10 (F.upd (F.upd (F.upd (F.upd (F.upd (F.upd (F.upd (F.upd (F.upd (F.upd (F.upd (F.upd (F.upd (F.upd (F.upd (F.upd (F.upd (F.upd (F.upd (F.upd (F.upd (F.upd (F.upd (zr_ [v0, v1, v2, v3]) 8 (.slice none 0 0)) 15 v0) 16 v1) 17 v2) 18 t1) 19 v1) 20 v2) 21 t2) 26 v2) 27 v0) 28 t5) 29 t6) 30 v0) 31 v1) 32 t7) 33 v3) 34 t8) 9 t8) 35 t8) 36 t13) 37 v0) 38 t14) 39 t15) w9)) (fun f11 w12 =>
   k (f11 9) w12)) w)
   (Rd Try.prog WS.any (zbb_ 27 v0 none (some v1) none) fun t19 =>
   Rd Try.prog WS.any (zc_ .len #[27] 3 [false] [t19]) fun t20 =>
   Rd Try.prog WS.any (zc_ .len #[27] 3 [false] [v3]) fun t21 =>
   Rd Try.prog WS.any (sBin .add 3 false t20 t21) fun t22 =>
   Rd Try.prog WS.any (zbb_ 27 v0 (some v2) none none) fun t23 =>
   Rd Try.prog WS.any (zc_ .len #[27] 3 [false] [t23]) fun t24 =>
   Rd Try.prog WS.any (sBin .add 3 false t22 t24) fun t25 =>
   Rd Try.prog (WS.at w.drew) (zc_ .cap #[27] 3 [false] [v0]) fun t26 =>
   Rd Try.prog (WS.at w.drew) (sBin .gtr 3 false t25 t26) fun t27 =>
   zm_ t27
    (Rd Try.prog (WS.at w.drew) (zbb_ 27 v0 none (some v1) none) fun t28 =>
    Rd Try.prog (WS.at w.drew) (sBin .sub 3 false t25 v1) fun t29 =>
    Do Try.prog (zc_ .append #[27, 3] 27 [false, false] [t28, t29]) (fun t30 w31 =>
    Rd Try.prog (WS.at w31) (zbb_ 27 t30 (some v1) none none) fun t32 =>
    Do Try.prog (zc_ .copy #[27, 27] 3 [false, false] [t32, v3]) (fun t33 w34 =>
    Rd Try.prog WS.any (zc_ .len #[27] 3 [false] [v3]) fun t35 =>
    Rd Try.prog WS.any (sBin .add 3 false v1 t35) fun t36 =>
    Rd Try.prog WS.any (zbb_ 27 t30 (some t36) none none) fun t37 =>
    Rd Try.prog WS.any (zbb_ 27 v0 (some v2) none none) fun t38 =>
    Do Try.prog (zc_ .copy #[27, 27] 3 [false, false] [t37, t38]) (fun t39 w40 =>
    k t30 w40) w34.drew) w31) w.drew)
    (Rd Try.prog (WS.at w.drew) (zbb_ 27 v0 none (some t25) none) fun t41 =>
    Rd Try.prog (WS.at w.drew) (zc_ .len #[27] 3 [false] [v3]) fun t42 =>
    Rd Try.prog (WS.at w.drew) (sBin .add 3 false v1 t42) fun t43 =>
    Rd Try.prog (WS.at w.drew) (sBin .leq 3 false t43 v2) fun t44 =>
    zm_ t44
     (Rd Try.prog (WS.at w.drew) (zbb_ 27 t41 (some v1) none none) fun t45 =>
     Do Try.prog (zc_ .copy #[27, 27] 3 [false, false] [t45, v3]) (fun t46 w47 =>
     Rd Try.prog WS.any (zc_ .len #[27] 3 [false] [v3]) fun t48 =>
     Rd Try.prog WS.any (sBin .add 3 false v1 t48) fun t49 =>
     Rd Try.prog WS.any (zbb_ 27 t41 (some t49) none none) fun t50 =>
     Rd Try.prog WS.any (zbb_ 27 v0 (some v2) none none) fun t51 =>
     Do Try.prog (zc_ .copy #[27, 27] 3 [false, false] [t50, t51]) (fun t52 w53 =>
     Rd Try.prog (WS.at w53) (zbb_ 27 v0 (some t25) none none) fun t54 =>
     Do Try.prog (zc_ .clear #[27] 0 [false] [t54]) (fun _ w55 =>
     k t41 w55) w53) w47.drew) w.drew)
     (Rd Try.prog (WS.at w.drew) (zc_ .len #[27] 3 [false] [v3]) fun t56 =>
     Rd Try.prog (WS.at w.drew) (sBin .add 3 false v1 t56) fun t57 =>
     Rd Try.prog (WS.at w.drew) (zbb_ 27 t41 (some t57) none none) fun t58 =>
     CallK Try.prog 120 [t58, v3] (fun t59 w60 =>
     Rd Try.prog (WS.at w60) (sUn .not t59) fun t61 =>
     zm_ t61
      (Rd Try.prog WS.any (zc_ .len #[27] 3 [false] [v3]) fun t62 =>
      Rd Try.prog WS.any (sBin .add 3 false v1 t62) fun t63 =>
      Rd Try.prog WS.any (zbb_ 27 t41 (some t63) none none) fun t64 =>
      Rd Try.prog WS.any (zbb_ 27 v0 (some v2) none none) fun t65 =>
      Do Try.prog (zc_ .copy #[27, 27] 3 [false, false] [t64, t65]) (fun t66 w67 =>
      Rd Try.prog (WS.at w67) (zbb_ 27 t41 (some v1) none none) fun t68 =>
      Do Try.prog (zc_ .copy #[27, 27] 3 [false, false] [t68, v3]) (fun t69 w70 =>
      k t41 w70) w67) w60.drew)
      (Rd Try.prog (WS.at w60) (zc_ .len #[27] 3 [false] [v3]) fun t71 =>
      Rd Try.prog (WS.at w60) (sBin .sub 3 false v2 v1) fun t72 =>
      Rd Try.prog (WS.at w60) (sBin .sub 3 false t71 t72) fun t73 =>
      Rd Try.prog (WS.at w60) (zbb_ 27 t41 (some v1) (some v2) none) fun t74 =>
      CallK Try.prog 120 [t74, v3] (fun t75 w76 =>
      Rd Try.prog (WS.at w76) (sUn .not t75) fun t77 =>
      zm_ t77
       (Rd Try.prog WS.any (zbb_ 27 t41 (some v1) (some v2) none) fun t78 =>
       Rd Try.prog WS.any (zbb_ 27 v3 (some t73) none none) fun t79 =>
       Do Try.prog (zc_ .copy #[27, 27] 3 [false, false] [t78, t79]) (fun t80 w81 =>
       Rd Try.prog WS.any (zc_ .len #[27] 3 [false] [v0]) fun t82 =>
       Rd Try.prog WS.any (zbb_ 27 t41 (some t82) none none) fun t83 =>
       Rd Try.prog WS.any (zbb_ 27 v3 none (some t73) none) fun t84 =>
       Do Try.prog (zc_ .copy #[27, 27] 3 [false, false] [t83, t84]) (fun t85 w86 =>
       Rd Try.prog (WS.at w86) (zbb_ 27 t41 (some v1) none none) fun t87 =>
       CallK Try.prog 121 [t87, t73] (fun t88 w89 =>
       k t41 w89) w86) w81.drew) w76.drew)
       (Rd Try.prog (WS.at w76) (zc_ .len #[27] 3 [false] [v0]) fun t90 =>
       Rd Try.prog (WS.at w76) (zbb_ 27 t41 (some t90) none none) fun t91 =>
       CallK Try.prog 120 [t91, v3] (fun t92 w93 =>
       Rd Try.prog (WS.at w93) (sUn .not t92) fun t94 =>
       zm_ t94
        (Rd Try.prog WS.any (zc_ .len #[27] 3 [false] [v0]) fun t95 =>
        Rd Try.prog WS.any (zbb_ 27 t41 (some t95) none none) fun t96 =>
        Rd Try.prog WS.any (zbb_ 27 v3 none (some t73) none) fun t97 =>
        Do Try.prog (zc_ .copy #[27, 27] 3 [false, false] [t96, t97]) (fun t98 w99 =>
        Rd Try.prog WS.any (zbb_ 27 t41 (some v1) (some v2) none) fun t100 =>
        Rd Try.prog WS.any (zbb_ 27 v3 (some t73) none none) fun t101 =>
        Do Try.prog (zc_ .copy #[27, 27] 3 [false, false] [t100, t101]) (fun t102 w103 =>
        Rd Try.prog (WS.at w103) (zbb_ 27 t41 (some v1) none none) fun t104 =>
        CallK Try.prog 121 [t104, t73] (fun t105 w106 =>
        k t41 w106) w103) w99.drew) w93.drew)
        (Rd Try.prog (WS.at w93) (zbb_ 27 v0 (some v2) none none) fun t107 =>
        CallK Try.prog 122 [v3, t107] (fun t108 w109 =>
        Rd Try.prog (WS.at w109) (zbb_ 27 t41 (some v1) none none) fun t110 =>
        Do Try.prog (zc_ .copy #[27, 27] 3 [false, false] [t110, v3]) (fun t111 w112 =>
        Rd Try.prog WS.any (zc_ .len #[27] 3 [false] [v3]) fun t113 =>
        Rd Try.prog WS.any (sBin .add 3 false v1 t113) fun t114 =>
        Rd Try.prog WS.any (zbb_ 27 t41 (some t114) none none) fun t115 =>
        Rd Try.prog WS.any (sBin .add 3 false v1 t108) fun t116 =>
        Rd Try.prog WS.any (zbb_ 27 t41 (some t116) none none) fun t117 =>
        Do Try.prog (zc_ .copy #[27, 27] 3 [false, false] [t115, t117]) (fun t118 w119 =>
        k t41 w119) w112.drew) w109) w93)) w76)) w60)) w.drew))))
theorem body66 : Try.f66.body = some (zi_ Try.f66) := by kernel_rfl
theorem same66 (v0 v1 v2 v3 : Value) (k : Value → World → Prop) (w : World) : wpF Try.prog pl66 (zi_ Try.f66) (zv_ Try.prog Try.f66.results.toList k) (zr_ [v0, v1, v2, v3]) w = S66 v0 v1 v2 v3 k w := by kernel_rfl
theorem enter66 {v0 v1 v2 v3 : Value} {k : Value → World → Prop} {w : World} (h : S66 v0 v1 v2 v3 k w) : CallK Try.prog 66 [v0, v1, v2, v3] k w :=
  zk_ (pl := pl66) zdb_ Try.func66 body66 (by kernel_rfl) (of_decide_eq_true (by kernel_rfl)) (by kernel_rfl) (by kernel_rfl) (Eq.mpr (same66 v0 v1 v2 v3 k w) h)

def pl16 : Plans := fun i => match i with
  | 7 => ⟨true, [5], .step 0 .held (.step 1 .any (.step 2 .any (.step 4 .any (.step 3 .one (.step 5 .last (.step 6 .any (.step 7 .any (.step 8 .any (.step 9 .any (.step 10 .any (.nil)))))))))))⟩
  | _ => ⟨false, [], .nil⟩
def S16 (v0 v1 : Value) (k : Value → World → Prop) (w : World) : Prop :=
 Do Try.prog (sBox 26 v0) (fun t1 w2 =>
 Rd Try.prog (WS.at w2) (zd_ 26 t1) fun t3 =>
 CallK Try.prog 49 [t3] (fun t4 w5 =>
 Rd Try.prog (WS.at w5) (sUn .not t4) fun t6 =>
 zb_ t6 false (fun k w' => k v1 w') (fun t7 w8 =>
 zb_ t6 false (fun k w' => Rd Try.prog (WS.at w8) (zc_ .len #[27] 3 [false] [t7]) fun v => k v w') (fun t9 w10 =>
 zb_ t6 false (fun k w' => Rd Try.prog (WS.at w10) (sBin .gtr 3 true t9 (.int .i64 60)) fun v => k v w') (fun t11 w12 =>
 Rd Try.prog (WS.at w12) (zcb_ t6 (.bool true) t11) fun t13 =>
 zm_ t13
  (k (.tuple #[(.slice none 0 0), (.bool false)]) w12)
  (Do Try.prog (zh_ 27 1 [(0, (.int .i64 0))]) (fun t14 w15 =>
  Rd Try.prog (WS.at w15) (zc_ .len #[27] 3 [false] [v1]) fun t16 =>
  zrb_ [23, 24, 25, 8, 27, 28, 29, 30, 31, 32, 26, 33, 34, 9, 10, 35, 36, 4, 5, 37, 6, 38, 22] (fun Q17 f18 w19 =>
   Rd Try.prog (WS.at w19) (sBin .lss 3 false (f18 22) (f18 21)) fun t20 =>
   zm_ t20
    (Rd Try.prog (WS.at w19) (zf_ 27 (f18 20) (f18 22)) fun t21 =>
    Rd Try.prog (WS.at w19) (zd_ 3 t21) fun t22 =>
    ∃ U23 : World → Prop, ∃ h24 : U23 w19.drew,
    Rd Try.prog ⟨U23, w19.drew, h24⟩ (zd_ 26 (f18 2)) fun t25 =>
    CallK Try.prog 58 [(f18 6)] (fun t26 w27 =>
    U23 w27 ∧ CallK Try.prog 21 [t25, (f18 6), t26, t22] (fun t28 w29 =>
    Rd Try.prog WS.any (zu_ t28 0) fun t30 =>
    Rd Try.prog WS.any (zu_ t28 1) fun t31 =>
    Rd Try.prog (WS.at w29) (sUn .not t31) fun t32 =>
    zm_ t32
     (Q17 .ret (F.upd (F.upd (F.upd (F.upd (F.upd (F.upd (F.upd (F.upd (F.upd (F.upd (F.upd (F.upd (F.upd (F.upd (F.upd (F.upd (F.upd (F.upd (F.upd f18 23 t20) 24 t21) 25 t22) 8 t22) 27 t25) 28 (f18 6)) 29 (f18 6)) 31 t22) 30 t26) 32 t28) 26 t28) 33 t30) 34 t31) 9 t30) 10 t31) 35 t31) 36 t32) 4 (.slice none 0 0)) 5 (.bool false)) w29)
     (Rd Try.prog (WS.at w29) (sBin .add 3 true (f18 22) (.int .i64 1)) fun t33 =>
     Q17 .normal (F.upd (F.upd (F.upd (F.upd (F.upd (F.upd (F.upd (F.upd (F.upd (F.upd (F.upd (F.upd (F.upd (F.upd (F.upd (F.upd (F.upd (F.upd (F.upd (F.upd (F.upd f18 23 t20) 24 t21) 25 t22) 8 t22) 27 t25) 28 (f18 6)) 29 (f18 6)) 31 t22) 30 t26) 32 t28) 26 t28) 33 t30) 34 t31) 9 t30) 10 t31) 35 t31) 36 t32) 37 t30) 6 t30) 38 t33) 22 t33) w29)) w27) w19.drew)
    (Q17 (.exit 0) (F.upd f18 23 t20) w19))
   (zgb_ 0 (seqQ (fun f34 w35 =>
  k (.tuple #[(f34 6), (.bool true)]) w35) (zv_ Try.prog [.tmp 4, .tmp 5] k)))
   (F.upd (F.upd (F.upd (F.upd (F.upd (F.upd (F.upd (F.upd (F.upd (F.upd (F.upd (F.upd (F.upd (F.upd (F.upd (F.upd (zr_ [v0, v1]) 2 t1) 4 (.slice none 0 0)) 5 (.bool false)) 11 t3) 12 t4) 13 t6) 14 t6) 15 t7) 16 t9) 17 t11) 18 t13) 19 t14) 6 t14) 20 v1) 21 t16) 22 (.int .i64 0)) w15) w12)) w10) w8) w5) w2) w
theorem body16 : Try.f16.body = some (zi_ Try.f16) := by kernel_rfl
theorem same16 (v0 v1 : Value) (k : Value → World → Prop) (w : World) : wpF Try.prog pl16 (zi_ Try.f16) (zv_ Try.prog Try.f16.results.toList k) (zr_ [v0, v1]) w = S16 v0 v1 k w := by kernel_rfl
theorem enter16 {v0 v1 : Value} {k : Value → World → Prop} {w : World} (h : S16 v0 v1 k w) : CallK Try.prog 16 [v0, v1] k w :=
  zk_ (pl := pl16) zdb_ Try.func16 body16 (by kernel_rfl) (of_decide_eq_true (by kernel_rfl)) (by kernel_rfl) (by kernel_rfl) (Eq.mpr (same16 v0 v1 k w) h)

def pl21 : Plans := fun i => match i with
  | 1 => ⟨true, [], .step 0 .held (.step 1 .one (.step 2 .any (.step 3 .any (.step 4 .held (.step 5 .any (.step 6 .one (.step 7 .any (.step 8 .any (.step 9 .any (.step 10 .any (.step 11 .any (.step 12 .any (.step 13 .any (.step 14 .one (.step 15 .any (.step 16 .any (.step 17 .any (.step 18 .any (.step 19 .any (.step 20 .held (.step 21 .any (.step 22 .any (.step 23 .one (.step 24 .any (.step 25 .any (.step 26 .any (.step 27 .any (.step 28 .held (.step 29 .any (.step 30 .any (.step 31 .any (.step 32 .held (.step 33 .any (.step 34 .any (.step 35 .any (.step 36 .held (.step 37 .any (.step 38 .any (.nil)))))))))))))))))))))))))))))))))))))))⟩
  | _ => ⟨false, [], .nil⟩
def S21 (v0 v1 v2 v3 : Value) (k : Value → World → Prop) (w : World) : Prop :=
 Do Try.prog (sBox 26 v0) (fun t1 w2 =>
 ∃ U3 : World → Prop, ∃ h4 : U3 w2.drew,
 Rd Try.prog ⟨U3, w2.drew, h4⟩ (zd_ 26 t1) fun t5 =>
 CallK Try.prog 49 [t5] (fun t6 w7 =>
 U3 w7 ∧ Rd Try.prog WS.any (sUn .not t6) fun t8 =>
 zb_ t8 false (fun k w' => Rd Try.prog ⟨U3, w2.drew, h4⟩ (zd_ 26 t1) fun v => k v w') (fun t9 w10 =>
 zb_ t8 false (fun k w' => k v1 w') (fun t11 w12 =>
 zb_ t8 false (fun k w' => CallK Try.prog 50 [t9, t11, (.int .i64 40)] k w') (fun t13 w14 =>
 U3 w14 ∧ zb_ t8 false (fun k w' => Rd Try.prog WS.any (sUn .not t13) fun v => k v w') (fun t15 w16 =>
 Rd Try.prog WS.any (zcb_ t8 (.bool true) t15) fun t17 =>
 zb_ t17 false (fun k w' => k v2 w') (fun t18 w19 =>
 zb_ t17 false (fun k w' => k v1 w') (fun t20 w21 =>
 zb_ t17 false (fun k w' => Rd Try.prog WS.any (zc_ .len #[27] 3 [false] [t20]) fun v => k v w') (fun t22 w23 =>
 zb_ t17 false (fun k w' => Rd Try.prog WS.any (sBin .sub 3 true t22 (.int .i64 1)) fun v => k v w') (fun t24 w25 =>
 zb_ t17 false (fun k w' => CallK Try.prog 67 [t18, (.int .i64 0), t24] k w') (fun t26 w27 =>
 U3 w27 ∧ zb_ t17 false (fun k w' => Rd Try.prog WS.any (sUn .not t26) fun v => k v w') (fun t28 w29 =>
 Rd Try.prog WS.any (zcb_ t17 (.bool true) t28) fun t30 =>
 zb_ t30 false (fun k w' => k v3 w') (fun t31 w32 =>
 zb_ t30 false (fun k w' => Rd Try.prog WS.any (za_ 26 t1 2) fun v => k v w') (fun t33 w34 =>
 zb_ t30 false (fun k w' => Rd Try.prog ⟨U3, w2.drew, h4⟩ (zd_ 24 t33) fun v => k v w') (fun t35 w36 =>
 zb_ t30 false (fun k w' => Rd Try.prog WS.any (zc_ .len #[24] 3 [false] [t35]) fun v => k v w') (fun t37 w38 =>
 zb_ t30 false (fun k w' => Rd Try.prog WS.any (sBin .sub 3 true t37 (.int .i64 1)) fun v => k v w') (fun t39 w40 =>
 zb_ t30 false (fun k w' => CallK Try.prog 67 [t31, (.int .i64 0), t39] k w') (fun t41 w42 =>
 U3 w42 ∧ zb_ t30 false (fun k w' => Rd Try.prog WS.any (sUn .not t41) fun v => k v w') (fun t43 w44 =>
 Rd Try.prog WS.any (zcb_ t30 (.bool true) t43) fun t45 =>
 zb_ t45 false (fun k w' => Rd Try.prog WS.any (za_ 26 t1 2) fun v => k v w') (fun t46 w47 =>
 zb_ t45 false (fun k w' => Rd Try.prog ⟨U3, w2.drew, h4⟩ (zd_ 24 t46) fun v => k v w') (fun t48 w49 =>
 zb_ t45 false (fun k w' => k v3 w') (fun t50 w51 =>
 zb_ t45 false (fun k w' => Rd Try.prog WS.any (zf_ 24 t48 t50) fun v => k v w') (fun t52 w53 =>
 zb_ t45 false (fun k w' => Rd Try.prog WS.any (za_ 106 t52 0) fun v => k v w') (fun t54 w55 =>
 zb_ t45 false (fun k w' => Rd Try.prog ⟨U3, w2.drew, h4⟩ (zd_ 3 t54) fun v => k v w') (fun t56 w57 =>
 zb_ t45 false (fun k w' => k v1 w') (fun t58 w59 =>
 zb_ t45 false (fun k w' => k v2 w') (fun t60 w61 =>
 zb_ t45 false (fun k w' => Rd Try.prog WS.any (zf_ 27 t58 t60) fun v => k v w') (fun t62 w63 =>
 zb_ t45 false (fun k w' => Rd Try.prog ⟨U3, w2.drew, h4⟩ (zd_ 3 t62) fun v => k v w') (fun t64 w65 =>
 zb_ t45 false (fun k w' => Rd Try.prog WS.any (sBin .neq 3 false t56 t64) fun v => k v w') (fun t66 w67 =>
 Rd Try.prog WS.any (zcb_ t45 (.bool true) t66) fun t68 =>
 zm_ t68
  (k (.tuple #[(.slice none 0 0), (.bool false)]) w67)
  (Rd Try.prog (WS.at w67) (zd_ 26 t1) fun t69 =>
  CallK Try.prog 68 [t69, v1, v2, v3] (fun t70 w71 =>
  Rd Try.prog (WS.at w71) (zc_ .len #[27] 3 [false] [t70]) fun t72 =>
  Rd Try.prog (WS.at w71) (sBin .gtr 3 true t72 (.int .i64 40)) fun t73 =>
  zm_ t73
   (k (.tuple #[(.slice none 0 0), (.bool false)]) w71)
   (k (.tuple #[t70, (.bool true)]) w71)) w67)) w65) w63) w61) w59) w57) w55) w53) w51) w49) w47) w44) w42) w40) w38) w36) w34) w32) w29) w27) w25) w23) w21) w19) w16) w14) w12) w10) w7) w2.drew) w
theorem body21 : Try.f21.body = some (zi_ Try.f21) := by kernel_rfl
theorem same21 (v0 v1 v2 v3 : Value) (k : Value → World → Prop) (w : World) : wpF Try.prog pl21 (zi_ Try.f21) (zv_ Try.prog Try.f21.results.toList k) (zr_ [v0, v1, v2, v3]) w = S21 v0 v1 v2 v3 k w := by kernel_rfl
theorem enter21 {v0 v1 v2 v3 : Value} {k : Value → World → Prop} {w : World} (h : S21 v0 v1 v2 v3 k w) : CallK Try.prog 21 [v0, v1, v2, v3] k w :=
  zk_ (pl := pl21) zdb_ Try.func21 body21 (by kernel_rfl) (of_decide_eq_true (by kernel_rfl)) (by kernel_rfl) (by kernel_rfl) (Eq.mpr (same21 v0 v1 v2 v3 k w) h)

def pl68 : Plans := fun i => match i with
  | 1 => ⟨true, [10], .step 0 .any (.step 1 .any (.step 2 .any (.step 4 .any (.step 5 .held (.step 6 .any (.step 7 .any (.step 8 .any (.step 9 .held (.step 3 .one (.step 10 .last (.step 11 .any (.nil))))))))))))⟩
  | _ => ⟨false, [], .nil⟩
def S68 (v0 v1 v2 v3 : Value) (k : Value → World → Prop) (w : World) : Prop :=
 Do Try.prog (sBox 26 v0) (fun t1 w2 =>
 ∃ U3 : World → Prop, ∃ h4 : U3 w2.drew,
 Rd Try.prog WS.any (zbb_ 27 v1 none (some v2) none) fun t5 =>
 Rd Try.prog WS.any (za_ 26 t1 2) fun t6 =>
 Rd Try.prog ⟨U3, w2.drew, h4⟩ (zd_ 24 t6) fun t7 =>
 Rd Try.prog WS.any (zf_ 24 t7 v3) fun t8 =>
 Rd Try.prog WS.any (za_ 106 t8 1) fun t9 =>
 Rd Try.prog ⟨U3, w2.drew, h4⟩ (zd_ 27 t9) fun t10 =>
 CallK Try.prog 80 [t5] (fun t11 w12 =>
 U3 w12 ∧ Do Try.prog (zc_ .append #[27, 27] 27 [false, false] [t11, t10]) (fun t13 w14 =>
 Rd Try.prog (WS.at w14) (sBin .add 3 true v2 (.int .i64 1)) fun t15 =>
 Rd Try.prog (WS.at w14) (zbb_ 27 v1 (some t15) none none) fun t16 =>
 Do Try.prog (zc_ .append #[27, 27] 27 [false, false] [t13, t16]) (fun t17 w18 =>
 k t17 w18) w14) w12) w2.drew) w
theorem body68 : Try.f68.body = some (zi_ Try.f68) := by kernel_rfl
theorem same68 (v0 v1 v2 v3 : Value) (k : Value → World → Prop) (w : World) : wpF Try.prog pl68 (zi_ Try.f68) (zv_ Try.prog Try.f68.results.toList k) (zr_ [v0, v1, v2, v3]) w = S68 v0 v1 v2 v3 k w := by kernel_rfl
theorem enter68 {v0 v1 v2 v3 : Value} {k : Value → World → Prop} {w : World} (h : S68 v0 v1 v2 v3 k w) : CallK Try.prog 68 [v0, v1, v2, v3] k w :=
  zk_ (pl := pl68) zdb_ Try.func68 body68 (by kernel_rfl) (of_decide_eq_true (by kernel_rfl)) (by kernel_rfl) (by kernel_rfl) (Eq.mpr (same68 v0 v1 v2 v3 k w) h)

def pl58 : Plans := fun _ => ⟨false, [], .nil⟩
def S58 (v0 : Value) (k : Value → World → Prop) (w : World) : Prop :=
 Rd Try.prog (WS.at w) (zc_ .len #[27] 3 [false] [v0]) fun t1 =>
 zrb_ [8, 9, 10, 11, 3, 4, 12, 13, 14, 2, 15, 7] (fun Q2 f3 w4 =>
  Rd Try.prog (WS.at w4) (sBin .lss 3 false (f3 7) (f3 6)) fun t5 =>
  zm_ t5
   (Rd Try.prog (WS.at w4) (zf_ 27 (f3 5) (f3 7)) fun t6 =>
   Rd Try.prog (WS.at w4) (zd_ 3 t6) fun t7 =>
   Rd Try.prog (WS.at w4) (sBin .geq 3 true t7 (.int .i64 0)) fun t8 =>
   zm_ t8
    (Q2 .ret (F.upd (F.upd (F.upd (F.upd (F.upd (F.upd (F.upd (F.upd (F.upd (F.upd f3 8 t5) 9 (f3 7)) 10 t6) 11 t7) 3 (f3 7)) 4 t7) 12 t7) 13 t8) 14 (f3 7)) 2 (f3 7)) w4)
    (Rd Try.prog (WS.at w4) (sBin .add 3 true (f3 7) (.int .i64 1)) fun t9 =>
    Q2 .normal (F.upd (F.upd (F.upd (F.upd (F.upd (F.upd (F.upd (F.upd (F.upd (F.upd f3 8 t5) 9 (f3 7)) 10 t6) 11 t7) 3 (f3 7)) 4 t7) 12 t7) 13 t8) 15 t9) 7 t9) w4))
   (Q2 (.exit 0) (F.upd f3 8 t5) w4))
  (zgb_ 0 (seqQ (fun f10 w11 =>
 k (.int .i64 (-1)) w11) (zv_ Try.prog [.tmp 2] k)))
  (F.upd (F.upd (F.upd (F.upd (zr_ [v0]) 2 (.int .i64 0)) 5 v0) 6 t1) 7 (.int .i64 0)) w
theorem body58 : Try.f58.body = some (zi_ Try.f58) := by kernel_rfl
theorem same58 (v0 : Value) (k : Value → World → Prop) (w : World) : wpF Try.prog pl58 (zi_ Try.f58) (zv_ Try.prog Try.f58.results.toList k) (zr_ [v0]) w = S58 v0 k w := by kernel_rfl
theorem enter58 {v0 : Value} {k : Value → World → Prop} {w : World} (h : S58 v0 k w) : CallK Try.prog 58 [v0] k w :=
  zk_ (pl := pl58) zdb_ Try.func58 body58 (by kernel_rfl) (of_decide_eq_true (by kernel_rfl)) (by kernel_rfl) (by kernel_rfl) (Eq.mpr (same58 v0 k w) h)

def pl14 : Plans := fun i => match i with
  | 10 => ⟨false, [5], .step 0 .held (.step 1 .any (.step 2 .any (.step 3 .any (.step 4 .held (.step 5 .last (.step 6 .any (.nil)))))))⟩
  | _ => ⟨false, [], .nil⟩
def S14 (v0 : Value) (k : Value → World → Prop) (w : World) : Prop :=
 Do Try.prog (zkb_ 26) (fun t1 w2 =>
 Rd Try.prog (WS.at w2) (zw_ 86 [(0, v0)]) fun t3 =>
 Do Try.prog (sBox 86 t3) (fun t4 w5 =>
 CallK Try.prog 56 [t4] (fun t6 w7 =>
 Do Try.prog (zkb_ 26) (fun t8 w9 =>
 Do Try.prog (zab_ 26 t8 t6) (fun _ w10 =>
 Do Try.prog (zh_ 27 1 [(0, (.int .i64 0))]) (fun t11 w12 =>
 Join (fun K13 =>
 CallK Try.prog 57 [t4, (.int .i64 9)] (fun t16 w17 =>
 zrb_ [22, 23, 24, 25, 26, 27, 30, 31, 9, 32, 33, 34, 35, 36, 37, 38, 39, 10, 40, 41, 42, 43, 44, 45, 46, 47, 48, 49, 11, 51, 52, 53, 54, 55, 50, 56, 57, 12, 13, 58, 59, 60, 6, 61, 62, 63, 64, 7, 28, 29, 8] (fun Q18 f19 w20 =>
  Rd Try.prog (WS.at w20) (sBin .gtr 3 true (f19 8) (.int .i64 0)) fun t21 =>
  zb_ t21 true (fun k w' => Rd Try.prog (WS.at w20) (zd_ 26 (f19 5)) fun v => k v w') (fun t22 w23 =>
  zb_ t21 true (fun k w' => CallK Try.prog 49 [t22] k w') (fun t24 w25 =>
  Rd Try.prog (WS.at w25) (zcb_ t21 t24 (.bool false)) fun t26 =>
  zm_ t26
   (CallK Try.prog 58 [(f19 6)] (fun t27 w28 =>
   Rd Try.prog (WS.at w28) (sBin .lss 3 true t27 (.int .i64 0)) fun t29 =>
   zm_ t29
    (Q18 (.exit 0) (F.upd (F.upd (F.upd (F.upd (F.upd (F.upd (F.upd (F.upd (F.upd (F.upd (F.upd f19 22 (f19 8)) 23 t21) 24 t21) 25 t22) 26 t24) 27 t26) 30 (f19 6)) 31 t27) 9 t27) 32 t27) 33 t29) w28)
    (Rd Try.prog (WS.at w28.drew) (zd_ 26 (f19 5)) fun t30 =>
    Rd Try.prog WS.any (zf_ 27 (f19 6) t27) fun t31 =>
    Rd Try.prog (WS.at w28.drew) (zd_ 3 t31) fun t32 =>
    CallK Try.prog 59 [t30, t32] (fun t33 w34 =>
    Rd Try.prog (WS.at w34) (zc_ .len #[27] 3 [false] [t33]) fun t35 =>
    Rd Try.prog (WS.at w34) (sBin .eql 3 true t35 (.int .i64 0)) fun t36 =>
    zm_ t36
     (Q18 (.exit 0) (F.upd (F.upd (F.upd (F.upd (F.upd (F.upd (F.upd (F.upd (F.upd (F.upd (F.upd (F.upd (F.upd (F.upd (F.upd (F.upd (F.upd (F.upd (F.upd (F.upd (F.upd f19 22 (f19 8)) 23 t21) 24 t21) 25 t22) 26 t24) 27 t26) 30 (f19 6)) 31 t27) 9 t27) 32 t27) 33 t29) 34 t30) 35 (f19 6)) 36 t27) 37 t31) 38 t32) 39 t33) 10 t33) 40 t33) 41 t35) 42 t36) w34)
     (Rd Try.prog (WS.at w34) (zc_ .len #[27] 3 [false] [t33]) fun t37 =>
     CallK Try.prog 57 [(f19 4), t37] (fun t38 w39 =>
     Rd Try.prog (WS.at w39) (zf_ 27 t33 t38) fun t40 =>
     Rd Try.prog (WS.at w39) (zd_ 3 t40) fun t41 =>
     Rd Try.prog (WS.at w39) (zd_ 26 (f19 5)) fun t42 =>
     CallK Try.prog 21 [t42, (f19 6), t27, t41] (fun t43 w44 =>
     Rd Try.prog (WS.at w44) (zu_ t43 0) fun t45 =>
     Rd Try.prog (WS.at w44) (zu_ t43 1) fun t46 =>
     Rd Try.prog (WS.at w44) (sUn .not t46) fun t47 =>
     zm_ t47
      (Q18 (.exit 0) (F.upd (F.upd (F.upd (F.upd (F.upd (F.upd (F.upd (F.upd (F.upd (F.upd (F.upd (F.upd (F.upd (F.upd (F.upd (F.upd (F.upd (F.upd (F.upd (F.upd (F.upd (F.upd (F.upd (F.upd (F.upd (F.upd (F.upd (F.upd (F.upd (F.upd (F.upd (F.upd (F.upd (F.upd (F.upd (F.upd (F.upd (F.upd (F.upd (F.upd (F.upd f19 22 (f19 8)) 23 t21) 24 t21) 25 t22) 26 t24) 27 t26) 30 (f19 6)) 31 t27) 9 t27) 32 t27) 33 t29) 34 t30) 35 (f19 6)) 36 t27) 37 t31) 38 t32) 39 t33) 10 t33) 40 t33) 41 t35) 42 t36) 43 t33) 44 (f19 4)) 45 t33) 46 t37) 47 t38) 48 t40) 49 t41) 11 t41) 51 t42) 52 (f19 6)) 53 t27) 54 t41) 55 t43) 50 t43) 56 t45) 57 t46) 12 t45) 13 t46) 58 t46) 59 t47) w44)
      (Do Try.prog (zh_ 27 1 [(0, t41)]) (fun t48 w49 =>
      Do Try.prog (zc_ .append #[27, 27] 27 [false, false] [(f19 7), t48]) (fun t50 w51 =>
      Rd Try.prog (WS.at w51) (sBin .sub 3 true (f19 8) (.int .i64 1)) fun t52 =>
      Q18 .normal (F.upd (F.upd (F.upd (F.upd (F.upd (F.upd (F.upd (F.upd (F.upd (F.upd (F.upd (F.upd (F.upd (F.upd (F.upd (F.upd (F.upd (F.upd (F.upd (F.upd (F.upd (F.upd (F.upd (F.upd (F.upd (F.upd (F.upd (F.upd (F.upd (F.upd (F.upd (F.upd (F.upd (F.upd (F.upd (F.upd (F.upd (F.upd (F.upd (F.upd (F.upd (F.upd (F.upd (F.upd (F.upd (F.upd (F.upd (F.upd (F.upd (F.upd (F.upd f19 22 (f19 8)) 23 t21) 24 t21) 25 t22) 26 t24) 27 t26) 30 (f19 6)) 31 t27) 9 t27) 32 t27) 33 t29) 34 t30) 35 (f19 6)) 36 t27) 37 t31) 38 t32) 39 t33) 10 t33) 40 t33) 41 t35) 42 t36) 43 t33) 44 (f19 4)) 45 t33) 46 t37) 47 t38) 48 t40) 49 t41) 11 t41) 51 t42) 52 (f19 6)) 53 t27) 54 t41) 55 t43) 50 t43) 56 t45) 57 t46) 12 t45) 13 t46) 58 t46) 59 t47) 60 t45) 6 t45) 61 (f19 7)) 62 t41) 63 t48) 64 t50) 7 t50) 28 (f19 8)) 29 t52) 8 t52) w51) w49) w44)) w39) w34)) w28.drew)) w25)
   (Q18 (.exit 0) (F.upd (F.upd (F.upd (F.upd (F.upd (F.upd f19 22 (f19 8)) 23 t21) 24 t21) 25 t22) 26 t24) 27 t26) w25)) w23) w20)
  (zgb_ 0 (seqQ K13 (zv_ Try.prog [.cell 2 26, .tmp 3] k)))
  (F.upd (F.upd (F.upd (F.upd (F.upd (F.upd (F.upd (F.upd (F.upd (F.upd (F.upd (F.upd (F.upd (F.upd (F.upd (zr_ [v0]) 2 t1) 3 (.slice none 0 0)) 14 v0) 15 t3) 16 t4) 4 t4) 17 t4) 18 t6) 5 t8) 19 t11) 6 t11) 7 (.slice none 0 0)) 20 t4) 21 t16) 8 t16) w17) w12) (fun f14 w15 =>
 Join (fun K55 =>
 CallK Try.prog 60 [(f14 4), (.int .i64 12)] (fun t58 w59 =>
 zm_ t58
  (CallK Try.prog 57 [(f14 4), (.int .i64 9)] (fun t60 w61 =>
  Rd Try.prog (WS.at w61) (sBin .sub 3 true t60 (.int .i64 1)) fun t62 =>
  Do Try.prog (zh_ 27 1 [(0, t62)]) (fun t63 w64 =>
  Do Try.prog (zc_ .append #[27, 27] 27 [false, false] [(f14 7), t63]) (fun t65 w66 =>
  K55 (F.upd (F.upd (F.upd (F.upd (F.upd (F.upd (F.upd (F.upd (F.upd f14 65 (f14 4)) 66 t58) 67 (f14 7)) 68 (f14 4)) 69 t60) 70 t62) 71 t63) 72 t65) 7 t65) w66) w64) w61) w59)
  (K55 (F.upd (F.upd f14 65 (f14 4)) 66 t58) w59)) w15) (fun f56 w57 =>
 Rd Try.prog (WS.at w57) (zd_ 26 (f56 5)) fun t67 =>
 Do Try.prog (zab_ 26 (f56 2) t67) (fun _ w68 =>
 Rd Try.prog (WS.at w68) (zwb_ 26 (f56 2)) fun t69 => k (.tuple #[t69, (f56 7)]) w68) w57))) w10) w9) w7) w5) w2) w
theorem body14 : Try.f14.body = some (zi_ Try.f14) := by kernel_rfl
theorem same14 (v0 : Value) (k : Value → World → Prop) (w : World) : wpF Try.prog pl14 (zi_ Try.f14) (zv_ Try.prog Try.f14.results.toList k) (zr_ [v0]) w = S14 v0 k w := by kernel_rfl
theorem enter14 {v0 : Value} {k : Value → World → Prop} {w : World} (h : S14 v0 k w) : CallK Try.prog 14 [v0] k w :=
  zk_ (pl := pl14) zdb_ Try.func14 body14 (by kernel_rfl) (of_decide_eq_true (by kernel_rfl)) (by kernel_rfl) (by kernel_rfl) (Eq.mpr (same14 v0 k w) h)

def pl19 : Plans := fun i => match i with
  | 7 => ⟨true, [12], .step 0 .held (.step 1 .any (.step 2 .any (.step 3 .any (.step 4 .any (.step 5 .any (.step 7 .any (.step 8 .any (.step 9 .held (.step 10 .any (.step 6 .one (.step 11 .one (.step 12 .last (.step 13 .any (.step 14 .any (.step 15 .any (.step 16 .any (.step 17 .any (.nil))))))))))))))))))⟩
  | 10 => ⟨true, [13], .step 0 .held (.step 1 .any (.step 2 .any (.step 3 .any (.step 4 .any (.step 5 .any (.step 7 .any (.step 8 .any (.step 9 .held (.step 10 .any (.step 11 .any (.step 6 .one (.step 12 .one (.step 13 .last (.step 14 .any (.step 15 .any (.step 16 .any (.nil)))))))))))))))))⟩
  | _ => ⟨false, [], .nil⟩
def S19 (v0 : Value) (k : Value → World → Prop) (w : World) : Prop :=
 Do Try.prog (zkb_ 26) (fun t1 w2 =>
 Rd Try.prog (WS.at w2) (zw_ 86 [(0, v0)]) fun t3 =>
 Do Try.prog (sBox 86 t3) (fun t4 w5 =>
 CallK Try.prog 56 [t4] (fun t6 w7 =>
 Do Try.prog (zkb_ 26) (fun t8 w9 =>
 Do Try.prog (zab_ 26 t8 t6) (fun _ w10 =>
 Do Try.prog (zh_ 27 1 [(0, (.int .i64 0))]) (fun t11 w12 =>
 CallK Try.prog 57 [t4, (.int .i64 5)] (fun t13 w14 =>
 zrb_ [20, 21, 22, 23, 24, 25, 26, 27, 31, 32, 33, 34, 35, 36, 37, 38, 39, 40, 41, 42, 43, 30, 44, 45, 10, 11, 46, 47, 8, 28, 29, 9] (fun Q15 f16 w17 =>
  Rd Try.prog (WS.at w17) (sBin .gtr 3 true (f16 9) (.int .i64 0)) fun t18 =>
  zb_ t18 true (fun k w' => Rd Try.prog (WS.at w17) (za_ 26 (f16 7) 2) fun v => k v w') (fun t19 w20 =>
  zb_ t18 true (fun k w' => Rd Try.prog (WS.at w20) (zd_ 24 t19) fun v => k v w') (fun t21 w22 =>
  zb_ t18 true (fun k w' => Rd Try.prog (WS.at w22) (zc_ .len #[24] 3 [false] [t21]) fun v => k v w') (fun t23 w24 =>
  zb_ t18 true (fun k w' => Rd Try.prog (WS.at w24) (sBin .gtr 3 true t23 (.int .i64 0)) fun v => k v w') (fun t25 w26 =>
  Rd Try.prog (WS.at w26) (zcb_ t18 t25 (.bool false)) fun t27 =>
  zm_ t27
   (Join (fun K28 =>
   ∃ U31 : World → Prop, ∃ h32 : U31 w26.drew,
   Rd Try.prog ⟨U31, w26.drew, h32⟩ (zd_ 26 (f16 7)) fun t33 =>
   Rd Try.prog WS.any (zc_ .len #[27] 3 [false] [(f16 8)]) fun t34 =>
   Rd Try.prog WS.any (sBin .add 3 true t34 (.int .i64 1)) fun t35 =>
   Rd Try.prog WS.any (za_ 26 (f16 7) 2) fun t36 =>
   Rd Try.prog ⟨U31, w26.drew, h32⟩ (zd_ 24 t36) fun t37 =>
   Rd Try.prog WS.any (zc_ .len #[24] 3 [false] [t37]) fun t38 =>
   CallK Try.prog 57 [(f16 6), t35] (fun t39 w40 =>
   U31 w40 ∧ CallK Try.prog 57 [(f16 6), t38] (fun t41 w42 =>
   U31 w42 ∧ CallK Try.prog 21 [t33, (f16 8), t39, t41] (fun t43 w44 =>
   Rd Try.prog WS.any (zu_ t43 0) fun t45 =>
   Rd Try.prog WS.any (zu_ t43 1) fun t46 =>
   zm_ t46
    (K28 (F.upd (F.upd (F.upd (F.upd (F.upd (F.upd (F.upd (F.upd (F.upd (F.upd (F.upd (F.upd (F.upd (F.upd (F.upd (F.upd (F.upd (F.upd (F.upd (F.upd (F.upd (F.upd (F.upd (F.upd (F.upd (F.upd (F.upd (F.upd (F.upd f16 20 (f16 9)) 21 t18) 22 t18) 23 t19) 24 t21) 25 t23) 26 t25) 27 t27) 31 t33) 32 (f16 8)) 33 (f16 6)) 34 (f16 8)) 35 t34) 36 t35) 38 (f16 6)) 39 t36) 40 t37) 41 t38) 37 t39) 42 t41) 43 t43) 30 t43) 44 t45) 45 t46) 10 t45) 11 t46) 46 t46) 47 t45) 8 t45) w44)
    (K28 (F.upd (F.upd (F.upd (F.upd (F.upd (F.upd (F.upd (F.upd (F.upd (F.upd (F.upd (F.upd (F.upd (F.upd (F.upd (F.upd (F.upd (F.upd (F.upd (F.upd (F.upd (F.upd (F.upd (F.upd (F.upd (F.upd (F.upd f16 20 (f16 9)) 21 t18) 22 t18) 23 t19) 24 t21) 25 t23) 26 t25) 27 t27) 31 t33) 32 (f16 8)) 33 (f16 6)) 34 (f16 8)) 35 t34) 36 t35) 38 (f16 6)) 39 t36) 40 t37) 41 t38) 37 t39) 42 t41) 43 t43) 30 t43) 44 t45) 45 t46) 10 t45) 11 t46) 46 t46) w44)) w42) w40) w26.drew) (fun f29 w30 =>
   Rd Try.prog (WS.at w30) (sBin .sub 3 true (f29 9) (.int .i64 1)) fun t47 =>
   Q15 .normal (F.upd (F.upd (F.upd f29 28 (f29 9)) 29 t47) 9 t47) w30))
   (Q15 (.exit 0) (F.upd (F.upd (F.upd (F.upd (F.upd (F.upd (F.upd (F.upd f16 20 (f16 9)) 21 t18) 22 t18) 23 t19) 24 t21) 25 t23) 26 t25) 27 t27) w26)) w24) w22) w20) w17)
  (zgb_ 0 (seqQ (fun f48 w49 =>
 ∃ U50 : World → Prop, ∃ h51 : U50 w49.drew,
 Rd Try.prog ⟨U50, w49.drew, h51⟩ (zd_ 26 (f48 7)) fun t52 =>
 Rd Try.prog WS.any (zc_ .len #[27] 3 [false] [(f48 8)]) fun t53 =>
 Rd Try.prog WS.any (sBin .add 3 true t53 (.int .i64 1)) fun t54 =>
 Rd Try.prog WS.any (za_ 26 (f48 7) 2) fun t55 =>
 Rd Try.prog ⟨U50, w49.drew, h51⟩ (zd_ 24 t55) fun t56 =>
 Rd Try.prog WS.any (zc_ .len #[24] 3 [false] [t56]) fun t57 =>
 Rd Try.prog WS.any (sBin .add 3 true t57 (.int .i64 1)) fun t58 =>
 CallK Try.prog 57 [(f48 6), t54] (fun t59 w60 =>
 U50 w60 ∧ CallK Try.prog 57 [(f48 6), t58] (fun t61 w62 =>
 U50 w62 ∧ Do Try.prog (zab_ 26 (f48 2) t52) (fun _ w63 =>
 Rd Try.prog (WS.at w63) (zwb_ 26 (f48 2)) fun t64 => k (.tuple #[t64, (f48 8), t59, t61]) w63) w62) w60) w49.drew) (zv_ Try.prog [.cell 2 26, .tmp 3, .tmp 4, .tmp 5] k)))
  (F.upd (F.upd (F.upd (F.upd (F.upd (F.upd (F.upd (F.upd (F.upd (F.upd (F.upd (F.upd (F.upd (F.upd (F.upd (F.upd (zr_ [v0]) 2 t1) 3 (.slice none 0 0)) 4 (.int .i64 0)) 5 (.int .i64 0)) 12 v0) 13 t3) 14 t4) 6 t4) 15 t4) 16 t6) 7 t8) 17 t11) 8 t11) 18 t4) 19 t13) 9 t13) w14) w12) w10) w9) w7) w5) w2) w
theorem body19 : Try.f19.body = some (zi_ Try.f19) := by kernel_rfl
theorem same19 (v0 : Value) (k : Value → World → Prop) (w : World) : wpF Try.prog pl19 (zi_ Try.f19) (zv_ Try.prog Try.f19.results.toList k) (zr_ [v0]) w = S19 v0 k w := by kernel_rfl
theorem enter19 {v0 : Value} {k : Value → World → Prop} {w : World} (h : S19 v0 k w) : CallK Try.prog 19 [v0] k w :=
  zk_ (pl := pl19) zdb_ Try.func19 body19 (by kernel_rfl) (of_decide_eq_true (by kernel_rfl)) (by kernel_rfl) (by kernel_rfl) (Eq.mpr (same19 v0 k w) h)

def pl4 : Plans := fun _ => ⟨false, [], .nil⟩
def S4 (v0 v1 : Value) (k : Value → World → Prop) (w : World) : Prop :=
 CallK Try.prog 7 [v0, v1] (fun t1 w2 =>
 zm_ t1
  (k (.bool true) w2)
  (CallK Try.prog 14 [v0] (fun t3 w4 =>
  Rd Try.prog (WS.at w4) (zu_ t3 0) fun t5 =>
  Rd Try.prog (WS.at w4) (zu_ t3 1) fun t6 =>
  Do Try.prog (zkb_ 26) (fun t7 w8 =>
  Do Try.prog (zab_ 26 t7 t5) (fun _ w9 =>
  Rd Try.prog (WS.at w9) (zd_ 26 t7) fun t10 =>
  CallK Try.prog 15 [t10, t6] (fun t11 w12 =>
  Rd Try.prog (WS.at w12) (zu_ t11 0) fun t13 =>
  Rd Try.prog (WS.at w12) (zu_ t11 1) fun t14 =>
  Rd Try.prog (WS.at w12) (zd_ 26 t7) fun t15 =>
  CallK Try.prog 16 [t15, t6] (fun t16 w17 =>
  Rd Try.prog (WS.at w17) (zu_ t16 0) fun t18 =>
  Rd Try.prog (WS.at w17) (zu_ t16 1) fun t19 =>
  Rd Try.prog (WS.at w17) (sBin .neq 4 false t14 t19) fun t20 =>
  zb_ t20 false (fun k w' => k t13 w') (fun t21 w22 =>
  zb_ t20 false (fun k w' => k t18 w') (fun t23 w24 =>
  zb_ t20 false (fun k w' => CallK Try.prog 11 [t21, t23] k w') (fun t25 w26 =>
  zb_ t20 false (fun k w' => Rd Try.prog (WS.at w26) (sUn .not t25) fun v => k v w') (fun t27 w28 =>
  Rd Try.prog (WS.at w28) (zcb_ t20 (.bool true) t27) fun t29 =>
  zm_ t29
   (k (.bool false) w28)
   (Join (fun K30 =>
   zb_ t14 true (fun k w' => k t13 w') (fun t33 w34 =>
   zb_ t14 true (fun k w' => Rd Try.prog (WS.at w34) (zc_ .len #[27] 3 [false] [t33]) fun v => k v w') (fun t35 w36 =>
   zb_ t14 true (fun k w' => Rd Try.prog (WS.at w36) (sBin .leq 3 true t35 (.int .i64 10)) fun v => k v w') (fun t37 w38 =>
   Rd Try.prog (WS.at w38) (zcb_ t14 t37 (.bool false)) fun t39 =>
   zm_ t39
    (Rd Try.prog (WS.at w38) (zc_ .len #[27] 3 [false] [t13]) fun t40 =>
    zrb_ [64, 65, 66, 13, 67, 68, 69, 70, 71, 72, 73, 11, 74, 63] (fun Q41 f42 w43 =>
     Rd Try.prog (WS.at w43) (sBin .lss 3 false (f42 63) (f42 62)) fun t44 =>
     zm_ t44
      (Join (fun K45 =>
      Rd Try.prog (WS.at w43) (zf_ 27 (f42 61) (f42 63)) fun t48 =>
      Rd Try.prog (WS.at w43) (zd_ 3 t48) fun t49 =>
      Rd Try.prog (WS.at w43) (sBin .lss 3 true t49 (.int .i64 0)) fun t50 =>
      zm_ t50
       (Rd Try.prog (WS.at w43) (sBin .sub 3 true (.int .i64 (-1)) t49) fun t51 =>
       Do Try.prog (zh_ 27 1 [(0, t51)]) (fun t52 w53 =>
       Do Try.prog (zc_ .append #[27, 27] 27 [false, false] [(f42 11), t52]) (fun t54 w55 =>
       K45 (F.upd (F.upd (F.upd (F.upd (F.upd (F.upd (F.upd (F.upd (F.upd (F.upd (F.upd (F.upd f42 64 t44) 65 t48) 66 t49) 13 t49) 67 t49) 68 t50) 69 (f42 11)) 70 t49) 71 t51) 72 t52) 73 t54) 11 t54) w55) w53) w43)
       (K45 (F.upd (F.upd (F.upd (F.upd (F.upd (F.upd f42 64 t44) 65 t48) 66 t49) 13 t49) 67 t49) 68 t50) w43)) (fun f46 w47 =>
      Rd Try.prog (WS.at w47) (sBin .add 3 true (f46 63) (.int .i64 1)) fun t56 =>
      Q41 .normal (F.upd (F.upd f46 74 t56) 63 t56) w47))
      (Q41 (.exit 0) (F.upd f42 64 t44) w43))
     (zgb_ 0 (seqQ (fun f57 w58 =>
    Rd Try.prog (WS.at w58) (zc_ .len #[27] 3 [false] [(f57 11)]) fun t59 =>
    Rd Try.prog (WS.at w58) (zc_ .len #[27] 3 [false] [(f57 7)]) fun t60 =>
    Rd Try.prog (WS.at w58) (sBin .eql 3 false t59 t60) fun t61 =>
    zm_ t61
     (Rd Try.prog (WS.at w58) (zd_ 26 (f57 5)) fun t62 =>
     CallK Try.prog 17 [t62, (f57 11)] (fun t63 w64 =>
     Rd Try.prog (WS.at w64) (zu_ t63 0) fun t65 =>
     Rd Try.prog (WS.at w64) (zu_ t63 1) fun t66 =>
     Rd Try.prog (WS.at w64) (zd_ 26 (f57 5)) fun t67 =>
     CallK Try.prog 18 [t67, (f57 11), (f57 6)] (fun t68 w69 =>
     Rd Try.prog (WS.at w69) (zu_ t68 0) fun t70 =>
     Rd Try.prog (WS.at w69) (zu_ t68 1) fun t71 =>
     Rd Try.prog (WS.at w69) (sUn .not t66) fun t72 =>
     zb_ t72 false (fun k w' => k t65 w') (fun t73 w74 =>
     zb_ t72 false (fun k w' => Rd Try.prog (WS.at w74) (sUn .not t73) fun v => k v w') (fun t75 w76 =>
     Rd Try.prog (WS.at w76) (zcb_ t72 (.bool true) t75) fun t77 =>
     zb_ t77 false (fun k w' => k t71 w') (fun t78 w79 =>
     zb_ t77 false (fun k w' => Rd Try.prog (WS.at w79) (sUn .not t78) fun v => k v w') (fun t80 w81 =>
     Rd Try.prog (WS.at w81) (zcb_ t77 (.bool true) t80) fun t82 =>
     zb_ t82 false (fun k w' => k t70 w') (fun t83 w84 =>
     zb_ t82 false (fun k w' => Rd Try.prog (WS.at w84) (sUn .not t83) fun v => k v w') (fun t85 w86 =>
     Rd Try.prog (WS.at w86) (zcb_ t82 (.bool true) t85) fun t87 =>
     zm_ t87
      (k (.bool false) w86)
      (K30 (F.upd (F.upd (F.upd (F.upd (F.upd (F.upd (F.upd (F.upd (F.upd (F.upd (F.upd (F.upd (F.upd (F.upd (F.upd (F.upd (F.upd (F.upd (F.upd (F.upd (F.upd (F.upd (F.upd (F.upd (F.upd (F.upd (F.upd (F.upd (F.upd (F.upd (F.upd (F.upd (F.upd (F.upd (F.upd (F.upd f57 75 (f57 11)) 76 t59) 77 (f57 7)) 78 t60) 79 t61) 81 t62) 82 (f57 11)) 83 t63) 80 t63) 84 t65) 85 t66) 14 t65) 15 t66) 87 t67) 88 (f57 11)) 89 (f57 6)) 90 t68) 86 t68) 91 t70) 92 t71) 16 t70) 17 t71) 93 t66) 94 t72) 95 t72) 96 t73) 97 t75) 98 t77) 99 t77) 100 t78) 101 t80) 102 t82) 103 t82) 104 t83) 105 t85) 106 t87) w86)) w84) w81) w79) w76) w74) w69) w64) w58)
     (K30 (F.upd (F.upd (F.upd (F.upd (F.upd f57 75 (f57 11)) 76 t59) 77 (f57 7)) 78 t60) 79 t61) w58)) (seqQ K30 (zv_ Try.prog [.tmp 4] k))))
     (F.upd (F.upd (F.upd (F.upd (F.upd (F.upd (F.upd (F.upd (F.upd (F.upd (F.upd (F.upd (F.upd (F.upd (F.upd (F.upd (F.upd (F.upd (F.upd (F.upd (F.upd (F.upd (F.upd (F.upd (F.upd (F.upd (F.upd (F.upd (F.upd (F.upd (F.upd (F.upd (F.upd (F.upd (F.upd (F.upd (F.upd (F.upd (F.upd (F.upd (F.upd (F.upd (F.upd (F.upd (F.upd (F.upd (zr_ [v0, v1]) 4 (.bool false)) 26 v0) 27 v1) 28 t1) 30 v0) 31 t3) 29 t3) 32 t5) 33 t6) 5 t7) 6 t6) 35 t10) 36 t6) 37 t11) 34 t11) 38 t13) 39 t14) 7 t13) 8 t14) 41 t15) 42 t6) 43 t16) 40 t16) 44 t18) 45 t19) 9 t18) 10 t19) 46 t14) 47 t19) 48 t20) 49 t20) 50 t21) 51 t23) 52 t25) 53 t27) 54 t29) 55 t14) 56 t14) 57 t33) 58 t35) 59 t37) 60 t39) 11 (.slice none 0 0)) 61 t13) 62 t40) 63 (.int .i64 0)) w38)
    (K30 (F.upd (F.upd (F.upd (F.upd (F.upd (F.upd (F.upd (F.upd (F.upd (F.upd (F.upd (F.upd (F.upd (F.upd (F.upd (F.upd (F.upd (F.upd (F.upd (F.upd (F.upd (F.upd (F.upd (F.upd (F.upd (F.upd (F.upd (F.upd (F.upd (F.upd (F.upd (F.upd (F.upd (F.upd (F.upd (F.upd (F.upd (F.upd (F.upd (F.upd (F.upd (F.upd (zr_ [v0, v1]) 4 (.bool false)) 26 v0) 27 v1) 28 t1) 30 v0) 31 t3) 29 t3) 32 t5) 33 t6) 5 t7) 6 t6) 35 t10) 36 t6) 37 t11) 34 t11) 38 t13) 39 t14) 7 t13) 8 t14) 41 t15) 42 t6) 43 t16) 40 t16) 44 t18) 45 t19) 9 t18) 10 t19) 46 t14) 47 t19) 48 t20) 49 t20) 50 t21) 51 t23) 52 t25) 53 t27) 54 t29) 55 t14) 56 t14) 57 t33) 58 t35) 59 t37) 60 t39) w38)) w36) w34) w28) (fun f31 w32 =>
   CallK Try.prog 19 [(f31 1)] (fun t90 w91 =>
   Rd Try.prog (WS.at w91) (zu_ t90 0) fun t92 =>
   Rd Try.prog (WS.at w91) (zu_ t90 1) fun t93 =>
   Rd Try.prog (WS.at w91) (zu_ t90 2) fun t94 =>
   Rd Try.prog (WS.at w91) (zu_ t90 3) fun t95 =>
   Do Try.prog (zkb_ 26) (fun t96 w97 =>
   Do Try.prog (zab_ 26 t96 t92) (fun _ w98 =>
   Rd Try.prog (WS.at w98) (zd_ 26 t96) fun t99 =>
   CallK Try.prog 20 [t99, t93, t94, t95] (fun t100 w101 =>
   Rd Try.prog (WS.at w101) (zu_ t100 0) fun t102 =>
   Rd Try.prog (WS.at w101) (zu_ t100 1) fun t103 =>
   Rd Try.prog (WS.at w101) (zd_ 26 t96) fun t104 =>
   CallK Try.prog 21 [t104, t93, t94, t95] (fun t105 w106 =>
   Rd Try.prog (WS.at w106) (zu_ t105 0) fun t107 =>
   Rd Try.prog (WS.at w106) (zu_ t105 1) fun t108 =>
   Rd Try.prog (WS.at w106) (sBin .eql 4 false t103 t108) fun t109 =>
   zb_ t109 true (fun k w' => k t102 w') (fun t110 w111 =>
   zb_ t109 true (fun k w' => k t107 w') (fun t112 w113 =>
   zb_ t109 true (fun k w' => CallK Try.prog 11 [t110, t112] k w') (fun t114 w115 =>
   Rd Try.prog (WS.at w115) (zcb_ t109 t114 (.bool false)) fun t116 =>
   k t116 w115) w113) w111) w106) w101) w98) w97) w91) w32))) w26) w24) w22) w17) w12) w9) w8) w4) w2)) w
theorem body4 : Try.f4.body = some (zi_ Try.f4) := by kernel_rfl
theorem same4 (v0 v1 : Value) (k : Value → World → Prop) (w : World) : wpF Try.prog pl4 (zi_ Try.f4) (zv_ Try.prog Try.f4.results.toList k) (zr_ [v0, v1]) w = S4 v0 v1 k w := by kernel_rfl
theorem enter4 {v0 v1 : Value} {k : Value → World → Prop} {w : World} (h : S4 v0 v1 k w) : CallK Try.prog 4 [v0, v1] k w :=
  zk_ (pl := pl4) zdb_ Try.func4 body4 (by kernel_rfl) (of_decide_eq_true (by kernel_rfl)) (by kernel_rfl) (by kernel_rfl) (Eq.mpr (same4 v0 v1 k w) h)

end Go.Proofs.Yteabbgaffgpegaa

set_option linter.unusedSimpArgs false
namespace Go.Sh
open Go
theorem Ints.other {w w' : World} {Y : Option Addr} {ys : List Int} {r : Option Nat} (h : Ints w Y ys) (g : w.grownBy w' r) (hne : ys ≠ [] → r ≠ some (ad Y).block) : Ints w' Y ys :=
  ⟨h.le, h.ptr, fun j hj => World.grownBy.cell g (h.cell j hj) (by
    rw [zhc_]
    exact fun e' => hne (by intro e; rw [e] at hj; simp at hj) e'.symm)⟩
theorem Ints.newer {w w1 w2 : World} {Y : Option Addr} {ys : List Int} {q : Nat} (h : Ints w Y ys) (g1 : Gr w w1) (g2 : w1.grownBy w2 (some q)) (hq : w.heap.size ≤ q) : Ints w2 Y ys := (h.gr g1).other g2 fun hne e => by
  have := (IntsF.of_ints h).foot (List.length_pos_iff.2 hne)
  injection e with e
  omega
theorem zbk_ {P : Program} {t ty e : TypeId} {sz : Nat} {w : World} (ht : P.underlying t = some (.slice e)) (hs : szOf P e sz) {X Y : Option Addr} {n c d : Nat} (hc : n ≤ c) :
    (Builtin.append_ #[t, t] ty #[.slice X n c, .slice Y 0 d]).run P w = .ok (.slice X n c) w := by
  obtain ⟨i, hi, hn⟩ := hs
  cases X <;> cases Y <;> simp [Builtin.append_, run_underlying ht, sizeOf, typeInfo, hi, Builtin.lenOf, Builtin.firstCells, hc, storeCells, loadCells, loadCellsFrom]
theorem zek_ {P : Program} {k : Value → World → Prop} {w : World} {t u e : TypeId} {sz : Nat} (ht : P.underlying t = some (.slice e)) (hs : szOf P e sz) {X Y : Option Addr} {n c d : Nat} (hc : n ≤ c) {cs : List Bool} (h : k (.slice X n c) w) :
    Do P (zc_ .append #[t, t] u cs [.slice X n c, .slice Y 0 d]) k w := by
  have e' : (zc_ .append #[t, t] u cs [.slice X n c, .slice Y 0 d]).run P w = .ok (.value (.slice X n c)) w := by
    simp only [zc_, builtin, Sem.run_bind]
    rw [show [Value.slice X n c, Value.slice Y 0 d].toArray = #[.slice X n c, .slice Y 0 d] from rfl, zbk_ ht hs hc]
    rfl
  rw [zuc_ e']
  exact h
section
variable {α : Type} {all vs : List α} {j n m tot c : Nat}
theorem moved1 (hl : all.length = c) (hv : vs.length = m) (hj : j < n) (ht : tot = j + m + (n - (j + 1))) (hc : tot ≤ c) (hn : n ≤ c) :
    (((all.take (j + m) ++ (all.drop (j + 1)).take (n - (j + 1)) ++ all.drop tot).take j ++ vs ++ (all.take (j + m) ++ (all.drop (j + 1)).take (n - (j + 1)) ++ all.drop tot).drop (j + m)).take tot) = all.take j ++ vs ++ (all.drop (j + 1)).take (n - (j + 1)) := by
  have e1 : (all.take (j + m) ++ (all.drop (j + 1)).take (n - (j + 1)) ++ all.drop tot).take j = all.take j := by
    rw [List.append_assoc, List.take_append_of_le_length (by rw [List.length_take]; omega), List.take_take, Nat.min_eq_left (by omega)]
  have e2 : (all.take (j + m) ++ (all.drop (j + 1)).take (n - (j + 1)) ++ all.drop tot).drop (j + m) = (all.drop (j + 1)).take (n - (j + 1)) ++ all.drop tot := by
    rw [List.append_assoc, List.drop_left' (by rw [List.length_take]; omega)]
  rw [e1, e2, ← List.append_assoc]
  exact List.take_left' (by simp only [List.length_append, List.length_take, List.length_drop, hv]; omega)
theorem moved0 (hl : all.length = c) (hv : vs.length = m) (hm : m ≤ 1) (hj : j < n) (hn : n ≤ c) : (all.take j ++ vs ++ all.drop (j + m)).drop (j + 1) = all.drop (j + 1) := by
  rcases (show m = 0 ∨ m = 1 by omega) with rfl | rfl
  · obtain rfl := List.eq_nil_of_length_eq_zero hv
    rw [List.append_nil]
    show (all.take j ++ all.drop j).drop (j + 1) = _
    rw [List.take_append_drop]
  · exact List.drop_left' (by rw [List.length_append, List.length_take, hv]; omega)
theorem moved2 (hl : all.length = c) (hv : vs.length = m) (hm : m ≤ 1) (hj : j < n) (ht : tot = j + m + (n - (j + 1))) (hn : n ≤ c) :
    let a1 := all.take j ++ vs ++ all.drop (j + m)
    ((a1.take (j + m) ++ (a1.drop (j + 1)).take (n - (j + 1)) ++ a1.drop tot).take tot) = all.take j ++ vs ++ (all.drop (j + 1)).take (n - (j + 1)) := by
  intro a1
  have e1 : a1.take (j + m) = all.take j ++ vs := List.take_left' (by simp only [List.length_append, List.length_take, hv]; omega)
  have e2 : a1.drop (j + 1) = all.drop (j + 1) := by
    rcases (show m = 0 ∨ m = 1 by omega) with rfl | rfl
    · obtain rfl := List.eq_nil_of_length_eq_zero hv
      show (all.take j ++ [] ++ all.drop (j + 0)).drop (j + 1) = _
      rw [List.append_nil]
      show (all.take j ++ all.drop j).drop (j + 1) = _
      rw [List.take_append_drop]
    · show (all.take j ++ vs ++ all.drop (j + 1)).drop (j + 1) = _
      exact List.drop_left' (by rw [List.length_append, List.length_take, hv]; omega)
  rw [e1, e2]
  exact List.take_left' (by simp only [List.length_append, List.length_take, List.length_drop, hv]; omega)
theorem moved3 {src : List α} (hl : all.length = c) (hv : vs.length = m) (hs : src.length = n - (j + 1)) (ht : tot = j + m + (n - (j + 1))) (hc : tot ≤ c) :
    let a1 := all.take j ++ vs ++ all.drop (j + m)
    ((a1.take (j + m) ++ src ++ a1.drop tot).take tot) = all.take j ++ vs ++ src := by
  intro a1
  have e1 : a1.take (j + m) = all.take j ++ vs := List.take_left' (by simp only [List.length_append, List.length_take, hv]; omega)
  rw [e1]
  exact List.take_left' (by simp only [List.length_append, List.length_take, hv, hs]; omega)
end
theorem zhg_ (xs : List Int) (j : Nat) : (ints xs).take j = ints (xs.take j) := by simp [ints]
theorem ints_drop (xs : List Int) (j : Nat) : (ints xs).drop j = ints (xs.drop j) := by simp [ints]
theorem zxi_ (xs ys : List Int) : ints xs ++ ints ys = ints (xs ++ ys) := by simp [ints]
theorem room_ints {all : List Value} {xs : List Int} {n j : Nat} (ha : all.take n = ints xs) (hn : n = xs.length) (hj : j < n) : all.take j = ints (xs.take j) ∧ (all.drop (j + 1)).take (n - (j + 1)) = ints (xs.drop (j + 1)) := by
  constructor
  · rw [← zhg_, ← ha, List.take_take, Nat.min_eq_left (by omega)]
  · rw [← ints_drop, ← ha, List.drop_take]
end Go.Sh
namespace Go.Proofs.Yteabbgaffgpegaa
open Go Go.Sh Go.RowKit
section
variable {k : Value → World → Prop} {w0 w : World} {L : List Thing}
attribute [local irreducible] Rd Do CallK zb_ zm_ Join zrb_ zu_ zd_ zcb_ sBin sUn zc_ zab_ zkb_ zf_ za_ zbb_
set_option maxHeartbeats 12800000 in
theorem replaceH (H : Apt w0 w L) (i : Nat) {X Y : Option Addr} {c d n j : Nat} {j1 : Int} {xs ys : List Int} (hi : L[i]? = some (ows X c xs)) (hn : n = xs.length) (hj : j < n) (hj1 : j1 = ((j + 1 : Nat) : Int)) (hxl : n ≤ 1000) (hY : Ints w Y ys) (hyl : ys.length ≤ 1000) (hyd : ys.length ≤ d) (hne : ys ≠ [] → blk X ≠ some (ad Y).block)
    (h : ∀ U e w', Apt w0 w' (L.set i (ows U e (xs.take j ++ ys ++ xs.drop (j + 1)))) → k (.slice U (xs.take j ++ ys ++ xs.drop (j + 1)).length e) w') :
    CallK Try.prog 66 [.slice X n c, .int .i64 j, .int .i64 j1, .slice Y ys.length d] k w := by
  subst hj1
  refine enter66 ?_
  unfold S66
  have o : Row w w0.heap.size 3 1 X n c (ints xs) := hn ▸ H.own i hi
  have hcap := o.cap
  have hsz3 : szOf Try.prog 3 1 := sz3
  have hB : w0.heap.size ≤ w.heap.size := H.gr.size
  have hylen : (ints ys).length = ys.length := zyc_ ys
  have hlen : (xs.take j ++ ys ++ xs.drop (j + 1)).length = j + ys.length + (n - (j + 1)) := by
    simp only [List.length_append, List.length_take, List.length_drop]
    omega
  -- the answer, from a row
  have ans : ∀ (w' : World) (U : Option Addr) (e : Nat) (cells : List Value), Gx (fun q => blk X = some q) w w' → Row w' w0.heap.size 3 1 U (j + ys.length + (n - (j + 1))) e cells → cells = ints (xs.take j) ++ ints ys ++ ints (xs.drop (j + 1)) → (∀ q, blk U = some q → blk X = some q ∨ w.heap.size ≤ q) → k (.slice U (j + ys.length + (n - (j + 1))) e) w' := fun w' U e cells g hr hc hlo => by
    rw [← hlen]
    rw [← hlen, hc, zxi_, zxi_] at hr
    exact h U e w' (H.set hi g hlo (fun q hq => (Row.ge hr hq).2) (zwg_ hr))
  have grX : ∀ {a b : World}, a.grownBy b (blk X) → Gx (fun q => blk X = some q) a b := fun g => gx_of g fun q hq => hq
  refine rdi (sl27 (by omega) (by omega) (by omega)) ?_
  refine rdi zq21 ?_
  rw [decide_eq_false (show ¬ (j : Int) = ((j + 1 : Nat) : Int) from by omega)]
  repeat (first | refine rdi neq_self ?_ | refine rdi neqb_self ?_ | refine rdi eql_self ?_ | refine rdi eqlb_self ?_ | refine rdi zq1 ?_ | refine rdi zq2 ?_ | refine rdi zq13 ?_ | refine rdi zq14 ?_ | refine rdi zq16 ?_ | refine rdi zq15 ?_ | refine rdi zq17 ?_ | refine rdi zq4 ?_ | refine rdi zq3 ?_ | refine rdi zq27 ?_ | refine rdi bneq ?_ | refine rdi beql ?_ | refine rdi zq29 ?_ | refine rdi zq30 ?_ | refine rdi zq21 ?_ | refine rdi zq22 ?_ | refine rdi zq23 ?_ | refine rdi zq24 ?_ | refine rdi zq25 ?_ | refine rdi zq26 ?_ | refine rdi len27 ?_ | refine rdi len35 ?_)
  by_cases hend : j + 1 = n
  · rw [decide_eq_true (show ((j + 1 : Nat) : Int) = (n : Int) from by omega)]
    repeat (first | refine rdi neq_self ?_ | refine rdi neqb_self ?_ | refine rdi eql_self ?_ | refine rdi eqlb_self ?_ | refine rdi zq1 ?_ | refine rdi zq2 ?_ | refine rdi zq13 ?_ | refine rdi zq14 ?_ | refine rdi zq16 ?_ | refine rdi zq15 ?_ | refine rdi zq17 ?_ | refine rdi zq4 ?_ | refine rdi zq3 ?_ | refine rdi zq27 ?_ | refine rdi bneq ?_ | refine rdi beql ?_ | refine rdi zq29 ?_ | refine rdi zq30 ?_ | refine rdi zq21 ?_ | refine rdi zq22 ?_ | refine rdi zq23 ?_ | refine rdi zq24 ?_ | refine rdi zq25 ?_ | refine rdi zq26 ?_ | refine rdi len27 ?_ | refine rdi len35 ?_)
    refine rdi (slh27 (by omega) (by omega)) ?_
    rw [zce_, Int.toNat_natCast]
    have hcut : Row w w0.heap.size 3 1 X j c ((ints xs).take (j * 1)) := o.cutS (by omega)
    have hdrop : xs.drop (j + 1) = [] := List.drop_eq_nil_of_le (by omega)
    have e0 : n - (j + 1) = 0 := by omega
    by_cases hy0 : ys = []
    · subst hy0
      refine zek_ u27 sz3 (by omega) ?_
      refine zed_ (fun f w' => f 9 = .slice X j c ∧ Gx (fun q => blk X = some q) w w' ∧ Row w' w0.heap.size 3 1 X j c ((ints xs).take (j * 1))) (fun K hK => ?_) ?_
      · repeat (first | refine rdi neq_self ?_ | refine rdi neqb_self ?_ | refine rdi eql_self ?_ | refine rdi eqlb_self ?_ | refine rdi zq1 ?_ | refine rdi zq2 ?_ | refine rdi zq13 ?_ | refine rdi zq14 ?_ | refine rdi zq16 ?_ | refine rdi zq15 ?_ | refine rdi zq17 ?_ | refine rdi zq4 ?_ | refine rdi zq3 ?_ | refine rdi zq27 ?_ | refine rdi bneq ?_ | refine rdi beql ?_ | refine rdi zq29 ?_ | refine rdi zq30 ?_ | refine rdi zq21 ?_ | refine rdi zq22 ?_ | refine rdi zq23 ?_ | refine rdi zq24 ?_ | refine rdi zq25 ?_ | refine rdi zq26 ?_ | refine rdi len27 ?_ | refine rdi len35 ?_)
        rw [decide_eq_true (show (j : Int) < (n : Int) from by omega)]
        repeat (first | refine rdi neq_self ?_ | refine rdi neqb_self ?_ | refine rdi eql_self ?_ | refine rdi eqlb_self ?_ | refine rdi zq1 ?_ | refine rdi zq2 ?_ | refine rdi zq13 ?_ | refine rdi zq14 ?_ | refine rdi zq16 ?_ | refine rdi zq15 ?_ | refine rdi zq17 ?_ | refine rdi zq4 ?_ | refine rdi zq3 ?_ | refine rdi zq27 ?_ | refine rdi bneq ?_ | refine rdi beql ?_ | refine rdi zq29 ?_ | refine rdi zq30 ?_ | refine rdi zq21 ?_ | refine rdi zq22 ?_ | refine rdi zq23 ?_ | refine rdi zq24 ?_ | refine rdi zq25 ?_ | refine rdi zq26 ?_ | refine rdi len27 ?_ | refine rdi len35 ?_)
        refine rdi (zid_ (by omega) (by omega)) ?_
        rw [Int.toNat_natCast]
        refine zdh_ u27 inf3 rfl (by decide) (by simp [Value.cells, Value.oneCell']) o (by omega) fun w' g hs hr => ?_
        exact hK _ _ ⟨rfl, grX g, hr⟩
      · rintro f w' ⟨f9, g, hr⟩
        simp only [f9]
        have := ans w' X c _ g (by rw [e0]; exact hr) (by rw [hdrop, Nat.mul_one, zhg_]; simp [ints]) fun q hq => .inl hq
        rwa [e0] at this
    · have hy1 : 0 < ys.length := List.length_pos_iff.2 hy0
      have H1 : Apt w0 w (L.set i (rwi 3 1 X j c ((ints xs).take (j * 1)))) := H.set hi (zxf_ (Gr.refl w) _) (fun q hq => .inl hq) (fun q hq => (Row.ge hcut hq).2) (zwg_ hcut)
      have hL1 : (L.set i (rwi 3 1 X j c ((ints xs).take (j * 1))))[i]? = some (rwi 3 1 X j c ((ints xs).take (j * 1))) := by
        rw [List.getElem?_set_self (get_lt hi)]
      refine appendH H1 i hL1 u27 inf3 rfl (by decide) hY.src (by rw [hylen, Nat.mul_one]) (zud_ ys) (by omega) (by omega) fun X' c' w' H2 => ?_
      refine zed_ (fun f w'' => f 9 = .slice X' (j + ys.length) c' ∧ w'' = w') (fun K hK => ?_) ?_
      · repeat (first | refine rdi neq_self ?_ | refine rdi neqb_self ?_ | refine rdi eql_self ?_ | refine rdi eqlb_self ?_ | refine rdi zq1 ?_ | refine rdi zq2 ?_ | refine rdi zq13 ?_ | refine rdi zq14 ?_ | refine rdi zq16 ?_ | refine rdi zq15 ?_ | refine rdi zq17 ?_ | refine rdi zq4 ?_ | refine rdi zq3 ?_ | refine rdi zq27 ?_ | refine rdi bneq ?_ | refine rdi beql ?_ | refine rdi zq29 ?_ | refine rdi zq30 ?_ | refine rdi zq21 ?_ | refine rdi zq22 ?_ | refine rdi zq23 ?_ | refine rdi zq24 ?_ | refine rdi zq25 ?_ | refine rdi zq26 ?_ | refine rdi len27 ?_ | refine rdi len35 ?_)
        rw [decide_eq_false (show ¬ ((j + ys.length : Nat) : Int) < (n : Int) from by omega)]
        repeat (first | refine rdi neq_self ?_ | refine rdi neqb_self ?_ | refine rdi eql_self ?_ | refine rdi eqlb_self ?_ | refine rdi zq1 ?_ | refine rdi zq2 ?_ | refine rdi zq13 ?_ | refine rdi zq14 ?_ | refine rdi zq16 ?_ | refine rdi zq15 ?_ | refine rdi zq17 ?_ | refine rdi zq4 ?_ | refine rdi zq3 ?_ | refine rdi zq27 ?_ | refine rdi bneq ?_ | refine rdi beql ?_ | refine rdi zq29 ?_ | refine rdi zq30 ?_ | refine rdi zq21 ?_ | refine rdi zq22 ?_ | refine rdi zq23 ?_ | refine rdi zq24 ?_ | refine rdi zq25 ?_ | refine rdi zq26 ?_ | refine rdi len27 ?_ | refine rdi len35 ?_)
        exact hK _ _ ⟨rfl, rfl⟩
      · rintro f w'' ⟨f9, rfl⟩
        simp only [f9]
        rw [List.set_set, Nat.mul_one, zhg_, zxi_] at H2
        have hl2 : (xs.take j ++ ys).length = j + ys.length := by
          rw [List.length_append, List.length_take]
          omega
        have := h X' c' w''
        rw [hdrop, List.append_nil, hl2] at this
        exact this (by rw [show ows X' c' (xs.take j ++ ys) = rwi 3 1 X' (j + ys.length) c' (ints (xs.take j ++ ys)) from by rw [← hl2]; rfl]; exact H2)
  rw [decide_eq_false (show ¬ ((j + 1 : Nat) : Int) = (n : Int) from by omega)]
  repeat (first | refine rdi neq_self ?_ | refine rdi neqb_self ?_ | refine rdi eql_self ?_ | refine rdi eqlb_self ?_ | refine rdi zq1 ?_ | refine rdi zq2 ?_ | refine rdi zq13 ?_ | refine rdi zq14 ?_ | refine rdi zq16 ?_ | refine rdi zq15 ?_ | refine rdi zq17 ?_ | refine rdi zq4 ?_ | refine rdi zq3 ?_ | refine rdi zq27 ?_ | refine rdi bneq ?_ | refine rdi beql ?_ | refine rdi zq29 ?_ | refine rdi zq30 ?_ | refine rdi zq21 ?_ | refine rdi zq22 ?_ | refine rdi zq23 ?_ | refine rdi zq24 ?_ | refine rdi zq25 ?_ | refine rdi zq26 ?_ | refine rdi len27 ?_ | refine rdi len35 ?_)
  refine rdi (slh27 (by omega) (by omega)) ?_
  rw [zce_, Int.toNat_natCast]
  repeat (first | refine rdi neq_self ?_ | refine rdi neqb_self ?_ | refine rdi eql_self ?_ | refine rdi eqlb_self ?_ | refine rdi zq1 ?_ | refine rdi zq2 ?_ | refine rdi zq13 ?_ | refine rdi zq14 ?_ | refine rdi zq16 ?_ | refine rdi zq15 ?_ | refine rdi zq17 ?_ | refine rdi zq4 ?_ | refine rdi zq3 ?_ | refine rdi zq27 ?_ | refine rdi bneq ?_ | refine rdi beql ?_ | refine rdi zq29 ?_ | refine rdi zq30 ?_ | refine rdi zq21 ?_ | refine rdi zq22 ?_ | refine rdi zq23 ?_ | refine rdi zq24 ?_ | refine rdi zq25 ?_ | refine rdi zq26 ?_ | refine rdi len27 ?_ | refine rdi len35 ?_)
  refine rdi zq18 ?_
  rw [zp_ (by omega) (by omega)]
  refine rdi (zid_ (by omega) (by omega)) ?_
  rw [Int.toNat_natCast]
  repeat (first | refine rdi neq_self ?_ | refine rdi neqb_self ?_ | refine rdi eql_self ?_ | refine rdi eqlb_self ?_ | refine rdi zq1 ?_ | refine rdi zq2 ?_ | refine rdi zq13 ?_ | refine rdi zq14 ?_ | refine rdi zq16 ?_ | refine rdi zq15 ?_ | refine rdi zq17 ?_ | refine rdi zq4 ?_ | refine rdi zq3 ?_ | refine rdi zq27 ?_ | refine rdi bneq ?_ | refine rdi beql ?_ | refine rdi zq29 ?_ | refine rdi zq30 ?_ | refine rdi zq21 ?_ | refine rdi zq22 ?_ | refine rdi zq23 ?_ | refine rdi zq24 ?_ | refine rdi zq25 ?_ | refine rdi zq26 ?_ | refine rdi len27 ?_ | refine rdi len35 ?_)
  refine rdi zq18 ?_
  rw [zp_ (by omega) (by omega)]
  refine rdi (rd_cap u27) ?_
  obtain ⟨tot, htot⟩ : ∃ tot, tot = j + ys.length + (n - (j + 1)) := ⟨_, rfl⟩
  rw [show (j : Int) + (ys.length : Int) + ((n - (j + 1) : Nat) : Int) = (tot : Int) from by omega]
  have hY0 : ∀ {w' : World} {r : Option Nat}, w.grownBy w' r → (ys ≠ [] → r ≠ some (ad Y).block) → Ints w' Y ys := fun g h => hY.other g h
  rw [← htot] at ans
  refine rdi zq25 ?_
  by_cases hroom : c < tot
  · rw [decide_eq_true (show (c : Int) < (tot : Int) from by omega)]
    repeat (first | refine rdi neq_self ?_ | refine rdi neqb_self ?_ | refine rdi eql_self ?_ | refine rdi eqlb_self ?_ | refine rdi zq1 ?_ | refine rdi zq2 ?_ | refine rdi zq13 ?_ | refine rdi zq14 ?_ | refine rdi zq16 ?_ | refine rdi zq15 ?_ | refine rdi zq17 ?_ | refine rdi zq4 ?_ | refine rdi zq3 ?_ | refine rdi zq27 ?_ | refine rdi bneq ?_ | refine rdi beql ?_ | refine rdi zq29 ?_ | refine rdi zq30 ?_ | refine rdi zq21 ?_ | refine rdi zq22 ?_ | refine rdi zq23 ?_ | refine rdi zq24 ?_ | refine rdi zq25 ?_ | refine rdi zq26 ?_ | refine rdi len27 ?_ | refine rdi len35 ?_)
    obtain ⟨i3, h3i, h3z, h3s, h3b⟩ := inf3
    refine rdi (slh27 (by omega) (by omega)) ?_
    rw [zce_, Int.toNat_natCast]
    refine rdi zq19 ?_
    rw [zp_ (by omega) (by omega), show (tot : Int) - (j : Int) = ((tot - j : Nat) : Int) from by omega]
    refine zdk_ u27 Try.underlying3 h3i h3z h3s h3b rfl ((o.cutS (show j ≤ n by omega)).gr (zhb_ w)) (by omega) (by omega) (by omega) (by omega) hB fun g c' w1 g1 hg R0 => ?_
    have g1 := ze_ (zhb_ w) g1
    have hg : w.heap.size ≤ g := hg
    have hX : Ints w X xs := H.ints i hi
    have e1 : j + (tot - j) = tot := by omega
    rw [e1] at R0 ⊢
    obtain ⟨g', all, eg, Rf, ha, hle, hal⟩ := R0.room (by omega)
    obtain rfl : g = g' := by
      injection eg with eg
      injection eg
    have hc' := Rf.cap
    refine rdi (zid_ (by omega) (by omega)) ?_
    rw [Int.toNat_natCast]
    refine zie_ u27 sz3 Rf (show j + (tot - j) ≤ c' by omega) (hY.gr g1).src hylen.symm (zud_ ys) fun w2 g2 hs2 R2 => ?_
    rw [show Nat.min ys.length (tot - j) = ys.length from Nat.min_eq_left (by omega), List.take_of_length_le (show (ints ys).length ≤ ys.length by omega)] at R2
    repeat (first | refine rdi neq_self ?_ | refine rdi neqb_self ?_ | refine rdi eql_self ?_ | refine rdi eqlb_self ?_ | refine rdi zq1 ?_ | refine rdi zq2 ?_ | refine rdi zq13 ?_ | refine rdi zq14 ?_ | refine rdi zq16 ?_ | refine rdi zq15 ?_ | refine rdi zq17 ?_ | refine rdi zq4 ?_ | refine rdi zq3 ?_ | refine rdi zq27 ?_ | refine rdi bneq ?_ | refine rdi beql ?_ | refine rdi zq29 ?_ | refine rdi zq30 ?_ | refine rdi zq21 ?_ | refine rdi zq22 ?_ | refine rdi zq23 ?_ | refine rdi zq24 ?_ | refine rdi zq25 ?_ | refine rdi zq26 ?_ | refine rdi len27 ?_ | refine rdi len35 ?_)
    refine rdi zq18 ?_
    rw [zp_ (by omega) (by omega), show (j : Int) + (ys.length : Int) = ((j + ys.length : Nat) : Int) from by omega]
    refine rdi (zid_ (by omega) (by omega)) ?_
    refine rdi (zid_ (by omega) (by omega)) ?_
    rw [Int.toNat_natCast, Int.toNat_natCast]
    have hXs : Ints w (sub X (j + 1) c 1) (xs.drop (j + 1)) := by
      have := hX.sub (l := j + 1) (c := c) (by omega) (by omega) xs.length
      rwa [List.take_of_length_le (by simp)] at this
    have hXl : (ints (xs.drop (j + 1))).length = n - (j + 1) := by rw [zyc_, List.length_drop, hn]
    have gr2 : Gr w w2 := gr_mod g1 g2 fun q hq => by
      have : g = q := Option.some.inj hq
      omega
    refine zie_ u27 sz3 (R2.gr (zhb_ w2)) (show j + ys.length + (tot - (j + ys.length)) ≤ c' by omega) ((hXs.newer g1 g2 hg).gr (zhb_ w2)).src hXl.symm (zud_ _) fun w3 g3 hs3 R3 => ?_
    rw [show Nat.min (n - (j + 1)) (tot - (j + ys.length)) = n - (j + 1) from Nat.min_eq_left (by omega), List.take_of_length_le (show (ints (xs.drop (j + 1))).length ≤ n - (j + 1) by omega), show j + ys.length + (n - (j + 1)) = tot from htot.symm] at R3
    have R4 := (R3.cutS (show tot ≤ c' by omega)).mono hB
    rw [Nat.mul_one, moved3 (all := all) (vs := ints ys) (src := ints (xs.drop (j + 1))) hal hylen hXl htot (by omega)] at R4
    have gr3 : Gr w w3 := gr_mod (ze_ gr2 (zhb_ w2)) g3 fun q hq => by
      have : g = q := Option.some.inj hq
      omega
    refine ans w3 _ c' _ (zxf_ gr3 _) R4 ?_ fun q hq => .inr ?_
    · have : all.take j = ints (xs.take j) := by
        have h2 := congrArg (List.take j) ha
        rw [List.take_take, Nat.min_eq_left (by omega), List.take_append_of_le_length (by rw [List.length_take, zyc_]; omega), Nat.mul_one, List.take_take, Nat.min_self, zhg_] at h2
        exact h2
      rw [this]
    · have : g = q := Option.some.inj hq
      omega
  rw [decide_eq_false (show ¬ (c : Int) < (tot : Int) from by omega)]
  repeat (first | refine rdi neq_self ?_ | refine rdi neqb_self ?_ | refine rdi eql_self ?_ | refine rdi eqlb_self ?_ | refine rdi zq1 ?_ | refine rdi zq2 ?_ | refine rdi zq13 ?_ | refine rdi zq14 ?_ | refine rdi zq16 ?_ | refine rdi zq15 ?_ | refine rdi zq17 ?_ | refine rdi zq4 ?_ | refine rdi zq3 ?_ | refine rdi zq27 ?_ | refine rdi bneq ?_ | refine rdi beql ?_ | refine rdi zq29 ?_ | refine rdi zq30 ?_ | refine rdi zq21 ?_ | refine rdi zq22 ?_ | refine rdi zq23 ?_ | refine rdi zq24 ?_ | refine rdi zq25 ?_ | refine rdi zq26 ?_ | refine rdi len27 ?_ | refine rdi len35 ?_)
  obtain ⟨gX, all, rfl, Rf, ha, hle, hal⟩ := o.room (by omega)
  obtain ⟨r1, r2⟩ := room_ints ha hn hj
  refine rdi (slh27 (by omega) (by omega)) ?_
  rw [zce_, Int.toNat_natCast]
  repeat (first | refine rdi neq_self ?_ | refine rdi neqb_self ?_ | refine rdi eql_self ?_ | refine rdi eqlb_self ?_ | refine rdi zq1 ?_ | refine rdi zq2 ?_ | refine rdi zq13 ?_ | refine rdi zq14 ?_ | refine rdi zq16 ?_ | refine rdi zq15 ?_ | refine rdi zq17 ?_ | refine rdi zq4 ?_ | refine rdi zq3 ?_ | refine rdi zq27 ?_ | refine rdi bneq ?_ | refine rdi beql ?_ | refine rdi zq29 ?_ | refine rdi zq30 ?_ | refine rdi zq21 ?_ | refine rdi zq22 ?_ | refine rdi zq23 ?_ | refine rdi zq24 ?_ | refine rdi zq25 ?_ | refine rdi zq26 ?_ | refine rdi len27 ?_ | refine rdi len35 ?_)
  refine rdi zq18 ?_
  rw [zp_ (by omega) (by omega), show (j : Int) + (ys.length : Int) = ((j + ys.length : Nat) : Int) from by omega]
  refine rdi zq24 ?_
  have hYo : ∀ {w' : World}, w.grownBy w' (some gX) → Ints w' Y ys := fun g => hY.other g fun h1 e => hne h1 e
  by_cases hm1 : ys.length ≤ 1
  · rw [decide_eq_true (show ((j + ys.length : Nat) : Int) ≤ ((j + 1 : Nat) : Int) from by omega)]
    repeat (first | refine rdi neq_self ?_ | refine rdi neqb_self ?_ | refine rdi eql_self ?_ | refine rdi eqlb_self ?_ | refine rdi zq1 ?_ | refine rdi zq2 ?_ | refine rdi zq13 ?_ | refine rdi zq14 ?_ | refine rdi zq16 ?_ | refine rdi zq15 ?_ | refine rdi zq17 ?_ | refine rdi zq4 ?_ | refine rdi zq3 ?_ | refine rdi zq27 ?_ | refine rdi bneq ?_ | refine rdi beql ?_ | refine rdi zq29 ?_ | refine rdi zq30 ?_ | refine rdi zq21 ?_ | refine rdi zq22 ?_ | refine rdi zq23 ?_ | refine rdi zq24 ?_ | refine rdi zq25 ?_ | refine rdi zq26 ?_ | refine rdi len27 ?_ | refine rdi len35 ?_)
    refine rdi (zid_ (by omega) (by omega)) ?_
    rw [Int.toNat_natCast]
    have Rf := Rf.gr (zhb_ w)
    have gd := zhb_ w
    refine zie_ u27 sz3 Rf (show j + (tot - j) ≤ c by omega) (hY.gr gd).src hylen.symm (zud_ ys) fun w2 g2 hs2 R2 => ?_
    rw [show Nat.min ys.length (tot - j) = ys.length from Nat.min_eq_left (by omega), List.take_of_length_le (show (ints ys).length ≤ ys.length by omega)] at R2
    repeat (first | refine rdi neq_self ?_ | refine rdi neqb_self ?_ | refine rdi eql_self ?_ | refine rdi eqlb_self ?_ | refine rdi zq1 ?_ | refine rdi zq2 ?_ | refine rdi zq13 ?_ | refine rdi zq14 ?_ | refine rdi zq16 ?_ | refine rdi zq15 ?_ | refine rdi zq17 ?_ | refine rdi zq4 ?_ | refine rdi zq3 ?_ | refine rdi zq27 ?_ | refine rdi bneq ?_ | refine rdi beql ?_ | refine rdi zq29 ?_ | refine rdi zq30 ?_ | refine rdi zq21 ?_ | refine rdi zq22 ?_ | refine rdi zq23 ?_ | refine rdi zq24 ?_ | refine rdi zq25 ?_ | refine rdi zq26 ?_ | refine rdi len27 ?_ | refine rdi len35 ?_)
    refine rdi zq18 ?_
    rw [zp_ (by omega) (by omega), show (j : Int) + (ys.length : Int) = ((j + ys.length : Nat) : Int) from by omega]
    refine rdi (zid_ (by omega) (by omega)) ?_
    refine rdi (zid_ (by omega) (by omega)) ?_
    rw [Int.toNat_natCast, Int.toNat_natCast]
    have R2d := R2.gr (zhb_ w2)
    have hS : SrcQ w2.drew (sub (some ⟨gX, 0, none⟩) (j + 1) c 1) (((all.take j ++ ints ys ++ all.drop (j + ys.length)).drop (j + 1)).take (n - (j + 1))) := by
      have := (Row.src R2d).sub (l := j + 1) (c := c) (sz := 1) (by rw [R2d.1]; omega) (by rw [R2d.1]; omega) (n - (j + 1))
      rwa [Nat.mul_one] at this
    have hSl : (((all.take j ++ ints ys ++ all.drop (j + ys.length)).drop (j + 1)).take (n - (j + 1))).length = n - (j + 1) := by
      have := R2d.1
      rw [List.length_take, List.length_drop]
      omega
    refine zie_ u27 sz3 R2d (show j + ys.length + (tot - (j + ys.length)) ≤ c by omega) hS hSl.symm (fun v hv => ?_) fun w3 g3 hs3 R3 => ?_
    · rw [moved0 (all := all) (vs := ints ys) hal hylen hm1 hj hle, r2] at hv
      exact zud_ _ v hv
    rw [show Nat.min (n - (j + 1)) (tot - (j + ys.length)) = n - (j + 1) from Nat.min_eq_left (by omega), List.take_of_length_le (Nat.le_of_eq hSl), show j + ys.length + (n - (j + 1)) = tot from htot.symm] at R3
    refine rdi (zid_ (by omega) (by omega)) ?_
    rw [Int.toNat_natCast]
    refine zdh_ u27 inf3 rfl (by decide) (by simp [Value.cells, Value.oneCell']) (R3.cutS hle) (by omega) fun w4 g4 hs4 R4 => ?_
    rw [Nat.mul_one, Nat.mul_one, List.take_take, Nat.min_eq_left (by omega), moved2 (all := all) (vs := ints ys) hal hylen hm1 hj htot hle, r1, r2] at R4
    refine ans w4 _ c _ ?_ R4 rfl fun q hq => .inl hq
    exact (((grX (zbe_ gd _)).trans (grX g2)).trans (grX (zbe_ (zhb_ w2) _))).trans ((grX g3).trans (grX g4))
  rw [decide_eq_false (show ¬ ((j + ys.length : Nat) : Int) ≤ ((j + 1 : Nat) : Int) from by omega)]
  repeat (first | refine rdi neq_self ?_ | refine rdi neqb_self ?_ | refine rdi eql_self ?_ | refine rdi eqlb_self ?_ | refine rdi zq1 ?_ | refine rdi zq2 ?_ | refine rdi zq13 ?_ | refine rdi zq14 ?_ | refine rdi zq16 ?_ | refine rdi zq15 ?_ | refine rdi zq17 ?_ | refine rdi zq4 ?_ | refine rdi zq3 ?_ | refine rdi zq27 ?_ | refine rdi bneq ?_ | refine rdi beql ?_ | refine rdi zq29 ?_ | refine rdi zq30 ?_ | refine rdi zq21 ?_ | refine rdi zq22 ?_ | refine rdi zq23 ?_ | refine rdi zq24 ?_ | refine rdi zq25 ?_ | refine rdi zq26 ?_ | refine rdi len27 ?_ | refine rdi len35 ?_)
  refine rdi zq18 ?_
  rw [zp_ (by omega) (by omega), show (j : Int) + (ys.length : Int) = ((j + ys.length : Nat) : Int) from by omega]
  refine rdi (zid_ (by omega) (by omega)) ?_
  rw [Int.toNat_natCast]
  have gd := zhb_ w
  have Rd1 := Rf.gr gd
  have hys0 : ys ≠ [] := fun e => hm1 (by rw [e]; simp)
  obtain ⟨cur, hcur⟩ : ∃ cur, w.drew.heap[gX]? = some (.cells cur 3 (0, 0)) := by
    rcases Rd1.2 with ⟨h2, _⟩ | ⟨g, cap, cur, e1, e2, e3, _⟩
    · simp at h2
    · simp only [Value.slice.injEq, Option.some.injEq, Addr.mk.injEq] at e1
      obtain ⟨⟨rfl, _⟩, _⟩ := e1
      exact ⟨cur, e3⟩
  have hsubX : sub (some (⟨gX, 0, none⟩ : Addr)) (j + ys.length) c 1 = some ⟨gX, (if c = j + ys.length then 0 else j + ys.length), none⟩ := by
    unfold sub
    split
    · rfl
    · rw [Option.map_some, zq34, Nat.zero_add, Nat.mul_one]
  rw [hsubX]
  refine overlaps_of Try.func120 (by kernel_rfl) (by kernel_rfl) (by kernel_rfl) (tR := 4) (t := 27) (e := 3) (by kernel_rfl) u27 sz3 hcur (hY.gr gd).src (by intro e; rw [← List.length_eq_zero_iff, hylen] at e; omega) (fun e => ?_) ?_
  · have hp := hY.ptr (List.length_pos_iff.2 hys0)
    refine hne hys0 ?_
    show some gX = _
    rw [← e, hp]
    rfl
  repeat (first | refine rdi neq_self ?_ | refine rdi neqb_self ?_ | refine rdi eql_self ?_ | refine rdi eqlb_self ?_ | refine rdi zq1 ?_ | refine rdi zq2 ?_ | refine rdi zq13 ?_ | refine rdi zq14 ?_ | refine rdi zq16 ?_ | refine rdi zq15 ?_ | refine rdi zq17 ?_ | refine rdi zq4 ?_ | refine rdi zq3 ?_ | refine rdi zq27 ?_ | refine rdi bneq ?_ | refine rdi beql ?_ | refine rdi zq29 ?_ | refine rdi zq30 ?_ | refine rdi zq21 ?_ | refine rdi zq22 ?_ | refine rdi zq23 ?_ | refine rdi zq24 ?_ | refine rdi zq25 ?_ | refine rdi zq26 ?_ | refine rdi len27 ?_ | refine rdi len35 ?_)
  refine rdi zq18 ?_
  rw [zp_ (by omega) (by omega), show (j : Int) + (ys.length : Int) = ((j + ys.length : Nat) : Int) from by omega]
  refine rdi (zid_ (by omega) (by omega)) ?_
  refine rdi (zid_ (by omega) (by omega)) ?_
  rw [Int.toNat_natCast, Int.toNat_natCast]
  have gd2 := zhb_ w.drew
  have Rd2 := Rd1.gr gd2
  have hS : SrcQ w.drew.drew (sub (some ⟨gX, 0, none⟩) (j + 1) c 1) ((all.drop (j + 1)).take (n - (j + 1))) := by
    have := (Row.src Rd2).sub (l := j + 1) (c := c) (sz := 1) (by omega) (by omega) (n - (j + 1))
    rwa [Nat.mul_one] at this
  have hSl : ((all.drop (j + 1)).take (n - (j + 1))).length = n - (j + 1) := by
    rw [List.length_take, List.length_drop]
    omega
  refine zie_ u27 sz3 Rd2 (show j + ys.length + (tot - (j + ys.length)) ≤ c by omega) hS hSl.symm (fun v hv => ?_) fun w2 g2 hs2 R2 => ?_
  · rw [r2] at hv
    exact zud_ _ v hv
  rw [show Nat.min (n - (j + 1)) (tot - (j + ys.length)) = n - (j + 1) from Nat.min_eq_left (by omega), List.take_of_length_le (Nat.le_of_eq hSl), show j + ys.length + (n - (j + 1)) = tot from htot.symm] at R2
  refine rdi (zid_ (by omega) (by omega)) ?_
  rw [Int.toNat_natCast]
  have hY2 : Ints w2 Y ys := ((hY.gr gd).gr gd2).other g2 fun h1 e => hne h1 e
  refine zie_ u27 sz3 R2 (show j + (tot - j) ≤ c by omega) hY2.src hylen.symm (zud_ ys) fun w3 g3 hs3 R3 => ?_
  rw [show Nat.min ys.length (tot - j) = ys.length from Nat.min_eq_left (by omega), List.take_of_length_le (show (ints ys).length ≤ ys.length by omega)] at R3
  have R4 := R3.cutS (show tot ≤ c by omega)
  rw [Nat.mul_one, moved1 (all := all) (vs := ints ys) hal hylen hj htot (by omega) hle, r1, r2] at R4
  refine ans w3 _ c _ ?_ R4 rfl fun q hq => .inl hq
  exact (((grX (zbe_ gd _)).trans (grX (zbe_ gd2 _))).trans (grX g2)).trans (grX g3)
end
end Go.Proofs.Yteabbgaffgpegaa

namespace Go.Sh
open Go Go.Proofs.Yteabbgaffgpegaa
inductive Tr (rs : List RuleL) : Nat ⊕ List Int → List Int → List Int → Prop
  | tree {A q : Nat} {r u : List Int} : q < rs.length → (rul rs q).1 = (A : Int) → Tr rs (.inr (rul rs q).2) r u → Tr rs (.inl A) ((q : Int) :: r) u
  | nil : Tr rs (.inr []) [] []
  | tok {x : Int} {xs r u : List Int} : x < 0 → Tr rs (.inr xs) r u → Tr rs (.inr (x :: xs)) r ((-1 - x) :: u)
  | non {x : Int} {xs a b u v : List Int} : ¬ x < 0 → Tr rs (.inl x.toNat) a u → Tr rs (.inr xs) b v → Tr rs (.inr (x :: xs)) (a ++ b) (u ++ v)
section
variable {rs : List RuleL} {tree : List Int}
theorem tr_yi {c : Nat ⊕ List Int} {t u : List Int} (h : Tr rs c t u) : Yi rs c u := by
  induction h with
  | tree h1 h2 _ ih => exact .rule (by rw [zcd_ h1]; exact List.getElem_mem h1) h2 ih
  | nil => exact .nil
  | tok hx _ ih => exact .tok hx ih
  | non hx _ _ ih1 ih2 => exact .non hx ih1 ih2
theorem tr_read {c : Nat ⊕ List Int} {t u : List Int} (h : Tr rs c t u) : ∀ (pre post w : List Int) (f : Nat), tree = pre ++ t ++ post → t.length ≤ f →
    match c with
    | .inl A => ∃ p, zmb_ rs tree f (A : Int) pre.length w = some (p, w ++ u) ∧ p.fin = pre.length + t.length
    | .inr xs => ∀ ks, ∃ ks', zxb_ (zmb_ rs tree f) xs pre.length w ks = some (ks', pre.length + t.length, w ++ u) := by
  induction h with
  | @tree A q r u h1 h2 _ ih =>
    intro pre post w f he hf
    rw [List.length_cons] at hf
    obtain ⟨f, rfl⟩ : ∃ f', f = f' + 1 := ⟨f - 1, by omega⟩
    have hget : tree.getD pre.length 0 = (q : Int) := by
      rw [he, List.getD_eq_getElem?_getD, List.append_assoc, List.getElem?_append_right (Nat.le_refl _)]
      simp
    have hlen : pre.length < tree.length := by rw [he]; simp
    have hok : okT rs tree (A : Int) pre.length = true := by
      unfold okT
      rw [hget, Int.toNat_natCast]
      simp only [Bool.and_eq_true, decide_eq_true_eq]
      exact ⟨⟨hlen, by omega, by omega⟩, h2⟩
    have hr : rgtT rs tree pre.length = (rul rs q).2 := by unfold rgtT; rw [hget, Int.toNat_natCast]
    have he2 : tree = (pre ++ [(q : Int)]) ++ r ++ post := by rw [he]; simp
    obtain ⟨ks', hk⟩ := ih (pre ++ [(q : Int)]) post w f he2 (by omega) []
    rw [List.length_append, List.length_singleton] at hk
    dsimp only
    rw [zmb_, if_pos hok, hr, hk]
    exact ⟨_, rfl, by simp [PT.fin]; omega⟩
  | nil =>
    intro pre post w f he hf ks
    exact ⟨ks, by simp [zxb_]⟩
  | @tok x xs r u hx _ ih =>
    intro pre post w f he hf ks
    obtain ⟨ks', hk⟩ := ih pre post (w ++ [-1 - x]) f he hf ks
    exact ⟨ks', by rw [zxb_, if_pos hx, hk]; simp⟩
  | @non x xs a b u v hx _ _ ih1 ih2 =>
    intro pre post w f he hf ks
    rw [List.length_append] at hf
    obtain ⟨p, hp, hfin⟩ := ih1 pre (b ++ post) w f (by rw [he]; simp) (by omega)
    obtain ⟨ks', hk⟩ := ih2 (pre ++ a) post (w ++ u) f (by rw [he]; simp) (by omega) (ks ++ [p])
    refine ⟨ks', ?_⟩
    rw [zxb_, if_neg hx]
    have e : ((x.toNat : Nat) : Int) = x := by omega
    rw [e] at hp
    rw [hp]
    dsimp only
    rw [hfin, ← List.length_append, hk]
    simp
    omega
structure Ctx (rs : List RuleL) (tree : List Int) (c : Nat ⊕ List Int) (a b : Nat) (w w' : List Int) (q : PT) : Prop where
  ex : ∃ (f : Nat) (w1 w2 x y z : List Int), zmb_ rs tree f q.non q.at_ w1 = some (q, w2) ∧ w1 = w ++ x ∧ w2 = w1 ++ y ∧ w' = w2 ++ z ∧ Tr rs (.inl q.non.toNat) (cut tree q.at_ q.fin) y ∧
    ∀ s' y', Tr rs (.inl q.non.toNat) s' y' → Tr rs c (cut tree a q.at_ ++ s' ++ cut tree q.fin b) (x ++ y' ++ z)
  non : 0 ≤ q.non
  lo : a ≤ q.at_
  mid : q.at_ ≤ q.fin
  hi : q.fin ≤ b
structure RD (rs : List RuleL) (tree : List Int) (c : Nat ⊕ List Int) (a b : Nat) (w w' : List Int) (qs : List PT) : Prop where
  le : a ≤ b
  hi : b ≤ tree.length
  tr : ∃ u, w' = w ++ u ∧ Tr rs c (cut tree a b) u
  ctx : ∀ q ∈ qs, Ctx rs tree c a b w w' q
theorem readR_ctx {f : Nat} (hrec : ∀ x a w p w', 0 ≤ x → zmb_ rs tree f x a w = some (p, w') → RD rs tree (.inl x.toNat) a p.fin w w' p.parts) :
    ∀ (xs : List Int) (e : Nat) (w : List Int) (ks : List PT) {ks' : List PT} {e' : Nat} {w' : List Int}, e ≤ tree.length → zxb_ (zmb_ rs tree f) xs e w ks = some (ks', e', w') → ∃ new, ks' = ks ++ new ∧ RD rs tree (.inr xs) e e' w w' (PT.partsL new) := by
  intro xs
  induction xs with
  | nil =>
    intro e w ks ks' e' w' he h
    rw [zxb_] at h
    obtain ⟨rfl, rfl, rfl⟩ : ks = ks' ∧ e = e' ∧ w = w' := by simpa using h
    exact ⟨[], by simp, Nat.le_refl _, he, ⟨[], by simp, by rw [zxh_]; exact .nil⟩, fun q hq => by simp [PT.partsL] at hq⟩
  | cons x xs ih =>
    intro e w ks ks' e' w' he h
    rw [zxb_] at h
    by_cases hx : x < 0
    · rw [if_pos hx] at h
      obtain ⟨new, e1, R⟩ := ih e _ ks he h
      obtain ⟨u, eu, hu⟩ := R.tr
      refine ⟨new, e1, R.le, R.hi, ⟨_, by rw [eu, List.append_assoc, List.singleton_append], .tok hx hu⟩, fun q hq => ?_⟩
      have C := R.ctx q hq
      obtain ⟨f1, w1, w2, x0, y, z, a1, a2, a3, a4, a5, a6⟩ := C.ex
      exact ⟨⟨f1, w1, w2, (-1 - x) :: x0, y, z, a1, by rw [a2, List.append_assoc, List.singleton_append], a3, a4, a5, fun s' y' ht => .tok hx (a6 s' y' ht)⟩, C.non, C.lo, C.mid, C.hi⟩
    · rw [if_neg hx] at h
      cases hr : zmb_ rs tree f x e w with
      | none => rw [hr] at h; cases h
      | some z =>
        obtain ⟨k, w1⟩ := z
        rw [hr] at h
        dsimp only at h
        have K := hrec x e w k w1 (by omega) hr
        obtain ⟨new, e1, R⟩ := ih k.fin w1 (ks ++ [k]) K.hi h
        obtain ⟨u1, eu1, hu1⟩ := K.tr
        obtain ⟨u2, eu2, hu2⟩ := R.tr
        refine ⟨k :: new, by rw [e1]; simp, Nat.le_trans K.le R.le, R.hi, ⟨u1 ++ u2, by rw [eu2, eu1, List.append_assoc], ?_⟩, fun q hq => ?_⟩
        · rw [zpf_ K.le R.le R.hi]
          exact .non hx hu1 hu2
        · rw [PT.partsL, List.mem_append] at hq
          rcases hq with hq | hq
          · have C := K.ctx q hq
            obtain ⟨f1, v1, v2, x0, y, z, a1, a2, a3, a4, a5, a6⟩ := C.ex
            refine ⟨⟨f1, v1, v2, x0, y, z ++ u2, a1, a2, a3, by rw [eu2, a4, List.append_assoc], a5, fun s' y' ht => ?_⟩, C.non, C.lo, C.mid, Nat.le_trans C.hi R.le⟩
            have := Tr.non hx (a6 s' y' ht) hu2
            rw [zpf_ C.hi R.le R.hi]
            simpa [List.append_assoc] using this
          · have C := R.ctx q hq
            obtain ⟨f1, v1, v2, x0, y, z, a1, a2, a3, a4, a5, a6⟩ := C.ex
            refine ⟨⟨f1, v1, v2, u1 ++ x0, y, z, a1, by rw [a2, eu1, List.append_assoc], a3, a4, a5, fun s' y' ht => ?_⟩, C.non, Nat.le_trans K.le C.lo, C.mid, C.hi⟩
            have := Tr.non hx hu1 (a6 s' y' ht)
            rw [zpf_ K.le C.lo (Nat.le_trans (Nat.le_trans C.mid C.hi) R.hi)]
            simpa [List.append_assoc] using this
theorem readT_ctx : ∀ (f : Nat) (x : Int) (a : Nat) (w : List Int) (p : PT) (w' : List Int), 0 ≤ x → zmb_ rs tree f x a w = some (p, w') → RD rs tree (.inl x.toNat) a p.fin w w' p.parts := by
  intro f
  induction f with
  | zero => intro x a w p w' _ h; cases h
  | succ f ih =>
    intro x a w p w' hx h
    have h0 := h
    rw [zmb_] at h
    split at h
    · rename_i hok
      split at h
      · cases h
      · rename_i ks e w2 hr
        obtain ⟨rfl, rfl⟩ : _ = p ∧ w2 = w' := by simpa using h
        unfold okT at hok
        simp only [Bool.and_eq_true, decide_eq_true_eq] at hok
        obtain ⟨⟨o1, o2, o3⟩, o4⟩ := hok
        obtain ⟨new, e1, R⟩ := readR_ctx (fun x a w p w' hx h => ih x a w p w' hx h) _ _ _ _ o1 hr
        rw [List.nil_append] at e1
        subst e1
        obtain ⟨u, eu, hu⟩ := R.tr
        have hq : (tree.getD a 0).toNat < rs.length := by omega
        have eq : ((tree.getD a 0).toNat : Int) = tree.getD a 0 := by omega
        have hle : a < e := R.le
        have wrap : ∀ {r y : List Int}, Tr rs (.inr (rgtT rs tree a)) r y → Tr rs (.inl x.toNat) (tree.getD a 0 :: r) y := fun {r y} ht => by
          have := Tr.tree (A := x.toNat) hq (by rw [o4]; omega) ht
          rwa [eq] at this
        have whole : Tr rs (.inl x.toNat) (cut tree a e) u := by
          rw [zwi_ hle R.hi]
          exact wrap hu
        show RD rs tree (.inl x.toNat) a e w w2 (PT.parts (.mk x (tree.getD a 0).toNat a e w.length w2.length ks))
        refine ⟨by omega, R.hi, ⟨u, eu, whole⟩, fun q hq => ?_⟩
        rw [PT.parts, List.mem_cons] at hq
        rcases hq with rfl | hq
        · refine ⟨⟨f + 1, w, w2, [], u, [], h0, by simp, eu, by simp, whole, fun s' y' ht => ?_⟩, hx, Nat.le_refl _, Nat.le_of_lt hle, Nat.le_refl _⟩
          show Tr rs (.inl x.toNat) (cut tree a a ++ s' ++ cut tree e e) _
          rw [zxh_, zxh_]
          have ht' : Tr rs (.inl x.toNat) s' y' := ht
          simpa using ht'
        · have C := R.ctx q hq
          obtain ⟨f1, v1, v2, x0, y, z, a1, a2, a3, a4, a5, a6⟩ := C.ex
          have hlo := C.lo
          refine ⟨⟨f1, v1, v2, x0, y, z, a1, a2, a3, a4, a5, fun s' y' ht => ?_⟩, C.non, by omega, C.mid, C.hi⟩
          rw [zwi_ (by omega) (Nat.le_trans (Nat.le_trans C.mid C.hi) R.hi)]
          have := wrap (a6 s' y' ht)
          simpa using this
    · cases h
end
theorem zdi_ {gm : Gram} {tree ws : List Int} (hg : zy_ gm = true) (hl : tree.length ≤ 60) (h : Tr gm.rules (.inl 0) tree ws) : ∃ p, Whole gm tree p ws := by
  obtain ⟨p, hp, hf⟩ := tr_read (tree := tree) h [] [] [] tree.length (by simp) (Nat.le_refl _)
  exact ⟨p, hg, hl, by simpa using hp, by simpa using hf⟩
end Go.Sh

namespace Go.Proofs.Yteabbgaffgpegaa
open Go Go.Sh

end Go.Proofs.Yteabbgaffgpegaa

namespace Go.Sh
open Go Go.Proofs.Yteabbgaffgpegaa
def treeU (gm : Gram) (tree : List Int) : Option (List Int) := if zkd_ gm tree = true then (zmb_ gm.rules tree tree.length 0 0 []).map fun z => z.2 else none
theorem treeU_iff {gm : Gram} {tree u : List Int} : treeU gm tree = some u ↔ zy_ gm = true ∧ tree.length ≤ 60 ∧ Tr gm.rules (.inl 0) tree u := by
  constructor
  · intro h
    unfold treeU at h
    split at h
    · rename_i ha
      obtain ⟨p, ws, hW⟩ := asked_whole.1 ha
      rw [hW.read] at h
      obtain rfl : ws = u := by simpa using h
      have D := readT_ctx (rs := gm.rules) (tree := tree) _ 0 0 [] p ws (by omega) hW.read
      obtain ⟨u, eu, hu⟩ := D.tr
      rw [List.nil_append] at eu
      subst eu
      rw [hW.fin, cut_all] at hu
      exact ⟨hW.good, hW.le, hu⟩
    · cases h
  · rintro ⟨hg, hl, ht⟩
    obtain ⟨p, hW⟩ := zdi_ hg hl ht
    unfold treeU
    have ha : zkd_ gm tree = true := by
      cases e : zkd_ gm tree with
      | true => rfl
      | false => exact absurd hW (asked_whole.2 e p u)
    rw [if_pos ha, hW.read]
    rfl
def zmd_ (gm : Gram) (ws tree : List Int) : Bool × Bool := if (zy_ gm && wordB gm.toks ws && decide (tree.length ≤ 60)) = true then (decide (treeU gm tree = some ws), true) else (false, false)
theorem isTreeV_of {gm : Gram} {ws tree : List Int} (hw : wordB gm.toks ws = true) (hg : zy_ gm = true) (hl : tree.length ≤ 60) (h : Tr gm.rules (.inl 0) tree ws) : zmd_ gm ws tree = (true, true) := by
  unfold zmd_
  rw [if_pos (by simp [hg, hw, hl]), treeU_iff.2 ⟨hg, hl, h⟩]
  simp
end Go.Sh
namespace Go.Proofs.Yteabbgaffgpegaa
open Go Go.Sh Go.RowKit
open Go Go.Sh

end Go.Proofs.Yteabbgaffgpegaa

namespace Go.Sh
open Go
end Go.Sh
namespace Go.Proofs.Yteabbgaffgpegaa
open Go Go.Sh Go.RowKit
section
variable {w0 w : World} {k : Value → World → Prop}
end
end Go.Proofs.Yteabbgaffgpegaa

namespace Go.Sh
open Go
end Go.Sh
namespace Go.Proofs.Yteabbgaffgpegaa
open Go Go.Sh Go.RowKit
section
variable {w : World} {k : Value → World → Prop}
end
section
variable {w : World} {k : Value → World → Prop} {Y : Option Addr} {cy : Nat} {gm : Gram}
end
end Go.Proofs.Yteabbgaffgpegaa

namespace Go.Sh
open Go
end Go.Sh
namespace Go.Proofs.Yteabbgaffgpegaa
open Go Go.Sh Go.RowKit
section
variable {w : World} {Y : Option Addr} {cy : Nat} {gm : Gram} {k : Value → World → Prop}
end
structure Dr (gm : Gram) : Prop where
  nons : 0 ≤ gm.nons ∧ gm.nons ≤ 1000
  toks : 0 ≤ gm.toks ∧ gm.toks ≤ 1000
theorem Dr.of {m : Nat} {gm : Gram} (h : Drawn m gm) : Dr gm := ⟨h.nons, h.toks⟩
theorem Dr.useful {gm : Gram} (h : Dr gm) : Dr (usefulV gm).1 := by
  unfold usefulV
  split
  · exact ⟨h.nons, h.toks⟩
  · exact ⟨by simp, by simp⟩
section
variable {w0 w : World} {E : List Thing} {bc N cap : Nat} {C : Option Addr} {bs : List Int} {k : Value → World → Prop}
end
section
variable {w : World} {C : Option Addr} {cap : Nat} {bs : List Int} {k : Value → World → Prop}
end
open Go Go.Sh

end Go.Proofs.Yteabbgaffgpegaa

namespace Go.Sh

end Go.Sh
namespace Go.Proofs.Yteabbgaffgpegaa
open Go Go.Sh Go.RowKit

end Go.Proofs.Yteabbgaffgpegaa

namespace Go.Sh
open Go
theorem good_rulesB {gm : Gram} (hg : zy_ gm = true) : ∀ r ∈ gm.rules, (0 ≤ r.1 ∧ r.1 < gm.nons) ∧ r.2.length ≤ 4 ∧ ∀ x ∈ r.2, -gm.toks ≤ x ∧ x < gm.nons := fun r hr => by
  obtain ⟨i, hi, rfl⟩ := List.getElem_of_mem hr
  have h1 := zue_ hg hi
  have h2 := zci_ hg hi
  rw [zcd_ hi] at h1 h2
  exact ⟨by omega, h2.1, fun x hx => by have := h2.2 x hx; omega⟩
theorem inL_yi {gm : Gram} {ws : List Int} (hg : zy_ gm = true) (hw : ws.length ≤ 10) : inL gm.rules ws = true ↔ Yi gm.rules (.inl 0) ws := by
  unfold inL
  rw [span_iff (good_lefts hg) (zpj_ hg) hw (Nat.le_refl _), der_yi (Nat.zero_le _) (Nat.le_refl _), cut_all]
theorem inLV_of {gm : Gram} {ws : List Int} (hg : zy_ gm = true) (hw : wordB gm.toks ws = true) : inLV gm ws = (inL gm.rules ws, true) := by
  unfold inLV wordG
  rw [hg, hw, if_pos (by rfl)]
end Go.Sh
namespace Go.Proofs.Yteabbgaffgpegaa
open Go Go.Sh Go.RowKit
section
variable {w : World} {L : List (World → Prop)} {k : Value → World → Prop} {Y X : Option Addr} {cy cx n : Nat} {gm : Gram} {ws : List Int}
end
end Go.Proofs.Yteabbgaffgpegaa

namespace Go.Sh
open Go
def outL (gm : Gram) (form : List Int) (a q : Nat) : List Int := form.take a ++ (rul gm.rules q).2 ++ form.drop (a + 1)
def zcc_ (gm : Gram) (form : List Int) (a rule : Int) : Bool := zy_ gm && formB gm form 40 && inB a 0 ((form.length : Int) - 1) && inB rule 0 ((gm.rules.length : Int) - 1) && decide ((rul gm.rules rule.toNat).1 = form.getD a.toNat 0)
def zvb_ (gm : Gram) (form : List Int) (a rule : Int) : List Int × Bool := if (zcc_ gm form a rule && decide ((outL gm form a.toNat rule.toNat).length ≤ 40)) = true then (outL gm form a.toNat rule.toNat, true) else ([], false)
def zib_ : List Int → Int
  | [] => -1
  | x :: xs => if 0 ≤ x then 0 else if zib_ xs < 0 then -1 else zib_ xs + 1
theorem zmh_ : ∀ {xs : List Int} {i : Nat}, i < xs.length → 0 ≤ xs.getD i 0 → (∀ j, j < i → xs.getD j 0 < 0) → zib_ xs = i
  | [], _, h, _, _ => by simp at h
  | x :: xs, 0, _, h0, _ => by
    unfold zib_
    rw [if_pos (by simpa using h0)]
    rfl
  | x :: xs, i + 1, h, h0, hn => by
    have hx := hn 0 (by omega)
    have := zmh_ (xs := xs) (i := i) (by simpa using h) (by simpa using h0) fun j hj => by have := hn (j + 1) (by omega); simpa using this
    unfold zib_
    rw [if_neg (by simp at hx; omega), this, if_neg (by omega)]
    rfl
theorem zph_ : ∀ {xs : List Int}, (∀ j, j < xs.length → xs.getD j 0 < 0) → zib_ xs = -1
  | [], _ => rfl
  | x :: xs, hn => by
    have hx := hn 0 (by simp)
    have := zph_ (xs := xs) fun j hj => by have := hn (j + 1) (by simpa using hj); simpa using this
    unfold zib_
    rw [if_neg (by simp at hx; omega), this]
    rfl
theorem zrh_ : ∀ {xs : List Int}, 0 ≤ zib_ xs → (zib_ xs).toNat < xs.length ∧ 0 ≤ xs.getD (zib_ xs).toNat 0 ∧ ∀ j, j < (zib_ xs).toNat → xs.getD j 0 < 0
  | [], h => by simp [zib_] at h
  | x :: xs, h => by
    unfold zib_ at h ⊢
    by_cases hx : 0 ≤ x
    · rw [if_pos hx]
      exact ⟨by simp, by simpa using hx, fun j hj => by simp at hj⟩
    · rw [if_neg hx] at h ⊢
      by_cases hf : zib_ xs < 0
      · rw [if_pos hf] at h
        omega
      · rw [if_neg hf]
        obtain ⟨h1, h2, h3⟩ := zrh_ (xs := xs) (by omega)
        have e : (zib_ xs + 1).toNat = (zib_ xs).toNat + 1 := by omega
        rw [e]
        refine ⟨by simpa using h1, by simpa using h2, fun j hj => ?_⟩
        cases j with
        | zero => simp; omega
        | succ j => have := h3 j (by omega); simpa using this
def rewL (gm : Gram) : List Int → List Int → List Int × Bool
  | form, [] => (form, true)
  | form, r :: rs => if (zvb_ gm form (zib_ form) r).2 = true then rewL gm (zvb_ gm form (zib_ form) r).1 rs else ([], false)
def rewV (gm : Gram) (rules : List Int) : List Int × Bool := if (zy_ gm && decide (rules.length ≤ 60)) = true then rewL gm [0] rules else ([], false)
section
variable {rs : List RuleL}
theorem tr_append {xs ys t s u v : List Int} (h : Tr rs (.inr xs) t u) (g : Tr rs (.inr ys) s v) : Tr rs (.inr (xs ++ ys)) (t ++ s) (u ++ v) := by
  induction xs generalizing t u with
  | nil =>
    cases h
    exact g
  | cons x xs ih =>
    cases h with
    | tok h1 h2 => exact .tok h1 (ih h2)
    | non h1 h2 h3 =>
      rw [List.append_assoc, List.append_assoc]
      exact .non h1 h2 (ih h3)
theorem tr_split {xs ys t u : List Int} (h : Tr rs (.inr (xs ++ ys)) t u) : ∃ t1 t2 u1 u2, t = t1 ++ t2 ∧ u = u1 ++ u2 ∧ Tr rs (.inr xs) t1 u1 ∧ Tr rs (.inr ys) t2 u2 := by
  induction xs generalizing t u with
  | nil => exact ⟨[], t, [], u, rfl, rfl, .nil, h⟩
  | cons x xs ih =>
    rw [List.cons_append] at h
    cases h with
    | tok h1 h2 =>
      obtain ⟨t1, t2, u1, u2, rfl, rfl, h3, h4⟩ := ih h2
      exact ⟨t1, t2, _, u2, rfl, rfl, .tok h1 h3, h4⟩
    | non h1 h2 h3 =>
      obtain ⟨t1, t2, u1, u2, rfl, rfl, h4, h5⟩ := ih h3
      exact ⟨_, t2, _, u2, (List.append_assoc ..).symm, (List.append_assoc ..).symm, .non h1 h2 h4, h5⟩
theorem tr_toks : ∀ {xs : List Int}, (∀ x ∈ xs, x < 0) → Tr rs (.inr xs) [] (xs.map fun x => -1 - x)
  | [], _ => .nil
  | x :: xs, h => .tok (h x (List.mem_cons_self ..)) (tr_toks fun y hy => h y (List.mem_cons_of_mem _ hy))
theorem zei_ : ∀ {xs t u : List Int}, (∀ x ∈ xs, x < 0) → Tr rs (.inr xs) t u → t = []
  | [], t, u, _, h => by cases h; rfl
  | x :: xs, t, u, h, g => by
    cases g with
    | tok h1 h2 => exact zei_ (fun y hy => h y (List.mem_cons_of_mem _ hy)) h2
    | non h1 h2 h3 => exact absurd (h x (List.mem_cons_self ..)) h1
end
theorem rew_tree {gm : Gram} : ∀ {rules form f : List Int}, rewL gm form rules = (f, true) → (∀ x ∈ f, x < 0) → Tr gm.rules (.inr form) rules (f.map fun x => -1 - x)
  | [], form, f, h, hf => by
    unfold rewL at h
    rw [(Prod.mk.inj h).1]
    exact tr_toks hf
  | r :: rules, form, f, h, hf => by
    unfold rewL at h
    split at h
    · rename_i h2
      have ih := rew_tree h hf
      unfold zvb_ at h2 ih
      split at h2
      · rename_i hc
        rw [if_pos hc] at ih
        simp only [zcc_, inB, Bool.and_eq_true, decide_eq_true_eq] at hc
        obtain ⟨⟨⟨⟨⟨hg, _⟩, ha⟩, hr⟩, hl⟩, _⟩ := hc
        obtain ⟨f1, f2, f3⟩ := zrh_ ha.1
        generalize ha' : (zib_ form).toNat = a at *
        obtain ⟨q, rfl⟩ : ∃ q : Nat, r = q := ⟨r.toNat, by omega⟩
        rw [Int.toNat_natCast] at ih hl
        dsimp only [outL] at ih
        obtain ⟨t1, t2, u1, u2, e1, e2, g1, g2⟩ := tr_split ih
        obtain ⟨t3, t4, u3, u4, e3, e4, g3, g4⟩ := tr_split g1
        have hpre : ∀ x ∈ form.take a, x < 0 := fun x hx => by
          obtain ⟨j, hj, rfl⟩ := List.getElem_of_mem hx
          have hj' : j < a := by
            rw [List.length_take] at hj
            omega
          have := f3 j hj'
          rw [List.getD_eq_getElem?_getD, List.getElem?_eq_getElem (by omega)] at this
          rw [List.getElem_take]
          exact this
        obtain rfl := zei_ hpre g3
        have hform : form = form.take a ++ (form.getD a 0 :: form.drop (a + 1)) := by
          conv => lhs; rw [← List.take_append_drop a form]
          rw [List.drop_eq_getElem_cons f1, List.getD_eq_getElem?_getD, List.getElem?_eq_getElem f1]
          rfl
        have hx : ¬ form.getD a 0 < 0 := by omega
        have hq : q < gm.rules.length := by omega
        have h1 := Tr.non hx (.tree hq (by rw [hl]; omega) g4) g2
        have h2 := tr_append g3 h1
        rw [← hform] at h2
        rw [e2, e4, e1, e3, List.append_assoc u3 u4 u2]
        exact h2
      · simp at h2
    · simp at h
theorem zyi_ {gm : Gram} (hg : zy_ gm = true) : ∀ {rules form f : List Int}, rewL gm form rules = (f, true) → (∀ x ∈ form, -gm.toks ≤ x) → ∀ x ∈ f, -gm.toks ≤ x
  | [], form, f, h, hf => by
    unfold rewL at h
    rw [← (Prod.mk.inj h).1]
    exact hf
  | r :: rules, form, f, h, hf => by
    unfold rewL at h
    split at h
    · rename_i h2
      refine zyi_ hg h ?_
      unfold zvb_ at h2 ⊢
      split at h2
      · rename_i hc
        rw [if_pos hc]
        simp only [zcc_, inB, Bool.and_eq_true, decide_eq_true_eq] at hc
        obtain ⟨⟨⟨⟨⟨_, _⟩, ha⟩, hr⟩, hl⟩, _⟩ := hc
        intro x hx
        dsimp only [outL] at hx
        rcases List.mem_append.1 hx with hx | hx
        · rcases List.mem_append.1 hx with hx | hx
          · exact hf x (List.mem_of_mem_take hx)
          · have hq : r.toNat < gm.rules.length := by omega
            exact ((good_rulesB hg _ (by rw [zcd_ hq]; exact List.getElem_mem hq)).2.2 x hx).1
        · exact hf x (List.mem_of_mem_drop hx)
      · simp at h2
    · simp at h
theorem rew_len {gm : Gram} : ∀ {rules form f : List Int}, rewL gm form rules = (f, true) → form.length ≤ 40 → f.length ≤ 40
  | [], form, f, h, hf => by
    unfold rewL at h
    rw [← (Prod.mk.inj h).1]
    exact hf
  | r :: rules, form, f, h, hf => by
    unfold rewL at h
    split at h
    · rename_i h2
      refine rew_len h ?_
      unfold zvb_ at h2 ⊢
      split at h2
      · rename_i hc
        rw [if_pos hc]
        simp only [Bool.and_eq_true, decide_eq_true_eq] at hc
        exact hc.2
      · simp at h2
    · simp at h
theorem rewV_word {gm : Gram} {rules f : List Int} (h : rewV gm rules = (f, true)) (hf : ∀ x ∈ f, x < 0) (hl : f.length ≤ 10) :
    zy_ gm = true ∧ wordB gm.toks (f.map fun x => -1 - x) = true ∧ zmd_ gm (f.map fun x => -1 - x) rules = (true, true) ∧ inLV gm (f.map fun x => -1 - x) = (true, true) := by
  unfold rewV at h
  split at h
  · rename_i hc
    simp only [Bool.and_eq_true, decide_eq_true_eq] at hc
    have ht := rew_tree h hf
    have hs := zyi_ hc.1 h (fun x hx => by rw [List.mem_singleton.1 hx]; have := zrd_ hc.1; omega)
    have htr : Tr gm.rules (.inl 0) rules (f.map fun x => -1 - x) := by
      clear hs
      generalize f.map (fun x => -1 - x) = u at ht ⊢
      cases ht with
      | tok h1 => omega
      | non h1 h2 h3 =>
        cases h3
        rw [List.append_nil, List.append_nil]
        exact h2
    have hw : wordB gm.toks (f.map fun x => -1 - x) = true := by
      simp only [wordB, allB, inB, Bool.and_eq_true, decide_eq_true_eq, List.all_eq_true]
      refine ⟨by simpa using hl, fun t ht => ?_⟩
      obtain ⟨x, hx, rfl⟩ := List.mem_map.1 ht
      have h1 := hf x hx
      have h2 := hs x hx
      omega
    refine ⟨hc.1, hw, isTreeV_of hw hc.1 hc.2 htr, ?_⟩
    rw [inLV_of hc.1 hw, Prod.mk.injEq]
    exact ⟨(inL_yi hc.1 (by simpa using hl)).2 (tr_yi htr), rfl⟩
  · simp at h
end Go.Sh

namespace Go.Proofs.Yteabbgaffgpegaa
open Go Go.Sh Go.RowKit
theorem zve_ (w : World) : Ints w none [] := Own.ints (show Own 3 w w.heap.size none 0 [] from Row.nil _ _ _ _)
theorem ints_old {w : World} {Y : Option Addr} {ys : List Int} (h : Ints w Y ys) {X : Option Addr} (hb : ∀ q, blk X = some q → w.heap.size ≤ q) : ys ≠ [] → blk X ≠ some (ad Y).block := fun hne e => by
  have := (IntsF.of_ints h).foot (List.length_pos_iff.2 hne)
  have := hb _ e
  omega
section
variable {w : World} {k : Value → World → Prop} {Y X : Option Addr} {cy cx : Nat} {gm : Gram} {xs : List Int} {a rule : Int}
attribute [local irreducible] Rd Do CallK zb_ zm_ Join zrb_ zu_ zd_ zcb_ sBin sUn zc_ zab_ zkb_ zf_ za_ zbb_
set_option maxHeartbeats 12800000 in
theorem zbg_ (hG : kG Y cy gm.rules w) (hX : kI X xs cx w) (hxl : xs.length ≤ 1000000) (hk : ∀ w' U d, Gr w w' → kI U (zvb_ gm xs a rule).1 d w' → k (.tuple #[.slice U (zvb_ gm xs a rule).1.length d, .bool (zvb_ gm xs a rule).2]) w') :
    CallK Try.prog 20 [grv gm Y cy, .slice X xs.length cx, .int .i64 a, .int .i64 rule] k w := by
  refine enter20 ?_
  unfold S20
  have H := ((Kn.nil w).addG hG.1 hG.2).addI hX.1 hX.2
  refine zfc_ fun b1 w1 g1 hb B1 => ?_
  have H := ((H.step g1).addB B1).drew
  have H := H.add (P := fun w' => Gr w1.drew w') fun w' g => g
  simp only [List.cons_append, List.nil_append] at H
  have B1 := H.get 3 rfl
  refine ⟨fun w' => Gr w1.drew w', Gr.refl _, ?_⟩
  refine rdi (rdS26 rfl fun w' h => B1.gr h) ?_
  refine zhf_ (gvK (H.get 1 rfl)) fun w2 g => ?_
  have H := H.step g
  refine ⟨H.get 4 rfl, ?_⟩
  have no : ∀ w', Gr w w' → zcc_ gm xs a rule = false → k (.tuple #[.slice none 0 0, .bool false]) w' := fun w' g h => by
    have := hk w' none 0 g
    unfold zvb_ at this
    rw [h, Bool.false_and, if_neg Bool.false_ne_true] at this
    exact this ⟨zve_ _, Nat.le_refl _⟩
  have hRF := hG.2
  cases hg : zy_ gm
  · repeat (first | refine rdi neq_self ?_ | refine rdi neqb_self ?_ | refine rdi eql_self ?_ | refine rdi eqlb_self ?_ | refine rdi zq1 ?_ | refine rdi zq2 ?_ | refine rdi zq13 ?_ | refine rdi zq14 ?_ | refine rdi zq16 ?_ | refine rdi zq15 ?_ | refine rdi zq17 ?_ | refine rdi zq4 ?_ | refine rdi zq3 ?_ | refine rdi zq27 ?_ | refine rdi bneq ?_ | refine rdi beql ?_ | refine rdi zq29 ?_ | refine rdi zq30 ?_ | refine rdi zq21 ?_ | refine rdi zq22 ?_ | refine rdi zq23 ?_ | refine rdi zq24 ?_ | refine rdi zq25 ?_ | refine rdi zq26 ?_ | refine rdi len27 ?_ | refine rdi len35 ?_)
    repeat (refine ⟨H.get 4 rfl, ?_⟩; repeat (first | refine rdi neq_self ?_ | refine rdi neqb_self ?_ | refine rdi eql_self ?_ | refine rdi eqlb_self ?_ | refine rdi zq1 ?_ | refine rdi zq2 ?_ | refine rdi zq13 ?_ | refine rdi zq14 ?_ | refine rdi zq16 ?_ | refine rdi zq15 ?_ | refine rdi zq17 ?_ | refine rdi zq4 ?_ | refine rdi zq3 ?_ | refine rdi zq27 ?_ | refine rdi bneq ?_ | refine rdi beql ?_ | refine rdi zq29 ?_ | refine rdi zq30 ?_ | refine rdi zq21 ?_ | refine rdi zq22 ?_ | refine rdi zq23 ?_ | refine rdi zq24 ?_ | refine rdi zq25 ?_ | refine rdi zq26 ?_ | refine rdi len27 ?_ | refine rdi len35 ?_))
    exact no _ (H.get 0 rfl) (by unfold zcc_; rw [hg]; rfl)
  have hn := zde_ hg
  have ht := zrd_ hg
  have hgl := zdf_ hg
  repeat (first | refine rdi neq_self ?_ | refine rdi neqb_self ?_ | refine rdi eql_self ?_ | refine rdi eqlb_self ?_ | refine rdi zq1 ?_ | refine rdi zq2 ?_ | refine rdi zq13 ?_ | refine rdi zq14 ?_ | refine rdi zq16 ?_ | refine rdi zq15 ?_ | refine rdi zq17 ?_ | refine rdi zq4 ?_ | refine rdi zq3 ?_ | refine rdi zq27 ?_ | refine rdi bneq ?_ | refine rdi beql ?_ | refine rdi zq29 ?_ | refine rdi zq30 ?_ | refine rdi zq21 ?_ | refine rdi zq22 ?_ | refine rdi zq23 ?_ | refine rdi zq24 ?_ | refine rdi zq25 ?_ | refine rdi zq26 ?_ | refine rdi len27 ?_ | refine rdi len35 ?_)
  by_cases hl : (40 : Int) < xs.length
  · rw [decide_eq_true hl]
    repeat (first | refine rdi neq_self ?_ | refine rdi neqb_self ?_ | refine rdi eql_self ?_ | refine rdi eqlb_self ?_ | refine rdi zq1 ?_ | refine rdi zq2 ?_ | refine rdi zq13 ?_ | refine rdi zq14 ?_ | refine rdi zq16 ?_ | refine rdi zq15 ?_ | refine rdi zq17 ?_ | refine rdi zq4 ?_ | refine rdi zq3 ?_ | refine rdi zq27 ?_ | refine rdi bneq ?_ | refine rdi beql ?_ | refine rdi zq29 ?_ | refine rdi zq30 ?_ | refine rdi zq21 ?_ | refine rdi zq22 ?_ | refine rdi zq23 ?_ | refine rdi zq24 ?_ | refine rdi zq25 ?_ | refine rdi zq26 ?_ | refine rdi len27 ?_ | refine rdi len35 ?_)
    repeat (refine ⟨H.get 4 rfl, ?_⟩; repeat (first | refine rdi neq_self ?_ | refine rdi neqb_self ?_ | refine rdi eql_self ?_ | refine rdi eqlb_self ?_ | refine rdi zq1 ?_ | refine rdi zq2 ?_ | refine rdi zq13 ?_ | refine rdi zq14 ?_ | refine rdi zq16 ?_ | refine rdi zq15 ?_ | refine rdi zq17 ?_ | refine rdi zq4 ?_ | refine rdi zq3 ?_ | refine rdi zq27 ?_ | refine rdi bneq ?_ | refine rdi beql ?_ | refine rdi zq29 ?_ | refine rdi zq30 ?_ | refine rdi zq21 ?_ | refine rdi zq22 ?_ | refine rdi zq23 ?_ | refine rdi zq24 ?_ | refine rdi zq25 ?_ | refine rdi zq26 ?_ | refine rdi len27 ?_ | refine rdi len35 ?_))
    exact no _ (H.get 0 rfl) (by unfold zcc_ formB; rw [decide_eq_false (by omega), Bool.false_and, Bool.and_false]; rfl)
  rw [decide_eq_false hl]
  repeat (first | refine rdi neq_self ?_ | refine rdi neqb_self ?_ | refine rdi eql_self ?_ | refine rdi eqlb_self ?_ | refine rdi zq1 ?_ | refine rdi zq2 ?_ | refine rdi zq13 ?_ | refine rdi zq14 ?_ | refine rdi zq16 ?_ | refine rdi zq15 ?_ | refine rdi zq17 ?_ | refine rdi zq4 ?_ | refine rdi zq3 ?_ | refine rdi zq27 ?_ | refine rdi bneq ?_ | refine rdi beql ?_ | refine rdi zq29 ?_ | refine rdi zq30 ?_ | refine rdi zq21 ?_ | refine rdi zq22 ?_ | refine rdi zq23 ?_ | refine rdi zq24 ?_ | refine rdi zq25 ?_ | refine rdi zq26 ?_ | refine rdi len27 ?_ | refine rdi len35 ?_)
  refine rdi fa26_0 ?_
  repeat (first | refine rdi neq_self ?_ | refine rdi neqb_self ?_ | refine rdi eql_self ?_ | refine rdi eqlb_self ?_ | refine rdi zq1 ?_ | refine rdi zq2 ?_ | refine rdi zq13 ?_ | refine rdi zq14 ?_ | refine rdi zq16 ?_ | refine rdi zq15 ?_ | refine rdi zq17 ?_ | refine rdi zq4 ?_ | refine rdi zq3 ?_ | refine rdi zq27 ?_ | refine rdi bneq ?_ | refine rdi beql ?_ | refine rdi zq29 ?_ | refine rdi zq30 ?_ | refine rdi zq21 ?_ | refine rdi zq22 ?_ | refine rdi zq23 ?_ | refine rdi zq24 ?_ | refine rdi zq25 ?_ | refine rdi zq26 ?_ | refine rdi len27 ?_ | refine rdi len35 ?_)
  refine rdi (ldS3 fun w' h => ((B1.gr h).cell _).trans rfl) ?_
  repeat (first | refine rdi neq_self ?_ | refine rdi neqb_self ?_ | refine rdi eql_self ?_ | refine rdi eqlb_self ?_ | refine rdi zq1 ?_ | refine rdi zq2 ?_ | refine rdi zq13 ?_ | refine rdi zq14 ?_ | refine rdi zq16 ?_ | refine rdi zq15 ?_ | refine rdi zq17 ?_ | refine rdi zq4 ?_ | refine rdi zq3 ?_ | refine rdi zq27 ?_ | refine rdi bneq ?_ | refine rdi beql ?_ | refine rdi zq29 ?_ | refine rdi zq30 ?_ | refine rdi zq21 ?_ | refine rdi zq22 ?_ | refine rdi zq23 ?_ | refine rdi zq24 ?_ | refine rdi zq25 ?_ | refine rdi zq26 ?_ | refine rdi len27 ?_ | refine rdi len35 ?_)
  refine rdi fa26_1 ?_
  repeat (first | refine rdi neq_self ?_ | refine rdi neqb_self ?_ | refine rdi eql_self ?_ | refine rdi eqlb_self ?_ | refine rdi zq1 ?_ | refine rdi zq2 ?_ | refine rdi zq13 ?_ | refine rdi zq14 ?_ | refine rdi zq16 ?_ | refine rdi zq15 ?_ | refine rdi zq17 ?_ | refine rdi zq4 ?_ | refine rdi zq3 ?_ | refine rdi zq27 ?_ | refine rdi bneq ?_ | refine rdi beql ?_ | refine rdi zq29 ?_ | refine rdi zq30 ?_ | refine rdi zq21 ?_ | refine rdi zq22 ?_ | refine rdi zq23 ?_ | refine rdi zq24 ?_ | refine rdi zq25 ?_ | refine rdi zq26 ?_ | refine rdi len27 ?_ | refine rdi len35 ?_)
  refine rdi (ldS3 fun w' h => ((B1.gr h).cell _).trans rfl) ?_
  repeat (first | refine rdi neq_self ?_ | refine rdi neqb_self ?_ | refine rdi eql_self ?_ | refine rdi eqlb_self ?_ | refine rdi zq1 ?_ | refine rdi zq2 ?_ | refine rdi zq13 ?_ | refine rdi zq14 ?_ | refine rdi zq16 ?_ | refine rdi zq15 ?_ | refine rdi zq17 ?_ | refine rdi zq4 ?_ | refine rdi zq3 ?_ | refine rdi zq27 ?_ | refine rdi bneq ?_ | refine rdi beql ?_ | refine rdi zq29 ?_ | refine rdi zq30 ?_ | refine rdi zq21 ?_ | refine rdi zq22 ?_ | refine rdi zq23 ?_ | refine rdi zq24 ?_ | refine rdi zq25 ?_ | refine rdi zq26 ?_ | refine rdi len27 ?_ | refine rdi len35 ?_)
  refine zih_ (H.get 2 rfl).1 (by simp [inB]; omega) (by simp [inB]; omega) fun w3 g => ?_
  have H := H.step g
  refine ⟨H.get 4 rfl, ?_⟩
  have ef : formB gm xs 40 = xs.all (symB gm.nons gm.toks) := by
    rw [show formB gm xs 40 = (decide ((xs.length : Int) ≤ 40) && xs.all (symB gm.nons gm.toks)) from rfl, decide_eq_true (by omega), Bool.true_and]
  cases hs : xs.all (symB gm.nons gm.toks)
  · repeat (first | refine rdi neq_self ?_ | refine rdi neqb_self ?_ | refine rdi eql_self ?_ | refine rdi eqlb_self ?_ | refine rdi zq1 ?_ | refine rdi zq2 ?_ | refine rdi zq13 ?_ | refine rdi zq14 ?_ | refine rdi zq16 ?_ | refine rdi zq15 ?_ | refine rdi zq17 ?_ | refine rdi zq4 ?_ | refine rdi zq3 ?_ | refine rdi zq27 ?_ | refine rdi bneq ?_ | refine rdi beql ?_ | refine rdi zq29 ?_ | refine rdi zq30 ?_ | refine rdi zq21 ?_ | refine rdi zq22 ?_ | refine rdi zq23 ?_ | refine rdi zq24 ?_ | refine rdi zq25 ?_ | refine rdi zq26 ?_ | refine rdi len27 ?_ | refine rdi len35 ?_)
    repeat (refine ⟨H.get 4 rfl, ?_⟩; repeat (first | refine rdi neq_self ?_ | refine rdi neqb_self ?_ | refine rdi eql_self ?_ | refine rdi eqlb_self ?_ | refine rdi zq1 ?_ | refine rdi zq2 ?_ | refine rdi zq13 ?_ | refine rdi zq14 ?_ | refine rdi zq16 ?_ | refine rdi zq15 ?_ | refine rdi zq17 ?_ | refine rdi zq4 ?_ | refine rdi zq3 ?_ | refine rdi zq27 ?_ | refine rdi bneq ?_ | refine rdi beql ?_ | refine rdi zq29 ?_ | refine rdi zq30 ?_ | refine rdi zq21 ?_ | refine rdi zq22 ?_ | refine rdi zq23 ?_ | refine rdi zq24 ?_ | refine rdi zq25 ?_ | refine rdi zq26 ?_ | refine rdi len27 ?_ | refine rdi len35 ?_))
    exact no _ (H.get 0 rfl) (by unfold zcc_; rw [ef, hs, Bool.and_false]; rfl)
  repeat (first | refine rdi neq_self ?_ | refine rdi neqb_self ?_ | refine rdi eql_self ?_ | refine rdi eqlb_self ?_ | refine rdi zq1 ?_ | refine rdi zq2 ?_ | refine rdi zq13 ?_ | refine rdi zq14 ?_ | refine rdi zq16 ?_ | refine rdi zq15 ?_ | refine rdi zq17 ?_ | refine rdi zq4 ?_ | refine rdi zq3 ?_ | refine rdi zq27 ?_ | refine rdi bneq ?_ | refine rdi beql ?_ | refine rdi zq29 ?_ | refine rdi zq30 ?_ | refine rdi zq21 ?_ | refine rdi zq22 ?_ | refine rdi zq23 ?_ | refine rdi zq24 ?_ | refine rdi zq25 ?_ | refine rdi zq26 ?_ | refine rdi len27 ?_ | refine rdi len35 ?_)
  refine rdi zq19 ?_
  repeat (first | refine rdi neq_self ?_ | refine rdi neqb_self ?_ | refine rdi eql_self ?_ | refine rdi eqlb_self ?_ | refine rdi zq1 ?_ | refine rdi zq2 ?_ | refine rdi zq13 ?_ | refine rdi zq14 ?_ | refine rdi zq16 ?_ | refine rdi zq15 ?_ | refine rdi zq17 ?_ | refine rdi zq4 ?_ | refine rdi zq3 ?_ | refine rdi zq27 ?_ | refine rdi bneq ?_ | refine rdi beql ?_ | refine rdi zq29 ?_ | refine rdi zq30 ?_ | refine rdi zq21 ?_ | refine rdi zq22 ?_ | refine rdi zq23 ?_ | refine rdi zq24 ?_ | refine rdi zq25 ?_ | refine rdi zq26 ?_ | refine rdi len27 ?_ | refine rdi len35 ?_)
  rw [zp_ (by omega) (by omega)]
  refine in_c ?_
  refine ⟨H.get 4 rfl, ?_⟩
  cases ha : inB a 0 ((xs.length : Int) - 1)
  · repeat (first | refine rdi neq_self ?_ | refine rdi neqb_self ?_ | refine rdi eql_self ?_ | refine rdi eqlb_self ?_ | refine rdi zq1 ?_ | refine rdi zq2 ?_ | refine rdi zq13 ?_ | refine rdi zq14 ?_ | refine rdi zq16 ?_ | refine rdi zq15 ?_ | refine rdi zq17 ?_ | refine rdi zq4 ?_ | refine rdi zq3 ?_ | refine rdi zq27 ?_ | refine rdi bneq ?_ | refine rdi beql ?_ | refine rdi zq29 ?_ | refine rdi zq30 ?_ | refine rdi zq21 ?_ | refine rdi zq22 ?_ | refine rdi zq23 ?_ | refine rdi zq24 ?_ | refine rdi zq25 ?_ | refine rdi zq26 ?_ | refine rdi len27 ?_ | refine rdi len35 ?_)
    repeat (refine ⟨H.get 4 rfl, ?_⟩; repeat (first | refine rdi neq_self ?_ | refine rdi neqb_self ?_ | refine rdi eql_self ?_ | refine rdi eqlb_self ?_ | refine rdi zq1 ?_ | refine rdi zq2 ?_ | refine rdi zq13 ?_ | refine rdi zq14 ?_ | refine rdi zq16 ?_ | refine rdi zq15 ?_ | refine rdi zq17 ?_ | refine rdi zq4 ?_ | refine rdi zq3 ?_ | refine rdi zq27 ?_ | refine rdi bneq ?_ | refine rdi beql ?_ | refine rdi zq29 ?_ | refine rdi zq30 ?_ | refine rdi zq21 ?_ | refine rdi zq22 ?_ | refine rdi zq23 ?_ | refine rdi zq24 ?_ | refine rdi zq25 ?_ | refine rdi zq26 ?_ | refine rdi len27 ?_ | refine rdi len35 ?_))
    exact no _ (H.get 0 rfl) (by unfold zcc_; rw [ha, Bool.and_false]; rfl)
  repeat (first | refine rdi neq_self ?_ | refine rdi neqb_self ?_ | refine rdi eql_self ?_ | refine rdi eqlb_self ?_ | refine rdi zq1 ?_ | refine rdi zq2 ?_ | refine rdi zq13 ?_ | refine rdi zq14 ?_ | refine rdi zq16 ?_ | refine rdi zq15 ?_ | refine rdi zq17 ?_ | refine rdi zq4 ?_ | refine rdi zq3 ?_ | refine rdi zq27 ?_ | refine rdi bneq ?_ | refine rdi beql ?_ | refine rdi zq29 ?_ | refine rdi zq30 ?_ | refine rdi zq21 ?_ | refine rdi zq22 ?_ | refine rdi zq23 ?_ | refine rdi zq24 ?_ | refine rdi zq25 ?_ | refine rdi zq26 ?_ | refine rdi len27 ?_ | refine rdi len35 ?_)
  refine rdi fa26_2 ?_
  repeat (first | refine rdi neq_self ?_ | refine rdi neqb_self ?_ | refine rdi eql_self ?_ | refine rdi eqlb_self ?_ | refine rdi zq1 ?_ | refine rdi zq2 ?_ | refine rdi zq13 ?_ | refine rdi zq14 ?_ | refine rdi zq16 ?_ | refine rdi zq15 ?_ | refine rdi zq17 ?_ | refine rdi zq4 ?_ | refine rdi zq3 ?_ | refine rdi zq27 ?_ | refine rdi bneq ?_ | refine rdi beql ?_ | refine rdi zq29 ?_ | refine rdi zq30 ?_ | refine rdi zq21 ?_ | refine rdi zq22 ?_ | refine rdi zq23 ?_ | refine rdi zq24 ?_ | refine rdi zq25 ?_ | refine rdi zq26 ?_ | refine rdi len27 ?_ | refine rdi len35 ?_)
  refine rdi (ldS24 fun w' h => ((B1.gr h).cell _).trans rfl) ?_
  repeat (first | refine rdi neq_self ?_ | refine rdi neqb_self ?_ | refine rdi eql_self ?_ | refine rdi eqlb_self ?_ | refine rdi zq1 ?_ | refine rdi zq2 ?_ | refine rdi zq13 ?_ | refine rdi zq14 ?_ | refine rdi zq16 ?_ | refine rdi zq15 ?_ | refine rdi zq17 ?_ | refine rdi zq4 ?_ | refine rdi zq3 ?_ | refine rdi zq27 ?_ | refine rdi bneq ?_ | refine rdi beql ?_ | refine rdi zq29 ?_ | refine rdi zq30 ?_ | refine rdi zq21 ?_ | refine rdi zq22 ?_ | refine rdi zq23 ?_ | refine rdi zq24 ?_ | refine rdi zq25 ?_ | refine rdi zq26 ?_ | refine rdi len27 ?_ | refine rdi len35 ?_)
  refine rdi len24 ?_
  repeat (first | refine rdi neq_self ?_ | refine rdi neqb_self ?_ | refine rdi eql_self ?_ | refine rdi eqlb_self ?_ | refine rdi zq1 ?_ | refine rdi zq2 ?_ | refine rdi zq13 ?_ | refine rdi zq14 ?_ | refine rdi zq16 ?_ | refine rdi zq15 ?_ | refine rdi zq17 ?_ | refine rdi zq4 ?_ | refine rdi zq3 ?_ | refine rdi zq27 ?_ | refine rdi bneq ?_ | refine rdi beql ?_ | refine rdi zq29 ?_ | refine rdi zq30 ?_ | refine rdi zq21 ?_ | refine rdi zq22 ?_ | refine rdi zq23 ?_ | refine rdi zq24 ?_ | refine rdi zq25 ?_ | refine rdi zq26 ?_ | refine rdi len27 ?_ | refine rdi len35 ?_)
  refine rdi zq19 ?_
  repeat (first | refine rdi neq_self ?_ | refine rdi neqb_self ?_ | refine rdi eql_self ?_ | refine rdi eqlb_self ?_ | refine rdi zq1 ?_ | refine rdi zq2 ?_ | refine rdi zq13 ?_ | refine rdi zq14 ?_ | refine rdi zq16 ?_ | refine rdi zq15 ?_ | refine rdi zq17 ?_ | refine rdi zq4 ?_ | refine rdi zq3 ?_ | refine rdi zq27 ?_ | refine rdi bneq ?_ | refine rdi beql ?_ | refine rdi zq29 ?_ | refine rdi zq30 ?_ | refine rdi zq21 ?_ | refine rdi zq22 ?_ | refine rdi zq23 ?_ | refine rdi zq24 ?_ | refine rdi zq25 ?_ | refine rdi zq26 ?_ | refine rdi len27 ?_ | refine rdi len35 ?_)
  rw [zp_ (by omega) (by omega)]
  refine in_c ?_
  refine ⟨H.get 4 rfl, ?_⟩
  cases hr : inB rule 0 ((gm.rules.length : Int) - 1)
  · repeat (first | refine rdi neq_self ?_ | refine rdi neqb_self ?_ | refine rdi eql_self ?_ | refine rdi eqlb_self ?_ | refine rdi zq1 ?_ | refine rdi zq2 ?_ | refine rdi zq13 ?_ | refine rdi zq14 ?_ | refine rdi zq16 ?_ | refine rdi zq15 ?_ | refine rdi zq17 ?_ | refine rdi zq4 ?_ | refine rdi zq3 ?_ | refine rdi zq27 ?_ | refine rdi bneq ?_ | refine rdi beql ?_ | refine rdi zq29 ?_ | refine rdi zq30 ?_ | refine rdi zq21 ?_ | refine rdi zq22 ?_ | refine rdi zq23 ?_ | refine rdi zq24 ?_ | refine rdi zq25 ?_ | refine rdi zq26 ?_ | refine rdi len27 ?_ | refine rdi len35 ?_)
    repeat (refine ⟨H.get 4 rfl, ?_⟩; repeat (first | refine rdi neq_self ?_ | refine rdi neqb_self ?_ | refine rdi eql_self ?_ | refine rdi eqlb_self ?_ | refine rdi zq1 ?_ | refine rdi zq2 ?_ | refine rdi zq13 ?_ | refine rdi zq14 ?_ | refine rdi zq16 ?_ | refine rdi zq15 ?_ | refine rdi zq17 ?_ | refine rdi zq4 ?_ | refine rdi zq3 ?_ | refine rdi zq27 ?_ | refine rdi bneq ?_ | refine rdi beql ?_ | refine rdi zq29 ?_ | refine rdi zq30 ?_ | refine rdi zq21 ?_ | refine rdi zq22 ?_ | refine rdi zq23 ?_ | refine rdi zq24 ?_ | refine rdi zq25 ?_ | refine rdi zq26 ?_ | refine rdi len27 ?_ | refine rdi len35 ?_))
    exact no _ (H.get 0 rfl) (by unfold zcc_; rw [hr, Bool.and_false]; rfl)
  have ha' := ha
  have hr' := hr
  simp only [inB, Bool.and_eq_true, decide_eq_true_eq] at ha' hr'
  obtain ⟨j, rfl⟩ : ∃ j : Nat, a = j := ⟨a.toNat, by omega⟩
  obtain ⟨q, rfl⟩ : ∃ q : Nat, rule = q := ⟨rule.toNat, by omega⟩
  have hj : j < xs.length := by omega
  have hq : q < gm.rules.length := by omega
  repeat (first | refine rdi neq_self ?_ | refine rdi neqb_self ?_ | refine rdi eql_self ?_ | refine rdi eqlb_self ?_ | refine rdi zq1 ?_ | refine rdi zq2 ?_ | refine rdi zq13 ?_ | refine rdi zq14 ?_ | refine rdi zq16 ?_ | refine rdi zq15 ?_ | refine rdi zq17 ?_ | refine rdi zq4 ?_ | refine rdi zq3 ?_ | refine rdi zq27 ?_ | refine rdi bneq ?_ | refine rdi beql ?_ | refine rdi zq29 ?_ | refine rdi zq30 ?_ | refine rdi zq21 ?_ | refine rdi zq22 ?_ | refine rdi zq23 ?_ | refine rdi zq24 ?_ | refine rdi zq25 ?_ | refine rdi zq26 ?_ | refine rdi len27 ?_ | refine rdi len35 ?_)
  refine rdi fa26_2 ?_
  repeat (first | refine rdi neq_self ?_ | refine rdi neqb_self ?_ | refine rdi eql_self ?_ | refine rdi eqlb_self ?_ | refine rdi zq1 ?_ | refine rdi zq2 ?_ | refine rdi zq13 ?_ | refine rdi zq14 ?_ | refine rdi zq16 ?_ | refine rdi zq15 ?_ | refine rdi zq17 ?_ | refine rdi zq4 ?_ | refine rdi zq3 ?_ | refine rdi zq27 ?_ | refine rdi bneq ?_ | refine rdi beql ?_ | refine rdi zq29 ?_ | refine rdi zq30 ?_ | refine rdi zq21 ?_ | refine rdi zq22 ?_ | refine rdi zq23 ?_ | refine rdi zq24 ?_ | refine rdi zq25 ?_ | refine rdi zq26 ?_ | refine rdi len27 ?_ | refine rdi len35 ?_)
  refine rdi (ldS24 fun w' h => ((B1.gr h).cell _).trans rfl) ?_
  repeat (first | refine rdi neq_self ?_ | refine rdi neqb_self ?_ | refine rdi eql_self ?_ | refine rdi eqlb_self ?_ | refine rdi zq1 ?_ | refine rdi zq2 ?_ | refine rdi zq13 ?_ | refine rdi zq14 ?_ | refine rdi zq16 ?_ | refine rdi zq15 ?_ | refine rdi zq17 ?_ | refine rdi zq4 ?_ | refine rdi zq3 ?_ | refine rdi zq27 ?_ | refine rdi bneq ?_ | refine rdi beql ?_ | refine rdi zq29 ?_ | refine rdi zq30 ?_ | refine rdi zq21 ?_ | refine rdi zq22 ?_ | refine rdi zq23 ?_ | refine rdi zq24 ?_ | refine rdi zq25 ?_ | refine rdi zq26 ?_ | refine rdi len27 ?_ | refine rdi len35 ?_)
  have hRd := hRF.gr (ze_ g1 (zhb_ w1))
  obtain ⟨Z, cz, z1, z2, z3, z4⟩ := hRd.row q hq
  have hXd := hX.1.gr (ze_ g1 (zhb_ w1))
  refine rdi (zxd_ hRF.ptr hq) ?_
  repeat (first | refine rdi neq_self ?_ | refine rdi neqb_self ?_ | refine rdi eql_self ?_ | refine rdi eqlb_self ?_ | refine rdi zq1 ?_ | refine rdi zq2 ?_ | refine rdi zq13 ?_ | refine rdi zq14 ?_ | refine rdi zq16 ?_ | refine rdi zq15 ?_ | refine rdi zq17 ?_ | refine rdi zq4 ?_ | refine rdi zq3 ?_ | refine rdi zq27 ?_ | refine rdi bneq ?_ | refine rdi beql ?_ | refine rdi zq29 ?_ | refine rdi zq30 ?_ | refine rdi zq21 ?_ | refine rdi zq22 ?_ | refine rdi zq23 ?_ | refine rdi zq24 ?_ | refine rdi zq25 ?_ | refine rdi zq26 ?_ | refine rdi len27 ?_ | refine rdi len35 ?_)
  refine rdi fa106_0 ?_
  repeat (first | refine rdi neq_self ?_ | refine rdi neqb_self ?_ | refine rdi eql_self ?_ | refine rdi eqlb_self ?_ | refine rdi zq1 ?_ | refine rdi zq2 ?_ | refine rdi zq13 ?_ | refine rdi zq14 ?_ | refine rdi zq16 ?_ | refine rdi zq15 ?_ | refine rdi zq17 ?_ | refine rdi zq4 ?_ | refine rdi zq3 ?_ | refine rdi zq27 ?_ | refine rdi bneq ?_ | refine rdi beql ?_ | refine rdi zq29 ?_ | refine rdi zq30 ?_ | refine rdi zq21 ?_ | refine rdi zq22 ?_ | refine rdi zq23 ?_ | refine rdi zq24 ?_ | refine rdi zq25 ?_ | refine rdi zq26 ?_ | refine rdi len27 ?_ | refine rdi len35 ?_)
  rw [zq35]
  refine rdi (ldS3 fun w' h => h.cell z1) ?_
  repeat (first | refine rdi neq_self ?_ | refine rdi neqb_self ?_ | refine rdi eql_self ?_ | refine rdi eqlb_self ?_ | refine rdi zq1 ?_ | refine rdi zq2 ?_ | refine rdi zq13 ?_ | refine rdi zq14 ?_ | refine rdi zq16 ?_ | refine rdi zq15 ?_ | refine rdi zq17 ?_ | refine rdi zq4 ?_ | refine rdi zq3 ?_ | refine rdi zq27 ?_ | refine rdi bneq ?_ | refine rdi beql ?_ | refine rdi zq29 ?_ | refine rdi zq30 ?_ | refine rdi zq21 ?_ | refine rdi zq22 ?_ | refine rdi zq23 ?_ | refine rdi zq24 ?_ | refine rdi zq25 ?_ | refine rdi zq26 ?_ | refine rdi len27 ?_ | refine rdi len35 ?_)
  refine rdi (zac_ hXd.ptr hj) ?_
  repeat (first | refine rdi neq_self ?_ | refine rdi neqb_self ?_ | refine rdi eql_self ?_ | refine rdi eqlb_self ?_ | refine rdi zq1 ?_ | refine rdi zq2 ?_ | refine rdi zq13 ?_ | refine rdi zq14 ?_ | refine rdi zq16 ?_ | refine rdi zq15 ?_ | refine rdi zq17 ?_ | refine rdi zq4 ?_ | refine rdi zq3 ?_ | refine rdi zq27 ?_ | refine rdi bneq ?_ | refine rdi beql ?_ | refine rdi zq29 ?_ | refine rdi zq30 ?_ | refine rdi zq21 ?_ | refine rdi zq22 ?_ | refine rdi zq23 ?_ | refine rdi zq24 ?_ | refine rdi zq25 ?_ | refine rdi zq26 ?_ | refine rdi len27 ?_ | refine rdi len35 ?_)
  refine rdi (ldS3 fun w' h => h.cell (hXd.cell j hj)) ?_
  repeat (first | refine rdi neq_self ?_ | refine rdi neqb_self ?_ | refine rdi eql_self ?_ | refine rdi eqlb_self ?_ | refine rdi zq1 ?_ | refine rdi zq2 ?_ | refine rdi zq13 ?_ | refine rdi zq14 ?_ | refine rdi zq16 ?_ | refine rdi zq15 ?_ | refine rdi zq17 ?_ | refine rdi zq4 ?_ | refine rdi zq3 ?_ | refine rdi zq27 ?_ | refine rdi bneq ?_ | refine rdi beql ?_ | refine rdi zq29 ?_ | refine rdi zq30 ?_ | refine rdi zq21 ?_ | refine rdi zq22 ?_ | refine rdi zq23 ?_ | refine rdi zq24 ?_ | refine rdi zq25 ?_ | refine rdi zq26 ?_ | refine rdi len27 ?_ | refine rdi len35 ?_)
  by_cases hx : (rul gm.rules q).1 = xs.getD j 0
  case neg =>
    rw [decide_eq_false hx]
    repeat (first | refine rdi neq_self ?_ | refine rdi neqb_self ?_ | refine rdi eql_self ?_ | refine rdi eqlb_self ?_ | refine rdi zq1 ?_ | refine rdi zq2 ?_ | refine rdi zq13 ?_ | refine rdi zq14 ?_ | refine rdi zq16 ?_ | refine rdi zq15 ?_ | refine rdi zq17 ?_ | refine rdi zq4 ?_ | refine rdi zq3 ?_ | refine rdi zq27 ?_ | refine rdi bneq ?_ | refine rdi beql ?_ | refine rdi zq29 ?_ | refine rdi zq30 ?_ | refine rdi zq21 ?_ | refine rdi zq22 ?_ | refine rdi zq23 ?_ | refine rdi zq24 ?_ | refine rdi zq25 ?_ | refine rdi zq26 ?_ | refine rdi len27 ?_ | refine rdi len35 ?_)
    repeat (refine ⟨H.get 4 rfl, ?_⟩; repeat (first | refine rdi neq_self ?_ | refine rdi neqb_self ?_ | refine rdi eql_self ?_ | refine rdi eqlb_self ?_ | refine rdi zq1 ?_ | refine rdi zq2 ?_ | refine rdi zq13 ?_ | refine rdi zq14 ?_ | refine rdi zq16 ?_ | refine rdi zq15 ?_ | refine rdi zq17 ?_ | refine rdi zq4 ?_ | refine rdi zq3 ?_ | refine rdi zq27 ?_ | refine rdi bneq ?_ | refine rdi beql ?_ | refine rdi zq29 ?_ | refine rdi zq30 ?_ | refine rdi zq21 ?_ | refine rdi zq22 ?_ | refine rdi zq23 ?_ | refine rdi zq24 ?_ | refine rdi zq25 ?_ | refine rdi zq26 ?_ | refine rdi len27 ?_ | refine rdi len35 ?_))
    exact no _ (H.get 0 rfl) (by unfold zcc_; rw [Int.toNat_natCast, Int.toNat_natCast, decide_eq_false hx, Bool.and_false])
  rw [decide_eq_true hx]
  repeat (first | refine rdi neq_self ?_ | refine rdi neqb_self ?_ | refine rdi eql_self ?_ | refine rdi eqlb_self ?_ | refine rdi zq1 ?_ | refine rdi zq2 ?_ | refine rdi zq13 ?_ | refine rdi zq14 ?_ | refine rdi zq16 ?_ | refine rdi zq15 ?_ | refine rdi zq17 ?_ | refine rdi zq4 ?_ | refine rdi zq3 ?_ | refine rdi zq27 ?_ | refine rdi bneq ?_ | refine rdi beql ?_ | refine rdi zq29 ?_ | refine rdi zq30 ?_ | refine rdi zq21 ?_ | refine rdi zq22 ?_ | refine rdi zq23 ?_ | refine rdi zq24 ?_ | refine rdi zq25 ?_ | refine rdi zq26 ?_ | refine rdi len27 ?_ | refine rdi len35 ?_)
  have hok : zcc_ gm xs (j : Int) (q : Int) = true := by
    unfold zcc_
    rw [hg, ef, hs, ha, hr, Int.toNat_natCast, Int.toNat_natCast, decide_eq_true hx]
    rfl
  have H := H.drew
  have B2 := H.get 3 rfl
  have g03 := H.get 0 rfl
  refine ⟨fun w' => Gr w3.drew w', Gr.refl _, ?_⟩
  refine rdi zq18 ?_
  repeat (first | refine rdi neq_self ?_ | refine rdi neqb_self ?_ | refine rdi eql_self ?_ | refine rdi eqlb_self ?_ | refine rdi zq1 ?_ | refine rdi zq2 ?_ | refine rdi zq13 ?_ | refine rdi zq14 ?_ | refine rdi zq16 ?_ | refine rdi zq15 ?_ | refine rdi zq17 ?_ | refine rdi zq4 ?_ | refine rdi zq3 ?_ | refine rdi zq27 ?_ | refine rdi bneq ?_ | refine rdi beql ?_ | refine rdi zq29 ?_ | refine rdi zq30 ?_ | refine rdi zq21 ?_ | refine rdi zq22 ?_ | refine rdi zq23 ?_ | refine rdi zq24 ?_ | refine rdi zq25 ?_ | refine rdi zq26 ?_ | refine rdi len27 ?_ | refine rdi len35 ?_)
  rw [zp_ (by omega) (by omega)]
  refine rdi fa26_2 ?_
  refine rdi (ldS24 fun w' h => ((B2.gr h).cell _).trans rfl) ?_
  obtain ⟨Z2, cz2, y1, y2, y3, y4⟩ := (hRF.gr g03).row q hq
  refine rdi (zxd_ hRF.ptr hq) ?_
  refine rdi fa106_1 ?_
  rw [zkc_]
  refine rdi (ldS27 fun w' h => h.cell y2) ?_
  have A := Apt.nil w3.drew
  refine buildH A u27 inf3 [] (by decide) (by decide) (by simp [Instr.fill, madeCells]) rfl fun bF w5 A => ?_
  simp only [List.nil_append] at A
  refine ⟨A.gr, ?_⟩
  refine apH A 0 (xs := []) rfl (hX.1.gr (ze_ g03 A.gr)) rfl rfl (by simp; omega) fun X1 c1 w6 A => ?_
  simp only [List.set_cons_zero, List.nil_append] at A ⊢
  refine ⟨A.gr, ?_⟩
  have hYr := y4.is
  have hr4 := (zkh_ hg _ (by rw [zcd_ hq]; exact List.getElem_mem hq : rul gm.rules q ∈ gm.rules)).2.1
  refine replaceH A 0 rfl rfl hj (by omega) (by omega) (hYr.gr A.gr) (by omega) y3 (ints_old hYr fun b hb => (Row.ge (A.own 0 rfl) hb).1) fun U e w7 A => ?_
  simp only [List.set_cons_zero] at A
  repeat (first | refine rdi neq_self ?_ | refine rdi neqb_self ?_ | refine rdi eql_self ?_ | refine rdi eqlb_self ?_ | refine rdi zq1 ?_ | refine rdi zq2 ?_ | refine rdi zq13 ?_ | refine rdi zq14 ?_ | refine rdi zq16 ?_ | refine rdi zq15 ?_ | refine rdi zq17 ?_ | refine rdi zq4 ?_ | refine rdi zq3 ?_ | refine rdi zq27 ?_ | refine rdi bneq ?_ | refine rdi beql ?_ | refine rdi zq29 ?_ | refine rdi zq30 ?_ | refine rdi zq21 ?_ | refine rdi zq22 ?_ | refine rdi zq23 ?_ | refine rdi zq24 ?_ | refine rdi zq25 ?_ | refine rdi zq26 ?_ | refine rdi len27 ?_ | refine rdi len35 ?_)
  have hlo : (outL gm xs j q).length = (xs.take j ++ (rul gm.rules q).2 ++ xs.drop (j + 1)).length := rfl
  unfold zvb_ at hk
  rw [hok, Bool.true_and, Int.toNat_natCast, Int.toNat_natCast] at hk
  have g07 := ze_ g03 A.gr
  by_cases h40 : (outL gm xs j q).length ≤ 40
  · rw [decide_eq_false (show ¬ (40 : Int) < ((xs.take j ++ (rul gm.rules q).2 ++ xs.drop (j + 1)).length : Int) from by rw [← hlo]; omega)]
    repeat (first | refine rdi neq_self ?_ | refine rdi neqb_self ?_ | refine rdi eql_self ?_ | refine rdi eqlb_self ?_ | refine rdi zq1 ?_ | refine rdi zq2 ?_ | refine rdi zq13 ?_ | refine rdi zq14 ?_ | refine rdi zq16 ?_ | refine rdi zq15 ?_ | refine rdi zq17 ?_ | refine rdi zq4 ?_ | refine rdi zq3 ?_ | refine rdi zq27 ?_ | refine rdi bneq ?_ | refine rdi beql ?_ | refine rdi zq29 ?_ | refine rdi zq30 ?_ | refine rdi zq21 ?_ | refine rdi zq22 ?_ | refine rdi zq23 ?_ | refine rdi zq24 ?_ | refine rdi zq25 ?_ | refine rdi zq26 ?_ | refine rdi len27 ?_ | refine rdi len35 ?_)
    rw [decide_eq_true h40, if_pos rfl] at hk
    exact hk w7 U e g07 ⟨A.ints 0 rfl, (A.row 0 rfl).cap.1⟩
  · rw [decide_eq_true (show (40 : Int) < ((xs.take j ++ (rul gm.rules q).2 ++ xs.drop (j + 1)).length : Int) from by rw [← hlo]; omega)]
    repeat (first | refine rdi neq_self ?_ | refine rdi neqb_self ?_ | refine rdi eql_self ?_ | refine rdi eqlb_self ?_ | refine rdi zq1 ?_ | refine rdi zq2 ?_ | refine rdi zq13 ?_ | refine rdi zq14 ?_ | refine rdi zq16 ?_ | refine rdi zq15 ?_ | refine rdi zq17 ?_ | refine rdi zq4 ?_ | refine rdi zq3 ?_ | refine rdi zq27 ?_ | refine rdi bneq ?_ | refine rdi beql ?_ | refine rdi zq29 ?_ | refine rdi zq30 ?_ | refine rdi zq21 ?_ | refine rdi zq22 ?_ | refine rdi zq23 ?_ | refine rdi zq24 ?_ | refine rdi zq25 ?_ | refine rdi zq26 ?_ | refine rdi len27 ?_ | refine rdi len35 ?_)
    rw [decide_eq_false h40, if_neg Bool.false_ne_true] at hk
    exact hk w7 none 0 g07 ⟨zve_ _, Nat.le_refl _⟩
end
section
variable {w : World} {k : Value → World → Prop} {Y X : Option Addr} {cy cx : Nat} {gm : Gram} {xs : List Int} {a rule : Int}
theorem zcm_ (hX : Ints w X xs) (hk : ∀ w', Gr w w' → k (.int .i64 (zib_ xs)) w') : CallK Try.prog 58 [.slice X xs.length cx] k w := by
  refine enter58 ?_
  unfold S58
  simp only [zq18, zq19, zq20, zq21, zq22, zq23, zq24, zq25, zq26, zq27, zq28, zq4, zq3, zq1, zq2, zq0, zq29, zq30, zq14, zq15, zq16, zq17, zq13, zq10, zq12, zq11, zq7, zq5, zq6, zq9, zq8, zq31, zq32, ite_T, ite_F, zq33, zq34, zq35, Nat.reduceEqDiff, len22, len24, fa26_0, fa26_1, fa26_2, len27, fa86_0, fa86_1, fa86_2, fa97_0, fa97_1, fa103_0, fa103_1, fa103_2, fa103_3, fa103_4, fa103_5, fa103_6, fa106_0, fa106_1]
  refine zad_ xs.length 0 (fun i f w' => i ≤ xs.length ∧ f 7 = .int .i64 (i : Int) ∧ Gr w w' ∧ ∀ j, j < i → xs.getD j 0 < 0) ⟨Nat.zero_le _, rfl, Gr.refl _, fun j hj => by omega⟩ ?_
  rintro i f w1 N hag ⟨hi, f7, hg, hpre⟩ hN
  have f5 : f 5 = .slice X xs.length cx := hag 5 (by decide)
  have f6 : f 6 = .int .i64 xs.length := hag 6 (by decide)
  simp only [f5, f6, f7, zq18, zq19, zq20, zq21, zq22, zq23, zq24, zq25, zq26, zq27, zq28, zq4, zq3, zq1, zq2, zq0, zq29, zq30, zq14, zq15, zq16, zq17, zq13, zq10, zq12, zq11, zq7, zq5, zq6, zq9, zq8, zq31, zq32, ite_T, ite_F, zq33, zq34, zq35, Nat.reduceEqDiff, len22, len24, fa26_0, fa26_1, fa26_2, len27, fa86_0, fa86_1, fa86_2, fa97_0, fa97_1, fa103_0, fa103_1, fa103_2, fa103_3, fa103_4, fa103_5, fa103_6, fa106_0, fa106_1]
  have hX1 := hX.gr hg
  have hle := hX.le
  by_cases hlt : i < xs.length
  · simp only [show ((i : Int) < (xs.length : Int)) from by omega, decide_true, zq18, zq19, zq20, zq21, zq22, zq23, zq24, zq25, zq26, zq27, zq28, zq4, zq3, zq1, zq2, zq0, zq29, zq30, zq14, zq15, zq16, zq17, zq13, zq10, zq12, zq11, zq7, zq5, zq6, zq9, zq8, zq31, zq32, ite_T, ite_F, zq33, zq34, zq35, Nat.reduceEqDiff, len22, len24, fa26_0, fa26_1, fa26_2, len27, fa86_0, fa86_1, fa86_2, fa97_0, fa97_1, fa103_0, fa103_1, fa103_2, fa103_3, fa103_4, fa103_5, fa103_6, fa106_0, fa106_1]
    rw [zac_ hX.ptr hlt, ld3 (hX1.cell i hlt)]
    simp only [zq18, zq19, zq20, zq21, zq22, zq23, zq24, zq25, zq26, zq27, zq28, zq4, zq3, zq1, zq2, zq0, zq29, zq30, zq14, zq15, zq16, zq17, zq13, zq10, zq12, zq11, zq7, zq5, zq6, zq9, zq8, zq31, zq32, ite_T, ite_F, zq33, zq34, zq35, Nat.reduceEqDiff, len22, len24, fa26_0, fa26_1, fa26_2, len27, fa86_0, fa86_1, fa86_2, fa97_0, fa97_1, fa103_0, fa103_1, fa103_2, fa103_3, fa103_4, fa103_5, fa103_6, fa106_0, fa106_1]
    by_cases h0 : 0 ≤ xs.getD i 0
    · simp only [h0, decide_true, zq18, zq19, zq20, zq21, zq22, zq23, zq24, zq25, zq26, zq27, zq28, zq4, zq3, zq1, zq2, zq0, zq29, zq30, zq14, zq15, zq16, zq17, zq13, zq10, zq12, zq11, zq7, zq5, zq6, zq9, zq8, zq31, zq32, ite_T, ite_F, zq33, zq34, zq35, Nat.reduceEqDiff, len22, len24, fa26_0, fa26_1, fa26_2, len27, fa86_0, fa86_1, fa86_2, fa97_0, fa97_1, fa103_0, fa103_1, fa103_2, fa103_3, fa103_4, fa103_5, fa103_6, fa106_0, fa106_1]
      have := hk w1 hg
      rwa [zmh_ hlt h0 hpre] at this
    · simp only [h0, decide_false, zq18, zq19, zq20, zq21, zq22, zq23, zq24, zq25, zq26, zq27, zq28, zq4, zq3, zq1, zq2, zq0, zq29, zq30, zq14, zq15, zq16, zq17, zq13, zq10, zq12, zq11, zq7, zq5, zq6, zq9, zq8, zq31, zq32, ite_T, ite_F, zq33, zq34, zq35, Nat.reduceEqDiff, len22, len24, fa26_0, fa26_1, fa26_2, len27, fa86_0, fa86_1, fa86_2, fa97_0, fa97_1, fa103_0, fa103_1, fa103_2, fa103_3, fa103_4, fa103_5, fa103_6, fa106_0, fa106_1]
      rw [zp_ (by omega) (by omega)]
      refine hN _ _ hlt ⟨by omega, rfl, hg, fun j hj => ?_⟩
      rcases Nat.lt_succ_iff_lt_or_eq.1 hj with h | rfl
      · exact hpre j h
      · omega
  · simp only [show ¬ ((i : Int) < (xs.length : Int)) from by omega, decide_false, zq18, zq19, zq20, zq21, zq22, zq23, zq24, zq25, zq26, zq27, zq28, zq4, zq3, zq1, zq2, zq0, zq29, zq30, zq14, zq15, zq16, zq17, zq13, zq10, zq12, zq11, zq7, zq5, zq6, zq9, zq8, zq31, zq32, ite_T, ite_F, zq33, zq34, zq35, Nat.reduceEqDiff, len22, len24, fa26_0, fa26_1, fa26_2, len27, fa86_0, fa86_1, fa86_2, fa97_0, fa97_1, fa103_0, fa103_1, fa103_2, fa103_3, fa103_4, fa103_5, fa103_6, fa106_0, fa106_1]
    have := hk w1 hg
    rwa [zph_ fun j hj => hpre j (by omega)] at this
attribute [local irreducible] Rd Do CallK zb_ zm_ Join zrb_ zu_ zd_ zcb_ sBin sUn zc_ zab_ zkb_ zf_ za_ zbb_
set_option maxHeartbeats 3200000 in
theorem l4Step_c {j q : Nat} (hG : kG Y cy gm.rules w) (hX : kI X xs cx w) (hxl : xs.length ≤ 1000) (hj : j < xs.length) (hq : q < gm.rules.length) (hr4 : (rul gm.rules q).2.length ≤ 1000)
    (hk : ∀ w' U d, Gr w w' → Own 3 w' w.heap.size U d (outL gm xs j q) → k (.slice U (outL gm xs j q).length d) w') :
    CallK Try.prog 68 [grv gm Y cy, .slice X xs.length cx, .int .i64 j, .int .i64 q] k w := by
  refine enter68 ?_
  unfold S68
  have H := ((Kn.nil w).addG hG.1 hG.2).addI hX.1 hX.2
  refine zfc_ fun b1 w1 g1 hb B1 => ?_
  have H := ((H.step g1).addB B1).drew
  simp only [List.cons_append, List.nil_append] at H
  have B1 := H.get 3 rfl
  have hXd := (H.get 2 rfl).1
  have hcx := hX.2
  have hRF := (H.get 1 rfl).2
  refine ⟨fun w' => Gr w1.drew w', Gr.refl _, ?_⟩
  refine rdi (slh27 (by omega) (by omega)) ?_
  rw [zce_, Int.toNat_natCast]
  refine rdi fa26_2 ?_
  refine rdi (ldS24 fun w' h => ((B1.gr h).cell _).trans rfl) ?_
  obtain ⟨Z, cz, z1, z2, z3, z4⟩ := hRF.row q hq
  refine rdi (zxd_ hRF.ptr hq) ?_
  refine rdi fa106_1 ?_
  rw [zkc_]
  refine rdi (ldS27 fun w' h => h.cell z2) ?_
  have hXt : Ints w1.drew X (xs.take j) := by
    have := hXd.sub (l := 0) (c := cx) (Nat.zero_le _) hcx j
    rwa [zce_, List.drop_zero] at this
  have hjl : (xs.take j).length = j := by rw [List.length_take]; omega
  refine l1Own_c hXt hjl.symm (by omega) fun X1 c1 w3 g o => ?_
  have A := (Apt.nil w1.drew).addOwn g o
  simp only [List.nil_append] at A
  refine ⟨A.gr, ?_⟩
  refine apH A 0 rfl (z4.is.gr A.gr) rfl rfl (by omega) fun X2 c2 w4 A => ?_
  simp only [List.set_cons_zero] at A
  refine rdi zq18 ?_
  rw [zp_ (by omega) (by omega)]
  refine rdi (zid_ (by omega) (by omega)) ?_
  rw [show ((j : Int) + 1).toNat = j + 1 from by omega]
  have hXs : Ints w1.drew (sub X (j + 1) cx 1) (xs.drop (j + 1)) := by
    have := hXd.sub (l := j + 1) (c := cx) (by omega) hcx xs.length
    rwa [List.take_of_length_le (by simp)] at this
  refine apH A 0 rfl (hXs.gr A.gr) rfl (by simp) (by simp only [List.length_append, List.length_take, List.length_drop]; omega) fun X3 c3 w5 A => ?_
  simp only [List.set_cons_zero] at A
  exact hk w5 X3 c3 (ze_ (H.get 0 rfl) A.gr) (Row.mono (A.own 0 rfl) (H.get 0 rfl).size)
set_option maxHeartbeats 12800000 in
theorem zje_ (hG : kG Y cy gm.rules w) (hX : kI X xs cx w) (hxl : xs.length ≤ 1000000) (hk : ∀ w' U d, Gr w w' → Own 3 w' w.heap.size U d (zvb_ gm xs a rule).1 → k (.tuple #[.slice U (zvb_ gm xs a rule).1.length d, .bool (zvb_ gm xs a rule).2]) w') :
    CallK Try.prog 21 [grv gm Y cy, .slice X xs.length cx, .int .i64 a, .int .i64 rule] k w := by
  refine enter21 ?_
  unfold S21
  have H := ((Kn.nil w).addG hG.1 hG.2).addI hX.1 hX.2
  refine zfc_ fun b1 w1 g1 hb B1 => ?_
  have H := ((H.step g1).addB B1).drew
  have H := H.add (P := fun w' => Gr w1.drew w') fun w' g => g
  simp only [List.cons_append, List.nil_append] at H
  have B1 := H.get 3 rfl
  refine ⟨fun w' => Gr w1.drew w', Gr.refl _, ?_⟩
  refine rdi (rdS26 rfl fun w' h => B1.gr h) ?_
  refine zkf_ (gvK (H.get 1 rfl)) fun w2 g => ?_
  have H := H.step g
  refine ⟨H.get 4 rfl, ?_⟩
  have no : ∀ w', Gr w w' → zcc_ gm xs a rule = false → k (.tuple #[.slice none 0 0, .bool false]) w' := fun w' g h => by
    have := hk w' none 0 g
    unfold zvb_ at this
    rw [h, Bool.false_and, if_neg Bool.false_ne_true] at this
    exact this (Row.nil _ _ _ _)
  have hRF := hG.2
  cases hg : zy_ gm
  · repeat (first | refine rdi neq_self ?_ | refine rdi neqb_self ?_ | refine rdi eql_self ?_ | refine rdi eqlb_self ?_ | refine rdi zq1 ?_ | refine rdi zq2 ?_ | refine rdi zq13 ?_ | refine rdi zq14 ?_ | refine rdi zq16 ?_ | refine rdi zq15 ?_ | refine rdi zq17 ?_ | refine rdi zq4 ?_ | refine rdi zq3 ?_ | refine rdi zq27 ?_ | refine rdi bneq ?_ | refine rdi beql ?_ | refine rdi zq29 ?_ | refine rdi zq30 ?_ | refine rdi zq21 ?_ | refine rdi zq22 ?_ | refine rdi zq23 ?_ | refine rdi zq24 ?_ | refine rdi zq25 ?_ | refine rdi zq26 ?_ | refine rdi len27 ?_ | refine rdi len35 ?_)
    repeat (refine ⟨H.get 4 rfl, ?_⟩; repeat (first | refine rdi neq_self ?_ | refine rdi neqb_self ?_ | refine rdi eql_self ?_ | refine rdi eqlb_self ?_ | refine rdi zq1 ?_ | refine rdi zq2 ?_ | refine rdi zq13 ?_ | refine rdi zq14 ?_ | refine rdi zq16 ?_ | refine rdi zq15 ?_ | refine rdi zq17 ?_ | refine rdi zq4 ?_ | refine rdi zq3 ?_ | refine rdi zq27 ?_ | refine rdi bneq ?_ | refine rdi beql ?_ | refine rdi zq29 ?_ | refine rdi zq30 ?_ | refine rdi zq21 ?_ | refine rdi zq22 ?_ | refine rdi zq23 ?_ | refine rdi zq24 ?_ | refine rdi zq25 ?_ | refine rdi zq26 ?_ | refine rdi len27 ?_ | refine rdi len35 ?_))
    exact no _ (H.get 0 rfl) (by unfold zcc_; rw [hg]; rfl)
  have hn := zde_ hg
  have ht := zrd_ hg
  have hgl := zdf_ hg
  repeat (first | refine rdi neq_self ?_ | refine rdi neqb_self ?_ | refine rdi eql_self ?_ | refine rdi eqlb_self ?_ | refine rdi zq1 ?_ | refine rdi zq2 ?_ | refine rdi zq13 ?_ | refine rdi zq14 ?_ | refine rdi zq16 ?_ | refine rdi zq15 ?_ | refine rdi zq17 ?_ | refine rdi zq4 ?_ | refine rdi zq3 ?_ | refine rdi zq27 ?_ | refine rdi bneq ?_ | refine rdi beql ?_ | refine rdi zq29 ?_ | refine rdi zq30 ?_ | refine rdi zq21 ?_ | refine rdi zq22 ?_ | refine rdi zq23 ?_ | refine rdi zq24 ?_ | refine rdi zq25 ?_ | refine rdi zq26 ?_ | refine rdi len27 ?_ | refine rdi len35 ?_)
  refine rdi (rdS26 rfl fun w' h => B1.gr h) ?_
  repeat (first | refine rdi neq_self ?_ | refine rdi neqb_self ?_ | refine rdi eql_self ?_ | refine rdi eqlb_self ?_ | refine rdi zq1 ?_ | refine rdi zq2 ?_ | refine rdi zq13 ?_ | refine rdi zq14 ?_ | refine rdi zq16 ?_ | refine rdi zq15 ?_ | refine rdi zq17 ?_ | refine rdi zq4 ?_ | refine rdi zq3 ?_ | refine rdi zq27 ?_ | refine rdi bneq ?_ | refine rdi beql ?_ | refine rdi zq29 ?_ | refine rdi zq30 ?_ | refine rdi zq21 ?_ | refine rdi zq22 ?_ | refine rdi zq23 ?_ | refine rdi zq24 ?_ | refine rdi zq25 ?_ | refine rdi zq26 ?_ | refine rdi len27 ?_ | refine rdi len35 ?_)
  refine l4Form_c (gm := gm) (H.get 2 rfl).1 (by omega) (by omega) fun w3 g => ?_
  have H := H.step g
  refine ⟨H.get 4 rfl, ?_⟩
  cases hf : formB gm xs 40
  · repeat (first | refine rdi neq_self ?_ | refine rdi neqb_self ?_ | refine rdi eql_self ?_ | refine rdi eqlb_self ?_ | refine rdi zq1 ?_ | refine rdi zq2 ?_ | refine rdi zq13 ?_ | refine rdi zq14 ?_ | refine rdi zq16 ?_ | refine rdi zq15 ?_ | refine rdi zq17 ?_ | refine rdi zq4 ?_ | refine rdi zq3 ?_ | refine rdi zq27 ?_ | refine rdi bneq ?_ | refine rdi beql ?_ | refine rdi zq29 ?_ | refine rdi zq30 ?_ | refine rdi zq21 ?_ | refine rdi zq22 ?_ | refine rdi zq23 ?_ | refine rdi zq24 ?_ | refine rdi zq25 ?_ | refine rdi zq26 ?_ | refine rdi len27 ?_ | refine rdi len35 ?_)
    repeat (refine ⟨H.get 4 rfl, ?_⟩; repeat (first | refine rdi neq_self ?_ | refine rdi neqb_self ?_ | refine rdi eql_self ?_ | refine rdi eqlb_self ?_ | refine rdi zq1 ?_ | refine rdi zq2 ?_ | refine rdi zq13 ?_ | refine rdi zq14 ?_ | refine rdi zq16 ?_ | refine rdi zq15 ?_ | refine rdi zq17 ?_ | refine rdi zq4 ?_ | refine rdi zq3 ?_ | refine rdi zq27 ?_ | refine rdi bneq ?_ | refine rdi beql ?_ | refine rdi zq29 ?_ | refine rdi zq30 ?_ | refine rdi zq21 ?_ | refine rdi zq22 ?_ | refine rdi zq23 ?_ | refine rdi zq24 ?_ | refine rdi zq25 ?_ | refine rdi zq26 ?_ | refine rdi len27 ?_ | refine rdi len35 ?_))
    exact no _ (H.get 0 rfl) (by unfold zcc_; rw [hf, Bool.and_false]; rfl)
  have hF := formB_all hf
  repeat (first | refine rdi neq_self ?_ | refine rdi neqb_self ?_ | refine rdi eql_self ?_ | refine rdi eqlb_self ?_ | refine rdi zq1 ?_ | refine rdi zq2 ?_ | refine rdi zq13 ?_ | refine rdi zq14 ?_ | refine rdi zq16 ?_ | refine rdi zq15 ?_ | refine rdi zq17 ?_ | refine rdi zq4 ?_ | refine rdi zq3 ?_ | refine rdi zq27 ?_ | refine rdi bneq ?_ | refine rdi beql ?_ | refine rdi zq29 ?_ | refine rdi zq30 ?_ | refine rdi zq21 ?_ | refine rdi zq22 ?_ | refine rdi zq23 ?_ | refine rdi zq24 ?_ | refine rdi zq25 ?_ | refine rdi zq26 ?_ | refine rdi len27 ?_ | refine rdi len35 ?_)
  refine rdi zq19 ?_
  repeat (first | refine rdi neq_self ?_ | refine rdi neqb_self ?_ | refine rdi eql_self ?_ | refine rdi eqlb_self ?_ | refine rdi zq1 ?_ | refine rdi zq2 ?_ | refine rdi zq13 ?_ | refine rdi zq14 ?_ | refine rdi zq16 ?_ | refine rdi zq15 ?_ | refine rdi zq17 ?_ | refine rdi zq4 ?_ | refine rdi zq3 ?_ | refine rdi zq27 ?_ | refine rdi bneq ?_ | refine rdi beql ?_ | refine rdi zq29 ?_ | refine rdi zq30 ?_ | refine rdi zq21 ?_ | refine rdi zq22 ?_ | refine rdi zq23 ?_ | refine rdi zq24 ?_ | refine rdi zq25 ?_ | refine rdi zq26 ?_ | refine rdi len27 ?_ | refine rdi len35 ?_)
  rw [zp_ (by omega) (by omega)]
  refine zwf_ ?_
  refine ⟨H.get 4 rfl, ?_⟩
  cases ha : inB a 0 ((xs.length : Int) - 1)
  · repeat (first | refine rdi neq_self ?_ | refine rdi neqb_self ?_ | refine rdi eql_self ?_ | refine rdi eqlb_self ?_ | refine rdi zq1 ?_ | refine rdi zq2 ?_ | refine rdi zq13 ?_ | refine rdi zq14 ?_ | refine rdi zq16 ?_ | refine rdi zq15 ?_ | refine rdi zq17 ?_ | refine rdi zq4 ?_ | refine rdi zq3 ?_ | refine rdi zq27 ?_ | refine rdi bneq ?_ | refine rdi beql ?_ | refine rdi zq29 ?_ | refine rdi zq30 ?_ | refine rdi zq21 ?_ | refine rdi zq22 ?_ | refine rdi zq23 ?_ | refine rdi zq24 ?_ | refine rdi zq25 ?_ | refine rdi zq26 ?_ | refine rdi len27 ?_ | refine rdi len35 ?_)
    repeat (refine ⟨H.get 4 rfl, ?_⟩; repeat (first | refine rdi neq_self ?_ | refine rdi neqb_self ?_ | refine rdi eql_self ?_ | refine rdi eqlb_self ?_ | refine rdi zq1 ?_ | refine rdi zq2 ?_ | refine rdi zq13 ?_ | refine rdi zq14 ?_ | refine rdi zq16 ?_ | refine rdi zq15 ?_ | refine rdi zq17 ?_ | refine rdi zq4 ?_ | refine rdi zq3 ?_ | refine rdi zq27 ?_ | refine rdi bneq ?_ | refine rdi beql ?_ | refine rdi zq29 ?_ | refine rdi zq30 ?_ | refine rdi zq21 ?_ | refine rdi zq22 ?_ | refine rdi zq23 ?_ | refine rdi zq24 ?_ | refine rdi zq25 ?_ | refine rdi zq26 ?_ | refine rdi len27 ?_ | refine rdi len35 ?_))
    exact no _ (H.get 0 rfl) (by unfold zcc_; rw [ha, Bool.and_false]; rfl)
  repeat (first | refine rdi neq_self ?_ | refine rdi neqb_self ?_ | refine rdi eql_self ?_ | refine rdi eqlb_self ?_ | refine rdi zq1 ?_ | refine rdi zq2 ?_ | refine rdi zq13 ?_ | refine rdi zq14 ?_ | refine rdi zq16 ?_ | refine rdi zq15 ?_ | refine rdi zq17 ?_ | refine rdi zq4 ?_ | refine rdi zq3 ?_ | refine rdi zq27 ?_ | refine rdi bneq ?_ | refine rdi beql ?_ | refine rdi zq29 ?_ | refine rdi zq30 ?_ | refine rdi zq21 ?_ | refine rdi zq22 ?_ | refine rdi zq23 ?_ | refine rdi zq24 ?_ | refine rdi zq25 ?_ | refine rdi zq26 ?_ | refine rdi len27 ?_ | refine rdi len35 ?_)
  refine rdi fa26_2 ?_
  repeat (first | refine rdi neq_self ?_ | refine rdi neqb_self ?_ | refine rdi eql_self ?_ | refine rdi eqlb_self ?_ | refine rdi zq1 ?_ | refine rdi zq2 ?_ | refine rdi zq13 ?_ | refine rdi zq14 ?_ | refine rdi zq16 ?_ | refine rdi zq15 ?_ | refine rdi zq17 ?_ | refine rdi zq4 ?_ | refine rdi zq3 ?_ | refine rdi zq27 ?_ | refine rdi bneq ?_ | refine rdi beql ?_ | refine rdi zq29 ?_ | refine rdi zq30 ?_ | refine rdi zq21 ?_ | refine rdi zq22 ?_ | refine rdi zq23 ?_ | refine rdi zq24 ?_ | refine rdi zq25 ?_ | refine rdi zq26 ?_ | refine rdi len27 ?_ | refine rdi len35 ?_)
  refine rdi (ldS24 fun w' h => ((B1.gr h).cell _).trans rfl) ?_
  repeat (first | refine rdi neq_self ?_ | refine rdi neqb_self ?_ | refine rdi eql_self ?_ | refine rdi eqlb_self ?_ | refine rdi zq1 ?_ | refine rdi zq2 ?_ | refine rdi zq13 ?_ | refine rdi zq14 ?_ | refine rdi zq16 ?_ | refine rdi zq15 ?_ | refine rdi zq17 ?_ | refine rdi zq4 ?_ | refine rdi zq3 ?_ | refine rdi zq27 ?_ | refine rdi bneq ?_ | refine rdi beql ?_ | refine rdi zq29 ?_ | refine rdi zq30 ?_ | refine rdi zq21 ?_ | refine rdi zq22 ?_ | refine rdi zq23 ?_ | refine rdi zq24 ?_ | refine rdi zq25 ?_ | refine rdi zq26 ?_ | refine rdi len27 ?_ | refine rdi len35 ?_)
  refine rdi len24 ?_
  repeat (first | refine rdi neq_self ?_ | refine rdi neqb_self ?_ | refine rdi eql_self ?_ | refine rdi eqlb_self ?_ | refine rdi zq1 ?_ | refine rdi zq2 ?_ | refine rdi zq13 ?_ | refine rdi zq14 ?_ | refine rdi zq16 ?_ | refine rdi zq15 ?_ | refine rdi zq17 ?_ | refine rdi zq4 ?_ | refine rdi zq3 ?_ | refine rdi zq27 ?_ | refine rdi bneq ?_ | refine rdi beql ?_ | refine rdi zq29 ?_ | refine rdi zq30 ?_ | refine rdi zq21 ?_ | refine rdi zq22 ?_ | refine rdi zq23 ?_ | refine rdi zq24 ?_ | refine rdi zq25 ?_ | refine rdi zq26 ?_ | refine rdi len27 ?_ | refine rdi len35 ?_)
  refine rdi zq19 ?_
  repeat (first | refine rdi neq_self ?_ | refine rdi neqb_self ?_ | refine rdi eql_self ?_ | refine rdi eqlb_self ?_ | refine rdi zq1 ?_ | refine rdi zq2 ?_ | refine rdi zq13 ?_ | refine rdi zq14 ?_ | refine rdi zq16 ?_ | refine rdi zq15 ?_ | refine rdi zq17 ?_ | refine rdi zq4 ?_ | refine rdi zq3 ?_ | refine rdi zq27 ?_ | refine rdi bneq ?_ | refine rdi beql ?_ | refine rdi zq29 ?_ | refine rdi zq30 ?_ | refine rdi zq21 ?_ | refine rdi zq22 ?_ | refine rdi zq23 ?_ | refine rdi zq24 ?_ | refine rdi zq25 ?_ | refine rdi zq26 ?_ | refine rdi len27 ?_ | refine rdi len35 ?_)
  rw [zp_ (by omega) (by omega)]
  refine zwf_ ?_
  refine ⟨H.get 4 rfl, ?_⟩
  cases hr : inB rule 0 ((gm.rules.length : Int) - 1)
  · repeat (first | refine rdi neq_self ?_ | refine rdi neqb_self ?_ | refine rdi eql_self ?_ | refine rdi eqlb_self ?_ | refine rdi zq1 ?_ | refine rdi zq2 ?_ | refine rdi zq13 ?_ | refine rdi zq14 ?_ | refine rdi zq16 ?_ | refine rdi zq15 ?_ | refine rdi zq17 ?_ | refine rdi zq4 ?_ | refine rdi zq3 ?_ | refine rdi zq27 ?_ | refine rdi bneq ?_ | refine rdi beql ?_ | refine rdi zq29 ?_ | refine rdi zq30 ?_ | refine rdi zq21 ?_ | refine rdi zq22 ?_ | refine rdi zq23 ?_ | refine rdi zq24 ?_ | refine rdi zq25 ?_ | refine rdi zq26 ?_ | refine rdi len27 ?_ | refine rdi len35 ?_)
    repeat (refine ⟨H.get 4 rfl, ?_⟩; repeat (first | refine rdi neq_self ?_ | refine rdi neqb_self ?_ | refine rdi eql_self ?_ | refine rdi eqlb_self ?_ | refine rdi zq1 ?_ | refine rdi zq2 ?_ | refine rdi zq13 ?_ | refine rdi zq14 ?_ | refine rdi zq16 ?_ | refine rdi zq15 ?_ | refine rdi zq17 ?_ | refine rdi zq4 ?_ | refine rdi zq3 ?_ | refine rdi zq27 ?_ | refine rdi bneq ?_ | refine rdi beql ?_ | refine rdi zq29 ?_ | refine rdi zq30 ?_ | refine rdi zq21 ?_ | refine rdi zq22 ?_ | refine rdi zq23 ?_ | refine rdi zq24 ?_ | refine rdi zq25 ?_ | refine rdi zq26 ?_ | refine rdi len27 ?_ | refine rdi len35 ?_))
    exact no _ (H.get 0 rfl) (by unfold zcc_; rw [hr, Bool.and_false]; rfl)
  have ha' := ha
  have hr' := hr
  simp only [inB, Bool.and_eq_true, decide_eq_true_eq] at ha' hr'
  obtain ⟨j, rfl⟩ : ∃ j : Nat, a = j := ⟨a.toNat, by omega⟩
  obtain ⟨q, rfl⟩ : ∃ q : Nat, rule = q := ⟨rule.toNat, by omega⟩
  have hj : j < xs.length := by omega
  have hq : q < gm.rules.length := by omega
  repeat (first | refine rdi neq_self ?_ | refine rdi neqb_self ?_ | refine rdi eql_self ?_ | refine rdi eqlb_self ?_ | refine rdi zq1 ?_ | refine rdi zq2 ?_ | refine rdi zq13 ?_ | refine rdi zq14 ?_ | refine rdi zq16 ?_ | refine rdi zq15 ?_ | refine rdi zq17 ?_ | refine rdi zq4 ?_ | refine rdi zq3 ?_ | refine rdi zq27 ?_ | refine rdi bneq ?_ | refine rdi beql ?_ | refine rdi zq29 ?_ | refine rdi zq30 ?_ | refine rdi zq21 ?_ | refine rdi zq22 ?_ | refine rdi zq23 ?_ | refine rdi zq24 ?_ | refine rdi zq25 ?_ | refine rdi zq26 ?_ | refine rdi len27 ?_ | refine rdi len35 ?_)
  refine rdi fa26_2 ?_
  repeat (first | refine rdi neq_self ?_ | refine rdi neqb_self ?_ | refine rdi eql_self ?_ | refine rdi eqlb_self ?_ | refine rdi zq1 ?_ | refine rdi zq2 ?_ | refine rdi zq13 ?_ | refine rdi zq14 ?_ | refine rdi zq16 ?_ | refine rdi zq15 ?_ | refine rdi zq17 ?_ | refine rdi zq4 ?_ | refine rdi zq3 ?_ | refine rdi zq27 ?_ | refine rdi bneq ?_ | refine rdi beql ?_ | refine rdi zq29 ?_ | refine rdi zq30 ?_ | refine rdi zq21 ?_ | refine rdi zq22 ?_ | refine rdi zq23 ?_ | refine rdi zq24 ?_ | refine rdi zq25 ?_ | refine rdi zq26 ?_ | refine rdi len27 ?_ | refine rdi len35 ?_)
  refine rdi (ldS24 fun w' h => ((B1.gr h).cell _).trans rfl) ?_
  repeat (first | refine rdi neq_self ?_ | refine rdi neqb_self ?_ | refine rdi eql_self ?_ | refine rdi eqlb_self ?_ | refine rdi zq1 ?_ | refine rdi zq2 ?_ | refine rdi zq13 ?_ | refine rdi zq14 ?_ | refine rdi zq16 ?_ | refine rdi zq15 ?_ | refine rdi zq17 ?_ | refine rdi zq4 ?_ | refine rdi zq3 ?_ | refine rdi zq27 ?_ | refine rdi bneq ?_ | refine rdi beql ?_ | refine rdi zq29 ?_ | refine rdi zq30 ?_ | refine rdi zq21 ?_ | refine rdi zq22 ?_ | refine rdi zq23 ?_ | refine rdi zq24 ?_ | refine rdi zq25 ?_ | refine rdi zq26 ?_ | refine rdi len27 ?_ | refine rdi len35 ?_)
  have hRd := hRF.gr (ze_ g1 (zhb_ w1))
  obtain ⟨Z, cz, z1, z2, z3, z4⟩ := hRd.row q hq
  have hXd := hX.1.gr (ze_ g1 (zhb_ w1))
  refine rdi (zxd_ hRF.ptr hq) ?_
  repeat (first | refine rdi neq_self ?_ | refine rdi neqb_self ?_ | refine rdi eql_self ?_ | refine rdi eqlb_self ?_ | refine rdi zq1 ?_ | refine rdi zq2 ?_ | refine rdi zq13 ?_ | refine rdi zq14 ?_ | refine rdi zq16 ?_ | refine rdi zq15 ?_ | refine rdi zq17 ?_ | refine rdi zq4 ?_ | refine rdi zq3 ?_ | refine rdi zq27 ?_ | refine rdi bneq ?_ | refine rdi beql ?_ | refine rdi zq29 ?_ | refine rdi zq30 ?_ | refine rdi zq21 ?_ | refine rdi zq22 ?_ | refine rdi zq23 ?_ | refine rdi zq24 ?_ | refine rdi zq25 ?_ | refine rdi zq26 ?_ | refine rdi len27 ?_ | refine rdi len35 ?_)
  refine rdi fa106_0 ?_
  repeat (first | refine rdi neq_self ?_ | refine rdi neqb_self ?_ | refine rdi eql_self ?_ | refine rdi eqlb_self ?_ | refine rdi zq1 ?_ | refine rdi zq2 ?_ | refine rdi zq13 ?_ | refine rdi zq14 ?_ | refine rdi zq16 ?_ | refine rdi zq15 ?_ | refine rdi zq17 ?_ | refine rdi zq4 ?_ | refine rdi zq3 ?_ | refine rdi zq27 ?_ | refine rdi bneq ?_ | refine rdi beql ?_ | refine rdi zq29 ?_ | refine rdi zq30 ?_ | refine rdi zq21 ?_ | refine rdi zq22 ?_ | refine rdi zq23 ?_ | refine rdi zq24 ?_ | refine rdi zq25 ?_ | refine rdi zq26 ?_ | refine rdi len27 ?_ | refine rdi len35 ?_)
  rw [zq35]
  refine rdi (ldS3 fun w' h => h.cell z1) ?_
  repeat (first | refine rdi neq_self ?_ | refine rdi neqb_self ?_ | refine rdi eql_self ?_ | refine rdi eqlb_self ?_ | refine rdi zq1 ?_ | refine rdi zq2 ?_ | refine rdi zq13 ?_ | refine rdi zq14 ?_ | refine rdi zq16 ?_ | refine rdi zq15 ?_ | refine rdi zq17 ?_ | refine rdi zq4 ?_ | refine rdi zq3 ?_ | refine rdi zq27 ?_ | refine rdi bneq ?_ | refine rdi beql ?_ | refine rdi zq29 ?_ | refine rdi zq30 ?_ | refine rdi zq21 ?_ | refine rdi zq22 ?_ | refine rdi zq23 ?_ | refine rdi zq24 ?_ | refine rdi zq25 ?_ | refine rdi zq26 ?_ | refine rdi len27 ?_ | refine rdi len35 ?_)
  refine rdi (zac_ hXd.ptr hj) ?_
  repeat (first | refine rdi neq_self ?_ | refine rdi neqb_self ?_ | refine rdi eql_self ?_ | refine rdi eqlb_self ?_ | refine rdi zq1 ?_ | refine rdi zq2 ?_ | refine rdi zq13 ?_ | refine rdi zq14 ?_ | refine rdi zq16 ?_ | refine rdi zq15 ?_ | refine rdi zq17 ?_ | refine rdi zq4 ?_ | refine rdi zq3 ?_ | refine rdi zq27 ?_ | refine rdi bneq ?_ | refine rdi beql ?_ | refine rdi zq29 ?_ | refine rdi zq30 ?_ | refine rdi zq21 ?_ | refine rdi zq22 ?_ | refine rdi zq23 ?_ | refine rdi zq24 ?_ | refine rdi zq25 ?_ | refine rdi zq26 ?_ | refine rdi len27 ?_ | refine rdi len35 ?_)
  refine rdi (ldS3 fun w' h => h.cell (hXd.cell j hj)) ?_
  repeat (first | refine rdi neq_self ?_ | refine rdi neqb_self ?_ | refine rdi eql_self ?_ | refine rdi eqlb_self ?_ | refine rdi zq1 ?_ | refine rdi zq2 ?_ | refine rdi zq13 ?_ | refine rdi zq14 ?_ | refine rdi zq16 ?_ | refine rdi zq15 ?_ | refine rdi zq17 ?_ | refine rdi zq4 ?_ | refine rdi zq3 ?_ | refine rdi zq27 ?_ | refine rdi bneq ?_ | refine rdi beql ?_ | refine rdi zq29 ?_ | refine rdi zq30 ?_ | refine rdi zq21 ?_ | refine rdi zq22 ?_ | refine rdi zq23 ?_ | refine rdi zq24 ?_ | refine rdi zq25 ?_ | refine rdi zq26 ?_ | refine rdi len27 ?_ | refine rdi len35 ?_)
  by_cases hx : (rul gm.rules q).1 = xs.getD j 0
  case neg =>
    rw [decide_eq_false hx]
    repeat (first | refine rdi neq_self ?_ | refine rdi neqb_self ?_ | refine rdi eql_self ?_ | refine rdi eqlb_self ?_ | refine rdi zq1 ?_ | refine rdi zq2 ?_ | refine rdi zq13 ?_ | refine rdi zq14 ?_ | refine rdi zq16 ?_ | refine rdi zq15 ?_ | refine rdi zq17 ?_ | refine rdi zq4 ?_ | refine rdi zq3 ?_ | refine rdi zq27 ?_ | refine rdi bneq ?_ | refine rdi beql ?_ | refine rdi zq29 ?_ | refine rdi zq30 ?_ | refine rdi zq21 ?_ | refine rdi zq22 ?_ | refine rdi zq23 ?_ | refine rdi zq24 ?_ | refine rdi zq25 ?_ | refine rdi zq26 ?_ | refine rdi len27 ?_ | refine rdi len35 ?_)
    repeat (refine ⟨H.get 4 rfl, ?_⟩; repeat (first | refine rdi neq_self ?_ | refine rdi neqb_self ?_ | refine rdi eql_self ?_ | refine rdi eqlb_self ?_ | refine rdi zq1 ?_ | refine rdi zq2 ?_ | refine rdi zq13 ?_ | refine rdi zq14 ?_ | refine rdi zq16 ?_ | refine rdi zq15 ?_ | refine rdi zq17 ?_ | refine rdi zq4 ?_ | refine rdi zq3 ?_ | refine rdi zq27 ?_ | refine rdi bneq ?_ | refine rdi beql ?_ | refine rdi zq29 ?_ | refine rdi zq30 ?_ | refine rdi zq21 ?_ | refine rdi zq22 ?_ | refine rdi zq23 ?_ | refine rdi zq24 ?_ | refine rdi zq25 ?_ | refine rdi zq26 ?_ | refine rdi len27 ?_ | refine rdi len35 ?_))
    exact no _ (H.get 0 rfl) (by unfold zcc_; rw [Int.toNat_natCast, Int.toNat_natCast, decide_eq_false hx, Bool.and_false])
  rw [decide_eq_true hx]
  repeat (first | refine rdi neq_self ?_ | refine rdi neqb_self ?_ | refine rdi eql_self ?_ | refine rdi eqlb_self ?_ | refine rdi zq1 ?_ | refine rdi zq2 ?_ | refine rdi zq13 ?_ | refine rdi zq14 ?_ | refine rdi zq16 ?_ | refine rdi zq15 ?_ | refine rdi zq17 ?_ | refine rdi zq4 ?_ | refine rdi zq3 ?_ | refine rdi zq27 ?_ | refine rdi bneq ?_ | refine rdi beql ?_ | refine rdi zq29 ?_ | refine rdi zq30 ?_ | refine rdi zq21 ?_ | refine rdi zq22 ?_ | refine rdi zq23 ?_ | refine rdi zq24 ?_ | refine rdi zq25 ?_ | refine rdi zq26 ?_ | refine rdi len27 ?_ | refine rdi len35 ?_)
  have hok : zcc_ gm xs (j : Int) (q : Int) = true := by
    unfold zcc_
    rw [hg, hf, ha, hr, Int.toNat_natCast, Int.toNat_natCast, decide_eq_true hx]
    rfl
  have hr4 := (zkh_ hg _ (by rw [zcd_ hq]; exact List.getElem_mem hq : rul gm.rules q ∈ gm.rules)).2.1
  refine rdi (zfb_ zyb_ sz26 rfl (H.get 3 rfl)) ?_
  have hsz := (H.get 0 rfl).size
  refine l4Step_c (H.get 1 rfl) (H.get 2 rfl) (by omega) hj hq (by omega) fun w7 U e g hU => ?_
  have H := H.step g
  repeat (first | refine rdi neq_self ?_ | refine rdi neqb_self ?_ | refine rdi eql_self ?_ | refine rdi eqlb_self ?_ | refine rdi zq1 ?_ | refine rdi zq2 ?_ | refine rdi zq13 ?_ | refine rdi zq14 ?_ | refine rdi zq16 ?_ | refine rdi zq15 ?_ | refine rdi zq17 ?_ | refine rdi zq4 ?_ | refine rdi zq3 ?_ | refine rdi zq27 ?_ | refine rdi bneq ?_ | refine rdi beql ?_ | refine rdi zq29 ?_ | refine rdi zq30 ?_ | refine rdi zq21 ?_ | refine rdi zq22 ?_ | refine rdi zq23 ?_ | refine rdi zq24 ?_ | refine rdi zq25 ?_ | refine rdi zq26 ?_ | refine rdi len27 ?_ | refine rdi len35 ?_)
  unfold zvb_ at hk
  rw [hok, Bool.true_and, Int.toNat_natCast, Int.toNat_natCast] at hk
  by_cases h40 : (outL gm xs j q).length ≤ 40
  · rw [decide_eq_false (show ¬ (40 : Int) < ((outL gm xs j q).length : Int) from by omega)]
    repeat (first | refine rdi neq_self ?_ | refine rdi neqb_self ?_ | refine rdi eql_self ?_ | refine rdi eqlb_self ?_ | refine rdi zq1 ?_ | refine rdi zq2 ?_ | refine rdi zq13 ?_ | refine rdi zq14 ?_ | refine rdi zq16 ?_ | refine rdi zq15 ?_ | refine rdi zq17 ?_ | refine rdi zq4 ?_ | refine rdi zq3 ?_ | refine rdi zq27 ?_ | refine rdi bneq ?_ | refine rdi beql ?_ | refine rdi zq29 ?_ | refine rdi zq30 ?_ | refine rdi zq21 ?_ | refine rdi zq22 ?_ | refine rdi zq23 ?_ | refine rdi zq24 ?_ | refine rdi zq25 ?_ | refine rdi zq26 ?_ | refine rdi len27 ?_ | refine rdi len35 ?_)
    rw [decide_eq_true h40, if_pos rfl] at hk
    exact hk w7 U e (H.get 0 rfl) (Row.mono hU hsz)
  · rw [decide_eq_true (show (40 : Int) < ((outL gm xs j q).length : Int) from by omega)]
    repeat (first | refine rdi neq_self ?_ | refine rdi neqb_self ?_ | refine rdi eql_self ?_ | refine rdi eqlb_self ?_ | refine rdi zq1 ?_ | refine rdi zq2 ?_ | refine rdi zq13 ?_ | refine rdi zq14 ?_ | refine rdi zq16 ?_ | refine rdi zq15 ?_ | refine rdi zq17 ?_ | refine rdi zq4 ?_ | refine rdi zq3 ?_ | refine rdi zq27 ?_ | refine rdi bneq ?_ | refine rdi beql ?_ | refine rdi zq29 ?_ | refine rdi zq30 ?_ | refine rdi zq21 ?_ | refine rdi zq22 ?_ | refine rdi zq23 ?_ | refine rdi zq24 ?_ | refine rdi zq25 ?_ | refine rdi zq26 ?_ | refine rdi len27 ?_ | refine rdi len35 ?_)
    rw [decide_eq_false h40, if_neg Bool.false_ne_true] at hk
    exact hk w7 none 0 (H.get 0 rfl) (Row.nil _ _ _ _)
theorem zcg_ (hG : kG Y cy gm.rules w) (hX : kI X xs cx w) (hxl : xs.length ≤ 1000000) (hk : ∀ w' U d, Gr w w' → kI U (zvb_ gm xs a rule).1 d w' → k (.tuple #[.slice U (zvb_ gm xs a rule).1.length d, .bool (zvb_ gm xs a rule).2]) w') :
    CallK Try.prog 21 [grv gm Y cy, .slice X xs.length cx, .int .i64 a, .int .i64 rule] k w :=
  zje_ hG hX hxl fun w' U d g o => hk w' U d g ⟨o.ints, (Row.cap o).1⟩
end
end Go.Proofs.Yteabbgaffgpegaa

namespace Go.Sh
open Go
theorem zdm_ {gm : Gram} {form : List Int} {a rule : Int} (h : a < 0) : zvb_ gm form a rule = ([], false) := by
  unfold zvb_ zcc_
  rw [show inB a 0 ((form.length : Int) - 1) = false from by simp [inB]; omega]
  simp
theorem stepW_first {gm : Gram} {form : List Int} {r rule : Int} (h1 : decide (0 ≤ r) = form.any fun x => decide (0 ≤ x)) (h2 : 0 ≤ r → r < form.length ∧ (decide (0 ≤ form.getD r.toNat 0)) = true ∧ ∀ j : Nat, j < r → (decide (0 ≤ form.getD j 0)) = false) : zvb_ gm form r rule = zvb_ gm form (zib_ form) rule := by
  by_cases h : 0 ≤ r
  · obtain ⟨a1, a2, a3⟩ := h2 h
    have := zmh_ (xs := form) (i := r.toNat) (by omega) (by simpa using a2) fun j hj => by have := a3 j (by omega); simpa using this
    rw [this, show ((r.toNat : Nat) : Int) = r from by omega]
  · have h0 : zib_ form = -1 := zph_ fun j hj => by
      rw [decide_eq_false h, eq_comm, List.any_eq_false] at h1
      have := h1 _ (zcf_ hj)
      simpa using this
    rw [h0, zdm_ (by omega), zdm_ (by omega)]
theorem zig_ {gm : Gram} {form : List Int} {a rule : Int} : (zvb_ gm form a rule).1.length ≤ 40 := by
  unfold zvb_
  split
  · rename_i h
    simp only [Bool.and_eq_true, decide_eq_true_eq] at h
    exact h.2
  · simp
theorem zem_ {gm : Gram} {form rs : List Int} {r : Int} : rewL gm form (r :: rs) = if (zvb_ gm form (zib_ form) r).2 = true then rewL gm (zvb_ gm form (zib_ form) r).1 rs else ([], false) := by rw [rewL]
theorem zrg_ {xs : List Int} {i : Nat} (h : i < xs.length) : xs.drop i = xs.getD i 0 :: xs.drop (i + 1) := by
  rw [List.drop_eq_getElem_cons h, List.getD_eq_getElem?_getD, List.getElem?_eq_getElem h]
  rfl
end Go.Sh
namespace Go.Proofs.Yteabbgaffgpegaa
open Go Go.Sh Go.RowKit
section
variable {w : World} {k : Value → World → Prop} {Y X : Option Addr} {cy cx : Nat} {gm : Gram} {rules : List Int}
theorem zaj_ (hG : kG Y cy gm.rules w) (hX : kI X rules cx w) (hk : ∀ w' U d, Gr w w' → kI U (rewV gm rules).1 d w' → k (.tuple #[.slice U (rewV gm rules).1.length d, .bool (rewV gm rules).2]) w') :
    CallK Try.prog 15 [grv gm Y cy, .slice X rules.length cx] k w := by
  refine enter15 ?_
  unfold S15
  have H := ((Kn.nil w).addG hG.1 hG.2).addI hX.1 hX.2
  refine zfc_ fun b1 w1 g1 hb B1 => ?_
  have H := (H.step g1).addB B1
  simp only [List.cons_append, List.nil_append] at H
  rw [zfb_ zyb_ sz26 rfl (H.get 3 rfl)]
  refine zhf_ (gvK (H.get 1 rfl)) fun w2 g => ?_
  have H := H.step g
  unfold rewV at hk
  have hle := hX.1.le
  have no : ∀ w', Gr w w' → (zy_ gm && decide (rules.length ≤ 60)) = false → k (.tuple #[.slice none 0 0, .bool false]) w' := fun w' g h => by
    have := hk w' none 0 g
    rw [h, if_neg Bool.false_ne_true] at this
    exact this ⟨zve_ _, Nat.le_refl _⟩
  cases hg : zy_ gm
  · simp only [Bool.not_false, zq18, zq19, zq20, zq21, zq22, zq23, zq24, zq25, zq26, zq27, zq28, zq4, zq3, zq1, zq2, zq0, zq29, zq30, zq14, zq15, zq16, zq17, zq13, zq10, zq12, zq11, zq7, zq5, zq6, zq9, zq8, zq31, zq32, ite_T, ite_F, zq33, zq34, zq35, Nat.reduceEqDiff, len22, len24, fa26_0, fa26_1, fa26_2, len27, fa86_0, fa86_1, fa86_2, fa97_0, fa97_1, fa103_0, fa103_1, fa103_2, fa103_3, fa103_4, fa103_5, fa103_6, fa106_0, fa106_1]
    exact no _ (H.get 0 rfl) (by rw [hg]; rfl)
  simp only [Bool.not_true, zq18, zq19, zq20, zq21, zq22, zq23, zq24, zq25, zq26, zq27, zq28, zq4, zq3, zq1, zq2, zq0, zq29, zq30, zq14, zq15, zq16, zq17, zq13, zq10, zq12, zq11, zq7, zq5, zq6, zq9, zq8, zq31, zq32, ite_T, ite_F, zq33, zq34, zq35, Nat.reduceEqDiff, len22, len24, fa26_0, fa26_1, fa26_2, len27, fa86_0, fa86_1, fa86_2, fa97_0, fa97_1, fa103_0, fa103_1, fa103_2, fa103_3, fa103_4, fa103_5, fa103_6, fa106_0, fa106_1]
  by_cases hl : (60 : Int) < rules.length
  · simp only [hl, decide_true, zq18, zq19, zq20, zq21, zq22, zq23, zq24, zq25, zq26, zq27, zq28, zq4, zq3, zq1, zq2, zq0, zq29, zq30, zq14, zq15, zq16, zq17, zq13, zq10, zq12, zq11, zq7, zq5, zq6, zq9, zq8, zq31, zq32, ite_T, ite_F, zq33, zq34, zq35, Nat.reduceEqDiff, len22, len24, fa26_0, fa26_1, fa26_2, len27, fa86_0, fa86_1, fa86_2, fa97_0, fa97_1, fa103_0, fa103_1, fa103_2, fa103_3, fa103_4, fa103_5, fa103_6, fa106_0, fa106_1]
    exact no _ (H.get 0 rfl) (by rw [decide_eq_false (by omega), Bool.and_false])
  simp only [hl, decide_false, zq18, zq19, zq20, zq21, zq22, zq23, zq24, zq25, zq26, zq27, zq28, zq4, zq3, zq1, zq2, zq0, zq29, zq30, zq14, zq15, zq16, zq17, zq13, zq10, zq12, zq11, zq7, zq5, zq6, zq9, zq8, zq31, zq32, ite_T, ite_F, zq33, zq34, zq35, Nat.reduceEqDiff, len22, len24, fa26_0, fa26_1, fa26_2, len27, fa86_0, fa86_1, fa86_2, fa97_0, fa97_1, fa103_0, fa103_1, fa103_2, fa103_3, fa103_4, fa103_5, fa103_6, fa106_0, fa106_1]
  rw [hg, decide_eq_true (by omega), Bool.and_self, if_pos rfl] at hk
  refine bs27 [.int .i64 0] (by decide) (by simp [Instr.fill, madeCells, Value.cells, rng1]) rfl fun b9 w3 hb9 hb9' g9 _ hr9 => ?_
  have o9 : Own 3 w3 w2.heap.size (some ⟨b9, 0, none⟩) 1 [0] := hr9 _ (Nat.le_refl _)
  have H := H.step g9
  refine zad_ rules.length 0 (fun i f w' => i ≤ rules.length ∧ f 23 = .int .i64 (i : Int) ∧ ∃ (form : List Int) (U : Option Addr) (d : Nat), f 6 = .slice U form.length d ∧ kI U form d w' ∧ form.length ≤ 40 ∧ Gr w3 w' ∧ rewL gm [0] rules = rewL gm form (rules.drop i))
    ⟨Nat.zero_le _, rfl, [0], _, 1, rfl, ⟨o9.ints, Nat.le_refl _⟩, by decide, Gr.refl _, rfl⟩ ?_
  rintro i f w4 N hag ⟨hi, f23, form, U, d, f6, hU, hfl, hg4, hrew⟩ hN
  have H := H.step hg4
  have f2 : f 2 = ptrv b1 := hag 2 (by decide)
  have f21 : f 21 = .slice X rules.length cx := hag 21 (by decide)
  have f22 : f 22 = .int .i64 rules.length := hag 22 (by decide)
  have hXi := (H.get 2 rfl).1
  simp only [f2, f6, f21, f22, f23, zq18, zq19, zq20, zq21, zq22, zq23, zq24, zq25, zq26, zq27, zq28, zq4, zq3, zq1, zq2, zq0, zq29, zq30, zq14, zq15, zq16, zq17, zq13, zq10, zq12, zq11, zq7, zq5, zq6, zq9, zq8, zq31, zq32, ite_T, ite_F, zq33, zq34, zq35, Nat.reduceEqDiff, len22, len24, fa26_0, fa26_1, fa26_2, len27, fa86_0, fa86_1, fa86_2, fa97_0, fa97_1, fa103_0, fa103_1, fa103_2, fa103_3, fa103_4, fa103_5, fa103_6, fa106_0, fa106_1]
  by_cases hlt : i < rules.length
  case neg =>
    simp only [show ¬ ((i : Int) < (rules.length : Int)) from by omega, decide_false, f6, zq18, zq19, zq20, zq21, zq22, zq23, zq24, zq25, zq26, zq27, zq28, zq4, zq3, zq1, zq2, zq0, zq29, zq30, zq14, zq15, zq16, zq17, zq13, zq10, zq12, zq11, zq7, zq5, zq6, zq9, zq8, zq31, zq32, ite_T, ite_F, zq33, zq34, zq35, Nat.reduceEqDiff, len22, len24, fa26_0, fa26_1, fa26_2, len27, fa86_0, fa86_1, fa86_2, fa97_0, fa97_1, fa103_0, fa103_1, fa103_2, fa103_3, fa103_4, fa103_5, fa103_6, fa106_0, fa106_1]
    rw [List.drop_eq_nil_of_le (by omega), show rewL gm form [] = (form, true) from by rw [rewL]] at hrew
    rw [hrew] at hk
    exact hk w4 U d (H.get 0 rfl) hU
  simp only [show ((i : Int) < (rules.length : Int)) from by omega, decide_true, zq18, zq19, zq20, zq21, zq22, zq23, zq24, zq25, zq26, zq27, zq28, zq4, zq3, zq1, zq2, zq0, zq29, zq30, zq14, zq15, zq16, zq17, zq13, zq10, zq12, zq11, zq7, zq5, zq6, zq9, zq8, zq31, zq32, ite_T, ite_F, zq33, zq34, zq35, Nat.reduceEqDiff, len22, len24, fa26_0, fa26_1, fa26_2, len27, fa86_0, fa86_1, fa86_2, fa97_0, fa97_1, fa103_0, fa103_1, fa103_2, fa103_3, fa103_4, fa103_5, fa103_6, fa106_0, fa106_1]
  rw [zac_ hXi.ptr hlt, ld3 (hXi.cell i hlt)]
  rw [zrg_ hlt] at hrew
  refine zai_ (p := fun x => decide (0 ≤ x)) hU.1 (fun w5 g5 x k hk => callV0 (by
    refine enter62 ?_
    unfold S62
    simp only [zq18, zq19, zq20, zq21, zq22, zq23, zq24, zq25, zq26, zq27, zq28, zq4, zq3, zq1, zq2, zq0, zq29, zq30, zq14, zq15, zq16, zq17, zq13, zq10, zq12, zq11, zq7, zq5, zq6, zq9, zq8, zq31, zq32, ite_T, ite_F, zq33, zq34, zq35, Nat.reduceEqDiff, len22, len24, fa26_0, fa26_1, fa26_2, len27, fa86_0, fa86_1, fa86_2, fa97_0, fa97_1, fa103_0, fa103_1, fa103_2, fa103_3, fa103_4, fa103_5, fa103_6, fa106_0, fa106_1]
    exact hk w5 (Gr.refl _))) fun r w5 g5 h1 h2 => ?_
  have H := H.step g5
  have hst : zvb_ gm form r (rules.getD i 0) = zvb_ gm form (zib_ form) (rules.getD i 0) := stepW_first h1 h2
  rw [zfb_ zyb_ sz26 rfl (H.get 3 rfl)]
  refine zbg_ (H.get 1 rfl) ⟨hU.1.gr g5, hU.2⟩ (by omega) fun w6 V e g6 hV => ?_
  have H := H.step g6
  rw [hst] at hV ⊢
  have hlen := zig_ (gm := gm) (form := form) (a := zib_ form) (rule := rules.getD i 0)
  rw [zem_] at hrew
  cases hs : (zvb_ gm form (zib_ form) (rules.getD i 0)).2
  · simp only [Bool.not_false, zq18, zq19, zq20, zq21, zq22, zq23, zq24, zq25, zq26, zq27, zq28, zq4, zq3, zq1, zq2, zq0, zq29, zq30, zq14, zq15, zq16, zq17, zq13, zq10, zq12, zq11, zq7, zq5, zq6, zq9, zq8, zq31, zq32, ite_T, ite_F, zq33, zq34, zq35, Nat.reduceEqDiff, len22, len24, fa26_0, fa26_1, fa26_2, len27, fa86_0, fa86_1, fa86_2, fa97_0, fa97_1, fa103_0, fa103_1, fa103_2, fa103_3, fa103_4, fa103_5, fa103_6, fa106_0, fa106_1]
    rw [hs, if_neg Bool.false_ne_true] at hrew
    rw [hrew] at hk
    exact hk w6 none 0 (H.get 0 rfl) ⟨zve_ _, Nat.le_refl _⟩
  · simp only [Bool.not_true, f23, zq18, zq19, zq20, zq21, zq22, zq23, zq24, zq25, zq26, zq27, zq28, zq4, zq3, zq1, zq2, zq0, zq29, zq30, zq14, zq15, zq16, zq17, zq13, zq10, zq12, zq11, zq7, zq5, zq6, zq9, zq8, zq31, zq32, ite_T, ite_F, zq33, zq34, zq35, Nat.reduceEqDiff, len22, len24, fa26_0, fa26_1, fa26_2, len27, fa86_0, fa86_1, fa86_2, fa97_0, fa97_1, fa103_0, fa103_1, fa103_2, fa103_3, fa103_4, fa103_5, fa103_6, fa106_0, fa106_1]
    rw [zp_ (by omega) (by omega)]
    rw [hs, if_pos rfl] at hrew
    exact hN _ _ hlt ⟨by omega, rfl, _, V, e, rfl, hV, hlen, ze_ hg4 (ze_ g5 g6), hrew⟩
theorem zbj_ (hG : kG Y cy gm.rules w) (hX : kI X rules cx w) (hk : ∀ w' U d, Gr w w' → kI U (rewV gm rules).1 d w' → k (.tuple #[.slice U (rewV gm rules).1.length d, .bool (rewV gm rules).2]) w') :
    CallK Try.prog 16 [grv gm Y cy, .slice X rules.length cx] k w := by
  refine enter16 ?_
  unfold S16
  have H := ((Kn.nil w).addG hG.1 hG.2).addI hX.1 hX.2
  refine zfc_ fun b1 w1 g1 hb B1 => ?_
  have H := (H.step g1).addB B1
  simp only [List.cons_append, List.nil_append] at H
  rw [zfb_ zyb_ sz26 rfl (H.get 3 rfl)]
  refine zkf_ (gvK (H.get 1 rfl)) fun w2 g => ?_
  have H := H.step g
  unfold rewV at hk
  have hle := hX.1.le
  have no : ∀ w', Gr w w' → (zy_ gm && decide (rules.length ≤ 60)) = false → k (.tuple #[.slice none 0 0, .bool false]) w' := fun w' g h => by
    have := hk w' none 0 g
    rw [h, if_neg Bool.false_ne_true] at this
    exact this ⟨zve_ _, Nat.le_refl _⟩
  cases hg : zy_ gm
  · simp only [Bool.not_false, zq18, zq19, zq20, zq21, zq22, zq23, zq24, zq25, zq26, zq27, zq28, zq4, zq3, zq1, zq2, zq0, zq29, zq30, zq14, zq15, zq16, zq17, zq13, zq10, zq12, zq11, zq7, zq5, zq6, zq9, zq8, zq31, zq32, ite_T, ite_F, zq33, zq34, zq35, Nat.reduceEqDiff, len22, len24, fa26_0, fa26_1, fa26_2, len27, fa86_0, fa86_1, fa86_2, fa97_0, fa97_1, fa103_0, fa103_1, fa103_2, fa103_3, fa103_4, fa103_5, fa103_6, fa106_0, fa106_1]
    exact no _ (H.get 0 rfl) (by rw [hg]; rfl)
  simp only [Bool.not_true, zq18, zq19, zq20, zq21, zq22, zq23, zq24, zq25, zq26, zq27, zq28, zq4, zq3, zq1, zq2, zq0, zq29, zq30, zq14, zq15, zq16, zq17, zq13, zq10, zq12, zq11, zq7, zq5, zq6, zq9, zq8, zq31, zq32, ite_T, ite_F, zq33, zq34, zq35, Nat.reduceEqDiff, len22, len24, fa26_0, fa26_1, fa26_2, len27, fa86_0, fa86_1, fa86_2, fa97_0, fa97_1, fa103_0, fa103_1, fa103_2, fa103_3, fa103_4, fa103_5, fa103_6, fa106_0, fa106_1]
  by_cases hl : (60 : Int) < rules.length
  · simp only [hl, decide_true, zq18, zq19, zq20, zq21, zq22, zq23, zq24, zq25, zq26, zq27, zq28, zq4, zq3, zq1, zq2, zq0, zq29, zq30, zq14, zq15, zq16, zq17, zq13, zq10, zq12, zq11, zq7, zq5, zq6, zq9, zq8, zq31, zq32, ite_T, ite_F, zq33, zq34, zq35, Nat.reduceEqDiff, len22, len24, fa26_0, fa26_1, fa26_2, len27, fa86_0, fa86_1, fa86_2, fa97_0, fa97_1, fa103_0, fa103_1, fa103_2, fa103_3, fa103_4, fa103_5, fa103_6, fa106_0, fa106_1]
    exact no _ (H.get 0 rfl) (by rw [decide_eq_false (by omega), Bool.and_false])
  simp only [hl, decide_false, zq18, zq19, zq20, zq21, zq22, zq23, zq24, zq25, zq26, zq27, zq28, zq4, zq3, zq1, zq2, zq0, zq29, zq30, zq14, zq15, zq16, zq17, zq13, zq10, zq12, zq11, zq7, zq5, zq6, zq9, zq8, zq31, zq32, ite_T, ite_F, zq33, zq34, zq35, Nat.reduceEqDiff, len22, len24, fa26_0, fa26_1, fa26_2, len27, fa86_0, fa86_1, fa86_2, fa97_0, fa97_1, fa103_0, fa103_1, fa103_2, fa103_3, fa103_4, fa103_5, fa103_6, fa106_0, fa106_1]
  rw [hg, decide_eq_true (by omega), Bool.and_self, if_pos rfl] at hk
  refine bs27 [.int .i64 0] (by decide) (by simp [Instr.fill, madeCells, Value.cells, rng1]) rfl fun b9 w3 hb9 hb9' g9 _ hr9 => ?_
  have o9 : Own 3 w3 w2.heap.size (some ⟨b9, 0, none⟩) 1 [0] := hr9 _ (Nat.le_refl _)
  have H := H.step g9
  refine zad_ rules.length 0 (fun i f w' => i ≤ rules.length ∧ f 22 = .int .i64 (i : Int) ∧ ∃ (form : List Int) (U : Option Addr) (d : Nat), f 6 = .slice U form.length d ∧ kI U form d w' ∧ form.length ≤ 40 ∧ Gr w3 w' ∧ rewL gm [0] rules = rewL gm form (rules.drop i))
    ⟨Nat.zero_le _, rfl, [0], _, 1, rfl, ⟨o9.ints, Nat.le_refl _⟩, by decide, Gr.refl _, rfl⟩ ?_
  rintro i f w4 N hag ⟨hi, f22, form, U, d, f6, hU, hfl, hg4, hrew⟩ hN
  have H := H.step hg4
  have f2 : f 2 = ptrv b1 := hag 2 (by decide)
  have f20 : f 20 = .slice X rules.length cx := hag 20 (by decide)
  have f21 : f 21 = .int .i64 rules.length := hag 21 (by decide)
  have hXi := (H.get 2 rfl).1
  simp only [f2, f6, f20, f21, f22, zq18, zq19, zq20, zq21, zq22, zq23, zq24, zq25, zq26, zq27, zq28, zq4, zq3, zq1, zq2, zq0, zq29, zq30, zq14, zq15, zq16, zq17, zq13, zq10, zq12, zq11, zq7, zq5, zq6, zq9, zq8, zq31, zq32, ite_T, ite_F, zq33, zq34, zq35, Nat.reduceEqDiff, len22, len24, fa26_0, fa26_1, fa26_2, len27, fa86_0, fa86_1, fa86_2, fa97_0, fa97_1, fa103_0, fa103_1, fa103_2, fa103_3, fa103_4, fa103_5, fa103_6, fa106_0, fa106_1]
  by_cases hlt : i < rules.length
  case neg =>
    simp only [show ¬ ((i : Int) < (rules.length : Int)) from by omega, decide_false, f6, zq18, zq19, zq20, zq21, zq22, zq23, zq24, zq25, zq26, zq27, zq28, zq4, zq3, zq1, zq2, zq0, zq29, zq30, zq14, zq15, zq16, zq17, zq13, zq10, zq12, zq11, zq7, zq5, zq6, zq9, zq8, zq31, zq32, ite_T, ite_F, zq33, zq34, zq35, Nat.reduceEqDiff, len22, len24, fa26_0, fa26_1, fa26_2, len27, fa86_0, fa86_1, fa86_2, fa97_0, fa97_1, fa103_0, fa103_1, fa103_2, fa103_3, fa103_4, fa103_5, fa103_6, fa106_0, fa106_1]
    rw [List.drop_eq_nil_of_le (by omega), show rewL gm form [] = (form, true) from by rw [rewL]] at hrew
    rw [hrew] at hk
    exact hk w4 U d (H.get 0 rfl) hU
  simp only [show ((i : Int) < (rules.length : Int)) from by omega, decide_true, zq18, zq19, zq20, zq21, zq22, zq23, zq24, zq25, zq26, zq27, zq28, zq4, zq3, zq1, zq2, zq0, zq29, zq30, zq14, zq15, zq16, zq17, zq13, zq10, zq12, zq11, zq7, zq5, zq6, zq9, zq8, zq31, zq32, ite_T, ite_F, zq33, zq34, zq35, Nat.reduceEqDiff, len22, len24, fa26_0, fa26_1, fa26_2, len27, fa86_0, fa86_1, fa86_2, fa97_0, fa97_1, fa103_0, fa103_1, fa103_2, fa103_3, fa103_4, fa103_5, fa103_6, fa106_0, fa106_1]
  rw [zac_ hXi.ptr hlt, ld3 (hXi.cell i hlt)]
  rw [zrg_ hlt] at hrew
  have H := H.drew
  have B2 := H.get 3 rfl
  have hU : kI U form d w4.drew := ⟨hU.1.gr (zhb_ _), hU.2⟩
  refine ⟨fun w' => Gr w4.drew w', Gr.refl _, ?_⟩
  refine rdi (rdS26 rfl fun w' h => B2.gr h) ?_
  refine zcm_ hU.1 fun w5 g5 => ?_
  have H := H.step g5
  refine ⟨g5, ?_⟩
  refine zcg_ (H.get 1 rfl) ⟨hU.1.gr g5, hU.2⟩ (by omega) fun w6 V e g6 hV => ?_
  have H := H.step g6
  have hlen := zig_ (gm := gm) (form := form) (a := zib_ form) (rule := rules.getD i 0)
  rw [zem_] at hrew
  cases hs : (zvb_ gm form (zib_ form) (rules.getD i 0)).2
  · simp only [Bool.not_false, zq18, zq19, zq20, zq21, zq22, zq23, zq24, zq25, zq26, zq27, zq28, zq4, zq3, zq1, zq2, zq0, zq29, zq30, zq14, zq15, zq16, zq17, zq13, zq10, zq12, zq11, zq7, zq5, zq6, zq9, zq8, zq31, zq32, ite_T, ite_F, zq33, zq34, zq35, Nat.reduceEqDiff, len22, len24, fa26_0, fa26_1, fa26_2, len27, fa86_0, fa86_1, fa86_2, fa97_0, fa97_1, fa103_0, fa103_1, fa103_2, fa103_3, fa103_4, fa103_5, fa103_6, fa106_0, fa106_1]
    rw [hs, if_neg Bool.false_ne_true] at hrew
    rw [hrew] at hk
    exact hk w6 none 0 (H.get 0 rfl) ⟨zve_ _, Nat.le_refl _⟩
  · simp only [Bool.not_true, f22, zq18, zq19, zq20, zq21, zq22, zq23, zq24, zq25, zq26, zq27, zq28, zq4, zq3, zq1, zq2, zq0, zq29, zq30, zq14, zq15, zq16, zq17, zq13, zq10, zq12, zq11, zq7, zq5, zq6, zq9, zq8, zq31, zq32, ite_T, ite_F, zq33, zq34, zq35, Nat.reduceEqDiff, len22, len24, fa26_0, fa26_1, fa26_2, len27, fa86_0, fa86_1, fa86_2, fa97_0, fa97_1, fa103_0, fa103_1, fa103_2, fa103_3, fa103_4, fa103_5, fa103_6, fa106_0, fa106_1]
    rw [zp_ (by omega) (by omega)]
    rw [hs, if_pos rfl] at hrew
    exact hN _ _ hlt ⟨by omega, rfl, _, V, e, rfl, hV, hlen, ze_ hg4 (ze_ (zhb_ _) (ze_ g5 g6)), hrew⟩
end
end Go.Proofs.Yteabbgaffgpegaa

namespace Go.Sh
abbrev CT := Nat → Nat → Nat → Option Nat
def CT.put (T : CT) (A i j n : Nat) : CT := fun A' i' j' => if A' = A ∧ i' = i ∧ j' = j then some n else T A' i' j'
def better (n : Nat) : Option Nat → Bool
  | none => true
  | some o => decide (n < o)
abbrev GS := CT × Bool
abbrev CandG := CT → Nat → Nat → Nat → Option Nat
def stepG (c : CandG) (rs : List RuleL) (q i : Nat) (s : GS) (j : Nat) : GS :=
  match c s.1 q i j with
  | none => s
  | some n => if better n (s.1 (rul rs q).1.toNat i j) then (s.1.put (rul rs q).1.toNat i j n, true) else s
def rowG (c : CandG) (rs : List RuleL) (n q : Nat) (s : GS) (i : Nat) : GS := (List.range' i (n - i)).foldl (stepG c rs q i) s
def ruleG (c : CandG) (rs : List RuleL) (n : Nat) (s : GS) (q : Nat) : GS := (List.range n).foldl (rowG c rs n q) s
def passG (c : CandG) (rs : List RuleL) (n : Nat) (s : GS) : GS := (List.range rs.length).foldl (ruleG c rs n) s
inductive FixG (c : CandG) (rs : List RuleL) (n : Nat) : CT → CT → Prop
  | done {T : CT} : (passG c rs n (T, false)).2 = false → FixG c rs n T (passG c rs n (T, false)).1
  | more {T U : CT} : (passG c rs n (T, false)).2 = true → FixG c rs n (passG c rs n (T, false)).1 U → FixG c rs n T U
theorem FixG.det {c : CandG} {rs : List RuleL} {n : Nat} {T U V : CT} (h : FixG c rs n T U) (g : FixG c rs n T V) : U = V := by
  induction h with
  | done h1 =>
    cases g with
    | done g1 => rfl
    | more g1 g2 => rw [h1] at g1; cases g1
  | more h1 h2 ih =>
    cases g with
    | done g1 => rw [h1] at g1; cases g1
    | more g1 g2 => exact ih g2
def eB : Nat → Nat
  | 0 => 1
  | s + 1 => 100 + 4 * eB s
def gB (l s : Nat) : Nat := if l = 0 then eB s else 6749808 * (l - 1) + 562484 * s + l
def cntG (T : CT) (i j : Nat) : Nat := sumN (fun A => if (T A i j).isSome then 1 else 0) 6
theorem sumN_le {f g : Nat → Nat} : ∀ {n : Nat}, (∀ k, k < n → f k ≤ g k) → sumN f n ≤ sumN g n := by
  intro n
  induction n with
  | zero => intro _; exact Nat.le_refl _
  | succ n ih =>
    intro h
    have := ih fun k hk => h k (by omega)
    have := h n (by omega)
    rw [sumN, sumN]
    omega
theorem sumN_one {f g : Nat → Nat} {p d : Nat} : ∀ {n : Nat}, p < n → (∀ k, k < n → k ≠ p → f k = g k) → f p + d = g p → sumN f n + d = sumN g n := by
  intro n
  induction n with
  | zero => intro h; omega
  | succ n ih =>
    intro h h1 h2
    rw [sumN, sumN]
    by_cases hp : p = n
    · subst hp
      rw [zye_ fun k hk => h1 k (by omega) (by omega)]
      omega
    · have := ih (by omega) (fun k hk => h1 k (by omega)) h2
      have := h1 n (by omega) (by omega)
      omega
theorem cntG_le (T : CT) (i j : Nat) : cntG T i j ≤ 6 := by
  have := sumN_le (f := fun A => if (T A i j).isSome then 1 else 0) (g := fun _ => 1) (n := 6) (fun k _ => by split <;> omega)
  exact this
theorem eB_mono : ∀ {s t : Nat}, s ≤ t → eB s ≤ eB t := by
  intro s t h
  induction h with
  | refl => exact Nat.le_refl _
  | step _ ih => rw [eB]; omega
theorem eB6 : eB 6 = 140596 := by decide
theorem gB_mono {l s t : Nat} (h : s ≤ t) : gB l s ≤ gB l t := by
  unfold gB
  split
  · exact eB_mono h
  · omega
theorem gB_zero (s : Nat) : gB 0 s = eB s := if_pos rfl
theorem gB_pos {l s : Nat} (h : 0 < l) : gB l s = 6749808 * (l - 1) + 562484 * s + l := if_neg (by omega)
def SmallG (T : CT) : Prop := ∀ A i j n, i ≤ j → T A i j = some n → n ≤ gB (j - i) (cntG T i j)
theorem SmallG.six {T : CT} (h : SmallG T) {A i j n : Nat} (hij : i ≤ j) (hT : T A i j = some n) : n ≤ gB (j - i) 6 := Nat.le_trans (h A i j n hij hT) (gB_mono (cntG_le T i j))
section
variable {tok : Int → Nat → Nat → Option Nat} {nl : Nat → Nat → Option Nat} {T : CT}
end
theorem SmallG.le {T : CT} (h : SmallG T) {A i j n : Nat} (hij : i ≤ j) (hj : j ≤ 10) (hT : T A i j = some n) : n ≤ 100000000 := by
  have := h.six hij hT
  by_cases e : i = j
  · subst e
    rw [Nat.sub_self, gB_zero, eB6] at this
    omega
  · rw [gB_pos (by omega)] at this
    omega
theorem cntG_put {T : CT} {A i j n : Nat} (hA : A < 6) : cntG (T.put A i j n) i j + (if (T A i j).isSome then 1 else 0) = cntG T i j + 1 := by
  unfold cntG
  by_cases h : (T A i j).isSome
  · rw [if_pos h]
    congr 1
    refine zye_ fun k hk => ?_
    unfold CT.put
    by_cases e : k = A
    · subst e
      simp [h]
    · simp [e]
  · rw [if_neg h]
    symm
    refine sumN_one (p := A) hA (fun k hk hne => ?_) ?_
    · simp [CT.put, hne]
    · simp [CT.put, h]
theorem cntG_other {T : CT} {A i j n i' j' : Nat} (h : ¬ (i' = i ∧ j' = j)) : cntG (T.put A i j n) i' j' = cntG T i' j' := by
  unfold cntG
  refine zye_ fun k hk => ?_
  have : T.put A i j n k i' j' = T k i' j' := if_neg fun e => h e.2
  rw [this]
theorem smallG_put {T : CT} (h : SmallG T) {A i j n : Nat} (hA : A < 6) (hn : n ≤ gB (j - i) (cntG T i j + 1)) (hb : better n (T A i j) = true) : SmallG (T.put A i j n) := by
  intro A' i' j' m hij hm
  by_cases e : i' = i ∧ j' = j
  · obtain ⟨rfl, rfl⟩ := e
    have hc := cntG_put (T := T) (i := i') (j := j') (n := n) hA
    have hmono : gB (j' - i') (cntG T i' j') ≤ gB (j' - i') (cntG (T.put A i' j' n) i' j') := gB_mono (by split at hc <;> omega)
    unfold CT.put at hm
    by_cases e2 : A' = A
    · subst e2
      rw [if_pos ⟨rfl, rfl, rfl⟩] at hm
      cases hm
      cases ho : T A' i' j' with
      | none =>
        rw [ho] at hc
        rw [if_neg (by simp)] at hc
        rwa [show cntG (T.put A' i' j' n) i' j' = cntG T i' j' + 1 from by omega]
      | some o =>
        rw [ho] at hb
        have := h _ _ _ _ hij ho
        unfold better at hb
        have := of_decide_eq_true hb
        omega
    · rw [if_neg fun e => e2 e.1] at hm
      have := h _ _ _ _ hij hm
      omega
  · rw [cntG_other e]
    unfold CT.put at hm
    rw [if_neg fun e' => e e'.2] at hm
    exact h _ _ _ _ hij hm
def cellG (T : CT) (p : Nat) : Nat := match T (p / 121) (p / 11 % 11) (p % 11) with | none => 100000001 | some n => n
def sumG (T : CT) : Nat := sumN (cellG T) 726
theorem cellG_at {T : CT} {A i j : Nat} (hi : i < 11) (hj : j < 11) : cellG T (A * 121 + i * 11 + j) = match T A i j with | none => 100000001 | some n => n := by
  unfold cellG
  rw [show (A * 121 + i * 11 + j) / 121 = A from by omega, show (A * 121 + i * 11 + j) / 11 % 11 = i from by omega, show (A * 121 + i * 11 + j) % 11 = j from by omega]
theorem sumG_put {T : CT} {A i j n : Nat} (hA : A < 6) (hi : i < 11) (hj : j < 11) (hn : n ≤ 100000000) (hb : better n (T A i j) = true) : sumG (T.put A i j n) < sumG T := by
  unfold sumG
  have h1 : cellG (T.put A i j n) (A * 121 + i * 11 + j) = n := by
    rw [cellG_at hi hj]
    simp [CT.put]
  have h2 : n < cellG T (A * 121 + i * 11 + j) := by
    rw [cellG_at hi hj]
    cases ho : T A i j with
    | none => show n < 100000001; omega
    | some o =>
      rw [ho] at hb
      exact of_decide_eq_true hb
  have := sumN_one (f := cellG (T.put A i j n)) (g := cellG T) (p := A * 121 + i * 11 + j) (d := cellG T (A * 121 + i * 11 + j) - n) (n := 726) (by omega) (fun k hk hne => by
    unfold cellG CT.put
    rw [if_neg (by omega)]) (by omega)
  omega
def DropG (s s' : GS) : Prop := s' = s ∨ (s'.2 = true ∧ sumG s'.1 < sumG s.1)
theorem DropG.trans {a b c : GS} (h : DropG a b) (g : DropG b c) : DropG a c := by
  rcases h with rfl | ⟨h1, h2⟩
  · exact g
  · rcases g with rfl | ⟨g1, g2⟩
    · exact .inr ⟨h1, h2⟩
    · exact .inr ⟨g1, by omega⟩
theorem DropG.fold {α : Type} {I : CT → Prop} {f : GS → α → GS} : ∀ {l : List α} {s : GS}, (∀ a ∈ l, ∀ s, I s.1 → I (f s a).1 ∧ DropG s (f s a)) → I s.1 → I (l.foldl f s).1 ∧ DropG s (l.foldl f s) := by
  intro l
  induction l with
  | nil => intro s _ h; exact ⟨h, .inl rfl⟩
  | cons a l ih =>
    intro s hs h
    obtain ⟨h1, h2⟩ := hs a (List.mem_cons_self ..) s h
    obtain ⟨h3, h4⟩ := ih (fun b hb => hs b (List.mem_cons_of_mem _ hb)) h1
    exact ⟨h3, h2.trans h4⟩
def OfferG (c : CandG) (rs : List RuleL) (n : Nat) : Prop := (∀ q, q < rs.length → (rul rs q).1.toNat < 6) ∧ n ≤ 11 ∧ ∀ T q i j m, SmallG T → q < rs.length → i ≤ j → j < n → c T q i j = some m → m ≤ gB (j - i) (cntG T i j + 1)
section
variable {c : CandG} {rs : List RuleL} {n : Nat}
theorem stepG_drop (hc : OfferG c rs n) {q i j : Nat} (hq : q < rs.length) (hij : i ≤ j) (hj : j < n) {s : GS} (hs : SmallG s.1) : SmallG (stepG c rs q i s j).1 ∧ DropG s (stepG c rs q i s j) := by
  unfold stepG
  split
  · exact ⟨hs, .inl rfl⟩
  · rename_i m hm
    split
    · rename_i hb
      have h1 := smallG_put hs (hc.1 q hq) (hc.2.2 _ _ _ _ _ hs hq hij hj hm) hb
      refine ⟨h1, .inr ⟨rfl, sumG_put (hc.1 q hq) (by have := hc.2.1; omega) (by have := hc.2.1; omega) ?_ hb⟩⟩
      exact h1.le (A := (rul rs q).1.toNat) hij (by have := hc.2.1; omega) (by simp [CT.put])
    · exact ⟨hs, .inl rfl⟩
theorem rowG_drop (hc : OfferG c rs n) {q : Nat} (hq : q < rs.length) {s : GS} (hs : SmallG s.1) (i : Nat) : SmallG (rowG c rs n q s i).1 ∧ DropG s (rowG c rs n q s i) :=
  DropG.fold (I := SmallG) (fun j hj s hs => by
    rw [List.mem_range'_1] at hj
    exact stepG_drop hc hq hj.1 (by omega) hs) hs
theorem ruleG_drop (hc : OfferG c rs n) {q : Nat} (hq : q < rs.length) {s : GS} (hs : SmallG s.1) : SmallG (ruleG c rs n s q).1 ∧ DropG s (ruleG c rs n s q) :=
  DropG.fold (I := SmallG) (fun i hi s hs => rowG_drop hc hq hs i) hs
theorem zrf_ (hc : OfferG c rs n) {s : GS} (hs : SmallG s.1) : SmallG (passG c rs n s).1 ∧ DropG s (passG c rs n s) :=
  DropG.fold (I := SmallG) (fun q hq s hs => ruleG_drop hc (List.mem_range.1 hq) hs) hs
theorem FixG.small (hc : OfferG c rs n) {T U : CT} (h : FixG c rs n T U) (hT : SmallG T) : SmallG U := by
  induction h with
  | done h1 => exact (zrf_ hc (s := (_, false)) hT).1
  | more h1 h2 ih => exact ih (zrf_ hc (s := (_, false)) hT).1
theorem DropG.still {α : Type} {I : CT → Prop} {f : GS → α → GS} : ∀ {l : List α} {s : GS}, (∀ a ∈ l, ∀ s, I s.1 → I (f s a).1 ∧ DropG s (f s a)) → I s.1 → s.2 = false → (l.foldl f s).2 = false → ∀ a ∈ l, f s a = s := by
  intro l
  induction l with
  | nil => intro s _ _ _ _ a ha; simp at ha
  | cons b l ih =>
    intro s hs h0 h he a ha
    rw [List.foldl_cons] at he
    have hb : f s b = s := by
      rcases (hs b (List.mem_cons_self ..) s h0).2 with e | ⟨e, _⟩
      · exact e
      · exfalso
        rcases (DropG.fold (fun c hc => hs c (List.mem_cons_of_mem _ hc)) (hs b (List.mem_cons_self ..) s h0).1).2 with e' | ⟨e', _⟩
        · rw [e', e] at he
          cases he
        · rw [e'] at he
          cases he
    rcases List.mem_cons.1 ha with rfl | ha
    · exact hb
    · rw [hb] at he
      exact ih (fun c hc => hs c (List.mem_cons_of_mem _ hc)) h0 h he a ha
theorem FixG.closed (hc : OfferG c rs n) {T U : CT} (h : FixG c rs n T U) (hT : SmallG T) : (passG c rs n (U, false)).2 = false := by
  induction h with
  | done h1 =>
    rename_i T
    have h2 : (passG c rs n (T, false)).1 = T := by
      rcases (zrf_ hc (s := (T, false)) hT).2 with e | ⟨e, _⟩
      · rw [e]
      · rw [e] at h1
        cases h1
    rw [h2]
    exact h1
  | more h1 h2 ih => exact ih (zrf_ hc (s := (_, false)) hT).1
end
open Go
def costQ (cs : List Int) (q : Nat) : Nat := (cs.getD q 0).toNat
section
variable {rs : List RuleL} {ws cs : List Int} {T : CT}
end
structure TabE (enc : Option Nat → Int) (w : World) (U : Option Addr) (nons n : Nat) (T : CT) : Prop where
  ptr : 0 < nons → U = some (ad U)
  row : ∀ x, x < nons → ∃ R c, w.cell? ((ad U).add x) = some (.slice R (n * n) c) ∧ R = some (ad R) ∧ ∀ i j, i < n → j < n → w.cell? ((ad R).add (i * n + j)) = some (.int .i64 (enc (T x i j)))
  cap : ∀ x R c, x < nons → w.cell? ((ad U).add x) = some (.slice R (n * n) c) → n * n ≤ c
theorem TabE.gr {enc : Option Nat → Int} {w w' : World} {U : Option Addr} {nons n : Nat} {T : CT} (h : TabE enc w U nons n T) (g : Gr w w') : TabE enc w' U nons n T := ⟨h.ptr, fun x hx => by
  obtain ⟨R, c, h1, h2, h3⟩ := h.row x hx
  exact ⟨R, c, g.cell h1, h2, fun i j hi hj => g.cell (h3 i j hi hj)⟩, fun x R c hx hc => by
  obtain ⟨R', c', h1, _, _⟩ := h.row x hx
  have h4 := g.cell h1
  rw [hc] at h4
  cases h4
  exact h.cap x _ _ hx h1⟩
section
variable {enc : Option Nat → Int} {T : CT}
end
def rowN (enc : Option Nat → Int) (T : CT) (n x : Nat) : List Int := (List.range (n * n)).map fun p => enc (T x (p / n) (p % n))
theorem zfi_ (enc : Option Nat → Int) (T : CT) (n x : Nat) : (rowN enc T n x).length = n * n := by simp [rowN]
theorem TabE.ints {enc : Option Nat → Int} {w : World} {U : Option Addr} {nons n : Nat} {T : CT} (h : TabE enc w U nons n T) (hn : n ≤ 11) {x : Nat} (hx : x < nons) : ∃ R c, w.cell? ((ad U).add x) = some (.slice R (n * n) c) ∧ n * n ≤ c ∧ Ints w R (rowN enc T n x) := by
  obtain ⟨R, c, h1, h2, h3⟩ := h.row x hx
  have hnn : n * n ≤ 11 * 11 := Nat.mul_le_mul hn hn
  refine ⟨R, c, h1, h.cap x R c hx h1, by rw [zfi_]; omega, fun _ => h2, fun j hj => ?_⟩
  rw [zfi_] at hj
  have hn0 : 0 < n := by
    cases n with
    | zero => simp at hj
    | succ n => omega
  have h4 := h3 (j / n) (j % n) (Nat.div_lt_of_lt_mul hj) (Nat.mod_lt _ hn0)
  rw [Nat.mul_comm (j / n), Nat.div_add_mod] at h4
  rw [h4]
  congr 2
  simp [rowN, List.getD_eq_getElem?_getD, hj]
end Go.Sh
namespace Go.Proofs.Yteabbgaffgpegaa
open Go Go.Sh Go.RowKit
open Go Go.Sh

end Go.Proofs.Yteabbgaffgpegaa

namespace Go.Sh
open Go
end Go.Sh
namespace Go.Proofs.Yteabbgaffgpegaa
open Go Go.Sh Go.RowKit
end Go.Proofs.Yteabbgaffgpegaa

namespace Go.Sh
open Go
section
variable {c : CandG} {rs : List RuleL} {n : Nat}
end
end Go.Sh
namespace Go.Proofs.Yteabbgaffgpegaa
open Go Go.Sh Go.RowKit
end Go.Proofs.Yteabbgaffgpegaa

namespace Go.Sh
open Go
section
variable {ws cs : List Int} {rs : List RuleL} {n : Nat}
end
structure CostsOk (gm : Gram) (cs : List Int) : Prop where
  len : cs.length = gm.rules.length
  all : ∀ c ∈ cs, 1 ≤ c ∧ c ≤ 100
theorem CostsOk.at {gm : Gram} {cs : List Int} (h : CostsOk gm cs) {q : Nat} (hq : q < gm.rules.length) : cs.getD q 0 = (costQ cs q : Int) ∧ 0 < costQ cs q ∧ costQ cs q ≤ 100 := by
  have hq' : q < cs.length := by rw [h.len]; exact hq
  have hm : cs.getD q 0 ∈ cs := by
    rw [List.getD_eq_getElem?_getD, List.getElem?_eq_getElem hq', Option.getD_some]
    exact List.getElem_mem hq'
  have := h.all _ hm
  unfold costQ
  omega
end Go.Sh
namespace Go.Proofs.Yteabbgaffgpegaa
open Go Go.Sh Go.RowKit
end Go.Proofs.Yteabbgaffgpegaa
