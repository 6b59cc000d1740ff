/- Bd: bodies of functions as terms of the frame calculus, printed by shgen.py of this repository. -/
import Derived.Test.YtiohaeckagjebaaProg
import Derived.Test.YtiohaeckagjebaaSh1
import Derived.Test.YtiohaeckagjebaaShA
set_option linter.unusedVariables false
set_option maxRecDepth 100000
namespace Go.Proofs.Ytiohaeckagjebaa
open Go Go.Sh

/-! loop.example/g00758/laws.FnExactJoinOf -/
def pl6 : Plans := fun i => match i with
  | 8 => ⟨true, [], .step 0 .held (.step 2 .held (.fork 1 (.fork 3 (.fork 4 (.step 5 .any (.step 6 .any (.step 7 .any (.step 8 .one (.step 9 .one (.step 10 .any (.nil))))))) 8 (.step 4 .one (.step 5 .any (.step 6 .any (.step 7 .any (.step 9 .one (.step 10 .any (.nil)))))))) 8 (.step 3 .one (.step 4 .one (.step 5 .any (.step 6 .any (.step 7 .any (.step 9 .one (.step 10 .any (.nil))))))))) 8 (.step 1 .one (.step 3 .one (.step 4 .one (.step 5 .any (.step 6 .any (.step 7 .any (.step 9 .one (.step 10 .any (.nil)))))))))))⟩
  | 14 => ⟨true, [3], .step 0 .held (.step 1 .held (.step 2 .one (.step 3 .last (.step 4 .any (.nil)))))⟩
  | 16 => ⟨true, [3], .step 0 .held (.step 1 .held (.step 2 .one (.step 3 .last (.step 4 .any (.nil)))))⟩
  | 31 => ⟨true, [], .step 0 .held (.step 2 .held (.fork 1 (.fork 3 (.fork 4 (.step 5 .any (.step 6 .any (.step 7 .any (.step 8 .one (.step 9 .one (.step 10 .any (.nil))))))) 8 (.step 4 .one (.step 5 .any (.step 6 .any (.step 7 .any (.step 9 .one (.step 10 .any (.nil)))))))) 8 (.step 3 .one (.step 4 .one (.step 5 .any (.step 6 .any (.step 7 .any (.step 9 .one (.step 10 .any (.nil))))))))) 8 (.step 1 .one (.step 3 .one (.step 4 .one (.step 5 .any (.step 6 .any (.step 7 .any (.step 9 .one (.step 10 .any (.nil)))))))))))⟩
  | _ => ⟨false, [], .nil⟩
def S6 (v0 v1 : Value) (k : Value → World → Prop) (w : World) : Prop :=
 Do Try.prog (sBox 31 v0) (fun t1 w2 =>
 Do Try.prog (sBox 31 v1) (fun t3 w4 =>
 Rd Try.prog (WS.at w4) (sLoad 31 t1) fun t5 =>
 CallK Try.prog 29 [t5, (.int .i64 1048576)] (fun t6 w7 =>
 Rd Try.prog (WS.at w7) (sBin .lss 3 true t6 (.int .i64 0)) fun t8 =>
 CondK t8
  (k (.bool true) w7)
  (Rd Try.prog (WS.at w7) (sLoad 31 t3) fun t9 =>
  CallK Try.prog 29 [t9, t6] (fun t10 w11 =>
  Rd Try.prog (WS.at w11) (sBin .lss 3 true t10 (.int .i64 0)) fun t12 =>
  CondK t12
   (k (.bool true) w11)
   (Join (fun K15 =>
   ∃ S13 : World → Prop, ∃ h14 : S13 w11.drew,
   Rd Try.prog ⟨S13, w11.drew, h14⟩ (sLoad 31 t1) fun t18 =>
   Rd Try.prog ⟨S13, w11.drew, h14⟩ (sLoad 31 t3) fun t19 =>
   ((CallK Try.prog 31 [t18] (fun t20 w21 =>
   S13 w21 ∧ ((CallK Try.prog 31 [t19] (fun t22 w23 =>
   S13 w23 ∧ ((CallK Try.prog 38 [t20, t22] (fun t24 w25 =>
   S13 w25 ∧ Rd Try.prog WS.any (sExtract t24 0) fun t26 =>
   Rd Try.prog WS.any (sExtract t24 1) fun t27 =>
   Do Try.prog (sAlloc 37) (fun t28 w29 =>
   S13 w29 ∧ Do Try.prog (sStore 37 t28 t26) (fun _ w30 =>
   S13 w30 ∧ K15 (F.upd (F.upd (F.upd (F.upd (F.upd (F.upd (F.upd (F.upd (F.upd (F.upd (F.upd (F.upd (F.upd (F.upd (F.upd (F.upd (F.upd (F.upd (F.upd (F.upd (F.upd (F.upd (F.upd (F.upd (F.upd (F.upd (initF [v0, v1]) 2 t1) 3 t3) 4 (.bool false)) 5 (.int .i64 1048576)) 17 t5) 18 (.int .i64 1048576)) 19 t6) 5 t6) 20 t6) 21 t8) 22 t9) 23 t6) 24 t10) 5 t10) 25 t10) 26 t12) 28 t18) 30 t19) 29 t20) 31 t22) 32 t24) 27 t24) 33 t26) 34 t27) 6 t28) 7 t27) w30) w29) w25) w23) ∧
   (Do Try.prog (sAlloc 37) (fun t31 w32 =>
   S13 w32 ∧ CallK Try.prog 38 [t20, t22] (fun t33 w34 =>
   S13 w34 ∧ Rd Try.prog WS.any (sExtract t33 0) fun t35 =>
   Rd Try.prog WS.any (sExtract t33 1) fun t36 =>
   Do Try.prog (sStore 37 t31 t35) (fun _ w37 =>
   S13 w37 ∧ K15 (F.upd (F.upd (F.upd (F.upd (F.upd (F.upd (F.upd (F.upd (F.upd (F.upd (F.upd (F.upd (F.upd (F.upd (F.upd (F.upd (F.upd (F.upd (F.upd (F.upd (F.upd (F.upd (F.upd (F.upd (F.upd (F.upd (initF [v0, v1]) 2 t1) 3 t3) 4 (.bool false)) 5 (.int .i64 1048576)) 17 t5) 18 (.int .i64 1048576)) 19 t6) 5 t6) 20 t6) 21 t8) 22 t9) 23 t6) 24 t10) 5 t10) 25 t10) 26 t12) 28 t18) 30 t19) 29 t20) 31 t22) 6 t31) 32 t33) 27 t33) 33 t35) 34 t36) 7 t36) w37) w34) w32) w23))) w21) ∧
   (Do Try.prog (sAlloc 37) (fun t38 w39 =>
   S13 w39 ∧ CallK Try.prog 31 [t19] (fun t40 w41 =>
   S13 w41 ∧ CallK Try.prog 38 [t20, t40] (fun t42 w43 =>
   S13 w43 ∧ Rd Try.prog WS.any (sExtract t42 0) fun t44 =>
   Rd Try.prog WS.any (sExtract t42 1) fun t45 =>
   Do Try.prog (sStore 37 t38 t44) (fun _ w46 =>
   S13 w46 ∧ K15 (F.upd (F.upd (F.upd (F.upd (F.upd (F.upd (F.upd (F.upd (F.upd (F.upd (F.upd (F.upd (F.upd (F.upd (F.upd (F.upd (F.upd (F.upd (F.upd (F.upd (F.upd (F.upd (F.upd (F.upd (F.upd (F.upd (initF [v0, v1]) 2 t1) 3 t3) 4 (.bool false)) 5 (.int .i64 1048576)) 17 t5) 18 (.int .i64 1048576)) 19 t6) 5 t6) 20 t6) 21 t8) 22 t9) 23 t6) 24 t10) 5 t10) 25 t10) 26 t12) 28 t18) 30 t19) 29 t20) 6 t38) 31 t40) 32 t42) 27 t42) 33 t44) 34 t45) 7 t45) w46) w43) w41) w39) w21))) w11.drew) ∧
   (Do Try.prog (sAlloc 37) (fun t47 w48 =>
   S13 w48 ∧ CallK Try.prog 31 [t18] (fun t49 w50 =>
   S13 w50 ∧ CallK Try.prog 31 [t19] (fun t51 w52 =>
   S13 w52 ∧ CallK Try.prog 38 [t49, t51] (fun t53 w54 =>
   S13 w54 ∧ Rd Try.prog WS.any (sExtract t53 0) fun t55 =>
   Rd Try.prog WS.any (sExtract t53 1) fun t56 =>
   Do Try.prog (sStore 37 t47 t55) (fun _ w57 =>
   S13 w57 ∧ K15 (F.upd (F.upd (F.upd (F.upd (F.upd (F.upd (F.upd (F.upd (F.upd (F.upd (F.upd (F.upd (F.upd (F.upd (F.upd (F.upd (F.upd (F.upd (F.upd (F.upd (F.upd (F.upd (F.upd (F.upd (F.upd (F.upd (initF [v0, v1]) 2 t1) 3 t3) 4 (.bool false)) 5 (.int .i64 1048576)) 17 t5) 18 (.int .i64 1048576)) 19 t6) 5 t6) 20 t6) 21 t8) 22 t9) 23 t6) 24 t10) 5 t10) 25 t10) 26 t12) 28 t18) 30 t19) 6 t47) 29 t49) 31 t51) 32 t53) 27 t53) 33 t55) 34 t56) 7 t56) w57) w54) w52) w50) w48) w11.drew))) (fun f16 w17 =>
   Rd Try.prog (WS.at w17) (sLoad 31 (f16 2)) fun t58 =>
   CallK Try.prog 31 [t58] (fun t59 w60 =>
   Do Try.prog (sAlloc 37) (fun t61 w62 =>
   Do Try.prog (sStore 37 t61 t59) (fun _ w63 =>
   Rd Try.prog (WS.at w63) (sLoad 31 (f16 3)) fun t64 =>
   CallK Try.prog 31 [t64] (fun t65 w66 =>
   Do Try.prog (sAlloc 37) (fun t67 w68 =>
   Do Try.prog (sStore 37 t67 t65) (fun _ w69 =>
   Rd Try.prog (WS.at w69) (sLoad 37 t61) fun t70 =>
   Rd Try.prog (WS.at w69) (sLoad 37 t67) fun t71 =>
   CallK Try.prog 39 [t70, t71] (fun t72 w73 =>
   Rd Try.prog (WS.at w73) (sExtract t72 0) fun t74 =>
   Rd Try.prog (WS.at w73) (sExtract t72 1) fun t75 =>
   Do Try.prog (sAlloc 37) (fun t76 w77 =>
   Do Try.prog (sStore 37 t76 t74) (fun _ w78 =>
   Rd Try.prog (WS.at w78) (sLoad 37 t76) fun t79 =>
   Rd Try.prog (WS.at w78) (sLoad 37 (f16 6)) fun t80 =>
   CallK Try.prog 33 [t79, t80] (fun t81 w82 =>
   Rd Try.prog (WS.at w82) (sUn .not t81) fun t83 =>
   GuardK t83 false (fun k w' => k t75 w') (fun t84 w85 =>
   GuardK t83 false (fun k w' => k (f16 7) w') (fun t86 w87 =>
   GuardK t83 false (fun k w' => Rd Try.prog (WS.at w87) (sBin .neq 4 false t84 t86) fun v => k v w') (fun t88 w89 =>
   Rd Try.prog (WS.at w89) (sPick t83 (.bool true) t88) fun t90 =>
   CondK t90
    (k (.bool false) w89)
    (∃ S91 : World → Prop, ∃ h92 : S91 w89.drew,
    Rd Try.prog ⟨S91, w89.drew, h92⟩ (sLoad 37 t61) fun t93 =>
    Rd Try.prog ⟨S91, w89.drew, h92⟩ (sLoad 31 (f16 2)) fun t94 =>
    CallK Try.prog 31 [t94] (fun t95 w96 =>
    S91 w96 ∧ CallK Try.prog 33 [t93, t95] (fun t97 w98 =>
    Rd Try.prog WS.any (sUn .not t97) fun t99 =>
    CondK t99
     (k (.bool false) w98)
     (∃ S100 : World → Prop, ∃ h101 : S100 w98.drew,
     Rd Try.prog ⟨S100, w98.drew, h101⟩ (sLoad 37 t67) fun t102 =>
     Rd Try.prog ⟨S100, w98.drew, h101⟩ (sLoad 31 (f16 3)) fun t103 =>
     CallK Try.prog 31 [t103] (fun t104 w105 =>
     S100 w105 ∧ CallK Try.prog 33 [t102, t104] (fun t106 w107 =>
     Rd Try.prog WS.any (sUn .not t106) fun t108 =>
     CondK t108
      (k (.bool false) w107)
      (Rd Try.prog (WS.at w107) (sLoad 37 t61) fun t109 =>
      CallK Try.prog 36 [t109, (.int .i64 1)] (fun t110 w111 =>
      Rd Try.prog (WS.at w111) (sLoad 37 t67) fun t112 =>
      CallK Try.prog 36 [t112, t110] (fun t113 w114 =>
      Rd Try.prog (WS.at w114) (sBin .lss 3 true t113 (.int .i64 0)) fun t115 =>
      GuardK t115 false (fun k w' => Rd Try.prog (WS.at w114) (sLoad 37 t76) fun v => k v w') (fun t116 w117 =>
      GuardK t115 false (fun k w' => Rd Try.prog (WS.at w117) (sLoad 37 (f16 6)) fun v => k v w') (fun t118 w119 =>
      GuardK t115 false (fun k w' => CallK Try.prog 33 [t116, t118] k w') (fun t120 w121 =>
      GuardK t115 false (fun k w' => Rd Try.prog (WS.at w121) (sUn .not t120) fun v => k v w') (fun t122 w123 =>
      Rd Try.prog (WS.at w123) (sPick t115 (.bool true) t122) fun t124 =>
      GuardK t124 false (fun k w' => k t75 w') (fun t125 w126 =>
      GuardK t124 false (fun k w' => k (f16 7) w') (fun t127 w128 =>
      GuardK t124 false (fun k w' => Rd Try.prog (WS.at w128) (sBin .neq 4 false t125 t127) fun v => k v w') (fun t129 w130 =>
      Rd Try.prog (WS.at w130) (sPick t124 (.bool true) t129) fun t131 =>
      CondK t131
       (k (.bool false) w130)
       (Rd Try.prog (WS.at w130) (sLoad 37 t76) fun t132 =>
       CallK Try.prog 36 [t132, (.int .i64 1)] (fun t133 w134 =>
       Rd Try.prog (WS.at w134) (sLoad 37 t76) fun t135 =>
       CallK Try.prog 37 [t135, (.int .i64 1)] (fun t136 w137 =>
       Rd Try.prog (WS.at w137) (sBin .lss 3 true t136 (.int .i64 0)) fun t138 =>
       CondK t138
        (k (.bool false) w137)
        (Rd Try.prog (WS.at w137) (sBin .neq 3 false t136 t133) fun t139 =>
        CondK t139
         (k (.bool false) w137)
         (Join (fun K142 =>
         ∃ S140 : World → Prop, ∃ h141 : S140 w137.drew,
         Rd Try.prog ⟨S140, w137.drew, h141⟩ (sLoad 31 (f16 2)) fun t145 =>
         Rd Try.prog ⟨S140, w137.drew, h141⟩ (sLoad 31 (f16 3)) fun t146 =>
         ((CallK Try.prog 31 [t145] (fun t147 w148 =>
         S140 w148 ∧ ((CallK Try.prog 31 [t146] (fun t149 w150 =>
         S140 w150 ∧ ((CallK Try.prog 39 [t147, t149] (fun t151 w152 =>
         S140 w152 ∧ Rd Try.prog WS.any (sExtract t151 0) fun t153 =>
         Rd Try.prog WS.any (sExtract t151 1) fun t154 =>
         Do Try.prog (sAlloc 37) (fun t155 w156 =>
         S140 w156 ∧ Do Try.prog (sStore 37 t155 t153) (fun _ w157 =>
         S140 w157 ∧ K142 (F.upd (F.upd (F.upd (F.upd (F.upd (F.upd (F.upd (F.upd (F.upd (F.upd (F.upd (F.upd (F.upd (F.upd (F.upd (F.upd (F.upd (F.upd (F.upd (F.upd (F.upd (F.upd (F.upd (F.upd (F.upd (F.upd (F.upd (F.upd (F.upd (F.upd (F.upd (F.upd (F.upd (F.upd (F.upd (F.upd (F.upd (F.upd (F.upd (F.upd (F.upd (F.upd (F.upd (F.upd (F.upd (F.upd (F.upd (F.upd (F.upd (F.upd (F.upd (F.upd (F.upd (F.upd (F.upd (F.upd (F.upd (F.upd (F.upd (F.upd (F.upd (F.upd (F.upd (F.upd (F.upd (F.upd (F.upd (F.upd (F.upd (F.upd (F.upd (F.upd (F.upd (F.upd (F.upd (F.upd (F.upd (F.upd (F.upd (F.upd f16 35 t58) 36 t59) 8 t61) 37 t64) 38 t65) 9 t67) 40 t70) 41 t71) 42 t72) 39 t72) 43 t74) 44 t75) 10 t76) 11 t75) 45 t79) 46 t80) 47 t81) 48 t83) 49 t83) 50 t84) 51 t86) 52 t88) 53 t90) 54 t93) 55 t94) 56 t95) 57 t97) 58 t99) 59 t102) 60 t103) 61 t104) 62 t106) 63 t108) 12 (.int .i64 1)) 64 t109) 65 (.int .i64 1)) 66 t110) 12 t110) 67 t112) 68 t110) 69 t113) 12 t113) 70 t113) 71 t115) 72 t115) 73 t116) 74 t118) 75 t120) 76 t122) 77 t124) 78 t124) 79 t125) 80 t127) 81 t129) 82 t131) 13 (.int .i64 1)) 83 t132) 84 (.int .i64 1)) 85 t133) 13 t133) 14 (.int .i64 1)) 86 t135) 87 (.int .i64 1)) 88 t136) 14 t136) 89 t136) 90 t138) 91 t136) 92 t133) 93 t139) 95 t145) 97 t146) 96 t147) 98 t149) 99 t151) 94 t151) 100 t153) 101 t154) 15 t155) 16 t154) w157) w156) w152) w150) ∧
         (Do Try.prog (sAlloc 37) (fun t158 w159 =>
         S140 w159 ∧ CallK Try.prog 39 [t147, t149] (fun t160 w161 =>
         S140 w161 ∧ Rd Try.prog WS.any (sExtract t160 0) fun t162 =>
         Rd Try.prog WS.any (sExtract t160 1) fun t163 =>
         Do Try.prog (sStore 37 t158 t162) (fun _ w164 =>
         S140 w164 ∧ K142 (F.upd (F.upd (F.upd (F.upd (F.upd (F.upd (F.upd (F.upd (F.upd (F.upd (F.upd (F.upd (F.upd (F.upd (F.upd (F.upd (F.upd (F.upd (F.upd (F.upd (F.upd (F.upd (F.upd (F.upd (F.upd (F.upd (F.upd (F.upd (F.upd (F.upd (F.upd (F.upd (F.upd (F.upd (F.upd (F.upd (F.upd (F.upd (F.upd (F.upd (F.upd (F.upd (F.upd (F.upd (F.upd (F.upd (F.upd (F.upd (F.upd (F.upd (F.upd (F.upd (F.upd (F.upd (F.upd (F.upd (F.upd (F.upd (F.upd (F.upd (F.upd (F.upd (F.upd (F.upd (F.upd (F.upd (F.upd (F.upd (F.upd (F.upd (F.upd (F.upd (F.upd (F.upd (F.upd (F.upd (F.upd (F.upd (F.upd (F.upd f16 35 t58) 36 t59) 8 t61) 37 t64) 38 t65) 9 t67) 40 t70) 41 t71) 42 t72) 39 t72) 43 t74) 44 t75) 10 t76) 11 t75) 45 t79) 46 t80) 47 t81) 48 t83) 49 t83) 50 t84) 51 t86) 52 t88) 53 t90) 54 t93) 55 t94) 56 t95) 57 t97) 58 t99) 59 t102) 60 t103) 61 t104) 62 t106) 63 t108) 12 (.int .i64 1)) 64 t109) 65 (.int .i64 1)) 66 t110) 12 t110) 67 t112) 68 t110) 69 t113) 12 t113) 70 t113) 71 t115) 72 t115) 73 t116) 74 t118) 75 t120) 76 t122) 77 t124) 78 t124) 79 t125) 80 t127) 81 t129) 82 t131) 13 (.int .i64 1)) 83 t132) 84 (.int .i64 1)) 85 t133) 13 t133) 14 (.int .i64 1)) 86 t135) 87 (.int .i64 1)) 88 t136) 14 t136) 89 t136) 90 t138) 91 t136) 92 t133) 93 t139) 95 t145) 97 t146) 96 t147) 98 t149) 15 t158) 99 t160) 94 t160) 100 t162) 101 t163) 16 t163) w164) w161) w159) w150))) w148) ∧
         (Do Try.prog (sAlloc 37) (fun t165 w166 =>
         S140 w166 ∧ CallK Try.prog 31 [t146] (fun t167 w168 =>
         S140 w168 ∧ CallK Try.prog 39 [t147, t167] (fun t169 w170 =>
         S140 w170 ∧ Rd Try.prog WS.any (sExtract t169 0) fun t171 =>
         Rd Try.prog WS.any (sExtract t169 1) fun t172 =>
         Do Try.prog (sStore 37 t165 t171) (fun _ w173 =>
         S140 w173 ∧ K142 (F.upd (F.upd (F.upd (F.upd (F.upd (F.upd (F.upd (F.upd (F.upd (F.upd (F.upd (F.upd (F.upd (F.upd (F.upd (F.upd (F.upd (F.upd (F.upd (F.upd (F.upd (F.upd (F.upd (F.upd (F.upd (F.upd (F.upd (F.upd (F.upd (F.upd (F.upd (F.upd (F.upd (F.upd (F.upd (F.upd (F.upd (F.upd (F.upd (F.upd (F.upd (F.upd (F.upd (F.upd (F.upd (F.upd (F.upd (F.upd (F.upd (F.upd (F.upd (F.upd (F.upd (F.upd (F.upd (F.upd (F.upd (F.upd (F.upd (F.upd (F.upd (F.upd (F.upd (F.upd (F.upd (F.upd (F.upd (F.upd (F.upd (F.upd (F.upd (F.upd (F.upd (F.upd (F.upd (F.upd (F.upd (F.upd (F.upd (F.upd f16 35 t58) 36 t59) 8 t61) 37 t64) 38 t65) 9 t67) 40 t70) 41 t71) 42 t72) 39 t72) 43 t74) 44 t75) 10 t76) 11 t75) 45 t79) 46 t80) 47 t81) 48 t83) 49 t83) 50 t84) 51 t86) 52 t88) 53 t90) 54 t93) 55 t94) 56 t95) 57 t97) 58 t99) 59 t102) 60 t103) 61 t104) 62 t106) 63 t108) 12 (.int .i64 1)) 64 t109) 65 (.int .i64 1)) 66 t110) 12 t110) 67 t112) 68 t110) 69 t113) 12 t113) 70 t113) 71 t115) 72 t115) 73 t116) 74 t118) 75 t120) 76 t122) 77 t124) 78 t124) 79 t125) 80 t127) 81 t129) 82 t131) 13 (.int .i64 1)) 83 t132) 84 (.int .i64 1)) 85 t133) 13 t133) 14 (.int .i64 1)) 86 t135) 87 (.int .i64 1)) 88 t136) 14 t136) 89 t136) 90 t138) 91 t136) 92 t133) 93 t139) 95 t145) 97 t146) 96 t147) 15 t165) 98 t167) 99 t169) 94 t169) 100 t171) 101 t172) 16 t172) w173) w170) w168) w166) w148))) w137.drew) ∧
         (Do Try.prog (sAlloc 37) (fun t174 w175 =>
         S140 w175 ∧ CallK Try.prog 31 [t145] (fun t176 w177 =>
         S140 w177 ∧ CallK Try.prog 31 [t146] (fun t178 w179 =>
         S140 w179 ∧ CallK Try.prog 39 [t176, t178] (fun t180 w181 =>
         S140 w181 ∧ Rd Try.prog WS.any (sExtract t180 0) fun t182 =>
         Rd Try.prog WS.any (sExtract t180 1) fun t183 =>
         Do Try.prog (sStore 37 t174 t182) (fun _ w184 =>
         S140 w184 ∧ K142 (F.upd (F.upd (F.upd (F.upd (F.upd (F.upd (F.upd (F.upd (F.upd (F.upd (F.upd (F.upd (F.upd (F.upd (F.upd (F.upd (F.upd (F.upd (F.upd (F.upd (F.upd (F.upd (F.upd (F.upd (F.upd (F.upd (F.upd (F.upd (F.upd (F.upd (F.upd (F.upd (F.upd (F.upd (F.upd (F.upd (F.upd (F.upd (F.upd (F.upd (F.upd (F.upd (F.upd (F.upd (F.upd (F.upd (F.upd (F.upd (F.upd (F.upd (F.upd (F.upd (F.upd (F.upd (F.upd (F.upd (F.upd (F.upd (F.upd (F.upd (F.upd (F.upd (F.upd (F.upd (F.upd (F.upd (F.upd (F.upd (F.upd (F.upd (F.upd (F.upd (F.upd (F.upd (F.upd (F.upd (F.upd (F.upd (F.upd (F.upd f16 35 t58) 36 t59) 8 t61) 37 t64) 38 t65) 9 t67) 40 t70) 41 t71) 42 t72) 39 t72) 43 t74) 44 t75) 10 t76) 11 t75) 45 t79) 46 t80) 47 t81) 48 t83) 49 t83) 50 t84) 51 t86) 52 t88) 53 t90) 54 t93) 55 t94) 56 t95) 57 t97) 58 t99) 59 t102) 60 t103) 61 t104) 62 t106) 63 t108) 12 (.int .i64 1)) 64 t109) 65 (.int .i64 1)) 66 t110) 12 t110) 67 t112) 68 t110) 69 t113) 12 t113) 70 t113) 71 t115) 72 t115) 73 t116) 74 t118) 75 t120) 76 t122) 77 t124) 78 t124) 79 t125) 80 t127) 81 t129) 82 t131) 13 (.int .i64 1)) 83 t132) 84 (.int .i64 1)) 85 t133) 13 t133) 14 (.int .i64 1)) 86 t135) 87 (.int .i64 1)) 88 t136) 14 t136) 89 t136) 90 t138) 91 t136) 92 t133) 93 t139) 95 t145) 97 t146) 15 t174) 96 t176) 98 t178) 99 t180) 94 t180) 100 t182) 101 t183) 16 t183) w184) w181) w179) w177) w175) w137.drew))) (fun f143 w144 =>
         Rd Try.prog (WS.at w144) (sLoad 37 (f143 15)) fun t185 =>
         Rd Try.prog (WS.at w144) (sLoad 37 (f143 6)) fun t186 =>
         CallK Try.prog 33 [t185, t186] (fun t187 w188 =>
         Rd Try.prog (WS.at w188) (sUn .not t187) fun t189 =>
         GuardK t189 false (fun k w' => k (f143 16) w') (fun t190 w191 =>
         GuardK t189 false (fun k w' => k (f143 7) w') (fun t192 w193 =>
         GuardK t189 false (fun k w' => Rd Try.prog (WS.at w193) (sBin .neq 4 false t190 t192) fun v => k v w') (fun t194 w195 =>
         Rd Try.prog (WS.at w195) (sPick t189 (.bool true) t194) fun t196 =>
         CondK t196
          (k (.bool false) w195)
          (Rd Try.prog (WS.at w195) (sLoad 37 (f143 10)) fun t197 =>
          CallK Try.prog 37 [t197, (.int .i64 1)] (fun t198 w199 =>
          Rd Try.prog (WS.at w199) (sBin .lss 3 true t198 (.int .i64 0)) fun t200 =>
          CondK t200
           (k (.bool false) w199)
           (Rd Try.prog (WS.at w199) (sBin .neq 3 false t198 (f143 13)) fun t201 =>
           CondK t201
            (k (.bool false) w199)
            (k (.bool true) w199))) w195)) w193) w191) w188) w144)))) w134) w130)) w128) w126) w123) w121) w119) w117) w114) w111) w107)) w105) w98.drew)) w96) w89.drew)) w87) w85) w82) w78) w77) w73) w69) w68) w66) w63) w62) w60) w17))) w7)) w4) w2) w
theorem body6 : Try.f6.body = some (bodyOf Try.f6) := by kernel_rfl
theorem same6 (v0 v1 : Value) (k : Value → World → Prop) (w : World) : wpF Try.prog pl6 (bodyOf Try.f6) (bodyQ Try.prog Try.f6.results.toList k) (initF [v0, v1]) w = S6 v0 v1 k w := by kernel_rfl
theorem enter6 {v0 v1 : Value} {k : Value → World → Prop} {w : World} (h : S6 v0 v1 k w) : CallK Try.prog 6 [v0, v1] k w :=
  call_of_wpF (pl := pl6) mixed Try.func6 body6 (by kernel_rfl) (of_decide_eq_true (by kernel_rfl)) (by kernel_rfl) (by kernel_rfl) (same6 v0 v1 k w ▸ h)

/-! loop.example/g00758/laws.FnExactUnionOf -/
def pl7 : Plans := fun i => match i with
  | 8 => ⟨true, [], .step 0 .held (.step 2 .held (.fork 1 (.fork 3 (.fork 4 (.step 5 .any (.step 6 .any (.step 7 .any (.step 8 .one (.step 9 .one (.step 10 .any (.nil))))))) 8 (.step 4 .one (.step 5 .any (.step 6 .any (.step 7 .any (.step 9 .one (.step 10 .any (.nil)))))))) 8 (.step 3 .one (.step 4 .one (.step 5 .any (.step 6 .any (.step 7 .any (.step 9 .one (.step 10 .any (.nil))))))))) 8 (.step 1 .one (.step 3 .one (.step 4 .one (.step 5 .any (.step 6 .any (.step 7 .any (.step 9 .one (.step 10 .any (.nil)))))))))))⟩
  | 14 => ⟨true, [3], .step 0 .held (.step 1 .held (.step 2 .one (.step 3 .last (.step 4 .any (.nil)))))⟩
  | 16 => ⟨true, [3], .step 0 .held (.step 1 .held (.step 2 .one (.step 3 .last (.step 4 .any (.nil)))))⟩
  | 31 => ⟨true, [], .step 0 .held (.step 2 .held (.fork 1 (.fork 3 (.fork 4 (.step 5 .any (.step 6 .any (.step 7 .any (.step 8 .one (.step 9 .one (.step 10 .any (.nil))))))) 8 (.step 4 .one (.step 5 .any (.step 6 .any (.step 7 .any (.step 9 .one (.step 10 .any (.nil)))))))) 8 (.step 3 .one (.step 4 .one (.step 5 .any (.step 6 .any (.step 7 .any (.step 9 .one (.step 10 .any (.nil))))))))) 8 (.step 1 .one (.step 3 .one (.step 4 .one (.step 5 .any (.step 6 .any (.step 7 .any (.step 9 .one (.step 10 .any (.nil)))))))))))⟩
  | _ => ⟨false, [], .nil⟩
def S7 (v0 v1 : Value) (k : Value → World → Prop) (w : World) : Prop :=
 Do Try.prog (sBox 31 v0) (fun t1 w2 =>
 Do Try.prog (sBox 31 v1) (fun t3 w4 =>
 Rd Try.prog (WS.at w4) (sLoad 31 t1) fun t5 =>
 CallK Try.prog 29 [t5, (.int .i64 1048576)] (fun t6 w7 =>
 Rd Try.prog (WS.at w7) (sBin .lss 3 true t6 (.int .i64 0)) fun t8 =>
 CondK t8
  (k (.bool true) w7)
  (Rd Try.prog (WS.at w7) (sLoad 31 t3) fun t9 =>
  CallK Try.prog 29 [t9, t6] (fun t10 w11 =>
  Rd Try.prog (WS.at w11) (sBin .lss 3 true t10 (.int .i64 0)) fun t12 =>
  CondK t12
   (k (.bool true) w11)
   (Join (fun K15 =>
   ∃ S13 : World → Prop, ∃ h14 : S13 w11.drew,
   Rd Try.prog ⟨S13, w11.drew, h14⟩ (sLoad 31 t1) fun t18 =>
   Rd Try.prog ⟨S13, w11.drew, h14⟩ (sLoad 31 t3) fun t19 =>
   ((CallK Try.prog 31 [t18] (fun t20 w21 =>
   S13 w21 ∧ ((CallK Try.prog 31 [t19] (fun t22 w23 =>
   S13 w23 ∧ ((CallK Try.prog 40 [t20, t22] (fun t24 w25 =>
   S13 w25 ∧ Rd Try.prog WS.any (sExtract t24 0) fun t26 =>
   Rd Try.prog WS.any (sExtract t24 1) fun t27 =>
   Do Try.prog (sAlloc 37) (fun t28 w29 =>
   S13 w29 ∧ Do Try.prog (sStore 37 t28 t26) (fun _ w30 =>
   S13 w30 ∧ K15 (F.upd (F.upd (F.upd (F.upd (F.upd (F.upd (F.upd (F.upd (F.upd (F.upd (F.upd (F.upd (F.upd (F.upd (F.upd (F.upd (F.upd (F.upd (F.upd (F.upd (F.upd (F.upd (F.upd (F.upd (F.upd (F.upd (initF [v0, v1]) 2 t1) 3 t3) 4 (.bool false)) 5 (.int .i64 1048576)) 17 t5) 18 (.int .i64 1048576)) 19 t6) 5 t6) 20 t6) 21 t8) 22 t9) 23 t6) 24 t10) 5 t10) 25 t10) 26 t12) 28 t18) 30 t19) 29 t20) 31 t22) 32 t24) 27 t24) 33 t26) 34 t27) 6 t28) 7 t27) w30) w29) w25) w23) ∧
   (Do Try.prog (sAlloc 37) (fun t31 w32 =>
   S13 w32 ∧ CallK Try.prog 40 [t20, t22] (fun t33 w34 =>
   S13 w34 ∧ Rd Try.prog WS.any (sExtract t33 0) fun t35 =>
   Rd Try.prog WS.any (sExtract t33 1) fun t36 =>
   Do Try.prog (sStore 37 t31 t35) (fun _ w37 =>
   S13 w37 ∧ K15 (F.upd (F.upd (F.upd (F.upd (F.upd (F.upd (F.upd (F.upd (F.upd (F.upd (F.upd (F.upd (F.upd (F.upd (F.upd (F.upd (F.upd (F.upd (F.upd (F.upd (F.upd (F.upd (F.upd (F.upd (F.upd (F.upd (initF [v0, v1]) 2 t1) 3 t3) 4 (.bool false)) 5 (.int .i64 1048576)) 17 t5) 18 (.int .i64 1048576)) 19 t6) 5 t6) 20 t6) 21 t8) 22 t9) 23 t6) 24 t10) 5 t10) 25 t10) 26 t12) 28 t18) 30 t19) 29 t20) 31 t22) 6 t31) 32 t33) 27 t33) 33 t35) 34 t36) 7 t36) w37) w34) w32) w23))) w21) ∧
   (Do Try.prog (sAlloc 37) (fun t38 w39 =>
   S13 w39 ∧ CallK Try.prog 31 [t19] (fun t40 w41 =>
   S13 w41 ∧ CallK Try.prog 40 [t20, t40] (fun t42 w43 =>
   S13 w43 ∧ Rd Try.prog WS.any (sExtract t42 0) fun t44 =>
   Rd Try.prog WS.any (sExtract t42 1) fun t45 =>
   Do Try.prog (sStore 37 t38 t44) (fun _ w46 =>
   S13 w46 ∧ K15 (F.upd (F.upd (F.upd (F.upd (F.upd (F.upd (F.upd (F.upd (F.upd (F.upd (F.upd (F.upd (F.upd (F.upd (F.upd (F.upd (F.upd (F.upd (F.upd (F.upd (F.upd (F.upd (F.upd (F.upd (F.upd (F.upd (initF [v0, v1]) 2 t1) 3 t3) 4 (.bool false)) 5 (.int .i64 1048576)) 17 t5) 18 (.int .i64 1048576)) 19 t6) 5 t6) 20 t6) 21 t8) 22 t9) 23 t6) 24 t10) 5 t10) 25 t10) 26 t12) 28 t18) 30 t19) 29 t20) 6 t38) 31 t40) 32 t42) 27 t42) 33 t44) 34 t45) 7 t45) w46) w43) w41) w39) w21))) w11.drew) ∧
   (Do Try.prog (sAlloc 37) (fun t47 w48 =>
   S13 w48 ∧ CallK Try.prog 31 [t18] (fun t49 w50 =>
   S13 w50 ∧ CallK Try.prog 31 [t19] (fun t51 w52 =>
   S13 w52 ∧ CallK Try.prog 40 [t49, t51] (fun t53 w54 =>
   S13 w54 ∧ Rd Try.prog WS.any (sExtract t53 0) fun t55 =>
   Rd Try.prog WS.any (sExtract t53 1) fun t56 =>
   Do Try.prog (sStore 37 t47 t55) (fun _ w57 =>
   S13 w57 ∧ K15 (F.upd (F.upd (F.upd (F.upd (F.upd (F.upd (F.upd (F.upd (F.upd (F.upd (F.upd (F.upd (F.upd (F.upd (F.upd (F.upd (F.upd (F.upd (F.upd (F.upd (F.upd (F.upd (F.upd (F.upd (F.upd (F.upd (initF [v0, v1]) 2 t1) 3 t3) 4 (.bool false)) 5 (.int .i64 1048576)) 17 t5) 18 (.int .i64 1048576)) 19 t6) 5 t6) 20 t6) 21 t8) 22 t9) 23 t6) 24 t10) 5 t10) 25 t10) 26 t12) 28 t18) 30 t19) 6 t47) 29 t49) 31 t51) 32 t53) 27 t53) 33 t55) 34 t56) 7 t56) w57) w54) w52) w50) w48) w11.drew))) (fun f16 w17 =>
   Rd Try.prog (WS.at w17) (sLoad 31 (f16 2)) fun t58 =>
   CallK Try.prog 31 [t58] (fun t59 w60 =>
   Do Try.prog (sAlloc 37) (fun t61 w62 =>
   Do Try.prog (sStore 37 t61 t59) (fun _ w63 =>
   Rd Try.prog (WS.at w63) (sLoad 31 (f16 3)) fun t64 =>
   CallK Try.prog 31 [t64] (fun t65 w66 =>
   Do Try.prog (sAlloc 37) (fun t67 w68 =>
   Do Try.prog (sStore 37 t67 t65) (fun _ w69 =>
   Rd Try.prog (WS.at w69) (sLoad 37 t61) fun t70 =>
   Rd Try.prog (WS.at w69) (sLoad 37 t67) fun t71 =>
   CallK Try.prog 41 [t70, t71] (fun t72 w73 =>
   Rd Try.prog (WS.at w73) (sExtract t72 0) fun t74 =>
   Rd Try.prog (WS.at w73) (sExtract t72 1) fun t75 =>
   Do Try.prog (sAlloc 37) (fun t76 w77 =>
   Do Try.prog (sStore 37 t76 t74) (fun _ w78 =>
   Rd Try.prog (WS.at w78) (sLoad 37 t76) fun t79 =>
   Rd Try.prog (WS.at w78) (sLoad 37 (f16 6)) fun t80 =>
   CallK Try.prog 33 [t79, t80] (fun t81 w82 =>
   Rd Try.prog (WS.at w82) (sUn .not t81) fun t83 =>
   GuardK t83 false (fun k w' => k t75 w') (fun t84 w85 =>
   GuardK t83 false (fun k w' => k (f16 7) w') (fun t86 w87 =>
   GuardK t83 false (fun k w' => Rd Try.prog (WS.at w87) (sBin .neq 4 false t84 t86) fun v => k v w') (fun t88 w89 =>
   Rd Try.prog (WS.at w89) (sPick t83 (.bool true) t88) fun t90 =>
   CondK t90
    (k (.bool false) w89)
    (∃ S91 : World → Prop, ∃ h92 : S91 w89.drew,
    Rd Try.prog ⟨S91, w89.drew, h92⟩ (sLoad 37 t61) fun t93 =>
    Rd Try.prog ⟨S91, w89.drew, h92⟩ (sLoad 31 (f16 2)) fun t94 =>
    CallK Try.prog 31 [t94] (fun t95 w96 =>
    S91 w96 ∧ CallK Try.prog 33 [t93, t95] (fun t97 w98 =>
    Rd Try.prog WS.any (sUn .not t97) fun t99 =>
    CondK t99
     (k (.bool false) w98)
     (∃ S100 : World → Prop, ∃ h101 : S100 w98.drew,
     Rd Try.prog ⟨S100, w98.drew, h101⟩ (sLoad 37 t67) fun t102 =>
     Rd Try.prog ⟨S100, w98.drew, h101⟩ (sLoad 31 (f16 3)) fun t103 =>
     CallK Try.prog 31 [t103] (fun t104 w105 =>
     S100 w105 ∧ CallK Try.prog 33 [t102, t104] (fun t106 w107 =>
     Rd Try.prog WS.any (sUn .not t106) fun t108 =>
     CondK t108
      (k (.bool false) w107)
      (Rd Try.prog (WS.at w107) (sLoad 37 t61) fun t109 =>
      CallK Try.prog 36 [t109, (.int .i64 1)] (fun t110 w111 =>
      Rd Try.prog (WS.at w111) (sLoad 37 t67) fun t112 =>
      CallK Try.prog 36 [t112, t110] (fun t113 w114 =>
      Rd Try.prog (WS.at w114) (sBin .lss 3 true t113 (.int .i64 0)) fun t115 =>
      GuardK t115 false (fun k w' => Rd Try.prog (WS.at w114) (sLoad 37 t76) fun v => k v w') (fun t116 w117 =>
      GuardK t115 false (fun k w' => Rd Try.prog (WS.at w117) (sLoad 37 (f16 6)) fun v => k v w') (fun t118 w119 =>
      GuardK t115 false (fun k w' => CallK Try.prog 33 [t116, t118] k w') (fun t120 w121 =>
      GuardK t115 false (fun k w' => Rd Try.prog (WS.at w121) (sUn .not t120) fun v => k v w') (fun t122 w123 =>
      Rd Try.prog (WS.at w123) (sPick t115 (.bool true) t122) fun t124 =>
      GuardK t124 false (fun k w' => k t75 w') (fun t125 w126 =>
      GuardK t124 false (fun k w' => k (f16 7) w') (fun t127 w128 =>
      GuardK t124 false (fun k w' => Rd Try.prog (WS.at w128) (sBin .neq 4 false t125 t127) fun v => k v w') (fun t129 w130 =>
      Rd Try.prog (WS.at w130) (sPick t124 (.bool true) t129) fun t131 =>
      CondK t131
       (k (.bool false) w130)
       (Rd Try.prog (WS.at w130) (sLoad 37 t76) fun t132 =>
       CallK Try.prog 36 [t132, (.int .i64 1)] (fun t133 w134 =>
       Rd Try.prog (WS.at w134) (sLoad 37 t76) fun t135 =>
       CallK Try.prog 37 [t135, (.int .i64 1)] (fun t136 w137 =>
       Rd Try.prog (WS.at w137) (sBin .lss 3 true t136 (.int .i64 0)) fun t138 =>
       CondK t138
        (k (.bool false) w137)
        (Rd Try.prog (WS.at w137) (sBin .neq 3 false t136 t133) fun t139 =>
        CondK t139
         (k (.bool false) w137)
         (Join (fun K142 =>
         ∃ S140 : World → Prop, ∃ h141 : S140 w137.drew,
         Rd Try.prog ⟨S140, w137.drew, h141⟩ (sLoad 31 (f16 2)) fun t145 =>
         Rd Try.prog ⟨S140, w137.drew, h141⟩ (sLoad 31 (f16 3)) fun t146 =>
         ((CallK Try.prog 31 [t145] (fun t147 w148 =>
         S140 w148 ∧ ((CallK Try.prog 31 [t146] (fun t149 w150 =>
         S140 w150 ∧ ((CallK Try.prog 41 [t147, t149] (fun t151 w152 =>
         S140 w152 ∧ Rd Try.prog WS.any (sExtract t151 0) fun t153 =>
         Rd Try.prog WS.any (sExtract t151 1) fun t154 =>
         Do Try.prog (sAlloc 37) (fun t155 w156 =>
         S140 w156 ∧ Do Try.prog (sStore 37 t155 t153) (fun _ w157 =>
         S140 w157 ∧ K142 (F.upd (F.upd (F.upd (F.upd (F.upd (F.upd (F.upd (F.upd (F.upd (F.upd (F.upd (F.upd (F.upd (F.upd (F.upd (F.upd (F.upd (F.upd (F.upd (F.upd (F.upd (F.upd (F.upd (F.upd (F.upd (F.upd (F.upd (F.upd (F.upd (F.upd (F.upd (F.upd (F.upd (F.upd (F.upd (F.upd (F.upd (F.upd (F.upd (F.upd (F.upd (F.upd (F.upd (F.upd (F.upd (F.upd (F.upd (F.upd (F.upd (F.upd (F.upd (F.upd (F.upd (F.upd (F.upd (F.upd (F.upd (F.upd (F.upd (F.upd (F.upd (F.upd (F.upd (F.upd (F.upd (F.upd (F.upd (F.upd (F.upd (F.upd (F.upd (F.upd (F.upd (F.upd (F.upd (F.upd (F.upd (F.upd (F.upd (F.upd f16 35 t58) 36 t59) 8 t61) 37 t64) 38 t65) 9 t67) 40 t70) 41 t71) 42 t72) 39 t72) 43 t74) 44 t75) 10 t76) 11 t75) 45 t79) 46 t80) 47 t81) 48 t83) 49 t83) 50 t84) 51 t86) 52 t88) 53 t90) 54 t93) 55 t94) 56 t95) 57 t97) 58 t99) 59 t102) 60 t103) 61 t104) 62 t106) 63 t108) 12 (.int .i64 1)) 64 t109) 65 (.int .i64 1)) 66 t110) 12 t110) 67 t112) 68 t110) 69 t113) 12 t113) 70 t113) 71 t115) 72 t115) 73 t116) 74 t118) 75 t120) 76 t122) 77 t124) 78 t124) 79 t125) 80 t127) 81 t129) 82 t131) 13 (.int .i64 1)) 83 t132) 84 (.int .i64 1)) 85 t133) 13 t133) 14 (.int .i64 1)) 86 t135) 87 (.int .i64 1)) 88 t136) 14 t136) 89 t136) 90 t138) 91 t136) 92 t133) 93 t139) 95 t145) 97 t146) 96 t147) 98 t149) 99 t151) 94 t151) 100 t153) 101 t154) 15 t155) 16 t154) w157) w156) w152) w150) ∧
         (Do Try.prog (sAlloc 37) (fun t158 w159 =>
         S140 w159 ∧ CallK Try.prog 41 [t147, t149] (fun t160 w161 =>
         S140 w161 ∧ Rd Try.prog WS.any (sExtract t160 0) fun t162 =>
         Rd Try.prog WS.any (sExtract t160 1) fun t163 =>
         Do Try.prog (sStore 37 t158 t162) (fun _ w164 =>
         S140 w164 ∧ K142 (F.upd (F.upd (F.upd (F.upd (F.upd (F.upd (F.upd (F.upd (F.upd (F.upd (F.upd (F.upd (F.upd (F.upd (F.upd (F.upd (F.upd (F.upd (F.upd (F.upd (F.upd (F.upd (F.upd (F.upd (F.upd (F.upd (F.upd (F.upd (F.upd (F.upd (F.upd (F.upd (F.upd (F.upd (F.upd (F.upd (F.upd (F.upd (F.upd (F.upd (F.upd (F.upd (F.upd (F.upd (F.upd (F.upd (F.upd (F.upd (F.upd (F.upd (F.upd (F.upd (F.upd (F.upd (F.upd (F.upd (F.upd (F.upd (F.upd (F.upd (F.upd (F.upd (F.upd (F.upd (F.upd (F.upd (F.upd (F.upd (F.upd (F.upd (F.upd (F.upd (F.upd (F.upd (F.upd (F.upd (F.upd (F.upd (F.upd (F.upd f16 35 t58) 36 t59) 8 t61) 37 t64) 38 t65) 9 t67) 40 t70) 41 t71) 42 t72) 39 t72) 43 t74) 44 t75) 10 t76) 11 t75) 45 t79) 46 t80) 47 t81) 48 t83) 49 t83) 50 t84) 51 t86) 52 t88) 53 t90) 54 t93) 55 t94) 56 t95) 57 t97) 58 t99) 59 t102) 60 t103) 61 t104) 62 t106) 63 t108) 12 (.int .i64 1)) 64 t109) 65 (.int .i64 1)) 66 t110) 12 t110) 67 t112) 68 t110) 69 t113) 12 t113) 70 t113) 71 t115) 72 t115) 73 t116) 74 t118) 75 t120) 76 t122) 77 t124) 78 t124) 79 t125) 80 t127) 81 t129) 82 t131) 13 (.int .i64 1)) 83 t132) 84 (.int .i64 1)) 85 t133) 13 t133) 14 (.int .i64 1)) 86 t135) 87 (.int .i64 1)) 88 t136) 14 t136) 89 t136) 90 t138) 91 t136) 92 t133) 93 t139) 95 t145) 97 t146) 96 t147) 98 t149) 15 t158) 99 t160) 94 t160) 100 t162) 101 t163) 16 t163) w164) w161) w159) w150))) w148) ∧
         (Do Try.prog (sAlloc 37) (fun t165 w166 =>
         S140 w166 ∧ CallK Try.prog 31 [t146] (fun t167 w168 =>
         S140 w168 ∧ CallK Try.prog 41 [t147, t167] (fun t169 w170 =>
         S140 w170 ∧ Rd Try.prog WS.any (sExtract t169 0) fun t171 =>
         Rd Try.prog WS.any (sExtract t169 1) fun t172 =>
         Do Try.prog (sStore 37 t165 t171) (fun _ w173 =>
         S140 w173 ∧ K142 (F.upd (F.upd (F.upd (F.upd (F.upd (F.upd (F.upd (F.upd (F.upd (F.upd (F.upd (F.upd (F.upd (F.upd (F.upd (F.upd (F.upd (F.upd (F.upd (F.upd (F.upd (F.upd (F.upd (F.upd (F.upd (F.upd (F.upd (F.upd (F.upd (F.upd (F.upd (F.upd (F.upd (F.upd (F.upd (F.upd (F.upd (F.upd (F.upd (F.upd (F.upd (F.upd (F.upd (F.upd (F.upd (F.upd (F.upd (F.upd (F.upd (F.upd (F.upd (F.upd (F.upd (F.upd (F.upd (F.upd (F.upd (F.upd (F.upd (F.upd (F.upd (F.upd (F.upd (F.upd (F.upd (F.upd (F.upd (F.upd (F.upd (F.upd (F.upd (F.upd (F.upd (F.upd (F.upd (F.upd (F.upd (F.upd (F.upd (F.upd f16 35 t58) 36 t59) 8 t61) 37 t64) 38 t65) 9 t67) 40 t70) 41 t71) 42 t72) 39 t72) 43 t74) 44 t75) 10 t76) 11 t75) 45 t79) 46 t80) 47 t81) 48 t83) 49 t83) 50 t84) 51 t86) 52 t88) 53 t90) 54 t93) 55 t94) 56 t95) 57 t97) 58 t99) 59 t102) 60 t103) 61 t104) 62 t106) 63 t108) 12 (.int .i64 1)) 64 t109) 65 (.int .i64 1)) 66 t110) 12 t110) 67 t112) 68 t110) 69 t113) 12 t113) 70 t113) 71 t115) 72 t115) 73 t116) 74 t118) 75 t120) 76 t122) 77 t124) 78 t124) 79 t125) 80 t127) 81 t129) 82 t131) 13 (.int .i64 1)) 83 t132) 84 (.int .i64 1)) 85 t133) 13 t133) 14 (.int .i64 1)) 86 t135) 87 (.int .i64 1)) 88 t136) 14 t136) 89 t136) 90 t138) 91 t136) 92 t133) 93 t139) 95 t145) 97 t146) 96 t147) 15 t165) 98 t167) 99 t169) 94 t169) 100 t171) 101 t172) 16 t172) w173) w170) w168) w166) w148))) w137.drew) ∧
         (Do Try.prog (sAlloc 37) (fun t174 w175 =>
         S140 w175 ∧ CallK Try.prog 31 [t145] (fun t176 w177 =>
         S140 w177 ∧ CallK Try.prog 31 [t146] (fun t178 w179 =>
         S140 w179 ∧ CallK Try.prog 41 [t176, t178] (fun t180 w181 =>
         S140 w181 ∧ Rd Try.prog WS.any (sExtract t180 0) fun t182 =>
         Rd Try.prog WS.any (sExtract t180 1) fun t183 =>
         Do Try.prog (sStore 37 t174 t182) (fun _ w184 =>
         S140 w184 ∧ K142 (F.upd (F.upd (F.upd (F.upd (F.upd (F.upd (F.upd (F.upd (F.upd (F.upd (F.upd (F.upd (F.upd (F.upd (F.upd (F.upd (F.upd (F.upd (F.upd (F.upd (F.upd (F.upd (F.upd (F.upd (F.upd (F.upd (F.upd (F.upd (F.upd (F.upd (F.upd (F.upd (F.upd (F.upd (F.upd (F.upd (F.upd (F.upd (F.upd (F.upd (F.upd (F.upd (F.upd (F.upd (F.upd (F.upd (F.upd (F.upd (F.upd (F.upd (F.upd (F.upd (F.upd (F.upd (F.upd (F.upd (F.upd (F.upd (F.upd (F.upd (F.upd (F.upd (F.upd (F.upd (F.upd (F.upd (F.upd (F.upd (F.upd (F.upd (F.upd (F.upd (F.upd (F.upd (F.upd (F.upd (F.upd (F.upd (F.upd (F.upd f16 35 t58) 36 t59) 8 t61) 37 t64) 38 t65) 9 t67) 40 t70) 41 t71) 42 t72) 39 t72) 43 t74) 44 t75) 10 t76) 11 t75) 45 t79) 46 t80) 47 t81) 48 t83) 49 t83) 50 t84) 51 t86) 52 t88) 53 t90) 54 t93) 55 t94) 56 t95) 57 t97) 58 t99) 59 t102) 60 t103) 61 t104) 62 t106) 63 t108) 12 (.int .i64 1)) 64 t109) 65 (.int .i64 1)) 66 t110) 12 t110) 67 t112) 68 t110) 69 t113) 12 t113) 70 t113) 71 t115) 72 t115) 73 t116) 74 t118) 75 t120) 76 t122) 77 t124) 78 t124) 79 t125) 80 t127) 81 t129) 82 t131) 13 (.int .i64 1)) 83 t132) 84 (.int .i64 1)) 85 t133) 13 t133) 14 (.int .i64 1)) 86 t135) 87 (.int .i64 1)) 88 t136) 14 t136) 89 t136) 90 t138) 91 t136) 92 t133) 93 t139) 95 t145) 97 t146) 15 t174) 96 t176) 98 t178) 99 t180) 94 t180) 100 t182) 101 t183) 16 t183) w184) w181) w179) w177) w175) w137.drew))) (fun f143 w144 =>
         Rd Try.prog (WS.at w144) (sLoad 37 (f143 15)) fun t185 =>
         Rd Try.prog (WS.at w144) (sLoad 37 (f143 6)) fun t186 =>
         CallK Try.prog 33 [t185, t186] (fun t187 w188 =>
         Rd Try.prog (WS.at w188) (sUn .not t187) fun t189 =>
         GuardK t189 false (fun k w' => k (f143 16) w') (fun t190 w191 =>
         GuardK t189 false (fun k w' => k (f143 7) w') (fun t192 w193 =>
         GuardK t189 false (fun k w' => Rd Try.prog (WS.at w193) (sBin .neq 4 false t190 t192) fun v => k v w') (fun t194 w195 =>
         Rd Try.prog (WS.at w195) (sPick t189 (.bool true) t194) fun t196 =>
         CondK t196
          (k (.bool false) w195)
          (Rd Try.prog (WS.at w195) (sLoad 37 (f143 10)) fun t197 =>
          CallK Try.prog 37 [t197, (.int .i64 1)] (fun t198 w199 =>
          Rd Try.prog (WS.at w199) (sBin .lss 3 true t198 (.int .i64 0)) fun t200 =>
          CondK t200
           (k (.bool false) w199)
           (Rd Try.prog (WS.at w199) (sBin .neq 3 false t198 (f143 13)) fun t201 =>
           CondK t201
            (k (.bool false) w199)
            (k (.bool true) w199))) w195)) w193) w191) w188) w144)))) w134) w130)) w128) w126) w123) w121) w119) w117) w114) w111) w107)) w105) w98.drew)) w96) w89.drew)) w87) w85) w82) w78) w77) w73) w69) w68) w66) w63) w62) w60) w17))) w7)) w4) w2) w
theorem body7 : Try.f7.body = some (bodyOf Try.f7) := by kernel_rfl
theorem same7 (v0 v1 : Value) (k : Value → World → Prop) (w : World) : wpF Try.prog pl7 (bodyOf Try.f7) (bodyQ Try.prog Try.f7.results.toList k) (initF [v0, v1]) w = S7 v0 v1 k w := by kernel_rfl
theorem enter7 {v0 v1 : Value} {k : Value → World → Prop} {w : World} (h : S7 v0 v1 k w) : CallK Try.prog 7 [v0, v1] k w :=
  call_of_wpF (pl := pl7) mixed Try.func7 body7 (by kernel_rfl) (of_decide_eq_true (by kernel_rfl)) (by kernel_rfl) (by kernel_rfl) (same7 v0 v1 k w ▸ h)

/-! loop.example/g00758/spec.JoinOf -/
def pl38 : Plans := fun _ => ⟨false, [], .nil⟩
def S38 (v0 v1 : Value) (k : Value → World → Prop) (w : World) : Prop :=
 Do Try.prog (sBox 37 v0) (fun t1 w2 =>
 Do Try.prog (sBox 37 v1) (fun t3 w4 =>
 Do Try.prog (sAlloc 37) (fun t5 w6 =>
 Rd Try.prog (WS.at w6) (sLoad 37 t1) fun t7 =>
 Rd Try.prog (WS.at w6) (sLoad 37 t3) fun t8 =>
 CallK Try.prog 90 [t7, t8] (fun t9 w10 =>
 Rd Try.prog (WS.at w10) (sUn .not t9) fun t11 =>
 CondK t11
  (Rd Try.prog (WS.at w10) (sBuild 37 []) fun t12 =>
  Do Try.prog (sStore 37 t5 t12) (fun _ w13 =>
  Rd Try.prog (WS.at w13) (sLoadVar 37 t5) fun t14 => k (.tuple #[t14, (.bool false)]) w13) w10)
  (Rd Try.prog (WS.at w10) (sFieldAddr 37 t1 0) fun t15 =>
  Rd Try.prog (WS.at w10) (sLoad 3 t15) fun t16 =>
  Rd Try.prog (WS.at w10) (sBin .add 3 true (.int .i64 1) t16) fun t17 =>
  Rd Try.prog (WS.at w10) (sFieldAddr 37 t3 0) fun t18 =>
  Rd Try.prog (WS.at w10) (sLoad 3 t18) fun t19 =>
  Rd Try.prog (WS.at w10) (sBin .add 3 false t17 t19) fun t20 =>
  Rd Try.prog (WS.at w10) (sFieldAddr 37 t1 1) fun t21 =>
  Rd Try.prog (WS.at w10) (sLoad 3 t21) fun t22 =>
  Rd Try.prog (WS.at w10) (sFieldAddr 37 t1 0) fun t23 =>
  Rd Try.prog (WS.at w10) (sLoad 3 t23) fun t24 =>
  Rd Try.prog (WS.at w10) (sBin .add 3 true (.int .i64 1) t24) fun t25 =>
  Do Try.prog (sBuildSlice 22 2 [(0, (.int .i64 1)), (1, t25)]) (fun t26 w27 =>
  Rd Try.prog (WS.at w27) (sBuild 77 [(1, t26)]) fun t28 =>
  Do Try.prog (sBuildSlice 35 1 [(0, t28)]) (fun t29 w30 =>
  Rd Try.prog (WS.at w30) (sLoad 37 t1) fun t31 =>
  Rd Try.prog (WS.at w30) (sLoad 37 t3) fun t32 =>
  Do Try.prog (sBuildSlice 154 2 [(0, t31), (1, t32)]) (fun t33 w34 =>
  CallK Try.prog 86 [t20, t22, t29, t33] (fun t35 w36 =>
  Rd Try.prog (WS.at w36) (sExtract t35 0) fun t37 =>
  Rd Try.prog (WS.at w36) (sExtract t35 1) fun t38 =>
  Do Try.prog (sStore 37 t5 t37) (fun _ w39 =>
  Rd Try.prog (WS.at w39) (sLoadVar 37 t5) fun t40 => k (.tuple #[t40, t38]) w39) w36) w34) w30) w27) w10)) w6) w4) w2) w
theorem body38 : Try.f38.body = some (bodyOf Try.f38) := by kernel_rfl
theorem same38 (v0 v1 : Value) (k : Value → World → Prop) (w : World) : wpF Try.prog pl38 (bodyOf Try.f38) (bodyQ Try.prog Try.f38.results.toList k) (initF [v0, v1]) w = S38 v0 v1 k w := by kernel_rfl
theorem enter38 {v0 v1 : Value} {k : Value → World → Prop} {w : World} (h : S38 v0 v1 k w) : CallK Try.prog 38 [v0, v1] k w :=
  call_of_wpF (pl := pl38) mixed Try.func38 body38 (by kernel_rfl) (of_decide_eq_true (by kernel_rfl)) (by kernel_rfl) (by kernel_rfl) (same38 v0 v1 k w ▸ h)

/-! loop.example/g00758/impl.JoinOf -/
def pl39 : Plans := fun _ => ⟨false, [], .nil⟩
def S39 (v0 v1 : Value) (k : Value → World → Prop) (w : World) : Prop :=
 Do Try.prog (sBox 37 v0) (fun t1 w2 =>
 Do Try.prog (sBox 37 v1) (fun t3 w4 =>
 Do Try.prog (sAlloc 37) (fun t5 w6 =>
 Rd Try.prog (WS.at w6) (sLoad 37 t1) fun t7 =>
 CallK Try.prog 84 [t7] (fun t8 w9 =>
 Rd Try.prog (WS.at w9) (sUn .not t8) fun t10 =>
 GuardK t10 false (fun k w' => Rd Try.prog (WS.at w9) (sLoad 37 t3) fun v => k v w') (fun t11 w12 =>
 GuardK t10 false (fun k w' => CallK Try.prog 84 [t11] k w') (fun t13 w14 =>
 GuardK t10 false (fun k w' => Rd Try.prog (WS.at w14) (sUn .not t13) fun v => k v w') (fun t15 w16 =>
 Rd Try.prog (WS.at w16) (sPick t10 (.bool true) t15) fun t17 =>
 GuardK t17 false (fun k w' => Rd Try.prog (WS.at w16) (sFieldAddr 37 t1 1) fun v => k v w') (fun t18 w19 =>
 GuardK t17 false (fun k w' => Rd Try.prog (WS.at w19) (sLoad 3 t18) fun v => k v w') (fun t20 w21 =>
 GuardK t17 false (fun k w' => Rd Try.prog (WS.at w21) (sFieldAddr 37 t3 1) fun v => k v w') (fun t22 w23 =>
 GuardK t17 false (fun k w' => Rd Try.prog (WS.at w23) (sLoad 3 t22) fun v => k v w') (fun t24 w25 =>
 GuardK t17 false (fun k w' => Rd Try.prog (WS.at w25) (sBin .neq 3 false t20 t24) fun v => k v w') (fun t26 w27 =>
 Rd Try.prog (WS.at w27) (sPick t17 (.bool true) t26) fun t28 =>
 CondK t28
  (Rd Try.prog (WS.at w27) (sBuild 37 []) fun t29 =>
  Do Try.prog (sStore 37 t5 t29) (fun _ w30 =>
  Rd Try.prog (WS.at w30) (sLoadVar 37 t5) fun t31 => k (.tuple #[t31, (.bool false)]) w30) w27)
  (Rd Try.prog (WS.at w27) (sFieldAddr 37 t1 0) fun t32 =>
  Rd Try.prog (WS.at w27) (sLoad 3 t32) fun t33 =>
  Rd Try.prog (WS.at w27) (sBin .add 3 true (.int .i64 1) t33) fun t34 =>
  Do Try.prog (sBuildSlice 22 2 [(0, (.int .i64 1)), (1, t34)]) (fun t35 w36 =>
  Do Try.prog (sBuildSlice 48 1 [(0, t35)]) (fun t37 w38 =>
  Rd Try.prog (WS.at w38) (sLoad 37 t1) fun t39 =>
  Rd Try.prog (WS.at w38) (sLoad 37 t3) fun t40 =>
  Do Try.prog (sBuildSlice 154 2 [(0, t39), (1, t40)]) (fun t41 w42 =>
  CallK Try.prog 87 [t37, t41] (fun t43 w44 =>
  Rd Try.prog (WS.at w44) (sExtract t43 0) fun t45 =>
  Rd Try.prog (WS.at w44) (sExtract t43 1) fun t46 =>
  Do Try.prog (sStore 37 t5 t45) (fun _ w47 =>
  Rd Try.prog (WS.at w47) (sLoadVar 37 t5) fun t48 => k (.tuple #[t48, t46]) w47) w44) w42) w38) w36) w27)) w25) w23) w21) w19) w16) w14) w12) w9) w6) w4) w2) w
theorem body39 : Try.f39.body = some (bodyOf Try.f39) := by kernel_rfl
theorem same39 (v0 v1 : Value) (k : Value → World → Prop) (w : World) : wpF Try.prog pl39 (bodyOf Try.f39) (bodyQ Try.prog Try.f39.results.toList k) (initF [v0, v1]) w = S39 v0 v1 k w := by kernel_rfl
theorem enter39 {v0 v1 : Value} {k : Value → World → Prop} {w : World} (h : S39 v0 v1 k w) : CallK Try.prog 39 [v0, v1] k w :=
  call_of_wpF (pl := pl39) mixed Try.func39 body39 (by kernel_rfl) (of_decide_eq_true (by kernel_rfl)) (by kernel_rfl) (by kernel_rfl) (same39 v0 v1 k w ▸ h)

/-! loop.example/g00758/spec.UnionOf -/
def pl40 : Plans := fun _ => ⟨false, [], .nil⟩
def S40 (v0 v1 : Value) (k : Value → World → Prop) (w : World) : Prop :=
 Do Try.prog (sBox 37 v0) (fun t1 w2 =>
 Do Try.prog (sBox 37 v1) (fun t3 w4 =>
 Do Try.prog (sAlloc 37) (fun t5 w6 =>
 Rd Try.prog (WS.at w6) (sLoad 37 t1) fun t7 =>
 Rd Try.prog (WS.at w6) (sLoad 37 t3) fun t8 =>
 CallK Try.prog 90 [t7, t8] (fun t9 w10 =>
 Rd Try.prog (WS.at w10) (sUn .not t9) fun t11 =>
 CondK t11
  (Rd Try.prog (WS.at w10) (sBuild 37 []) fun t12 =>
  Do Try.prog (sStore 37 t5 t12) (fun _ w13 =>
  Rd Try.prog (WS.at w13) (sLoadVar 37 t5) fun t14 => k (.tuple #[t14, (.bool false)]) w13) w10)
  (Rd Try.prog (WS.at w10) (sFieldAddr 37 t1 0) fun t15 =>
  Rd Try.prog (WS.at w10) (sLoad 3 t15) fun t16 =>
  Rd Try.prog (WS.at w10) (sBin .add 3 true (.int .i64 1) t16) fun t17 =>
  Rd Try.prog (WS.at w10) (sFieldAddr 37 t3 0) fun t18 =>
  Rd Try.prog (WS.at w10) (sLoad 3 t18) fun t19 =>
  Rd Try.prog (WS.at w10) (sBin .add 3 false t17 t19) fun t20 =>
  Rd Try.prog (WS.at w10) (sFieldAddr 37 t1 1) fun t21 =>
  Rd Try.prog (WS.at w10) (sLoad 3 t21) fun t22 =>
  Do Try.prog (sBuildSlice 22 1 [(0, (.int .i64 1))]) (fun t23 w24 =>
  Rd Try.prog (WS.at w24) (sBuild 77 [(1, t23)]) fun t25 =>
  Rd Try.prog (WS.at w24) (sFieldAddr 37 t1 0) fun t26 =>
  Rd Try.prog (WS.at w24) (sLoad 3 t26) fun t27 =>
  Rd Try.prog (WS.at w24) (sBin .add 3 true (.int .i64 1) t27) fun t28 =>
  Do Try.prog (sBuildSlice 22 1 [(0, t28)]) (fun t29 w30 =>
  Rd Try.prog (WS.at w30) (sBuild 77 [(1, t29)]) fun t31 =>
  Do Try.prog (sBuildSlice 35 2 [(0, t25), (1, t31)]) (fun t32 w33 =>
  Rd Try.prog (WS.at w33) (sLoad 37 t1) fun t34 =>
  Rd Try.prog (WS.at w33) (sLoad 37 t3) fun t35 =>
  Do Try.prog (sBuildSlice 154 2 [(0, t34), (1, t35)]) (fun t36 w37 =>
  CallK Try.prog 86 [t20, t22, t32, t36] (fun t38 w39 =>
  Rd Try.prog (WS.at w39) (sExtract t38 0) fun t40 =>
  Rd Try.prog (WS.at w39) (sExtract t38 1) fun t41 =>
  Do Try.prog (sStore 37 t5 t40) (fun _ w42 =>
  Rd Try.prog (WS.at w42) (sLoadVar 37 t5) fun t43 => k (.tuple #[t43, t41]) w42) w39) w37) w33) w30) w24) w10)) w6) w4) w2) w
theorem body40 : Try.f40.body = some (bodyOf Try.f40) := by kernel_rfl
theorem same40 (v0 v1 : Value) (k : Value → World → Prop) (w : World) : wpF Try.prog pl40 (bodyOf Try.f40) (bodyQ Try.prog Try.f40.results.toList k) (initF [v0, v1]) w = S40 v0 v1 k w := by kernel_rfl
theorem enter40 {v0 v1 : Value} {k : Value → World → Prop} {w : World} (h : S40 v0 v1 k w) : CallK Try.prog 40 [v0, v1] k w :=
  call_of_wpF (pl := pl40) mixed Try.func40 body40 (by kernel_rfl) (of_decide_eq_true (by kernel_rfl)) (by kernel_rfl) (by kernel_rfl) (same40 v0 v1 k w ▸ h)

/-! loop.example/g00758/impl.UnionOf -/
def pl41 : Plans := fun _ => ⟨false, [], .nil⟩
def S41 (v0 v1 : Value) (k : Value → World → Prop) (w : World) : Prop :=
 Do Try.prog (sBox 37 v0) (fun t1 w2 =>
 Do Try.prog (sBox 37 v1) (fun t3 w4 =>
 Do Try.prog (sAlloc 37) (fun t5 w6 =>
 Rd Try.prog (WS.at w6) (sLoad 37 t1) fun t7 =>
 CallK Try.prog 84 [t7] (fun t8 w9 =>
 Rd Try.prog (WS.at w9) (sUn .not t8) fun t10 =>
 GuardK t10 false (fun k w' => Rd Try.prog (WS.at w9) (sLoad 37 t3) fun v => k v w') (fun t11 w12 =>
 GuardK t10 false (fun k w' => CallK Try.prog 84 [t11] k w') (fun t13 w14 =>
 GuardK t10 false (fun k w' => Rd Try.prog (WS.at w14) (sUn .not t13) fun v => k v w') (fun t15 w16 =>
 Rd Try.prog (WS.at w16) (sPick t10 (.bool true) t15) fun t17 =>
 GuardK t17 false (fun k w' => Rd Try.prog (WS.at w16) (sFieldAddr 37 t1 1) fun v => k v w') (fun t18 w19 =>
 GuardK t17 false (fun k w' => Rd Try.prog (WS.at w19) (sLoad 3 t18) fun v => k v w') (fun t20 w21 =>
 GuardK t17 false (fun k w' => Rd Try.prog (WS.at w21) (sFieldAddr 37 t3 1) fun v => k v w') (fun t22 w23 =>
 GuardK t17 false (fun k w' => Rd Try.prog (WS.at w23) (sLoad 3 t22) fun v => k v w') (fun t24 w25 =>
 GuardK t17 false (fun k w' => Rd Try.prog (WS.at w25) (sBin .neq 3 false t20 t24) fun v => k v w') (fun t26 w27 =>
 Rd Try.prog (WS.at w27) (sPick t17 (.bool true) t26) fun t28 =>
 CondK t28
  (Rd Try.prog (WS.at w27) (sBuild 37 []) fun t29 =>
  Do Try.prog (sStore 37 t5 t29) (fun _ w30 =>
  Rd Try.prog (WS.at w30) (sLoadVar 37 t5) fun t31 => k (.tuple #[t31, (.bool false)]) w30) w27)
  (Do Try.prog (sBuildSlice 22 1 [(0, (.int .i64 1))]) (fun t32 w33 =>
  Rd Try.prog (WS.at w33) (sFieldAddr 37 t1 0) fun t34 =>
  Rd Try.prog (WS.at w33) (sLoad 3 t34) fun t35 =>
  Rd Try.prog (WS.at w33) (sBin .add 3 true (.int .i64 1) t35) fun t36 =>
  Do Try.prog (sBuildSlice 22 1 [(0, t36)]) (fun t37 w38 =>
  Do Try.prog (sBuildSlice 48 2 [(0, t32), (1, t37)]) (fun t39 w40 =>
  Rd Try.prog (WS.at w40) (sLoad 37 t1) fun t41 =>
  Rd Try.prog (WS.at w40) (sLoad 37 t3) fun t42 =>
  Do Try.prog (sBuildSlice 154 2 [(0, t41), (1, t42)]) (fun t43 w44 =>
  CallK Try.prog 87 [t39, t43] (fun t45 w46 =>
  Rd Try.prog (WS.at w46) (sExtract t45 0) fun t47 =>
  Rd Try.prog (WS.at w46) (sExtract t45 1) fun t48 =>
  Do Try.prog (sStore 37 t5 t47) (fun _ w49 =>
  Rd Try.prog (WS.at w49) (sLoadVar 37 t5) fun t50 => k (.tuple #[t50, t48]) w49) w46) w44) w40) w38) w33) w27)) w25) w23) w21) w19) w16) w14) w12) w9) w6) w4) w2) w
theorem body41 : Try.f41.body = some (bodyOf Try.f41) := by kernel_rfl
theorem same41 (v0 v1 : Value) (k : Value → World → Prop) (w : World) : wpF Try.prog pl41 (bodyOf Try.f41) (bodyQ Try.prog Try.f41.results.toList k) (initF [v0, v1]) w = S41 v0 v1 k w := by kernel_rfl
theorem enter41 {v0 v1 : Value} {k : Value → World → Prop} {w : World} (h : S41 v0 v1 k w) : CallK Try.prog 41 [v0, v1] k w :=
  call_of_wpF (pl := pl41) mixed Try.func41 body41 (by kernel_rfl) (of_decide_eq_true (by kernel_rfl)) (by kernel_rfl) (by kernel_rfl) (same41 v0 v1 k w ▸ h)

/-! loop.example/g00758/spec.l20Two -/
def pl90 : Plans := fun _ => ⟨false, [], .nil⟩
def S90 (v0 v1 : Value) (k : Value → World → Prop) (w : World) : Prop :=
 Do Try.prog (sBox 37 v0) (fun t1 w2 =>
 Do Try.prog (sBox 37 v1) (fun t3 w4 =>
 Rd Try.prog (WS.at w4) (sLoad 37 t1) fun t5 =>
 CallK Try.prog 81 [t5] (fun t6 w7 =>
 GuardK t6 true (fun k w' => Rd Try.prog (WS.at w7) (sLoad 37 t3) fun v => k v w') (fun t8 w9 =>
 GuardK t6 true (fun k w' => CallK Try.prog 81 [t8] k w') (fun t10 w11 =>
 Rd Try.prog (WS.at w11) (sPick t6 t10 (.bool false)) fun t12 =>
 GuardK t12 true (fun k w' => Rd Try.prog (WS.at w11) (sFieldAddr 37 t1 1) fun v => k v w') (fun t13 w14 =>
 GuardK t12 true (fun k w' => Rd Try.prog (WS.at w14) (sLoad 3 t13) fun v => k v w') (fun t15 w16 =>
 GuardK t12 true (fun k w' => Rd Try.prog (WS.at w16) (sFieldAddr 37 t3 1) fun v => k v w') (fun t17 w18 =>
 GuardK t12 true (fun k w' => Rd Try.prog (WS.at w18) (sLoad 3 t17) fun v => k v w') (fun t19 w20 =>
 GuardK t12 true (fun k w' => Rd Try.prog (WS.at w20) (sBin .eql 3 false t15 t19) fun v => k v w') (fun t21 w22 =>
 Rd Try.prog (WS.at w22) (sPick t12 t21 (.bool false)) fun t23 =>
 k t23 w22) w20) w18) w16) w14) w11) w9) w7) w4) w2) w
theorem body90 : Try.f90.body = some (bodyOf Try.f90) := by kernel_rfl
theorem same90 (v0 v1 : Value) (k : Value → World → Prop) (w : World) : wpF Try.prog pl90 (bodyOf Try.f90) (bodyQ Try.prog Try.f90.results.toList k) (initF [v0, v1]) w = S90 v0 v1 k w := by kernel_rfl
theorem enter90 {v0 v1 : Value} {k : Value → World → Prop} {w : World} (h : S90 v0 v1 k w) : CallK Try.prog 90 [v0, v1] k w :=
  call_of_wpF (pl := pl90) mixed Try.func90 body90 (by kernel_rfl) (of_decide_eq_true (by kernel_rfl)) (by kernel_rfl) (by kernel_rfl) (same90 v0 v1 k w ▸ h)

end Go.Proofs.Ytiohaeckagjebaa
