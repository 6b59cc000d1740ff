/- The laws of PumpTree, over their contracts. -/
import Derived.Test.YtiohaeckagjebaaShQL
import Derived.Test.YtiohaeckagjebaaShQ10
set_option linter.unusedVariables false
set_option linter.unusedSimpArgs false
set_option maxRecDepth 100000
namespace Go.Proofs.Ytiohaeckagjebaa
open Go Go.Sh Go.RowKit

set_option maxHeartbeats 2000000 in
theorem law_PumpTree {w : World} {v0 : Value} {g0 : Gram} {X1 : Option Addr} {c1 : Nat} {xs1 : List Int} {a2 : Int} (hv0 : GramV (fun q => q < w.heap.size) w v0 g0) (hx1 : Ints w X1 xs1) (hc1 : xs1.length ≤ c1) {k : Value → World → Prop} (hk : ∀ w', Gr w w' → k (.bool true) w') :
    CallK Try.prog 15 [v0, .slice X1 xs1.length c1, .int .i64 a2] k w := by
  obtain ⟨Y0, d0, rfl, hd0, hy0⟩ := hv0
  refine enter15 ?_
  unfold S15
  have H := Apt.nil w
  refine boxH H fun b0 w1 H => ?_
  refine rdi len22 (rdi bin_gtr ?_)
  refine cond_split (fun _ => hk _ H.gr) fun h => ?_
  have hL1 : xs1.length ≤ 1048576 := by have := of_decide_eq_false h; omega
  refine rdi (ldB_agg agg31 sz31 rfl (H.box 0 rfl)) ?_
  refine szGrammar_c (gm := g0) ⟨Y0, d0, rfl, hd0, hy0.gr H.gr⟩ (by omega) (by omega) fun w2 g => ?_
  have H := H.step g
  refine rdi bin_lss ?_
  refine cond_split (fun _ => hk _ H.gr) fun h => ?_
  have hz0 := left_ok (of_decide_eq_false h)
  have hle0 := left_le (n := 1048576) (s := sizeR g0.rules) (by omega)
  have hp0 := of_decide_eq_false h
  have hlV : (pumpTreeV g0 xs1 a2).1.length ≤ 1000000 := pumpTreeV_len
  refine rdi (ldB_agg agg31 sz31 rfl (H.box 0 rfl)) ?_
  refine toGrammar_c (gm := g0) ⟨Y0, d0, rfl, hd0, hy0.gr H.gr⟩ (by omega) fun v w3 g oc => ?_
  obtain ⟨XC, cC, psC, rfl, oc⟩ := oc
  have H := H.addRules g oc
  refine toIntS_c (hx1.gr H.gr) rfl (by omega) fun XC cC w4 g oc => ?_
  have H := H.addOwn g oc
  simp only [List.nil_append, List.cons_append, List.set_cons_zero, List.set_cons_succ] at H
  refine specPumpTree_c (rls_gramV (gm := g0) (H.rules 1 rfl)) (H.ints 2 rfl) rfl (H.row 2 rfl).cap.1 fun w5 U dU g oU => ?_
  have H := H.addOwn g oU
  refine rdi extract_two_0 (rdi extract_two_1 ?_)
  simp only [List.nil_append, List.cons_append, List.set_cons_zero, List.set_cons_succ] at H
  refine rdi (ldB_agg agg31 sz31 rfl (H.box 0 rfl)) ?_
  refine toGrammar_c (gm := g0) ⟨Y0, d0, rfl, hd0, hy0.gr H.gr⟩ (by omega) fun v w6 g oc => ?_
  obtain ⟨XC, cC, psC, rfl, oc⟩ := oc
  have H := H.addRules g oc
  refine allocH H inf37 fun bx0 w7 H => ?_
  refine storeH H 5 rfl sz37 rfl rfl rfl fun w8 H => ?_
  simp only [List.nil_append, List.cons_append, List.set_cons_zero, List.set_cons_succ] at H
  refine toIntS_c (hx1.gr H.gr) rfl (by omega) fun XC cC w9 g oc => ?_
  have H := H.addOwn g oc
  simp only [List.nil_append, List.cons_append, List.set_cons_zero, List.set_cons_succ] at H
  refine rdi (ldB_agg agg37 sz37 rfl (H.box 5 rfl)) ?_
  refine implPumpTree_c (rls_gramV (gm := g0) (H.rules 4 rfl)) (H.ints 6 rfl) rfl (H.row 6 rfl).cap.1 fun w10 U dU g oU => ?_
  have H := H.addOwn g oU
  refine rdi extract_two_0 (rdi extract_two_1 ?_)
  simp only [List.nil_append, List.cons_append, List.set_cons_zero, List.set_cons_succ] at H
  refine eqIntS_same (H.ints 7 rfl) (H.ints 3 rfl) fun w11 g => ?_
  have H := H.step g
  refine rdi un_not (rdi guard_ff (rdi guard_ff (rdi guard_ff (rdi bin_neq_same (rdi pick_false (rdi cond_false' ?_))))))
  have H := H.drew
  refine ⟨fun w' => Gr w11.drew w', Gr.refl _, ?_⟩
  refine rdi (rdG_agg agg37 sz37 rfl (H.box 5 rfl)) (rdi (rdG_agg agg31 sz31 rfl (H.box 0 rfl)) ?_)
  refine toGrammar_c (gm := g0) ⟨Y0, d0, rfl, hd0, hy0.gr H.gr⟩ (by omega) fun v w12 g oc => ?_
  refine ⟨g, ?_⟩
  have H := H.step g
  refine eqGrammar_same (rls_gramV (gm := g0) (H.rules 4 rfl)) oc.read fun w13 g => ?_
  have H := H.step g
  refine rdi un_not (rdi cond_false' ?_)
  refine toIntS_c (hx1.gr H.gr) rfl (by omega) fun XC cC w14 g oc => ?_
  have H := H.step g
  refine eqIntS_same (H.ints 6 rfl) (Own.ints oc) fun w15 g => ?_
  have H := H.step g
  refine rdi un_not (rdi cond_false' ?_)
  refine rdi (ldB_agg agg37 sz37 rfl (H.box 5 rfl)) ?_
  refine markGrammar_c (gm := g0) (H.rules 4 rfl) rfl (by omega) (by omega) fun w16 g om => ?_
  have H := H.setRules 4 rfl (markR_length _ g0.rules) g om
  simp only [List.nil_append, List.cons_append, List.set_cons_zero, List.set_cons_succ] at H
  refine markH H 6 rfl rfl (by omega) (by omega) fun w17 H => ?_
  simp only [List.nil_append, List.cons_append, List.set_cons_zero, List.set_cons_succ] at H
  refine rdi (bin_lss_false (by omega)) (rdi guard_ff (rdi guard_ff (rdi guard_ff ?_)))
  refine eqIntS_same (H.ints 7 rfl) (H.ints 3 rfl) fun w18 g => ?_
  have H := H.step g
  refine rdi guard_ff (rdi un_not (rdi pick_false (rdi guard_ff (rdi guard_ff (rdi guard_ff (rdi bin_neq_same (rdi pick_false (rdi cond_false' ?_))))))))
  refine markH H 7 rfl rfl (by omega) (by omega) fun w19 H => ?_
  simp only [List.nil_append, List.cons_append, List.set_cons_zero, List.set_cons_succ] at H
  refine heldIntS_c (H.ints 7 rfl) rfl (by omega) (by omega) fun w20 g => ?_
  have H := H.step g
  refine rdi (bin_lss_false (by omega)) (rdi cond_false' (rdi bin_neqi_same (rdi cond_false' ?_)))
  refine rdi (ldB_agg agg31 sz31 rfl (H.box 0 rfl)) ?_
  refine toGrammar_c (gm := g0) ⟨Y0, d0, rfl, hd0, hy0.gr H.gr⟩ (by omega) fun v w21 g oc => ?_
  obtain ⟨XC, cC, psC, rfl, oc⟩ := oc
  have H := H.addRules g oc
  refine toIntS_c (hx1.gr H.gr) rfl (by omega) fun XC cC w22 g oc => ?_
  have H := H.addOwn g oc
  simp only [List.nil_append, List.cons_append, List.set_cons_zero, List.set_cons_succ] at H
  refine implPumpTree_c (rls_gramV (gm := g0) (H.rules 8 rfl)) (H.ints 9 rfl) rfl (H.row 9 rfl).cap.1 fun w23 U dU g oU => ?_
  have H := H.addOwn g oU
  refine rdi extract_two_0 (rdi extract_two_1 ?_)
  simp only [List.nil_append, List.cons_append, List.set_cons_zero, List.set_cons_succ] at H
  refine eqIntS_same (H.ints 10 rfl) (H.ints 3 rfl) fun w24 g => ?_
  have H := H.step g
  refine rdi un_not (rdi guard_ff (rdi guard_ff (rdi guard_ff (rdi bin_neq_same (rdi pick_false (rdi cond_false' ?_))))))
  refine heldIntS_c (H.ints 7 rfl) rfl (by omega) (by omega) fun w25 g => ?_
  have H := H.step g
  refine rdi (bin_lss_false (by omega)) (rdi cond_false' (rdi bin_neqi_same (rdi cond_false' ?_)))
  exact hk _ H.gr
end Go.Proofs.Ytiohaeckagjebaa
