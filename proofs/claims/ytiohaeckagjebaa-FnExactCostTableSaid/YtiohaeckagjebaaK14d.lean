/- Texts of this repository put together: ShN4, ShNL, ShR, ShRG, ShIO. -/
import Derived.Test.YtiohaeckagjebaaK14c
import Derived.Test.YtiohaeckagjebaaK14b
import Derived.Test.YtiohaeckagjebaaK14a
import Derived.WalkKit
import Derived.ProofKit
import Derived.OpenShut
import Derived.ShutString
import Derived.ChangeOld
import Derived.Below
import Derived.SizedLaws
import Derived.Deep.Slices
import Derived.Deep.SlicePairs
import Derived.Deep.Strs
import Derived.Test.YtiohaeckagjebaaRows
import Derived.JoinedOf
import Derived.KernelRfl

/- Contracts: which costs are asked for; CostTable of the reference and of the program. -/
set_option linter.unusedVariables false
set_option linter.unusedSimpArgs false
set_option maxRecDepth 100000
namespace Go.Sh
open Go
def costsB (gm : Gram) (cs : List Int) : Bool := (goodG gm && decide (cs.length = gm.rules.length)) && allB cs 1 100
theorem costsB_ok {gm : Gram} {cs : List Int} (h : costsB gm cs = true) : goodG gm = true ∧ CostsOk gm cs := by
  simp only [costsB, Bool.and_eq_true, decide_eq_true_eq, allB, List.all_eq_true, inB] at h
  exact ⟨h.1.1, h.1.2, h.2⟩
noncomputable def bestT (gm : Gram) (cs ws : List Int) : CT := fixT (candC gm.rules ws cs) gm.rules (ws.length + 1)
noncomputable def costTableV (gm : Gram) (cs ws : List Int) : List Int × Bool := if (costsB gm cs && wordB gm.toks ws) = true then (tellT (bestT gm cs ws) (ws.length + 1) gm.nons.toNat, true) else ([], false)
theorem costTableV_len (gm : Gram) (cs ws : List Int) : (costTableV gm cs ws).1.length ≤ 1000000 := by
  unfold costTableV
  split
  · rename_i h
    simp only [Bool.and_eq_true] at h
    have h6 := good_nons (costsB_ok h.1).1
    have hl := wordB_len h.2
    have h1 := tellT_len (bestT gm cs ws) (ws.length + 1) gm.nons.toNat
    have h2 : (ws.length + 1) * (ws.length + 1) ≤ 11 * 11 := Nat.mul_le_mul (by omega) (by omega)
    have h3 : gm.nons.toNat * ((ws.length + 1) * (ws.length + 1)) ≤ 6 * (11 * 11) := Nat.mul_le_mul (by omega) h2
    show (tellT (bestT gm cs ws) (ws.length + 1) gm.nons.toNat).length ≤ 1000000
    omega
  · exact Nat.zero_le _
def segP (T : CT) (A i t : Nat) : List Int := (List.range' i t).map fun j => encM (T A i j)
theorem segP_next (T : CT) (A i t : Nat) : segP T A i (t + 1) = segP T A i t ++ [encM (T A i (i + t))] := by
  unfold segP
  rw [List.range'_concat, List.map_append]
  simp
theorem segP_all (T : CT) (n A i : Nat) : segP T A i (n - i) = segT T n A i := rfl
theorem segP_len (T : CT) (A i t : Nat) : (segP T A i t).length = t := by simp [segP]
theorem notAny_all (cs : List Int) : (!cs.any fun x => !inB x 1 100) = allB cs 1 100 := by simp [allB, List.not_any_eq_all_not]
end Go.Sh
namespace Go.Proofs.Ytiohaeckagjebaa
open Go Go.Sh Go.RowKit
theorem l12Costs_c {F : Nat → Prop} {w : World} {v : Value} {gm : Gram} {Q : Option Addr} {m0 cq : Nat} {cs : List Int} (hv : GramV F w v gm) (hQ : Ints w Q cs) (hm0 : m0 = cs.length) {k : Value → World → Prop} (hk : ∀ w', Gr w w' → k (.bool (costsB gm cs)) w') :
    CallK Try.prog 111 [v, .slice Q m0 cq] k w := by
  subst hm0
  obtain ⟨Y, cy, rfl, hc, hy⟩ := hv
  refine enter111 ?_
  unfold S111
  have H := Apt.nil w
  refine boxH H fun b1 w1 H => ?_
  rw [ldB_agg agg37 sz37 rfl (H.box 0 rfl)]
  refine goodGrammar_c (gm := gm) ⟨Y, cy, rfl, hc, hy.gr H.gr⟩ fun w2 g2 => ?_
  have H := H.step g2
  unfold costsB at hk
  cases hg : goodG gm
  · simp only [go_sem, Nat.reduceEqDiff]
    rw [hg, Bool.false_and, Bool.false_and] at hk
    exact hk _ H.gr
  simp only [go_sem, Nat.reduceEqDiff]
  rw [hg, Bool.true_and] at hk
  rw [ldB35 (H.box 0 rfl) rfl]
  simp only [go_sem, Nat.reduceEqDiff]
  by_cases hl : cs.length = gm.rules.length
  · rw [decide_eq_true hl, Bool.true_and] at hk
    simp only [show ((cs.length : Int) = (gm.rules.length : Int)) from by omega, decide_true, go_sem, Nat.reduceEqDiff]
    refine l1All_c (hQ.gr H.gr) fun w3 g3 => ?_
    have H := H.step g3
    exact hk _ H.gr
  · rw [decide_eq_false hl, Bool.false_and] at hk
    simp only [show ¬ ((cs.length : Int) = (gm.rules.length : Int)) from by omega, decide_false, go_sem, Nat.reduceEqDiff]
    exact hk _ H.gr
theorem areCosts1_c {x : Int} {w : World} {k : Value → World → Prop} (hk : k (.bool (!inB x 1 100)) w) : CallK Try.prog 153 [.int .i64 x] k w := by
  refine enter153 ?_
  unfold S153
  refine in_c ?_
  simp only [go_sem, Nat.reduceEqDiff]
  exact hk
theorem areCosts_c {F : Nat → Prop} {w : World} {v : Value} {gm : Gram} {Q : Option Addr} {m0 cq : Nat} {cs : List Int} (hv : GramV F w v gm) (hQ : Ints w Q cs) (hm0 : m0 = cs.length) {k : Value → World → Prop} (hk : ∀ w', Gr w w' → k (.bool (costsB gm cs)) w') :
    CallK Try.prog 114 [v, .slice Q m0 cq] k w := by
  subst hm0
  obtain ⟨Y, cy, rfl, hc, hy⟩ := hv
  refine enter114 ?_
  unfold S114
  have H := Apt.nil w
  refine boxH H fun b1 w1 H => ?_
  rw [ldB_agg agg37 sz37 rfl (H.box 0 rfl)]
  refine isGrammar_c (gm := gm) ⟨Y, cy, rfl, hc, hy.gr H.gr⟩ fun w2 g2 => ?_
  have H := H.step g2
  unfold costsB at hk
  cases hg : goodG gm
  · simp only [go_sem, Nat.reduceEqDiff]
    rw [hg, Bool.false_and, Bool.false_and] at hk
    exact hk _ H.gr
  simp only [go_sem, Nat.reduceEqDiff]
  rw [hg, Bool.true_and] at hk
  rw [ldB35 (H.box 0 rfl) rfl]
  simp only [go_sem, Nat.reduceEqDiff]
  by_cases hl : cs.length = gm.rules.length
  · rw [decide_eq_true hl, Bool.true_and] at hk
    simp only [show ((cs.length : Int) = (gm.rules.length : Int)) from by omega, decide_true, go_sem, Nat.reduceEqDiff]
    have hp : Pred 4 (.func (.func 153) #[] #[]) (fun x => !inB x 1 100) w2 := fun w3 g3 x k hk =>
      callVc (areCosts1_c (hk w3 (Gr.refl w3)))
    refine containsFunc_c (hQ.gr H.gr) hp fun w3 g3 => ?_
    have H := H.step g3
    simp only [go_sem, Nat.reduceEqDiff]
    rw [notAny_all]
    exact hk _ H.gr
  · rw [decide_eq_false hl, Bool.false_and] at hk
    simp only [show ¬ ((cs.length : Int) = (gm.rules.length : Int)) from by omega, decide_false, go_sem, Nat.reduceEqDiff]
    exact hk _ H.gr
theorem specCostTable_c {F : Nat → Prop} {w : World} {v : Value} {gm : Gram} {X Q : Option Addr} {n0 cx m0 cq : Nat} {ws cs : List Int} (hv : GramV F w v gm) (hQ : Ints w Q cs) (hm0 : m0 = cs.length) (hX : Ints w X ws) (hn : n0 = ws.length) {k : Value → World → Prop}
    (hk : ∀ w' U d, Gr w w' → Own 3 w' w.heap.size U d (costTableV gm cs ws).1 → k (.tuple #[.slice U (costTableV gm cs ws).1.length d, .bool (costTableV gm cs ws).2]) w') :
    CallK Try.prog 57 [v, .slice Q m0 cq, .slice X n0 cx] k w := by
  subst hn hm0
  obtain ⟨Y, cy, rfl, hc, hy⟩ := hv
  refine enter57 ?_
  unfold S57
  have H := Apt.nil w
  refine boxH H fun b1 w1 H => ?_
  rw [ldB_agg agg37 sz37 rfl (H.box 0 rfl)]
  refine l12Costs_c (gm := gm) ⟨Y, cy, rfl, hc, hy.gr H.gr⟩ (hQ.gr H.gr) rfl fun w2 g2 => ?_
  have H := H.step g2
  have no : (costsB gm cs && wordB gm.toks ws) = false → ∀ w', Gr w w' → k (.tuple #[.slice none 0 0, .bool false]) w' := fun h w' g => by
    have := hk w' none 0 g
    unfold costTableV at this
    rw [h, if_neg Bool.false_ne_true] at this
    exact this (Row.nil _ _ _ _)
  cases hcb : costsB gm cs
  · simp only [Bool.not_false, bin_add, bin_sub, bin_mul, bin_eql, bin_neq, bin_lss, bin_leq, bin_gtr, bin_geq, un_not, un_neg, pick_true, pick_false, extract_two_0, extract_two_1, nilCheck_pointer, cond_true', cond_false', guard_tt, guard_ff, guard_tf, guard_ft, guard_undef, seqQ_normal, seqQ_ret, seqQ_exit, blockQ_ret, blockQ_normal, blockQ_exit, bodyQ_ret, bodyQ_normal, resK_nil, resK_tmp, ite_T, ite_F, upd_at, add_plain, add_zero', len22, len35, len48, fa37_0, fa37_1, fa37_2, fa77_0, fa77_1, fa103_0, fa103_1, fa125_0, fa125_1, fa125_2, fa125_3, fa125_4, Nat.reduceEqDiff]
    exact no (by rw [hcb]; rfl) _ H.gr
  simp only [Bool.not_true, bin_add, bin_sub, bin_mul, bin_eql, bin_neq, bin_lss, bin_leq, bin_gtr, bin_geq, un_not, un_neg, pick_true, pick_false, extract_two_0, extract_two_1, nilCheck_pointer, cond_true', cond_false', guard_tt, guard_ff, guard_tf, guard_ft, guard_undef, seqQ_normal, seqQ_ret, seqQ_exit, blockQ_ret, blockQ_normal, blockQ_exit, bodyQ_ret, bodyQ_normal, resK_nil, resK_tmp, ite_T, ite_F, upd_at, add_plain, add_zero', len22, len35, len48, fa37_0, fa37_1, fa37_2, fa77_0, fa77_1, fa103_0, fa103_1, fa125_0, fa125_1, fa125_2, fa125_3, fa125_4, Nat.reduceEqDiff]
  obtain ⟨hg, hcs⟩ := costsB_ok hcb
  rw [ldB_agg agg37 sz37 rfl (H.box 0 rfl)]
  refine l1Word_c (gm := gm) ⟨Y, cy, rfl, hc, hy.gr H.gr⟩ hg (hX.gr H.gr) rfl fun w3 g3 => ?_
  have H := H.step g3
  cases hgw : wordB gm.toks ws
  · simp only [Bool.not_false, bin_add, bin_sub, bin_mul, bin_eql, bin_neq, bin_lss, bin_leq, bin_gtr, bin_geq, un_not, un_neg, pick_true, pick_false, extract_two_0, extract_two_1, nilCheck_pointer, cond_true', cond_false', guard_tt, guard_ff, guard_tf, guard_ft, guard_undef, seqQ_normal, seqQ_ret, seqQ_exit, blockQ_ret, blockQ_normal, blockQ_exit, bodyQ_ret, bodyQ_normal, resK_nil, resK_tmp, ite_T, ite_F, upd_at, add_plain, add_zero', len22, len35, len48, fa37_0, fa37_1, fa37_2, fa77_0, fa77_1, fa103_0, fa103_1, fa125_0, fa125_1, fa125_2, fa125_3, fa125_4, Nat.reduceEqDiff]
    exact no (by rw [hcb, hgw]; rfl) _ H.gr
  simp only [Bool.not_true, bin_add, bin_sub, bin_mul, bin_eql, bin_neq, bin_lss, bin_leq, bin_gtr, bin_geq, un_not, un_neg, pick_true, pick_false, extract_two_0, extract_two_1, nilCheck_pointer, cond_true', cond_false', guard_tt, guard_ff, guard_tf, guard_ft, guard_undef, seqQ_normal, seqQ_ret, seqQ_exit, blockQ_ret, blockQ_normal, blockQ_exit, bodyQ_ret, bodyQ_normal, resK_nil, resK_tmp, ite_T, ite_F, upd_at, add_plain, add_zero', len22, len35, len48, fa37_0, fa37_1, fa37_2, fa77_0, fa77_1, fa103_0, fa103_1, fa125_0, fa125_1, fa125_2, fa125_3, fa125_4, Nat.reduceEqDiff]
  unfold costTableV at hk
  rw [hcb, hgw, if_pos (show (true && true) = true from rfl)] at hk
  have hn6 := good_nons hg
  have hl := wordB_len hgw
  have htok := wordB_tok hgw (good_toks hg).2
  rw [i64_of (by omega) (by omega)]
  rw [ldB_agg agg37 sz37 rfl (H.box 0 rfl)]
  refine l12Table_c (gm := gm) ⟨Y, cy, rfl, hc, hy.gr H.gr⟩ hg (hQ.gr H.gr) rfl hcs (hX.gr H.gr) rfl hl htok fun w3 U c nons T g3 hnn hT hS hF => ?_
  have G3 := gr_trans H.gr g3
  have hTe : T = bestT gm cs ws := hF.eq
  rw [← hTe, hnn, Int.toNat_natCast] at hk
  dsimp only at hk
  have hP := hS.2
  clear hTe hF hS
  generalize hN : ws.length + 1 = n at *
  have hNi : ((ws.length : Int) + 1) = (n : Int) := by omega
  rw [hNi]
  have hnn9 : n * n ≤ 11 * 11 := Nat.mul_le_mul (by omega) (by omega)
  have K := (Apt.nil w3).addOwn (Gr.refl w3) (show Own 3 w3 w3.heap.size none 0 [] from Row.nil _ _ _ _)
  simp only [List.nil_append] at K
  simp only [bin_add, bin_sub, bin_mul, bin_eql, bin_neq, bin_lss, bin_leq, bin_gtr, bin_geq, un_not, un_neg, pick_true, pick_false, extract_two_0, extract_two_1, nilCheck_pointer, cond_true', cond_false', guard_tt, guard_ff, guard_tf, guard_ft, guard_undef, seqQ_normal, seqQ_ret, seqQ_exit, blockQ_ret, blockQ_normal, blockQ_exit, bodyQ_ret, bodyQ_normal, resK_nil, resK_tmp, ite_T, ite_F, upd_at, add_plain, add_zero', len22, len35, len48, fa37_0, fa37_1, fa37_2, fa77_0, fa77_1, fa103_0, fa103_1, fa125_0, fa125_1, fa125_2, fa125_3, fa125_4, Nat.reduceEqDiff]
  refine loop_to nons 0 (fun x f w' => x ≤ nons ∧ f 33 = .int .i64 x ∧ ∃ V d, f 9 = .slice V (tellT T n x).length d ∧ Apt w3 w' [ows V d (tellT T n x)]) ⟨Nat.zero_le _, rfl, none, 0, rfl, K⟩ ?_
  clear K
  rintro x f w4 N hag ⟨hx, h33, V, d, h9, K⟩ hN'
  have f31 : f 31 = .slice U nons c := hag 31 (by decide)
  have f32 : f 32 = .int .i64 nons := hag 32 (by decide)
  have f8 : f 8 = .int .i64 n := hag 8 (by decide)
  simp only [f31, f32, f8, h33, bin_add, bin_sub, bin_mul, bin_eql, bin_neq, bin_lss, bin_leq, bin_gtr, bin_geq, un_not, un_neg, pick_true, pick_false, extract_two_0, extract_two_1, nilCheck_pointer, cond_true', cond_false', guard_tt, guard_ff, guard_tf, guard_ft, guard_undef, seqQ_normal, seqQ_ret, seqQ_exit, blockQ_ret, blockQ_normal, blockQ_exit, bodyQ_ret, bodyQ_normal, resK_nil, resK_tmp, ite_T, ite_F, upd_at, add_plain, add_zero', len22, len35, len48, fa37_0, fa37_1, fa37_2, fa77_0, fa77_1, fa103_0, fa103_1, fa125_0, fa125_1, fa125_2, fa125_3, fa125_4, Nat.reduceEqDiff]
  by_cases hlt : x < nons
  case neg =>
    simp only [show ¬ ((x : Int) < nons) from by omega, decide_false, go_sem, Nat.reduceEqDiff]
    obtain rfl : x = nons := by omega
    rw [h9]
    exact hk _ V d (gr_trans G3 K.gr) (Row.mono (K.own 0 rfl) G3.size)
  simp only [show (x : Int) < nons from by omega, decide_true, bin_add, bin_sub, bin_mul, bin_eql, bin_neq, bin_lss, bin_leq, bin_gtr, bin_geq, un_not, un_neg, pick_true, pick_false, extract_two_0, extract_two_1, nilCheck_pointer, cond_true', cond_false', guard_tt, guard_ff, guard_tf, guard_ft, guard_undef, seqQ_normal, seqQ_ret, seqQ_exit, blockQ_ret, blockQ_normal, blockQ_exit, bodyQ_ret, bodyQ_normal, resK_nil, resK_tmp, ite_T, ite_F, upd_at, add_plain, add_zero', len22, len35, len48, fa37_0, fa37_1, fa37_2, fa77_0, fa77_1, fa103_0, fa103_1, fa125_0, fa125_1, fa125_2, fa125_3, fa125_4, Nat.reduceEqDiff]
  obtain ⟨R, c', h1, h2, h3⟩ := hT.row x hlt
  refine rdi (ixn48 (fun h => hT.ptr h) hlt) (rdi (ld22 (K.gr.cell h1)) ?_)
  have hl1 := tellT_len T n x
  have hl4 : x * (n * n) ≤ 6 * (11 * 11) := Nat.mul_le_mul (by omega) hnn9
  refine loop_to n 0 (fun i f w' => i ≤ n ∧ f 12 = .int .i64 i ∧ ∃ V d, f 9 = .slice V (tellT T n x ++ partT T n x i).length d ∧ Apt w3 w' [ows V d (tellT T n x ++ partT T n x i)]) ⟨Nat.zero_le _, rfl, V, d, by rw [show partT T n x 0 = [] from rfl, List.append_nil]; exact h9, by rw [show partT T n x 0 = [] from rfl, List.append_nil]; exact K⟩ ?_
  clear K h9
  rintro i g w5 N2 hag2 ⟨hi, h12, V, d, h9, K⟩ hN2
  have g8 : g 8 = .int .i64 n := (hag2 8 (by decide)).trans f8
  have g11 : g 11 = .slice R (n * n) c' := hag2 11 (by decide)
  have g33 : g 33 = .int .i64 x := (hag2 33 (by decide)).trans h33
  simp only [g8, g33, h12, bin_add, bin_sub, bin_mul, bin_eql, bin_neq, bin_lss, bin_leq, bin_gtr, bin_geq, un_not, un_neg, pick_true, pick_false, extract_two_0, extract_two_1, nilCheck_pointer, cond_true', cond_false', guard_tt, guard_ff, guard_tf, guard_ft, guard_undef, seqQ_normal, seqQ_ret, seqQ_exit, blockQ_ret, blockQ_normal, blockQ_exit, bodyQ_ret, bodyQ_normal, resK_nil, resK_tmp, ite_T, ite_F, upd_at, add_plain, add_zero', len22, len35, len48, fa37_0, fa37_1, fa37_2, fa77_0, fa77_1, fa103_0, fa103_1, fa125_0, fa125_1, fa125_2, fa125_3, fa125_4, Nat.reduceEqDiff]
  by_cases hin : i < n
  case neg =>
    simp only [show ¬ ((i : Int) < n) from by omega, decide_false, bin_add, bin_sub, bin_mul, bin_eql, bin_neq, bin_lss, bin_leq, bin_gtr, bin_geq, un_not, un_neg, pick_true, pick_false, extract_two_0, extract_two_1, nilCheck_pointer, cond_true', cond_false', guard_tt, guard_ff, guard_tf, guard_ft, guard_undef, seqQ_normal, seqQ_ret, seqQ_exit, blockQ_ret, blockQ_normal, blockQ_exit, bodyQ_ret, bodyQ_normal, resK_nil, resK_tmp, ite_T, ite_F, upd_at, add_plain, add_zero', len22, len35, len48, fa37_0, fa37_1, fa37_2, fa77_0, fa77_1, fa103_0, fa103_1, fa125_0, fa125_1, fa125_2, fa125_3, fa125_4, Nat.reduceEqDiff]
    rw [i64_of (by omega) (by omega)]
    obtain rfl : i = n := by omega
    exact hN' _ _ hlt ⟨hlt, rfl, V, d, by rw [tellT_next]; exact h9, by rw [tellT_next]; exact K⟩
  simp only [show (i : Int) < n from by omega, decide_true, bin_add, bin_sub, bin_mul, bin_eql, bin_neq, bin_lss, bin_leq, bin_gtr, bin_geq, un_not, un_neg, pick_true, pick_false, extract_two_0, extract_two_1, nilCheck_pointer, cond_true', cond_false', guard_tt, guard_ff, guard_tf, guard_ft, guard_undef, seqQ_normal, seqQ_ret, seqQ_exit, blockQ_ret, blockQ_normal, blockQ_exit, bodyQ_ret, bodyQ_normal, resK_nil, resK_tmp, ite_T, ite_F, upd_at, add_plain, add_zero', len22, len35, len48, fa37_0, fa37_1, fa37_2, fa77_0, fa77_1, fa103_0, fa103_1, fa125_0, fa125_1, fa125_2, fa125_3, fa125_4, Nat.reduceEqDiff]
  have hl2 := partT_len T n x i
  have hl5 : i * n ≤ 11 * 11 := by
    have : i * n ≤ n * n := Nat.mul_le_mul_right n (by omega)
    omega
  refine loop_to n i (fun j f w' => i ≤ j ∧ j ≤ n ∧ f 13 = .int .i64 j ∧ ∃ V d, f 9 = .slice V (tellT T n x ++ partT T n x i ++ segP T x i (j - i)).length d ∧ Apt w3 w' [ows V d (tellT T n x ++ partT T n x i ++ segP T x i (j - i))]) ⟨Nat.le_refl _, by omega, rfl, V, d, by rw [Nat.sub_self, show segP T x i 0 = [] from rfl, List.append_nil]; exact h9, by rw [Nat.sub_self, show segP T x i 0 = [] from rfl, List.append_nil]; exact K⟩ ?_
  clear K h9
  rintro j g1 w6 N3 hag3 ⟨hij, hj, h13, V, d, h9, K⟩ hN3
  have k8 : g1 8 = .int .i64 n := (hag3 8 (by decide)).trans g8
  have k11 : g1 11 = .slice R (n * n) c' := (hag3 11 (by decide)).trans g11
  have k12 : g1 12 = .int .i64 i := (hag3 12 (by decide)).trans h12
  simp only [k8, k11, k12, h13, h9, bin_add, bin_sub, bin_mul, bin_eql, bin_neq, bin_lss, bin_leq, bin_gtr, bin_geq, un_not, un_neg, pick_true, pick_false, extract_two_0, extract_two_1, nilCheck_pointer, cond_true', cond_false', guard_tt, guard_ff, guard_tf, guard_ft, guard_undef, seqQ_normal, seqQ_ret, seqQ_exit, blockQ_ret, blockQ_normal, blockQ_exit, bodyQ_ret, bodyQ_normal, resK_nil, resK_tmp, ite_T, ite_F, upd_at, add_plain, add_zero', len22, len35, len48, fa37_0, fa37_1, fa37_2, fa77_0, fa77_1, fa103_0, fa103_1, fa125_0, fa125_1, fa125_2, fa125_3, fa125_4, Nat.reduceEqDiff]
  by_cases hjn : j < n
  case neg =>
    simp only [show ¬ ((j : Int) < n) from by omega, decide_false, bin_add, bin_sub, bin_mul, bin_eql, bin_neq, bin_lss, bin_leq, bin_gtr, bin_geq, un_not, un_neg, pick_true, pick_false, extract_two_0, extract_two_1, nilCheck_pointer, cond_true', cond_false', guard_tt, guard_ff, guard_tf, guard_ft, guard_undef, seqQ_normal, seqQ_ret, seqQ_exit, blockQ_ret, blockQ_normal, blockQ_exit, bodyQ_ret, bodyQ_normal, resK_nil, resK_tmp, ite_T, ite_F, upd_at, add_plain, add_zero', len22, len35, len48, fa37_0, fa37_1, fa37_2, fa77_0, fa77_1, fa103_0, fa103_1, fa125_0, fa125_1, fa125_2, fa125_3, fa125_4, Nat.reduceEqDiff]
    rw [i64_of (by omega) (by omega)]
    obtain rfl : j = n := by omega
    rw [segP_all] at h9 K
    exact hN2 _ _ hin ⟨hin, rfl, V, d, by rw [partT_next, ← List.append_assoc]; exact h9, by rw [partT_next, ← List.append_assoc]; exact K⟩
  simp only [show (j : Int) < n from by omega, decide_true, bin_add, bin_sub, bin_mul, bin_eql, bin_neq, bin_lss, bin_leq, bin_gtr, bin_geq, un_not, un_neg, pick_true, pick_false, extract_two_0, extract_two_1, nilCheck_pointer, cond_true', cond_false', guard_tt, guard_ff, guard_tf, guard_ft, guard_undef, seqQ_normal, seqQ_ret, seqQ_exit, blockQ_ret, blockQ_normal, blockQ_exit, bodyQ_ret, bodyQ_normal, resK_nil, resK_tmp, ite_T, ite_F, upd_at, add_plain, add_zero', len22, len35, len48, fa37_0, fa37_1, fa37_2, fa77_0, fa77_1, fa103_0, fa103_1, fa125_0, fa125_1, fa125_2, fa125_3, fa125_4, Nat.reduceEqDiff]
  have hab := place_lt (n := n) hin hjn
  have hmul : (i : Int) * (n : Int) = ((i * n : Nat) : Int) := by push_cast; rfl
  refine join_as (fun g w' => g 13 = .int .i64 (j : Int) ∧ ∃ V d, g 9 = .slice V (tellT T n x ++ partT T n x i ++ segP T x i (j + 1 - i)).length d ∧ Apt w3 w' [ows V d (tellT T n x ++ partT T n x i ++ segP T x i (j + 1 - i))]) (fun K36 hK36 => ?_) ?_
  case refine_2 =>
    rintro g w' ⟨g13, V, d, g9, K⟩
    simp only [g13, go_sem, Nat.reduceEqDiff]
    rw [i64_of (by omega) (by omega)]
    exact hN3 _ _ hjn ⟨by omega, hjn, rfl, V, d, g9, K⟩
  rw [hmul, i64_of (n := ((i * n : Nat) : Int)) (by omega) (by omega), i64_of (n := ((i * n : Nat) : Int) + (j : Int)) (by omega) (by omega), show ((i * n : Nat) : Int) + (j : Int) = ((i * n + j : Nat) : Int) from by push_cast; rfl]
  refine rdi (ixn22 (fun _ => h2) hab) (rdi (ld3 (K.gr.cell (h3 i j hin hjn))) ?_)
  refine join_as (fun g w' => g 14 = .int .i64 (encM (T x i j)) ∧ g 13 = .int .i64 (j : Int) ∧ g 9 = .slice V (tellT T n x ++ partT T n x i ++ segP T x i (j - i)).length d ∧ w' = w6) (fun K43 hK43 => ?_) ?_
  · cases ho : T x i j with
    | none =>
      rw [ho] at hK43
      simp only [enc0_n, decide_true, bin_add, bin_sub, bin_mul, bin_eql, bin_neq, bin_lss, bin_leq, bin_gtr, bin_geq, un_not, un_neg, pick_true, pick_false, extract_two_0, extract_two_1, nilCheck_pointer, cond_true', cond_false', guard_tt, guard_ff, guard_tf, guard_ft, guard_undef, seqQ_normal, seqQ_ret, seqQ_exit, blockQ_ret, blockQ_normal, blockQ_exit, bodyQ_ret, bodyQ_normal, resK_nil, resK_tmp, ite_T, ite_F, upd_at, add_plain, add_zero', len22, len35, len48, fa37_0, fa37_1, fa37_2, fa77_0, fa77_1, fa103_0, fa103_1, fa125_0, fa125_1, fa125_2, fa125_3, fa125_4, Nat.reduceEqDiff]
      exact hK43 _ _ ⟨rfl, h13, h9, rfl⟩
    | some a =>
      have hpos := hP _ _ _ _ ho
      rw [ho] at hK43
      simp only [enc0_s, show ¬ ((a : Int) = 0) from by omega, decide_false, bin_add, bin_sub, bin_mul, bin_eql, bin_neq, bin_lss, bin_leq, bin_gtr, bin_geq, un_not, un_neg, pick_true, pick_false, extract_two_0, extract_two_1, nilCheck_pointer, cond_true', cond_false', guard_tt, guard_ff, guard_tf, guard_ft, guard_undef, seqQ_normal, seqQ_ret, seqQ_exit, blockQ_ret, blockQ_normal, blockQ_exit, bodyQ_ret, bodyQ_normal, resK_nil, resK_tmp, ite_T, ite_F, upd_at, add_plain, add_zero', len22, len35, len48, fa37_0, fa37_1, fa37_2, fa77_0, fa77_1, fa103_0, fa103_1, fa125_0, fa125_1, fa125_2, fa125_3, fa125_4, Nat.reduceEqDiff]
      exact hK43 _ _ ⟨rfl, h13, h9, rfl⟩
  · rintro g w' ⟨g14, g13, g9, rfl⟩
    simp only [g14, g13, g9, bin_add, bin_sub, bin_mul, bin_eql, bin_neq, bin_lss, bin_leq, bin_gtr, bin_geq, un_not, un_neg, pick_true, pick_false, extract_two_0, extract_two_1, nilCheck_pointer, cond_true', cond_false', guard_tt, guard_ff, guard_tf, guard_ft, guard_undef, seqQ_normal, seqQ_ret, seqQ_exit, blockQ_ret, blockQ_normal, blockQ_exit, bodyQ_ret, bodyQ_normal, resK_nil, resK_tmp, ite_T, ite_F, upd_at, add_plain, add_zero', len22, len35, len48, fa37_0, fa37_1, fa37_2, fa77_0, fa77_1, fa103_0, fa103_1, fa125_0, fa125_1, fa125_2, fa125_3, fa125_4, Nat.reduceEqDiff]
    have hl6 := segP_len T x i (j - i)
    refine pushH K 0 rfl rfl (by rw [List.length_append, List.length_append]; omega) fun t1 V1 d1 w7 K => ?_
    simp only [List.set_cons_zero] at K
    refine hK36 _ _ ⟨g13, V1, d1, ?_, ?_⟩
    · rw [show j + 1 - i = j - i + 1 from by omega, segP_next, show i + (j - i) = j from by omega, ← List.append_assoc]
      rfl
    · rw [show j + 1 - i = j - i + 1 from by omega, segP_next, show i + (j - i) = j from by omega, ← List.append_assoc]
      exact K
theorem implCostTable_c {F : Nat → Prop} {w : World} {v : Value} {gm : Gram} {X Q : Option Addr} {n0 cx m0 cq : Nat} {ws cs : List Int} (hv : GramV F w v gm) (hQ : Ints w Q cs) (hm0 : m0 = cs.length) (hX : Ints w X ws) (hn : n0 = ws.length) {k : Value → World → Prop}
    (hk : ∀ w' U d, Gr w w' → Own 3 w' w.heap.size U d (costTableV gm cs ws).1 → k (.tuple #[.slice U (costTableV gm cs ws).1.length d, .bool (costTableV gm cs ws).2]) w') :
    CallK Try.prog 58 [v, .slice Q m0 cq, .slice X n0 cx] k w := by
  subst hn hm0
  obtain ⟨Y, cy, rfl, hc, hy⟩ := hv
  refine enter58 ?_
  unfold S58
  have H := Apt.nil w
  refine boxH H fun b1 w1 H => ?_
  rw [ldB_agg agg37 sz37 rfl (H.box 0 rfl)]
  refine areCosts_c (gm := gm) ⟨Y, cy, rfl, hc, hy.gr H.gr⟩ (hQ.gr H.gr) rfl fun w2 g2 => ?_
  have H := H.step g2
  have no : (costsB gm cs && wordB gm.toks ws) = false → ∀ w', Gr w w' → k (.tuple #[.slice none 0 0, .bool false]) w' := fun h w' g => by
    have := hk w' none 0 g
    unfold costTableV at this
    rw [h, if_neg Bool.false_ne_true] at this
    exact this (Row.nil _ _ _ _)
  cases hcb : costsB gm cs
  · simp only [Bool.not_false, go_sem, Nat.reduceEqDiff]
    exact no (by rw [hcb]; rfl) _ H.gr
  simp only [Bool.not_true, go_sem, Nat.reduceEqDiff]
  obtain ⟨hg, hcs⟩ := costsB_ok hcb
  have ht := good_toks hg
  rw [ldB3 (H.box 0 rfl) rfl]
  refine isWord_c (hX.gr H.gr) rfl ht.1 ht.2 fun w3 g3 => ?_
  have H := H.step g3
  cases hgw : wordB gm.toks ws
  · simp only [Bool.not_false, go_sem, Nat.reduceEqDiff]
    exact no (by rw [hcb, hgw]; rfl) _ H.gr
  simp only [Bool.not_true, go_sem, Nat.reduceEqDiff]
  unfold costTableV at hk
  rw [hcb, hgw, if_pos (show (true && true) = true from rfl)] at hk
  have hn6 := good_nons hg
  have h8 := wordB_len hgw
  have htok := wordB_tok hgw ht.2
  rw [ldB_agg agg37 sz37 rfl (H.box 0 rfl)]
  refine costs_c (gm := gm) ⟨Y, cy, rfl, hc, hy.gr H.gr⟩ hg (hQ.gr H.gr) rfl hcs (hX.gr H.gr) rfl h8 htok fun w4 b bm Y' cy' T _ _ _ HT hS hF => ?_
  have hTe : T = bestT gm cs ws := hF.eq
  rw [← hTe] at hk
  clear hTe hS hF
  have H := H.step HT.gr
  have G4 := H.gr
  have hb := HT.box 0 rfl
  have K := Apt.nil w4
  refine buildH K u22 inf3 [] (by decide) (by decide) (by simp [Instr.fill, madeCells]) rfl fun b9 w9 K => ?_
  simp only [List.nil_append] at K
  obtain ⟨nons, hnn⟩ : ∃ n : Nat, gm.nons = n := ⟨gm.nons.toNat, by omega⟩
  rw [ldB3 (H.box 0 rfl |>.gr K.gr) rfl]
  rw [hnn, Int.toNat_natCast] at hk
  dsimp only at hk
  rw [hnn]
  generalize hN : ws.length + 1 = n at *
  have hNi : ((ws.length : Int) + 1) = (n : Int) := by omega
  have hnn9 : n * n ≤ 11 * 11 := Nat.mul_le_mul (by omega) (by omega)
  refine loop_to nons 0 (fun x f w' => x ≤ nons ∧ f 30 = .int .i64 x ∧ ∃ V d, f 9 = .slice V (tellT T n x).length d ∧ Apt w4 w' [ows V d (tellT T n x)]) ⟨Nat.zero_le _, rfl, _, _, rfl, K⟩ ?_
  clear K
  rintro x f w10 N hag ⟨hx, h30, V, d, h9, K⟩ hN'
  have f29 : f 29 = .int .i64 nons := hag 29 (by decide)
  have f8 : f 8 = ptrv b := hag 8 (by decide)
  have f2 : f 2 = .slice X ws.length cx := hag 2 (by decide)
  simp only [f29, f2, h30, go_sem, Nat.reduceEqDiff]
  by_cases hlt : x < nons
  case neg =>
    simp only [show ¬ ((x : Int) < nons) from by omega, decide_false, go_sem, Nat.reduceEqDiff]
    obtain rfl : x = nons := by omega
    rw [h9]
    exact hk _ V d (gr_trans G4 K.gr) (Row.mono (K.own 0 rfl) G4.size)
  simp only [show (x : Int) < nons from by omega, decide_true, go_sem, Nat.reduceEqDiff]
  rw [hNi, i64_of (n := (n : Int)) (by omega) (by omega)]
  refine loop_to n 0 (fun i f w' => i ≤ n ∧ f 36 = .int .i64 i ∧ ∃ V d, f 9 = .slice V (tellT T n x ++ partT T n x i).length d ∧ Apt w4 w' [ows V d (tellT T n x ++ partT T n x i)]) ⟨Nat.zero_le _, rfl, V, d, by rw [show partT T n x 0 = [] from rfl, List.append_nil]; exact h9, by rw [show partT T n x 0 = [] from rfl, List.append_nil]; exact K⟩ ?_
  clear K h9
  rintro i g w11 N2 hag2 ⟨hi, h36, V, d, h9, K⟩ hN2
  have g35 : g 35 = .int .i64 n := hag2 35 (by decide)
  have g8 : g 8 = ptrv b := (hag2 8 (by decide)).trans f8
  have g2 : g 2 = .slice X ws.length cx := (hag2 2 (by decide)).trans f2
  have g10 : g 10 = .int .i64 x := hag2 10 (by decide)
  have g30 : g 30 = .int .i64 x := (hag2 30 (by decide)).trans h30
  simp only [g35, g8, g2, g10, g30, h36, h9, go_sem, Nat.reduceEqDiff]
  by_cases hin : i < n
  case neg =>
    simp only [show ¬ ((i : Int) < n) from by omega, decide_false, go_sem, Nat.reduceEqDiff]
    rw [i64_of (by omega) (by omega)]
    obtain rfl : i = n := by omega
    exact hN' _ _ hlt ⟨hlt, rfl, V, d, by rw [tellT_next]; exact h9, by rw [tellT_next]; exact K⟩
  simp only [show (i : Int) < n from by omega, decide_true, go_sem, Nat.reduceEqDiff]
  rw [ixa122 (by omega) (by omega), ixa121 (by omega) (by omega)]
  simp only [Int.toNat_natCast, go_sem, Nat.reduceEqDiff]
  rw [hNi, i64_of (n := (n : Int)) (by omega) (by omega)]
  refine rdi (rd_sliceArr u120 sz3 (by omega) (by omega) (by omega) (by omega)) ?_
  rw [Int.toNat_natCast, Int.toNat_natCast]
  simp only [add_plain]
  have hl3 := segT_len T n x i
  have hY : Ints w11 (some ⟨b, 0 + 5 + x * 121 + i * 11 + i, none⟩) (segT T n x i) := cells_ints (hb.gr K.gr) (by omega) fun j hj => by
    rw [hl3] at hj
    rw [show 0 + 5 + x * 121 + i * 11 + i + j = 0 + 5 + x * 121 + i * 11 + (i + j) from by omega, boxC_at (by omega) (by omega) (by omega)]
    simp [segT, List.getD_eq_getElem?_getD, hj]
  have hl1 := tellT_len T n x
  have hl2 := partT_len T n x i
  have hl4 : x * (n * n) ≤ 6 * (11 * 11) := Nat.mul_le_mul (by omega) hnn9
  have hl5 : i * n ≤ 11 * 11 := by
    have : i * n ≤ n * n := Nat.mul_le_mul_right n (by omega)
    omega
  refine apH K 0 rfl hY rfl hl3.symm (by rw [List.length_append]; omega) fun V1 d1 w12 K => ?_
  simp only [List.set_cons_zero] at K
  rw [i64_of (by omega) (by omega)]
  exact hN2 _ _ hin ⟨hin, rfl, V1, d1, by rw [partT_next, ← List.append_assoc]; rfl, by rw [partT_next, ← List.append_assoc]; exact K⟩
end Go.Proofs.Ytiohaeckagjebaa

/- The laws of CostTable, over their contracts. -/
set_option linter.unusedVariables false
set_option linter.unusedSimpArgs false
set_option maxRecDepth 100000
namespace Go.Proofs.Ytiohaeckagjebaa
open Go Go.Sh Go.RowKit

set_option maxHeartbeats 2000000 in
theorem law_CostTable {w : World} {v0 : Value} {g0 : Gram} {X1 : Option Addr} {c1 : Nat} {xs1 : List Int} {X2 : Option Addr} {c2 : Nat} {xs2 : List Int} (hv0 : GramV (fun q => q < w.heap.size) w v0 g0) (hx1 : Ints w X1 xs1) (hc1 : xs1.length ≤ c1) (hx2 : Ints w X2 xs2) (hc2 : xs2.length ≤ c2) {k : Value → World → Prop} (hk : ∀ w', Gr w w' → k (.bool true) w') :
    CallK Try.prog 14 [v0, .slice X1 xs1.length c1, .slice X2 xs2.length c2] k w := by
  obtain ⟨Y0, d0, rfl, hd0, hy0⟩ := hv0
  refine enter14 ?_
  unfold S14
  have H := Apt.nil w
  refine boxH H fun b0 w1 H => ?_
  refine rdi len22 (rdi bin_gtr ?_)
  refine cond_split (fun _ => hk _ H.gr) fun h => ?_
  have hL1 : xs1.length ≤ 1048576 := by have := of_decide_eq_false h; omega
  refine rdi len22 (rdi bin_gtr ?_)
  refine cond_split (fun _ => hk _ H.gr) fun h => ?_
  have hL2 : xs2.length ≤ 1048576 := by have := of_decide_eq_false h; omega
  refine rdi (ldB_agg agg31 sz31 rfl (H.box 0 rfl)) ?_
  refine szGrammar_c (gm := g0) ⟨Y0, d0, rfl, hd0, hy0.gr H.gr⟩ (by omega) (by omega) fun w2 g => ?_
  have H := H.step g
  refine rdi bin_lss ?_
  refine cond_split (fun _ => hk _ H.gr) fun h => ?_
  have hz0 := left_ok (of_decide_eq_false h)
  have hle0 := left_le (n := 1048576) (s := sizeR g0.rules) (by omega)
  have hp0 := of_decide_eq_false h
  have hlV : (costTableV g0 xs1 xs2).1.length ≤ 1000000 := costTableV_len _ _ _
  refine rdi (ldB_agg agg31 sz31 rfl (H.box 0 rfl)) ?_
  refine toGrammar_c (gm := g0) ⟨Y0, d0, rfl, hd0, hy0.gr H.gr⟩ (by omega) fun v w3 g oc => ?_
  obtain ⟨XC, cC, psC, rfl, oc⟩ := oc
  have H := H.addRules g oc
  refine toIntS_c (hx1.gr H.gr) rfl (by omega) fun XC cC w4 g oc => ?_
  have H := H.addOwn g oc
  refine toIntS_c (hx2.gr H.gr) rfl (by omega) fun XC cC w5 g oc => ?_
  have H := H.addOwn g oc
  simp only [List.nil_append, List.cons_append, List.set_cons_zero, List.set_cons_succ] at H
  refine specCostTable_c (rls_gramV (gm := g0) (H.rules 1 rfl)) (H.ints 2 rfl) rfl (H.ints 3 rfl) rfl fun w6 U dU g oU => ?_
  have H := H.addOwn g oU
  refine rdi extract_two_0 (rdi extract_two_1 ?_)
  simp only [List.nil_append, List.cons_append, List.set_cons_zero, List.set_cons_succ] at H
  refine rdi (ldB_agg agg31 sz31 rfl (H.box 0 rfl)) ?_
  refine toGrammar_c (gm := g0) ⟨Y0, d0, rfl, hd0, hy0.gr H.gr⟩ (by omega) fun v w7 g oc => ?_
  obtain ⟨XC, cC, psC, rfl, oc⟩ := oc
  have H := H.addRules g oc
  refine allocH H inf37 fun bx0 w8 H => ?_
  refine storeH H 6 rfl sz37 rfl rfl rfl fun w9 H => ?_
  simp only [List.nil_append, List.cons_append, List.set_cons_zero, List.set_cons_succ] at H
  refine toIntS_c (hx1.gr H.gr) rfl (by omega) fun XC cC w10 g oc => ?_
  have H := H.addOwn g oc
  refine toIntS_c (hx2.gr H.gr) rfl (by omega) fun XC cC w11 g oc => ?_
  have H := H.addOwn g oc
  simp only [List.nil_append, List.cons_append, List.set_cons_zero, List.set_cons_succ] at H
  refine rdi (ldB_agg agg37 sz37 rfl (H.box 6 rfl)) ?_
  refine implCostTable_c (rls_gramV (gm := g0) (H.rules 5 rfl)) (H.ints 7 rfl) rfl (H.ints 8 rfl) rfl fun w12 U dU g oU => ?_
  have H := H.addOwn g oU
  refine rdi extract_two_0 (rdi extract_two_1 ?_)
  simp only [List.nil_append, List.cons_append, List.set_cons_zero, List.set_cons_succ] at H
  refine eqIntS_same (H.ints 9 rfl) (H.ints 4 rfl) fun w13 g => ?_
  have H := H.step g
  refine rdi un_not (rdi guard_ff (rdi guard_ff (rdi guard_ff (rdi bin_neq_same (rdi pick_false (rdi cond_false' ?_))))))
  have H := H.drew
  refine ⟨fun w' => Gr w13.drew w', Gr.refl _, ?_⟩
  refine rdi (rdG_agg agg37 sz37 rfl (H.box 6 rfl)) (rdi (rdG_agg agg31 sz31 rfl (H.box 0 rfl)) ?_)
  refine toGrammar_c (gm := g0) ⟨Y0, d0, rfl, hd0, hy0.gr H.gr⟩ (by omega) fun v w14 g oc => ?_
  refine ⟨g, ?_⟩
  have H := H.step g
  refine eqGrammar_same (rls_gramV (gm := g0) (H.rules 5 rfl)) oc.read fun w15 g => ?_
  have H := H.step g
  refine rdi un_not (rdi cond_false' ?_)
  refine toIntS_c (hx1.gr H.gr) rfl (by omega) fun XC cC w16 g oc => ?_
  have H := H.step g
  refine eqIntS_same (H.ints 7 rfl) (Own.ints oc) fun w17 g => ?_
  have H := H.step g
  refine rdi un_not (rdi cond_false' ?_)
  refine toIntS_c (hx2.gr H.gr) rfl (by omega) fun XC cC w18 g oc => ?_
  have H := H.step g
  refine eqIntS_same (H.ints 8 rfl) (Own.ints oc) fun w19 g => ?_
  have H := H.step g
  refine rdi un_not (rdi cond_false' ?_)
  refine rdi (ldB_agg agg37 sz37 rfl (H.box 6 rfl)) ?_
  refine markGrammar_c (gm := g0) (H.rules 5 rfl) rfl (by omega) (by omega) fun w20 g om => ?_
  have H := H.setRules 5 rfl (markR_length _ g0.rules) g om
  simp only [List.nil_append, List.cons_append, List.set_cons_zero, List.set_cons_succ] at H
  refine markH H 7 rfl rfl (by omega) (by omega) fun w21 H => ?_
  simp only [List.nil_append, List.cons_append, List.set_cons_zero, List.set_cons_succ] at H
  refine markH H 8 rfl rfl (by omega) (by omega) fun w22 H => ?_
  simp only [List.nil_append, List.cons_append, List.set_cons_zero, List.set_cons_succ] at H
  refine rdi (bin_lss_false (by omega)) (rdi guard_ff (rdi guard_ff (rdi guard_ff ?_)))
  refine eqIntS_same (H.ints 9 rfl) (H.ints 4 rfl) fun w23 g => ?_
  have H := H.step g
  refine rdi guard_ff (rdi un_not (rdi pick_false (rdi guard_ff (rdi guard_ff (rdi guard_ff (rdi bin_neq_same (rdi pick_false (rdi cond_false' ?_))))))))
  refine markH H 9 rfl rfl (by omega) (by omega) fun w24 H => ?_
  simp only [List.nil_append, List.cons_append, List.set_cons_zero, List.set_cons_succ] at H
  refine heldIntS_c (H.ints 9 rfl) rfl (by omega) (by omega) fun w25 g => ?_
  have H := H.step g
  refine rdi (bin_lss_false (by omega)) (rdi cond_false' (rdi bin_neqi_same (rdi cond_false' ?_)))
  refine rdi (ldB_agg agg31 sz31 rfl (H.box 0 rfl)) ?_
  refine toGrammar_c (gm := g0) ⟨Y0, d0, rfl, hd0, hy0.gr H.gr⟩ (by omega) fun v w26 g oc => ?_
  obtain ⟨XC, cC, psC, rfl, oc⟩ := oc
  have H := H.addRules g oc
  refine toIntS_c (hx1.gr H.gr) rfl (by omega) fun XC cC w27 g oc => ?_
  have H := H.addOwn g oc
  refine toIntS_c (hx2.gr H.gr) rfl (by omega) fun XC cC w28 g oc => ?_
  have H := H.addOwn g oc
  simp only [List.nil_append, List.cons_append, List.set_cons_zero, List.set_cons_succ] at H
  refine implCostTable_c (rls_gramV (gm := g0) (H.rules 10 rfl)) (H.ints 11 rfl) rfl (H.ints 12 rfl) rfl fun w29 U dU g oU => ?_
  have H := H.addOwn g oU
  refine rdi extract_two_0 (rdi extract_two_1 ?_)
  simp only [List.nil_append, List.cons_append, List.set_cons_zero, List.set_cons_succ] at H
  refine eqIntS_same (H.ints 13 rfl) (H.ints 4 rfl) fun w30 g => ?_
  have H := H.step g
  refine rdi un_not (rdi guard_ff (rdi guard_ff (rdi guard_ff (rdi bin_neq_same (rdi pick_false (rdi cond_false' ?_))))))
  refine heldIntS_c (H.ints 9 rfl) rfl (by omega) (by omega) fun w31 g => ?_
  have H := H.step g
  refine rdi (bin_lss_false (by omega)) (rdi cond_false' (rdi bin_neqi_same (rdi cond_false' ?_)))
  exact hk _ H.gr
end Go.Proofs.Ytiohaeckagjebaa

/- From the reading of arguments to what the contracts ask. -/
set_option linter.unusedVariables false
set_option linter.unusedSimpArgs false
set_option maxRecDepth 100000
namespace Go.Sh
open Go Go.ChangeShapes Go.WideShapes Go.ChangeAt Go.RowKit
theorem below_of_gr {w w' : World} (g : Gr w w') : Below w.heap.size w w' := ⟨g.os, g.tape, g.output, g.size, fun k hk => g.block k hk (by simp)⟩
/-- A law's walk, as its row asks for it. -/
theorem walk_of {P : Program} {g : FuncId} {args : List Value} {w : World} (h : ∀ k : Value → World → Prop, (∀ w', Gr w w' → k (.bool true) w') → CallK P g args k w) :
    Calls P g args.toArray w fun e w' => e = .returned (.bool true) ∧ Below w.heap.size w w' :=
  (h (fun v w' => v = .bool true ∧ Gr w w') (fun w' g => ⟨rfl, g⟩)).2.mono fun e w' he => by
    cases e with
    | returned v => exact ⟨by rw [he.1], below_of_gr he.2⟩
    | panicked c => exact he.elim
    | outgrown => exact he.elim

section
variable {H : Type} {enc : TypeId × Value → H} {P : Program} {w : World} {base : Nat} {spare : Nat → Bool} {held : Bool}
theorem read_ints {t e : TypeId} (ht : P.underlying t = some (.slice e)) (he : P.underlying e = some (.int .i64)) (hc : P.cellsOf e = 1) {fuel : Nat} {cs : List Value} {x : DataW H × List MemPlace}
    (h : DataW.trod enc P w base spare held fuel t cs = some x) : ∃ X n c xs, cs = [.slice X n c] ∧ n = xs.length ∧ n ≤ c ∧ Ints w X xs := by
  rcases open_ints ht he hc h with ⟨hcs, _⟩ | ⟨a, l, c, zs, hcs, _, hl, hm, hz, _, hcell, hwz⟩
  · exact ⟨none, 0, 0, [], hcs, rfl, Nat.le_refl _, by simp, fun h => by simp at h, fun j hj => by simp at hj⟩
  · have hzl : l ≤ zs.length := by rw [hz]; split <;> omega
    refine ⟨some a, l, c, zs.take l, hcs, by simp; omega, hl, ?_, fun _ => rfl, fun j hj => ?_⟩
    · unfold maxLen at hm
      simp
      omega
    · have hj' : j < l ∧ j < zs.length := by simp at hj; omega
      rw [show (ad (some a)).add j = a.add j from rfl, hcell j hj'.2]
      simp [List.getD_eq_getElem?_getD, List.getElem?_take, hj'.1]
theorem trod_ints {t e : TypeId} {v : Value} {d : DataW H} {p : List MemPlace} (ht : P.underlying t = some (.slice e)) (he : P.underlying e = some (.int .i64)) (hc : P.cellsOf e = 1)
    (h : DataW.Trod enc P w base spare held t v d p) : ∃ X n c xs, v.cells.toList = [.slice X n c] ∧ n = xs.length ∧ n ≤ c ∧ Ints w X xs := by
  obtain ⟨fuel, hf⟩ := h
  exact read_ints ht he hc hf
end
end Go.Sh

/- From the reading of a grammar among the arguments to what the contracts ask. -/
set_option linter.unusedVariables false
set_option linter.unusedSimpArgs false
set_option maxRecDepth 100000
namespace Go.Sh
open Go Go.ChangeShapes Go.WideShapes Go.ChangeAt Go.RowKit Go.Deep
section
variable {H : Type} {enc : TypeId × Value → H} {P : Program} {w : World} {base : Nat} {spare : Nat → Bool} {held : Bool}
theorem read_rules {t e ti : TypeId} {f0 f1 : Field} (ht : P.underlying t = some (.slice e)) (he : P.underlying e = some (.struct #[f0, f1])) (ce : P.cellsOf e = 2) (o0 : f0.offset = 0) (o1 : f1.offset = 1) (c0 : P.cellsOf f0.type = 1) (c1 : P.cellsOf f1.type = 1)
    (h0 : P.underlying f0.type = some (.int .i64)) (h1 : P.underlying f1.type = some (.slice ti)) (hti : P.underlying ti = some (.int .i64)) (hci : P.cellsOf ti = 1) {fuel : Nat} {cs : List Value} {x : DataW H × List MemPlace}
    (h : DataW.trod enc P w base spare held fuel t cs = some x) : ∃ X c rs, cs = [.slice X (List.length rs) c] ∧ rs.length ≤ c ∧ RulesF (fun b => b < w.heap.size) w X rs := by
  rcases open_slice_pairs ht he ce o0 o1 c0 c1 h with ⟨hcs, _⟩ | ⟨a, len, cap, m, n, V0, V1, D0, D1, P0, P1, rfl, hb, hl, hm, hmm, _, hx⟩
  · exact ⟨none, 0, [], hcs, Nat.le_refl _, by simp, fun h => by simp at h, fun h => by simp at h, fun j hj => by simp at hj⟩
  have hlm : len ≤ m := by rw [hmm]; split <;> omega
  have each : ∀ i, i < len → ∃ q : RuleL × Option Addr × Nat, V0 i = .int .i64 q.1.1 ∧ V1 i = .slice q.2.1 q.1.2.length q.2.2 ∧ q.1.2.length ≤ q.2.2 ∧ Ints w q.2.1 q.1.2 := fun i hi => by
    obtain ⟨_, _, t0, t1⟩ := hx i (by omega)
    obtain ⟨k, hk, _, _⟩ := DataW.trod_int h0 t0
    obtain ⟨X, n, c, xs, hcs, rfl, hn, hix⟩ := read_ints h1 hti hci t1
    simp only [List.cons.injEq, and_true] at hk hcs
    exact ⟨((k, xs), X, c), hk, hcs, hn, hix⟩
  obtain ⟨q, hq⟩ := choose_lt each
  have hr : ∀ j, j < len → rul ((List.range len).map fun i => (q i).1) j = (q j).1 := fun j hj => by
    rw [rul_eq (by simpa using hj)]
    simp
  refine ⟨some a, cap, (List.range len).map fun i => (q i).1, by simp, by simpa using hl, by unfold maxLen at hm; simp; omega, fun _ => rfl, fun hp => ?_, fun j hj => ?_⟩
  · have := lt_of_cell (hx 0 (by simp at hp; omega)).1
    rwa [add_block] at this
  · have hj' : j < len := by simpa using hj
    rw [hr j hj']
    obtain ⟨e0, e1, _, _⟩ := hx j (by omega)
    obtain ⟨q0, q1, q2, q3⟩ := hq j hj'
    exact ⟨_, _, e0.trans (by rw [q0]), e1.trans (by rw [q1]), q2, IntsF.of_ints q3⟩
end
end Go.Sh
namespace Go.Proofs.Ytiohaeckagjebaa
open Go Go.Sh Go.ChangeShapes Go.WideShapes Go.ChangeAt Go.RowKit Go.Deep
theorem cells3 : Try.prog.cellsOf 3 = 1 := by kernel_rfl
theorem cells22 : Try.prog.cellsOf 22 = 1 := by kernel_rfl
theorem cells29 : Try.prog.cellsOf 29 = 1 := by kernel_rfl
theorem cells148 : Try.prog.cellsOf 148 = 2 := by kernel_rfl
theorem read_gram {H : Type} {enc : TypeId × Value → H} {w : World} {base b0 : Nat} {spare : Nat → Bool} {held : Bool} {r : Reach} {v : Value} {d : DataW H} {p : List MemPlace} (hval : Value.okWide Try.prog w r b0 31 v)
    (h : DataW.Trod enc Try.prog w base spare held 31 v d p) : ∃ g, GramV (fun b => b < w.heap.size) w v g := by
  obtain ⟨cs, rfl, hsz⟩ := okWide_struct Try.underlying31 hval
  obtain ⟨fuel, hf⟩ := h
  obtain ⟨y0, y1, y2, n, _, hl, t0, t1, t2⟩ := trod_struct3 Try.underlying31 hf
  have hc3 : Try.prog.cellsOf 31 = 3 := by kernel_rfl
  rw [hc3] at hl hsz
  obtain ⟨l⟩ := cs
  match l, hsz with
  | [u0, u1, u2], _ =>
    have ec : (Value.agg #[u0, u1, u2]).cells.toList = [u0, u1, u2] := rfl
    simp only [ec, cells3, cells29, List.drop, List.take] at t0 t1 t2
    obtain ⟨k0, e0, _, _⟩ := DataW.trod_int Try.underlying3 t0
    obtain ⟨k1, e1, _, _⟩ := DataW.trod_int Try.underlying3 t1
    obtain ⟨X, c, rs, e2, hc, hr⟩ := read_rules Try.underlying29 Try.underlying148 cells148 rfl rfl cells3 cells22 Try.underlying3 Try.underlying22 Try.underlying3 cells3 t2
    simp only [List.cons.injEq, and_true] at e0 e1 e2
    subst e0 e1 e2
    exact ⟨⟨k0, k1, rs⟩, X, c, rfl, hc, hr⟩
end Go.Proofs.Ytiohaeckagjebaa

/- Facts of the program alone, that each row asks for: its init order's words, and that it is laid out. -/
set_option maxRecDepth 100000
namespace Go.Proofs.Ytiohaeckagjebaa
open Go
theorem make_of {P : Program} {W : List (List Char)} {c : List Char} {rest : List (List Char)} (h : behindMainWord (wordsSigns P.initOrder.toList) = W) (hW : W = c :: rest) (hc : (c == "gc".toList || c == "spec".toList) = false) (h2 : (c == "cut".toList) = true) : P.make = some .cut := by
  unfold Program.make
  rw [h, hW]
  dsimp only
  rw [if_neg (by rw [hc]; exact Bool.false_ne_true), if_pos (by rw [h2]; rfl)]
theorem lifts_of {P : Program} {W : List (List Char)} (h : behindMainWord (wordsSigns P.initOrder.toList) = W) (h1 : (W.head? == some "carried".toList) = false) (h2 : (stripLifts liftWords W).1.contains "finals" = false) : P.liftsFinal = false := by
  unfold Program.liftsFinal Program.headLifts
  rw [h]
  simp only [h1, Bool.false_and, Bool.false_or]
  split
  · exact h2
  · rfl
theorem may_of {P : Program} {W : List (List Char)} {c : List Char} {rest : List (List Char)} {l : List String} (h : behindMainWord (wordsSigns P.initOrder.toList) = W) (hW : W = c :: rest) (hl : P.laysLater = false) (hb : P.bearsReflect = false) (hs : stripLifts liftWords (c :: rest) = (l, c :: rest)) (h2 : (c == "cut".toList) = true) (h3 : l.contains "leanrows" = false) (hd : P.doorFits l = true) : P.mayEnter = true := by
  unfold Program.mayEnter
  rw [h, hW]
  have h4 : (some c == some "cut".toList) = true := h2
  simp only [hs, hl, hb, h3, hd, h4, List.head?_cons, Bool.not_false, Bool.and_true, Bool.or_true]
def signs : List Char := Char.ofNat 104 :: Char.ofNat 97 :: Char.ofNat 114 :: Char.ofNat 110 :: Char.ofNat 101 :: Char.ofNat 115 :: Char.ofNat 115 :: Char.ofNat 32 :: Char.ofNat 50 :: Char.ofNat 50 :: Char.ofNat 97 :: Char.ofNat 48 :: Char.ofNat 55 :: Char.ofNat 100 :: Char.ofNat 52 :: Char.ofNat 52 :: Char.ofNat 51 :: Char.ofNat 99 :: Char.ofNat 52 :: Char.ofNat 99 :: Char.ofNat 53 :: Char.ofNat 57 :: Char.ofNat 54 :: Char.ofNat 50 :: Char.ofNat 49 :: Char.ofNat 50 :: Char.ofNat 49 :: Char.ofNat 99 :: Char.ofNat 52 :: Char.ofNat 98 :: Char.ofNat 51 :: Char.ofNat 97 :: Char.ofNat 53 :: Char.ofNat 52 :: Char.ofNat 51 :: Char.ofNat 97 :: Char.ofNat 54 :: Char.ofNat 50 :: Char.ofNat 49 :: Char.ofNat 56 :: Char.ofNat 53 :: Char.ofNat 48 :: Char.ofNat 99 :: Char.ofNat 52 :: Char.ofNat 54 :: Char.ofNat 53 :: Char.ofNat 54 :: Char.ofNat 102 :: Char.ofNat 53 :: Char.ofNat 98 :: Char.ofNat 52 :: Char.ofNat 55 :: Char.ofNat 100 :: Char.ofNat 102 :: Char.ofNat 97 :: Char.ofNat 102 :: Char.ofNat 53 :: Char.ofNat 102 :: Char.ofNat 50 :: Char.ofNat 55 :: Char.ofNat 51 :: Char.ofNat 57 :: Char.ofNat 97 :: Char.ofNat 52 :: Char.ofNat 102 :: Char.ofNat 52 :: Char.ofNat 51 :: Char.ofNat 50 :: Char.ofNat 48 :: Char.ofNat 98 :: Char.ofNat 97 :: Char.ofNat 52 :: Char.ofNat 32 :: Char.ofNat 99 :: Char.ofNat 117 :: Char.ofNat 116 :: Char.ofNat 32 :: Char.ofNat 97 :: Char.ofNat 116 :: Char.ofNat 32 :: Char.ofNat 108 :: Char.ofNat 111 :: Char.ofNat 111 :: Char.ofNat 112 :: Char.ofNat 46 :: Char.ofNat 101 :: Char.ofNat 120 :: Char.ofNat 97 :: Char.ofNat 109 :: Char.ofNat 112 :: Char.ofNat 108 :: Char.ofNat 101 :: Char.ofNat 47 :: Char.ofNat 103 :: Char.ofNat 48 :: Char.ofNat 48 :: Char.ofNat 55 :: Char.ofNat 53 :: Char.ofNat 56 :: Char.ofNat 47 :: Char.ofNat 108 :: Char.ofNat 97 :: Char.ofNat 119 :: Char.ofNat 115 :: Char.ofNat 46 :: Char.ofNat 70 :: Char.ofNat 110 :: Char.ofNat 69 :: Char.ofNat 120 :: Char.ofNat 97 :: Char.ofNat 99 :: Char.ofNat 116 :: Char.ofNat 80 :: Char.ofNat 117 :: Char.ofNat 109 :: Char.ofNat 112 :: Char.ofNat 87 :: Char.ofNat 111 :: Char.ofNat 114 :: Char.ofNat 100 :: Char.ofNat 32 :: Char.ofNat 108 :: Char.ofNat 111 :: Char.ofNat 111 :: Char.ofNat 112 :: Char.ofNat 46 :: Char.ofNat 101 :: Char.ofNat 120 :: Char.ofNat 97 :: Char.ofNat 109 :: Char.ofNat 112 :: Char.ofNat 108 :: Char.ofNat 101 :: Char.ofNat 47 :: Char.ofNat 103 :: Char.ofNat 48 :: Char.ofNat 48 :: Char.ofNat 55 :: Char.ofNat 53 :: Char.ofNat 56 :: Char.ofNat 47 :: Char.ofNat 108 :: Char.ofNat 97 :: Char.ofNat 119 :: Char.ofNat 115 :: Char.ofNat 46 :: Char.ofNat 70 :: Char.ofNat 110 :: Char.ofNat 69 :: Char.ofNat 120 :: Char.ofNat 97 :: Char.ofNat 99 :: Char.ofNat 116 :: Char.ofNat 76 :: Char.ofNat 111 :: Char.ofNat 110 :: Char.ofNat 103 :: Char.ofNat 69 :: Char.ofNat 110 :: Char.ofNat 111 :: Char.ofNat 117 :: Char.ofNat 103 :: Char.ofNat 104 :: Char.ofNat 32 :: Char.ofNat 108 :: Char.ofNat 111 :: Char.ofNat 111 :: Char.ofNat 112 :: Char.ofNat 46 :: Char.ofNat 101 :: Char.ofNat 120 :: Char.ofNat 97 :: Char.ofNat 109 :: Char.ofNat 112 :: Char.ofNat 108 :: Char.ofNat 101 :: Char.ofNat 47 :: Char.ofNat 103 :: Char.ofNat 48 :: Char.ofNat 48 :: Char.ofNat 55 :: Char.ofNat 53 :: Char.ofNat 56 :: Char.ofNat 47 :: Char.ofNat 108 :: Char.ofNat 97 :: Char.ofNat 119 :: Char.ofNat 115 :: Char.ofNat 46 :: Char.ofNat 70 :: Char.ofNat 110 :: Char.ofNat 69 :: Char.ofNat 120 :: Char.ofNat 97 :: Char.ofNat 99 :: Char.ofNat 116 :: Char.ofNat 83 :: Char.ofNat 116 :: Char.ofNat 97 :: Char.ofNat 114 :: Char.ofNat 79 :: Char.ofNat 102 :: Char.ofNat 32 :: Char.ofNat 108 :: Char.ofNat 111 :: Char.ofNat 111 :: Char.ofNat 112 :: Char.ofNat 46 :: Char.ofNat 101 :: Char.ofNat 120 :: Char.ofNat 97 :: Char.ofNat 109 :: Char.ofNat 112 :: Char.ofNat 108 :: Char.ofNat 101 :: Char.ofNat 47 :: Char.ofNat 103 :: Char.ofNat 48 :: Char.ofNat 48 :: Char.ofNat 55 :: Char.ofNat 53 :: Char.ofNat 56 :: Char.ofNat 47 :: Char.ofNat 108 :: Char.ofNat 97 :: Char.ofNat 119 :: Char.ofNat 115 :: Char.ofNat 46 :: Char.ofNat 70 :: Char.ofNat 110 :: Char.ofNat 69 :: Char.ofNat 120 :: Char.ofNat 97 :: Char.ofNat 99 :: Char.ofNat 116 :: Char.ofNat 74 :: Char.ofNat 111 :: Char.ofNat 105 :: Char.ofNat 110 :: Char.ofNat 79 :: Char.ofNat 102 :: Char.ofNat 32 :: Char.ofNat 108 :: Char.ofNat 111 :: Char.ofNat 111 :: Char.ofNat 112 :: Char.ofNat 46 :: Char.ofNat 101 :: Char.ofNat 120 :: Char.ofNat 97 :: Char.ofNat 109 :: Char.ofNat 112 :: Char.ofNat 108 :: Char.ofNat 101 :: Char.ofNat 47 :: Char.ofNat 103 :: Char.ofNat 48 :: Char.ofNat 48 :: Char.ofNat 55 :: Char.ofNat 53 :: Char.ofNat 56 :: Char.ofNat 47 :: Char.ofNat 108 :: Char.ofNat 97 :: Char.ofNat 119 :: Char.ofNat 115 :: Char.ofNat 46 :: Char.ofNat 70 :: Char.ofNat 110 :: Char.ofNat 69 :: Char.ofNat 120 :: Char.ofNat 97 :: Char.ofNat 99 :: Char.ofNat 116 :: Char.ofNat 85 :: Char.ofNat 110 :: Char.ofNat 105 :: Char.ofNat 111 :: Char.ofNat 110 :: Char.ofNat 79 :: Char.ofNat 102 :: Char.ofNat 32 :: Char.ofNat 108 :: Char.ofNat 111 :: Char.ofNat 111 :: Char.ofNat 112 :: Char.ofNat 46 :: Char.ofNat 101 :: Char.ofNat 120 :: Char.ofNat 97 :: Char.ofNat 109 :: Char.ofNat 112 :: Char.ofNat 108 :: Char.ofNat 101 :: Char.ofNat 47 :: Char.ofNat 103 :: Char.ofNat 48 :: Char.ofNat 48 :: Char.ofNat 55 :: Char.ofNat 53 :: Char.ofNat 56 :: Char.ofNat 47 :: Char.ofNat 108 :: Char.ofNat 97 :: Char.ofNat 119 :: Char.ofNat 115 :: Char.ofNat 46 :: Char.ofNat 70 :: Char.ofNat 110 :: Char.ofNat 69 :: Char.ofNat 120 :: Char.ofNat 97 :: Char.ofNat 99 :: Char.ofNat 116 :: Char.ofNat 80 :: Char.ofNat 117 :: Char.ofNat 109 :: Char.ofNat 112 :: Char.ofNat 79 :: Char.ofNat 102 :: Char.ofNat 32 :: Char.ofNat 108 :: Char.ofNat 111 :: Char.ofNat 111 :: Char.ofNat 112 :: Char.ofNat 46 :: Char.ofNat 101 :: Char.ofNat 120 :: Char.ofNat 97 :: Char.ofNat 109 :: Char.ofNat 112 :: Char.ofNat 108 :: Char.ofNat 101 :: Char.ofNat 47 :: Char.ofNat 103 :: Char.ofNat 48 :: Char.ofNat 48 :: Char.ofNat 55 :: Char.ofNat 53 :: Char.ofNat 56 :: Char.ofNat 47 :: Char.ofNat 108 :: Char.ofNat 97 :: Char.ofNat 119 :: Char.ofNat 115 :: Char.ofNat 46 :: Char.ofNat 70 :: Char.ofNat 110 :: Char.ofNat 69 :: Char.ofNat 120 :: Char.ofNat 97 :: Char.ofNat 99 :: Char.ofNat 116 :: Char.ofNat 80 :: Char.ofNat 97 :: Char.ofNat 116 :: Char.ofNat 104 :: Char.ofNat 73 :: Char.ofNat 110 :: Char.ofNat 32 :: Char.ofNat 108 :: Char.ofNat 111 :: Char.ofNat 111 :: Char.ofNat 112 :: Char.ofNat 46 :: Char.ofNat 101 :: Char.ofNat 120 :: Char.ofNat 97 :: Char.ofNat 109 :: Char.ofNat 112 :: Char.ofNat 108 :: Char.ofNat 101 :: Char.ofNat 47 :: Char.ofNat 103 :: Char.ofNat 48 :: Char.ofNat 48 :: Char.ofNat 55 :: Char.ofNat 53 :: Char.ofNat 56 :: Char.ofNat 47 :: Char.ofNat 108 :: Char.ofNat 97 :: Char.ofNat 119 :: Char.ofNat 115 :: Char.ofNat 46 :: Char.ofNat 70 :: Char.ofNat 110 :: Char.ofNat 69 :: Char.ofNat 120 :: Char.ofNat 97 :: Char.ofNat 99 :: Char.ofNat 116 :: Char.ofNat 76 :: Char.ofNat 101 :: Char.ofNat 97 :: Char.ofNat 115 :: Char.ofNat 116 :: Char.ofNat 77 :: Char.ofNat 101 :: Char.ofNat 110 :: Char.ofNat 100 :: Char.ofNat 32 :: Char.ofNat 108 :: Char.ofNat 111 :: Char.ofNat 111 :: Char.ofNat 112 :: Char.ofNat 46 :: Char.ofNat 101 :: Char.ofNat 120 :: Char.ofNat 97 :: Char.ofNat 109 :: Char.ofNat 112 :: Char.ofNat 108 :: Char.ofNat 101 :: Char.ofNat 47 :: Char.ofNat 103 :: Char.ofNat 48 :: Char.ofNat 48 :: Char.ofNat 55 :: Char.ofNat 53 :: Char.ofNat 56 :: Char.ofNat 47 :: Char.ofNat 108 :: Char.ofNat 97 :: Char.ofNat 119 :: Char.ofNat 115 :: Char.ofNat 46 :: Char.ofNat 70 :: Char.ofNat 110 :: Char.ofNat 69 :: Char.ofNat 120 :: Char.ofNat 97 :: Char.ofNat 99 :: Char.ofNat 116 :: Char.ofNat 73 :: Char.ofNat 115 :: Char.ofNat 80 :: Char.ofNat 117 :: Char.ofNat 109 :: Char.ofNat 112 :: Char.ofNat 32 :: Char.ofNat 108 :: Char.ofNat 111 :: Char.ofNat 111 :: Char.ofNat 112 :: Char.ofNat 46 :: Char.ofNat 101 :: Char.ofNat 120 :: Char.ofNat 97 :: Char.ofNat 109 :: Char.ofNat 112 :: Char.ofNat 108 :: Char.ofNat 101 :: Char.ofNat 47 :: Char.ofNat 103 :: Char.ofNat 48 :: Char.ofNat 48 :: Char.ofNat 55 :: Char.ofNat 53 :: Char.ofNat 56 :: Char.ofNat 47 :: Char.ofNat 108 :: Char.ofNat 97 :: Char.ofNat 119 :: Char.ofNat 115 :: Char.ofNat 46 :: Char.ofNat 70 :: Char.ofNat 110 :: Char.ofNat 69 :: Char.ofNat 120 :: Char.ofNat 97 :: Char.ofNat 99 :: Char.ofNat 116 :: Char.ofNat 67 :: Char.ofNat 111 :: Char.ofNat 117 :: Char.ofNat 110 :: Char.ofNat 116 :: Char.ofNat 66 :: Char.ofNat 121 :: Char.ofNat 76 :: Char.ofNat 111 :: Char.ofNat 110 :: Char.ofNat 103 :: Char.ofNat 32 :: Char.ofNat 108 :: Char.ofNat 111 :: Char.ofNat 111 :: Char.ofNat 112 :: Char.ofNat 46 :: Char.ofNat 101 :: Char.ofNat 120 :: Char.ofNat 97 :: Char.ofNat 109 :: Char.ofNat 112 :: Char.ofNat 108 :: Char.ofNat 101 :: Char.ofNat 47 :: Char.ofNat 103 :: Char.ofNat 48 :: Char.ofNat 48 :: Char.ofNat 55 :: Char.ofNat 53 :: Char.ofNat 56 :: Char.ofNat 47 :: Char.ofNat 108 :: Char.ofNat 97 :: Char.ofNat 119 :: Char.ofNat 115 :: Char.ofNat 46 :: Char.ofNat 70 :: Char.ofNat 110 :: Char.ofNat 69 :: Char.ofNat 120 :: Char.ofNat 97 :: Char.ofNat 99 :: Char.ofNat 116 :: Char.ofNat 83 :: Char.ofNat 97 :: Char.ofNat 109 :: Char.ofNat 101 :: Char.ofNat 85 :: Char.ofNat 112 :: Char.ofNat 84 :: Char.ofNat 111 :: Char.ofNat 32 :: Char.ofNat 108 :: Char.ofNat 111 :: Char.ofNat 111 :: Char.ofNat 112 :: Char.ofNat 46 :: Char.ofNat 101 :: Char.ofNat 120 :: Char.ofNat 97 :: Char.ofNat 109 :: Char.ofNat 112 :: Char.ofNat 108 :: Char.ofNat 101 :: Char.ofNat 47 :: Char.ofNat 103 :: Char.ofNat 48 :: Char.ofNat 48 :: Char.ofNat 55 :: Char.ofNat 53 :: Char.ofNat 56 :: Char.ofNat 47 :: Char.ofNat 108 :: Char.ofNat 97 :: Char.ofNat 119 :: Char.ofNat 115 :: Char.ofNat 46 :: Char.ofNat 70 :: Char.ofNat 110 :: Char.ofNat 69 :: Char.ofNat 120 :: Char.ofNat 97 :: Char.ofNat 99 :: Char.ofNat 116 :: Char.ofNat 67 :: Char.ofNat 111 :: Char.ofNat 115 :: Char.ofNat 116 :: Char.ofNat 84 :: Char.ofNat 97 :: Char.ofNat 98 :: Char.ofNat 108 :: Char.ofNat 101 :: Char.ofNat 32 :: Char.ofNat 108 :: Char.ofNat 111 :: Char.ofNat 111 :: Char.ofNat 112 :: Char.ofNat 46 :: Char.ofNat 101 :: Char.ofNat 120 :: Char.ofNat 97 :: Char.ofNat 109 :: Char.ofNat 112 :: Char.ofNat 108 :: Char.ofNat 101 :: Char.ofNat 47 :: Char.ofNat 103 :: Char.ofNat 48 :: Char.ofNat 48 :: Char.ofNat 55 :: Char.ofNat 53 :: Char.ofNat 56 :: Char.ofNat 47 :: Char.ofNat 108 :: Char.ofNat 97 :: Char.ofNat 119 :: Char.ofNat 115 :: Char.ofNat 46 :: Char.ofNat 70 :: Char.ofNat 110 :: Char.ofNat 69 :: Char.ofNat 120 :: Char.ofNat 97 :: Char.ofNat 99 :: Char.ofNat 116 :: Char.ofNat 80 :: Char.ofNat 117 :: Char.ofNat 109 :: Char.ofNat 112 :: Char.ofNat 84 :: Char.ofNat 114 :: Char.ofNat 101 :: Char.ofNat 101 :: Char.ofNat 32 :: Char.ofNat 108 :: Char.ofNat 111 :: Char.ofNat 111 :: Char.ofNat 112 :: Char.ofNat 46 :: Char.ofNat 101 :: Char.ofNat 120 :: Char.ofNat 97 :: Char.ofNat 109 :: Char.ofNat 112 :: Char.ofNat 108 :: Char.ofNat 101 :: Char.ofNat 47 :: Char.ofNat 103 :: Char.ofNat 48 :: Char.ofNat 48 :: Char.ofNat 55 :: Char.ofNat 53 :: Char.ofNat 56 :: Char.ofNat 47 :: Char.ofNat 108 :: Char.ofNat 97 :: Char.ofNat 119 :: Char.ofNat 115 :: Char.ofNat 46 :: Char.ofNat 70 :: Char.ofNat 110 :: Char.ofNat 69 :: Char.ofNat 120 :: Char.ofNat 97 :: Char.ofNat 99 :: Char.ofNat 116 :: Char.ofNat 67 :: Char.ofNat 111 :: Char.ofNat 117 :: Char.ofNat 110 :: Char.ofNat 116 :: Char.ofNat 83 :: Char.ofNat 105 :: Char.ofNat 122 :: Char.ofNat 101 :: Char.ofNat 100 :: Char.ofNat 32 :: Char.ofNat 108 :: Char.ofNat 111 :: Char.ofNat 111 :: Char.ofNat 112 :: Char.ofNat 46 :: Char.ofNat 101 :: Char.ofNat 120 :: Char.ofNat 97 :: Char.ofNat 109 :: Char.ofNat 112 :: Char.ofNat 108 :: Char.ofNat 101 :: Char.ofNat 47 :: Char.ofNat 103 :: Char.ofNat 48 :: Char.ofNat 48 :: Char.ofNat 55 :: Char.ofNat 53 :: Char.ofNat 56 :: Char.ofNat 47 :: Char.ofNat 108 :: Char.ofNat 97 :: Char.ofNat 119 :: Char.ofNat 115 :: Char.ofNat 46 :: Char.ofNat 70 :: Char.ofNat 110 :: Char.ofNat 69 :: Char.ofNat 120 :: Char.ofNat 97 :: Char.ofNat 99 :: Char.ofNat 116 :: Char.ofNat 67 :: Char.ofNat 104 :: Char.ofNat 97 :: Char.ofNat 110 :: Char.ofNat 103 :: Char.ofNat 101 :: Char.ofNat 87 :: Char.ofNat 111 :: Char.ofNat 114 :: Char.ofNat 100 :: Char.ofNat 32 :: Char.ofNat 108 :: Char.ofNat 111 :: Char.ofNat 111 :: Char.ofNat 112 :: Char.ofNat 46 :: Char.ofNat 101 :: Char.ofNat 120 :: Char.ofNat 97 :: Char.ofNat 109 :: Char.ofNat 112 :: Char.ofNat 108 :: Char.ofNat 101 :: Char.ofNat 47 :: Char.ofNat 103 :: Char.ofNat 48 :: Char.ofNat 48 :: Char.ofNat 55 :: Char.ofNat 53 :: Char.ofNat 56 :: Char.ofNat 47 :: Char.ofNat 108 :: Char.ofNat 97 :: Char.ofNat 119 :: Char.ofNat 115 :: Char.ofNat 46 :: Char.ofNat 70 :: Char.ofNat 110 :: Char.ofNat 69 :: Char.ofNat 120 :: Char.ofNat 97 :: Char.ofNat 99 :: Char.ofNat 116 :: Char.ofNat 77 :: Char.ofNat 101 :: Char.ofNat 110 :: Char.ofNat 100 :: Char.ofNat 84 :: Char.ofNat 97 :: Char.ofNat 98 :: Char.ofNat 108 :: Char.ofNat 101 :: Char.ofNat 32 :: Char.ofNat 108 :: Char.ofNat 111 :: Char.ofNat 111 :: Char.ofNat 112 :: Char.ofNat 46 :: Char.ofNat 101 :: Char.ofNat 120 :: Char.ofNat 97 :: Char.ofNat 109 :: Char.ofNat 112 :: Char.ofNat 108 :: Char.ofNat 101 :: Char.ofNat 47 :: Char.ofNat 103 :: Char.ofNat 48 :: Char.ofNat 48 :: Char.ofNat 55 :: Char.ofNat 53 :: Char.ofNat 56 :: Char.ofNat 47 :: Char.ofNat 108 :: Char.ofNat 97 :: Char.ofNat 119 :: Char.ofNat 115 :: Char.ofNat 46 :: Char.ofNat 70 :: Char.ofNat 110 :: Char.ofNat 69 :: Char.ofNat 120 :: Char.ofNat 97 :: Char.ofNat 99 :: Char.ofNat 116 :: Char.ofNat 78 :: Char.ofNat 101 :: Char.ofNat 97 :: Char.ofNat 114 :: Char.ofNat 87 :: Char.ofNat 111 :: Char.ofNat 114 :: Char.ofNat 100 :: Char.ofNat 32 :: Char.ofNat 108 :: Char.ofNat 111 :: Char.ofNat 111 :: Char.ofNat 112 :: Char.ofNat 46 :: Char.ofNat 101 :: Char.ofNat 120 :: Char.ofNat 97 :: Char.ofNat 109 :: Char.ofNat 112 :: Char.ofNat 108 :: Char.ofNat 101 :: Char.ofNat 47 :: Char.ofNat 103 :: Char.ofNat 48 :: Char.ofNat 48 :: Char.ofNat 55 :: Char.ofNat 53 :: Char.ofNat 56 :: Char.ofNat 47 :: Char.ofNat 108 :: Char.ofNat 97 :: Char.ofNat 119 :: Char.ofNat 115 :: Char.ofNat 46 :: Char.ofNat 70 :: Char.ofNat 110 :: Char.ofNat 69 :: Char.ofNat 120 :: Char.ofNat 97 :: Char.ofNat 99 :: Char.ofNat 116 :: Char.ofNat 70 :: Char.ofNat 105 :: Char.ofNat 114 :: Char.ofNat 115 :: Char.ofNat 116 :: Char.ofNat 85 :: Char.ofNat 110 :: Char.ofNat 108 :: Char.ofNat 105 :: Char.ofNat 107 :: Char.ofNat 101 :: Char.ofNat 32 :: Char.ofNat 108 :: Char.ofNat 111 :: Char.ofNat 111 :: Char.ofNat 112 :: Char.ofNat 46 :: Char.ofNat 101 :: Char.ofNat 120 :: Char.ofNat 97 :: Char.ofNat 109 :: Char.ofNat 112 :: Char.ofNat 108 :: Char.ofNat 101 :: Char.ofNat 47 :: Char.ofNat 103 :: Char.ofNat 48 :: Char.ofNat 48 :: Char.ofNat 55 :: Char.ofNat 53 :: Char.ofNat 56 :: Char.ofNat 47 :: Char.ofNat 108 :: Char.ofNat 97 :: Char.ofNat 119 :: Char.ofNat 115 :: Char.ofNat 46 :: Char.ofNat 70 :: Char.ofNat 110 :: Char.ofNat 69 :: Char.ofNat 120 :: Char.ofNat 97 :: Char.ofNat 99 :: Char.ofNat 116 :: Char.ofNat 66 :: Char.ofNat 101 :: Char.ofNat 115 :: Char.ofNat 116 :: Char.ofNat 84 :: Char.ofNat 114 :: Char.ofNat 101 :: Char.ofNat 101 :: Char.ofNat 32 :: Char.ofNat 108 :: Char.ofNat 111 :: Char.ofNat 111 :: Char.ofNat 112 :: Char.ofNat 46 :: Char.ofNat 101 :: Char.ofNat 120 :: Char.ofNat 97 :: Char.ofNat 109 :: Char.ofNat 112 :: Char.ofNat 108 :: Char.ofNat 101 :: Char.ofNat 47 :: Char.ofNat 103 :: Char.ofNat 48 :: Char.ofNat 48 :: Char.ofNat 55 :: Char.ofNat 53 :: Char.ofNat 56 :: Char.ofNat 47 :: Char.ofNat 108 :: Char.ofNat 97 :: Char.ofNat 119 :: Char.ofNat 115 :: Char.ofNat 46 :: Char.ofNat 70 :: Char.ofNat 110 :: Char.ofNat 69 :: Char.ofNat 120 :: Char.ofNat 97 :: Char.ofNat 99 :: Char.ofNat 116 :: Char.ofNat 84 :: Char.ofNat 114 :: Char.ofNat 101 :: Char.ofNat 101 :: Char.ofNat 115 :: Char.ofNat 85 :: Char.ofNat 112 :: Char.ofNat 84 :: Char.ofNat 111 :: []
theorem io0 : Try.prog.initOrder = "harness 22a07d443c4c5962121c4b3a543a621850c4656f5b47dfaf5f2739a4f4320ba4 cut at loop.example/g00758/laws.FnExactPumpWord loop.example/g00758/laws.FnExactLongEnough loop.example/g00758/laws.FnExactStarOf loop.example/g00758/laws.FnExactJoinOf loop.example/g00758/laws.FnExactUnionOf loop.example/g00758/laws.FnExactPumpOf loop.example/g00758/laws.FnExactPathIn loop.example/g00758/laws.FnExactLeastMend loop.example/g00758/laws.FnExactIsPump loop.example/g00758/laws.FnExactCountByLong loop.example/g00758/laws.FnExactSameUpTo loop.example/g00758/laws.FnExactCostTable loop.example/g00758/laws.FnExactPumpTree loop.example/g00758/laws.FnExactCountSized loop.example/g00758/laws.FnExactChangeWord loop.example/g00758/laws.FnExactMendTable loop.example/g00758/laws.FnExactNearWord loop.example/g00758/laws.FnExactFirstUnlike loop.example/g00758/laws.FnExactBestTree loop.example/g00758/laws.FnExactTreesUpTo" := by kernel_rfl
theorem io1 : "harness 22a07d443c4c5962121c4b3a543a621850c4656f5b47dfaf5f2739a4f4320ba4 cut at loop.example/g00758/laws.FnExactPumpWord loop.example/g00758/laws.FnExactLongEnough loop.example/g00758/laws.FnExactStarOf loop.example/g00758/laws.FnExactJoinOf loop.example/g00758/laws.FnExactUnionOf loop.example/g00758/laws.FnExactPumpOf loop.example/g00758/laws.FnExactPathIn loop.example/g00758/laws.FnExactLeastMend loop.example/g00758/laws.FnExactIsPump loop.example/g00758/laws.FnExactCountByLong loop.example/g00758/laws.FnExactSameUpTo loop.example/g00758/laws.FnExactCostTable loop.example/g00758/laws.FnExactPumpTree loop.example/g00758/laws.FnExactCountSized loop.example/g00758/laws.FnExactChangeWord loop.example/g00758/laws.FnExactMendTable loop.example/g00758/laws.FnExactNearWord loop.example/g00758/laws.FnExactFirstUnlike loop.example/g00758/laws.FnExactBestTree loop.example/g00758/laws.FnExactTreesUpTo" = String.ofList (Char.ofNat 104 :: Char.ofNat 97 :: Char.ofNat 114 :: Char.ofNat 110 :: Char.ofNat 101 :: Char.ofNat 115 :: Char.ofNat 115 :: Char.ofNat 32 :: Char.ofNat 50 :: Char.ofNat 50 :: Char.ofNat 97 :: Char.ofNat 48 :: Char.ofNat 55 :: Char.ofNat 100 :: Char.ofNat 52 :: Char.ofNat 52 :: Char.ofNat 51 :: Char.ofNat 99 :: Char.ofNat 52 :: Char.ofNat 99 :: Char.ofNat 53 :: Char.ofNat 57 :: Char.ofNat 54 :: Char.ofNat 50 :: Char.ofNat 49 :: Char.ofNat 50 :: Char.ofNat 49 :: Char.ofNat 99 :: Char.ofNat 52 :: Char.ofNat 98 :: Char.ofNat 51 :: Char.ofNat 97 :: Char.ofNat 53 :: Char.ofNat 52 :: Char.ofNat 51 :: Char.ofNat 97 :: Char.ofNat 54 :: Char.ofNat 50 :: Char.ofNat 49 :: Char.ofNat 56 :: Char.ofNat 53 :: Char.ofNat 48 :: Char.ofNat 99 :: Char.ofNat 52 :: Char.ofNat 54 :: Char.ofNat 53 :: Char.ofNat 54 :: Char.ofNat 102 :: Char.ofNat 53 :: Char.ofNat 98 :: Char.ofNat 52 :: Char.ofNat 55 :: Char.ofNat 100 :: Char.ofNat 102 :: Char.ofNat 97 :: Char.ofNat 102 :: Char.ofNat 53 :: Char.ofNat 102 :: Char.ofNat 50 :: Char.ofNat 55 :: Char.ofNat 51 :: Char.ofNat 57 :: Char.ofNat 97 :: Char.ofNat 52 :: Char.ofNat 102 :: Char.ofNat 52 :: Char.ofNat 51 :: Char.ofNat 50 :: Char.ofNat 48 :: Char.ofNat 98 :: Char.ofNat 97 :: Char.ofNat 52 :: Char.ofNat 32 :: Char.ofNat 99 :: Char.ofNat 117 :: Char.ofNat 116 :: Char.ofNat 32 :: Char.ofNat 97 :: Char.ofNat 116 :: Char.ofNat 32 :: Char.ofNat 108 :: Char.ofNat 111 :: Char.ofNat 111 :: Char.ofNat 112 :: Char.ofNat 46 :: Char.ofNat 101 :: Char.ofNat 120 :: Char.ofNat 97 :: Char.ofNat 109 :: Char.ofNat 112 :: Char.ofNat 108 :: Char.ofNat 101 :: Char.ofNat 47 :: Char.ofNat 103 :: Char.ofNat 48 :: Char.ofNat 48 :: Char.ofNat 55 :: Char.ofNat 53 :: Char.ofNat 56 :: Char.ofNat 47 :: Char.ofNat 108 :: Char.ofNat 97 :: Char.ofNat 119 :: Char.ofNat 115 :: Char.ofNat 46 :: Char.ofNat 70 :: Char.ofNat 110 :: Char.ofNat 69 :: Char.ofNat 120 :: Char.ofNat 97 :: Char.ofNat 99 :: Char.ofNat 116 :: Char.ofNat 80 :: Char.ofNat 117 :: Char.ofNat 109 :: Char.ofNat 112 :: Char.ofNat 87 :: Char.ofNat 111 :: Char.ofNat 114 :: Char.ofNat 100 :: Char.ofNat 32 :: Char.ofNat 108 :: Char.ofNat 111 :: Char.ofNat 111 :: Char.ofNat 112 :: Char.ofNat 46 :: Char.ofNat 101 :: Char.ofNat 120 :: Char.ofNat 97 :: Char.ofNat 109 :: Char.ofNat 112 :: Char.ofNat 108 :: Char.ofNat 101 :: Char.ofNat 47 :: Char.ofNat 103 :: Char.ofNat 48 :: Char.ofNat 48 :: Char.ofNat 55 :: Char.ofNat 53 :: Char.ofNat 56 :: Char.ofNat 47 :: Char.ofNat 108 :: Char.ofNat 97 :: Char.ofNat 119 :: Char.ofNat 115 :: Char.ofNat 46 :: Char.ofNat 70 :: Char.ofNat 110 :: Char.ofNat 69 :: Char.ofNat 120 :: Char.ofNat 97 :: Char.ofNat 99 :: Char.ofNat 116 :: Char.ofNat 76 :: Char.ofNat 111 :: Char.ofNat 110 :: Char.ofNat 103 :: Char.ofNat 69 :: Char.ofNat 110 :: Char.ofNat 111 :: Char.ofNat 117 :: Char.ofNat 103 :: Char.ofNat 104 :: Char.ofNat 32 :: Char.ofNat 108 :: Char.ofNat 111 :: Char.ofNat 111 :: Char.ofNat 112 :: Char.ofNat 46 :: Char.ofNat 101 :: Char.ofNat 120 :: Char.ofNat 97 :: Char.ofNat 109 :: Char.ofNat 112 :: Char.ofNat 108 :: Char.ofNat 101 :: Char.ofNat 47 :: Char.ofNat 103 :: Char.ofNat 48 :: Char.ofNat 48 :: Char.ofNat 55 :: Char.ofNat 53 :: Char.ofNat 56 :: Char.ofNat 47 :: Char.ofNat 108 :: Char.ofNat 97 :: Char.ofNat 119 :: Char.ofNat 115 :: Char.ofNat 46 :: Char.ofNat 70 :: Char.ofNat 110 :: Char.ofNat 69 :: Char.ofNat 120 :: Char.ofNat 97 :: Char.ofNat 99 :: Char.ofNat 116 :: Char.ofNat 83 :: Char.ofNat 116 :: Char.ofNat 97 :: Char.ofNat 114 :: Char.ofNat 79 :: Char.ofNat 102 :: Char.ofNat 32 :: Char.ofNat 108 :: Char.ofNat 111 :: Char.ofNat 111 :: Char.ofNat 112 :: Char.ofNat 46 :: Char.ofNat 101 :: Char.ofNat 120 :: Char.ofNat 97 :: Char.ofNat 109 :: Char.ofNat 112 :: Char.ofNat 108 :: Char.ofNat 101 :: Char.ofNat 47 :: Char.ofNat 103 :: Char.ofNat 48 :: Char.ofNat 48 :: Char.ofNat 55 :: Char.ofNat 53 :: Char.ofNat 56 :: Char.ofNat 47 :: Char.ofNat 108 :: Char.ofNat 97 :: Char.ofNat 119 :: Char.ofNat 115 :: Char.ofNat 46 :: Char.ofNat 70 :: Char.ofNat 110 :: Char.ofNat 69 :: Char.ofNat 120 :: Char.ofNat 97 :: Char.ofNat 99 :: Char.ofNat 116 :: Char.ofNat 74 :: Char.ofNat 111 :: Char.ofNat 105 :: Char.ofNat 110 :: Char.ofNat 79 :: Char.ofNat 102 :: Char.ofNat 32 :: Char.ofNat 108 :: Char.ofNat 111 :: Char.ofNat 111 :: Char.ofNat 112 :: Char.ofNat 46 :: Char.ofNat 101 :: Char.ofNat 120 :: Char.ofNat 97 :: Char.ofNat 109 :: Char.ofNat 112 :: Char.ofNat 108 :: Char.ofNat 101 :: Char.ofNat 47 :: Char.ofNat 103 :: Char.ofNat 48 :: Char.ofNat 48 :: Char.ofNat 55 :: Char.ofNat 53 :: Char.ofNat 56 :: Char.ofNat 47 :: Char.ofNat 108 :: Char.ofNat 97 :: Char.ofNat 119 :: Char.ofNat 115 :: Char.ofNat 46 :: Char.ofNat 70 :: Char.ofNat 110 :: Char.ofNat 69 :: Char.ofNat 120 :: Char.ofNat 97 :: Char.ofNat 99 :: Char.ofNat 116 :: Char.ofNat 85 :: Char.ofNat 110 :: Char.ofNat 105 :: Char.ofNat 111 :: Char.ofNat 110 :: Char.ofNat 79 :: Char.ofNat 102 :: Char.ofNat 32 :: Char.ofNat 108 :: Char.ofNat 111 :: Char.ofNat 111 :: Char.ofNat 112 :: Char.ofNat 46 :: Char.ofNat 101 :: Char.ofNat 120 :: Char.ofNat 97 :: Char.ofNat 109 :: Char.ofNat 112 :: Char.ofNat 108 :: Char.ofNat 101 :: Char.ofNat 47 :: Char.ofNat 103 :: Char.ofNat 48 :: Char.ofNat 48 :: Char.ofNat 55 :: Char.ofNat 53 :: Char.ofNat 56 :: Char.ofNat 47 :: Char.ofNat 108 :: Char.ofNat 97 :: Char.ofNat 119 :: Char.ofNat 115 :: Char.ofNat 46 :: Char.ofNat 70 :: Char.ofNat 110 :: Char.ofNat 69 :: Char.ofNat 120 :: Char.ofNat 97 :: Char.ofNat 99 :: Char.ofNat 116 :: Char.ofNat 80 :: Char.ofNat 117 :: Char.ofNat 109 :: Char.ofNat 112 :: Char.ofNat 79 :: Char.ofNat 102 :: Char.ofNat 32 :: Char.ofNat 108 :: Char.ofNat 111 :: Char.ofNat 111 :: Char.ofNat 112 :: Char.ofNat 46 :: Char.ofNat 101 :: Char.ofNat 120 :: Char.ofNat 97 :: Char.ofNat 109 :: Char.ofNat 112 :: Char.ofNat 108 :: Char.ofNat 101 :: Char.ofNat 47 :: Char.ofNat 103 :: Char.ofNat 48 :: Char.ofNat 48 :: Char.ofNat 55 :: Char.ofNat 53 :: Char.ofNat 56 :: Char.ofNat 47 :: Char.ofNat 108 :: Char.ofNat 97 :: Char.ofNat 119 :: Char.ofNat 115 :: Char.ofNat 46 :: Char.ofNat 70 :: Char.ofNat 110 :: Char.ofNat 69 :: Char.ofNat 120 :: Char.ofNat 97 :: Char.ofNat 99 :: Char.ofNat 116 :: Char.ofNat 80 :: Char.ofNat 97 :: Char.ofNat 116 :: Char.ofNat 104 :: Char.ofNat 73 :: Char.ofNat 110 :: Char.ofNat 32 :: Char.ofNat 108 :: Char.ofNat 111 :: Char.ofNat 111 :: Char.ofNat 112 :: Char.ofNat 46 :: Char.ofNat 101 :: Char.ofNat 120 :: Char.ofNat 97 :: Char.ofNat 109 :: Char.ofNat 112 :: Char.ofNat 108 :: Char.ofNat 101 :: Char.ofNat 47 :: Char.ofNat 103 :: Char.ofNat 48 :: Char.ofNat 48 :: Char.ofNat 55 :: Char.ofNat 53 :: Char.ofNat 56 :: Char.ofNat 47 :: Char.ofNat 108 :: Char.ofNat 97 :: Char.ofNat 119 :: Char.ofNat 115 :: Char.ofNat 46 :: Char.ofNat 70 :: Char.ofNat 110 :: Char.ofNat 69 :: Char.ofNat 120 :: Char.ofNat 97 :: Char.ofNat 99 :: Char.ofNat 116 :: Char.ofNat 76 :: Char.ofNat 101 :: Char.ofNat 97 :: Char.ofNat 115 :: Char.ofNat 116 :: Char.ofNat 77 :: Char.ofNat 101 :: Char.ofNat 110 :: Char.ofNat 100 :: Char.ofNat 32 :: Char.ofNat 108 :: Char.ofNat 111 :: Char.ofNat 111 :: Char.ofNat 112 :: Char.ofNat 46 :: Char.ofNat 101 :: Char.ofNat 120 :: Char.ofNat 97 :: Char.ofNat 109 :: Char.ofNat 112 :: Char.ofNat 108 :: Char.ofNat 101 :: Char.ofNat 47 :: Char.ofNat 103 :: Char.ofNat 48 :: Char.ofNat 48 :: Char.ofNat 55 :: Char.ofNat 53 :: Char.ofNat 56 :: Char.ofNat 47 :: Char.ofNat 108 :: Char.ofNat 97 :: Char.ofNat 119 :: Char.ofNat 115 :: Char.ofNat 46 :: Char.ofNat 70 :: Char.ofNat 110 :: Char.ofNat 69 :: Char.ofNat 120 :: Char.ofNat 97 :: Char.ofNat 99 :: Char.ofNat 116 :: Char.ofNat 73 :: Char.ofNat 115 :: Char.ofNat 80 :: Char.ofNat 117 :: Char.ofNat 109 :: Char.ofNat 112 :: Char.ofNat 32 :: Char.ofNat 108 :: Char.ofNat 111 :: Char.ofNat 111 :: Char.ofNat 112 :: Char.ofNat 46 :: Char.ofNat 101 :: Char.ofNat 120 :: Char.ofNat 97 :: Char.ofNat 109 :: Char.ofNat 112 :: Char.ofNat 108 :: Char.ofNat 101 :: Char.ofNat 47 :: Char.ofNat 103 :: Char.ofNat 48 :: Char.ofNat 48 :: Char.ofNat 55 :: Char.ofNat 53 :: Char.ofNat 56 :: Char.ofNat 47 :: Char.ofNat 108 :: Char.ofNat 97 :: Char.ofNat 119 :: Char.ofNat 115 :: Char.ofNat 46 :: Char.ofNat 70 :: Char.ofNat 110 :: Char.ofNat 69 :: Char.ofNat 120 :: Char.ofNat 97 :: Char.ofNat 99 :: Char.ofNat 116 :: Char.ofNat 67 :: Char.ofNat 111 :: Char.ofNat 117 :: Char.ofNat 110 :: Char.ofNat 116 :: Char.ofNat 66 :: Char.ofNat 121 :: Char.ofNat 76 :: Char.ofNat 111 :: Char.ofNat 110 :: Char.ofNat 103 :: Char.ofNat 32 :: Char.ofNat 108 :: Char.ofNat 111 :: Char.ofNat 111 :: Char.ofNat 112 :: Char.ofNat 46 :: Char.ofNat 101 :: Char.ofNat 120 :: Char.ofNat 97 :: Char.ofNat 109 :: Char.ofNat 112 :: Char.ofNat 108 :: Char.ofNat 101 :: Char.ofNat 47 :: Char.ofNat 103 :: Char.ofNat 48 :: Char.ofNat 48 :: Char.ofNat 55 :: Char.ofNat 53 :: Char.ofNat 56 :: Char.ofNat 47 :: Char.ofNat 108 :: Char.ofNat 97 :: Char.ofNat 119 :: Char.ofNat 115 :: Char.ofNat 46 :: Char.ofNat 70 :: Char.ofNat 110 :: Char.ofNat 69 :: Char.ofNat 120 :: Char.ofNat 97 :: Char.ofNat 99 :: Char.ofNat 116 :: Char.ofNat 83 :: Char.ofNat 97 :: Char.ofNat 109 :: Char.ofNat 101 :: Char.ofNat 85 :: Char.ofNat 112 :: Char.ofNat 84 :: Char.ofNat 111 :: Char.ofNat 32 :: Char.ofNat 108 :: Char.ofNat 111 :: Char.ofNat 111 :: Char.ofNat 112 :: Char.ofNat 46 :: Char.ofNat 101 :: Char.ofNat 120 :: Char.ofNat 97 :: Char.ofNat 109 :: Char.ofNat 112 :: Char.ofNat 108 :: Char.ofNat 101 :: Char.ofNat 47 :: Char.ofNat 103 :: Char.ofNat 48 :: Char.ofNat 48 :: Char.ofNat 55 :: Char.ofNat 53 :: Char.ofNat 56 :: Char.ofNat 47 :: Char.ofNat 108 :: Char.ofNat 97 :: Char.ofNat 119 :: Char.ofNat 115 :: Char.ofNat 46 :: Char.ofNat 70 :: Char.ofNat 110 :: Char.ofNat 69 :: Char.ofNat 120 :: Char.ofNat 97 :: Char.ofNat 99 :: Char.ofNat 116 :: Char.ofNat 67 :: Char.ofNat 111 :: Char.ofNat 115 :: Char.ofNat 116 :: Char.ofNat 84 :: Char.ofNat 97 :: Char.ofNat 98 :: Char.ofNat 108 :: Char.ofNat 101 :: Char.ofNat 32 :: Char.ofNat 108 :: Char.ofNat 111 :: Char.ofNat 111 :: Char.ofNat 112 :: Char.ofNat 46 :: Char.ofNat 101 :: Char.ofNat 120 :: Char.ofNat 97 :: Char.ofNat 109 :: Char.ofNat 112 :: Char.ofNat 108 :: Char.ofNat 101 :: Char.ofNat 47 :: Char.ofNat 103 :: Char.ofNat 48 :: Char.ofNat 48 :: Char.ofNat 55 :: Char.ofNat 53 :: Char.ofNat 56 :: Char.ofNat 47 :: Char.ofNat 108 :: Char.ofNat 97 :: Char.ofNat 119 :: Char.ofNat 115 :: Char.ofNat 46 :: Char.ofNat 70 :: Char.ofNat 110 :: Char.ofNat 69 :: Char.ofNat 120 :: Char.ofNat 97 :: Char.ofNat 99 :: Char.ofNat 116 :: Char.ofNat 80 :: Char.ofNat 117 :: Char.ofNat 109 :: Char.ofNat 112 :: Char.ofNat 84 :: Char.ofNat 114 :: Char.ofNat 101 :: Char.ofNat 101 :: Char.ofNat 32 :: Char.ofNat 108 :: Char.ofNat 111 :: Char.ofNat 111 :: Char.ofNat 112 :: Char.ofNat 46 :: Char.ofNat 101 :: Char.ofNat 120 :: Char.ofNat 97 :: Char.ofNat 109 :: Char.ofNat 112 :: Char.ofNat 108 :: Char.ofNat 101 :: Char.ofNat 47 :: Char.ofNat 103 :: Char.ofNat 48 :: Char.ofNat 48 :: Char.ofNat 55 :: Char.ofNat 53 :: Char.ofNat 56 :: Char.ofNat 47 :: Char.ofNat 108 :: Char.ofNat 97 :: Char.ofNat 119 :: Char.ofNat 115 :: Char.ofNat 46 :: Char.ofNat 70 :: Char.ofNat 110 :: Char.ofNat 69 :: Char.ofNat 120 :: Char.ofNat 97 :: Char.ofNat 99 :: Char.ofNat 116 :: Char.ofNat 67 :: Char.ofNat 111 :: Char.ofNat 117 :: Char.ofNat 110 :: Char.ofNat 116 :: Char.ofNat 83 :: Char.ofNat 105 :: Char.ofNat 122 :: Char.ofNat 101 :: Char.ofNat 100 :: Char.ofNat 32 :: Char.ofNat 108 :: Char.ofNat 111 :: Char.ofNat 111 :: Char.ofNat 112 :: Char.ofNat 46 :: Char.ofNat 101 :: Char.ofNat 120 :: Char.ofNat 97 :: Char.ofNat 109 :: Char.ofNat 112 :: Char.ofNat 108 :: Char.ofNat 101 :: Char.ofNat 47 :: Char.ofNat 103 :: Char.ofNat 48 :: Char.ofNat 48 :: Char.ofNat 55 :: Char.ofNat 53 :: Char.ofNat 56 :: Char.ofNat 47 :: Char.ofNat 108 :: Char.ofNat 97 :: Char.ofNat 119 :: Char.ofNat 115 :: Char.ofNat 46 :: Char.ofNat 70 :: Char.ofNat 110 :: Char.ofNat 69 :: Char.ofNat 120 :: Char.ofNat 97 :: Char.ofNat 99 :: Char.ofNat 116 :: Char.ofNat 67 :: Char.ofNat 104 :: Char.ofNat 97 :: Char.ofNat 110 :: Char.ofNat 103 :: Char.ofNat 101 :: Char.ofNat 87 :: Char.ofNat 111 :: Char.ofNat 114 :: Char.ofNat 100 :: Char.ofNat 32 :: Char.ofNat 108 :: Char.ofNat 111 :: Char.ofNat 111 :: Char.ofNat 112 :: Char.ofNat 46 :: Char.ofNat 101 :: Char.ofNat 120 :: Char.ofNat 97 :: Char.ofNat 109 :: Char.ofNat 112 :: Char.ofNat 108 :: Char.ofNat 101 :: Char.ofNat 47 :: Char.ofNat 103 :: Char.ofNat 48 :: Char.ofNat 48 :: Char.ofNat 55 :: Char.ofNat 53 :: Char.ofNat 56 :: Char.ofNat 47 :: Char.ofNat 108 :: Char.ofNat 97 :: Char.ofNat 119 :: Char.ofNat 115 :: Char.ofNat 46 :: Char.ofNat 70 :: Char.ofNat 110 :: Char.ofNat 69 :: Char.ofNat 120 :: Char.ofNat 97 :: Char.ofNat 99 :: Char.ofNat 116 :: Char.ofNat 77 :: Char.ofNat 101 :: Char.ofNat 110 :: Char.ofNat 100 :: Char.ofNat 84 :: Char.ofNat 97 :: Char.ofNat 98 :: Char.ofNat 108 :: Char.ofNat 101 :: Char.ofNat 32 :: Char.ofNat 108 :: Char.ofNat 111 :: Char.ofNat 111 :: Char.ofNat 112 :: Char.ofNat 46 :: Char.ofNat 101 :: Char.ofNat 120 :: Char.ofNat 97 :: Char.ofNat 109 :: Char.ofNat 112 :: Char.ofNat 108 :: Char.ofNat 101 :: Char.ofNat 47 :: Char.ofNat 103 :: Char.ofNat 48 :: Char.ofNat 48 :: Char.ofNat 55 :: Char.ofNat 53 :: Char.ofNat 56 :: Char.ofNat 47 :: Char.ofNat 108 :: Char.ofNat 97 :: Char.ofNat 119 :: Char.ofNat 115 :: Char.ofNat 46 :: Char.ofNat 70 :: Char.ofNat 110 :: Char.ofNat 69 :: Char.ofNat 120 :: Char.ofNat 97 :: Char.ofNat 99 :: Char.ofNat 116 :: Char.ofNat 78 :: Char.ofNat 101 :: Char.ofNat 97 :: Char.ofNat 114 :: Char.ofNat 87 :: Char.ofNat 111 :: Char.ofNat 114 :: Char.ofNat 100 :: Char.ofNat 32 :: Char.ofNat 108 :: Char.ofNat 111 :: Char.ofNat 111 :: Char.ofNat 112 :: Char.ofNat 46 :: Char.ofNat 101 :: Char.ofNat 120 :: Char.ofNat 97 :: Char.ofNat 109 :: Char.ofNat 112 :: Char.ofNat 108 :: Char.ofNat 101 :: Char.ofNat 47 :: Char.ofNat 103 :: Char.ofNat 48 :: Char.ofNat 48 :: Char.ofNat 55 :: Char.ofNat 53 :: Char.ofNat 56 :: Char.ofNat 47 :: Char.ofNat 108 :: Char.ofNat 97 :: Char.ofNat 119 :: Char.ofNat 115 :: Char.ofNat 46 :: Char.ofNat 70 :: Char.ofNat 110 :: Char.ofNat 69 :: Char.ofNat 120 :: Char.ofNat 97 :: Char.ofNat 99 :: Char.ofNat 116 :: Char.ofNat 70 :: Char.ofNat 105 :: Char.ofNat 114 :: Char.ofNat 115 :: Char.ofNat 116 :: Char.ofNat 85 :: Char.ofNat 110 :: Char.ofNat 108 :: Char.ofNat 105 :: Char.ofNat 107 :: Char.ofNat 101 :: Char.ofNat 32 :: Char.ofNat 108 :: Char.ofNat 111 :: Char.ofNat 111 :: Char.ofNat 112 :: Char.ofNat 46 :: Char.ofNat 101 :: Char.ofNat 120 :: Char.ofNat 97 :: Char.ofNat 109 :: Char.ofNat 112 :: Char.ofNat 108 :: Char.ofNat 101 :: Char.ofNat 47 :: Char.ofNat 103 :: Char.ofNat 48 :: Char.ofNat 48 :: Char.ofNat 55 :: Char.ofNat 53 :: Char.ofNat 56 :: Char.ofNat 47 :: Char.ofNat 108 :: Char.ofNat 97 :: Char.ofNat 119 :: Char.ofNat 115 :: Char.ofNat 46 :: Char.ofNat 70 :: Char.ofNat 110 :: Char.ofNat 69 :: Char.ofNat 120 :: Char.ofNat 97 :: Char.ofNat 99 :: Char.ofNat 116 :: Char.ofNat 66 :: Char.ofNat 101 :: Char.ofNat 115 :: Char.ofNat 116 :: Char.ofNat 84 :: Char.ofNat 114 :: Char.ofNat 101 :: Char.ofNat 101 :: Char.ofNat 32 :: Char.ofNat 108 :: Char.ofNat 111 :: Char.ofNat 111 :: Char.ofNat 112 :: Char.ofNat 46 :: Char.ofNat 101 :: Char.ofNat 120 :: Char.ofNat 97 :: Char.ofNat 109 :: Char.ofNat 112 :: Char.ofNat 108 :: Char.ofNat 101 :: Char.ofNat 47 :: Char.ofNat 103 :: Char.ofNat 48 :: Char.ofNat 48 :: Char.ofNat 55 :: Char.ofNat 53 :: Char.ofNat 56 :: Char.ofNat 47 :: Char.ofNat 108 :: Char.ofNat 97 :: Char.ofNat 119 :: Char.ofNat 115 :: Char.ofNat 46 :: Char.ofNat 70 :: Char.ofNat 110 :: Char.ofNat 69 :: Char.ofNat 120 :: Char.ofNat 97 :: Char.ofNat 99 :: Char.ofNat 116 :: Char.ofNat 84 :: Char.ofNat 114 :: Char.ofNat 101 :: Char.ofNat 101 :: Char.ofNat 115 :: Char.ofNat 85 :: Char.ofNat 112 :: Char.ofNat 84 :: Char.ofNat 111 :: []) := by kernel_rfl
theorem io : Try.prog.initOrder = String.ofList (Char.ofNat 104 :: Char.ofNat 97 :: Char.ofNat 114 :: Char.ofNat 110 :: Char.ofNat 101 :: Char.ofNat 115 :: Char.ofNat 115 :: Char.ofNat 32 :: Char.ofNat 50 :: Char.ofNat 50 :: Char.ofNat 97 :: Char.ofNat 48 :: Char.ofNat 55 :: Char.ofNat 100 :: Char.ofNat 52 :: Char.ofNat 52 :: Char.ofNat 51 :: Char.ofNat 99 :: Char.ofNat 52 :: Char.ofNat 99 :: Char.ofNat 53 :: Char.ofNat 57 :: Char.ofNat 54 :: Char.ofNat 50 :: Char.ofNat 49 :: Char.ofNat 50 :: Char.ofNat 49 :: Char.ofNat 99 :: Char.ofNat 52 :: Char.ofNat 98 :: Char.ofNat 51 :: Char.ofNat 97 :: Char.ofNat 53 :: Char.ofNat 52 :: Char.ofNat 51 :: Char.ofNat 97 :: Char.ofNat 54 :: Char.ofNat 50 :: Char.ofNat 49 :: Char.ofNat 56 :: Char.ofNat 53 :: Char.ofNat 48 :: Char.ofNat 99 :: Char.ofNat 52 :: Char.ofNat 54 :: Char.ofNat 53 :: Char.ofNat 54 :: Char.ofNat 102 :: Char.ofNat 53 :: Char.ofNat 98 :: Char.ofNat 52 :: Char.ofNat 55 :: Char.ofNat 100 :: Char.ofNat 102 :: Char.ofNat 97 :: Char.ofNat 102 :: Char.ofNat 53 :: Char.ofNat 102 :: Char.ofNat 50 :: Char.ofNat 55 :: Char.ofNat 51 :: Char.ofNat 57 :: Char.ofNat 97 :: Char.ofNat 52 :: Char.ofNat 102 :: Char.ofNat 52 :: Char.ofNat 51 :: Char.ofNat 50 :: Char.ofNat 48 :: Char.ofNat 98 :: Char.ofNat 97 :: Char.ofNat 52 :: Char.ofNat 32 :: Char.ofNat 99 :: Char.ofNat 117 :: Char.ofNat 116 :: Char.ofNat 32 :: Char.ofNat 97 :: Char.ofNat 116 :: Char.ofNat 32 :: Char.ofNat 108 :: Char.ofNat 111 :: Char.ofNat 111 :: Char.ofNat 112 :: Char.ofNat 46 :: Char.ofNat 101 :: Char.ofNat 120 :: Char.ofNat 97 :: Char.ofNat 109 :: Char.ofNat 112 :: Char.ofNat 108 :: Char.ofNat 101 :: Char.ofNat 47 :: Char.ofNat 103 :: Char.ofNat 48 :: Char.ofNat 48 :: Char.ofNat 55 :: Char.ofNat 53 :: Char.ofNat 56 :: Char.ofNat 47 :: Char.ofNat 108 :: Char.ofNat 97 :: Char.ofNat 119 :: Char.ofNat 115 :: Char.ofNat 46 :: Char.ofNat 70 :: Char.ofNat 110 :: Char.ofNat 69 :: Char.ofNat 120 :: Char.ofNat 97 :: Char.ofNat 99 :: Char.ofNat 116 :: Char.ofNat 80 :: Char.ofNat 117 :: Char.ofNat 109 :: Char.ofNat 112 :: Char.ofNat 87 :: Char.ofNat 111 :: Char.ofNat 114 :: Char.ofNat 100 :: Char.ofNat 32 :: Char.ofNat 108 :: Char.ofNat 111 :: Char.ofNat 111 :: Char.ofNat 112 :: Char.ofNat 46 :: Char.ofNat 101 :: Char.ofNat 120 :: Char.ofNat 97 :: Char.ofNat 109 :: Char.ofNat 112 :: Char.ofNat 108 :: Char.ofNat 101 :: Char.ofNat 47 :: Char.ofNat 103 :: Char.ofNat 48 :: Char.ofNat 48 :: Char.ofNat 55 :: Char.ofNat 53 :: Char.ofNat 56 :: Char.ofNat 47 :: Char.ofNat 108 :: Char.ofNat 97 :: Char.ofNat 119 :: Char.ofNat 115 :: Char.ofNat 46 :: Char.ofNat 70 :: Char.ofNat 110 :: Char.ofNat 69 :: Char.ofNat 120 :: Char.ofNat 97 :: Char.ofNat 99 :: Char.ofNat 116 :: Char.ofNat 76 :: Char.ofNat 111 :: Char.ofNat 110 :: Char.ofNat 103 :: Char.ofNat 69 :: Char.ofNat 110 :: Char.ofNat 111 :: Char.ofNat 117 :: Char.ofNat 103 :: Char.ofNat 104 :: Char.ofNat 32 :: Char.ofNat 108 :: Char.ofNat 111 :: Char.ofNat 111 :: Char.ofNat 112 :: Char.ofNat 46 :: Char.ofNat 101 :: Char.ofNat 120 :: Char.ofNat 97 :: Char.ofNat 109 :: Char.ofNat 112 :: Char.ofNat 108 :: Char.ofNat 101 :: Char.ofNat 47 :: Char.ofNat 103 :: Char.ofNat 48 :: Char.ofNat 48 :: Char.ofNat 55 :: Char.ofNat 53 :: Char.ofNat 56 :: Char.ofNat 47 :: Char.ofNat 108 :: Char.ofNat 97 :: Char.ofNat 119 :: Char.ofNat 115 :: Char.ofNat 46 :: Char.ofNat 70 :: Char.ofNat 110 :: Char.ofNat 69 :: Char.ofNat 120 :: Char.ofNat 97 :: Char.ofNat 99 :: Char.ofNat 116 :: Char.ofNat 83 :: Char.ofNat 116 :: Char.ofNat 97 :: Char.ofNat 114 :: Char.ofNat 79 :: Char.ofNat 102 :: Char.ofNat 32 :: Char.ofNat 108 :: Char.ofNat 111 :: Char.ofNat 111 :: Char.ofNat 112 :: Char.ofNat 46 :: Char.ofNat 101 :: Char.ofNat 120 :: Char.ofNat 97 :: Char.ofNat 109 :: Char.ofNat 112 :: Char.ofNat 108 :: Char.ofNat 101 :: Char.ofNat 47 :: Char.ofNat 103 :: Char.ofNat 48 :: Char.ofNat 48 :: Char.ofNat 55 :: Char.ofNat 53 :: Char.ofNat 56 :: Char.ofNat 47 :: Char.ofNat 108 :: Char.ofNat 97 :: Char.ofNat 119 :: Char.ofNat 115 :: Char.ofNat 46 :: Char.ofNat 70 :: Char.ofNat 110 :: Char.ofNat 69 :: Char.ofNat 120 :: Char.ofNat 97 :: Char.ofNat 99 :: Char.ofNat 116 :: Char.ofNat 74 :: Char.ofNat 111 :: Char.ofNat 105 :: Char.ofNat 110 :: Char.ofNat 79 :: Char.ofNat 102 :: Char.ofNat 32 :: Char.ofNat 108 :: Char.ofNat 111 :: Char.ofNat 111 :: Char.ofNat 112 :: Char.ofNat 46 :: Char.ofNat 101 :: Char.ofNat 120 :: Char.ofNat 97 :: Char.ofNat 109 :: Char.ofNat 112 :: Char.ofNat 108 :: Char.ofNat 101 :: Char.ofNat 47 :: Char.ofNat 103 :: Char.ofNat 48 :: Char.ofNat 48 :: Char.ofNat 55 :: Char.ofNat 53 :: Char.ofNat 56 :: Char.ofNat 47 :: Char.ofNat 108 :: Char.ofNat 97 :: Char.ofNat 119 :: Char.ofNat 115 :: Char.ofNat 46 :: Char.ofNat 70 :: Char.ofNat 110 :: Char.ofNat 69 :: Char.ofNat 120 :: Char.ofNat 97 :: Char.ofNat 99 :: Char.ofNat 116 :: Char.ofNat 85 :: Char.ofNat 110 :: Char.ofNat 105 :: Char.ofNat 111 :: Char.ofNat 110 :: Char.ofNat 79 :: Char.ofNat 102 :: Char.ofNat 32 :: Char.ofNat 108 :: Char.ofNat 111 :: Char.ofNat 111 :: Char.ofNat 112 :: Char.ofNat 46 :: Char.ofNat 101 :: Char.ofNat 120 :: Char.ofNat 97 :: Char.ofNat 109 :: Char.ofNat 112 :: Char.ofNat 108 :: Char.ofNat 101 :: Char.ofNat 47 :: Char.ofNat 103 :: Char.ofNat 48 :: Char.ofNat 48 :: Char.ofNat 55 :: Char.ofNat 53 :: Char.ofNat 56 :: Char.ofNat 47 :: Char.ofNat 108 :: Char.ofNat 97 :: Char.ofNat 119 :: Char.ofNat 115 :: Char.ofNat 46 :: Char.ofNat 70 :: Char.ofNat 110 :: Char.ofNat 69 :: Char.ofNat 120 :: Char.ofNat 97 :: Char.ofNat 99 :: Char.ofNat 116 :: Char.ofNat 80 :: Char.ofNat 117 :: Char.ofNat 109 :: Char.ofNat 112 :: Char.ofNat 79 :: Char.ofNat 102 :: Char.ofNat 32 :: Char.ofNat 108 :: Char.ofNat 111 :: Char.ofNat 111 :: Char.ofNat 112 :: Char.ofNat 46 :: Char.ofNat 101 :: Char.ofNat 120 :: Char.ofNat 97 :: Char.ofNat 109 :: Char.ofNat 112 :: Char.ofNat 108 :: Char.ofNat 101 :: Char.ofNat 47 :: Char.ofNat 103 :: Char.ofNat 48 :: Char.ofNat 48 :: Char.ofNat 55 :: Char.ofNat 53 :: Char.ofNat 56 :: Char.ofNat 47 :: Char.ofNat 108 :: Char.ofNat 97 :: Char.ofNat 119 :: Char.ofNat 115 :: Char.ofNat 46 :: Char.ofNat 70 :: Char.ofNat 110 :: Char.ofNat 69 :: Char.ofNat 120 :: Char.ofNat 97 :: Char.ofNat 99 :: Char.ofNat 116 :: Char.ofNat 80 :: Char.ofNat 97 :: Char.ofNat 116 :: Char.ofNat 104 :: Char.ofNat 73 :: Char.ofNat 110 :: Char.ofNat 32 :: Char.ofNat 108 :: Char.ofNat 111 :: Char.ofNat 111 :: Char.ofNat 112 :: Char.ofNat 46 :: Char.ofNat 101 :: Char.ofNat 120 :: Char.ofNat 97 :: Char.ofNat 109 :: Char.ofNat 112 :: Char.ofNat 108 :: Char.ofNat 101 :: Char.ofNat 47 :: Char.ofNat 103 :: Char.ofNat 48 :: Char.ofNat 48 :: Char.ofNat 55 :: Char.ofNat 53 :: Char.ofNat 56 :: Char.ofNat 47 :: Char.ofNat 108 :: Char.ofNat 97 :: Char.ofNat 119 :: Char.ofNat 115 :: Char.ofNat 46 :: Char.ofNat 70 :: Char.ofNat 110 :: Char.ofNat 69 :: Char.ofNat 120 :: Char.ofNat 97 :: Char.ofNat 99 :: Char.ofNat 116 :: Char.ofNat 76 :: Char.ofNat 101 :: Char.ofNat 97 :: Char.ofNat 115 :: Char.ofNat 116 :: Char.ofNat 77 :: Char.ofNat 101 :: Char.ofNat 110 :: Char.ofNat 100 :: Char.ofNat 32 :: Char.ofNat 108 :: Char.ofNat 111 :: Char.ofNat 111 :: Char.ofNat 112 :: Char.ofNat 46 :: Char.ofNat 101 :: Char.ofNat 120 :: Char.ofNat 97 :: Char.ofNat 109 :: Char.ofNat 112 :: Char.ofNat 108 :: Char.ofNat 101 :: Char.ofNat 47 :: Char.ofNat 103 :: Char.ofNat 48 :: Char.ofNat 48 :: Char.ofNat 55 :: Char.ofNat 53 :: Char.ofNat 56 :: Char.ofNat 47 :: Char.ofNat 108 :: Char.ofNat 97 :: Char.ofNat 119 :: Char.ofNat 115 :: Char.ofNat 46 :: Char.ofNat 70 :: Char.ofNat 110 :: Char.ofNat 69 :: Char.ofNat 120 :: Char.ofNat 97 :: Char.ofNat 99 :: Char.ofNat 116 :: Char.ofNat 73 :: Char.ofNat 115 :: Char.ofNat 80 :: Char.ofNat 117 :: Char.ofNat 109 :: Char.ofNat 112 :: Char.ofNat 32 :: Char.ofNat 108 :: Char.ofNat 111 :: Char.ofNat 111 :: Char.ofNat 112 :: Char.ofNat 46 :: Char.ofNat 101 :: Char.ofNat 120 :: Char.ofNat 97 :: Char.ofNat 109 :: Char.ofNat 112 :: Char.ofNat 108 :: Char.ofNat 101 :: Char.ofNat 47 :: Char.ofNat 103 :: Char.ofNat 48 :: Char.ofNat 48 :: Char.ofNat 55 :: Char.ofNat 53 :: Char.ofNat 56 :: Char.ofNat 47 :: Char.ofNat 108 :: Char.ofNat 97 :: Char.ofNat 119 :: Char.ofNat 115 :: Char.ofNat 46 :: Char.ofNat 70 :: Char.ofNat 110 :: Char.ofNat 69 :: Char.ofNat 120 :: Char.ofNat 97 :: Char.ofNat 99 :: Char.ofNat 116 :: Char.ofNat 67 :: Char.ofNat 111 :: Char.ofNat 117 :: Char.ofNat 110 :: Char.ofNat 116 :: Char.ofNat 66 :: Char.ofNat 121 :: Char.ofNat 76 :: Char.ofNat 111 :: Char.ofNat 110 :: Char.ofNat 103 :: Char.ofNat 32 :: Char.ofNat 108 :: Char.ofNat 111 :: Char.ofNat 111 :: Char.ofNat 112 :: Char.ofNat 46 :: Char.ofNat 101 :: Char.ofNat 120 :: Char.ofNat 97 :: Char.ofNat 109 :: Char.ofNat 112 :: Char.ofNat 108 :: Char.ofNat 101 :: Char.ofNat 47 :: Char.ofNat 103 :: Char.ofNat 48 :: Char.ofNat 48 :: Char.ofNat 55 :: Char.ofNat 53 :: Char.ofNat 56 :: Char.ofNat 47 :: Char.ofNat 108 :: Char.ofNat 97 :: Char.ofNat 119 :: Char.ofNat 115 :: Char.ofNat 46 :: Char.ofNat 70 :: Char.ofNat 110 :: Char.ofNat 69 :: Char.ofNat 120 :: Char.ofNat 97 :: Char.ofNat 99 :: Char.ofNat 116 :: Char.ofNat 83 :: Char.ofNat 97 :: Char.ofNat 109 :: Char.ofNat 101 :: Char.ofNat 85 :: Char.ofNat 112 :: Char.ofNat 84 :: Char.ofNat 111 :: Char.ofNat 32 :: Char.ofNat 108 :: Char.ofNat 111 :: Char.ofNat 111 :: Char.ofNat 112 :: Char.ofNat 46 :: Char.ofNat 101 :: Char.ofNat 120 :: Char.ofNat 97 :: Char.ofNat 109 :: Char.ofNat 112 :: Char.ofNat 108 :: Char.ofNat 101 :: Char.ofNat 47 :: Char.ofNat 103 :: Char.ofNat 48 :: Char.ofNat 48 :: Char.ofNat 55 :: Char.ofNat 53 :: Char.ofNat 56 :: Char.ofNat 47 :: Char.ofNat 108 :: Char.ofNat 97 :: Char.ofNat 119 :: Char.ofNat 115 :: Char.ofNat 46 :: Char.ofNat 70 :: Char.ofNat 110 :: Char.ofNat 69 :: Char.ofNat 120 :: Char.ofNat 97 :: Char.ofNat 99 :: Char.ofNat 116 :: Char.ofNat 67 :: Char.ofNat 111 :: Char.ofNat 115 :: Char.ofNat 116 :: Char.ofNat 84 :: Char.ofNat 97 :: Char.ofNat 98 :: Char.ofNat 108 :: Char.ofNat 101 :: Char.ofNat 32 :: Char.ofNat 108 :: Char.ofNat 111 :: Char.ofNat 111 :: Char.ofNat 112 :: Char.ofNat 46 :: Char.ofNat 101 :: Char.ofNat 120 :: Char.ofNat 97 :: Char.ofNat 109 :: Char.ofNat 112 :: Char.ofNat 108 :: Char.ofNat 101 :: Char.ofNat 47 :: Char.ofNat 103 :: Char.ofNat 48 :: Char.ofNat 48 :: Char.ofNat 55 :: Char.ofNat 53 :: Char.ofNat 56 :: Char.ofNat 47 :: Char.ofNat 108 :: Char.ofNat 97 :: Char.ofNat 119 :: Char.ofNat 115 :: Char.ofNat 46 :: Char.ofNat 70 :: Char.ofNat 110 :: Char.ofNat 69 :: Char.ofNat 120 :: Char.ofNat 97 :: Char.ofNat 99 :: Char.ofNat 116 :: Char.ofNat 80 :: Char.ofNat 117 :: Char.ofNat 109 :: Char.ofNat 112 :: Char.ofNat 84 :: Char.ofNat 114 :: Char.ofNat 101 :: Char.ofNat 101 :: Char.ofNat 32 :: Char.ofNat 108 :: Char.ofNat 111 :: Char.ofNat 111 :: Char.ofNat 112 :: Char.ofNat 46 :: Char.ofNat 101 :: Char.ofNat 120 :: Char.ofNat 97 :: Char.ofNat 109 :: Char.ofNat 112 :: Char.ofNat 108 :: Char.ofNat 101 :: Char.ofNat 47 :: Char.ofNat 103 :: Char.ofNat 48 :: Char.ofNat 48 :: Char.ofNat 55 :: Char.ofNat 53 :: Char.ofNat 56 :: Char.ofNat 47 :: Char.ofNat 108 :: Char.ofNat 97 :: Char.ofNat 119 :: Char.ofNat 115 :: Char.ofNat 46 :: Char.ofNat 70 :: Char.ofNat 110 :: Char.ofNat 69 :: Char.ofNat 120 :: Char.ofNat 97 :: Char.ofNat 99 :: Char.ofNat 116 :: Char.ofNat 67 :: Char.ofNat 111 :: Char.ofNat 117 :: Char.ofNat 110 :: Char.ofNat 116 :: Char.ofNat 83 :: Char.ofNat 105 :: Char.ofNat 122 :: Char.ofNat 101 :: Char.ofNat 100 :: Char.ofNat 32 :: Char.ofNat 108 :: Char.ofNat 111 :: Char.ofNat 111 :: Char.ofNat 112 :: Char.ofNat 46 :: Char.ofNat 101 :: Char.ofNat 120 :: Char.ofNat 97 :: Char.ofNat 109 :: Char.ofNat 112 :: Char.ofNat 108 :: Char.ofNat 101 :: Char.ofNat 47 :: Char.ofNat 103 :: Char.ofNat 48 :: Char.ofNat 48 :: Char.ofNat 55 :: Char.ofNat 53 :: Char.ofNat 56 :: Char.ofNat 47 :: Char.ofNat 108 :: Char.ofNat 97 :: Char.ofNat 119 :: Char.ofNat 115 :: Char.ofNat 46 :: Char.ofNat 70 :: Char.ofNat 110 :: Char.ofNat 69 :: Char.ofNat 120 :: Char.ofNat 97 :: Char.ofNat 99 :: Char.ofNat 116 :: Char.ofNat 67 :: Char.ofNat 104 :: Char.ofNat 97 :: Char.ofNat 110 :: Char.ofNat 103 :: Char.ofNat 101 :: Char.ofNat 87 :: Char.ofNat 111 :: Char.ofNat 114 :: Char.ofNat 100 :: Char.ofNat 32 :: Char.ofNat 108 :: Char.ofNat 111 :: Char.ofNat 111 :: Char.ofNat 112 :: Char.ofNat 46 :: Char.ofNat 101 :: Char.ofNat 120 :: Char.ofNat 97 :: Char.ofNat 109 :: Char.ofNat 112 :: Char.ofNat 108 :: Char.ofNat 101 :: Char.ofNat 47 :: Char.ofNat 103 :: Char.ofNat 48 :: Char.ofNat 48 :: Char.ofNat 55 :: Char.ofNat 53 :: Char.ofNat 56 :: Char.ofNat 47 :: Char.ofNat 108 :: Char.ofNat 97 :: Char.ofNat 119 :: Char.ofNat 115 :: Char.ofNat 46 :: Char.ofNat 70 :: Char.ofNat 110 :: Char.ofNat 69 :: Char.ofNat 120 :: Char.ofNat 97 :: Char.ofNat 99 :: Char.ofNat 116 :: Char.ofNat 77 :: Char.ofNat 101 :: Char.ofNat 110 :: Char.ofNat 100 :: Char.ofNat 84 :: Char.ofNat 97 :: Char.ofNat 98 :: Char.ofNat 108 :: Char.ofNat 101 :: Char.ofNat 32 :: Char.ofNat 108 :: Char.ofNat 111 :: Char.ofNat 111 :: Char.ofNat 112 :: Char.ofNat 46 :: Char.ofNat 101 :: Char.ofNat 120 :: Char.ofNat 97 :: Char.ofNat 109 :: Char.ofNat 112 :: Char.ofNat 108 :: Char.ofNat 101 :: Char.ofNat 47 :: Char.ofNat 103 :: Char.ofNat 48 :: Char.ofNat 48 :: Char.ofNat 55 :: Char.ofNat 53 :: Char.ofNat 56 :: Char.ofNat 47 :: Char.ofNat 108 :: Char.ofNat 97 :: Char.ofNat 119 :: Char.ofNat 115 :: Char.ofNat 46 :: Char.ofNat 70 :: Char.ofNat 110 :: Char.ofNat 69 :: Char.ofNat 120 :: Char.ofNat 97 :: Char.ofNat 99 :: Char.ofNat 116 :: Char.ofNat 78 :: Char.ofNat 101 :: Char.ofNat 97 :: Char.ofNat 114 :: Char.ofNat 87 :: Char.ofNat 111 :: Char.ofNat 114 :: Char.ofNat 100 :: Char.ofNat 32 :: Char.ofNat 108 :: Char.ofNat 111 :: Char.ofNat 111 :: Char.ofNat 112 :: Char.ofNat 46 :: Char.ofNat 101 :: Char.ofNat 120 :: Char.ofNat 97 :: Char.ofNat 109 :: Char.ofNat 112 :: Char.ofNat 108 :: Char.ofNat 101 :: Char.ofNat 47 :: Char.ofNat 103 :: Char.ofNat 48 :: Char.ofNat 48 :: Char.ofNat 55 :: Char.ofNat 53 :: Char.ofNat 56 :: Char.ofNat 47 :: Char.ofNat 108 :: Char.ofNat 97 :: Char.ofNat 119 :: Char.ofNat 115 :: Char.ofNat 46 :: Char.ofNat 70 :: Char.ofNat 110 :: Char.ofNat 69 :: Char.ofNat 120 :: Char.ofNat 97 :: Char.ofNat 99 :: Char.ofNat 116 :: Char.ofNat 70 :: Char.ofNat 105 :: Char.ofNat 114 :: Char.ofNat 115 :: Char.ofNat 116 :: Char.ofNat 85 :: Char.ofNat 110 :: Char.ofNat 108 :: Char.ofNat 105 :: Char.ofNat 107 :: Char.ofNat 101 :: Char.ofNat 32 :: Char.ofNat 108 :: Char.ofNat 111 :: Char.ofNat 111 :: Char.ofNat 112 :: Char.ofNat 46 :: Char.ofNat 101 :: Char.ofNat 120 :: Char.ofNat 97 :: Char.ofNat 109 :: Char.ofNat 112 :: Char.ofNat 108 :: Char.ofNat 101 :: Char.ofNat 47 :: Char.ofNat 103 :: Char.ofNat 48 :: Char.ofNat 48 :: Char.ofNat 55 :: Char.ofNat 53 :: Char.ofNat 56 :: Char.ofNat 47 :: Char.ofNat 108 :: Char.ofNat 97 :: Char.ofNat 119 :: Char.ofNat 115 :: Char.ofNat 46 :: Char.ofNat 70 :: Char.ofNat 110 :: Char.ofNat 69 :: Char.ofNat 120 :: Char.ofNat 97 :: Char.ofNat 99 :: Char.ofNat 116 :: Char.ofNat 66 :: Char.ofNat 101 :: Char.ofNat 115 :: Char.ofNat 116 :: Char.ofNat 84 :: Char.ofNat 114 :: Char.ofNat 101 :: Char.ofNat 101 :: Char.ofNat 32 :: Char.ofNat 108 :: Char.ofNat 111 :: Char.ofNat 111 :: Char.ofNat 112 :: Char.ofNat 46 :: Char.ofNat 101 :: Char.ofNat 120 :: Char.ofNat 97 :: Char.ofNat 109 :: Char.ofNat 112 :: Char.ofNat 108 :: Char.ofNat 101 :: Char.ofNat 47 :: Char.ofNat 103 :: Char.ofNat 48 :: Char.ofNat 48 :: Char.ofNat 55 :: Char.ofNat 53 :: Char.ofNat 56 :: Char.ofNat 47 :: Char.ofNat 108 :: Char.ofNat 97 :: Char.ofNat 119 :: Char.ofNat 115 :: Char.ofNat 46 :: Char.ofNat 70 :: Char.ofNat 110 :: Char.ofNat 69 :: Char.ofNat 120 :: Char.ofNat 97 :: Char.ofNat 99 :: Char.ofNat 116 :: Char.ofNat 84 :: Char.ofNat 114 :: Char.ofNat 101 :: Char.ofNat 101 :: Char.ofNat 115 :: Char.ofNat 85 :: Char.ofNat 112 :: Char.ofNat 84 :: Char.ofNat 111 :: []) := io0.trans io1
theorem io2 : Try.prog.initOrder.toList = signs := by rw [io, String.toList_ofList]; rfl
def behind : List (List Char) := [[Char.ofNat 99, Char.ofNat 117, Char.ofNat 116], [Char.ofNat 97, Char.ofNat 116], [Char.ofNat 108, Char.ofNat 111, Char.ofNat 111, Char.ofNat 112, Char.ofNat 46, Char.ofNat 101, Char.ofNat 120, Char.ofNat 97, Char.ofNat 109, Char.ofNat 112, Char.ofNat 108, Char.ofNat 101, Char.ofNat 47, Char.ofNat 103, Char.ofNat 48, Char.ofNat 48, Char.ofNat 55, Char.ofNat 53, Char.ofNat 56, Char.ofNat 47, Char.ofNat 108, Char.ofNat 97, Char.ofNat 119, Char.ofNat 115, Char.ofNat 46, Char.ofNat 70, Char.ofNat 110, Char.ofNat 69, Char.ofNat 120, Char.ofNat 97, Char.ofNat 99, Char.ofNat 116, Char.ofNat 80, Char.ofNat 117, Char.ofNat 109, Char.ofNat 112, Char.ofNat 87, Char.ofNat 111, Char.ofNat 114, Char.ofNat 100], [Char.ofNat 108, Char.ofNat 111, Char.ofNat 111, Char.ofNat 112, Char.ofNat 46, Char.ofNat 101, Char.ofNat 120, Char.ofNat 97, Char.ofNat 109, Char.ofNat 112, Char.ofNat 108, Char.ofNat 101, Char.ofNat 47, Char.ofNat 103, Char.ofNat 48, Char.ofNat 48, Char.ofNat 55, Char.ofNat 53, Char.ofNat 56, Char.ofNat 47, Char.ofNat 108, Char.ofNat 97, Char.ofNat 119, Char.ofNat 115, Char.ofNat 46, Char.ofNat 70, Char.ofNat 110, Char.ofNat 69, Char.ofNat 120, Char.ofNat 97, Char.ofNat 99, Char.ofNat 116, Char.ofNat 76, Char.ofNat 111, Char.ofNat 110, Char.ofNat 103, Char.ofNat 69, Char.ofNat 110, Char.ofNat 111, Char.ofNat 117, Char.ofNat 103, Char.ofNat 104], [Char.ofNat 108, Char.ofNat 111, Char.ofNat 111, Char.ofNat 112, Char.ofNat 46, Char.ofNat 101, Char.ofNat 120, Char.ofNat 97, Char.ofNat 109, Char.ofNat 112, Char.ofNat 108, Char.ofNat 101, Char.ofNat 47, Char.ofNat 103, Char.ofNat 48, Char.ofNat 48, Char.ofNat 55, Char.ofNat 53, Char.ofNat 56, Char.ofNat 47, Char.ofNat 108, Char.ofNat 97, Char.ofNat 119, Char.ofNat 115, Char.ofNat 46, Char.ofNat 70, Char.ofNat 110, Char.ofNat 69, Char.ofNat 120, Char.ofNat 97, Char.ofNat 99, Char.ofNat 116, Char.ofNat 83, Char.ofNat 116, Char.ofNat 97, Char.ofNat 114, Char.ofNat 79, Char.ofNat 102], [Char.ofNat 108, Char.ofNat 111, Char.ofNat 111, Char.ofNat 112, Char.ofNat 46, Char.ofNat 101, Char.ofNat 120, Char.ofNat 97, Char.ofNat 109, Char.ofNat 112, Char.ofNat 108, Char.ofNat 101, Char.ofNat 47, Char.ofNat 103, Char.ofNat 48, Char.ofNat 48, Char.ofNat 55, Char.ofNat 53, Char.ofNat 56, Char.ofNat 47, Char.ofNat 108, Char.ofNat 97, Char.ofNat 119, Char.ofNat 115, Char.ofNat 46, Char.ofNat 70, Char.ofNat 110, Char.ofNat 69, Char.ofNat 120, Char.ofNat 97, Char.ofNat 99, Char.ofNat 116, Char.ofNat 74, Char.ofNat 111, Char.ofNat 105, Char.ofNat 110, Char.ofNat 79, Char.ofNat 102], [Char.ofNat 108, Char.ofNat 111, Char.ofNat 111, Char.ofNat 112, Char.ofNat 46, Char.ofNat 101, Char.ofNat 120, Char.ofNat 97, Char.ofNat 109, Char.ofNat 112, Char.ofNat 108, Char.ofNat 101, Char.ofNat 47, Char.ofNat 103, Char.ofNat 48, Char.ofNat 48, Char.ofNat 55, Char.ofNat 53, Char.ofNat 56, Char.ofNat 47, Char.ofNat 108, Char.ofNat 97, Char.ofNat 119, Char.ofNat 115, Char.ofNat 46, Char.ofNat 70, Char.ofNat 110, Char.ofNat 69, Char.ofNat 120, Char.ofNat 97, Char.ofNat 99, Char.ofNat 116, Char.ofNat 85, Char.ofNat 110, Char.ofNat 105, Char.ofNat 111, Char.ofNat 110, Char.ofNat 79, Char.ofNat 102], [Char.ofNat 108, Char.ofNat 111, Char.ofNat 111, Char.ofNat 112, Char.ofNat 46, Char.ofNat 101, Char.ofNat 120, Char.ofNat 97, Char.ofNat 109, Char.ofNat 112, Char.ofNat 108, Char.ofNat 101, Char.ofNat 47, Char.ofNat 103, Char.ofNat 48, Char.ofNat 48, Char.ofNat 55, Char.ofNat 53, Char.ofNat 56, Char.ofNat 47, Char.ofNat 108, Char.ofNat 97, Char.ofNat 119, Char.ofNat 115, Char.ofNat 46, Char.ofNat 70, Char.ofNat 110, Char.ofNat 69, Char.ofNat 120, Char.ofNat 97, Char.ofNat 99, Char.ofNat 116, Char.ofNat 80, Char.ofNat 117, Char.ofNat 109, Char.ofNat 112, Char.ofNat 79, Char.ofNat 102], [Char.ofNat 108, Char.ofNat 111, Char.ofNat 111, Char.ofNat 112, Char.ofNat 46, Char.ofNat 101, Char.ofNat 120, Char.ofNat 97, Char.ofNat 109, Char.ofNat 112, Char.ofNat 108, Char.ofNat 101, Char.ofNat 47, Char.ofNat 103, Char.ofNat 48, Char.ofNat 48, Char.ofNat 55, Char.ofNat 53, Char.ofNat 56, Char.ofNat 47, Char.ofNat 108, Char.ofNat 97, Char.ofNat 119, Char.ofNat 115, Char.ofNat 46, Char.ofNat 70, Char.ofNat 110, Char.ofNat 69, Char.ofNat 120, Char.ofNat 97, Char.ofNat 99, Char.ofNat 116, Char.ofNat 80, Char.ofNat 97, Char.ofNat 116, Char.ofNat 104, Char.ofNat 73, Char.ofNat 110], [Char.ofNat 108, Char.ofNat 111, Char.ofNat 111, Char.ofNat 112, Char.ofNat 46, Char.ofNat 101, Char.ofNat 120, Char.ofNat 97, Char.ofNat 109, Char.ofNat 112, Char.ofNat 108, Char.ofNat 101, Char.ofNat 47, Char.ofNat 103, Char.ofNat 48, Char.ofNat 48, Char.ofNat 55, Char.ofNat 53, Char.ofNat 56, Char.ofNat 47, Char.ofNat 108, Char.ofNat 97, Char.ofNat 119, Char.ofNat 115, Char.ofNat 46, Char.ofNat 70, Char.ofNat 110, Char.ofNat 69, Char.ofNat 120, Char.ofNat 97, Char.ofNat 99, Char.ofNat 116, Char.ofNat 76, Char.ofNat 101, Char.ofNat 97, Char.ofNat 115, Char.ofNat 116, Char.ofNat 77, Char.ofNat 101, Char.ofNat 110, Char.ofNat 100], [Char.ofNat 108, Char.ofNat 111, Char.ofNat 111, Char.ofNat 112, Char.ofNat 46, Char.ofNat 101, Char.ofNat 120, Char.ofNat 97, Char.ofNat 109, Char.ofNat 112, Char.ofNat 108, Char.ofNat 101, Char.ofNat 47, Char.ofNat 103, Char.ofNat 48, Char.ofNat 48, Char.ofNat 55, Char.ofNat 53, Char.ofNat 56, Char.ofNat 47, Char.ofNat 108, Char.ofNat 97, Char.ofNat 119, Char.ofNat 115, Char.ofNat 46, Char.ofNat 70, Char.ofNat 110, Char.ofNat 69, Char.ofNat 120, Char.ofNat 97, Char.ofNat 99, Char.ofNat 116, Char.ofNat 73, Char.ofNat 115, Char.ofNat 80, Char.ofNat 117, Char.ofNat 109, Char.ofNat 112], [Char.ofNat 108, Char.ofNat 111, Char.ofNat 111, Char.ofNat 112, Char.ofNat 46, Char.ofNat 101, Char.ofNat 120, Char.ofNat 97, Char.ofNat 109, Char.ofNat 112, Char.ofNat 108, Char.ofNat 101, Char.ofNat 47, Char.ofNat 103, Char.ofNat 48, Char.ofNat 48, Char.ofNat 55, Char.ofNat 53, Char.ofNat 56, Char.ofNat 47, Char.ofNat 108, Char.ofNat 97, Char.ofNat 119, Char.ofNat 115, Char.ofNat 46, Char.ofNat 70, Char.ofNat 110, Char.ofNat 69, Char.ofNat 120, Char.ofNat 97, Char.ofNat 99, Char.ofNat 116, Char.ofNat 67, Char.ofNat 111, Char.ofNat 117, Char.ofNat 110, Char.ofNat 116, Char.ofNat 66, Char.ofNat 121, Char.ofNat 76, Char.ofNat 111, Char.ofNat 110, Char.ofNat 103], [Char.ofNat 108, Char.ofNat 111, Char.ofNat 111, Char.ofNat 112, Char.ofNat 46, Char.ofNat 101, Char.ofNat 120, Char.ofNat 97, Char.ofNat 109, Char.ofNat 112, Char.ofNat 108, Char.ofNat 101, Char.ofNat 47, Char.ofNat 103, Char.ofNat 48, Char.ofNat 48, Char.ofNat 55, Char.ofNat 53, Char.ofNat 56, Char.ofNat 47, Char.ofNat 108, Char.ofNat 97, Char.ofNat 119, Char.ofNat 115, Char.ofNat 46, Char.ofNat 70, Char.ofNat 110, Char.ofNat 69, Char.ofNat 120, Char.ofNat 97, Char.ofNat 99, Char.ofNat 116, Char.ofNat 83, Char.ofNat 97, Char.ofNat 109, Char.ofNat 101, Char.ofNat 85, Char.ofNat 112, Char.ofNat 84, Char.ofNat 111], [Char.ofNat 108, Char.ofNat 111, Char.ofNat 111, Char.ofNat 112, Char.ofNat 46, Char.ofNat 101, Char.ofNat 120, Char.ofNat 97, Char.ofNat 109, Char.ofNat 112, Char.ofNat 108, Char.ofNat 101, Char.ofNat 47, Char.ofNat 103, Char.ofNat 48, Char.ofNat 48, Char.ofNat 55, Char.ofNat 53, Char.ofNat 56, Char.ofNat 47, Char.ofNat 108, Char.ofNat 97, Char.ofNat 119, Char.ofNat 115, Char.ofNat 46, Char.ofNat 70, Char.ofNat 110, Char.ofNat 69, Char.ofNat 120, Char.ofNat 97, Char.ofNat 99, Char.ofNat 116, Char.ofNat 67, Char.ofNat 111, Char.ofNat 115, Char.ofNat 116, Char.ofNat 84, Char.ofNat 97, Char.ofNat 98, Char.ofNat 108, Char.ofNat 101], [Char.ofNat 108, Char.ofNat 111, Char.ofNat 111, Char.ofNat 112, Char.ofNat 46, Char.ofNat 101, Char.ofNat 120, Char.ofNat 97, Char.ofNat 109, Char.ofNat 112, Char.ofNat 108, Char.ofNat 101, Char.ofNat 47, Char.ofNat 103, Char.ofNat 48, Char.ofNat 48, Char.ofNat 55, Char.ofNat 53, Char.ofNat 56, Char.ofNat 47, Char.ofNat 108, Char.ofNat 97, Char.ofNat 119, Char.ofNat 115, Char.ofNat 46, Char.ofNat 70, Char.ofNat 110, Char.ofNat 69, Char.ofNat 120, Char.ofNat 97, Char.ofNat 99, Char.ofNat 116, Char.ofNat 80, Char.ofNat 117, Char.ofNat 109, Char.ofNat 112, Char.ofNat 84, Char.ofNat 114, Char.ofNat 101, Char.ofNat 101], [Char.ofNat 108, Char.ofNat 111, Char.ofNat 111, Char.ofNat 112, Char.ofNat 46, Char.ofNat 101, Char.ofNat 120, Char.ofNat 97, Char.ofNat 109, Char.ofNat 112, Char.ofNat 108, Char.ofNat 101, Char.ofNat 47, Char.ofNat 103, Char.ofNat 48, Char.ofNat 48, Char.ofNat 55, Char.ofNat 53, Char.ofNat 56, Char.ofNat 47, Char.ofNat 108, Char.ofNat 97, Char.ofNat 119, Char.ofNat 115, Char.ofNat 46, Char.ofNat 70, Char.ofNat 110, Char.ofNat 69, Char.ofNat 120, Char.ofNat 97, Char.ofNat 99, Char.ofNat 116, Char.ofNat 67, Char.ofNat 111, Char.ofNat 117, Char.ofNat 110, Char.ofNat 116, Char.ofNat 83, Char.ofNat 105, Char.ofNat 122, Char.ofNat 101, Char.ofNat 100], [Char.ofNat 108, Char.ofNat 111, Char.ofNat 111, Char.ofNat 112, Char.ofNat 46, Char.ofNat 101, Char.ofNat 120, Char.ofNat 97, Char.ofNat 109, Char.ofNat 112, Char.ofNat 108, Char.ofNat 101, Char.ofNat 47, Char.ofNat 103, Char.ofNat 48, Char.ofNat 48, Char.ofNat 55, Char.ofNat 53, Char.ofNat 56, Char.ofNat 47, Char.ofNat 108, Char.ofNat 97, Char.ofNat 119, Char.ofNat 115, Char.ofNat 46, Char.ofNat 70, Char.ofNat 110, Char.ofNat 69, Char.ofNat 120, Char.ofNat 97, Char.ofNat 99, Char.ofNat 116, Char.ofNat 67, Char.ofNat 104, Char.ofNat 97, Char.ofNat 110, Char.ofNat 103, Char.ofNat 101, Char.ofNat 87, Char.ofNat 111, Char.ofNat 114, Char.ofNat 100], [Char.ofNat 108, Char.ofNat 111, Char.ofNat 111, Char.ofNat 112, Char.ofNat 46, Char.ofNat 101, Char.ofNat 120, Char.ofNat 97, Char.ofNat 109, Char.ofNat 112, Char.ofNat 108, Char.ofNat 101, Char.ofNat 47, Char.ofNat 103, Char.ofNat 48, Char.ofNat 48, Char.ofNat 55, Char.ofNat 53, Char.ofNat 56, Char.ofNat 47, Char.ofNat 108, Char.ofNat 97, Char.ofNat 119, Char.ofNat 115, Char.ofNat 46, Char.ofNat 70, Char.ofNat 110, Char.ofNat 69, Char.ofNat 120, Char.ofNat 97, Char.ofNat 99, Char.ofNat 116, Char.ofNat 77, Char.ofNat 101, Char.ofNat 110, Char.ofNat 100, Char.ofNat 84, Char.ofNat 97, Char.ofNat 98, Char.ofNat 108, Char.ofNat 101], [Char.ofNat 108, Char.ofNat 111, Char.ofNat 111, Char.ofNat 112, Char.ofNat 46, Char.ofNat 101, Char.ofNat 120, Char.ofNat 97, Char.ofNat 109, Char.ofNat 112, Char.ofNat 108, Char.ofNat 101, Char.ofNat 47, Char.ofNat 103, Char.ofNat 48, Char.ofNat 48, Char.ofNat 55, Char.ofNat 53, Char.ofNat 56, Char.ofNat 47, Char.ofNat 108, Char.ofNat 97, Char.ofNat 119, Char.ofNat 115, Char.ofNat 46, Char.ofNat 70, Char.ofNat 110, Char.ofNat 69, Char.ofNat 120, Char.ofNat 97, Char.ofNat 99, Char.ofNat 116, Char.ofNat 78, Char.ofNat 101, Char.ofNat 97, Char.ofNat 114, Char.ofNat 87, Char.ofNat 111, Char.ofNat 114, Char.ofNat 100], [Char.ofNat 108, Char.ofNat 111, Char.ofNat 111, Char.ofNat 112, Char.ofNat 46, Char.ofNat 101, Char.ofNat 120, Char.ofNat 97, Char.ofNat 109, Char.ofNat 112, Char.ofNat 108, Char.ofNat 101, Char.ofNat 47, Char.ofNat 103, Char.ofNat 48, Char.ofNat 48, Char.ofNat 55, Char.ofNat 53, Char.ofNat 56, Char.ofNat 47, Char.ofNat 108, Char.ofNat 97, Char.ofNat 119, Char.ofNat 115, Char.ofNat 46, Char.ofNat 70, Char.ofNat 110, Char.ofNat 69, Char.ofNat 120, Char.ofNat 97, Char.ofNat 99, Char.ofNat 116, Char.ofNat 70, Char.ofNat 105, Char.ofNat 114, Char.ofNat 115, Char.ofNat 116, Char.ofNat 85, Char.ofNat 110, Char.ofNat 108, Char.ofNat 105, Char.ofNat 107, Char.ofNat 101], [Char.ofNat 108, Char.ofNat 111, Char.ofNat 111, Char.ofNat 112, Char.ofNat 46, Char.ofNat 101, Char.ofNat 120, Char.ofNat 97, Char.ofNat 109, Char.ofNat 112, Char.ofNat 108, Char.ofNat 101, Char.ofNat 47, Char.ofNat 103, Char.ofNat 48, Char.ofNat 48, Char.ofNat 55, Char.ofNat 53, Char.ofNat 56, Char.ofNat 47, Char.ofNat 108, Char.ofNat 97, Char.ofNat 119, Char.ofNat 115, Char.ofNat 46, Char.ofNat 70, Char.ofNat 110, Char.ofNat 69, Char.ofNat 120, Char.ofNat 97, Char.ofNat 99, Char.ofNat 116, Char.ofNat 66, Char.ofNat 101, Char.ofNat 115, Char.ofNat 116, Char.ofNat 84, Char.ofNat 114, Char.ofNat 101, Char.ofNat 101], [Char.ofNat 108, Char.ofNat 111, Char.ofNat 111, Char.ofNat 112, Char.ofNat 46, Char.ofNat 101, Char.ofNat 120, Char.ofNat 97, Char.ofNat 109, Char.ofNat 112, Char.ofNat 108, Char.ofNat 101, Char.ofNat 47, Char.ofNat 103, Char.ofNat 48, Char.ofNat 48, Char.ofNat 55, Char.ofNat 53, Char.ofNat 56, Char.ofNat 47, Char.ofNat 108, Char.ofNat 97, Char.ofNat 119, Char.ofNat 115, Char.ofNat 46, Char.ofNat 70, Char.ofNat 110, Char.ofNat 69, Char.ofNat 120, Char.ofNat 97, Char.ofNat 99, Char.ofNat 116, Char.ofNat 84, Char.ofNat 114, Char.ofNat 101, Char.ofNat 101, Char.ofNat 115, Char.ofNat 85, Char.ofNat 112, Char.ofNat 84, Char.ofNat 111]]
theorem io4 : behindMainWord (wordsSigns signs) = behind := by kernel_rfl
theorem io3 : behindMainWord (wordsSigns Try.prog.initOrder.toList) = behind := by rw [io2, io4]
theorem may : Try.prog.mayEnter = true := may_of (l := []) io3 (by rfl) (by kernel_rfl) (by kernel_rfl) (by kernel_rfl) (by kernel_rfl) rfl (by kernel_rfl)
theorem fin : Try.prog.liftsFinal = false := lifts_of io3 (by kernel_rfl) (by kernel_rfl)
theorem mk : Try.prog.make = some .cut := make_of io3 (by rfl) (by kernel_rfl) (by kernel_rfl)
theorem own : ownKnob Try.prog.godebug = none := by kernel_rfl
theorem laidOut : laidOutB Try.prog = true := by kernel_rfl
theorem rowed : mapsRowed Try.prog = true := by kernel_rfl
def lightFacts (P : Program) (f : FuncId) (fn : Func) (s : ChangeSpec) (c : OpenClaim) : Bool :=
  c.wf (OpenSpec.ofChange s) && fn.params.all (P.readableRec ·) && namedTie P c.named s.vars && (c.stops == []) && (P.stops == []) && (c.knobs == []) && (P.stopKnobs == []) && (c.inPlace == P.inPlace f) && (c.unfollowed == P.unfollowed f) && (c.recurses == P.recurses f) && (c.named == P.varsNamed f) && (c.maps == (fn.params.toList ++ s.plain.varTypes P).any (P.mapsRec ·)) && (c.ifaces == (fn.params.toList ++ s.plain.varTypes P).any (P.ifacesRec ·)) && (c.mapsOut == P.mapsAmong fn.resultTypes.toList) && (c.loops == (fn.params.toList ++ s.plain.varTypes P).any (P.loopsFrom ·)) && (c.wideKeys == (fn.params.toList ++ s.plain.varTypes P ++ fn.resultTypes.toList).any (P.wideKeysFrom ·)) && s.vars.all (P.varReadable ·) && fn.resultTypes.all (fun t => P.readableRec t && decide (t < P.types.size)) && (c.ifacesOut == fn.resultTypes.toList.any (P.ifacesRec ·)) && (c.loopsOut == fn.resultTypes.toList.any (P.loopsFrom ·)) && (c.plainKeys == P.plainKeys) && c.shortTexts.isNone && P.stopsHeard && (c.kinds == (if c.domain.isEmpty then [] else fn.params.toList.map fun t => match P.underlying t with | some (.int k) => some k | _ => none)) && (c.pinned == c.pinnedBy) && (c.veiled == (fn.params.toList ++ s.plain.varTypes P ++ fn.resultTypes.toList).any (P.veiledRec ·)) && c.veiledFits P fn.params.toList (fn.params.toList ++ s.plain.varTypes P ++ fn.resultTypes.toList)
theorem facts_of {f : FuncId} {fn : Func} {s : ChangeSpec} {c : OpenClaim} (hl : c.lifted = false) (hm : c.make = .cut) (h : lightFacts Try.prog f fn s c = true) : joinedFacts Try.prog f fn s c = true := by
  unfold lightFacts at h
  unfold joinedFacts
  simp only [Bool.and_eq_true] at h ⊢
  obtain ⟨⟨⟨⟨⟨⟨⟨⟨⟨⟨⟨⟨⟨⟨⟨⟨⟨⟨⟨⟨⟨⟨⟨⟨⟨⟨k0, k3⟩, k4⟩, k5⟩, k6⟩, k7⟩, k8⟩, k9⟩, k10⟩, k11⟩, k12⟩, k13⟩, k14⟩, k15⟩, k16⟩, k17⟩, k18⟩, k19⟩, k20⟩, k21⟩, k22⟩, k23⟩, k24⟩, k28⟩, k29⟩, k30⟩, k31⟩ := h
  exact ⟨⟨⟨⟨⟨⟨⟨⟨⟨⟨⟨⟨⟨⟨⟨⟨⟨⟨⟨⟨⟨⟨⟨⟨⟨⟨⟨⟨⟨⟨⟨k0, laidOut⟩, rowed⟩, k3⟩, k4⟩, k5⟩, k6⟩, k7⟩, k8⟩, k9⟩, k10⟩, k11⟩, k12⟩, k13⟩, k14⟩, k15⟩, k16⟩, k17⟩, k18⟩, k19⟩, k20⟩, k21⟩, k22⟩, k23⟩, k24⟩, may⟩, (by rw [hl, fin]; rfl)⟩, (by rw [hm, mk]; rfl)⟩, k28⟩, k29⟩, k30⟩, k31⟩
end Go.Proofs.Ytiohaeckagjebaa
