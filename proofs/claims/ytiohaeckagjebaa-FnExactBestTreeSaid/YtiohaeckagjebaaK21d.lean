/- Texts of this repository put together: ShO3, ShX3, ShO1, ShX2, Bk, ShX4, ShX6, ShX7, ShX8, ShX9, ShX5, ShXA, ShXB, ShN3, ShO4, ShO5, ShN4, ShO6, ShOL, ShR, ShRG. -/
import Derived.Test.YtiohaeckagjebaaK21c
import Derived.Test.YtiohaeckagjebaaK21b
import Derived.WideKeyArr
import Derived.WideMake
import Derived.Test.YtiohaeckagjebaaProg
import Derived.Test.YtiohaeckagjebaaK21a
import Derived.WalkKit
import Derived.ProofKit
import Derived.OpenShut
import Derived.ShutString
import Derived.ChangeOld
import Derived.Below
import Derived.SizedLaws
import Derived.Deep.Slices
import Derived.Deep.SlicePairs
import Derived.Deep.Strs

/- Contracts: the least tree with the least cost, the least row of trees (the reference). -/
set_option linter.unusedVariables false
set_option linter.unusedSimpArgs false
set_option maxRecDepth 100000
namespace Go.Sh
open Go
/-- What the reference's functions read. -/
structure EnvB (gm : Gram) (cs ws : List Int) (T : CT) (nons : Nat) (w : World) (v : Value) (U Q X : Option Addr) : Prop where
  gv : GramV (fun _ => True) w v gm
  hQ : Ints w Q cs
  hX : Ints w X ws
  hT : TabE enc0 w U nons (ws.length + 1) T
theorem EnvB.gr {gm : Gram} {cs ws : List Int} {T : CT} {nons : Nat} {w w' : World} {v : Value} {U Q X : Option Addr} (h : EnvB gm cs ws T nons w v U Q X) (g : Gr w w') : EnvB gm cs ws T nons w' v U Q X := ⟨h.gv.gr g, h.hQ.gr g, h.hX.gr g, h.hT.gr g⟩
end Go.Sh
namespace Go.Proofs.Ytiohaeckagjebaa
open Go Go.Sh Go.RowKit
set_option maxHeartbeats 3200000 in
theorem l12Row_of {gm : Gram} {cs ws : List Int} {T : CT} {nons : Nat} (hg : goodG gm = true) (hcs : CostsOk gm cs) (hl : ws.length ≤ 10) (hw : ∀ t ∈ ws, 0 ≤ t ∧ t ≤ 100) (hnn : gm.nons = (nons : Nat)) (hF : FineC T) {N : Nat}
    (hTree : ∀ {w : World} {v : Value} {U Q X : Option Addr} {cu cq cx A i j n : Nat} {k : Value → World → Prop}, EnvB gm cs ws T nons w v U Q X → T A i j = some n → n ≤ N → A < nons → i ≤ j → j ≤ ws.length → (∀ w' Y d, Gr w w' → Own 3 w' w.heap.size Y d (bestTr gm.rules ws cs T bigF A i j) → k (.slice Y (bestTr gm.rules ws cs T bigF A i j).length d) w') →
      CallK Try.prog 125 [v, .slice Q cs.length cq, .slice X ws.length cx, .slice U nons cu, .int .i64 A, .int .i64 i, .int .i64 j] k w) :
    ∀ (xs : List Int) {w : World} {v : Value} {U Q X R : Option Addr} {cu cq cx cr i j z : Nat} {k : Value → World → Prop}, EnvB gm cs ws T nons w v U Q X → Ints w R xs → xs.length ≤ cr → xs.length ≤ 4 → (∀ x ∈ xs, -100 ≤ x ∧ x < nons) → i ≤ j → j ≤ ws.length → restG (tokC ws) nl0 T xs i j = some z → z ≤ N → (∀ w' Y d, Gr w w' → Own 3 w' w.heap.size Y d (bestRow (bestTr gm.rules ws cs T bigF) ws T xs i j) → k (.slice Y (bestRow (bestTr gm.rules ws cs T bigF) ws T xs i j).length d) w') →
      CallK Try.prog 166 [v, .slice Q cs.length cq, .slice X ws.length cx, .slice U nons cu, .slice R xs.length cr, .int .i64 i, .int .i64 j] k w := by
  have hp0 : ∀ q, q < gm.rules.length → 0 < costQ cs q := fun q hq => (hcs.at hq).2.1
  have hn6 := good_nons hg
  intro xs
  induction xs with
  | nil =>
    intro w v U Q X R cu cq cx cr i j z k hE hR hcr h4 hx hij hj hz hzN hk
    obtain ⟨Y, cy, rfl, hc, hy⟩ := hE.gv
    refine enter166 ?_
    unfold S166
    have H := Apt.nil w
    refine boxH H fun b1 w1 H => ?_
    simp only [List.length_nil, show (((0 : Nat) : Int) = 0) from rfl, decide_true, go_sem, Nat.reduceEqDiff]
    exact hk _ none 0 H.gr (Row.nil _ _ _ _)
  | cons x xs ih =>
    intro w v U Q X R cu cq cx cr i j z k hE hR hcr h4 hx hij hj hz hzN hk
    obtain ⟨Y, cy, rfl, hc, hy⟩ := hE.gv
    refine enter166 ?_
    unfold S166
    have hxx := hx x (List.mem_cons_self ..)
    have hx' : ∀ y ∈ xs, -100 ≤ y ∧ y < nons := fun y hy => hx y (List.mem_cons_of_mem _ hy)
    have H := Apt.nil w
    refine boxH H fun b1 w1 H => ?_
    have hcr' := hcr
    have h4' := h4
    rw [List.length_cons] at hcr h4
    have hsub := hR.sub (l := 1) (c := cr) (by simp) (by simp; omega) xs.length
    rw [List.drop_one, List.tail_cons, List.take_length] at hsub
    simp only [show ¬ (((x :: xs).length : Int) = 0) from by rw [List.length_cons]; omega, decide_false, bin_add, bin_sub, bin_mul, bin_eql, bin_neq, bin_lss, bin_leq, bin_gtr, bin_geq, un_not, un_neg, pick_true, pick_false, extract_two_0, extract_two_1, nilCheck_pointer, cond_true', cond_false', guard_tt, guard_ff, guard_tf, guard_ft, guard_undef, seqQ_normal, seqQ_ret, seqQ_exit, blockQ_ret, blockQ_normal, blockQ_exit, bodyQ_ret, bodyQ_normal, resK_nil, resK_tmp, ite_T, ite_F, upd_at, add_plain, add_zero', len22, len35, len48, fa37_0, fa37_1, fa37_2, fa77_0, fa77_1, fa103_0, fa103_1, fa125_0, fa125_1, fa125_2, fa125_3, fa125_4, Nat.reduceEqDiff]
    refine rdi (ix22_0 hR.ptr (by simp)) (rdi (ld3 ((hR.gr H.gr).cell 0 (by simp))) ?_)
    simp only [List.getD_cons_zero, bin_add, bin_sub, bin_mul, bin_eql, bin_neq, bin_lss, bin_leq, bin_gtr, bin_geq, un_not, un_neg, pick_true, pick_false, extract_two_0, extract_two_1, nilCheck_pointer, cond_true', cond_false', guard_tt, guard_ff, guard_tf, guard_ft, guard_undef, seqQ_normal, seqQ_ret, seqQ_exit, blockQ_ret, blockQ_normal, blockQ_exit, bodyQ_ret, bodyQ_normal, resK_nil, resK_tmp, ite_T, ite_F, upd_at, add_plain, add_zero', len22, len35, len48, fa37_0, fa37_1, fa37_2, fa77_0, fa77_1, fa103_0, fa103_1, fa125_0, fa125_1, fa125_2, fa125_3, fa125_4, Nat.reduceEqDiff]
    by_cases hx0 : x < 0
    · simp only [hx0, decide_true, bin_add, bin_sub, bin_mul, bin_eql, bin_neq, bin_lss, bin_leq, bin_gtr, bin_geq, un_not, un_neg, pick_true, pick_false, extract_two_0, extract_two_1, nilCheck_pointer, cond_true', cond_false', guard_tt, guard_ff, guard_tf, guard_ft, guard_undef, seqQ_normal, seqQ_ret, seqQ_exit, blockQ_ret, blockQ_normal, blockQ_exit, bodyQ_ret, bodyQ_normal, resK_nil, resK_tmp, ite_T, ite_F, upd_at, add_plain, add_zero', len22, len35, len48, fa37_0, fa37_1, fa37_2, fa77_0, fa77_1, fa103_0, fa103_1, fa125_0, fa125_1, fa125_2, fa125_3, fa125_4, Nat.reduceEqDiff]
      rw [rest_tok hx0] at hz
      split at hz
      · rename_i htk
        have H := H.drew
        rw [ldB_agg agg37 sz37 rfl (H.box 0 rfl)]
        refine rdi (sll22 (by omega) (by rw [List.length_cons]; omega)) ?_
        rw [i64_of (by omega) (by omega)]
        refine ih (i := i + 1) (hE.gr H.gr) (hsub.gr H.gr) (by show xs.length ≤ cr - 1; omega) (by omega) hx' (by omega) hj hz hzN fun w2 Y2 d2 g2 o2 => ?_
        have hb : bestRow (bestTr gm.rules ws cs T bigF) ws T (x :: xs) i j = bestRow (bestTr gm.rules ws cs T bigF) ws T xs (i + 1) j := by rw [bestRow, if_pos hx0]
        rw [← hb] at o2 ⊢
        exact hk _ _ _ (gr_trans H.gr g2) (Row.mono o2 H.gr.size)
      · cases hz
    simp only [hx0, decide_false, bin_add, bin_sub, bin_mul, bin_eql, bin_neq, bin_lss, bin_leq, bin_gtr, bin_geq, un_not, un_neg, pick_true, pick_false, extract_two_0, extract_two_1, nilCheck_pointer, cond_true', cond_false', guard_tt, guard_ff, guard_tf, guard_ft, guard_undef, seqQ_normal, seqQ_ret, seqQ_exit, blockQ_ret, blockQ_normal, blockQ_exit, bodyQ_ret, bodyQ_normal, resK_nil, resK_tmp, ite_T, ite_F, upd_at, add_plain, add_zero', len22, len35, len48, fa37_0, fa37_1, fa37_2, fa77_0, fa77_1, fa103_0, fa103_1, fa125_0, fa125_1, fa125_2, fa125_3, fa125_4, Nat.reduceEqDiff]
    obtain ⟨A, rfl⟩ : ∃ A : Nat, x = A := ⟨x.toNat, by omega⟩
    refine l10Best_c hl hw (by omega) ((A : Int) :: xs) (hE.hT.gr H.gr) hF.1 hF.2 (hE.hX.gr H.gr) (hR.gr H.gr) hcr' h4' hx hij hj ?_
    rw [hz, encM_s]
    obtain ⟨TM, hTM⟩ : ∃ TM, TM = termB (bestTr gm.rules ws cs T bigF) T (fun m => restG (tokC ws) nl0 T xs m j) (fun m => bestRow (bestTr gm.rules ws cs T bigF) ws T xs m j) (restG (tokC ws) nl0 T ((A : Int) :: xs) i j) A i := ⟨_, rfl⟩
    have hval : bestRow (bestTr gm.rules ws cs T bigF) ws T ((A : Int) :: xs) i j = (minL TM (j + 1 - i)).getD [] := by
      rw [bestRow, if_neg hx0, hTM, Int.toNat_natCast]
    rw [hval] at hk
    have hTM' : ∀ m, TM m = if (addO (T A i (i + m)) (restG (tokC ws) nl0 T xs (i + m) j)).isSome = true ∧ addO (T A i (i + m)) (restG (tokC ws) nl0 T xs (i + m) j) = some z then some (bestTr gm.rules ws cs T bigF A i (i + m) ++ bestRow (bestTr gm.rules ws cs T bigF) ws T xs (i + m) j) else none := fun m => by
      rw [hTM]
      unfold termB
      rw [hz]
    clear hTM hval
    have H := H.addOwn (Gr.refl w1) (show Own 3 w1 w1.heap.size none 0 [] from Row.nil _ _ _ _)
    simp only [List.nil_append, List.cons_append] at H
    refine loop_to (j + 1 - i) 0 (fun m f w' => m ≤ j + 1 - i ∧ f 18 = .int .i64 ((i + m : Nat) : Int) ∧ f 17 = .bool (minL TM m).isSome ∧ ∃ Y' d, f 16 = .slice Y' ((minL TM m).getD []).length d ∧ Apt w w' [bx b1 [.int .i64 gm.nons, .int .i64 gm.toks, .slice Y gm.rules.length cy] 37, ows Y' d ((minL TM m).getD [])])
      ⟨Nat.zero_le _, rfl, rfl, none, 0, rfl, H⟩ ?_
    clear H
    rintro m f w2 NN hag ⟨hm, h18, h17, Y', d, h16, H⟩ hN
    have f1 : f 1 = .slice Q cs.length cq := hag 1 (by decide)
    have f2 : f 2 = .slice X ws.length cx := hag 2 (by decide)
    have f3 : f 3 = .slice U nons cu := hag 3 (by decide)
    have f4 : f 4 = .slice R ((A : Int) :: xs).length cr := hag 4 (by decide)
    have f5 : f 5 = .int .i64 i := hag 5 (by decide)
    have f6 : f 6 = .int .i64 j := hag 6 (by decide)
    have f7 : f 7 = ptrv b1 := hag 7 (by decide)
    have f15 : f 15 = .int .i64 (z : Int) := hag 15 (by decide)
    simp only [f1, f2, f3, f4, f5, f6, f7, f15, h18, h17, bin_add, bin_sub, bin_mul, bin_eql, bin_neq, bin_lss, bin_leq, bin_gtr, bin_geq, un_not, un_neg, pick_true, pick_false, extract_two_0, extract_two_1, nilCheck_pointer, cond_true', cond_false', guard_tt, guard_ff, guard_tf, guard_ft, guard_undef, seqQ_normal, seqQ_ret, seqQ_exit, blockQ_ret, blockQ_normal, blockQ_exit, bodyQ_ret, bodyQ_normal, resK_nil, resK_tmp, ite_T, ite_F, upd_at, add_plain, add_zero', len22, len35, len48, fa37_0, fa37_1, fa37_2, fa77_0, fa77_1, fa103_0, fa103_1, fa125_0, fa125_1, fa125_2, fa125_3, fa125_4, Nat.reduceEqDiff]
    by_cases hle : i + m ≤ j
    case neg =>
      simp only [show ¬ (((i + m : Nat) : Int) ≤ j) from by omega, decide_false, bin_add, bin_sub, bin_mul, bin_eql, bin_neq, bin_lss, bin_leq, bin_gtr, bin_geq, un_not, un_neg, pick_true, pick_false, extract_two_0, extract_two_1, nilCheck_pointer, cond_true', cond_false', guard_tt, guard_ff, guard_tf, guard_ft, guard_undef, seqQ_normal, seqQ_ret, seqQ_exit, blockQ_ret, blockQ_normal, blockQ_exit, bodyQ_ret, bodyQ_normal, resK_nil, resK_tmp, ite_T, ite_F, upd_at, add_plain, add_zero', len22, len35, len48, fa37_0, fa37_1, fa37_2, fa77_0, fa77_1, fa103_0, fa103_1, fa125_0, fa125_1, fa125_2, fa125_3, fa125_4, Nat.reduceEqDiff]
      obtain rfl : m = j + 1 - i := by omega
      rw [h16]
      exact hk _ Y' d H.gr (H.own 1 rfl)
    simp only [show (((i + m : Nat) : Int) ≤ j) from by omega, decide_true, bin_add, bin_sub, bin_mul, bin_eql, bin_neq, bin_lss, bin_leq, bin_gtr, bin_geq, un_not, un_neg, pick_true, pick_false, extract_two_0, extract_two_1, nilCheck_pointer, cond_true', cond_false', guard_tt, guard_ff, guard_tf, guard_ft, guard_undef, seqQ_normal, seqQ_ret, seqQ_exit, blockQ_ret, blockQ_normal, blockQ_exit, bodyQ_ret, bodyQ_normal, resK_nil, resK_tmp, ite_T, ite_F, upd_at, add_plain, add_zero', len22, len35, len48, fa37_0, fa37_1, fa37_2, fa77_0, fa77_1, fa103_0, fa103_1, fa125_0, fa125_1, fa125_2, fa125_3, fa125_4, Nat.reduceEqDiff]
    refine join_as (fun g w' => g 18 = .int .i64 ((i + m : Nat) : Int) ∧ g 17 = .bool (minL TM (m + 1)).isSome ∧ ∃ Y' d, g 16 = .slice Y' ((minL TM (m + 1)).getD []).length d ∧ Apt w w' [bx b1 [.int .i64 gm.nons, .int .i64 gm.toks, .slice Y gm.rules.length cy] 37, ows Y' d ((minL TM (m + 1)).getD [])]) (fun K hK => ?_) ?_
    case refine_2 =>
      rintro g w' ⟨g18, g17, Y', d, g16, H⟩
      simp only [g18, go_sem, Nat.reduceEqDiff]
      rw [i64_of (by omega) (by omega)]
      exact hN _ _ (by omega) ⟨by omega, by show Value.int .i64 (((i + m : Nat) : Int) + 1) = _; congr 1, g17, Y', d, g16, H⟩
    have E2 := hE.gr H.gr
    obtain ⟨R', c', h1, h2, h3⟩ := E2.hT.row A (by omega)
    have hab := place_lt (n := ws.length + 1) (show i < ws.length + 1 by omega) (show i + m < ws.length + 1 by omega)
    have hnn' : (ws.length + 1) * (ws.length + 1) ≤ 11 * 11 := Nat.mul_le_mul (by omega) (by omega)
    refine rdi (ix22_0 hR.ptr (by simp)) (rdi (ld3 ((hR.gr H.gr).cell 0 (by simp))) ?_)
    simp only [List.getD_cons_zero]
    refine rdi (ixn48 (fun h => E2.hT.ptr h) (by omega)) (rdi (ld22 h1) ?_)
    simp only [bin_add, bin_sub, bin_mul, bin_eql, bin_neq, bin_lss, bin_leq, bin_gtr, bin_geq, un_not, un_neg, pick_true, pick_false, extract_two_0, extract_two_1, nilCheck_pointer, cond_true', cond_false', guard_tt, guard_ff, guard_tf, guard_ft, guard_undef, seqQ_normal, seqQ_ret, seqQ_exit, blockQ_ret, blockQ_normal, blockQ_exit, bodyQ_ret, bodyQ_normal, resK_nil, resK_tmp, ite_T, ite_F, upd_at, add_plain, add_zero', len22, len35, len48, fa37_0, fa37_1, fa37_2, fa77_0, fa77_1, fa103_0, fa103_1, fa125_0, fa125_1, fa125_2, fa125_3, fa125_4, Nat.reduceEqDiff]
    rw [i64_of (n := (ws.length : Int) + 1) (by omega) (by omega), show (i : Int) * ((ws.length : Int) + 1) = ((i * (ws.length + 1) : Nat) : Int) from by push_cast; rfl, i64_of (n := ((i * (ws.length + 1) : Nat) : Int)) (by omega) (by omega), i64_of (n := ((i * (ws.length + 1) : Nat) : Int) + ((i + m : Nat) : Int)) (by omega) (by omega)]
    rw [show (((i * (ws.length + 1) : Nat) : Int) + ((i + m : Nat) : Int)) = ((i * (ws.length + 1) + (i + m) : Nat) : Int) from by push_cast; rfl]
    refine rdi (ixn22 (fun _ => h2) hab) (rdi (ld3 (h3 i (i + m) (by omega) (by omega))) ?_)
    refine rdi (sll22 (by decide) (by rw [List.length_cons]; omega)) ?_
    rw [show (1 : Int).toNat = 1 from rfl, List.length_cons, Nat.add_sub_cancel]
    refine l10Best_c hl hw (by omega) xs E2.hT hF.1 hF.2 E2.hX (hsub.gr H.gr) (by omega) (by omega) hx' hle hj ?_
    have skip : TM m = none → ∀ (f' : Sh.F), f' 18 = .int .i64 ((i + m : Nat) : Int) → f' 17 = .bool (minL TM m).isSome → f' 16 = .slice Y' ((minL TM m).getD []).length d → K f' w2 := fun hn f' q18 q17 q16 => hK _ _ ⟨q18, by rw [minL_none hn]; exact q17, Y', d, by rw [minL_none hn]; exact q16, by rw [minL_none hn]; exact H⟩
    cases ha : T A i (i + m) with
    | none =>
      simp only [enc0_n, decide_true, bin_add, bin_sub, bin_mul, bin_eql, bin_neq, bin_lss, bin_leq, bin_gtr, bin_geq, un_not, un_neg, pick_true, pick_false, extract_two_0, extract_two_1, nilCheck_pointer, cond_true', cond_false', guard_tt, guard_ff, guard_tf, guard_ft, guard_undef, seqQ_normal, seqQ_ret, seqQ_exit, blockQ_ret, blockQ_normal, blockQ_exit, bodyQ_ret, bodyQ_normal, resK_nil, resK_tmp, ite_T, ite_F, upd_at, add_plain, add_zero', len22, len35, len48, fa37_0, fa37_1, fa37_2, fa77_0, fa77_1, fa103_0, fa103_1, fa125_0, fa125_1, fa125_2, fa125_3, fa125_4, Nat.reduceEqDiff]
      exact skip (by rw [hTM', ha]; rfl) _ h18 h17 h16
    | some a =>
      have hpos := hF.2 _ _ _ _ ha
      have hale := hF.1.le (by omega) (by omega) ha
      simp only [enc0_s, show ¬ ((a : Int) = 0) from by omega, decide_false, bin_add, bin_sub, bin_mul, bin_eql, bin_neq, bin_lss, bin_leq, bin_gtr, bin_geq, un_not, un_neg, pick_true, pick_false, extract_two_0, extract_two_1, nilCheck_pointer, cond_true', cond_false', guard_tt, guard_ff, guard_tf, guard_ft, guard_undef, seqQ_normal, seqQ_ret, seqQ_exit, blockQ_ret, blockQ_normal, blockQ_exit, bodyQ_ret, bodyQ_normal, resK_nil, resK_tmp, ite_T, ite_F, upd_at, add_plain, add_zero', len22, len35, len48, fa37_0, fa37_1, fa37_2, fa77_0, fa77_1, fa103_0, fa103_1, fa125_0, fa125_1, fa125_2, fa125_3, fa125_4, Nat.reduceEqDiff]
      cases hb : restG (tokC ws) nl0 T xs (i + m) j with
      | none =>
        simp only [encM_n, show ((-1 : Int) < 0) from by omega, decide_true, bin_add, bin_sub, bin_mul, bin_eql, bin_neq, bin_lss, bin_leq, bin_gtr, bin_geq, un_not, un_neg, pick_true, pick_false, extract_two_0, extract_two_1, nilCheck_pointer, cond_true', cond_false', guard_tt, guard_ff, guard_tf, guard_ft, guard_undef, seqQ_normal, seqQ_ret, seqQ_exit, blockQ_ret, blockQ_normal, blockQ_exit, bodyQ_ret, bodyQ_normal, resK_nil, resK_tmp, ite_T, ite_F, upd_at, add_plain, add_zero', len22, len35, len48, fa37_0, fa37_1, fa37_2, fa77_0, fa77_1, fa103_0, fa103_1, fa125_0, fa125_1, fa125_2, fa125_3, fa125_4, Nat.reduceEqDiff]
        exact skip (by rw [hTM', ha, hb]; rfl) _ h18 h17 h16
      | some b =>
        have hble := rest_small hF.1 (tokC_small ws) nl0_small (xs := xs) (by omega) hle (by omega) hb
        simp only [encM_s, show ¬ ((b : Int) < 0) from by omega, decide_false, bin_add, bin_sub, bin_mul, bin_eql, bin_neq, bin_lss, bin_leq, bin_gtr, bin_geq, un_not, un_neg, pick_true, pick_false, extract_two_0, extract_two_1, nilCheck_pointer, cond_true', cond_false', guard_tt, guard_ff, guard_tf, guard_ft, guard_undef, seqQ_normal, seqQ_ret, seqQ_exit, blockQ_ret, blockQ_normal, blockQ_exit, bodyQ_ret, bodyQ_normal, resK_nil, resK_tmp, ite_T, ite_F, upd_at, add_plain, add_zero', len22, len35, len48, fa37_0, fa37_1, fa37_2, fa77_0, fa77_1, fa103_0, fa103_1, fa125_0, fa125_1, fa125_2, fa125_3, fa125_4, Nat.reduceEqDiff]
        rw [i64_of (by omega) (by omega)]
        by_cases hab' : a + b = z
        case neg =>
          simp only [show ¬ ((a : Int) + (b : Int) = (z : Int)) from by omega, decide_false, Bool.not_false, bin_add, bin_sub, bin_mul, bin_eql, bin_neq, bin_lss, bin_leq, bin_gtr, bin_geq, un_not, un_neg, pick_true, pick_false, extract_two_0, extract_two_1, nilCheck_pointer, cond_true', cond_false', guard_tt, guard_ff, guard_tf, guard_ft, guard_undef, seqQ_normal, seqQ_ret, seqQ_exit, blockQ_ret, blockQ_normal, blockQ_exit, bodyQ_ret, bodyQ_normal, resK_nil, resK_tmp, ite_T, ite_F, upd_at, add_plain, add_zero', len22, len35, len48, fa37_0, fa37_1, fa37_2, fa77_0, fa77_1, fa103_0, fa103_1, fa125_0, fa125_1, fa125_2, fa125_3, fa125_4, Nat.reduceEqDiff]
          exact skip (by rw [hTM', ha, hb]; exact if_neg fun h => hab' (Option.some.inj h.2)) _ h18 h17 h16
        simp only [show ((a : Int) + (b : Int) = (z : Int)) from by omega, decide_true, Bool.not_true, bin_add, bin_sub, bin_mul, bin_eql, bin_neq, bin_lss, bin_leq, bin_gtr, bin_geq, un_not, un_neg, pick_true, pick_false, extract_two_0, extract_two_1, nilCheck_pointer, cond_true', cond_false', guard_tt, guard_ff, guard_tf, guard_ft, guard_undef, seqQ_normal, seqQ_ret, seqQ_exit, blockQ_ret, blockQ_normal, blockQ_exit, bodyQ_ret, bodyQ_normal, resK_nil, resK_tmp, ite_T, ite_F, upd_at, add_plain, add_zero', len22, len35, len48, fa37_0, fa37_1, fa37_2, fa77_0, fa77_1, fa103_0, fa103_1, fa125_0, fa125_1, fa125_2, fa125_3, fa125_4, Nat.reduceEqDiff]
        have hTm : TM m = some (bestTr gm.rules ws cs T bigF A i (i + m) ++ bestRow (bestTr gm.rules ws cs T bigF) ws T xs (i + m) j) := by
          rw [hTM', ha, hb]
          exact if_pos ⟨rfl, by rw [← hab']; rfl⟩
        have hl1 := bestTr_blen (rs := gm.rules) (ws := ws) hp0 ha
        have hl2 := bestRow_len (tr := bestTr gm.rules ws cs T bigF) hb fun A i j n hn _ => bestTr_blen (rs := gm.rules) (ws := ws) hp0 hn
        generalize hx1 : bestTr gm.rules ws cs T bigF A i (i + m) = x1 at *
        generalize hx2 : bestRow (bestTr gm.rules ws cs T bigF) ws T xs (i + m) j = x2 at *
        have H := H.drew
        have E3 := hE.gr H.gr
        refine ⟨fun w' => Gr w2.drew w', Gr.refl _, ?_⟩
        rw [rdG_agg agg37 sz37 rfl (H.box 0 rfl)]
        refine rdi (ix22_0 hR.ptr (by simp)) (rdi (ldS3 fun w' g' => ((hR.gr H.gr).gr g').cell 0 (by simp)) ?_)
        rw [rdG_agg agg37 sz37 rfl (H.box 0 rfl)]
        refine rdi (sll22 (by decide) (by omega)) ?_
        rw [show (1 : Int).toNat = 1 from rfl, Nat.add_sub_cancel]
        simp only [List.getD_cons_zero]
        refine hTree E3 ha (by omega) (by omega) (by omega) (by omega) fun w3 Y3 d3 g3 o3 => ?_
        rw [hx1] at o3 ⊢
        refine ⟨g3, ?_⟩
        have H := H.addOwn g3 o3
        simp only [List.nil_append, List.cons_append] at H
        refine ih (hE.gr H.gr) (hsub.gr H.gr) (by omega) (by omega) hx' hle hj hb (by omega) fun w4 Y4 d4 g4 o4 => ?_
        rw [hx2] at o4 ⊢
        have H := H.addOwn g4 o4
        simp only [List.nil_append, List.cons_append] at H
        refine apH H 2 rfl (H.ints 3 rfl) rfl rfl (by omega) fun Y5 d5 w5 H => ?_
        have H := H.erase 3
        simp only [List.set_cons_zero, List.set_cons_succ, List.eraseIdx_cons_zero, List.eraseIdx_cons_succ] at H
        refine join_as (fun g w' => g 18 = .int .i64 ((i + m : Nat) : Int) ∧ ∃ Y' d, g 16 = .slice Y' ((minL TM (m + 1)).getD []).length d ∧ Apt w w' [bx b1 [.int .i64 gm.nons, .int .i64 gm.toks, .slice Y gm.rules.length cy] 37, ows Y' d ((minL TM (m + 1)).getD [])]) (fun K2 hK2 => ?_) ?_
        case refine_2 =>
          rintro g w' ⟨g18, Y', d, g16, H⟩
          refine hK _ _ ⟨g18, ?_, Y', d, g16, H⟩
          show Value.bool true = _
          cases ho : minL TM m with
          | none => rw [minL_first hTm ho]; rfl
          | some o => rw [minL_next hTm ho]; split <;> rfl
        cases ho : minL TM m with
        | none =>
          simp only [Option.isSome_none, Bool.not_false, bin_add, bin_sub, bin_mul, bin_eql, bin_neq, bin_lss, bin_leq, bin_gtr, bin_geq, un_not, un_neg, pick_true, pick_false, extract_two_0, extract_two_1, nilCheck_pointer, cond_true', cond_false', guard_tt, guard_ff, guard_tf, guard_ft, guard_undef, seqQ_normal, seqQ_ret, seqQ_exit, blockQ_ret, blockQ_normal, blockQ_exit, bodyQ_ret, bodyQ_normal, resK_nil, resK_tmp, ite_T, ite_F, upd_at, add_plain, add_zero', len22, len35, len48, fa37_0, fa37_1, fa37_2, fa77_0, fa77_1, fa103_0, fa103_1, fa125_0, fa125_1, fa125_2, fa125_3, fa125_4, Nat.reduceEqDiff]
          have H := H.erase 1
          simp only [List.eraseIdx_cons_zero, List.eraseIdx_cons_succ] at H
          exact hK2 _ _ ⟨h18, Y5, d5, by rw [minL_first hTm ho]; rfl, by rw [minL_first hTm ho]; exact H⟩
        | some o =>
          rw [ho] at H h16
          simp only [Option.isSome_some, Bool.not_true, bin_add, bin_sub, bin_mul, bin_eql, bin_neq, bin_lss, bin_leq, bin_gtr, bin_geq, un_not, un_neg, pick_true, pick_false, extract_two_0, extract_two_1, nilCheck_pointer, cond_true', cond_false', guard_tt, guard_ff, guard_tf, guard_ft, guard_undef, seqQ_normal, seqQ_ret, seqQ_exit, blockQ_ret, blockQ_normal, blockQ_exit, bodyQ_ret, bodyQ_normal, resK_nil, resK_tmp, ite_T, ite_F, upd_at, add_plain, add_zero', len22, len35, len48, fa37_0, fa37_1, fa37_2, fa77_0, fa77_1, fa103_0, fa103_1, fa125_0, fa125_1, fa125_2, fa125_3, fa125_4, Nat.reduceEqDiff]
          simp only [h16, Option.getD_some] at H ⊢
          refine l11Less_c (H.ints 2 rfl) (H.ints 1 rfl) rfl rfl fun w6 g6 => ?_
          have H := H.step g6
          have hnx := minL_next hTm ho
          by_cases hlt : cmpL (x1 ++ x2) o < 0
          · rw [if_pos hlt] at hnx
            simp only [hlt, decide_true, bin_add, bin_sub, bin_mul, bin_eql, bin_neq, bin_lss, bin_leq, bin_gtr, bin_geq, un_not, un_neg, pick_true, pick_false, extract_two_0, extract_two_1, nilCheck_pointer, cond_true', cond_false', guard_tt, guard_ff, guard_tf, guard_ft, guard_undef, seqQ_normal, seqQ_ret, seqQ_exit, blockQ_ret, blockQ_normal, blockQ_exit, bodyQ_ret, bodyQ_normal, resK_nil, resK_tmp, ite_T, ite_F, upd_at, add_plain, add_zero', len22, len35, len48, fa37_0, fa37_1, fa37_2, fa77_0, fa77_1, fa103_0, fa103_1, fa125_0, fa125_1, fa125_2, fa125_3, fa125_4, Nat.reduceEqDiff]
            have H := H.erase 1
            simp only [List.eraseIdx_cons_zero, List.eraseIdx_cons_succ] at H
            exact hK2 _ _ ⟨h18, Y5, d5, by rw [hnx]; rfl, by rw [hnx]; exact H⟩
          · rw [if_neg hlt] at hnx
            simp only [hlt, decide_false, bin_add, bin_sub, bin_mul, bin_eql, bin_neq, bin_lss, bin_leq, bin_gtr, bin_geq, un_not, un_neg, pick_true, pick_false, extract_two_0, extract_two_1, nilCheck_pointer, cond_true', cond_false', guard_tt, guard_ff, guard_tf, guard_ft, guard_undef, seqQ_normal, seqQ_ret, seqQ_exit, blockQ_ret, blockQ_normal, blockQ_exit, bodyQ_ret, bodyQ_normal, resK_nil, resK_tmp, ite_T, ite_F, upd_at, add_plain, add_zero', len22, len35, len48, fa37_0, fa37_1, fa37_2, fa77_0, fa77_1, fa103_0, fa103_1, fa125_0, fa125_1, fa125_2, fa125_3, fa125_4, Nat.reduceEqDiff]
            exact hK2 _ _ ⟨h18, Y', d, by rw [hnx]; exact h16, by rw [hnx]; exact H.take 2⟩
set_option maxHeartbeats 3200000 in
theorem l12Tree_c {gm : Gram} {cs ws : List Int} {T : CT} {nons : Nat} (hg : goodG gm = true) (hcs : CostsOk gm cs) (hl : ws.length ≤ 10) (hw : ∀ t ∈ ws, 0 ≤ t ∧ t ≤ 100) (hnn : gm.nons = (nons : Nat)) (hF : FineC T) : ∀ (N : Nat) {w : World} {v : Value} {U Q X : Option Addr} {cu cq cx A i j n : Nat} {k : Value → World → Prop}, EnvB gm cs ws T nons w v U Q X → T A i j = some n → n ≤ N → A < nons → i ≤ j → j ≤ ws.length → (∀ w' Y d, Gr w w' → Own 3 w' w.heap.size Y d (bestTr gm.rules ws cs T bigF A i j) → k (.slice Y (bestTr gm.rules ws cs T bigF A i j).length d) w') →
      CallK Try.prog 125 [v, .slice Q cs.length cq, .slice X ws.length cx, .slice U nons cu, .int .i64 A, .int .i64 i, .int .i64 j] k w := by
  have hp0 : ∀ q, q < gm.rules.length → 0 < costQ cs q := fun q hq => (hcs.at hq).2.1
  have hn6 := good_nons hg
  have hr16 := good_len hg
  intro N
  induction N with
  | zero =>
    intro w v U Q X cu cq cx A i j n k hE hn hnN
    have := hF.2 _ _ _ _ hn
    omega
  | succ N ih =>
    intro w v U Q X cu cq cx A i j n k hE hn hnN hA hij hj hk
    have hRow := l12Row_of hg hcs hl hw hnn hF (N := N) ih
    clear ih
    have hnle := hF.1.le hij (by omega) hn
    have hbt := bestTr_big (rs := gm.rules) (ws := ws) hp0 hF.2 hn hnle
    have hblen := bestTr_blen (rs := gm.rules) (ws := ws) hp0 hn
    obtain ⟨Y, cy, rfl, hc, hy⟩ := hE.gv
    refine enter125 ?_
    unfold S125
    have H := Apt.nil w
    refine boxH H fun b1 w1 H => ?_
    have E1 := hE.gr H.gr
    obtain ⟨R', c', h1, h2, h3⟩ := E1.hT.row A hA
    have hab := place_lt (n := ws.length + 1) (show i < ws.length + 1 by omega) (show j < ws.length + 1 by omega)
    have hnn' : (ws.length + 1) * (ws.length + 1) ≤ 11 * 11 := Nat.mul_le_mul (by omega) (by omega)
    refine rdi (ixn48 (fun h => E1.hT.ptr h) hA) (rdi (ld22 h1) ?_)
    simp only [bin_add, bin_sub, bin_mul, bin_eql, bin_neq, bin_lss, bin_leq, bin_gtr, bin_geq, un_not, un_neg, pick_true, pick_false, extract_two_0, extract_two_1, nilCheck_pointer, cond_true', cond_false', guard_tt, guard_ff, guard_tf, guard_ft, guard_undef, seqQ_normal, seqQ_ret, seqQ_exit, blockQ_ret, blockQ_normal, blockQ_exit, bodyQ_ret, bodyQ_normal, resK_nil, resK_tmp, ite_T, ite_F, upd_at, add_plain, add_zero', len22, len35, len48, fa37_0, fa37_1, fa37_2, fa77_0, fa77_1, fa103_0, fa103_1, fa125_0, fa125_1, fa125_2, fa125_3, fa125_4, Nat.reduceEqDiff]
    rw [i64_of (n := (ws.length : Int) + 1) (by omega) (by omega), show (i : Int) * ((ws.length : Int) + 1) = ((i * (ws.length + 1) : Nat) : Int) from by push_cast; rfl, i64_of (n := ((i * (ws.length + 1) : Nat) : Int)) (by omega) (by omega), i64_of (n := ((i * (ws.length + 1) : Nat) : Int) + (j : Int)) (by omega) (by omega)]
    rw [show (((i * (ws.length + 1) : Nat) : Int) + (j : Int)) = ((i * (ws.length + 1) + j : Nat) : Int) from by push_cast; rfl]
    refine rdi (ixn22 (fun _ => h2) hab) (rdi (ld3 (h3 i j (by omega) (by omega))) ?_)
    rw [hn, enc0_s]
    rw [ldB_agg agg37 sz37 rfl (H.box 0 rfl)]
    refine l1Rules_c (gm := gm) E1.gv hg fun w2 UL dL g2 oL => ?_
    have H := H.addOwn g2 oL
    simp only [List.nil_append, List.cons_append] at H
    have hLl := rulesOf_len gm.rules A gm.rules.length
    generalize hLL : rulesOf gm.rules A gm.rules.length = LL at *
    simp only [bin_add, bin_sub, bin_mul, bin_eql, bin_neq, bin_lss, bin_leq, bin_gtr, bin_geq, un_not, un_neg, pick_true, pick_false, extract_two_0, extract_two_1, nilCheck_pointer, cond_true', cond_false', guard_tt, guard_ff, guard_tf, guard_ft, guard_undef, seqQ_normal, seqQ_ret, seqQ_exit, blockQ_ret, blockQ_normal, blockQ_exit, bodyQ_ret, bodyQ_normal, resK_nil, resK_tmp, ite_T, ite_F, upd_at, add_plain, add_zero', len22, len35, len48, fa37_0, fa37_1, fa37_2, fa77_0, fa77_1, fa103_0, fa103_1, fa125_0, fa125_1, fa125_2, fa125_3, fa125_4, Nat.reduceEqDiff]
    refine loop_to LL.length 0 (fun l f w' => l ≤ LL.length ∧ f 36 = .int .i64 l ∧ Apt w w' [bx b1 [.int .i64 gm.nons, .int .i64 gm.toks, .slice Y gm.rules.length cy] 37, ows UL dL LL] ∧ ∀ l' q, l' < l → ((List.range gm.rules.length).filter fun q => decide ((rul gm.rules q).1 = (A : Int)))[l']? = some q → hitQ gm.rules ws cs T A i j q = false)
      ⟨Nat.zero_le _, rfl, H, fun l' q h => by omega⟩ ?_
    clear H
    rintro l f w3 NN hag ⟨hll, h36, H, hno⟩ hN
    have f1 : f 1 = .slice Q cs.length cq := hag 1 (by decide)
    have f2 : f 2 = .slice X ws.length cx := hag 2 (by decide)
    have f3 : f 3 = .slice U nons cu := hag 3 (by decide)
    have f5 : f 5 = .int .i64 i := hag 5 (by decide)
    have f6 : f 6 = .int .i64 j := hag 6 (by decide)
    have f7 : f 7 = ptrv b1 := hag 7 (by decide)
    have f15 : f 15 = .int .i64 (n : Int) := hag 15 (by decide)
    have f34 : f 34 = .slice UL LL.length dL := hag 34 (by decide)
    have f35 : f 35 = .int .i64 LL.length := hag 35 (by decide)
    simp only [f1, f2, f3, f5, f6, f7, f15, f34, f35, h36, bin_add, bin_sub, bin_mul, bin_eql, bin_neq, bin_lss, bin_leq, bin_gtr, bin_geq, un_not, un_neg, pick_true, pick_false, extract_two_0, extract_two_1, nilCheck_pointer, cond_true', cond_false', guard_tt, guard_ff, guard_tf, guard_ft, guard_undef, seqQ_normal, seqQ_ret, seqQ_exit, blockQ_ret, blockQ_normal, blockQ_exit, bodyQ_ret, bodyQ_normal, resK_nil, resK_tmp, ite_T, ite_F, upd_at, add_plain, add_zero', len22, len35, len48, fa37_0, fa37_1, fa37_2, fa77_0, fa77_1, fa103_0, fa103_1, fa125_0, fa125_1, fa125_2, fa125_3, fa125_4, Nat.reduceEqDiff]
    by_cases hlt : l < LL.length
    case neg =>
      simp only [show ¬ ((l : Int) < LL.length) from by omega, decide_false, bin_add, bin_sub, bin_mul, bin_eql, bin_neq, bin_lss, bin_leq, bin_gtr, bin_geq, un_not, un_neg, pick_true, pick_false, extract_two_0, extract_two_1, nilCheck_pointer, cond_true', cond_false', guard_tt, guard_ff, guard_tf, guard_ft, guard_undef, seqQ_normal, seqQ_ret, seqQ_exit, blockQ_ret, blockQ_normal, blockQ_exit, bodyQ_ret, bodyQ_normal, resK_nil, resK_tmp, ite_T, ite_F, upd_at, add_plain, add_zero', len22, len35, len48, fa37_0, fa37_1, fa37_2, fa77_0, fa77_1, fa103_0, fa103_1, fa125_0, fa125_1, fa125_2, fa125_3, fa125_4, Nat.reduceEqDiff]
      obtain rfl : l = LL.length := by omega
      have hbq : bestQ gm.rules ws cs T A i j = none := by
        rw [bestQ_filter]
        refine find_no fun j' q hj' => hno j' q ?_ hj'
        have := (List.getElem?_eq_some_iff.1 hj').1
        rw [← hLL, rulesOf, List.length_map]
        exact this
      rw [hbq] at hbt
      rw [hbt] at hk
      exact hk _ none 0 H.gr (Row.nil _ _ _ _)
    simp only [show ((l : Int) < LL.length) from by omega, decide_true, bin_add, bin_sub, bin_mul, bin_eql, bin_neq, bin_lss, bin_leq, bin_gtr, bin_geq, un_not, un_neg, pick_true, pick_false, extract_two_0, extract_two_1, nilCheck_pointer, cond_true', cond_false', guard_tt, guard_ff, guard_tf, guard_ft, guard_undef, seqQ_normal, seqQ_ret, seqQ_exit, blockQ_ret, blockQ_normal, blockQ_exit, bodyQ_ret, bodyQ_normal, resK_nil, resK_tmp, ite_T, ite_F, upd_at, add_plain, add_zero', len22, len35, len48, fa37_0, fa37_1, fa37_2, fa77_0, fa77_1, fa103_0, fa103_1, fa125_0, fa125_1, fa125_2, fa125_3, fa125_4, Nat.reduceEqDiff]
    obtain ⟨q, hqv, hlq, hqA, hqf⟩ := rulesOf_at (rs := gm.rules) (A := A) (n := gm.rules.length) (l := l) (by rw [hLL]; exact hlt)
    rw [hLL] at hqv
    have hLi := H.ints 1 rfl
    have hcl := hLi.cell l hlt
    rw [hqv] at hcl
    refine rdi (ixn22 hLi.ptr hlt) (rdi (ld3 hcl) ?_)
    rw [ldB35 (H.box 0 rfl) rfl]
    obtain ⟨Z, cz, t1, t2, t3, t4⟩ := hy.row q hlq
    have hright := good_right hg hlq
    have hR4 := good_rule hg q hlq
    have E3 := hE.gr H.gr
    refine rdi (ixn35 hy.ptr hlq) ?_
    rw [fa77_1, add_add]
    refine rdi (ld22 (H.gr.cell t2)) ?_
    have hrr : ∀ x ∈ (rul gm.rules q).2, -100 ≤ x ∧ x < nons := fun x hx => by have := hright x hx; omega
    refine l10Best_c hl hw (by omega) (rul gm.rules q).2 E3.hT hF.1 hF.2 E3.hX (t4.is.gr H.gr) t3 hR4 hrr hij hj ?_
    obtain ⟨hcq, hc0, hc1⟩ := hcs.at hlq
    have hql : q < cs.length := by rw [hcs.len]; exact hlq
    have hQc := E3.hQ.cell q hql
    rw [hcq] at hQc
    have next : hitQ gm.rules ws cs T A i j q = false → ∀ f' : Sh.F, f' 36 = .int .i64 (l + 1 : Nat) → NN f' w3 := fun hh f' q36 => hN _ _ hlt ⟨hlt, q36, H, fun l' q' hl' hq' => by
      by_cases e : l' = l
      · subst e
        rw [hqf] at hq'
        cases hq'
        exact hh
      · exact hno l' q' (by omega) hq'⟩
    cases hr : restG (tokC ws) nl0 T (rul gm.rules q).2 i j with
    | none =>
      simp only [encM_n, show ¬ ((0 : Int) ≤ -1) from by omega, decide_false, bin_add, bin_sub, bin_mul, bin_eql, bin_neq, bin_lss, bin_leq, bin_gtr, bin_geq, un_not, un_neg, pick_true, pick_false, extract_two_0, extract_two_1, nilCheck_pointer, cond_true', cond_false', guard_tt, guard_ff, guard_tf, guard_ft, guard_undef, seqQ_normal, seqQ_ret, seqQ_exit, blockQ_ret, blockQ_normal, blockQ_exit, bodyQ_ret, bodyQ_normal, resK_nil, resK_tmp, ite_T, ite_F, upd_at, add_plain, add_zero', len22, len35, len48, fa37_0, fa37_1, fa37_2, fa77_0, fa77_1, fa103_0, fa103_1, fa125_0, fa125_1, fa125_2, fa125_3, fa125_4, Nat.reduceEqDiff]
      rw [i64_of (by omega) (by omega)]
      exact next (by unfold hitQ; rw [candC_none hr, hn]; rfl) _ rfl
    | some r =>
      have hrs := rest_small hF.1 (tokC_small ws) nl0_small hR4 hij (by omega) hr
      simp only [encM_s, show ((0 : Int) ≤ (r : Int)) from by omega, decide_true, bin_add, bin_sub, bin_mul, bin_eql, bin_neq, bin_lss, bin_leq, bin_gtr, bin_geq, un_not, un_neg, pick_true, pick_false, extract_two_0, extract_two_1, nilCheck_pointer, cond_true', cond_false', guard_tt, guard_ff, guard_tf, guard_ft, guard_undef, seqQ_normal, seqQ_ret, seqQ_exit, blockQ_ret, blockQ_normal, blockQ_exit, bodyQ_ret, bodyQ_normal, resK_nil, resK_tmp, ite_T, ite_F, upd_at, add_plain, add_zero', len22, len35, len48, fa37_0, fa37_1, fa37_2, fa77_0, fa77_1, fa103_0, fa103_1, fa125_0, fa125_1, fa125_2, fa125_3, fa125_4, Nat.reduceEqDiff]
      refine rdi (ixn22 E3.hQ.ptr hql) (rdi (ld3 hQc) ?_)
      simp only [bin_add, bin_sub, bin_mul, bin_eql, bin_neq, bin_lss, bin_leq, bin_gtr, bin_geq, un_not, un_neg, pick_true, pick_false, extract_two_0, extract_two_1, nilCheck_pointer, cond_true', cond_false', guard_tt, guard_ff, guard_tf, guard_ft, guard_undef, seqQ_normal, seqQ_ret, seqQ_exit, blockQ_ret, blockQ_normal, blockQ_exit, bodyQ_ret, bodyQ_normal, resK_nil, resK_tmp, ite_T, ite_F, upd_at, add_plain, add_zero', len22, len35, len48, fa37_0, fa37_1, fa37_2, fa77_0, fa77_1, fa103_0, fa103_1, fa125_0, fa125_1, fa125_2, fa125_3, fa125_4, Nat.reduceEqDiff]
      rw [i64_of (n := (r : Int) + (costQ cs q : Int)) (by omega) (by omega)]
      by_cases hhit : r + costQ cs q = n
      case neg =>
        simp only [show ¬ ((r : Int) + (costQ cs q : Int) = (n : Int)) from by omega, decide_false, bin_add, bin_sub, bin_mul, bin_eql, bin_neq, bin_lss, bin_leq, bin_gtr, bin_geq, un_not, un_neg, pick_true, pick_false, extract_two_0, extract_two_1, nilCheck_pointer, cond_true', cond_false', guard_tt, guard_ff, guard_tf, guard_ft, guard_undef, seqQ_normal, seqQ_ret, seqQ_exit, blockQ_ret, blockQ_normal, blockQ_exit, bodyQ_ret, bodyQ_normal, resK_nil, resK_tmp, ite_T, ite_F, upd_at, add_plain, add_zero', len22, len35, len48, fa37_0, fa37_1, fa37_2, fa77_0, fa77_1, fa103_0, fa103_1, fa125_0, fa125_1, fa125_2, fa125_3, fa125_4, Nat.reduceEqDiff]
        rw [i64_of (by omega) (by omega)]
        exact next (by
          unfold hitQ
          rw [candC_some hr, hn, decide_eq_false (fun e => hhit (Option.some.inj e))]
          rfl) _ rfl
      simp only [show ((r : Int) + (costQ cs q : Int) = (n : Int)) from by omega, decide_true, bin_add, bin_sub, bin_mul, bin_eql, bin_neq, bin_lss, bin_leq, bin_gtr, bin_geq, un_not, un_neg, pick_true, pick_false, extract_two_0, extract_two_1, nilCheck_pointer, cond_true', cond_false', guard_tt, guard_ff, guard_tf, guard_ft, guard_undef, seqQ_normal, seqQ_ret, seqQ_exit, blockQ_ret, blockQ_normal, blockQ_exit, bodyQ_ret, bodyQ_normal, resK_nil, resK_tmp, ite_T, ite_F, upd_at, add_plain, add_zero', len22, len35, len48, fa37_0, fa37_1, fa37_2, fa77_0, fa77_1, fa103_0, fa103_1, fa125_0, fa125_1, fa125_2, fa125_3, fa125_4, Nat.reduceEqDiff]
      have hbq : bestQ gm.rules ws cs T A i j = some q := by
        rw [bestQ_filter]
        exact find_at hqf (fun j' b' hj' hb' => hno j' b' hj' hb') (by
          unfold hitQ
          rw [candC_some hr, hn, hhit]
          simp)
      rw [hbq] at hbt
      dsimp only at hbt
      rw [hbt] at hk hblen
      clear hbt next hno
      refine join_as (fun g w' => Gr w w' ∧ ∃ Y' d, g 14 = .slice Y' ((q : Int) :: bestRow (bestTr gm.rules ws cs T bigF) ws T (rul gm.rules q).2 i j).length d ∧ Own 3 w' w.heap.size Y' d ((q : Int) :: bestRow (bestTr gm.rules ws cs T bigF) ws T (rul gm.rules q).2 i j)) (fun K hK => ?_) ?_
      case refine_2 =>
        rintro g w' ⟨gw, Y', d, g14, o⟩
        simp only [g14, go_sem, Nat.reduceEqDiff]
        exact hk _ _ _ gw o
      have H := H.drew
      have G0 := H.gr
      have E4 := hE.gr H.gr
      refine ⟨fun w' => Gr w3.drew w', Gr.refl _, ?_⟩
      rw [rdG_agg agg37 sz37 rfl (H.box 0 rfl)]
      rw [rdG one35 (H.box 0 rfl) rfl]
      refine rdi (ixn35 hy.ptr hlq) ?_
      rw [fa77_1, add_add]
      refine rdi (ldS22 fun w' g' => g'.cell (G0.cell t2)) ?_
      generalize hRW : bestRow (bestTr gm.rules ws cs T bigF) ws T (rul gm.rules q).2 i j = RW at *
      rw [List.length_cons] at hblen
      refine ⟨?_, ?_⟩
      · have K1 := Apt.nil w3.drew
        refine buildH K1 u22 inf3 [.int .i64 (q : Int)] (by decide) (by decide) (by simp [Instr.fill, madeCells, Value.cells, rng1]) rfl fun b5 w5 K1 => ?_
        simp only [List.nil_append] at K1
        refine ⟨K1.gr, ?_⟩
        refine hRow (rul gm.rules q).2 (E4.gr K1.gr) ((t4.is.gr G0).gr K1.gr) t3 hR4 hrr hij hj hr (by omega) fun w6 Y6 d6 g6 o6 => ?_
        rw [hRW] at o6 ⊢
        have K1 := K1.addOwn g6 o6
        simp only [List.cons_append, List.nil_append] at K1
        refine ⟨K1.gr, ?_⟩
        refine apH (xs := [(q : Int)]) K1 0 rfl (K1.ints 1 rfl) rfl rfl (by simp only [List.length_cons, List.length_nil]; omega) fun Y7 d7 w7 K1 => ?_
        refine ⟨K1.gr, ?_⟩
        simp only [List.set_cons_zero] at K1
        exact hK _ _ ⟨gr_trans G0 K1.gr, Y7, d7, rfl, Row.mono (K1.own 0 rfl) G0.size⟩
      · refine hRow (rul gm.rules q).2 E4 (t4.is.gr G0) t3 hR4 hrr hij hj hr (by omega) fun w6 Y6 d6 g6 o6 => ?_
        rw [hRW] at o6 ⊢
        have K1 := (Apt.nil w3.drew).addOwn g6 o6
        simp only [List.nil_append] at K1
        refine ⟨K1.gr, ?_⟩
        refine buildH K1 u22 inf3 [.int .i64 (q : Int)] (by decide) (by decide) (by simp [Instr.fill, madeCells, Value.cells, rng1]) rfl fun b5 w5 K1 => ?_
        simp only [List.cons_append, List.nil_append] at K1
        refine ⟨K1.gr, ?_⟩
        refine apH (xs := [(q : Int)]) K1 1 rfl (K1.ints 0 rfl) rfl rfl (by simp only [List.length_cons, List.length_nil]; omega) fun Y7 d7 w7 K1 => ?_
        refine ⟨K1.gr, ?_⟩
        simp only [List.set_cons_zero, List.set_cons_succ] at K1
        exact hK _ _ ⟨gr_trans G0 K1.gr, Y7, d7, rfl, Row.mono (K1.own 1 rfl) G0.size⟩
end Go.Proofs.Ytiohaeckagjebaa

/- A map as memory, among things that lie apart: every entry is right. -/
set_option linter.unusedVariables false
set_option linter.unusedSimpArgs false
set_option maxRecDepth 100000
namespace Go.Sh
open Go Go.WideMaps
/-- A map's block; every entry is right. -/
def mpi (Good : Value → Value → Prop) (b : Nat) : Thing := ⟨fun w => ∃ es clock, w.heap[b]? = some (.map es clock) ∧ ∀ e ∈ es.toList, Good e.key e.val, fun q => q = b⟩
section
variable {P : Program} {k : Value → World → Prop} {w0 w : World} {L : List Thing} {Good : Value → Value → Prop}
theorem makeMapH (H : Apt w0 w L) {t : TypeId} (h : ∀ b w', Apt w0 w' (L ++ [mpi Good b]) → k (.map (some b)) w') : Do P (sMakeMap t) k w := by
  have e' : (sMakeMap t).run P w = .ok (.value (.map (some w.heap.size))) (w.alloc (.map #[] 0)) := by
    simp only [sMakeMap, Sem.run_bind, run_makeMap_plain]
    rfl
  rw [do_value e']
  refine h _ _ (H.add (gr_alloc w _) (mpi Good w.heap.size) (fun q hq => by cases hq; exact Nat.le_refl _) (fun q hq => by cases hq; exact (Array.getElem?_eq_some_iff.1 (heap_alloc_new w (.map #[] 0))).1) fun w'' hs => ⟨#[], 0, ?_, fun e he => by simp at he⟩)
  rw [hs _ rfl]
  exact heap_alloc_new w _
end
end Go.Sh
namespace Go.Proofs.Ytiohaeckagjebaa
open Go Go.Sh Go.RowKit Go.WideMaps
theorem wf64 {n : Int} (h : -9223372036854775808 ≤ n ∧ n ≤ 9223372036854775807) : (Lit.int .i64 n).wf = true := by
  simp [Lit.wf, show IntKind.i64.min = -9223372036854775808 from rfl, show IntKind.i64.max = 9223372036854775807 from rfl]
  omega
end Go.Proofs.Ytiohaeckagjebaa

/- A map whose values lie in memory of their own, among things that lie apart. -/
set_option linter.unusedVariables false
set_option linter.unusedSimpArgs false
set_option maxRecDepth 100000
namespace Go.Sh
open Go Go.WideMaps
structure Ent where
  key : Value
  val : Value
  it : Thing
/-- It holds, and holds on while its blocks stay. -/
def Robust (it : Thing) (w : World) : Prop := ∀ w', (∀ q, it.ft q → w'.heap[q]? = w.heap[q]?) → it.P w'
theorem Robust.here {it : Thing} {w : World} (h : Robust it w) : it.P w := h w fun _ _ => rfl
theorem Robust.next {it : Thing} {w w' : World} (h : Robust it w) (hs : ∀ q, it.ft q → w'.heap[q]? = w.heap[q]?) : Robust it w' := fun w'' h' => h w'' fun q hq => (h' q hq).trans (hs q hq)
structure MapG (b : Nat) (ents : List Ent) (has : List Value) (w : World) : Prop where
  blk : ∃ es clock, w.heap[b]? = some (.map es clock) ∧ (∀ e ∈ es.toList, ∃ t ∈ ents, e.key = t.key ∧ e.val = t.val) ∧ ∀ x ∈ has, ∃ e ∈ es.toList, e.key = x
  sub : ∀ t ∈ ents, Robust t.it w
  off : ∀ t ∈ ents, ¬ t.it.ft b
def mpG (b : Nat) (ents : List Ent) (has : List Value) : Thing := ⟨MapG b ents has, fun q => q = b ∨ ∃ t ∈ ents, t.it.ft q⟩
theorem MapG.same {b : Nat} {ents : List Ent} {has : List Value} {w w' : World} (h : MapG b ents has w) (hs : ∀ q, (mpG b ents has).ft q → w'.heap[q]? = w.heap[q]?) : MapG b ents has w' := by
  obtain ⟨⟨es, clock, h1, h2, h3⟩, h4, h5⟩ := h
  exact ⟨⟨es, clock, by rw [hs b (.inl rfl)]; exact h1, h2, h3⟩, fun t ht => (h4 t ht).next fun q hq => hs q (.inr ⟨t, ht, hq⟩), h5⟩
section
variable {P : Program} {k : Value → World → Prop} {w0 w : World} {L : List Thing} {ents : List Ent} {has : List Value}
/-- A map with nothing in it. -/
theorem Apt.emptyG (H : Apt w0 w L) (i : Nat) {b : Nat} (hi : L[i]? = some (mpi (fun _ _ => False) b)) : Apt w0 w (L.set i (mpG b [] [])) := by
  have key : ∀ w', (mpi (fun _ _ => False) b).P w' → MapG b [] [] w' := fun w' h => by
    obtain ⟨es, clock, h1, h2⟩ := h
    exact ⟨⟨es, clock, h1, fun e he => (h2 e he).elim, fun x hx => by simp at hx⟩, fun t ht => by simp at ht, fun t ht => by simp at ht⟩
  refine H.weaken i hi (fun q hq => ?_) (fun w' _ h => key w' h) (fun w' w'' hs h => MapG.same h hs)
  rcases hq with hq | ⟨t, ht, _⟩
  · exact hq
  · simp at ht
theorem lookupG (H : Apt w0 w L) (i : Nat) {b : Nat} (hi : L[i]? = some (mpG b ents has)) {t kt et : TypeId} {x z : Value} {lx : Lit} (ht : P.underlying t = some (.map kt et)) (K : KeyLaw P kt) (hx : keyOf P kt x = some lx) (hG : ∀ e ∈ ents, ∃ l, keyOf P kt e.key = some l) (hz : ∀ w, (zeroValue et).run P w = .ok z w) (ok : Bool)
    (h0 : x ∉ has → k (if ok then .tuple #[z, .bool false] else z) w) (h1 : ∀ e ∈ ents, e.key = x → e.it.P w → k (if ok then .tuple #[e.val, .bool true] else e.val) w) : Do P (sLookup t (.map (some b)) x ok) k w := by
  obtain ⟨⟨es, clock, hb, hes, hhas⟩, hsub, hoff⟩ := H.get i hi
  have hget : (getObj b).run P w = .ok (.map es clock) w := by simp [getObj, Sem.run, hb]
  have hG' : ∀ e ∈ es.toList, ∃ l, keyOf P kt e.key = some l := fun e he => by
    obtain ⟨t, ht, e1, _⟩ := hes e he
    rw [e1]
    exact hG t ht
  rcases K.find w hx es.toList hG' with ⟨hf, hno⟩ | ⟨j, e, hf, hj, hk⟩
  · have e' : (sLookup t (.map (some b)) x ok).run P w = .ok (.value (if ok then .tuple #[z, .bool false] else z)) w := by
      cases ok <;> simp [sLookup, Instr.lookup, run_underlying ht, hget, K.check w _ hx, hf, hz]
    rw [do_value e']
    refine h0 fun hm => ?_
    obtain ⟨e, he, hke⟩ := hhas x hm
    exact hno e he hke
  · have e' : (sLookup t (.map (some b)) x ok).run P w = .ok (.value (if ok then .tuple #[e.val, .bool true] else e.val)) w := by
      cases ok <;> simp [sLookup, Instr.lookup, run_underlying ht, hget, K.check w _ hx, hf]
    rw [do_value e']
    obtain ⟨t, ht, e1, e2⟩ := hes e (List.mem_of_getElem? hj)
    rw [e2]
    exact h1 t ht (by rw [← e1, hk]) (hsub t ht).here
/-- A value that lies in a thing of its own comes into the map. -/
theorem updateG (H : Apt w0 w L) (i j : Nat) (hij : i ≠ j) {b : Nat} (hi : L[i]? = some (mpG b ents has)) {it : Thing} (hj : L[j]? = some it) {t kt et : TypeId} {x v : Value} {lx : Lit} (ht : P.underlying t = some (.map kt et)) (K : KeyLaw P kt) (hx : keyOf P kt x = some lx) (hG : ∀ e ∈ ents, ∃ l, keyOf P kt e.key = some l)
    (h : ∀ w', Gx (fun q => q = b) w w' → Apt w0 w' ((L.set i (mpG b (⟨x, v, it⟩ :: ents) (x :: has))).set j emp) → k undef w') : Do P (sMapUpdate t (.map (some b)) x v) k w := by
  obtain ⟨⟨es, clock, hb, hes, hhas⟩, hsub, hoff⟩ := H.get i hi
  have hget : (getObj b).run P w = .ok (.map es clock) w := MapKept.run_getObj_map hb
  have hG' : ∀ e ∈ es.toList, ∃ l, keyOf P kt e.key = some l := fun e he => by
    obtain ⟨t, ht, e1, _⟩ := hes e he
    rw [e1]
    exact hG t ht
  have hbj : ¬ it.ft b := fun hb' => H.two i j _ _ hij hi hj b (.inl rfl) hb'
  have fin : ∀ (es' : Array MapEntry) (clock' : Nat), (∀ e ∈ es'.toList, ∃ t ∈ (⟨x, v, it⟩ :: ents : List Ent), e.key = t.key ∧ e.val = t.val) → (∀ y ∈ x :: has, ∃ e ∈ es'.toList, e.key = y) → (Instr.mapUpdate t (.map (some b)) x v).run P w = .ok () { w with heap := w.heap.setIfInBounds b (.map es' clock') } → Do P (sMapUpdate t (.map (some b)) x v) k w := fun es' clock' h1 h2 hr => by
    have e' : (sMapUpdate t (.map (some b)) x v).run P w = .ok .skip { w with heap := w.heap.setIfInBounds b (.map es' clock') } := by
      simp only [sMapUpdate, Sem.run_bind, hr]
      rfl
    rw [do_skip e']
    have hlt := (Array.getElem?_eq_some_iff.1 hb).1
    have gx : Gx (fun q => q = b) w { w with heap := w.heap.setIfInBounds b (.map es' clock') } := ⟨rfl, rfl, rfl, by simp, fun q hq hn => Array.getElem?_setIfInBounds_ne (fun e => hn e.symm)⟩
    have hother : ∀ q, q ≠ b → ({ w with heap := w.heap.setIfInBounds b (.map es' clock') } : World).heap[q]? = w.heap[q]? := fun q hq => Array.getElem?_setIfInBounds_ne (fun e => hq e.symm)
    have hm : MapG b (⟨x, v, it⟩ :: ents) (x :: has) { w with heap := w.heap.setIfInBounds b (.map es' clock') } := by
      refine ⟨⟨es', clock', by simp [hlt], h1, h2⟩, fun t ht => ?_, fun t ht => ?_⟩
      · rcases List.mem_cons.1 ht with rfl | ht
        · intro w'' hs
          refine (H.ok j _ hj).kept w'' fun q hq => (hs q hq).trans (hother q fun e => hbj (e ▸ hq))
        · exact (hsub t ht).next fun q hq => hother q fun e => hoff t ht (e ▸ hq)
      · rcases List.mem_cons.1 ht with rfl | ht
        · exact hbj
        · exact hoff t ht
    refine h _ gx (H.join (it := mpG b (⟨x, v, it⟩ :: ents) (x :: has)) hij hi hj ⟨rfl, rfl, rfl, by simp, fun q hq hn => hother q fun e => hn (.inl (.inl e))⟩ (fun q hq => ?_) (fun q hq => ?_) fun w'' hs => hm.same hs)
    · rcases hq with hq | ⟨t, ht, hq⟩
      · exact .inl (.inl hq)
      · rcases List.mem_cons.1 ht with rfl | ht
        · exact .inr (.inl hq)
        · exact .inl (.inr ⟨t, ht, hq⟩)
    · show q < (w.heap.setIfInBounds b (.map es' clock')).size
      rw [Array.size_setIfInBounds]
      rcases hq with hq | ⟨t, ht, hq⟩
      · exact (H.ok i _ hi).hi q (.inl hq)
      · rcases List.mem_cons.1 ht with rfl | ht
        · exact (H.ok j _ hj).hi q hq
        · exact (H.ok i _ hi).hi q (.inr ⟨t, ht, hq⟩)
  rcases K.find w hx es.toList hG' with ⟨hf, _⟩ | ⟨m, e, hf, hm, hk⟩
  · refine fin (es.push { key := x, val := v, born := clock }) (clock + 1) (fun e he => ?_) (fun y hy => ?_) ?_
    · rw [Array.toList_push] at he
      rcases List.mem_append.1 he with he | he
      · obtain ⟨t, ht, h1⟩ := hes e he
        exact ⟨t, List.mem_cons_of_mem _ ht, h1⟩
      · obtain rfl := List.mem_singleton.1 he
        exact ⟨_, List.mem_cons_self .., rfl, rfl⟩
    · rw [Array.toList_push]
      rcases List.mem_cons.1 hy with rfl | hy
      · exact ⟨_, List.mem_append_right _ (List.mem_singleton.2 rfl), rfl⟩
      · obtain ⟨e, he, h1⟩ := hhas y hy
        exact ⟨e, List.mem_append_left _ he, h1⟩
    · simp [Instr.mapUpdate, run_underlying ht, hget, K.check w _ hx, hf, MapKept.run_setObj_map _ hb]
  · have hk2 : (es[m]?).map (·.key) = some x := by
      rw [← Array.getElem?_toList, hm, ← hk]
      rfl
    refine fin (es.modify m fun e => { e with key := x, val := v }) clock (fun e' he' => ?_) (fun y hy => ?_) ?_
    · obtain ⟨q, hq⟩ := List.getElem?_of_mem he'
      rw [Array.getElem?_toList, Array.getElem?_modify] at hq
      split at hq
      · cases h3 : es[q]? with
        | none => rw [h3] at hq; cases hq
        | some e0 =>
          rw [h3] at hq
          simp only [Option.map_some, Option.some.injEq] at hq
          rw [← hq]
          exact ⟨_, List.mem_cons_self .., rfl, rfl⟩
      · obtain ⟨t, ht, h1⟩ := hes e' (by
          rw [← Array.getElem?_toList] at hq
          exact List.mem_of_getElem? hq)
        exact ⟨t, List.mem_cons_of_mem _ ht, h1⟩
    · have key : ∃ e ∈ es.toList, e.key = y := by
        rcases List.mem_cons.1 hy with rfl | hy
        · exact ⟨e, List.mem_of_getElem? hm, hk⟩
        · exact hhas y hy
      obtain ⟨e0, he0, h0⟩ := key
      obtain ⟨q, hq⟩ := List.getElem?_of_mem he0
      rw [Array.getElem?_toList] at hq
      by_cases hmq : m = q
      · subst hmq
        rw [← Array.getElem?_toList, hm] at hq
        cases hq
        refine ⟨{ e with key := x, val := v }, List.mem_of_getElem? (i := m) ?_, by rw [← h0, hk]⟩
        rw [Array.getElem?_toList, Array.getElem?_modify, if_pos rfl, ← Array.getElem?_toList, hm]
        rfl
      · refine ⟨e0, List.mem_of_getElem? (i := q) ?_, h0⟩
        rw [Array.getElem?_toList, Array.getElem?_modify, if_neg hmq, hq]
    · simp [Instr.mapUpdate, run_underlying ht, hget, K.check w _ hx, hf, hk2, K.stays w hx, MapKept.run_setObj_map _ hb]
end
end Go.Sh
namespace Go.Proofs.Ytiohaeckagjebaa
open Go Go.Sh Go.RowKit Go.WideMaps
theorem arr172 : ArrKey Try.prog 172 3 3 := ⟨by kernel_rfl, by kernel_rfl, by kernel_rfl, by kernel_rfl⟩
theorem formed172 (a b c : Int) : (Value.agg #[.int .i64 a, .int .i64 b, .int .i64 c]).formed Try.prog 172 = true := by
  kernel_rfl
theorem lits172 {a b c : Int} (ha : (Lit.int .i64 a).wf = true) (hb : (Lit.int .i64 b).wf = true) (hc : (Lit.int .i64 c).wf = true) (m : Nat) :
    Program.keyLits Try.prog (m + 2) 172 [.int .i64 a, .int .i64 b, .int .i64 c] = some [.int .i64 a, .int .i64 b, .int .i64 c] := by
  have h1 : ∀ {x : Int}, (Lit.int .i64 x).wf = true → Program.keyLits Try.prog (m + 1) 3 [.int .i64 x] = some [.int .i64 x] := fun hx => by
    simp only [Program.keyLits, Try.underlying3, hx, and_self, if_true]
  have hu : Try.prog.underlying 172 = some (.array 3 3) := by kernel_rfl
  have e1 : Try.prog.cellsOf 3 = 1 := by kernel_rfl
  have e5 : Try.prog.cellsOf 172 = 3 := by kernel_rfl
  have hr : List.range 3 = [0, 1, 2] := by decide
  simp [Program.keyLits, hu, e1, e5, hr, h1 ha, h1 hb, h1 hc, ha, hb, hc]
theorem key172 {a b c : Int} (ha : (Lit.int .i64 a).wf = true) (hb : (Lit.int .i64 b).wf = true) (hc : (Lit.int .i64 c).wf = true) :
    ∃ l, keyOf Try.prog 172 (.agg #[.int .i64 a, .int .i64 b, .int .i64 c]) = some l := by
  have hu : Try.prog.underlying 172 = some (.array 3 3) := by kernel_rfl
  have hk : Try.prog.keyType 172 = true := by kernel_rfl
  obtain ⟨m, hm⟩ : ∃ m, Try.prog.types.size + 1 = m + 2 := ⟨Try.prog.types.size - 1, by kernel_rfl⟩
  refine ⟨.string (keyBytes [.int .i64 a, .int .i64 b, .int .i64 c]), ?_⟩
  unfold keyOf
  rw [hu]
  dsimp only
  rw [hk, formed172, hm]
  show Option.map _ (Program.keyLits Try.prog (m + 2) 172 [.int .i64 a, .int .i64 b, .int .i64 c]) = _
  rw [lits172 ha hb hc m]
  rfl
end Go.Proofs.Ytiohaeckagjebaa

/- Where there are trees there is a span; what the reference and the program reckon with, kept at most M. -/
set_option linter.unusedVariables false
set_option linter.unusedSimpArgs false
set_option maxRecDepth 100000
namespace Go.Sh
open Go
theorem Inc.still {α : Type} {f : TS → α → TS} : ∀ {l : List α} {s : TS}, (∀ a ∈ l, ∀ s, Inc s (f s a)) → s.2 = false → (l.foldl f s).2 = false → ∀ a ∈ l, f s a = s := by
  intro l
  induction l with
  | nil => intro s _ _ _ a ha; simp at ha
  | cons b l ih =>
    intro s h hs he a ha
    rw [List.foldl_cons] at he
    have hb : f s b = s := by
      rcases h b (List.mem_cons_self ..) s with e | ⟨e, _⟩
      · exact e
      · exfalso
        rcases Inc.fold (fun c hc => h c (List.mem_cons_of_mem _ hc)) (f s b) with e' | ⟨e', _⟩
        · rw [e', e] at he
          cases he
        · rw [e'] at he
          cases he
    rcases List.mem_cons.1 ha with rfl | ha
    · exact hb
    · rw [hb] at he
      exact ih (fun c hc => h c (List.mem_cons_of_mem _ hc)) hs he a ha
end Go.Sh

/- Bk: bodies of functions as terms of the frame calculus, printed by shgen.py of this repository. -/
set_option linter.unusedVariables false
set_option maxRecDepth 100000
namespace Go.Proofs.Ytiohaeckagjebaa
open Go Go.Sh

/-! loop.example/g00758/laws.FnExactCountSized -/
/-! loop.example/g00758/spec.CountSized -/
/-! loop.example/g00758/impl.CountSized -/
/-! loop.example/g00758/spec.l10Sized -/
/-! (*loop.example/g00758/impl.sizedCount).trees -/
/-! loop.example/g00758/spec.l10Cap -/
/-! loop.example/g00758/spec.l10Row -/
/-! loop.example/g00758/impl.plus -/
/-! (*loop.example/g00758/impl.sizedCount).rest -/
/-! loop.example/g00758/impl.times -/
end Go.Proofs.Ytiohaeckagjebaa

/- Contract: in how many ways symbols have trees of a size (the reference's l10Row). -/
set_option linter.unusedVariables false
set_option linter.unusedSimpArgs false
set_option maxRecDepth 100000
namespace Go.Sh
open Go
/-- A table of counts in memory: nonterminal, from and to, size. -/
structure TabR (w : World) (X : Option Addr) (nons n m : Nat) (t : Nat → Nat → Nat → Nat → Nat) : Prop where
  ptr : 0 < nons → X = some (ad X)
  row : ∀ A, A < nons → ∃ Y c, w.cell? ((ad X).add A) = some (.slice Y (n * n) c) ∧ Y = some (ad Y) ∧ ∀ i j, i < n → j < n → ∃ Z z, w.cell? ((ad Y).add (i * n + j)) = some (.slice Z (m + 1) z) ∧ Z = some (ad Z) ∧ ∀ k, k ≤ m → w.cell? ((ad Z).add k) = some (.int .i64 (t A i j k))
theorem TabR.gr {w w' : World} {X : Option Addr} {nons n m : Nat} {t : Nat → Nat → Nat → Nat → Nat} (h : TabR w X nons n m t) (g : Gr w w') : TabR w' X nons n m t := ⟨h.ptr, fun A hA => by
  obtain ⟨Y, c, h1, h2, h3⟩ := h.row A hA
  refine ⟨Y, c, g.cell h1, h2, fun i j hi hj => ?_⟩
  obtain ⟨Z, z, h4, h5, h6⟩ := h3 i j hi hj
  exact ⟨Z, z, g.cell h4, h5, fun k hk => g.cell (h6 k hk)⟩⟩
end Go.Sh
namespace Go.Proofs.Ytiohaeckagjebaa
open Go Go.Sh Go.RowKit
end Go.Proofs.Ytiohaeckagjebaa

/- A family of slices of numbers that are owned (their heads lie elsewhere). -/
set_option linter.unusedVariables false
set_option linter.unusedSimpArgs false
set_option maxRecDepth 100000
namespace Go.Sh
open Go
structure Fam (e : Nat) (w : World) (B : Nat) (ls : List (List Int)) (ps : Nat → Option Addr × Nat) : Prop where
  own : ∀ j, j < ls.length → Own e w B (ps j).1 (ps j).2 (rgt ls j)
  two : ∀ i j, i < ls.length → j < ls.length → i ≠ j → blk (ps i).1 = none ∨ blk (ps i).1 ≠ blk (ps j).1
def FootL (ps : Nat → Option Addr × Nat) (n q : Nat) : Prop := ∃ l, l < n ∧ blk (ps l).1 = some q
section
variable {e B B' : Nat} {w w' w0 : World} {ls : List (List Int)} {ps : Nat → Option Addr × Nat} {L : List Thing}
theorem Fam.same (h : Fam e w B ls ps) (hs : ∀ q, FootL ps ls.length q → w'.heap[q]? = w.heap[q]?) : Fam e w' B ls ps :=
  ⟨fun j hj => Row.same (h.own j hj) fun q hq => hs q ⟨j, hj, hq⟩, h.two⟩
theorem Fam.up (h : Fam e w B ls ps) (hs : ∀ q, FootL ps ls.length q → B' ≤ q) : Fam e w B' ls ps :=
  ⟨fun j hj => Row.up (h.own j hj) fun q hq => hs q ⟨j, hj, hq⟩, h.two⟩
theorem Fam.mono (h : Fam e w B ls ps) (hb : B' ≤ B) : Fam e w B' ls ps := ⟨fun j hj => Row.mono (h.own j hj) hb, h.two⟩
theorem Fam.foot (h : Fam e w B ls ps) {q : Nat} (hq : FootL ps ls.length q) : B ≤ q ∧ q < w.heap.size := by
  obtain ⟨l, hl, hq⟩ := hq
  exact Row.ge (h.own l hl) hq
end
end Go.Sh
namespace Go.Proofs.Ytiohaeckagjebaa
open Go Go.Sh Go.RowKit
end Go.Proofs.Ytiohaeckagjebaa

/- A table of counts: heads and leaves. -/
set_option linter.unusedVariables false
set_option linter.unusedSimpArgs false
set_option maxRecDepth 100000
namespace Go.Sh
open Go
/-- Where a leaf of a table stands. -/
def idxT (n A i j : Nat) : Nat := A * (n * n) + (i * n + j)
theorem idxT_lt {nons n A i j : Nat} (hA : A < nons) (hi : i < n) (hj : j < n) : idxT n A i j < nons * (n * n) := by
  have h1 := place_lt hi hj
  have h2 : (A + 1) * (n * n) ≤ nons * (n * n) := Nat.mul_le_mul_right _ hA
  rw [Nat.add_mul] at h2
  unfold idxT
  omega
theorem idxT_inj {n A i j A' i' j' : Nat} (hi : i < n) (hj : j < n) (hi' : i' < n) (hj' : j' < n) (h : idxT n A i j = idxT n A' i' j') : A = A' ∧ i = i' ∧ j = j' := by
  have h1 := place_lt hi hj
  have h2 := place_lt hi' hj'
  have hn : 0 < n := by omega
  have hnn : 0 < n * n := Nat.mul_pos hn hn
  unfold idxT at h
  have e1 : A = A' := by
    have := congrArg (· / (n * n)) h
    simp only [Nat.mul_comm _ (n * n), Nat.mul_add_div hnn, Nat.div_eq_of_lt h1, Nat.div_eq_of_lt h2, Nat.add_zero] at this
    exact this
  subst e1
  have h3 : i * n + j = i' * n + j' := by omega
  have e2 : i = i' := by
    have := congrArg (· / n) h3
    simp only [Nat.mul_comm _ n, Nat.mul_add_div hn, Nat.div_eq_of_lt hj, Nat.div_eq_of_lt hj', Nat.add_zero] at this
    exact this
  subst e2
  exact ⟨rfl, rfl, by omega⟩
theorem rgt_put {ls : List (List Int)} {i j : Nat} {l : List Int} (hi : i < ls.length) : rgt (ls.set i l) j = if j = i then l else rgt ls j := by
  simp only [rgt, List.getD_eq_getElem?_getD, List.getElem?_set]
  by_cases hij : i = j
  · subst hij
    simp [hi]
  · rw [if_neg hij, if_neg (fun e => hij e.symm)]
theorem getD_put {l : List Int} {i j : Nat} {x : Int} (hi : i < l.length) : (l.set i x).getD j 0 = if j = i then x else l.getD j 0 := by
  simp only [List.getD_eq_getElem?_getD, List.getElem?_set]
  by_cases hij : i = j
  · subst hij
    simp [hi]
  · rw [if_neg hij, if_neg (fun e => hij e.symm)]
structure LeafT (ls : List (List Int)) (nons n m : Nat) (t : Nat → Nat → Nat → Nat → Nat) : Prop where
  len : ls.length = nons * (n * n)
  row : ∀ A i j, A < nons → i < n → j < n → (rgt ls (idxT n A i j)).length = m + 1
  val : ∀ A i j k, A < nons → i < n → j < n → k ≤ m → (rgt ls (idxT n A i j)).getD k 0 = (t A i j k : Int)
theorem LeafT.congr {ls : List (List Int)} {nons n m : Nat} {t t' : Nat → Nat → Nat → Nat → Nat} (h : LeafT ls nons n m t) (he : ∀ A i j k, A < nons → i < n → j < n → k ≤ m → t' A i j k = t A i j k) : LeafT ls nons n m t' :=
  ⟨h.len, h.row, fun A i j k hA hi hj hk => by rw [h.val A i j k hA hi hj hk, he A i j k hA hi hj hk]⟩
theorem LeafT.put {ls : List (List Int)} {nons n m : Nat} {t t' : Nat → Nat → Nat → Nat → Nat} (h : LeafT ls nons n m t) {A i j k v : Nat} (hA : A < nons) (hi : i < n) (hj : j < n) (hk : k ≤ m) (h1 : t' A i j k = v)
    (h2 : ∀ A' i' j' k', A' < nons → i' < n → j' < n → k' ≤ m → ¬ (A' = A ∧ i' = i ∧ j' = j ∧ k' = k) → t' A' i' j' k' = t A' i' j' k') : LeafT (ls.set (idxT n A i j) ((rgt ls (idxT n A i j)).set k (v : Int))) nons n m t' := by
  have hlt : idxT n A i j < ls.length := by rw [h.len]; exact idxT_lt hA hi hj
  refine ⟨by rw [List.length_set]; exact h.len, fun A' i' j' hA' hi' hj' => ?_, fun A' i' j' k' hA' hi' hj' hk' => ?_⟩
  · rw [rgt_put hlt]
    split
    · rw [List.length_set]; exact h.row A i j hA hi hj
    · exact h.row A' i' j' hA' hi' hj'
  · rw [rgt_put hlt]
    split
    · rename_i he
      obtain ⟨rfl, rfl, rfl⟩ := idxT_inj hi' hj' hi hj he
      rw [getD_put (by rw [h.row _ _ _ hA hi hj]; omega)]
      split
      · rename_i hkk
        subst hkk
        rw [h1]
      · rename_i hkk
        rw [h.val _ _ _ _ hA hi hj hk', h2 _ _ _ _ hA hi hj hk' (fun hh => hkk hh.2.2.2)]
    · rename_i he
      rw [h.val _ _ _ _ hA' hi' hj' hk', h2 _ _ _ _ hA' hi' hj' hk' (fun hh => he (by rw [hh.1, hh.2.1, hh.2.2.1]))]
structure HeadT (hs : List (List Value)) (ps : Nat → Option Addr × Nat) (nons n m : Nat) : Prop where
  len : hs.length = nons
  row : ∀ A, A < nons → (vls hs A).length = n * n
  val : ∀ A p, A < nons → p < n * n → (vls hs A)[p]? = some (.slice (ps (A * (n * n) + p)).1 (m + 1) (ps (A * (n * n) + p)).2)
section
variable {e e1 e2 nons n m c B1 B2 : Nat} {w : World} {X : Option Addr} {hs : List (List Value)} {hp ps : Nat → Option Addr × Nat} {ls : List (List Int)} {t : Nat → Nat → Nat → Nat → Nat}
end
end Go.Sh

/- Contract: the reference's numbers of trees of all sizes (l10Sized). -/
set_option linter.unusedVariables false
set_option linter.unusedSimpArgs false
set_option maxRecDepth 100000
namespace Go.Sh
open Go
/-- Heads while they are laid: kk rows, c leaves. -/
structure HeadP (hs : List (List Value)) (ps : Nat → Option Addr × Nat) (nons nn m kk c : Nat) : Prop where
  len : hs.length = nons
  row : ∀ A, A < kk → (vls hs A).length = nn
  val : ∀ A p, A < kk → p < nn → A * nn + p < c → (vls hs A)[p]? = some (.slice (ps (A * nn + p)).1 (m + 1) (ps (A * nn + p)).2)
section
variable {P : Program} {k : Value → World → Prop} {w0 w : World} {L : List Thing}
end
end Go.Sh
namespace Go.Proofs.Ytiohaeckagjebaa
open Go Go.Sh Go.RowKit
end Go.Proofs.Ytiohaeckagjebaa

/- Contract: CountSized of the reference. -/
set_option linter.unusedVariables false
set_option linter.unusedSimpArgs false
set_option maxRecDepth 100000
namespace Go.Sh
open Go
end Go.Sh
namespace Go.Proofs.Ytiohaeckagjebaa
open Go Go.Sh Go.RowKit
end Go.Proofs.Ytiohaeckagjebaa

/- Contracts: sums and products kept at most one more than is told (the program's plus, times). -/
set_option linter.unusedVariables false
set_option linter.unusedSimpArgs false
set_option maxRecDepth 100000
namespace Go.Proofs.Ytiohaeckagjebaa
open Go Go.Sh Go.RowKit
end Go.Proofs.Ytiohaeckagjebaa

/- Contract: the program's numbers of trees by size (trees, rest). -/
set_option linter.unusedVariables false
set_option linter.unusedSimpArgs false
set_option maxRecDepth 100000
namespace Go.Sh
open Go
def keyV (a b c d : Nat) : Value := .agg #[.int .i64 (a : Int), .int .i64 (b : Int), .int .i64 (c : Int), .int .i64 (d : Int), .int .i64 0]
theorem keyV_inj {a b c d a' b' c' d' : Nat} (h : keyV a b c d = keyV a' b' c' d') : a = a' ∧ b = b' ∧ c = c' ∧ d = d' := by
  simp only [keyV, Value.agg.injEq, Array.mk.injEq, List.cons.injEq, Value.int.injEq, true_and, and_true, Int.natCast_inj] at h
  exact h
/-- What the memory holds. -/
def GoodC (M : Nat) (rs : List RuleL) (ws : List Int) (key v : Value) : Prop :=
  ∃ q p i j s : Nat, q ≤ 16 ∧ p ≤ 4 ∧ i ≤ 10 ∧ j ≤ 10 ∧ s ≤ 20 ∧ key = keyV (q * 5 + p) i j s ∧ v = .int .i64 ((min M (cntR (cntC rs ws) ws ((rul rs q).2.drop p) i j s) : Nat) : Int)
theorem GoodC.get {M : Nat} {rs : List RuleL} {ws : List Int} {q p i j s : Nat} {v : Value} (hp : p ≤ 4) (h : GoodC M rs ws (keyV (q * 5 + p) i j s) v) : v = .int .i64 ((min M (cntR (cntC rs ws) ws ((rul rs q).2.drop p) i j s) : Nat) : Int) := by
  obtain ⟨q', p', i', j', s', h1, h2, h3, h4, h5, h6, rfl⟩ := h
  obtain ⟨e1, rfl, rfl, rfl⟩ := keyV_inj h6
  obtain ⟨rfl, rfl⟩ : q = q' ∧ p = p' := by omega
  rfl
theorem rd_buildA {P : Program} {S : WS} {k : Value → Prop} {t e n sz by' : Nat} {z : Value} {qs : List (Nat × Value)} {cells : Array Value} {m : Nat} (ht : P.underlying t = some (.array n e)) (he : szOf P e m) (H : Inf P t z sz by') (hf : Instr.fill (fun i => some (i * m, m)) z.cells qs = some cells) : Rd P S (sBuild t qs) k = k (.agg cells) := rd_eq fun w _ => by
  obtain ⟨i, hi, hz, _, _⟩ := H
  have e0 : (zeroValue t).run P w = .ok z w := by simp [zeroValue, run_info hi, hz]
  simp only [sBuild, Instr.build, Sem.run_bind, e0, Result.andThen, run_underlying ht, run_size he, hf]
  rfl
end Go.Sh
namespace Go.Proofs.Ytiohaeckagjebaa
open Go Go.Sh Go.RowKit Go.WideMaps
end Go.Proofs.Ytiohaeckagjebaa

/- Contract: CountSized of the program. -/
set_option linter.unusedVariables false
set_option linter.unusedSimpArgs false
set_option maxRecDepth 100000
namespace Go.Sh
open Go
section
variable {P : Program} {k : Value → World → Prop} {w0 w : World} {L : List Thing} {Good : Value → Value → Prop}
end
end Go.Sh
namespace Go.Proofs.Ytiohaeckagjebaa
open Go Go.Sh Go.RowKit
end Go.Proofs.Ytiohaeckagjebaa

/- Contract: the program's table of least costs (costs). -/
set_option linter.unusedVariables false
set_option linter.unusedSimpArgs false
set_option maxRecDepth 100000
namespace Go.Sh
open Go
theorem fill125 {a b c x y m z0 z1 z2 z3 z4 z5 : Value} (hx : x.cells = #[x]) (hy : y.cells = #[y]) (hm : m.cells = #[m]) {R : List Value} (hR : R.length = 726) :
    Instr.fill ([(0, 3), (3, 1), (4, 1), (5, 726), (731, 1)].toArray[·]?) (z0 :: z1 :: z2 :: z3 :: z4 :: (R ++ [z5])).toArray [(0, .agg #[a, b, c]), (1, x), (2, y), (4, m)] = some (a :: b :: c :: x :: y :: (R ++ [m])).toArray := by
  have e : (Value.agg #[a, b, c]).cells = #[a, b, c] := rfl
  have hs : (R ++ [z5]).set 726 m = R ++ [m] := by
    rw [List.set_append_right _ _ (by omega), hR]
    rfl
  simp [Instr.fill, hx, hy, hm, e, hR, hs]
end Go.Sh
namespace Go.Proofs.Ytiohaeckagjebaa
open Go Go.Sh Go.RowKit
theorem inf125' : Inf Try.prog 125 (.agg (Value.int .i64 0 :: .int .i64 0 :: .slice none 0 0 :: .slice none 0 0 :: .slice none 0 0 :: (List.replicate 726 (Value.int .i64 0) ++ [.map none])).toArray) 732 5904 := inf_of (by kernel_rfl)
theorem bd125 (n t r x y m : Value) (hx : x.cells = #[x]) (hy : y.cells = #[y]) (hm : m.cells = #[m]) {S : WS} {k : Value → Prop} : Rd Try.prog S (sBuild 125 [(0, .agg #[n, t, r]), (1, x), (2, y), (4, m)]) k = k (.agg (n :: t :: r :: x :: y :: (List.replicate 726 (Value.int .i64 0) ++ [m])).toArray) :=
  rd_buildN (ps := [(0, 3), (3, 1), (4, 1), (5, 726), (731, 1)]) Try.underlying125 inf125' ⟨⟨rfl, sz37⟩, ⟨rfl, sz22⟩, ⟨rfl, sz22⟩, ⟨rfl, sz122⟩, ⟨rfl, sz123⟩, trivial⟩ (fill125 hx hy hm (List.length_replicate ..))
set_option maxHeartbeats 3200000 in
theorem costs_c {F : Nat → Prop} {w : World} {v : Value} {gm : Gram} {X Q : Option Addr} {cx n0 cq m0 : Nat} {ws cs : List Int} (hv : GramV F w v gm) (hg : goodG gm = true) (hQ : Ints w Q cs) (hm0 : m0 = cs.length) (hcs : CostsOk gm cs) (hX : Ints w X ws) (hn : n0 = ws.length) (hl : ws.length ≤ 10) (hw : ∀ t ∈ ws, 0 ≤ t ∧ t ≤ 100) {k : Value → World → Prop}
    (hk : ∀ w' b bm Y cy T, v = .agg #[.int .i64 gm.nons, .int .i64 gm.toks, .slice Y gm.rules.length cy] → gm.rules.length ≤ cy → RulesF F w Y gm.rules → Apt w w' [bx b (boxC b gm Y cy X cx ws Q cq cs T bm) 125, mpi (fun _ _ => False) bm] → FineC T → FixG (candC gm.rules ws cs) gm.rules (ws.length + 1) noCT T → k (ptrv b) w') :
    CallK Try.prog 115 [v, .slice Q m0 cq, .slice X n0 cx] k w := by
  subst hn hm0
  obtain ⟨Y, cy, rfl, hc, hy⟩ := hv
  have hn6 := good_nons hg
  have hr16 := good_len hg
  have hleft6 := good_left6 hg
  refine enter115 ?_
  unfold S115
  have H := Apt.nil w
  refine boxH H fun b1 w1 H => ?_
  rw [ldB_agg agg37 sz37 rfl (H.box 0 rfl)]
  refine makeMapH (Good := fun _ _ => False) H fun bm w2 H => ?_
  refine rdi (bd125 _ _ _ _ _ _ rfl rfl rfl) ?_
  refine boxH H fun b2 w2 H => ?_
  have H := H.insert 1
  obtain ⟨D, hD⟩ : ∃ D : Nat → List Value, D = fun c => .int .i64 gm.nons :: .int .i64 gm.toks :: .slice Y gm.rules.length cy :: .slice X ws.length cx :: .slice Q cs.length cq :: ((List.replicate c (Value.int .i64 (-1)) ++ List.replicate (726 - c) (Value.int .i64 0)) ++ [.map (some bm)]) := ⟨_, rfl⟩
  have hD0 : (Value.agg (Value.int .i64 gm.nons :: .int .i64 gm.toks :: .slice Y gm.rules.length cy :: .slice X ws.length cx :: .slice Q cs.length cq :: (List.replicate 726 (Value.int .i64 0) ++ [.map (some bm)])).toArray).cells.toList = D 0 := by rw [hD]; rfl
  have hD1 : D 726 = boxC b2 gm Y cy X cx ws Q cq cs noCT bm := by
    rw [hD, boxC, cellsE_none]
    simp only [Nat.sub_self, List.replicate_zero, List.append_nil]
  have hDl : ∀ c, c ≤ 726 → (D c).length = 732 := fun c hc => by
    rw [hD]
    simp only [List.length_cons, List.length_append, List.length_replicate, List.length_nil]
    omega
  have hDs : ∀ c, c < 726 → (D c).set (c + 5) (.int .i64 (-1)) = D (c + 1) := fun c hc => by
    rw [hD]
    simp only [List.set_cons_succ]
    rw [List.set_append_left _ _ (by simp; omega), part_set _ _ _ _ hc]
  rw [hD0] at H
  simp only [List.nil_append, List.cons_append, List.take_succ_cons, List.take_zero, List.drop_succ_cons, List.drop_zero] at H
  clear hD hD0
  refine loop_to 6 0 (fun A f w' => A ≤ 6 ∧ f 24 = .int .i64 A ∧ Apt w w' [bx b1 [.int .i64 gm.nons, .int .i64 gm.toks, .slice Y gm.rules.length cy] 37, bx b2 (D (A * 121)) 125, mpi (fun _ _ => False) bm])
    ⟨Nat.zero_le _, rfl, H⟩ ?_
  clear H
  rintro A f w3 N hag ⟨hA, h24, H⟩ hN
  have f7 : f 7 = ptrv b2 := hag 7 (by decide)
  have f2 : f 2 = .slice X ws.length cx := hag 2 (by decide)
  have f1 : f 1 = .slice Q cs.length cq := hag 1 (by decide)
  have f3 : f 3 = ptrv b1 := hag 3 (by decide)
  simp only [h24, bin_add, bin_sub, bin_mul, bin_eql, bin_neq, bin_lss, bin_leq, bin_gtr, bin_geq, un_not, un_neg, pick_true, pick_false, extract_two_0, extract_two_1, nilCheck_pointer, cond_true', cond_false', guard_tt, guard_ff, guard_tf, guard_ft, guard_undef, seqQ_normal, seqQ_ret, seqQ_exit, blockQ_ret, blockQ_normal, blockQ_exit, bodyQ_ret, bodyQ_normal, resK_nil, resK_tmp, ite_T, ite_F, upd_at, add_plain, add_zero', len22, len35, len48, fa37_0, fa37_1, fa37_2, fa77_0, fa77_1, fa103_0, fa103_1, fa125_0, fa125_1, fa125_2, fa125_3, fa125_4, Nat.reduceEqDiff]
  by_cases hA6 : A < 6
  · simp only [show (A : Int) < 6 from by omega, decide_true, bin_add, bin_sub, bin_mul, bin_eql, bin_neq, bin_lss, bin_leq, bin_gtr, bin_geq, un_not, un_neg, pick_true, pick_false, extract_two_0, extract_two_1, nilCheck_pointer, cond_true', cond_false', guard_tt, guard_ff, guard_tf, guard_ft, guard_undef, seqQ_normal, seqQ_ret, seqQ_exit, blockQ_ret, blockQ_normal, blockQ_exit, bodyQ_ret, bodyQ_normal, resK_nil, resK_tmp, ite_T, ite_F, upd_at, add_plain, add_zero', len22, len35, len48, fa37_0, fa37_1, fa37_2, fa77_0, fa77_1, fa103_0, fa103_1, fa125_0, fa125_1, fa125_2, fa125_3, fa125_4, Nat.reduceEqDiff]
    refine loop_to 11 0 (fun i f w' => i ≤ 11 ∧ f 27 = .int .i64 i ∧ Apt w w' [bx b1 [.int .i64 gm.nons, .int .i64 gm.toks, .slice Y gm.rules.length cy] 37, bx b2 (D (A * 121 + i * 11)) 125, mpi (fun _ _ => False) bm])
      ⟨Nat.zero_le _, rfl, H⟩ ?_
    clear H
    rintro i g w4 N2 hag2 ⟨hi, h27, H⟩ hN2
    have g7 : g 7 = ptrv b2 := (hag2 7 (by decide)).trans f7
    have g8 : g 8 = .int .i64 A := hag2 8 (by decide)
    have g24 : g 24 = .int .i64 A := (hag2 24 (by decide)).trans h24
    simp only [h27, g24, bin_add, bin_sub, bin_mul, bin_eql, bin_neq, bin_lss, bin_leq, bin_gtr, bin_geq, un_not, un_neg, pick_true, pick_false, extract_two_0, extract_two_1, nilCheck_pointer, cond_true', cond_false', guard_tt, guard_ff, guard_tf, guard_ft, guard_undef, seqQ_normal, seqQ_ret, seqQ_exit, blockQ_ret, blockQ_normal, blockQ_exit, bodyQ_ret, bodyQ_normal, resK_nil, resK_tmp, ite_T, ite_F, upd_at, add_plain, add_zero', len22, len35, len48, fa37_0, fa37_1, fa37_2, fa77_0, fa77_1, fa103_0, fa103_1, fa125_0, fa125_1, fa125_2, fa125_3, fa125_4, Nat.reduceEqDiff]
    by_cases hi9 : i < 11
    · simp only [show (i : Int) < 11 from by omega, decide_true, bin_add, bin_sub, bin_mul, bin_eql, bin_neq, bin_lss, bin_leq, bin_gtr, bin_geq, un_not, un_neg, pick_true, pick_false, extract_two_0, extract_two_1, nilCheck_pointer, cond_true', cond_false', guard_tt, guard_ff, guard_tf, guard_ft, guard_undef, seqQ_normal, seqQ_ret, seqQ_exit, blockQ_ret, blockQ_normal, blockQ_exit, bodyQ_ret, bodyQ_normal, resK_nil, resK_tmp, ite_T, ite_F, upd_at, add_plain, add_zero', len22, len35, len48, fa37_0, fa37_1, fa37_2, fa77_0, fa77_1, fa103_0, fa103_1, fa125_0, fa125_1, fa125_2, fa125_3, fa125_4, Nat.reduceEqDiff]
      refine loop_to 11 0 (fun j f w' => j ≤ 11 ∧ f 30 = .int .i64 j ∧ Apt w w' [bx b1 [.int .i64 gm.nons, .int .i64 gm.toks, .slice Y gm.rules.length cy] 37, bx b2 (D (A * 121 + i * 11 + j)) 125, mpi (fun _ _ => False) bm])
        ⟨Nat.zero_le _, rfl, H⟩ ?_
      clear H
      rintro j g1 w5 N3 hag3 ⟨hj, h30, H⟩ hN3
      have k7 : g1 7 = ptrv b2 := (hag3 7 (by decide)).trans g7
      have k8 : g1 8 = .int .i64 A := (hag3 8 (by decide)).trans g8
      have k9 : g1 9 = .int .i64 i := hag3 9 (by decide)
      have k27 : g1 27 = .int .i64 i := (hag3 27 (by decide)).trans h27
      simp only [h30, k7, k8, k9, k27, bin_add, bin_sub, bin_mul, bin_eql, bin_neq, bin_lss, bin_leq, bin_gtr, bin_geq, un_not, un_neg, pick_true, pick_false, extract_two_0, extract_two_1, nilCheck_pointer, cond_true', cond_false', guard_tt, guard_ff, guard_tf, guard_ft, guard_undef, seqQ_normal, seqQ_ret, seqQ_exit, blockQ_ret, blockQ_normal, blockQ_exit, bodyQ_ret, bodyQ_normal, resK_nil, resK_tmp, ite_T, ite_F, upd_at, add_plain, add_zero', len22, len35, len48, fa37_0, fa37_1, fa37_2, fa77_0, fa77_1, fa103_0, fa103_1, fa125_0, fa125_1, fa125_2, fa125_3, fa125_4, Nat.reduceEqDiff]
      by_cases hj9 : j < 11
      · simp only [show (j : Int) < 11 from by omega, decide_true, bin_add, bin_sub, bin_mul, bin_eql, bin_neq, bin_lss, bin_leq, bin_gtr, bin_geq, un_not, un_neg, pick_true, pick_false, extract_two_0, extract_two_1, nilCheck_pointer, cond_true', cond_false', guard_tt, guard_ff, guard_tf, guard_ft, guard_undef, seqQ_normal, seqQ_ret, seqQ_exit, blockQ_ret, blockQ_normal, blockQ_exit, bodyQ_ret, bodyQ_normal, resK_nil, resK_tmp, ite_T, ite_F, upd_at, add_plain, add_zero', len22, len35, len48, fa37_0, fa37_1, fa37_2, fa77_0, fa77_1, fa103_0, fa103_1, fa125_0, fa125_1, fa125_2, fa125_3, fa125_4, Nat.reduceEqDiff]
        rw [ixa122 (by omega) (by omega), ixa121 (by omega) (by omega), ixa120 (by omega) (by omega)]
        simp only [Int.toNat_natCast, bin_add, bin_sub, bin_mul, bin_eql, bin_neq, bin_lss, bin_leq, bin_gtr, bin_geq, un_not, un_neg, pick_true, pick_false, extract_two_0, extract_two_1, nilCheck_pointer, cond_true', cond_false', guard_tt, guard_ff, guard_tf, guard_ft, guard_undef, seqQ_normal, seqQ_ret, seqQ_exit, blockQ_ret, blockQ_normal, blockQ_exit, bodyQ_ret, bodyQ_normal, resK_nil, resK_tmp, ite_T, ite_F, upd_at, add_plain, add_zero', len22, len35, len48, fa37_0, fa37_1, fa37_2, fa77_0, fa77_1, fa103_0, fa103_1, fa125_0, fa125_1, fa125_2, fa125_3, fa125_4, Nat.reduceEqDiff]
        have hlen := hDl (A * 121 + i * 11 + j) (by omega)
        refine storeH H 1 rfl sz3 rfl rfl (by rw [Nat.ble_eq, hlen]; omega) fun w6 H => ?_
        rw [show (Value.int .i64 (-1)).cells.toList = [.int .i64 (-1)] from rfl, take_put_drop (by rw [hlen]; omega), show 0 + 5 + A * 121 + i * 11 + j = (A * 121 + i * 11 + j) + 5 from by omega, hDs _ (by omega)] at H
        simp only [List.set_cons_zero, List.set_cons_succ] at H
        rw [i64_of (by omega) (by omega)]
        exact hN3 _ _ hj9 ⟨hj9, rfl, H⟩
      · simp only [show ¬ (j : Int) < 11 from by omega, decide_false, bin_add, bin_sub, bin_mul, bin_eql, bin_neq, bin_lss, bin_leq, bin_gtr, bin_geq, un_not, un_neg, pick_true, pick_false, extract_two_0, extract_two_1, nilCheck_pointer, cond_true', cond_false', guard_tt, guard_ff, guard_tf, guard_ft, guard_undef, seqQ_normal, seqQ_ret, seqQ_exit, blockQ_ret, blockQ_normal, blockQ_exit, bodyQ_ret, bodyQ_normal, resK_nil, resK_tmp, ite_T, ite_F, upd_at, add_plain, add_zero', len22, len35, len48, fa37_0, fa37_1, fa37_2, fa77_0, fa77_1, fa103_0, fa103_1, fa125_0, fa125_1, fa125_2, fa125_3, fa125_4, Nat.reduceEqDiff]
        rw [i64_of (by omega) (by omega)]
        obtain rfl : j = 11 := by omega
        refine hN2 _ _ hi9 ⟨hi9, rfl, ?_⟩
        rw [show A * 121 + (i + 1) * 11 = A * 121 + i * 11 + 11 from by omega]
        exact H
    · simp only [show ¬ (i : Int) < 11 from by omega, decide_false, bin_add, bin_sub, bin_mul, bin_eql, bin_neq, bin_lss, bin_leq, bin_gtr, bin_geq, un_not, un_neg, pick_true, pick_false, extract_two_0, extract_two_1, nilCheck_pointer, cond_true', cond_false', guard_tt, guard_ff, guard_tf, guard_ft, guard_undef, seqQ_normal, seqQ_ret, seqQ_exit, blockQ_ret, blockQ_normal, blockQ_exit, bodyQ_ret, bodyQ_normal, resK_nil, resK_tmp, ite_T, ite_F, upd_at, add_plain, add_zero', len22, len35, len48, fa37_0, fa37_1, fa37_2, fa77_0, fa77_1, fa103_0, fa103_1, fa125_0, fa125_1, fa125_2, fa125_3, fa125_4, Nat.reduceEqDiff]
      rw [i64_of (by omega) (by omega)]
      obtain rfl : i = 11 := by omega
      refine hN _ _ hA6 ⟨hA6, rfl, ?_⟩
      rw [show (A + 1) * 121 = A * 121 + 11 * 11 from by omega]
      exact H
  simp only [show ¬ (A : Int) < 6 from by omega, decide_false, bin_add, bin_sub, bin_mul, bin_eql, bin_neq, bin_lss, bin_leq, bin_gtr, bin_geq, un_not, un_neg, pick_true, pick_false, extract_two_0, extract_two_1, nilCheck_pointer, cond_true', cond_false', guard_tt, guard_ff, guard_tf, guard_ft, guard_undef, seqQ_normal, seqQ_ret, seqQ_exit, blockQ_ret, blockQ_normal, blockQ_exit, bodyQ_ret, bodyQ_normal, resK_nil, resK_tmp, ite_T, ite_F, upd_at, add_plain, add_zero', len22, len35, len48, fa37_0, fa37_1, fa37_2, fa77_0, fa77_1, fa103_0, fa103_1, fa125_0, fa125_1, fa125_2, fa125_3, fa125_4, Nat.reduceEqDiff]
  obtain rfl : A = 6 := by omega
  rw [show 6 * 121 = 726 from rfl, hD1] at H
  clear hN hA6 hA h24 hD1 hDl hDs
  have hO := offerC (ws := ws) (cs := cs) (good_rules hg) (n := ws.length + 1) (by omega) (fun q hq => (hcs.at hq).2.2)
  have hp0 : ∀ q, q < gm.rules.length → 0 < costQ cs q := fun q hq => (hcs.at hq).2.1
  refine loop_ghost (fun (s : GS) f w' => fixSt (candC gm.rules ws cs) gm.rules (ws.length + 1) s ∧ FineC s.1 ∧ f 11 = .bool s.2 ∧ Apt w w' [bx b1 [.int .i64 gm.nons, .int .i64 gm.toks, .slice Y gm.rules.length cy] 37, bx b2 (boxC b2 gm Y cy X cx ws Q cq cs s.1 bm) 125, mpi (fun _ _ => False) bm]) (fun s => if s.2 = true then sumG s.1 + 1 else 0) (noCT, true)
    ⟨by unfold fixSt; rw [if_pos rfl]; exact fun U h => h, fineC_none, rfl, H⟩ ?_
  clear H
  rintro ⟨T, more⟩ fr w6 N2 hag2 ⟨hst, hS, h11, H⟩ hN2
  have f3' : fr 3 = ptrv b1 := (hag2 3 (by decide)).trans f3
  have f7' : fr 7 = ptrv b2 := (hag2 7 (by decide)).trans f7
  have f2' : fr 2 = .slice X ws.length cx := (hag2 2 (by decide)).trans f2
  have f1' : fr 1 = .slice Q cs.length cq := (hag2 1 (by decide)).trans f1
  simp only [h11, f3', bin_add, bin_sub, bin_mul, bin_eql, bin_neq, bin_lss, bin_leq, bin_gtr, bin_geq, un_not, un_neg, pick_true, pick_false, extract_two_0, extract_two_1, nilCheck_pointer, cond_true', cond_false', guard_tt, guard_ff, guard_tf, guard_ft, guard_undef, seqQ_normal, seqQ_ret, seqQ_exit, blockQ_ret, blockQ_normal, blockQ_exit, bodyQ_ret, bodyQ_normal, resK_nil, resK_tmp, ite_T, ite_F, upd_at, add_plain, add_zero', len22, len35, len48, fa37_0, fa37_1, fa37_2, fa77_0, fa77_1, fa103_0, fa103_1, fa125_0, fa125_1, fa125_2, fa125_3, fa125_4, Nat.reduceEqDiff]
  cases more
  · simp only [bin_add, bin_sub, bin_mul, bin_eql, bin_neq, bin_lss, bin_leq, bin_gtr, bin_geq, un_not, un_neg, pick_true, pick_false, extract_two_0, extract_two_1, nilCheck_pointer, cond_true', cond_false', guard_tt, guard_ff, guard_tf, guard_ft, guard_undef, seqQ_normal, seqQ_ret, seqQ_exit, blockQ_ret, blockQ_normal, blockQ_exit, bodyQ_ret, bodyQ_normal, resK_nil, resK_tmp, ite_T, ite_F, upd_at, add_plain, add_zero', len22, len35, len48, fa37_0, fa37_1, fa37_2, fa77_0, fa77_1, fa103_0, fa103_1, fa125_0, fa125_1, fa125_2, fa125_3, fa125_4, Nat.reduceEqDiff]
    rw [f7']
    refine hk _ b2 bm Y cy T rfl hc hy (H.erase 0) hS ?_
    unfold fixSt at hst
    rw [if_neg Bool.false_ne_true] at hst
    exact hst
  simp only [bin_add, bin_sub, bin_mul, bin_eql, bin_neq, bin_lss, bin_leq, bin_gtr, bin_geq, un_not, un_neg, pick_true, pick_false, extract_two_0, extract_two_1, nilCheck_pointer, cond_true', cond_false', guard_tt, guard_ff, guard_tf, guard_ft, guard_undef, seqQ_normal, seqQ_ret, seqQ_exit, blockQ_ret, blockQ_normal, blockQ_exit, bodyQ_ret, bodyQ_normal, resK_nil, resK_tmp, ite_T, ite_F, upd_at, add_plain, add_zero', len22, len35, len48, fa37_0, fa37_1, fa37_2, fa77_0, fa77_1, fa103_0, fa103_1, fa125_0, fa125_1, fa125_2, fa125_3, fa125_4, Nat.reduceEqDiff]
  rw [ldB35 (H.box 0 rfl) rfl]
  simp only [bin_add, bin_sub, bin_mul, bin_eql, bin_neq, bin_lss, bin_leq, bin_gtr, bin_geq, un_not, un_neg, pick_true, pick_false, extract_two_0, extract_two_1, nilCheck_pointer, cond_true', cond_false', guard_tt, guard_ff, guard_tf, guard_ft, guard_undef, seqQ_normal, seqQ_ret, seqQ_exit, blockQ_ret, blockQ_normal, blockQ_exit, bodyQ_ret, bodyQ_normal, resK_nil, resK_tmp, ite_T, ite_F, upd_at, add_plain, add_zero', len22, len35, len48, fa37_0, fa37_1, fa37_2, fa77_0, fa77_1, fa103_0, fa103_1, fa125_0, fa125_1, fa125_2, fa125_3, fa125_4, Nat.reduceEqDiff]
  refine loop_to gm.rules.length 0 (fun q f w' => q ≤ gm.rules.length ∧ f 49 = .int .i64 q ∧ f 11 = .bool ((List.range q).foldl (ruleG (candC gm.rules ws cs) gm.rules (ws.length + 1)) (T, false)).2 ∧ Apt w w' [bx b1 [.int .i64 gm.nons, .int .i64 gm.toks, .slice Y gm.rules.length cy] 37, bx b2 (boxC b2 gm Y cy X cx ws Q cq cs ((List.range q).foldl (ruleG (candC gm.rules ws cs) gm.rules (ws.length + 1)) (T, false)).1 bm) 125, mpi (fun _ _ => False) bm])
    ⟨Nat.zero_le _, rfl, rfl, H⟩ ?_
  clear H
  rintro q g1 w7 N3 hag3 ⟨hq, h49, h11', H⟩ hN3
  have e47 : g1 47 = .slice Y gm.rules.length cy := hag3 47 (by decide)
  have e48 : g1 48 = .int .i64 gm.rules.length := hag3 48 (by decide)
  have e7 : g1 7 = ptrv b2 := (hag3 7 (by decide)).trans f7'
  have e2 : g1 2 = .slice X ws.length cx := (hag3 2 (by decide)).trans f2'
  have e1 : g1 1 = .slice Q cs.length cq := (hag3 1 (by decide)).trans f1'
  simp only [e47, e48, e2, h49, bin_add, bin_sub, bin_mul, bin_eql, bin_neq, bin_lss, bin_leq, bin_gtr, bin_geq, un_not, un_neg, pick_true, pick_false, extract_two_0, extract_two_1, nilCheck_pointer, cond_true', cond_false', guard_tt, guard_ff, guard_tf, guard_ft, guard_undef, seqQ_normal, seqQ_ret, seqQ_exit, blockQ_ret, blockQ_normal, blockQ_exit, bodyQ_ret, bodyQ_normal, resK_nil, resK_tmp, ite_T, ite_F, upd_at, add_plain, add_zero', len22, len35, len48, fa37_0, fa37_1, fa37_2, fa77_0, fa77_1, fa103_0, fa103_1, fa125_0, fa125_1, fa125_2, fa125_3, fa125_4, Nat.reduceEqDiff]
  by_cases hlq : q < gm.rules.length
  case neg =>
    simp only [show ¬ ((q : Int) < gm.rules.length) from by omega, decide_false, bin_add, bin_sub, bin_mul, bin_eql, bin_neq, bin_lss, bin_leq, bin_gtr, bin_geq, un_not, un_neg, pick_true, pick_false, extract_two_0, extract_two_1, nilCheck_pointer, cond_true', cond_false', guard_tt, guard_ff, guard_tf, guard_ft, guard_undef, seqQ_normal, seqQ_ret, seqQ_exit, blockQ_ret, blockQ_normal, blockQ_exit, bodyQ_ret, bodyQ_normal, resK_nil, resK_tmp, ite_T, ite_F, upd_at, add_plain, add_zero', len22, len35, len48, fa37_0, fa37_1, fa37_2, fa77_0, fa77_1, fa103_0, fa103_1, fa125_0, fa125_1, fa125_2, fa125_3, fa125_4, Nat.reduceEqDiff]
    obtain rfl : q = gm.rules.length := by omega
    obtain ⟨hS', hdrop⟩ := passC_drop hO hp0 (s := (T, false)) hS
    refine hN2 (passG (candC gm.rules ws cs) gm.rules (ws.length + 1) (T, false)) _ _ ⟨fixSt_next hst, hS', h11', H⟩ ?_
    rw [if_pos rfl]
    rcases hdrop with he | ⟨h1, h2⟩
    · rw [he, if_neg Bool.false_ne_true]
      omega
    · rw [if_pos h1]
      dsimp only at h2 ⊢
      omega
  simp only [show ((q : Int) < gm.rules.length) from by omega, decide_true, bin_add, bin_sub, bin_mul, bin_eql, bin_neq, bin_lss, bin_leq, bin_gtr, bin_geq, un_not, un_neg, pick_true, pick_false, extract_two_0, extract_two_1, nilCheck_pointer, cond_true', cond_false', guard_tt, guard_ff, guard_tf, guard_ft, guard_undef, seqQ_normal, seqQ_ret, seqQ_exit, blockQ_ret, blockQ_normal, blockQ_exit, bodyQ_ret, bodyQ_normal, resK_nil, resK_tmp, ite_T, ite_F, upd_at, add_plain, add_zero', len22, len35, len48, fa37_0, fa37_1, fa37_2, fa77_0, fa77_1, fa103_0, fa103_1, fa125_0, fa125_1, fa125_2, fa125_3, fa125_4, Nat.reduceEqDiff]
  obtain ⟨Z, cz, t1, t2, t3, t4⟩ := hy.row q hlq
  have hleft := good_left hg hlq
  have hright := good_right hg hlq
  have hR4 := good_rule hg q hlq
  obtain ⟨xl, hxl⟩ : ∃ x : Nat, (rul gm.rules q).1 = x := ⟨(rul gm.rules q).1.toNat, by omega⟩
  rw [hxl] at t1 hleft
  refine rdi (ixn35 hy.ptr hlq) ?_
  rw [ld_agg agg77 sz77 (cs := [.int .i64 xl, .slice Z (rul gm.rules q).2.length cz]) rfl (fun j hj => by
    match j, hj with
    | 0, _ => rw [add_add, Nat.add_zero]; exact H.gr.cell t1
    | 1, _ => rw [add_add]; exact H.gr.cell t2)]
  refine allocH H inf77 fun b3 w8 H => ?_
  refine storeH H 3 rfl sz77 rfl rfl rfl fun w9 H => ?_
  simp only [List.nil_append, List.cons_append, List.set_cons_zero, List.set_cons_succ] at H
  generalize hN' : ws.length + 1 = n at *
  have hNi : ((ws.length : Int) + 1) = (n : Int) := by omega
  rw [hNi, i64_of (n := (n : Int)) (by omega) (by omega)]
  have hS0 := fine_rules hO hp0 (s := (T, false)) hS hq
  generalize hs0 : (List.range q).foldl (ruleG (candC gm.rules ws cs) gm.rules n) (T, false) = s0 at *
  refine loop_to n 0 (fun a f w' => a ≤ n ∧ f 57 = .int .i64 a ∧ f 11 = .bool ((List.range a).foldl (rowG (candC gm.rules ws cs) gm.rules n q) s0).2 ∧ Apt w w' [bx b1 [.int .i64 gm.nons, .int .i64 gm.toks, .slice Y gm.rules.length cy] 37, bx b2 (boxC b2 gm Y cy X cx ws Q cq cs ((List.range a).foldl (rowG (candC gm.rules ws cs) gm.rules n q) s0).1 bm) 125, mpi (fun _ _ => False) bm, bx b3 [.int .i64 xl, .slice Z (rul gm.rules q).2.length cz] 77])
    ⟨Nat.zero_le _, rfl, h11', H⟩ ?_
  clear H
  rintro a g2 w10 N4 hag4 ⟨ha, h57, h11a, H⟩ hN4
  have k56 : g2 56 = .int .i64 n := hag4 56 (by decide)
  have k7 : g2 7 = ptrv b2 := (hag4 7 (by decide)).trans e7
  have k2 : g2 2 = .slice X ws.length cx := (hag4 2 (by decide)).trans e2
  have k1 : g2 1 = .slice Q cs.length cq := (hag4 1 (by decide)).trans e1
  have k13 : g2 13 = ptrv b3 := hag4 13 (by decide)
  have k12 : g2 12 = .int .i64 q := hag4 12 (by decide)
  have k49 : g2 49 = .int .i64 q := (hag4 49 (by decide)).trans h49
  simp only [k56, h57, k49, bin_add, bin_sub, bin_mul, bin_eql, bin_neq, bin_lss, bin_leq, bin_gtr, bin_geq, un_not, un_neg, pick_true, pick_false, extract_two_0, extract_two_1, nilCheck_pointer, cond_true', cond_false', guard_tt, guard_ff, guard_tf, guard_ft, guard_undef, seqQ_normal, seqQ_ret, seqQ_exit, blockQ_ret, blockQ_normal, blockQ_exit, bodyQ_ret, bodyQ_normal, resK_nil, resK_tmp, ite_T, ite_F, upd_at, add_plain, add_zero', len22, len35, len48, fa37_0, fa37_1, fa37_2, fa77_0, fa77_1, fa103_0, fa103_1, fa125_0, fa125_1, fa125_2, fa125_3, fa125_4, Nat.reduceEqDiff]
  by_cases hla : a < n
  case neg =>
    simp only [show ¬ ((a : Int) < n) from by omega, decide_false, bin_add, bin_sub, bin_mul, bin_eql, bin_neq, bin_lss, bin_leq, bin_gtr, bin_geq, un_not, un_neg, pick_true, pick_false, extract_two_0, extract_two_1, nilCheck_pointer, cond_true', cond_false', guard_tt, guard_ff, guard_tf, guard_ft, guard_undef, seqQ_normal, seqQ_ret, seqQ_exit, blockQ_ret, blockQ_normal, blockQ_exit, bodyQ_ret, bodyQ_normal, resK_nil, resK_tmp, ite_T, ite_F, upd_at, add_plain, add_zero', len22, len35, len48, fa37_0, fa37_1, fa37_2, fa77_0, fa77_1, fa103_0, fa103_1, fa125_0, fa125_1, fa125_2, fa125_3, fa125_4, Nat.reduceEqDiff]
    rw [i64_of (by omega) (by omega)]
    have han : a = n := by omega
    rw [han] at h11a H
    have hstep : (List.range (q + 1)).foldl (ruleG (candC gm.rules ws cs) gm.rules n) (T, false) = (List.range n).foldl (rowG (candC gm.rules ws cs) gm.rules n q) s0 := by
      rw [foldl_range, hs0]
      rfl
    refine hN3 _ _ hlq ⟨hlq, rfl, ?_, ?_⟩
    · rw [hstep]
      exact h11a
    · rw [hstep]
      exact H.take 3
  simp only [show ((a : Int) < n) from by omega, decide_true, bin_add, bin_sub, bin_mul, bin_eql, bin_neq, bin_lss, bin_leq, bin_gtr, bin_geq, un_not, un_neg, pick_true, pick_false, extract_two_0, extract_two_1, nilCheck_pointer, cond_true', cond_false', guard_tt, guard_ff, guard_tf, guard_ft, guard_undef, seqQ_normal, seqQ_ret, seqQ_exit, blockQ_ret, blockQ_normal, blockQ_exit, bodyQ_ret, bodyQ_normal, resK_nil, resK_tmp, ite_T, ite_F, upd_at, add_plain, add_zero', len22, len35, len48, fa37_0, fa37_1, fa37_2, fa77_0, fa77_1, fa103_0, fa103_1, fa125_0, fa125_1, fa125_2, fa125_3, fa125_4, Nat.reduceEqDiff]
  have hS1 := fine_rows hO hp0 hS0 (a := a) hlq
  generalize hs1 : (List.range a).foldl (rowG (candC gm.rules ws cs) gm.rules n q) s0 = s1 at *
  refine loop_to n a (fun b f w' => a ≤ b ∧ b ≤ n ∧ f 15 = .int .i64 b ∧ f 11 = .bool ((List.range' a (b - a)).foldl (Sh.stepG (candC gm.rules ws cs) gm.rules q a) s1).2 ∧ Apt w w' [bx b1 [.int .i64 gm.nons, .int .i64 gm.toks, .slice Y gm.rules.length cy] 37, bx b2 (boxC b2 gm Y cy X cx ws Q cq cs ((List.range' a (b - a)).foldl (Sh.stepG (candC gm.rules ws cs) gm.rules q a) s1).1 bm) 125, mpi (fun _ _ => False) bm, bx b3 [.int .i64 xl, .slice Z (rul gm.rules q).2.length cz] 77])
    ⟨Nat.le_refl _, by omega, rfl, by rw [Nat.sub_self]; exact h11a, by rw [Nat.sub_self]; exact H⟩ ?_
  clear H
  rintro b g3 w11 N5 hag5 ⟨hb1, hb2, h15, h11b, H⟩ hN5
  have m7 : g3 7 = ptrv b2 := (hag5 7 (by decide)).trans k7
  have m2 : g3 2 = .slice X ws.length cx := (hag5 2 (by decide)).trans k2
  have m1 : g3 1 = .slice Q cs.length cq := (hag5 1 (by decide)).trans k1
  have m13 : g3 13 = ptrv b3 := (hag5 13 (by decide)).trans k13
  have m12 : g3 12 = .int .i64 q := (hag5 12 (by decide)).trans k12
  have m14 : g3 14 = .int .i64 a := hag5 14 (by decide)
  have m57 : g3 57 = .int .i64 a := (hag5 57 (by decide)).trans h57
  simp only [m7, m2, m1, m13, m12, m14, m57, h15, bin_add, bin_sub, bin_mul, bin_eql, bin_neq, bin_lss, bin_leq, bin_gtr, bin_geq, un_not, un_neg, pick_true, pick_false, extract_two_0, extract_two_1, nilCheck_pointer, cond_true', cond_false', guard_tt, guard_ff, guard_tf, guard_ft, guard_undef, seqQ_normal, seqQ_ret, seqQ_exit, blockQ_ret, blockQ_normal, blockQ_exit, bodyQ_ret, bodyQ_normal, resK_nil, resK_tmp, ite_T, ite_F, upd_at, add_plain, add_zero', len22, len35, len48, fa37_0, fa37_1, fa37_2, fa77_0, fa77_1, fa103_0, fa103_1, fa125_0, fa125_1, fa125_2, fa125_3, fa125_4, Nat.reduceEqDiff]
  by_cases hlb : b < n
  case neg =>
    simp only [show ¬ ((b : Int) ≤ ws.length) from by omega, decide_false, bin_add, bin_sub, bin_mul, bin_eql, bin_neq, bin_lss, bin_leq, bin_gtr, bin_geq, un_not, un_neg, pick_true, pick_false, extract_two_0, extract_two_1, nilCheck_pointer, cond_true', cond_false', guard_tt, guard_ff, guard_tf, guard_ft, guard_undef, seqQ_normal, seqQ_ret, seqQ_exit, blockQ_ret, blockQ_normal, blockQ_exit, bodyQ_ret, bodyQ_normal, resK_nil, resK_tmp, ite_T, ite_F, upd_at, add_plain, add_zero', len22, len35, len48, fa37_0, fa37_1, fa37_2, fa77_0, fa77_1, fa103_0, fa103_1, fa125_0, fa125_1, fa125_2, fa125_3, fa125_4, Nat.reduceEqDiff]
    rw [i64_of (by omega) (by omega)]
    have hbn : b = n := by omega
    rw [hbn] at h11b H
    have hstep : (List.range (a + 1)).foldl (rowG (candC gm.rules ws cs) gm.rules n q) s0 = (List.range' a (n - a)).foldl (Sh.stepG (candC gm.rules ws cs) gm.rules q a) s1 := by
      rw [foldl_range, hs1]
      rfl
    refine hN4 _ _ hla ⟨hla, rfl, ?_, ?_⟩
    · rw [hstep]
      exact h11b
    · rw [hstep]
      exact H
  simp only [show ((b : Int) ≤ ws.length) from by omega, decide_true, bin_add, bin_sub, bin_mul, bin_eql, bin_neq, bin_lss, bin_leq, bin_gtr, bin_geq, un_not, un_neg, pick_true, pick_false, extract_two_0, extract_two_1, nilCheck_pointer, cond_true', cond_false', guard_tt, guard_ff, guard_tf, guard_ft, guard_undef, seqQ_normal, seqQ_ret, seqQ_exit, blockQ_ret, blockQ_normal, blockQ_exit, bodyQ_ret, bodyQ_normal, resK_nil, resK_tmp, ite_T, ite_F, upd_at, add_plain, add_zero', len22, len35, len48, fa37_0, fa37_1, fa37_2, fa77_0, fa77_1, fa103_0, fa103_1, fa125_0, fa125_1, fa125_2, fa125_3, fa125_4, Nat.reduceEqDiff]
  have hstep : (List.range' a (b + 1 - a)).foldl (Sh.stepG (candC gm.rules ws cs) gm.rules q a) s1 = Sh.stepG (candC gm.rules ws cs) gm.rules q a ((List.range' a (b - a)).foldl (Sh.stepG (candC gm.rules ws cs) gm.rules q a) s1) b := by
    rw [show b + 1 - a = b - a + 1 from by omega, foldl_range', show a + (b - a) = b from by omega]
  have hS2 := fine_steps hO hp0 hS1 (a := a) hlq hb2
  generalize hs2 : (List.range' a (b - a)).foldl (Sh.stepG (candC gm.rules ws cs) gm.rules q a) s1 = s2 at *
  have hxn : xl < 6 := by omega
  refine join_as (fun g w' => g 15 = .int .i64 (b : Int) ∧ g 11 = .bool (Sh.stepG (candC gm.rules ws cs) gm.rules q a s2 b).2 ∧ Apt w w' [bx b1 [.int .i64 gm.nons, .int .i64 gm.toks, .slice Y gm.rules.length cy] 37, bx b2 (boxC b2 gm Y cy X cx ws Q cq cs (Sh.stepG (candC gm.rules ws cs) gm.rules q a s2 b).1 bm) 125, mpi (fun _ _ => False) bm, bx b3 [.int .i64 xl, .slice Z (rul gm.rules q).2.length cz] 77]) (fun K hK => ?_) ?_
  case refine_2 =>
    rintro g w' ⟨g15, g11, H⟩
    simp only [g15, go_sem, Nat.reduceEqDiff]
    rw [i64_of (by omega) (by omega)]
    refine hN5 _ _ hlb ⟨by omega, hlb, rfl, ?_, ?_⟩
    · rw [hstep]
      exact g11
    · rw [hstep]
      exact H
  rw [ldB22 (H.box 3 rfl) rfl]
  refine costRest_c hl hw (rul gm.rules q).2 (H.box 1 rfl) hS2.1 (hX.gr H.gr) (t4.is.gr H.gr) t3 hR4 (fun x hx => by have := hright x hx; omega) hb1 (by omega) ?_
  have H := H.drew
  rw [ldB3 (H.box 3 rfl) rfl]
  simp only [bin_add, bin_sub, bin_mul, bin_eql, bin_neq, bin_lss, bin_leq, bin_gtr, bin_geq, un_not, un_neg, pick_true, pick_false, extract_two_0, extract_two_1, nilCheck_pointer, cond_true', cond_false', guard_tt, guard_ff, guard_tf, guard_ft, guard_undef, seqQ_normal, seqQ_ret, seqQ_exit, blockQ_ret, blockQ_normal, blockQ_exit, bodyQ_ret, bodyQ_normal, resK_nil, resK_tmp, ite_T, ite_F, upd_at, add_plain, add_zero', len22, len35, len48, fa37_0, fa37_1, fa37_2, fa77_0, fa77_1, fa103_0, fa103_1, fa125_0, fa125_1, fa125_2, fa125_3, fa125_4, Nat.reduceEqDiff]
  rw [ixa122 (by omega) (by omega), ixa121 (by omega) (by omega), ixa120 (by omega) (by omega)]
  simp only [Int.toNat_natCast, bin_add, bin_sub, bin_mul, bin_eql, bin_neq, bin_lss, bin_leq, bin_gtr, bin_geq, un_not, un_neg, pick_true, pick_false, extract_two_0, extract_two_1, nilCheck_pointer, cond_true', cond_false', guard_tt, guard_ff, guard_tf, guard_ft, guard_undef, seqQ_normal, seqQ_ret, seqQ_exit, blockQ_ret, blockQ_normal, blockQ_exit, bodyQ_ret, bodyQ_normal, resK_nil, resK_tmp, ite_T, ite_F, upd_at, add_plain, add_zero', len22, len35, len48, fa37_0, fa37_1, fa37_2, fa77_0, fa77_1, fa103_0, fa103_1, fa125_0, fa125_1, fa125_2, fa125_3, fa125_4, Nat.reduceEqDiff]
  have H := H.drew
  obtain ⟨hcq, hc0, hc1⟩ := hcs.at hlq
  have hql : q < cs.length := by rw [hcs.len]; exact hlq
  have hQc := (hQ.gr H.gr).cell q hql
  rw [hcq] at hQc
  have hQp : 0 < cs.length → Q = some (ad Q) := hQ.ptr
  have hcell := boxC_at (b := b2) (gm := gm) (Y := Y) (cy := cy) (X := X) (cx := cx) (ws := ws) (Z := Q) (cz := cq) (cs := cs) (T := s2.1) (bm := bm) hxn (show a < 11 by omega) (show b < 11 by omega)
  have stay : Sh.stepG (candC gm.rules ws cs) gm.rules q a s2 b = s2 → ∀ f', f' 15 = .int .i64 (b : Int) → f' 11 = .bool s2.2 → K f' w11.drew.drew := fun he f' q13 q9 => hK f' _ ⟨q13, by rw [he]; exact q9, by rw [he]; exact H⟩
  cases hr : restG (tokC ws) nl0 s2.1 (rul gm.rules q).2 a b with
  | none =>
    simp only [encM_n, show ¬ ((0 : Int) ≤ -1) from by omega, decide_false, bin_add, bin_sub, bin_mul, bin_eql, bin_neq, bin_lss, bin_leq, bin_gtr, bin_geq, un_not, un_neg, pick_true, pick_false, extract_two_0, extract_two_1, nilCheck_pointer, cond_true', cond_false', guard_tt, guard_ff, guard_tf, guard_ft, guard_undef, seqQ_normal, seqQ_ret, seqQ_exit, blockQ_ret, blockQ_normal, blockQ_exit, bodyQ_ret, bodyQ_normal, resK_nil, resK_tmp, ite_T, ite_F, upd_at, add_plain, add_zero', len22, len35, len48, fa37_0, fa37_1, fa37_2, fa77_0, fa77_1, fa103_0, fa103_1, fa125_0, fa125_1, fa125_2, fa125_3, fa125_4, Nat.reduceEqDiff]
    exact stay (stepG_none (candC_none hr)) _ h15 h11b
  | some r =>
    have hcand := candC_some (cs := cs) hr
    have hrs := rest_small hS2.1 (tokC_small ws) nl0_small hR4 hb1 (by omega) hr
    simp only [encM_s, show ((0 : Int) ≤ (r : Int)) from by omega, decide_true, bin_add, bin_sub, bin_mul, bin_eql, bin_neq, bin_lss, bin_leq, bin_gtr, bin_geq, un_not, un_neg, pick_true, pick_false, extract_two_0, extract_two_1, nilCheck_pointer, cond_true', cond_false', guard_tt, guard_ff, guard_tf, guard_ft, guard_undef, seqQ_normal, seqQ_ret, seqQ_exit, blockQ_ret, blockQ_normal, blockQ_exit, bodyQ_ret, bodyQ_normal, resK_nil, resK_tmp, ite_T, ite_F, upd_at, add_plain, add_zero', len22, len35, len48, fa37_0, fa37_1, fa37_2, fa77_0, fa77_1, fa103_0, fa103_1, fa125_0, fa125_1, fa125_2, fa125_3, fa125_4, Nat.reduceEqDiff]
    rw [ldB3 (H.box 1 rfl) hcell]
    have hoff : 0 + 5 + xl * 121 + a * 11 + b = xl * (11 * 11) + (a * 11 + b) + 1 + 1 + 1 + 1 + 1 := by omega
    have put : better (r + costQ cs q) (s2.1 xl a b) = true → ∀ (f' : Sh.F) (w' : World), f' 15 = .int .i64 (b : Int) → f' 11 = .bool true → Apt w w' [bx b1 [.int .i64 gm.nons, .int .i64 gm.toks, .slice Y gm.rules.length cy] 37, bx b2 (List.take (0 + 5 + xl * 121 + a * 11 + b) (boxC b2 gm Y cy X cx ws Q cq cs s2.1 bm) ++ (Value.int .i64 ((r : Int) + (costQ cs q : Int))).cells.toList ++ List.drop (0 + 5 + xl * 121 + a * 11 + b + 1) (boxC b2 gm Y cy X cx ws Q cq cs s2.1 bm)) 125, mpi (fun _ _ => False) bm, bx b3 [.int .i64 xl, .slice Z (rul gm.rules q).2.length cz] 77] → K f' w' := fun hb f' w' q13 q9 H' => by
      have he := stepG_put (rs := gm.rules) hcand (by rw [hxl, Int.toNat_natCast]; exact hb)
      rw [hxl, Int.toNat_natCast] at he
      rw [show (Value.int .i64 ((r : Int) + (costQ cs q : Int))).cells.toList = [.int .i64 ((r + costQ cs q : Nat) : Int)] from by push_cast; rfl, take_put_drop (by simp only [boxC, List.length_cons, List.length_append, cellsE_length]; omega), hoff] at H'
      simp only [boxC, List.set_cons_succ] at H'
      rw [List.set_append_left _ _ (by rw [cellsE_length]; exact spot_lt hxn (by omega) (by omega)), cellsE_put hxn (by omega) (by omega)] at H'
      exact hK f' w' ⟨q13, by rw [he]; exact q9, by rw [he]; exact H'⟩
    have dont : ¬ better (r + costQ cs q) (s2.1 xl a b) = true → Sh.stepG (candC gm.rules ws cs) gm.rules q a s2 b = s2 := fun hb => stepG_stay hcand (by rw [hxl, Int.toNat_natCast]; exact hb)
    have hbl : Nat.ble (0 + 5 + xl * 121 + a * 11 + b + 1) (boxC b2 gm Y cy X cx ws Q cq cs s2.1 bm).length = true := by
      rw [Nat.ble_eq]
      simp only [boxC, List.length_cons, List.length_append, cellsE_length]
      omega
    cases ho : s2.1 xl a b with
    | none =>
      simp only [encM_n, show ((-1 : Int) < 0) from by omega, decide_true, bin_add, bin_sub, bin_mul, bin_eql, bin_neq, bin_lss, bin_leq, bin_gtr, bin_geq, un_not, un_neg, pick_true, pick_false, extract_two_0, extract_two_1, nilCheck_pointer, cond_true', cond_false', guard_tt, guard_ff, guard_tf, guard_ft, guard_undef, seqQ_normal, seqQ_ret, seqQ_exit, blockQ_ret, blockQ_normal, blockQ_exit, bodyQ_ret, bodyQ_normal, resK_nil, resK_tmp, ite_T, ite_F, upd_at, add_plain, add_zero', len22, len35, len48, fa37_0, fa37_1, fa37_2, fa77_0, fa77_1, fa103_0, fa103_1, fa125_0, fa125_1, fa125_2, fa125_3, fa125_4, Nat.reduceEqDiff]
      refine rdi (ixn22 hQp hql) (rdi (ld3 hQc) ?_)
      simp only [bin_add, bin_sub, bin_mul, bin_eql, bin_neq, bin_lss, bin_leq, bin_gtr, bin_geq, un_not, un_neg, pick_true, pick_false, extract_two_0, extract_two_1, nilCheck_pointer, cond_true', cond_false', guard_tt, guard_ff, guard_tf, guard_ft, guard_undef, seqQ_normal, seqQ_ret, seqQ_exit, blockQ_ret, blockQ_normal, blockQ_exit, bodyQ_ret, bodyQ_normal, resK_nil, resK_tmp, ite_T, ite_F, upd_at, add_plain, add_zero', len22, len35, len48, fa37_0, fa37_1, fa37_2, fa77_0, fa77_1, fa103_0, fa103_1, fa125_0, fa125_1, fa125_2, fa125_3, fa125_4, Nat.reduceEqDiff]
      rw [i64_of (n := (r : Int) + (costQ cs q : Int)) (by omega) (by omega)]
      refine storeH H 1 rfl sz3 rfl rfl hbl fun w13 H => ?_
      simp only [List.set_cons_zero, List.set_cons_succ] at H
      exact put (by rw [ho]; rfl) _ _ h15 rfl H
    | some o =>
      rw [ho] at hcell
      simp only [encM_s, show ¬ ((o : Int) < 0) from by omega, decide_false, bin_add, bin_sub, bin_mul, bin_eql, bin_neq, bin_lss, bin_leq, bin_gtr, bin_geq, un_not, un_neg, pick_true, pick_false, extract_two_0, extract_two_1, nilCheck_pointer, cond_true', cond_false', guard_tt, guard_ff, guard_tf, guard_ft, guard_undef, seqQ_normal, seqQ_ret, seqQ_exit, blockQ_ret, blockQ_normal, blockQ_exit, bodyQ_ret, bodyQ_normal, resK_nil, resK_tmp, ite_T, ite_F, upd_at, add_plain, add_zero', len22, len35, len48, fa37_0, fa37_1, fa37_2, fa77_0, fa77_1, fa103_0, fa103_1, fa125_0, fa125_1, fa125_2, fa125_3, fa125_4, Nat.reduceEqDiff]
      refine rdi (ixn22 hQp hql) (rdi (ld3 hQc) ?_)
      simp only [bin_add, bin_sub, bin_mul, bin_eql, bin_neq, bin_lss, bin_leq, bin_gtr, bin_geq, un_not, un_neg, pick_true, pick_false, extract_two_0, extract_two_1, nilCheck_pointer, cond_true', cond_false', guard_tt, guard_ff, guard_tf, guard_ft, guard_undef, seqQ_normal, seqQ_ret, seqQ_exit, blockQ_ret, blockQ_normal, blockQ_exit, bodyQ_ret, bodyQ_normal, resK_nil, resK_tmp, ite_T, ite_F, upd_at, add_plain, add_zero', len22, len35, len48, fa37_0, fa37_1, fa37_2, fa77_0, fa77_1, fa103_0, fa103_1, fa125_0, fa125_1, fa125_2, fa125_3, fa125_4, Nat.reduceEqDiff]
      rw [i64_of (n := (r : Int) + (costQ cs q : Int)) (by omega) (by omega)]
      rw [ldB3 (H.box 1 rfl) hcell]
      simp only [encM_s, bin_add, bin_sub, bin_mul, bin_eql, bin_neq, bin_lss, bin_leq, bin_gtr, bin_geq, un_not, un_neg, pick_true, pick_false, extract_two_0, extract_two_1, nilCheck_pointer, cond_true', cond_false', guard_tt, guard_ff, guard_tf, guard_ft, guard_undef, seqQ_normal, seqQ_ret, seqQ_exit, blockQ_ret, blockQ_normal, blockQ_exit, bodyQ_ret, bodyQ_normal, resK_nil, resK_tmp, ite_T, ite_F, upd_at, add_plain, add_zero', len22, len35, len48, fa37_0, fa37_1, fa37_2, fa77_0, fa77_1, fa103_0, fa103_1, fa125_0, fa125_1, fa125_2, fa125_3, fa125_4, Nat.reduceEqDiff]
      by_cases hmo : r + costQ cs q < o
      · simp only [show ((r : Int) + (costQ cs q : Int) < (o : Int)) from by omega, decide_true, bin_add, bin_sub, bin_mul, bin_eql, bin_neq, bin_lss, bin_leq, bin_gtr, bin_geq, un_not, un_neg, pick_true, pick_false, extract_two_0, extract_two_1, nilCheck_pointer, cond_true', cond_false', guard_tt, guard_ff, guard_tf, guard_ft, guard_undef, seqQ_normal, seqQ_ret, seqQ_exit, blockQ_ret, blockQ_normal, blockQ_exit, bodyQ_ret, bodyQ_normal, resK_nil, resK_tmp, ite_T, ite_F, upd_at, add_plain, add_zero', len22, len35, len48, fa37_0, fa37_1, fa37_2, fa77_0, fa77_1, fa103_0, fa103_1, fa125_0, fa125_1, fa125_2, fa125_3, fa125_4, Nat.reduceEqDiff]
        refine rdi (ixn22 hQp hql) (rdi (ld3 hQc) ?_)
        simp only [bin_add, bin_sub, bin_mul, bin_eql, bin_neq, bin_lss, bin_leq, bin_gtr, bin_geq, un_not, un_neg, pick_true, pick_false, extract_two_0, extract_two_1, nilCheck_pointer, cond_true', cond_false', guard_tt, guard_ff, guard_tf, guard_ft, guard_undef, seqQ_normal, seqQ_ret, seqQ_exit, blockQ_ret, blockQ_normal, blockQ_exit, bodyQ_ret, bodyQ_normal, resK_nil, resK_tmp, ite_T, ite_F, upd_at, add_plain, add_zero', len22, len35, len48, fa37_0, fa37_1, fa37_2, fa77_0, fa77_1, fa103_0, fa103_1, fa125_0, fa125_1, fa125_2, fa125_3, fa125_4, Nat.reduceEqDiff]
        rw [i64_of (n := (r : Int) + (costQ cs q : Int)) (by omega) (by omega)]
        refine storeH H 1 rfl sz3 rfl rfl hbl fun w13 H => ?_
        simp only [List.set_cons_zero, List.set_cons_succ] at H
        exact put (by rw [ho]; exact decide_eq_true hmo) _ _ h15 rfl H
      · simp only [show ¬ ((r : Int) + (costQ cs q : Int) < (o : Int)) from by omega, decide_false, bin_add, bin_sub, bin_mul, bin_eql, bin_neq, bin_lss, bin_leq, bin_gtr, bin_geq, un_not, un_neg, pick_true, pick_false, extract_two_0, extract_two_1, nilCheck_pointer, cond_true', cond_false', guard_tt, guard_ff, guard_tf, guard_ft, guard_undef, seqQ_normal, seqQ_ret, seqQ_exit, blockQ_ret, blockQ_normal, blockQ_exit, bodyQ_ret, bodyQ_normal, resK_nil, resK_tmp, ite_T, ite_F, upd_at, add_plain, add_zero', len22, len35, len48, fa37_0, fa37_1, fa37_2, fa77_0, fa77_1, fa103_0, fa103_1, fa125_0, fa125_1, fa125_2, fa125_3, fa125_4, Nat.reduceEqDiff]
        exact stay (dont (by rw [ho]; intro h; exact hmo (of_decide_eq_true h))) _ h15 h11b
end Go.Proofs.Ytiohaeckagjebaa

/- Contracts: the least tree with the least cost, the least row of trees (the program's least, leastRest). -/
set_option linter.unusedVariables false
set_option linter.unusedSimpArgs false
set_option maxRecDepth 100000
namespace Go.Sh
open Go
def key3 (a b c : Nat) : Value := .agg #[.int .i64 (a : Int), .int .i64 (b : Int), .int .i64 (c : Int)]
theorem key3_inj {a b c a' b' c' : Nat} (h : key3 a b c = key3 a' b' c') : a = a' ∧ b = b' ∧ c = c' := by
  simp only [key3, Value.agg.injEq, Array.mk.injEq, List.cons.injEq, Value.int.injEq, true_and, and_true, Int.natCast_inj] at h
  exact h
/-- What one place offers, for any symbol. -/
def termG (tr : Nat → Nat → Nat → List Int) (ws : List Int) (T : CT) (x : Int) (xs : List Int) (i j : Nat) (z : Nat) (m : Nat) : Option (List Int) :=
  if addO (oneG (tokC ws) T x i (i + m)) (restG (tokC ws) nl0 T xs (i + m) j) = some z then some ((if x < 0 then [] else tr x.toNat i (i + m)) ++ bestRow tr ws T xs (i + m) j) else none
theorem minL_single {f : Nat → Option (List Int)} {p : Nat} : ∀ {k : Nat}, p < k → (∀ m, m < k → m ≠ p → f m = none) → minL f k = f p := by
  intro k
  induction k with
  | zero => intro h; omega
  | succ k ih =>
    intro h h1
    by_cases hp : p = k
    · subst hp
      have h0 : minL f p = none := by
        cases hm : minL f p with
        | none => rfl
        | some x =>
          obtain ⟨m, h2, h3⟩ := minL_some hm
          rw [h1 m (by omega) (by omega)] at h3
          cases h3
      cases hf : f p with
      | none => rw [minL_none hf, h0]
      | some x => rw [minL_first hf h0]
    · rw [minL_none (h1 k (by omega) fun e => hp e.symm)]
      exact ih (by omega) fun m hm => h1 m (by omega)
theorem termG_row {tr : Nat → Nat → Nat → List Int} {ws : List Int} {T : CT} {x : Int} {xs : List Int} {i j z : Nat} (hz : restG (tokC ws) nl0 T (x :: xs) i j = some z) : bestRow tr ws T (x :: xs) i j = (minL (termG tr ws T x xs i j z) (j + 1 - i)).getD [] := by
  by_cases hx : x < 0
  · rw [bestRow, if_pos hx]
    rw [rest_tok hx] at hz
    split at hz
    · rename_i h
      have hone : ∀ m, oneG (tokC ws) T x i (i + m) = if m = 1 then some 0 else none := fun m => by
        unfold oneG tokC
        rw [if_pos hx]
        by_cases h' : m = 1
        · rw [if_pos h', if_pos ⟨by omega, h.2⟩]
        · rw [if_neg h', if_neg (fun e => h' (by omega))]
      rw [minL_single (p := 1) (by omega) fun m hm hne => by
        unfold termG
        rw [hone, if_neg hne]
        exact if_neg (by intro h; cases h)]
      unfold termG
      rw [hone, if_pos rfl, hz, if_pos (show addO (some 0) (some z) = some z from by show some (0 + z) = some z; rw [Nat.zero_add]), if_pos hx]
      rfl
    · cases hz
  · rw [bestRow, if_neg hx]
    congr 1
    refine minL_congr fun m hm => ?_
    unfold termB termG oneG
    rw [if_neg hx, if_neg hx, hz]
    by_cases h : addO (T x.toNat i (i + m)) (restG (tokC ws) nl0 T xs (i + m) j) = some z
    · rw [if_pos ⟨by rw [h]; rfl, h⟩, if_pos h]
    · rw [if_neg (fun e => h e.2), if_neg h]
/-- What is known is right. -/
def GoodB (rs : List RuleL) (ws cs : List Int) (T : CT) (ents : List Ent) : Prop :=
  ∀ t ∈ ents, ∃ A i j n Y d, A < 6 ∧ i ≤ 10 ∧ j ≤ 10 ∧ t.key = key3 A i j ∧ T A i j = some n ∧ t.val = .slice Y (bestTr rs ws cs T bigF A i j).length d ∧ t.it = rwi 3 1 Y (bestTr rs ws cs T bigF A i j).length d (ints (bestTr rs ws cs T bigF A i j))
theorem boxC_map {b : Nat} {gm : Gram} {Y : Option Addr} {cy : Nat} {X : Option Addr} {cx : Nat} {ws : List Int} {Z : Option Addr} {cz : Nat} {cs : List Int} {T : CT} {bm : Nat} : (Go.Proofs.Ytiohaeckagjebaa.boxC b gm Y cy X cx ws Z cz cs T bm)[0 + 731]? = some (.map (some bm)) := by
  rw [show 0 + 731 = 726 + 1 + 1 + 1 + 1 + 1 from rfl]
  simp only [Go.Proofs.Ytiohaeckagjebaa.boxC, List.getElem?_cons_succ]
  have hl : (cellsE 11 T).length = 726 := cellsE_length 11 T
  rw [List.getElem?_append_right (by omega), hl]
  rfl
end Go.Sh
namespace Go.Proofs.Ytiohaeckagjebaa
open Go Go.Sh Go.RowKit Go.WideMaps
theorem map123 : Try.prog.underlying 123 = some (.map 172 22) := by kernel_rfl
theorem inf172' : Inf Try.prog 172 (.agg #[.int .i64 0, .int .i64 0, .int .i64 0]) 3 24 := inf_of (by kernel_rfl)
theorem bd172 {S : WS} {k : Value → Prop} {a b c : Int} : Rd Try.prog S (sBuild 172 [(0, .int .i64 a), (1, .int .i64 b), (2, .int .i64 c)]) k = k (.agg #[.int .i64 a, .int .i64 b, .int .i64 c]) :=
  rd_buildA u172 sz3 inf172' rfl
theorem zero22 (w : World) : (zeroValue 22).run Try.prog w = .ok (.slice none 0 0) w := by
  obtain ⟨i, hi, hz, _, _⟩ := inf22
  simp [zeroValue, run_info hi, hz]
theorem key3_key {a b c : Nat} (ha : a ≤ 1000) (hb : b ≤ 1000) (hc : c ≤ 1000) : ∃ l, keyOf Try.prog 172 (key3 a b c) = some l :=
  key172 (wf64 (by omega)) (wf64 (by omega)) (wf64 (by omega))
theorem goodB_key {rs : List RuleL} {ws cs : List Int} {T : CT} {ents : List Ent} (h : GoodB rs ws cs T ents) : ∀ e ∈ ents, ∃ l, keyOf Try.prog 172 e.key = some l := fun e he => by
  obtain ⟨A, i, j, n, Y, d, h1, h2, h3, h4, _⟩ := h e he
  rw [h4]
  exact key3_key (by omega) (by omega) (by omega)
section
variable {F : Nat → Prop} {w0 : World} {gm : Gram} {Y X Q : Option Addr} {cy cx cq bc bm nons : Nat} {ws cs : List Int} {T : CT} {M : List Ent → List Value → List Thing → List Thing}
set_option maxHeartbeats 3200000 in
theorem leastRest_of (hg : goodG gm = true) (hcs : CostsOk gm cs) (hl : ws.length ≤ 10) (hw : ∀ t ∈ ws, 0 ≤ t ∧ t ≤ 100) (hF : FineC T) (hX : Ints w0 X ws)
    (hM : ∀ ents has E, M ents has E = bx bc (boxC bc gm Y cy X cx ws Q cq cs T bm) 125 :: mpG bm ents has :: E) {N : Nat}
    (hLeast : ∀ {w : World} {ents : List Ent} {has : List Value} {E : List Thing} {A i j n : Nat} {k : Value → World → Prop}, GoodB gm.rules ws cs T ents → Apt w0 w (M ents has E) → T A i j = some n → n ≤ N → A < 6 → i ≤ j → j ≤ ws.length → (∀ w' ents' has' Y' d, GoodB gm.rules ws cs T ents' → Apt w0 w' (M ents' has' E) → Ints w' Y' (bestTr gm.rules ws cs T bigF A i j) → k (.slice Y' (bestTr gm.rules ws cs T bigF A i j).length d) w') →
      CallK Try.prog 126 [ptrv bc, .int .i64 A, .int .i64 i, .int .i64 j] k w) :
    ∀ (xs : List Int) {w : World} {ents : List Ent} {has : List Value} {E : List Thing} {R : Option Addr} {cr i j z : Nat} {k : Value → World → Prop}, GoodB gm.rules ws cs T ents → Apt w0 w (M ents has E) → Ints w0 R xs → xs.length ≤ cr → xs.length ≤ 4 → (∀ x ∈ xs, -100 ≤ x ∧ x < 6) → i ≤ j → j ≤ ws.length → restG (tokC ws) nl0 T xs i j = some z → z ≤ N → (∀ w' ents' has' Y' d, GoodB gm.rules ws cs T ents' → Apt w0 w' (M ents' has' (ows Y' d (bestRow (bestTr gm.rules ws cs T bigF) ws T xs i j) :: E)) → k (.slice Y' (bestRow (bestTr gm.rules ws cs T bigF) ws T xs i j).length d) w') →
      CallK Try.prog 167 [ptrv bc, .slice R xs.length cr, .int .i64 i, .int .i64 j] k w := by
  have hp0 : ∀ q, q < gm.rules.length → 0 < costQ cs q := fun q hq => (hcs.at hq).2.1
  have hB : ∀ {w : World} ents has (E : List Thing), Apt w0 w (bx bc (boxC bc gm Y cy X cx ws Q cq cs T bm) 125 :: mpG bm ents has :: E) → Apt w0 w (M ents has E) := fun ents has E h => by rw [hM]; exact h
  intro xs
  induction xs with
  | nil =>
    intro w ents has E R cr i j z k hG H hR hcr h4 hx hij hj hz hzN hk
    refine enter167 ?_
    unfold S167
    rw [hM] at H
    refine buildH H u22 inf3 [] (by decide) (by decide) (by simp [Instr.fill, madeCells]) rfl fun b1 w1 H => ?_
    have H := H.insert 2
    simp only [List.take_succ_cons, List.take_zero, List.drop_succ_cons, List.drop_zero, List.nil_append, List.cons_append] at H
    simp only [List.length_nil, show (((0 : Nat) : Int) = 0) from rfl, decide_true, go_sem, Nat.reduceEqDiff]
    exact hk _ ents has _ _ hG (hB _ _ _ H)
  | cons x xs ih =>
    intro w ents has E R cr i j z k hG H hR hcr h4 hx hij hj hz hzN hk
    refine enter167 ?_
    unfold S167
    have hxx := hx x (List.mem_cons_self ..)
    have hx' : ∀ y ∈ xs, -100 ≤ y ∧ y < 6 := fun y hy => hx y (List.mem_cons_of_mem _ hy)
    have hcr' := hcr
    have h4' := h4
    rw [List.length_cons] at hcr h4
    have hsub := hR.sub (l := 1) (c := cr) (by simp) (by simp; omega) xs.length
    rw [List.drop_one, List.tail_cons, List.take_length] at hsub
    rw [hM] at H
    refine buildH H u22 inf3 [] (by decide) (by decide) (by simp [Instr.fill, madeCells]) rfl fun b1 w1 H => ?_
    have H := H.insert 2
    simp only [List.take_succ_cons, List.take_zero, List.drop_succ_cons, List.drop_zero, List.nil_append, List.cons_append] at H
    simp only [show ¬ (((x :: xs).length : Int) = 0) from by rw [List.length_cons]; omega, decide_false, bin_add, bin_sub, bin_mul, bin_eql, bin_neq, bin_lss, bin_leq, bin_gtr, bin_geq, un_not, un_neg, pick_true, pick_false, extract_two_0, extract_two_1, nilCheck_pointer, cond_true', cond_false', guard_tt, guard_ff, guard_tf, guard_ft, guard_undef, seqQ_normal, seqQ_ret, seqQ_exit, blockQ_ret, blockQ_normal, blockQ_exit, bodyQ_ret, bodyQ_normal, resK_nil, resK_tmp, ite_T, ite_F, upd_at, add_plain, add_zero', len22, len35, len48, fa37_0, fa37_1, fa37_2, fa77_0, fa77_1, fa103_0, fa103_1, fa125_0, fa125_1, fa125_2, fa125_3, fa125_4, Nat.reduceEqDiff]
    refine costRest_c hl hw (x :: xs) (H.box 0 rfl) hF.1 (hX.gr H.gr) (hR.gr H.gr) hcr' h4' hx hij hj ?_
    rw [hz, encM_s]
    have hval := termG_row (tr := bestTr gm.rules ws cs T bigF) hz
    rw [hval] at hk
    obtain ⟨TM, hTM⟩ : ∃ TM, TM = termG (bestTr gm.rules ws cs T bigF) ws T x xs i j z := ⟨_, rfl⟩
    rw [← hTM] at hk
    have hTM' : ∀ m, TM m = if addO (oneG (tokC ws) T x i (i + m)) (restG (tokC ws) nl0 T xs (i + m) j) = some z then some ((if x < 0 then [] else bestTr gm.rules ws cs T bigF x.toNat i (i + m)) ++ bestRow (bestTr gm.rules ws cs T bigF) ws T xs (i + m) j) else none := fun m => by rw [hTM]; rfl
    clear hTM hval
    refine loop_to (j + 1 - i) 0 (fun m f w' => m ≤ j + 1 - i ∧ f 12 = .int .i64 ((i + m : Nat) : Int) ∧ f 11 = .bool (minL TM m).isSome ∧ ∃ ents has Y' d, GoodB gm.rules ws cs T ents ∧ f 9 = .slice Y' ((minL TM m).getD []).length d ∧ Apt w0 w' (M ents has (ows Y' d ((minL TM m).getD []) :: E)))
      ⟨Nat.zero_le _, rfl, rfl, ents, has, _, _, hG, rfl, hB _ _ _ H⟩ ?_
    clear H hG
    rintro m f w2 NN hag ⟨hm, h12, h11, ents, has, Y', d, hG, h9, H⟩ hN
    rw [hM] at H
    have f0 : f 0 = ptrv bc := hag 0 (by decide)
    have f1 : f 1 = .slice R (x :: xs).length cr := hag 1 (by decide)
    have f2 : f 2 = .int .i64 i := hag 2 (by decide)
    have f3 : f 3 = .int .i64 j := hag 3 (by decide)
    have f10 : f 10 = .int .i64 (z : Int) := hag 10 (by decide)
    simp only [f0, f1, f2, f3, f10, h12, h11, bin_add, bin_sub, bin_mul, bin_eql, bin_neq, bin_lss, bin_leq, bin_gtr, bin_geq, un_not, un_neg, pick_true, pick_false, extract_two_0, extract_two_1, nilCheck_pointer, cond_true', cond_false', guard_tt, guard_ff, guard_tf, guard_ft, guard_undef, seqQ_normal, seqQ_ret, seqQ_exit, blockQ_ret, blockQ_normal, blockQ_exit, bodyQ_ret, bodyQ_normal, resK_nil, resK_tmp, ite_T, ite_F, upd_at, add_plain, add_zero', len22, len35, len48, fa37_0, fa37_1, fa37_2, fa77_0, fa77_1, fa103_0, fa103_1, fa125_0, fa125_1, fa125_2, fa125_3, fa125_4, Nat.reduceEqDiff]
    by_cases hle : i + m ≤ j
    case neg =>
      simp only [show ¬ (((i + m : Nat) : Int) ≤ j) from by omega, decide_false, bin_add, bin_sub, bin_mul, bin_eql, bin_neq, bin_lss, bin_leq, bin_gtr, bin_geq, un_not, un_neg, pick_true, pick_false, extract_two_0, extract_two_1, nilCheck_pointer, cond_true', cond_false', guard_tt, guard_ff, guard_tf, guard_ft, guard_undef, seqQ_normal, seqQ_ret, seqQ_exit, blockQ_ret, blockQ_normal, blockQ_exit, bodyQ_ret, bodyQ_normal, resK_nil, resK_tmp, ite_T, ite_F, upd_at, add_plain, add_zero', len22, len35, len48, fa37_0, fa37_1, fa37_2, fa77_0, fa77_1, fa103_0, fa103_1, fa125_0, fa125_1, fa125_2, fa125_3, fa125_4, Nat.reduceEqDiff]
      obtain rfl : m = j + 1 - i := by omega
      rw [h9]
      exact hk _ ents has Y' d hG (hB _ _ _ H)
    simp only [show (((i + m : Nat) : Int) ≤ j) from by omega, decide_true, bin_add, bin_sub, bin_mul, bin_eql, bin_neq, bin_lss, bin_leq, bin_gtr, bin_geq, un_not, un_neg, pick_true, pick_false, extract_two_0, extract_two_1, nilCheck_pointer, cond_true', cond_false', guard_tt, guard_ff, guard_tf, guard_ft, guard_undef, seqQ_normal, seqQ_ret, seqQ_exit, blockQ_ret, blockQ_normal, blockQ_exit, bodyQ_ret, bodyQ_normal, resK_nil, resK_tmp, ite_T, ite_F, upd_at, add_plain, add_zero', len22, len35, len48, fa37_0, fa37_1, fa37_2, fa77_0, fa77_1, fa103_0, fa103_1, fa125_0, fa125_1, fa125_2, fa125_3, fa125_4, Nat.reduceEqDiff]
    refine join_as (fun g w' => g 12 = .int .i64 ((i + m : Nat) : Int) ∧ g 11 = .bool (minL TM (m + 1)).isSome ∧ ∃ ents has Y' d, GoodB gm.rules ws cs T ents ∧ g 9 = .slice Y' ((minL TM (m + 1)).getD []).length d ∧ Apt w0 w' (M ents has (ows Y' d ((minL TM (m + 1)).getD []) :: E))) (fun K hK => ?_) ?_
    case refine_2 =>
      rintro g w' ⟨g12, g11, ents, has, Y', d, hG, g9, H⟩
      simp only [g12, go_sem, Nat.reduceEqDiff]
      rw [i64_of (by omega) (by omega)]
      exact hN _ _ (by omega) ⟨by omega, by show Value.int .i64 (((i + m : Nat) : Int) + 1) = _; congr 1, g11, ents, has, Y', d, hG, g9, H⟩
    have H := H.drew
    refine rdi (ix22_0 hR.ptr (by simp)) (rdi (ld3 ((hR.gr H.gr).cell 0 (by simp))) ?_)
    simp only [List.getD_cons_zero]
    refine rdi (sll22 (by decide) (by rw [List.length_cons]; omega)) ?_
    rw [show (1 : Int).toNat = 1 from rfl, List.length_cons, Nat.add_sub_cancel]
    refine costOne_c (H.box 0 rfl) (hX.gr H.gr) hl hw hxx (by omega) (by omega) ?_
    refine costRest_c hl hw xs (H.box 0 rfl) hF.1 (hX.gr H.gr) (hsub.gr H.gr) (by omega) (by omega) hx' hle hj ?_
    have skip : TM m = none → ∀ (f' : Sh.F), f' 12 = .int .i64 ((i + m : Nat) : Int) → f' 11 = .bool (minL TM m).isSome → f' 9 = .slice Y' ((minL TM m).getD []).length d → K f' w2.drew := fun hn f' q12 q11 q9 => hK _ _ ⟨q12, by rw [minL_none hn]; exact q11, ents, has, Y', d, hG, by rw [minL_none hn]; exact q9, by rw [minL_none hn]; exact hB _ _ _ H⟩
    cases ha : oneG (tokC ws) T x i (i + m) with
    | none =>
      simp only [encM_n, show ((-1 : Int) < 0) from by omega, decide_true, bin_add, bin_sub, bin_mul, bin_eql, bin_neq, bin_lss, bin_leq, bin_gtr, bin_geq, un_not, un_neg, pick_true, pick_false, extract_two_0, extract_two_1, nilCheck_pointer, cond_true', cond_false', guard_tt, guard_ff, guard_tf, guard_ft, guard_undef, seqQ_normal, seqQ_ret, seqQ_exit, blockQ_ret, blockQ_normal, blockQ_exit, bodyQ_ret, bodyQ_normal, resK_nil, resK_tmp, ite_T, ite_F, upd_at, add_plain, add_zero', len22, len35, len48, fa37_0, fa37_1, fa37_2, fa77_0, fa77_1, fa103_0, fa103_1, fa125_0, fa125_1, fa125_2, fa125_3, fa125_4, Nat.reduceEqDiff]
      exact skip (by rw [hTM', ha]; exact if_neg (by intro h; cases h)) _ h12 h11 h9
    | some a =>
      have hale := one_small hF.1 (by omega) (by omega) ha
      simp only [encM_s, show ¬ ((a : Int) < 0) from by omega, decide_false, bin_add, bin_sub, bin_mul, bin_eql, bin_neq, bin_lss, bin_leq, bin_gtr, bin_geq, un_not, un_neg, pick_true, pick_false, extract_two_0, extract_two_1, nilCheck_pointer, cond_true', cond_false', guard_tt, guard_ff, guard_tf, guard_ft, guard_undef, seqQ_normal, seqQ_ret, seqQ_exit, blockQ_ret, blockQ_normal, blockQ_exit, bodyQ_ret, bodyQ_normal, resK_nil, resK_tmp, ite_T, ite_F, upd_at, add_plain, add_zero', len22, len35, len48, fa37_0, fa37_1, fa37_2, fa77_0, fa77_1, fa103_0, fa103_1, fa125_0, fa125_1, fa125_2, fa125_3, fa125_4, Nat.reduceEqDiff]
      cases hb : restG (tokC ws) nl0 T xs (i + m) j with
      | none =>
        simp only [encM_n, show ((-1 : Int) < 0) from by omega, decide_true, bin_add, bin_sub, bin_mul, bin_eql, bin_neq, bin_lss, bin_leq, bin_gtr, bin_geq, un_not, un_neg, pick_true, pick_false, extract_two_0, extract_two_1, nilCheck_pointer, cond_true', cond_false', guard_tt, guard_ff, guard_tf, guard_ft, guard_undef, seqQ_normal, seqQ_ret, seqQ_exit, blockQ_ret, blockQ_normal, blockQ_exit, bodyQ_ret, bodyQ_normal, resK_nil, resK_tmp, ite_T, ite_F, upd_at, add_plain, add_zero', len22, len35, len48, fa37_0, fa37_1, fa37_2, fa77_0, fa77_1, fa103_0, fa103_1, fa125_0, fa125_1, fa125_2, fa125_3, fa125_4, Nat.reduceEqDiff]
        exact skip (by rw [hTM', ha, hb]; exact if_neg (by intro h; cases h)) _ h12 h11 h9
      | some b =>
        have hble := rest_small hF.1 (tokC_small ws) nl0_small (xs := xs) (by omega) hle (by omega) hb
        simp only [encM_s, show ¬ ((b : Int) < 0) from by omega, decide_false, bin_add, bin_sub, bin_mul, bin_eql, bin_neq, bin_lss, bin_leq, bin_gtr, bin_geq, un_not, un_neg, pick_true, pick_false, extract_two_0, extract_two_1, nilCheck_pointer, cond_true', cond_false', guard_tt, guard_ff, guard_tf, guard_ft, guard_undef, seqQ_normal, seqQ_ret, seqQ_exit, blockQ_ret, blockQ_normal, blockQ_exit, bodyQ_ret, bodyQ_normal, resK_nil, resK_tmp, ite_T, ite_F, upd_at, add_plain, add_zero', len22, len35, len48, fa37_0, fa37_1, fa37_2, fa77_0, fa77_1, fa103_0, fa103_1, fa125_0, fa125_1, fa125_2, fa125_3, fa125_4, Nat.reduceEqDiff]
        rw [i64_of (by omega) (by omega)]
        by_cases hab' : a + b = z
        case neg =>
          simp only [show ¬ ((a : Int) + (b : Int) = (z : Int)) from by omega, decide_false, Bool.not_false, bin_add, bin_sub, bin_mul, bin_eql, bin_neq, bin_lss, bin_leq, bin_gtr, bin_geq, un_not, un_neg, pick_true, pick_false, extract_two_0, extract_two_1, nilCheck_pointer, cond_true', cond_false', guard_tt, guard_ff, guard_tf, guard_ft, guard_undef, seqQ_normal, seqQ_ret, seqQ_exit, blockQ_ret, blockQ_normal, blockQ_exit, bodyQ_ret, bodyQ_normal, resK_nil, resK_tmp, ite_T, ite_F, upd_at, add_plain, add_zero', len22, len35, len48, fa37_0, fa37_1, fa37_2, fa77_0, fa77_1, fa103_0, fa103_1, fa125_0, fa125_1, fa125_2, fa125_3, fa125_4, Nat.reduceEqDiff]
          exact skip (by rw [hTM', ha, hb]; exact if_neg fun h => hab' (Option.some.inj h)) _ h12 h11 h9
        simp only [show ((a : Int) + (b : Int) = (z : Int)) from by omega, decide_true, Bool.not_true, bin_add, bin_sub, bin_mul, bin_eql, bin_neq, bin_lss, bin_leq, bin_gtr, bin_geq, un_not, un_neg, pick_true, pick_false, extract_two_0, extract_two_1, nilCheck_pointer, cond_true', cond_false', guard_tt, guard_ff, guard_tf, guard_ft, guard_undef, seqQ_normal, seqQ_ret, seqQ_exit, blockQ_ret, blockQ_normal, blockQ_exit, bodyQ_ret, bodyQ_normal, resK_nil, resK_tmp, ite_T, ite_F, upd_at, add_plain, add_zero', len22, len35, len48, fa37_0, fa37_1, fa37_2, fa77_0, fa77_1, fa103_0, fa103_1, fa125_0, fa125_1, fa125_2, fa125_3, fa125_4, Nat.reduceEqDiff]
        have hTm : TM m = some ((if x < 0 then [] else bestTr gm.rules ws cs T bigF x.toNat i (i + m)) ++ bestRow (bestTr gm.rules ws cs T bigF) ws T xs (i + m) j) := by
          rw [hTM', ha, hb]
          exact if_pos (by rw [← hab']; rfl)
        have hl2 := bestRow_len (tr := bestTr gm.rules ws cs T bigF) hb fun A i j n hn _ => bestTr_blen (rs := gm.rules) (ws := ws) hp0 hn
        generalize hx2 : bestRow (bestTr gm.rules ws cs T bigF) ws T xs (i + m) j = x2 at *
        refine buildH H u22 inf3 [] (by decide) (by decide) (by simp [Instr.fill, madeCells]) rfl fun b3 w3 H => ?_
        have H := H.insert 3
        simp only [List.take_succ_cons, List.take_zero, List.drop_succ_cons, List.drop_zero, List.nil_append, List.cons_append] at H
        refine join_as (fun g w' => g 0 = ptrv bc ∧ g 1 = .slice R (x :: xs).length cr ∧ g 3 = .int .i64 j ∧ g 11 = .bool (minL TM m).isSome ∧ g 12 = .int .i64 ((i + m : Nat) : Int) ∧ g 9 = .slice Y' ((minL TM m).getD []).length d ∧ ∃ ents has U e, GoodB gm.rules ws cs T ents ∧ g 15 = .slice U (if x < 0 then [] else bestTr gm.rules ws cs T bigF x.toNat i (i + m)).length e ∧ Apt w0 w' (M ents has (ows Y' d ((minL TM m).getD []) :: ows U e (if x < 0 then [] else bestTr gm.rules ws cs T bigF x.toNat i (i + m)) :: E))) (fun K40 hK40 => ?_) ?_
        · refine rdi (ix22_0 hR.ptr (by simp)) (rdi (ld3 ((hR.gr H.gr).cell 0 (by simp))) ?_)
          simp only [List.getD_cons_zero, bin_add, bin_sub, bin_mul, bin_eql, bin_neq, bin_lss, bin_leq, bin_gtr, bin_geq, un_not, un_neg, pick_true, pick_false, extract_two_0, extract_two_1, nilCheck_pointer, cond_true', cond_false', guard_tt, guard_ff, guard_tf, guard_ft, guard_undef, seqQ_normal, seqQ_ret, seqQ_exit, blockQ_ret, blockQ_normal, blockQ_exit, bodyQ_ret, bodyQ_normal, resK_nil, resK_tmp, ite_T, ite_F, upd_at, add_plain, add_zero', len22, len35, len48, fa37_0, fa37_1, fa37_2, fa77_0, fa77_1, fa103_0, fa103_1, fa125_0, fa125_1, fa125_2, fa125_3, fa125_4, Nat.reduceEqDiff]
          by_cases hx0 : x < 0
          · simp only [show ¬ ((0 : Int) ≤ x) from by omega, decide_false, bin_add, bin_sub, bin_mul, bin_eql, bin_neq, bin_lss, bin_leq, bin_gtr, bin_geq, un_not, un_neg, pick_true, pick_false, extract_two_0, extract_two_1, nilCheck_pointer, cond_true', cond_false', guard_tt, guard_ff, guard_tf, guard_ft, guard_undef, seqQ_normal, seqQ_ret, seqQ_exit, blockQ_ret, blockQ_normal, blockQ_exit, bodyQ_ret, bodyQ_normal, resK_nil, resK_tmp, ite_T, ite_F, upd_at, add_plain, add_zero', len22, len35, len48, fa37_0, fa37_1, fa37_2, fa77_0, fa77_1, fa103_0, fa103_1, fa125_0, fa125_1, fa125_2, fa125_3, fa125_4, Nat.reduceEqDiff]
            exact hK40 _ _ ⟨f0, f1, f3, h11, h12, h9, ents, has, _, _, hG, by rw [if_pos hx0]; rfl, by rw [if_pos hx0]; exact hB _ _ _ H⟩
          · simp only [show ((0 : Int) ≤ x) from by omega, decide_true, bin_add, bin_sub, bin_mul, bin_eql, bin_neq, bin_lss, bin_leq, bin_gtr, bin_geq, un_not, un_neg, pick_true, pick_false, extract_two_0, extract_two_1, nilCheck_pointer, cond_true', cond_false', guard_tt, guard_ff, guard_tf, guard_ft, guard_undef, seqQ_normal, seqQ_ret, seqQ_exit, blockQ_ret, blockQ_normal, blockQ_exit, bodyQ_ret, bodyQ_normal, resK_nil, resK_tmp, ite_T, ite_F, upd_at, add_plain, add_zero', len22, len35, len48, fa37_0, fa37_1, fa37_2, fa77_0, fa77_1, fa103_0, fa103_1, fa125_0, fa125_1, fa125_2, fa125_3, fa125_4, Nat.reduceEqDiff]
            refine rdi (ix22_0 hR.ptr (by simp)) (rdi (ld3 ((hR.gr H.gr).cell 0 (by simp))) ?_)
            simp only [List.getD_cons_zero]
            obtain ⟨A, rfl⟩ : ∃ A : Nat, x = A := ⟨x.toNat, by omega⟩
            rw [oneG, if_neg hx0, Int.toNat_natCast] at ha
            have hl1 := bestTr_blen (rs := gm.rules) (ws := ws) hp0 ha
            refine hLeast hG (hB _ _ _ H) ha (by omega) (by omega) (by omega) (by omega) fun w4 ents4 has4 Y4 d4 hG4 H hI => ?_
            rw [hM] at H
            refine apH (xs := []) H 3 rfl hI rfl rfl (by simp only [List.length_nil]; omega) fun Y5 d5 w5 H => ?_
            simp only [List.set_cons_zero, List.set_cons_succ, List.nil_append] at H
            exact hK40 _ _ ⟨f0, f1, f3, h11, h12, h9, ents4, has4, Y5, d5, hG4, by rw [if_neg hx0, Int.toNat_natCast]; rfl, by rw [if_neg hx0, Int.toNat_natCast]; exact hB _ _ _ H⟩
        · clear H hG
          rintro g w4 ⟨g0, g1, g3, g11, g12, g9, ents, has, U, e, hG, g15, H⟩
          have hl1 : (if x < 0 then [] else bestTr gm.rules ws cs T bigF x.toNat i (i + m)).length ≤ 100000000 := by
            split
            · simp
            · rename_i hx0
              rw [oneG, if_neg hx0] at ha
              have := bestTr_blen (rs := gm.rules) (ws := ws) hp0 ha
              omega
          generalize hx1 : (if x < 0 then [] else bestTr gm.rules ws cs T bigF x.toNat i (i + m)) = x1 at *
          simp only [g0, g1, g3, g11, g12, g15, bin_add, bin_sub, bin_mul, bin_eql, bin_neq, bin_lss, bin_leq, bin_gtr, bin_geq, un_not, un_neg, pick_true, pick_false, extract_two_0, extract_two_1, nilCheck_pointer, cond_true', cond_false', guard_tt, guard_ff, guard_tf, guard_ft, guard_undef, seqQ_normal, seqQ_ret, seqQ_exit, blockQ_ret, blockQ_normal, blockQ_exit, bodyQ_ret, bodyQ_normal, resK_nil, resK_tmp, ite_T, ite_F, upd_at, add_plain, add_zero', len22, len35, len48, fa37_0, fa37_1, fa37_2, fa77_0, fa77_1, fa103_0, fa103_1, fa125_0, fa125_1, fa125_2, fa125_3, fa125_4, Nat.reduceEqDiff]
          refine rdi (sll22 (by decide) (by rw [List.length_cons]; omega)) ?_
          rw [show (1 : Int).toNat = 1 from rfl, List.length_cons, Nat.add_sub_cancel]
          refine ih hG H hsub (by omega) (by omega) hx' hle hj hb (by omega) fun w5 ents5 has5 Y5 d5 hG5 H => ?_
          rw [hx2] at H ⊢
          rw [hM] at H
          refine apH H 4 rfl (H.ints 2 rfl) rfl rfl (by omega) fun Y6 d6 w6 H => ?_
          have H := H.erase 2
          simp only [List.set_cons_zero, List.set_cons_succ, List.eraseIdx_cons_zero, List.eraseIdx_cons_succ] at H
          cases ho : minL TM m with
          | none =>
            simp only [Option.isSome_none, Bool.not_false, bin_add, bin_sub, bin_mul, bin_eql, bin_neq, bin_lss, bin_leq, bin_gtr, bin_geq, un_not, un_neg, pick_true, pick_false, extract_two_0, extract_two_1, nilCheck_pointer, cond_true', cond_false', guard_tt, guard_ff, guard_tf, guard_ft, guard_undef, seqQ_normal, seqQ_ret, seqQ_exit, blockQ_ret, blockQ_normal, blockQ_exit, bodyQ_ret, bodyQ_normal, resK_nil, resK_tmp, ite_T, ite_F, upd_at, add_plain, add_zero', len22, len35, len48, fa37_0, fa37_1, fa37_2, fa77_0, fa77_1, fa103_0, fa103_1, fa125_0, fa125_1, fa125_2, fa125_3, fa125_4, Nat.reduceEqDiff]
            have H := H.erase 2
            simp only [List.eraseIdx_cons_zero, List.eraseIdx_cons_succ] at H
            exact hK _ _ ⟨g12, by rw [minL_first hTm ho]; rfl, ents5, has5, Y6, d6, hG5, by rw [minL_first hTm ho]; rfl, by rw [minL_first hTm ho]; exact hB _ _ _ H⟩
          | some o =>
            rw [ho] at H g9 g11
            simp only [Option.isSome_some, Bool.not_true, bin_add, bin_sub, bin_mul, bin_eql, bin_neq, bin_lss, bin_leq, bin_gtr, bin_geq, un_not, un_neg, pick_true, pick_false, extract_two_0, extract_two_1, nilCheck_pointer, cond_true', cond_false', guard_tt, guard_ff, guard_tf, guard_ft, guard_undef, seqQ_normal, seqQ_ret, seqQ_exit, blockQ_ret, blockQ_normal, blockQ_exit, bodyQ_ret, bodyQ_normal, resK_nil, resK_tmp, ite_T, ite_F, upd_at, add_plain, add_zero', len22, len35, len48, fa37_0, fa37_1, fa37_2, fa77_0, fa77_1, fa103_0, fa103_1, fa125_0, fa125_1, fa125_2, fa125_3, fa125_4, Nat.reduceEqDiff]
            simp only [g9, Option.getD_some] at H ⊢
            refine compareL_c (H.ints 3 rfl) (H.ints 2 rfl) ?_
            have hnx := minL_next hTm ho
            by_cases hlt : cmpL (x1 ++ x2) o < 0
            · rw [if_pos hlt] at hnx
              simp only [hlt, decide_true, bin_add, bin_sub, bin_mul, bin_eql, bin_neq, bin_lss, bin_leq, bin_gtr, bin_geq, un_not, un_neg, pick_true, pick_false, extract_two_0, extract_two_1, nilCheck_pointer, cond_true', cond_false', guard_tt, guard_ff, guard_tf, guard_ft, guard_undef, seqQ_normal, seqQ_ret, seqQ_exit, blockQ_ret, blockQ_normal, blockQ_exit, bodyQ_ret, bodyQ_normal, resK_nil, resK_tmp, ite_T, ite_F, upd_at, add_plain, add_zero', len22, len35, len48, fa37_0, fa37_1, fa37_2, fa77_0, fa77_1, fa103_0, fa103_1, fa125_0, fa125_1, fa125_2, fa125_3, fa125_4, Nat.reduceEqDiff]
              have H := H.erase 2
              simp only [List.eraseIdx_cons_zero, List.eraseIdx_cons_succ] at H
              exact hK _ _ ⟨g12, by rw [hnx]; rfl, ents5, has5, Y6, d6, hG5, by rw [hnx]; rfl, by rw [hnx]; exact hB _ _ _ H⟩
            · rw [if_neg hlt] at hnx
              simp only [hlt, decide_false, bin_add, bin_sub, bin_mul, bin_eql, bin_neq, bin_lss, bin_leq, bin_gtr, bin_geq, un_not, un_neg, pick_true, pick_false, extract_two_0, extract_two_1, nilCheck_pointer, cond_true', cond_false', guard_tt, guard_ff, guard_tf, guard_ft, guard_undef, seqQ_normal, seqQ_ret, seqQ_exit, blockQ_ret, blockQ_normal, blockQ_exit, bodyQ_ret, bodyQ_normal, resK_nil, resK_tmp, ite_T, ite_F, upd_at, add_plain, add_zero', len22, len35, len48, fa37_0, fa37_1, fa37_2, fa77_0, fa77_1, fa103_0, fa103_1, fa125_0, fa125_1, fa125_2, fa125_3, fa125_4, Nat.reduceEqDiff]
              have H := H.erase 3
              simp only [List.eraseIdx_cons_zero, List.eraseIdx_cons_succ] at H
              exact hK _ _ ⟨g12, by rw [hnx]; exact g11, ents5, has5, Y', d, hG5, by rw [hnx]; exact g9, by rw [hnx]; exact hB _ _ _ H⟩
end
end Go.Proofs.Ytiohaeckagjebaa

/- Contract: the least tree with the least cost (the program's least). -/
set_option linter.unusedVariables false
set_option linter.unusedSimpArgs false
set_option maxRecDepth 100000
namespace Go.Proofs.Ytiohaeckagjebaa
open Go Go.Sh Go.RowKit Go.WideMaps
theorem isBestQ_no {rs : List RuleL} {ws cs : List Int} {T : CT} {A i j q : Nat} (h : ¬ (rul rs q).1 = (A : Int)) : isBestQ rs ws cs T A i j q = false := by
  unfold isBestQ
  rw [decide_eq_false h, Bool.false_and]
theorem isBestQ_cand {rs : List RuleL} {ws cs : List Int} {T : CT} {A i j q : Nat} (h : (rul rs q).1 = (A : Int)) : isBestQ rs ws cs T A i j q = hitQ rs ws cs T A i j q := by
  unfold isBestQ hitQ
  rw [decide_eq_true h, Bool.true_and]
theorem bestQ_first {rs : List RuleL} {ws cs : List Int} {T : CT} {A i j q : Nat} (hq : q < rs.length) (hno : ∀ q', q' < q → isBestQ rs ws cs T A i j q' = false) (h : isBestQ rs ws cs T A i j q = true) : bestQ rs ws cs T A i j = some q := by
  unfold bestQ
  refine find_at (i := q) (by simp [hq]) (fun j' b hj hb => ?_) h
  have : b = j' := by
    rw [List.getElem?_range (by omega)] at hb
    exact (Option.some.inj hb).symm
  rw [this]
  exact hno j' hj
theorem bestQ_none {rs : List RuleL} {ws cs : List Int} {T : CT} {A i j : Nat} (hno : ∀ q', q' < rs.length → isBestQ rs ws cs T A i j q' = false) : bestQ rs ws cs T A i j = none := by
  unfold bestQ
  refine find_no fun j' b hb => ?_
  have hl := (List.getElem?_eq_some_iff.1 hb).1
  rw [List.length_range] at hl
  have : b = j' := by
    rw [List.getElem?_range hl] at hb
    exact (Option.some.inj hb).symm
  rw [this]
  exact hno j' hl
theorem ld_aggS {t n : Nat} {S : WS} {k : Value → Prop} {b e : Nat} {cs : List Value} (ht : agg Try.prog t) (hs : szOf Try.prog t n) (hn : cs.length = n) (hb : ∀ w, S.S w → Box w b cs e) : Rd Try.prog S (sLoad t (.pointer (some ⟨b, 0, none⟩))) k = k (.agg cs.toArray) :=
  rd_loadAgg ht hs hn fun w' hw j hj => by
    rw [add_plain, Nat.zero_add, (hb w' hw).cell]
    exact List.getElem?_eq_getElem hj
section
variable {F : Nat → Prop} {w0 : World} {gm : Gram} {Y X Q : Option Addr} {cy cx cq bc bm nons : Nat} {ws cs : List Int} {T : CT} {M : List Ent → List Value → List Thing → List Thing}
set_option maxHeartbeats 3200000 in
theorem least_c (hg : goodG gm = true) (hcs : CostsOk gm cs) (hl : ws.length ≤ 10) (hw : ∀ t ∈ ws, 0 ≤ t ∧ t ≤ 100) (hF : FineC T) (hX : Ints w0 X ws) (hQ : Ints w0 Q cs) (hy : RulesF F w0 Y gm.rules)
    (hM : ∀ ents has E, M ents has E = bx bc (boxC bc gm Y cy X cx ws Q cq cs T bm) 125 :: mpG bm ents has :: E) : ∀ (N : Nat) {w : World} {ents : List Ent} {has : List Value} {E : List Thing} {A i j n : Nat} {k : Value → World → Prop}, GoodB gm.rules ws cs T ents → Apt w0 w (M ents has E) → T A i j = some n → n ≤ N → A < 6 → i ≤ j → j ≤ ws.length → (∀ w' ents' has' Y' d, GoodB gm.rules ws cs T ents' → Apt w0 w' (M ents' has' E) → Ints w' Y' (bestTr gm.rules ws cs T bigF A i j) → k (.slice Y' (bestTr gm.rules ws cs T bigF A i j).length d) w') →
      CallK Try.prog 126 [ptrv bc, .int .i64 A, .int .i64 i, .int .i64 j] k w := by
  have hp0 : ∀ q, q < gm.rules.length → 0 < costQ cs q := fun q hq => (hcs.at hq).2.1
  have hn6 := good_nons hg
  have hr16 := good_len hg
  have hB : ∀ {w : World} ents has (E : List Thing), Apt w0 w (bx bc (boxC bc gm Y cy X cx ws Q cq cs T bm) 125 :: mpG bm ents has :: E) → Apt w0 w (M ents has E) := fun ents has E h => by rw [hM]; exact h
  intro N
  induction N with
  | zero =>
    intro w ents has E A i j n k hG H hn hnN
    have := hF.2 _ _ _ _ hn
    omega
  | succ N ih =>
    intro w ents has E A i j n k hG H hn hnN hA hij hj hk
    have hRest := leastRest_of (Y := Y) (cy := cy) (cq := cq) (Q := Q) hg hcs hl hw hF hX hM (N := N) ih
    clear ih
    have hnle := hF.1.le hij (by omega) hn
    have hbt := bestTr_big (rs := gm.rules) (ws := ws) hp0 hF.2 hn hnle
    have hblen := bestTr_blen (rs := gm.rules) (ws := ws) hp0 hn
    refine enter126 ?_
    unfold S126
    rw [hM] at H
    rw [bd172]
    refine allocH H inf172' fun b3 w1 H => ?_
    have H := H.insert 2
    simp only [List.take_succ_cons, List.take_zero, List.drop_succ_cons, List.drop_zero, List.nil_append, List.cons_append] at H
    refine storeH H 2 rfl sz172 rfl rfl rfl fun w2 H => ?_
    simp only [List.set_cons_zero, List.set_cons_succ] at H
    have H := H.drew
    simp only [bin_add, bin_sub, bin_mul, bin_eql, bin_neq, bin_lss, bin_leq, bin_gtr, bin_geq, un_not, un_neg, pick_true, pick_false, extract_two_0, extract_two_1, nilCheck_pointer, cond_true', cond_false', guard_tt, guard_ff, guard_tf, guard_ft, guard_undef, seqQ_normal, seqQ_ret, seqQ_exit, blockQ_ret, blockQ_normal, blockQ_exit, bodyQ_ret, bodyQ_normal, resK_nil, resK_tmp, ite_T, ite_F, upd_at, add_plain, add_zero', len22, len35, len48, fa37_0, fa37_1, fa37_2, fa77_0, fa77_1, fa103_0, fa103_1, fa125_0, fa125_1, fa125_2, fa125_3, fa125_4, Nat.reduceEqDiff]
    rw [ldB123 (H.box 0 rfl) boxC_map, ldB_agg agg172 sz172 rfl (H.box 2 rfl)]
    obtain ⟨lx, hlx⟩ := key3_key (a := A) (b := i) (c := j) (by omega) (by omega) (by omega)
    have found : ∀ {w : World} {ents : List Ent} {has : List Value}, GoodB gm.rules ws cs T ents → Apt w0 w (bx bc (boxC bc gm Y cy X cx ws Q cq cs T bm) 125 :: mpG bm ents has :: bx b3 [.int .i64 (A : Int), .int .i64 (i : Int), .int .i64 (j : Int)] 172 :: E) → ∀ e ∈ ents, e.key = key3 A i j → e.it.P w → k e.val w := fun hG H e he hke hP => by
      obtain ⟨A', i', j', n', Y', d', _, _, _, h4, _, h6, h7⟩ := hG e he
      rw [h4] at hke
      obtain ⟨rfl, rfl, rfl⟩ := key3_inj hke
      rw [h6]
      rw [h7] at hP
      have H := H.erase 2
      simp only [List.eraseIdx_cons_zero, List.eraseIdx_cons_succ] at H
      exact hk _ _ _ Y' d' hG (hB _ _ _ H) (Own.ints (show Own 3 _ 0 Y' d' _ from hP))
    refine lookupG H 1 rfl map123 arr172.law (x := key3 A i j) hlx (goodB_key hG) zero22 true (fun hno => ?_) fun e he hke hP => ?_
    case refine_2 =>
      simp only [if_true, extract_two_0, extract_two_1, cond_true']
      exact found hG H e he hke hP
    simp only [if_true, extract_two_0, extract_two_1, cond_false']
    refine join_as (fun g w' => g 0 = ptrv bc ∧ g 9 = ptrv b3 ∧ ∃ ents has, GoodB gm.rules ws cs T ents ∧ ((bestQ gm.rules ws cs T A i j).isSome = true → key3 A i j ∈ has) ∧ Apt w0 w' (bx bc (boxC bc gm Y cy X cx ws Q cq cs T bm) 125 :: mpG bm ents has :: bx b3 [.int .i64 (A : Int), .int .i64 (i : Int), .int .i64 (j : Int)] 172 :: E)) (fun K13 hK13 => ?_) ?_
    case refine_2 =>
      clear H hG hno
      rintro g w3 ⟨g0, g9, ents, has, hG, hhas, H⟩
      have H := H.drew
      simp only [g0, g9, bin_add, bin_sub, bin_mul, bin_eql, bin_neq, bin_lss, bin_leq, bin_gtr, bin_geq, un_not, un_neg, pick_true, pick_false, extract_two_0, extract_two_1, nilCheck_pointer, cond_true', cond_false', guard_tt, guard_ff, guard_tf, guard_ft, guard_undef, seqQ_normal, seqQ_ret, seqQ_exit, blockQ_ret, blockQ_normal, blockQ_exit, bodyQ_ret, bodyQ_normal, resK_nil, resK_tmp, ite_T, ite_F, upd_at, add_plain, add_zero', len22, len35, len48, fa37_0, fa37_1, fa37_2, fa77_0, fa77_1, fa103_0, fa103_1, fa125_0, fa125_1, fa125_2, fa125_3, fa125_4, Nat.reduceEqDiff]
      rw [ldB123 (H.box 0 rfl) boxC_map, ldB_agg agg172 sz172 rfl (H.box 2 rfl)]
      refine lookupG H 1 rfl map123 arr172.law (x := key3 A i j) hlx (goodB_key hG) zero22 false (fun hno => ?_) fun e he hke hP => ?_
      · have hbq : bestQ gm.rules ws cs T A i j = none := by
          cases hb : bestQ gm.rules ws cs T A i j with
          | none => rfl
          | some q => exact absurd (hhas (by rw [hb]; rfl)) hno
        rw [hbq] at hbt
        have H := H.erase 2
        simp only [List.eraseIdx_cons_zero, List.eraseIdx_cons_succ] at H
        have := hk _ ents has none 0 hG (hB _ _ _ H)
        rw [hbt] at this
        exact this ⟨by simp, fun h => by simp at h, fun j h => by simp at h⟩
      · exact found hG H e he hke hP
    rw [ldB35 (H.box 0 rfl) rfl]
    simp only [bin_add, bin_sub, bin_mul, bin_eql, bin_neq, bin_lss, bin_leq, bin_gtr, bin_geq, un_not, un_neg, pick_true, pick_false, extract_two_0, extract_two_1, nilCheck_pointer, cond_true', cond_false', guard_tt, guard_ff, guard_tf, guard_ft, guard_undef, seqQ_normal, seqQ_ret, seqQ_exit, blockQ_ret, blockQ_normal, blockQ_exit, bodyQ_ret, bodyQ_normal, resK_nil, resK_tmp, ite_T, ite_F, upd_at, add_plain, add_zero', len22, len35, len48, fa37_0, fa37_1, fa37_2, fa77_0, fa77_1, fa103_0, fa103_1, fa125_0, fa125_1, fa125_2, fa125_3, fa125_4, Nat.reduceEqDiff]
    refine loop_to gm.rules.length 0 (fun q f w' => q ≤ gm.rules.length ∧ f 36 = .int .i64 q ∧ (∀ q', q' < q → isBestQ gm.rules ws cs T A i j q' = false) ∧ Apt w0 w' (bx bc (boxC bc gm Y cy X cx ws Q cq cs T bm) 125 :: mpG bm ents has :: bx b3 [.int .i64 (A : Int), .int .i64 (i : Int), .int .i64 (j : Int)] 172 :: E))
      ⟨Nat.zero_le _, rfl, fun q' h => by omega, H⟩ ?_
    clear H
    rintro q f w3 NN hag ⟨hq, h36, hbefore, H⟩ hN
    have f34 : f 34 = .slice Y gm.rules.length cy := hag 34 (by decide)
    have f35 : f 35 = .int .i64 gm.rules.length := hag 35 (by decide)
    have f0 : f 0 = ptrv bc := hag 0 (by decide)
    have f1 : f 1 = .int .i64 A := hag 1 (by decide)
    have f2 : f 2 = .int .i64 i := hag 2 (by decide)
    have f3 : f 3 = .int .i64 j := hag 3 (by decide)
    have f9 : f 9 = ptrv b3 := hag 9 (by decide)
    simp only [f34, f35, f0, f1, f2, f3, h36, bin_add, bin_sub, bin_mul, bin_eql, bin_neq, bin_lss, bin_leq, bin_gtr, bin_geq, un_not, un_neg, pick_true, pick_false, extract_two_0, extract_two_1, nilCheck_pointer, cond_true', cond_false', guard_tt, guard_ff, guard_tf, guard_ft, guard_undef, seqQ_normal, seqQ_ret, seqQ_exit, blockQ_ret, blockQ_normal, blockQ_exit, bodyQ_ret, bodyQ_normal, resK_nil, resK_tmp, ite_T, ite_F, upd_at, add_plain, add_zero', len22, len35, len48, fa37_0, fa37_1, fa37_2, fa77_0, fa77_1, fa103_0, fa103_1, fa125_0, fa125_1, fa125_2, fa125_3, fa125_4, Nat.reduceEqDiff]
    by_cases hlq : q < gm.rules.length
    case neg =>
      simp only [show ¬ ((q : Int) < gm.rules.length) from by omega, decide_false, bin_add, bin_sub, bin_mul, bin_eql, bin_neq, bin_lss, bin_leq, bin_gtr, bin_geq, un_not, un_neg, pick_true, pick_false, extract_two_0, extract_two_1, nilCheck_pointer, cond_true', cond_false', guard_tt, guard_ff, guard_tf, guard_ft, guard_undef, seqQ_normal, seqQ_ret, seqQ_exit, blockQ_ret, blockQ_normal, blockQ_exit, bodyQ_ret, bodyQ_normal, resK_nil, resK_tmp, ite_T, ite_F, upd_at, add_plain, add_zero', len22, len35, len48, fa37_0, fa37_1, fa37_2, fa77_0, fa77_1, fa103_0, fa103_1, fa125_0, fa125_1, fa125_2, fa125_3, fa125_4, Nat.reduceEqDiff]
      obtain rfl : q = gm.rules.length := by omega
      exact hK13 _ _ ⟨f0, f9, ents, has, hG, fun (h : (bestQ gm.rules ws cs T A i j).isSome = true) => (by rw [bestQ_none hbefore] at h; cases h), H⟩
    simp only [show ((q : Int) < gm.rules.length) from by omega, decide_true, bin_add, bin_sub, bin_mul, bin_eql, bin_neq, bin_lss, bin_leq, bin_gtr, bin_geq, un_not, un_neg, pick_true, pick_false, extract_two_0, extract_two_1, nilCheck_pointer, cond_true', cond_false', guard_tt, guard_ff, guard_tf, guard_ft, guard_undef, seqQ_normal, seqQ_ret, seqQ_exit, blockQ_ret, blockQ_normal, blockQ_exit, bodyQ_ret, bodyQ_normal, resK_nil, resK_tmp, ite_T, ite_F, upd_at, add_plain, add_zero', len22, len35, len48, fa37_0, fa37_1, fa37_2, fa77_0, fa77_1, fa103_0, fa103_1, fa125_0, fa125_1, fa125_2, fa125_3, fa125_4, Nat.reduceEqDiff]
    obtain ⟨Z, cz, t1, t2, t3, t4⟩ := hy.row q hlq
    have hleft := good_left hg hlq
    have hright := good_right hg hlq
    have hR4 := good_rule hg q hlq
    obtain ⟨xl, hxl⟩ : ∃ x : Nat, (rul gm.rules q).1 = x := ⟨(rul gm.rules q).1.toNat, by omega⟩
    rw [hxl] at t1 hleft
    have hrr : ∀ x ∈ (rul gm.rules q).2, -100 ≤ x ∧ x < 6 := fun x hx => by have := hright x hx; omega
    refine join_as (fun g w' => g 36 = .int .i64 (q : Int) ∧ isBestQ gm.rules ws cs T A i j q = false ∧ Apt w0 w' (bx bc (boxC bc gm Y cy X cx ws Q cq cs T bm) 125 :: mpG bm ents has :: bx b3 [.int .i64 (A : Int), .int .i64 (i : Int), .int .i64 (j : Int)] 172 :: E)) (fun K25 hK25 => ?_) ?_
    case refine_2 =>
      rintro g w' ⟨g36, hqno, H⟩
      simp only [g36, go_sem, Nat.reduceEqDiff]
      rw [i64_of (by omega) (by omega)]
      exact hN _ _ hlq ⟨hlq, rfl, fun q' h => by
        by_cases e : q' = q
        · rw [e]; exact hqno
        · exact hbefore q' (by omega), H⟩
    refine rdi (ixn35 hy.ptr hlq) ?_
    rw [ld_agg agg77 sz77 (cs := [.int .i64 xl, .slice Z (rul gm.rules q).2.length cz]) rfl (fun j hj => by
      match j, hj with
      | 0, _ => rw [add_add, Nat.add_zero]; exact H.gr.cell t1
      | 1, _ => rw [add_add]; exact H.gr.cell t2)]
    refine allocH H inf77 fun b4 w4 H => ?_
    have H := H.insert 3
    simp only [List.take_succ_cons, List.take_zero, List.drop_succ_cons, List.drop_zero, List.nil_append, List.cons_append] at H
    refine storeH H 3 rfl sz77 rfl rfl rfl fun w5 H => ?_
    simp only [List.set_cons_zero, List.set_cons_succ] at H
    obtain ⟨nv, hnv⟩ : ∃ nv : Option Nat, nv = if xl = A then restG (tokC ws) nl0 T (rul gm.rules q).2 i j else none := ⟨_, rfl⟩
    refine join_as (fun g w' => g 14 = .int .i64 (encM nv) ∧ g 0 = ptrv bc ∧ g 1 = .int .i64 A ∧ g 2 = .int .i64 i ∧ g 3 = .int .i64 j ∧ g 9 = ptrv b3 ∧ g 12 = .int .i64 q ∧ g 13 = ptrv b4 ∧ g 36 = .int .i64 q ∧ w' = w5) (fun K33 hK33 => ?_) ?_
    · simp only [bin_add, bin_sub, bin_mul, bin_eql, bin_neq, bin_lss, bin_leq, bin_gtr, bin_geq, un_not, un_neg, pick_true, pick_false, extract_two_0, extract_two_1, nilCheck_pointer, cond_true', cond_false', guard_tt, guard_ff, guard_tf, guard_ft, guard_undef, seqQ_normal, seqQ_ret, seqQ_exit, blockQ_ret, blockQ_normal, blockQ_exit, bodyQ_ret, bodyQ_normal, resK_nil, resK_tmp, ite_T, ite_F, upd_at, add_plain, add_zero', len22, len35, len48, fa37_0, fa37_1, fa37_2, fa77_0, fa77_1, fa103_0, fa103_1, fa125_0, fa125_1, fa125_2, fa125_3, fa125_4, Nat.reduceEqDiff]
      rw [ldB3 (H.box 3 rfl) rfl]
      simp only [bin_add, bin_sub, bin_mul, bin_eql, bin_neq, bin_lss, bin_leq, bin_gtr, bin_geq, un_not, un_neg, pick_true, pick_false, extract_two_0, extract_two_1, nilCheck_pointer, cond_true', cond_false', guard_tt, guard_ff, guard_tf, guard_ft, guard_undef, seqQ_normal, seqQ_ret, seqQ_exit, blockQ_ret, blockQ_normal, blockQ_exit, bodyQ_ret, bodyQ_normal, resK_nil, resK_tmp, ite_T, ite_F, upd_at, add_plain, add_zero', len22, len35, len48, fa37_0, fa37_1, fa37_2, fa77_0, fa77_1, fa103_0, fa103_1, fa125_0, fa125_1, fa125_2, fa125_3, fa125_4, Nat.reduceEqDiff]
      by_cases hxA : xl = A
      · rw [if_pos hxA] at hnv
        simp only [show ((xl : Int) = (A : Int)) from by omega, decide_true, bin_add, bin_sub, bin_mul, bin_eql, bin_neq, bin_lss, bin_leq, bin_gtr, bin_geq, un_not, un_neg, pick_true, pick_false, extract_two_0, extract_two_1, nilCheck_pointer, cond_true', cond_false', guard_tt, guard_ff, guard_tf, guard_ft, guard_undef, seqQ_normal, seqQ_ret, seqQ_exit, blockQ_ret, blockQ_normal, blockQ_exit, bodyQ_ret, bodyQ_normal, resK_nil, resK_tmp, ite_T, ite_F, upd_at, add_plain, add_zero', len22, len35, len48, fa37_0, fa37_1, fa37_2, fa77_0, fa77_1, fa103_0, fa103_1, fa125_0, fa125_1, fa125_2, fa125_3, fa125_4, Nat.reduceEqDiff]
        rw [ldB22 (H.box 3 rfl) rfl]
        refine costRest_c hl hw (rul gm.rules q).2 (H.box 0 rfl) hF.1 (hX.gr H.gr) (t4.is.gr H.gr) t3 hR4 hrr hij hj ?_
        exact hK33 _ _ ⟨by rw [hnv]; rfl, f0, f1, f2, f3, f9, rfl, rfl, h36, rfl⟩
      · rw [if_neg hxA] at hnv
        simp only [show ¬ ((xl : Int) = (A : Int)) from by omega, decide_false, bin_add, bin_sub, bin_mul, bin_eql, bin_neq, bin_lss, bin_leq, bin_gtr, bin_geq, un_not, un_neg, pick_true, pick_false, extract_two_0, extract_two_1, nilCheck_pointer, cond_true', cond_false', guard_tt, guard_ff, guard_tf, guard_ft, guard_undef, seqQ_normal, seqQ_ret, seqQ_exit, blockQ_ret, blockQ_normal, blockQ_exit, bodyQ_ret, bodyQ_normal, resK_nil, resK_tmp, ite_T, ite_F, upd_at, add_plain, add_zero', len22, len35, len48, fa37_0, fa37_1, fa37_2, fa77_0, fa77_1, fa103_0, fa103_1, fa125_0, fa125_1, fa125_2, fa125_3, fa125_4, Nat.reduceEqDiff]
        exact hK33 _ _ ⟨by rw [hnv]; rfl, f0, f1, f2, f3, f9, rfl, rfl, h36, rfl⟩
    rintro g w6 ⟨g14, g0, g1, g2, g3, g9, g12, g13, g36, rfl⟩
    have H := H.drew
    simp only [g14, g0, g1, g2, g3, g9, g12, g13, bin_add, bin_sub, bin_mul, bin_eql, bin_neq, bin_lss, bin_leq, bin_gtr, bin_geq, un_not, un_neg, pick_true, pick_false, extract_two_0, extract_two_1, nilCheck_pointer, cond_true', cond_false', guard_tt, guard_ff, guard_tf, guard_ft, guard_undef, seqQ_normal, seqQ_ret, seqQ_exit, blockQ_ret, blockQ_normal, blockQ_exit, bodyQ_ret, bodyQ_normal, resK_nil, resK_tmp, ite_T, ite_F, upd_at, add_plain, add_zero', len22, len35, len48, fa37_0, fa37_1, fa37_2, fa77_0, fa77_1, fa103_0, fa103_1, fa125_0, fa125_1, fa125_2, fa125_3, fa125_4, Nat.reduceEqDiff]
    have skip : isBestQ gm.rules ws cs T A i j q = false → ∀ f' : Sh.F, f' 36 = .int .i64 (q : Int) → K25 f' w6.drew := fun hno f' q36 => by
      have H := H.erase 3
      simp only [List.eraseIdx_cons_zero, List.eraseIdx_cons_succ] at H
      exact hK25 _ _ ⟨q36, hno, H⟩
    by_cases hxA : xl = A
    case neg =>
      rw [if_neg hxA] at hnv
      subst hnv
      simp only [encM_n, show ¬ ((0 : Int) ≤ -1) from by omega, decide_false, bin_add, bin_sub, bin_mul, bin_eql, bin_neq, bin_lss, bin_leq, bin_gtr, bin_geq, un_not, un_neg, pick_true, pick_false, extract_two_0, extract_two_1, nilCheck_pointer, cond_true', cond_false', guard_tt, guard_ff, guard_tf, guard_ft, guard_undef, seqQ_normal, seqQ_ret, seqQ_exit, blockQ_ret, blockQ_normal, blockQ_exit, bodyQ_ret, bodyQ_normal, resK_nil, resK_tmp, ite_T, ite_F, upd_at, add_plain, add_zero', len22, len35, len48, fa37_0, fa37_1, fa37_2, fa77_0, fa77_1, fa103_0, fa103_1, fa125_0, fa125_1, fa125_2, fa125_3, fa125_4, Nat.reduceEqDiff]
      exact skip (isBestQ_no (by omega)) _ g36
    rw [if_pos hxA] at hnv
    subst hnv
    cases hr : restG (tokC ws) nl0 T (rul gm.rules q).2 i j with
    | none =>
      simp only [encM_n, show ¬ ((0 : Int) ≤ -1) from by omega, decide_false, bin_add, bin_sub, bin_mul, bin_eql, bin_neq, bin_lss, bin_leq, bin_gtr, bin_geq, un_not, un_neg, pick_true, pick_false, extract_two_0, extract_two_1, nilCheck_pointer, cond_true', cond_false', guard_tt, guard_ff, guard_tf, guard_ft, guard_undef, seqQ_normal, seqQ_ret, seqQ_exit, blockQ_ret, blockQ_normal, blockQ_exit, bodyQ_ret, bodyQ_normal, resK_nil, resK_tmp, ite_T, ite_F, upd_at, add_plain, add_zero', len22, len35, len48, fa37_0, fa37_1, fa37_2, fa77_0, fa77_1, fa103_0, fa103_1, fa125_0, fa125_1, fa125_2, fa125_3, fa125_4, Nat.reduceEqDiff]
      exact skip (by rw [isBestQ_cand (by omega)]; unfold hitQ; rw [candC_none hr, hn]; rfl) _ g36
    | some r =>
      have hrs := rest_small hF.1 (tokC_small ws) nl0_small hR4 hij (by omega) hr
      obtain ⟨hcq, hc0, hc1⟩ := hcs.at hlq
      have hql : q < cs.length := by rw [hcs.len]; exact hlq
      have hQc := (hQ.gr H.gr).cell q hql
      rw [hcq] at hQc
      simp only [encM_s, show ((0 : Int) ≤ (r : Int)) from by omega, decide_true, bin_add, bin_sub, bin_mul, bin_eql, bin_neq, bin_lss, bin_leq, bin_gtr, bin_geq, un_not, un_neg, pick_true, pick_false, extract_two_0, extract_two_1, nilCheck_pointer, cond_true', cond_false', guard_tt, guard_ff, guard_tf, guard_ft, guard_undef, seqQ_normal, seqQ_ret, seqQ_exit, blockQ_ret, blockQ_normal, blockQ_exit, bodyQ_ret, bodyQ_normal, resK_nil, resK_tmp, ite_T, ite_F, upd_at, add_plain, add_zero', len22, len35, len48, fa37_0, fa37_1, fa37_2, fa77_0, fa77_1, fa103_0, fa103_1, fa125_0, fa125_1, fa125_2, fa125_3, fa125_4, Nat.reduceEqDiff]
      rw [ldB22 (H.box 0 rfl) rfl]
      refine rdi (ixn22 hQ.ptr hql) (rdi (ld3 hQc) ?_)
      simp only [bin_add, bin_sub, bin_mul, bin_eql, bin_neq, bin_lss, bin_leq, bin_gtr, bin_geq, un_not, un_neg, pick_true, pick_false, extract_two_0, extract_two_1, nilCheck_pointer, cond_true', cond_false', guard_tt, guard_ff, guard_tf, guard_ft, guard_undef, seqQ_normal, seqQ_ret, seqQ_exit, blockQ_ret, blockQ_normal, blockQ_exit, bodyQ_ret, bodyQ_normal, resK_nil, resK_tmp, ite_T, ite_F, upd_at, add_plain, add_zero', len22, len35, len48, fa37_0, fa37_1, fa37_2, fa77_0, fa77_1, fa103_0, fa103_1, fa125_0, fa125_1, fa125_2, fa125_3, fa125_4, Nat.reduceEqDiff]
      rw [i64_of (n := (r : Int) + (costQ cs q : Int)) (by omega) (by omega)]
      rw [ixa122 (by omega) (by omega), ixa121 (by omega) (by omega), ixa120 (by omega) (by omega)]
      simp only [Int.toNat_natCast, bin_add, bin_sub, bin_mul, bin_eql, bin_neq, bin_lss, bin_leq, bin_gtr, bin_geq, un_not, un_neg, pick_true, pick_false, extract_two_0, extract_two_1, nilCheck_pointer, cond_true', cond_false', guard_tt, guard_ff, guard_tf, guard_ft, guard_undef, seqQ_normal, seqQ_ret, seqQ_exit, blockQ_ret, blockQ_normal, blockQ_exit, bodyQ_ret, bodyQ_normal, resK_nil, resK_tmp, ite_T, ite_F, upd_at, add_plain, add_zero', len22, len35, len48, fa37_0, fa37_1, fa37_2, fa77_0, fa77_1, fa103_0, fa103_1, fa125_0, fa125_1, fa125_2, fa125_3, fa125_4, Nat.reduceEqDiff]
      rw [ldB3 (H.box 0 rfl) (boxC_at hA (by omega) (by omega)), hn, encM_s]
      simp only [bin_add, bin_sub, bin_mul, bin_eql, bin_neq, bin_lss, bin_leq, bin_gtr, bin_geq, un_not, un_neg, pick_true, pick_false, extract_two_0, extract_two_1, nilCheck_pointer, cond_true', cond_false', guard_tt, guard_ff, guard_tf, guard_ft, guard_undef, seqQ_normal, seqQ_ret, seqQ_exit, blockQ_ret, blockQ_normal, blockQ_exit, bodyQ_ret, bodyQ_normal, resK_nil, resK_tmp, ite_T, ite_F, upd_at, add_plain, add_zero', len22, len35, len48, fa37_0, fa37_1, fa37_2, fa77_0, fa77_1, fa103_0, fa103_1, fa125_0, fa125_1, fa125_2, fa125_3, fa125_4, Nat.reduceEqDiff]
      by_cases hhit : r + costQ cs q = n
      case neg =>
        simp only [show ¬ ((r : Int) + (costQ cs q : Int) = (n : Int)) from by omega, decide_false, bin_add, bin_sub, bin_mul, bin_eql, bin_neq, bin_lss, bin_leq, bin_gtr, bin_geq, un_not, un_neg, pick_true, pick_false, extract_two_0, extract_two_1, nilCheck_pointer, cond_true', cond_false', guard_tt, guard_ff, guard_tf, guard_ft, guard_undef, seqQ_normal, seqQ_ret, seqQ_exit, blockQ_ret, blockQ_normal, blockQ_exit, bodyQ_ret, bodyQ_normal, resK_nil, resK_tmp, ite_T, ite_F, upd_at, add_plain, add_zero', len22, len35, len48, fa37_0, fa37_1, fa37_2, fa77_0, fa77_1, fa103_0, fa103_1, fa125_0, fa125_1, fa125_2, fa125_3, fa125_4, Nat.reduceEqDiff]
        exact skip (by
          rw [isBestQ_cand (by omega)]
          unfold hitQ
          rw [candC_some hr, hn, decide_eq_false (fun e => hhit (Option.some.inj e))]
          rfl) _ g36
      simp only [show ((r : Int) + (costQ cs q : Int) = (n : Int)) from by omega, decide_true, bin_add, bin_sub, bin_mul, bin_eql, bin_neq, bin_lss, bin_leq, bin_gtr, bin_geq, un_not, un_neg, pick_true, pick_false, extract_two_0, extract_two_1, nilCheck_pointer, cond_true', cond_false', guard_tt, guard_ff, guard_tf, guard_ft, guard_undef, seqQ_normal, seqQ_ret, seqQ_exit, blockQ_ret, blockQ_normal, blockQ_exit, bodyQ_ret, bodyQ_normal, resK_nil, resK_tmp, ite_T, ite_F, upd_at, add_plain, add_zero', len22, len35, len48, fa37_0, fa37_1, fa37_2, fa77_0, fa77_1, fa103_0, fa103_1, fa125_0, fa125_1, fa125_2, fa125_3, fa125_4, Nat.reduceEqDiff]
      have hbq : bestQ gm.rules ws cs T A i j = some q := bestQ_first hlq hbefore (by
        rw [isBestQ_cand (by omega)]
        unfold hitQ
        rw [candC_some hr, hn, hhit]
        simp)
      rw [hbq] at hbt
      dsimp only at hbt
      have hGnew : ∀ {ents : List Ent} {Y' : Option Addr} {d : Nat}, GoodB gm.rules ws cs T ents → GoodB gm.rules ws cs T (⟨key3 A i j, .slice Y' ((q : Int) :: bestRow (bestTr gm.rules ws cs T bigF) ws T (rul gm.rules q).2 i j).length d, ows Y' d ((q : Int) :: bestRow (bestTr gm.rules ws cs T bigF) ws T (rul gm.rules q).2 i j)⟩ :: ents) := fun {ents Y' d} hG t ht => by
        rcases List.mem_cons.1 ht with rfl | ht
        · exact ⟨A, i, j, n, Y', d, hA, by omega, by omega, rfl, hn, by rw [hbt], by rw [hbt]; rfl⟩
        · exact hG t ht
      refine join_as (fun g w' => g 0 = ptrv bc ∧ g 9 = ptrv b3 ∧ ∃ ents has, GoodB gm.rules ws cs T ents ∧ key3 A i j ∈ has ∧ Apt w0 w' (bx bc (boxC bc gm Y cy X cx ws Q cq cs T bm) 125 :: mpG bm ents has :: bx b3 [.int .i64 (A : Int), .int .i64 (i : Int), .int .i64 (j : Int)] 172 :: E)) (fun K hK => ?_) ?_
      case refine_2 =>
        rintro g w' ⟨g0, g9, ents, has, hG, hkey, H⟩
        exact hK13 _ _ ⟨g0, g9, ents, has, hG, fun _ => hkey, H⟩
      have H := H.drew
      rw [hbt, List.length_cons] at hblen
      generalize hRW : bestRow (bestTr gm.rules ws cs T bigF) ws T (rul gm.rules q).2 i j = RW at *
      refine ⟨fun w' => Box w' bc (boxC bc gm Y cy X cx ws Q cq cs T bm) 125 ∧ Box w' b3 [.int .i64 (A : Int), .int .i64 (i : Int), .int .i64 (j : Int)] 172 ∧ Box w' b4 [.int .i64 xl, .slice Z (rul gm.rules q).2.length cz] 77, ⟨H.box 0 rfl, H.box 2 rfl, H.box 3 rfl⟩, ?_⟩
      refine rdi (ldS123 (a := ⟨bc, 0 + 731, none⟩) fun w' hw' => (hw'.1.cell (0 + 731)).trans boxC_map) ?_
      refine rdi (ld_aggS agg172 sz172 rfl fun w' hw' => hw'.2.1) ?_
      refine rdi (ldS22 (a := ⟨b4, 0 + 1, none⟩) fun w' hw' => hw'.2.2.cell (0 + 1)) ?_
      have fin : ∀ {w : World} {ents : List Ent} {has : List Value} {Y' : Option Addr} {d : Nat} {kk : World → Prop}, GoodB gm.rules ws cs T ents → Apt w0 w (bx bc (boxC bc gm Y cy X cx ws Q cq cs T bm) 125 :: mpG bm ents has :: ows Y' d ((q : Int) :: RW) :: bx b3 [.int .i64 (A : Int), .int .i64 (i : Int), .int .i64 (j : Int)] 172 :: bx b4 [.int .i64 xl, .slice Z (rul gm.rules q).2.length cz] 77 :: E) → (∀ w' ents' has', GoodB gm.rules ws cs T ents' → key3 A i j ∈ has' → Apt w0 w' (bx bc (boxC bc gm Y cy X cx ws Q cq cs T bm) 125 :: mpG bm ents' has' :: bx b3 [.int .i64 (A : Int), .int .i64 (i : Int), .int .i64 (j : Int)] 172 :: bx b4 [.int .i64 xl, .slice Z (rul gm.rules q).2.length cz] 77 :: E) → kk w') → Do Try.prog (sMapUpdate 123 (.map (some bm)) (key3 A i j) (.slice Y' ((q : Int) :: RW).length d)) (fun _ w => kk w) w := fun {w ents has Y' d kk} hG H hkk => by
        refine updateG H 1 2 (by decide) rfl rfl map123 arr172.law hlx (goodB_key hG) fun w' gx H => ?_
        have H := H.erase 2
        simp only [List.set_cons_zero, List.set_cons_succ, List.eraseIdx_cons_zero, List.eraseIdx_cons_succ] at H
        exact hkk w' _ _ (hGnew hG) (List.mem_cons_self ..) H
      have last : ∀ {w' : World} {ents' : List Ent} {has' : List Value}, GoodB gm.rules ws cs T ents' → key3 A i j ∈ has' → Apt w0 w' (bx bc (boxC bc gm Y cy X cx ws Q cq cs T bm) 125 :: mpG bm ents' has' :: bx b3 [.int .i64 (A : Int), .int .i64 (i : Int), .int .i64 (j : Int)] 172 :: bx b4 [.int .i64 xl, .slice Z (rul gm.rules q).2.length cz] 77 :: E) → ∀ f' : Sh.F, f' 0 = ptrv bc → f' 9 = ptrv b3 → K f' w' := fun {w' ents' has'} hG hkey H f' q0 q9 => by
        have H := H.erase 3
        simp only [List.eraseIdx_cons_zero, List.eraseIdx_cons_succ] at H
        exact hK _ _ ⟨q0, q9, ents', has', hG, hkey, H⟩
      refine ⟨?_, ?_⟩
      · refine buildH H u22 inf3 [.int .i64 (q : Int)] (by decide) (by decide) (by simp [Instr.fill, madeCells, Value.cells, rng1]) rfl fun b5 w7 H => ?_
        have H := H.insert 2
        simp only [List.take_succ_cons, List.take_zero, List.drop_succ_cons, List.drop_zero, List.nil_append, List.cons_append] at H
        refine ⟨⟨H.box 0 rfl, H.box 3 rfl, H.box 4 rfl⟩, ?_⟩
        refine hRest (rul gm.rules q).2 hG (hB _ _ _ H) t4.is t3 hR4 hrr hij hj hr (by omega) fun w8 ents8 has8 Y8 d8 hG8 H => ?_
        rw [hRW] at H ⊢
        rw [hM] at H
        refine ⟨⟨H.box 0 rfl, H.box 4 rfl, H.box 5 rfl⟩, ?_⟩
        refine apH (xs := [(q : Int)]) H 3 rfl (H.ints 2 rfl) rfl rfl (by simp only [List.length_cons, List.length_nil]; omega) fun Y9 d9 w9 H => ?_
        have H := H.erase 2
        simp only [List.set_cons_zero, List.set_cons_succ, List.eraseIdx_cons_zero, List.eraseIdx_cons_succ] at H
        refine ⟨⟨H.box 0 rfl, H.box 3 rfl, H.box 4 rfl⟩, ?_⟩
        refine fin hG8 H fun w10 ents10 has10 hG10 hkey H => ?_
        exact ⟨⟨H.box 0 rfl, H.box 2 rfl, H.box 3 rfl⟩, last hG10 hkey H _ g0 g9⟩
      · refine hRest (rul gm.rules q).2 hG (hB _ _ _ H) t4.is t3 hR4 hrr hij hj hr (by omega) fun w8 ents8 has8 Y8 d8 hG8 H => ?_
        rw [hRW] at H ⊢
        rw [hM] at H
        refine ⟨⟨H.box 0 rfl, H.box 3 rfl, H.box 4 rfl⟩, ?_⟩
        refine buildH H u22 inf3 [.int .i64 (q : Int)] (by decide) (by decide) (by simp [Instr.fill, madeCells, Value.cells, rng1]) rfl fun b5 w7 H => ?_
        have H := H.insert 3
        simp only [List.take_succ_cons, List.take_zero, List.drop_succ_cons, List.drop_zero, List.nil_append, List.cons_append] at H
        refine ⟨⟨H.box 0 rfl, H.box 4 rfl, H.box 5 rfl⟩, ?_⟩
        refine apH (xs := [(q : Int)]) H 3 rfl (H.ints 2 rfl) rfl rfl (by simp only [List.length_cons, List.length_nil]; omega) fun Y9 d9 w9 H => ?_
        have H := H.erase 2
        simp only [List.set_cons_zero, List.set_cons_succ, List.eraseIdx_cons_zero, List.eraseIdx_cons_succ] at H
        refine ⟨⟨H.box 0 rfl, H.box 3 rfl, H.box 4 rfl⟩, ?_⟩
        refine fin hG8 H fun w10 ents10 has10 hG10 hkey H => ?_
        exact ⟨⟨H.box 0 rfl, H.box 2 rfl, H.box 3 rfl⟩, last hG10 hkey H _ g0 g9⟩
end
end Go.Proofs.Ytiohaeckagjebaa

/- Contracts: which costs are asked for; CostTable of the reference and of the program. -/
set_option linter.unusedVariables false
set_option linter.unusedSimpArgs false
set_option maxRecDepth 100000
namespace Go.Sh
open Go
def costsB (gm : Gram) (cs : List Int) : Bool := (goodG gm && decide (cs.length = gm.rules.length)) && allB cs 1 100
theorem costsB_ok {gm : Gram} {cs : List Int} (h : costsB gm cs = true) : goodG gm = true ∧ CostsOk gm cs := by
  simp only [costsB, Bool.and_eq_true, decide_eq_true_eq, allB, List.all_eq_true, inB] at h
  exact ⟨h.1.1, h.1.2, h.2⟩
noncomputable def bestT (gm : Gram) (cs ws : List Int) : CT := fixT (candC gm.rules ws cs) gm.rules (ws.length + 1)
theorem notAny_all (cs : List Int) : (!cs.any fun x => !inB x 1 100) = allB cs 1 100 := by simp [allB, List.not_any_eq_all_not]
end Go.Sh
namespace Go.Proofs.Ytiohaeckagjebaa
open Go Go.Sh Go.RowKit
theorem l12Costs_c {F : Nat → Prop} {w : World} {v : Value} {gm : Gram} {Q : Option Addr} {m0 cq : Nat} {cs : List Int} (hv : GramV F w v gm) (hQ : Ints w Q cs) (hm0 : m0 = cs.length) {k : Value → World → Prop} (hk : ∀ w', Gr w w' → k (.bool (costsB gm cs)) w') :
    CallK Try.prog 111 [v, .slice Q m0 cq] k w := by
  subst hm0
  obtain ⟨Y, cy, rfl, hc, hy⟩ := hv
  refine enter111 ?_
  unfold S111
  have H := Apt.nil w
  refine boxH H fun b1 w1 H => ?_
  rw [ldB_agg agg37 sz37 rfl (H.box 0 rfl)]
  refine goodGrammar_c (gm := gm) ⟨Y, cy, rfl, hc, hy.gr H.gr⟩ fun w2 g2 => ?_
  have H := H.step g2
  unfold costsB at hk
  cases hg : goodG gm
  · simp only [go_sem, Nat.reduceEqDiff]
    rw [hg, Bool.false_and, Bool.false_and] at hk
    exact hk _ H.gr
  simp only [go_sem, Nat.reduceEqDiff]
  rw [hg, Bool.true_and] at hk
  rw [ldB35 (H.box 0 rfl) rfl]
  simp only [go_sem, Nat.reduceEqDiff]
  by_cases hl : cs.length = gm.rules.length
  · rw [decide_eq_true hl, Bool.true_and] at hk
    simp only [show ((cs.length : Int) = (gm.rules.length : Int)) from by omega, decide_true, go_sem, Nat.reduceEqDiff]
    refine l1All_c (hQ.gr H.gr) fun w3 g3 => ?_
    have H := H.step g3
    exact hk _ H.gr
  · rw [decide_eq_false hl, Bool.false_and] at hk
    simp only [show ¬ ((cs.length : Int) = (gm.rules.length : Int)) from by omega, decide_false, go_sem, Nat.reduceEqDiff]
    exact hk _ H.gr
theorem areCosts1_c {x : Int} {w : World} {k : Value → World → Prop} (hk : k (.bool (!inB x 1 100)) w) : CallK Try.prog 153 [.int .i64 x] k w := by
  refine enter153 ?_
  unfold S153
  refine in_c ?_
  simp only [go_sem, Nat.reduceEqDiff]
  exact hk
theorem areCosts_c {F : Nat → Prop} {w : World} {v : Value} {gm : Gram} {Q : Option Addr} {m0 cq : Nat} {cs : List Int} (hv : GramV F w v gm) (hQ : Ints w Q cs) (hm0 : m0 = cs.length) {k : Value → World → Prop} (hk : ∀ w', Gr w w' → k (.bool (costsB gm cs)) w') :
    CallK Try.prog 114 [v, .slice Q m0 cq] k w := by
  subst hm0
  obtain ⟨Y, cy, rfl, hc, hy⟩ := hv
  refine enter114 ?_
  unfold S114
  have H := Apt.nil w
  refine boxH H fun b1 w1 H => ?_
  rw [ldB_agg agg37 sz37 rfl (H.box 0 rfl)]
  refine isGrammar_c (gm := gm) ⟨Y, cy, rfl, hc, hy.gr H.gr⟩ fun w2 g2 => ?_
  have H := H.step g2
  unfold costsB at hk
  cases hg : goodG gm
  · simp only [go_sem, Nat.reduceEqDiff]
    rw [hg, Bool.false_and, Bool.false_and] at hk
    exact hk _ H.gr
  simp only [go_sem, Nat.reduceEqDiff]
  rw [hg, Bool.true_and] at hk
  rw [ldB35 (H.box 0 rfl) rfl]
  simp only [go_sem, Nat.reduceEqDiff]
  by_cases hl : cs.length = gm.rules.length
  · rw [decide_eq_true hl, Bool.true_and] at hk
    simp only [show ((cs.length : Int) = (gm.rules.length : Int)) from by omega, decide_true, go_sem, Nat.reduceEqDiff]
    have hp : Pred 4 (.func (.func 153) #[] #[]) (fun x => !inB x 1 100) w2 := fun w3 g3 x k hk =>
      callVc (areCosts1_c (hk w3 (Gr.refl w3)))
    refine containsFunc_c (hQ.gr H.gr) hp fun w3 g3 => ?_
    have H := H.step g3
    simp only [go_sem, Nat.reduceEqDiff]
    rw [notAny_all]
    exact hk _ H.gr
  · rw [decide_eq_false hl, Bool.false_and] at hk
    simp only [show ¬ ((cs.length : Int) = (gm.rules.length : Int)) from by omega, decide_false, go_sem, Nat.reduceEqDiff]
    exact hk _ H.gr
end Go.Proofs.Ytiohaeckagjebaa

/- Contracts: BestTree of the reference and of the program. -/
set_option linter.unusedVariables false
set_option linter.unusedSimpArgs false
set_option maxRecDepth 100000
namespace Go.Sh
open Go
noncomputable def topO (gm : Gram) (cs ws : List Int) : Option Nat := if (costsB gm cs && wordB gm.toks ws) = true then bestT gm cs ws 0 0 ws.length else none
noncomputable def treeL (gm : Gram) (cs ws : List Int) : List Int := bestTr gm.rules ws cs (bestT gm cs ws) bigF 0 0 ws.length
noncomputable def bestTreeV (gm : Gram) (cs ws : List Int) : List Int × Bool :=
  match topO gm cs ws with
  | none => ([], false)
  | some _ => if (treeL gm cs ws).length ≤ 60 then (treeL gm cs ws, true) else ([], false)
theorem bestTreeV_len (gm : Gram) (cs ws : List Int) : (bestTreeV gm cs ws).1.length ≤ 1000000 := by
  unfold bestTreeV
  split
  · exact Nat.zero_le _
  · split
    · rename_i h
      show (treeL gm cs ws).length ≤ 1000000
      omega
    · exact Nat.zero_le _
theorem bestT_fine {gm : Gram} {cs ws : List Int} (hg : goodG gm = true) (hcs : CostsOk gm cs) (hl : ws.length ≤ 10) : FineC (bestT gm cs ws) := by
  have hO := offerC (ws := ws) (cs := cs) (good_rules hg) (n := ws.length + 1) (by omega) (fun q hq => (hcs.at hq).2.2)
  have h := fixT_fix hO
  exact ⟨h.small hO smallG_none, h.keep (I := PosG) (fun T q i j m hq _ _ hT hm _ => posG_put hT (candC_pos (hcs.at hq).2.1 hm)) posG_none⟩
end Go.Sh
namespace Go.Proofs.Ytiohaeckagjebaa
open Go Go.Sh Go.RowKit
theorem specBestCost_c {F : Nat → Prop} {w : World} {v : Value} {gm : Gram} {X Q : Option Addr} {n0 cx m0 cq : Nat} {ws cs : List Int} (hv : GramV F w v gm) (hQ : Ints w Q cs) (hm0 : m0 = cs.length) (hX : Ints w X ws) (hn : n0 = ws.length) {k : Value → World → Prop}
    (hk : ∀ w', Gr w w' → k (.tuple #[.int .i64 (enc0 (topO gm cs ws)), .bool (decide (0 < enc0 (topO gm cs ws)))]) w') :
    CallK Try.prog 124 [v, .slice Q m0 cq, .slice X n0 cx] k w := by
  subst hn hm0
  obtain ⟨Y, cy, rfl, hc, hy⟩ := hv
  refine enter124 ?_
  unfold S124
  have H := Apt.nil w
  refine boxH H fun b1 w1 H => ?_
  rw [ldB_agg agg37 sz37 rfl (H.box 0 rfl)]
  refine l12Costs_c (gm := gm) ⟨Y, cy, rfl, hc, hy.gr H.gr⟩ (hQ.gr H.gr) rfl fun w2 g2 => ?_
  have H := H.step g2
  have no : (costsB gm cs && wordB gm.toks ws) = false → ∀ w', Gr w w' → k (.tuple #[.int .i64 0, .bool false]) w' := fun h w' g => by
    have := hk w' g
    unfold topO at this
    rw [h, if_neg Bool.false_ne_true] at this
    exact this
  cases hcb : costsB gm cs
  · simp only [Bool.not_false, go_sem, Nat.reduceEqDiff]
    exact no (by rw [hcb]; rfl) _ H.gr
  simp only [Bool.not_true, go_sem, Nat.reduceEqDiff]
  obtain ⟨hg, hcs⟩ := costsB_ok hcb
  rw [ldB_agg agg37 sz37 rfl (H.box 0 rfl)]
  refine l1Word_c (gm := gm) ⟨Y, cy, rfl, hc, hy.gr H.gr⟩ hg (hX.gr H.gr) rfl fun w3 g3 => ?_
  have H := H.step g3
  cases hgw : wordB gm.toks ws
  · simp only [Bool.not_false, go_sem, Nat.reduceEqDiff]
    exact no (by rw [hcb, hgw]; rfl) _ H.gr
  simp only [Bool.not_true, go_sem, Nat.reduceEqDiff]
  have hn6 := good_nons hg
  have hl := wordB_len hgw
  have htok := wordB_tok hgw (good_toks hg).2
  unfold topO at hk
  rw [hcb, hgw, if_pos (show (true && true) = true from rfl)] at hk
  rw [ldB_agg agg37 sz37 rfl (H.box 0 rfl)]
  refine l12Table_c (gm := gm) ⟨Y, cy, rfl, hc, hy.gr H.gr⟩ hg (hQ.gr H.gr) rfl hcs (hX.gr H.gr) rfl hl htok fun w4 U c nons T g4 hnn hT hS hF => ?_
  have hTe : T = bestT gm cs ws := hF.eq
  subst hTe
  obtain ⟨R, c', h1, h2, h3⟩ := hT.row 0 (by omega)
  have h4 := h3 0 ws.length (by omega) (by omega)
  rw [Nat.zero_mul, Nat.zero_add] at h4
  have hnn1 : (ws.length + 1) * 1 ≤ (ws.length + 1) * (ws.length + 1) := Nat.mul_le_mul_left _ (by omega)
  refine rdi (ix48_0 (fun h => hT.ptr h) (by omega)) (rdi (ld22 h1) ?_)
  have hlt1 : ws.length < (ws.length + 1) * (ws.length + 1) := by omega
  refine rdi (ixn22 (fun _ => h2) hlt1) (rdi (ld3 h4) ?_)
  simp only [go_sem, Nat.reduceEqDiff]
  exact hk _ (gr_trans H.gr g4)
theorem specBestTree_c {F : Nat → Prop} {w : World} {v : Value} {gm : Gram} {X Q : Option Addr} {n0 cx m0 cq : Nat} {ws cs : List Int} (hv : GramV F w v gm) (hQ : Ints w Q cs) (hm0 : m0 = cs.length) (hX : Ints w X ws) (hn : n0 = ws.length) {k : Value → World → Prop}
    (hk : ∀ w' U d, Gr w w' → Own 3 w' w.heap.size U d (bestTreeV gm cs ws).1 → k (.tuple #[.slice U (bestTreeV gm cs ws).1.length d, .bool (bestTreeV gm cs ws).2]) w') :
    CallK Try.prog 71 [v, .slice Q m0 cq, .slice X n0 cx] k w := by
  subst hn hm0
  obtain ⟨Y, cy, rfl, hc, hy⟩ := hv
  refine enter71 ?_
  unfold S71
  have H := Apt.nil w
  refine boxH H fun b1 w1 H => ?_
  rw [ldB_agg agg37 sz37 rfl (H.box 0 rfl)]
  refine specBestCost_c (gm := gm) ⟨Y, cy, rfl, hc, hy.gr H.gr⟩ (hQ.gr H.gr) rfl (hX.gr H.gr) rfl fun w2 g2 => ?_
  have H := H.step g2
  unfold bestTreeV at hk
  cases hto : topO gm cs ws with
  | none =>
    rw [hto] at hk
    simp only [enc0_n, show ¬ ((0 : Int) < 0) from by omega, decide_false, Bool.not_false, go_sem, Nat.reduceEqDiff]
    exact hk _ none 0 H.gr (Row.nil _ _ _ _)
  | some n =>
    rw [hto] at hk
    have hok : (costsB gm cs && wordB gm.toks ws) = true := by
      unfold topO at hto
      split at hto
      · assumption
      · cases hto
    have hT0 : bestT gm cs ws 0 0 ws.length = some n := by
      unfold topO at hto
      rwa [if_pos hok] at hto
    simp only [Bool.and_eq_true] at hok
    obtain ⟨hg, hcs⟩ := costsB_ok hok.1
    have hl := wordB_len hok.2
    have htok := wordB_tok hok.2 (good_toks hg).2
    have hfine := bestT_fine (ws := ws) hg hcs hl
    have hpos := hfine.2 _ _ _ _ hT0
    have hle := hfine.1.le (Nat.zero_le _) hl hT0
    have hn6 := good_nons hg
    simp only [enc0_s, show ((0 : Int) < (n : Int)) from by omega, show ¬ ((n : Int) = 0) from by omega, decide_true, decide_false, Bool.not_true, go_sem, Nat.reduceEqDiff]
    have H := H.drew
    refine ⟨fun w' => Gr w2.drew w', Gr.refl _, ?_⟩
    rw [rdG_agg agg37 sz37 rfl (H.box 0 rfl)]
    rw [rdG_agg agg37 sz37 rfl (H.box 0 rfl)]
    refine l12Table_c (gm := gm) ⟨Y, cy, rfl, hc, hy.gr H.gr⟩ hg (hQ.gr H.gr) rfl hcs (hX.gr H.gr) rfl hl htok fun w4 U c nons T g4 hnn hT hS hF => ?_
    have hTe : T = bestT gm cs ws := hF.eq
    subst hTe
    refine ⟨g4, ?_⟩
    have H := H.step g4
    have hE : EnvB gm cs ws (bestT gm cs ws) nons w4 (.agg #[.int .i64 gm.nons, .int .i64 gm.toks, .slice Y gm.rules.length cy]) U Q X := ⟨⟨Y, cy, rfl, hc, (hy.gr H.gr).mono fun _ _ => trivial⟩, hQ.gr H.gr, hX.gr H.gr, hT⟩
    refine l12Tree_c hg hcs hl htok hnn hfine n (A := 0) (i := 0) (j := ws.length) hE hT0 (Nat.le_refl _) (by omega) (Nat.zero_le _) (Nat.le_refl _) fun w5 U5 d5 g5 o5 => ?_
    have H := H.addOwn g5 o5
    simp only [List.nil_append, List.cons_append] at H
    have htr : bestTr gm.rules ws cs (bestT gm cs ws) bigF 0 0 ws.length = treeL gm cs ws := rfl
    rw [htr] at H ⊢
    dsimp only at hk
    simp only [go_sem, Nat.reduceEqDiff]
    by_cases h60 : (treeL gm cs ws).length ≤ 60
    · rw [if_pos h60] at hk
      simp only [show ¬ ((60 : Int) < ((treeL gm cs ws).length : Int)) from by omega, decide_false, go_sem, Nat.reduceEqDiff]
      exact hk _ _ _ H.gr (H.own 1 rfl)
    · rw [if_neg h60] at hk
      simp only [show ((60 : Int) < ((treeL gm cs ws).length : Int)) from by omega, decide_true, go_sem, Nat.reduceEqDiff]
      exact hk _ none 0 H.gr (Row.nil _ _ _ _)
theorem implBestTree_c {F : Nat → Prop} {w : World} {v : Value} {gm : Gram} {X Q : Option Addr} {n0 cx m0 cq : Nat} {ws cs : List Int} (hv : GramV F w v gm) (hQ : Ints w Q cs) (hm0 : m0 = cs.length) (hX : Ints w X ws) (hn : n0 = ws.length) {k : Value → World → Prop}
    (hk : ∀ w' U d, Gr w w' → Own 3 w' w.heap.size U d (bestTreeV gm cs ws).1 → k (.tuple #[.slice U (bestTreeV gm cs ws).1.length d, .bool (bestTreeV gm cs ws).2]) w') :
    CallK Try.prog 72 [v, .slice Q m0 cq, .slice X n0 cx] k w := by
  subst hn hm0
  obtain ⟨Y, cy, rfl, hc, hy⟩ := hv
  refine enter72 ?_
  unfold S72
  have H := Apt.nil w
  refine boxH H fun b1 w1 H => ?_
  rw [ldB_agg agg37 sz37 rfl (H.box 0 rfl)]
  refine areCosts_c (gm := gm) ⟨Y, cy, rfl, hc, hy.gr H.gr⟩ (hQ.gr H.gr) rfl fun w2 g2 => ?_
  have H := H.step g2
  unfold bestTreeV topO at hk
  have no : (costsB gm cs && wordB gm.toks ws) = false → ∀ w', Gr w w' → k (.tuple #[.slice none 0 0, .bool false]) w' := fun h w' g => by
    have := hk w' none 0 g
    rw [h, if_neg Bool.false_ne_true] at this
    exact this (Row.nil _ _ _ _)
  cases hcb : costsB gm cs
  · simp only [Bool.not_false, go_sem, Nat.reduceEqDiff]
    exact no (by rw [hcb]; rfl) _ H.gr
  simp only [Bool.not_true, go_sem, Nat.reduceEqDiff]
  obtain ⟨hg, hcs⟩ := costsB_ok hcb
  have ht := good_toks hg
  rw [ldB3 (H.box 0 rfl) rfl]
  refine isWord_c (hX.gr H.gr) rfl ht.1 ht.2 fun w3 g3 => ?_
  have H := H.step g3
  cases hgw : wordB gm.toks ws
  · simp only [Bool.not_false, go_sem, Nat.reduceEqDiff]
    exact no (by rw [hcb, hgw]; rfl) _ H.gr
  simp only [Bool.not_true, go_sem, Nat.reduceEqDiff]
  rw [hcb, hgw, if_pos (show (true && true) = true from rfl)] at hk
  have hn6 := good_nons hg
  have hl := wordB_len hgw
  have htok := wordB_tok hgw ht.2
  have hfine := bestT_fine (ws := ws) hg hcs hl
  rw [ldB_agg agg37 sz37 rfl (H.box 0 rfl)]
  have G3 := H.gr
  refine costs_c (gm := gm) ⟨Y, cy, rfl, hc, hy.gr G3⟩ hg (hQ.gr G3) rfl hcs (hX.gr G3) rfl hl htok fun w4 b bm Y' cy' T hagg hc' hy' HT hS hF => ?_
  have hTe : T = bestT gm cs ws := hF.eq
  subst hTe
  simp only [go_sem, Nat.reduceEqDiff]
  refine rdi (ixa122 (by omega) (by omega)) (rdi (ixa121 (by omega) (by omega)) (rdi (ixa120 (by omega) (by omega)) ?_))
  have hcell := boxC_at (b := b) (gm := gm) (Y := Y') (cy := cy') (X := X) (cx := cx) (ws := ws) (Z := Q) (cz := cq) (cs := cs) (T := bestT gm cs ws) (bm := bm) (A := 0) (i := 0) (j := ws.length) (by omega) (by omega) (by omega)
  simp only [Nat.zero_mul, Nat.add_zero] at hcell
  simp only [Int.toNat_natCast, Int.toNat_zero, Nat.zero_mul, add_zero', go_sem, Nat.reduceEqDiff]
  rw [ldB3 (off := 0 + 5 + ws.length) (HT.box 0 rfl) hcell]
  cases ho : bestT gm cs ws 0 0 ws.length with
  | none =>
    rw [ho] at hk
    simp only [encM_n, show ((-1 : Int) < 0) from by omega, decide_true, go_sem, Nat.reduceEqDiff]
    exact hk _ none 0 (gr_trans G3 HT.gr) (Row.nil _ _ _ _)
  | some n =>
    rw [ho] at hk
    have hle := hfine.1.le (Nat.zero_le _) hl ho
    simp only [encM_s, show ¬ ((n : Int) < 0) from by omega, decide_false, go_sem, Nat.reduceEqDiff]
    have HT := HT.emptyG 1 rfl
    simp only [List.set_cons_zero, List.set_cons_succ] at HT
    refine least_c (Y := Y') (cy := cy') (X := X) (cx := cx) (Q := Q) (cq := cq) (bc := b) (bm := bm) (M := fun ents has E => _) hg hcs hl htok hfine (hX.gr G3) (hQ.gr G3) hy' (fun ents has E => rfl) n (ents := []) (has := []) (E := []) (A := 0) (i := 0) (j := ws.length) (fun t ht => by simp at ht) HT ho (Nat.le_refl _) (by omega) (Nat.zero_le _) (Nat.le_refl _) fun w5 ents5 has5 Y5 d5 hG5 H5 hI => ?_
    have htr : bestTr gm.rules ws cs (bestT gm cs ws) bigF 0 0 ws.length = treeL gm cs ws := rfl
    rw [htr] at hI ⊢
    dsimp only at hk
    simp only [go_sem, Nat.reduceEqDiff]
    have G5 := gr_trans G3 H5.gr
    by_cases h60 : (treeL gm cs ws).length ≤ 60
    · rw [if_pos h60] at hk
      simp only [show ¬ ((60 : Int) < ((treeL gm cs ws).length : Int)) from by omega, decide_false, go_sem, Nat.reduceEqDiff]
      have K := Apt.nil w5
      refine buildH K u22 inf3 [] (by decide) (by decide) (by simp [Instr.fill, madeCells]) rfl fun b6 w6 K => ?_
      simp only [List.nil_append] at K
      refine apH (xs := []) K 0 rfl (hI.gr K.gr) rfl rfl (by simp only [List.length_nil]; omega) fun Y7 d7 w7 K => ?_
      simp only [List.set_cons_zero, List.nil_append] at K
      have := hk _ Y7 d7 (gr_trans G5 K.gr) (Row.mono (K.own 0 rfl) G5.size)
      exact this
    · rw [if_neg h60] at hk
      simp only [show ((60 : Int) < ((treeL gm cs ws).length : Int)) from by omega, decide_true, go_sem, Nat.reduceEqDiff]
      exact hk _ none 0 G5 (Row.nil _ _ _ _)
end Go.Proofs.Ytiohaeckagjebaa

/- The laws of BestTree, over their contracts. -/
set_option linter.unusedVariables false
set_option linter.unusedSimpArgs false
set_option maxRecDepth 100000
namespace Go.Proofs.Ytiohaeckagjebaa
open Go Go.Sh Go.RowKit

set_option maxHeartbeats 2000000 in
theorem law_BestTree {w : World} {v0 : Value} {g0 : Gram} {X1 : Option Addr} {c1 : Nat} {xs1 : List Int} {X2 : Option Addr} {c2 : Nat} {xs2 : List Int} (hv0 : GramV (fun q => q < w.heap.size) w v0 g0) (hx1 : Ints w X1 xs1) (hc1 : xs1.length ≤ c1) (hx2 : Ints w X2 xs2) (hc2 : xs2.length ≤ c2) {k : Value → World → Prop} (hk : ∀ w', Gr w w' → k (.bool true) w') :
    CallK Try.prog 21 [v0, .slice X1 xs1.length c1, .slice X2 xs2.length c2] k w := by
  obtain ⟨Y0, d0, rfl, hd0, hy0⟩ := hv0
  refine enter21 ?_
  unfold S21
  have H := Apt.nil w
  refine boxH H fun b0 w1 H => ?_
  refine rdi len22 (rdi bin_gtr ?_)
  refine cond_split (fun _ => hk _ H.gr) fun h => ?_
  have hL1 : xs1.length ≤ 1048576 := by have := of_decide_eq_false h; omega
  refine rdi len22 (rdi bin_gtr ?_)
  refine cond_split (fun _ => hk _ H.gr) fun h => ?_
  have hL2 : xs2.length ≤ 1048576 := by have := of_decide_eq_false h; omega
  refine rdi (ldB_agg agg31 sz31 rfl (H.box 0 rfl)) ?_
  refine szGrammar_c (gm := g0) ⟨Y0, d0, rfl, hd0, hy0.gr H.gr⟩ (by omega) (by omega) fun w2 g => ?_
  have H := H.step g
  refine rdi bin_lss ?_
  refine cond_split (fun _ => hk _ H.gr) fun h => ?_
  have hz0 := left_ok (of_decide_eq_false h)
  have hle0 := left_le (n := 1048576) (s := sizeR g0.rules) (by omega)
  have hp0 := of_decide_eq_false h
  have hlV : (bestTreeV g0 xs1 xs2).1.length ≤ 1000000 := bestTreeV_len _ _ _
  refine rdi (ldB_agg agg31 sz31 rfl (H.box 0 rfl)) ?_
  refine toGrammar_c (gm := g0) ⟨Y0, d0, rfl, hd0, hy0.gr H.gr⟩ (by omega) fun v w3 g oc => ?_
  obtain ⟨XC, cC, psC, rfl, oc⟩ := oc
  have H := H.addRules g oc
  refine toIntS_c (hx1.gr H.gr) rfl (by omega) fun XC cC w4 g oc => ?_
  have H := H.addOwn g oc
  refine toIntS_c (hx2.gr H.gr) rfl (by omega) fun XC cC w5 g oc => ?_
  have H := H.addOwn g oc
  simp only [List.nil_append, List.cons_append, List.set_cons_zero, List.set_cons_succ] at H
  refine specBestTree_c (rls_gramV (gm := g0) (H.rules 1 rfl)) (H.ints 2 rfl) rfl (H.ints 3 rfl) rfl fun w6 U dU g oU => ?_
  have H := H.addOwn g oU
  refine rdi extract_two_0 (rdi extract_two_1 ?_)
  simp only [List.nil_append, List.cons_append, List.set_cons_zero, List.set_cons_succ] at H
  refine rdi (ldB_agg agg31 sz31 rfl (H.box 0 rfl)) ?_
  refine toGrammar_c (gm := g0) ⟨Y0, d0, rfl, hd0, hy0.gr H.gr⟩ (by omega) fun v w7 g oc => ?_
  obtain ⟨XC, cC, psC, rfl, oc⟩ := oc
  have H := H.addRules g oc
  refine allocH H inf37 fun bx0 w8 H => ?_
  refine storeH H 6 rfl sz37 rfl rfl rfl fun w9 H => ?_
  simp only [List.nil_append, List.cons_append, List.set_cons_zero, List.set_cons_succ] at H
  refine toIntS_c (hx1.gr H.gr) rfl (by omega) fun XC cC w10 g oc => ?_
  have H := H.addOwn g oc
  refine toIntS_c (hx2.gr H.gr) rfl (by omega) fun XC cC w11 g oc => ?_
  have H := H.addOwn g oc
  simp only [List.nil_append, List.cons_append, List.set_cons_zero, List.set_cons_succ] at H
  refine rdi (ldB_agg agg37 sz37 rfl (H.box 6 rfl)) ?_
  refine implBestTree_c (rls_gramV (gm := g0) (H.rules 5 rfl)) (H.ints 7 rfl) rfl (H.ints 8 rfl) rfl fun w12 U dU g oU => ?_
  have H := H.addOwn g oU
  refine rdi extract_two_0 (rdi extract_two_1 ?_)
  simp only [List.nil_append, List.cons_append, List.set_cons_zero, List.set_cons_succ] at H
  refine eqIntS_same (H.ints 9 rfl) (H.ints 4 rfl) fun w13 g => ?_
  have H := H.step g
  refine rdi un_not (rdi guard_ff (rdi guard_ff (rdi guard_ff (rdi bin_neq_same (rdi pick_false (rdi cond_false' ?_))))))
  have H := H.drew
  refine ⟨fun w' => Gr w13.drew w', Gr.refl _, ?_⟩
  refine rdi (rdG_agg agg37 sz37 rfl (H.box 6 rfl)) (rdi (rdG_agg agg31 sz31 rfl (H.box 0 rfl)) ?_)
  refine toGrammar_c (gm := g0) ⟨Y0, d0, rfl, hd0, hy0.gr H.gr⟩ (by omega) fun v w14 g oc => ?_
  refine ⟨g, ?_⟩
  have H := H.step g
  refine eqGrammar_same (rls_gramV (gm := g0) (H.rules 5 rfl)) oc.read fun w15 g => ?_
  have H := H.step g
  refine rdi un_not (rdi cond_false' ?_)
  refine toIntS_c (hx1.gr H.gr) rfl (by omega) fun XC cC w16 g oc => ?_
  have H := H.step g
  refine eqIntS_same (H.ints 7 rfl) (Own.ints oc) fun w17 g => ?_
  have H := H.step g
  refine rdi un_not (rdi cond_false' ?_)
  refine toIntS_c (hx2.gr H.gr) rfl (by omega) fun XC cC w18 g oc => ?_
  have H := H.step g
  refine eqIntS_same (H.ints 8 rfl) (Own.ints oc) fun w19 g => ?_
  have H := H.step g
  refine rdi un_not (rdi cond_false' ?_)
  refine rdi (ldB_agg agg37 sz37 rfl (H.box 6 rfl)) ?_
  refine markGrammar_c (gm := g0) (H.rules 5 rfl) rfl (by omega) (by omega) fun w20 g om => ?_
  have H := H.setRules 5 rfl (markR_length _ g0.rules) g om
  simp only [List.nil_append, List.cons_append, List.set_cons_zero, List.set_cons_succ] at H
  refine markH H 7 rfl rfl (by omega) (by omega) fun w21 H => ?_
  simp only [List.nil_append, List.cons_append, List.set_cons_zero, List.set_cons_succ] at H
  refine markH H 8 rfl rfl (by omega) (by omega) fun w22 H => ?_
  simp only [List.nil_append, List.cons_append, List.set_cons_zero, List.set_cons_succ] at H
  refine rdi (bin_lss_false (by omega)) (rdi guard_ff (rdi guard_ff (rdi guard_ff ?_)))
  refine eqIntS_same (H.ints 9 rfl) (H.ints 4 rfl) fun w23 g => ?_
  have H := H.step g
  refine rdi guard_ff (rdi un_not (rdi pick_false (rdi guard_ff (rdi guard_ff (rdi guard_ff (rdi bin_neq_same (rdi pick_false (rdi cond_false' ?_))))))))
  refine markH H 9 rfl rfl (by omega) (by omega) fun w24 H => ?_
  simp only [List.nil_append, List.cons_append, List.set_cons_zero, List.set_cons_succ] at H
  refine heldIntS_c (H.ints 9 rfl) rfl (by omega) (by omega) fun w25 g => ?_
  have H := H.step g
  refine rdi (bin_lss_false (by omega)) (rdi cond_false' (rdi bin_neqi_same (rdi cond_false' ?_)))
  refine rdi (ldB_agg agg31 sz31 rfl (H.box 0 rfl)) ?_
  refine toGrammar_c (gm := g0) ⟨Y0, d0, rfl, hd0, hy0.gr H.gr⟩ (by omega) fun v w26 g oc => ?_
  obtain ⟨XC, cC, psC, rfl, oc⟩ := oc
  have H := H.addRules g oc
  refine toIntS_c (hx1.gr H.gr) rfl (by omega) fun XC cC w27 g oc => ?_
  have H := H.addOwn g oc
  refine toIntS_c (hx2.gr H.gr) rfl (by omega) fun XC cC w28 g oc => ?_
  have H := H.addOwn g oc
  simp only [List.nil_append, List.cons_append, List.set_cons_zero, List.set_cons_succ] at H
  refine implBestTree_c (rls_gramV (gm := g0) (H.rules 10 rfl)) (H.ints 11 rfl) rfl (H.ints 12 rfl) rfl fun w29 U dU g oU => ?_
  have H := H.addOwn g oU
  refine rdi extract_two_0 (rdi extract_two_1 ?_)
  simp only [List.nil_append, List.cons_append, List.set_cons_zero, List.set_cons_succ] at H
  refine eqIntS_same (H.ints 13 rfl) (H.ints 4 rfl) fun w30 g => ?_
  have H := H.step g
  refine rdi un_not (rdi guard_ff (rdi guard_ff (rdi guard_ff (rdi bin_neq_same (rdi pick_false (rdi cond_false' ?_))))))
  refine heldIntS_c (H.ints 9 rfl) rfl (by omega) (by omega) fun w31 g => ?_
  have H := H.step g
  refine rdi (bin_lss_false (by omega)) (rdi cond_false' (rdi bin_neqi_same (rdi cond_false' ?_)))
  exact hk _ H.gr
end Go.Proofs.Ytiohaeckagjebaa

/- From the reading of arguments to what the contracts ask. -/
set_option linter.unusedVariables false
set_option linter.unusedSimpArgs false
set_option maxRecDepth 100000
namespace Go.Sh
open Go Go.ChangeShapes Go.WideShapes Go.ChangeAt Go.RowKit
theorem below_of_gr {w w' : World} (g : Gr w w') : Below w.heap.size w w' := ⟨g.os, g.tape, g.output, g.size, fun k hk => g.block k hk (by simp)⟩
/-- A law's walk, as its row asks for it. -/
theorem walk_of {P : Program} {g : FuncId} {args : List Value} {w : World} (h : ∀ k : Value → World → Prop, (∀ w', Gr w w' → k (.bool true) w') → CallK P g args k w) :
    Calls P g args.toArray w fun e w' => e = .returned (.bool true) ∧ Below w.heap.size w w' :=
  (h (fun v w' => v = .bool true ∧ Gr w w') (fun w' g => ⟨rfl, g⟩)).2.mono fun e w' he => by
    cases e with
    | returned v => exact ⟨by rw [he.1], below_of_gr he.2⟩
    | panicked c => exact he.elim
    | outgrown => exact he.elim

section
variable {H : Type} {enc : TypeId × Value → H} {P : Program} {w : World} {base : Nat} {spare : Nat → Bool} {held : Bool}
theorem read_ints {t e : TypeId} (ht : P.underlying t = some (.slice e)) (he : P.underlying e = some (.int .i64)) (hc : P.cellsOf e = 1) {fuel : Nat} {cs : List Value} {x : DataW H × List MemPlace}
    (h : DataW.trod enc P w base spare held fuel t cs = some x) : ∃ X n c xs, cs = [.slice X n c] ∧ n = xs.length ∧ n ≤ c ∧ Ints w X xs := by
  rcases open_ints ht he hc h with ⟨hcs, _⟩ | ⟨a, l, c, zs, hcs, _, hl, hm, hz, _, hcell, hwz⟩
  · exact ⟨none, 0, 0, [], hcs, rfl, Nat.le_refl _, by simp, fun h => by simp at h, fun j hj => by simp at hj⟩
  · have hzl : l ≤ zs.length := by rw [hz]; split <;> omega
    refine ⟨some a, l, c, zs.take l, hcs, by simp; omega, hl, ?_, fun _ => rfl, fun j hj => ?_⟩
    · unfold maxLen at hm
      simp
      omega
    · have hj' : j < l ∧ j < zs.length := by simp at hj; omega
      rw [show (ad (some a)).add j = a.add j from rfl, hcell j hj'.2]
      simp [List.getD_eq_getElem?_getD, List.getElem?_take, hj'.1]
theorem trod_ints {t e : TypeId} {v : Value} {d : DataW H} {p : List MemPlace} (ht : P.underlying t = some (.slice e)) (he : P.underlying e = some (.int .i64)) (hc : P.cellsOf e = 1)
    (h : DataW.Trod enc P w base spare held t v d p) : ∃ X n c xs, v.cells.toList = [.slice X n c] ∧ n = xs.length ∧ n ≤ c ∧ Ints w X xs := by
  obtain ⟨fuel, hf⟩ := h
  exact read_ints ht he hc hf
end
end Go.Sh

/- From the reading of a grammar among the arguments to what the contracts ask. -/
set_option linter.unusedVariables false
set_option linter.unusedSimpArgs false
set_option maxRecDepth 100000
namespace Go.Sh
open Go Go.ChangeShapes Go.WideShapes Go.ChangeAt Go.RowKit Go.Deep
section
variable {H : Type} {enc : TypeId × Value → H} {P : Program} {w : World} {base : Nat} {spare : Nat → Bool} {held : Bool}
theorem read_rules {t e ti : TypeId} {f0 f1 : Field} (ht : P.underlying t = some (.slice e)) (he : P.underlying e = some (.struct #[f0, f1])) (ce : P.cellsOf e = 2) (o0 : f0.offset = 0) (o1 : f1.offset = 1) (c0 : P.cellsOf f0.type = 1) (c1 : P.cellsOf f1.type = 1)
    (h0 : P.underlying f0.type = some (.int .i64)) (h1 : P.underlying f1.type = some (.slice ti)) (hti : P.underlying ti = some (.int .i64)) (hci : P.cellsOf ti = 1) {fuel : Nat} {cs : List Value} {x : DataW H × List MemPlace}
    (h : DataW.trod enc P w base spare held fuel t cs = some x) : ∃ X c rs, cs = [.slice X (List.length rs) c] ∧ rs.length ≤ c ∧ RulesF (fun b => b < w.heap.size) w X rs := by
  rcases open_slice_pairs ht he ce o0 o1 c0 c1 h with ⟨hcs, _⟩ | ⟨a, len, cap, m, n, V0, V1, D0, D1, P0, P1, rfl, hb, hl, hm, hmm, _, hx⟩
  · exact ⟨none, 0, [], hcs, Nat.le_refl _, by simp, fun h => by simp at h, fun h => by simp at h, fun j hj => by simp at hj⟩
  have hlm : len ≤ m := by rw [hmm]; split <;> omega
  have each : ∀ i, i < len → ∃ q : RuleL × Option Addr × Nat, V0 i = .int .i64 q.1.1 ∧ V1 i = .slice q.2.1 q.1.2.length q.2.2 ∧ q.1.2.length ≤ q.2.2 ∧ Ints w q.2.1 q.1.2 := fun i hi => by
    obtain ⟨_, _, t0, t1⟩ := hx i (by omega)
    obtain ⟨k, hk, _, _⟩ := DataW.trod_int h0 t0
    obtain ⟨X, n, c, xs, hcs, rfl, hn, hix⟩ := read_ints h1 hti hci t1
    simp only [List.cons.injEq, and_true] at hk hcs
    exact ⟨((k, xs), X, c), hk, hcs, hn, hix⟩
  obtain ⟨q, hq⟩ := choose_lt each
  have hr : ∀ j, j < len → rul ((List.range len).map fun i => (q i).1) j = (q j).1 := fun j hj => by
    rw [rul_eq (by simpa using hj)]
    simp
  refine ⟨some a, cap, (List.range len).map fun i => (q i).1, by simp, by simpa using hl, by unfold maxLen at hm; simp; omega, fun _ => rfl, fun hp => ?_, fun j hj => ?_⟩
  · have := lt_of_cell (hx 0 (by simp at hp; omega)).1
    rwa [add_block] at this
  · have hj' : j < len := by simpa using hj
    rw [hr j hj']
    obtain ⟨e0, e1, _, _⟩ := hx j (by omega)
    obtain ⟨q0, q1, q2, q3⟩ := hq j hj'
    exact ⟨_, _, e0.trans (by rw [q0]), e1.trans (by rw [q1]), q2, IntsF.of_ints q3⟩
end
end Go.Sh
namespace Go.Proofs.Ytiohaeckagjebaa
open Go Go.Sh Go.ChangeShapes Go.WideShapes Go.ChangeAt Go.RowKit Go.Deep
theorem cells3 : Try.prog.cellsOf 3 = 1 := by kernel_rfl
theorem cells22 : Try.prog.cellsOf 22 = 1 := by kernel_rfl
theorem cells29 : Try.prog.cellsOf 29 = 1 := by kernel_rfl
theorem cells148 : Try.prog.cellsOf 148 = 2 := by kernel_rfl
theorem read_gram {H : Type} {enc : TypeId × Value → H} {w : World} {base b0 : Nat} {spare : Nat → Bool} {held : Bool} {r : Reach} {v : Value} {d : DataW H} {p : List MemPlace} (hval : Value.okWide Try.prog w r b0 31 v)
    (h : DataW.Trod enc Try.prog w base spare held 31 v d p) : ∃ g, GramV (fun b => b < w.heap.size) w v g := by
  obtain ⟨cs, rfl, hsz⟩ := okWide_struct Try.underlying31 hval
  obtain ⟨fuel, hf⟩ := h
  obtain ⟨y0, y1, y2, n, _, hl, t0, t1, t2⟩ := trod_struct3 Try.underlying31 hf
  have hc3 : Try.prog.cellsOf 31 = 3 := by kernel_rfl
  rw [hc3] at hl hsz
  obtain ⟨l⟩ := cs
  match l, hsz with
  | [u0, u1, u2], _ =>
    have ec : (Value.agg #[u0, u1, u2]).cells.toList = [u0, u1, u2] := rfl
    simp only [ec, cells3, cells29, List.drop, List.take] at t0 t1 t2
    obtain ⟨k0, e0, _, _⟩ := DataW.trod_int Try.underlying3 t0
    obtain ⟨k1, e1, _, _⟩ := DataW.trod_int Try.underlying3 t1
    obtain ⟨X, c, rs, e2, hc, hr⟩ := read_rules Try.underlying29 Try.underlying148 cells148 rfl rfl cells3 cells22 Try.underlying3 Try.underlying22 Try.underlying3 cells3 t2
    simp only [List.cons.injEq, and_true] at e0 e1 e2
    subst e0 e1 e2
    exact ⟨⟨k0, k1, rs⟩, X, c, rfl, hc, hr⟩
end Go.Proofs.Ytiohaeckagjebaa
