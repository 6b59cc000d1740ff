/- The law of StarOf, over its contracts. -/
import Derived.Test.YtiohaeckagjebaaShH6
import Derived.Test.YtiohaeckagjebaaShH7
import Derived.Test.YtiohaeckagjebaaShG8
set_option linter.unusedVariables false
set_option linter.unusedSimpArgs false
set_option maxRecDepth 100000
namespace Go.Sh
open Go
def resG : Option Gram → Gram
  | some m => m
  | none => ⟨0, 0, []⟩
theorem GramR.own {w : World} {B : Nat} {v : Value} {o : Option Gram} (h : GramR w B v o) : GramO w B v (resG o) := by
  cases o with
  | some m => exact h
  | none => exact ⟨none, 0, fun _ => (none, 0), h, ⟨[], Row.nil _ _ _ _, fun j hj => by simp [resG] at hj⟩, fun j hj => by simp [resG] at hj, fun i j hi => by simp [resG] at hi⟩
theorem lens_small {rs : List RuleL} (h : ∀ i, i < rs.length → (rul rs i).2.length ≤ 4) : ∀ i, i ≤ rs.length → lens (rs.take i) ≤ 4 * i
  | 0, _ => by simp [lens]
  | i + 1, hi => by
    have := lens_small h i (by omega)
    have := h i (by omega)
    rw [lens_take (by omega)]
    omega
theorem good_size {g : Gram} (hg : goodG g = true) : sizeR g.rules ≤ 80 := by
  have h := lens_small (good_rule hg) g.rules.length (Nat.le_refl _)
  rw [List.take_length] at h
  have := good_len hg
  unfold sizeR
  omega
theorem madeV_size {first : List RuleL} {nons toks : Int} {gs : List Gram} : sizeR (resG (madeV first nons toks gs)).rules ≤ 80 := by
  unfold madeV
  split
  · exact good_size (by assumption)
  · simp [resG, sizeR, lens]
theorem starV_size {g : Gram} : sizeR (resG (starV g)).rules ≤ 80 := by
  unfold starV
  split
  · exact madeV_size
  · simp [resG, sizeR, lens]
end Go.Sh
namespace Go.Proofs.Ytiohaeckagjebaa
open Go Go.Sh Go.RowKit

theorem law_StarOf {w : World} {v : Value} {gm : Gram} (hv : GramV (fun b => b < w.heap.size) w v gm) {k : Value → World → Prop} (hk : ∀ w', Gr w w' → k (.bool true) w') :
    CallK Try.prog 5 [v] k w := by
  obtain ⟨Y, c, rfl, hc, hy⟩ := hv
  refine enter5 ?_
  unfold S5
  refine do_box fun b w1 g1 hb1 hB => ?_
  rw [ldB_agg agg31 sz31 rfl hB]
  refine szGrammar_c (gm := gm) ⟨Y, c, rfl, hc, hy.gr g1⟩ (by decide) (by decide) fun w2 g2 => ?_
  have g := gr_trans g1 g2
  have hB := hB.gr g2
  simp only [go_sem, Nat.reduceEqDiff]
  by_cases hs : left 1048576 (sizeR gm.rules) < 0
  · simp only [hs, decide_true, go_sem, Nat.reduceEqDiff]
    exact hk _ g
  have hsz := left_ok hs
  simp only [hs, decide_false, go_sem, Nat.reduceEqDiff]
  rw [ldB_agg agg31 sz31 rfl hB]
  refine toGrammar_c (gm := gm) ⟨Y, c, rfl, hc, hy.gr g⟩ (by omega) fun v1 w3 g3 o1 => ?_
  have g := gr_trans g g3
  have hB := hB.gr g3
  refine specStarOf_c o1.read (fun q hq => hq.2) fun vS w4 g4 rS => ?_
  have hB := hB.gr g4
  have gw3 := g
  have g := gr_trans g g4
  have oS := rS.own
  obtain ⟨XS, cS, psS, rfl, oS⟩ := oS
  simp only [go_sem, Nat.reduceEqDiff]
  refine do_alloc_of inf37 fun b14 w5 g5 hb5 h14 => ?_
  have n14 := hB.ne hb5
  refine do_store sz37 rfl (by intro u hu; simp [Value.cells] at hu; rcases hu with rfl | rfl | rfl <;> rfl) h14 (by simp [Value.cells]) fun w6 g6 s6 h14 => ?_
  have g46 := gr_put g5 g6 hb5
  have hB := hB.gr g46
  have oS := oS.gr g46
  have g := gr_trans g g46
  rw [ldB_agg agg31 sz31 rfl hB]
  refine toGrammar_c (gm := gm) ⟨Y, c, rfl, hc, hy.gr g⟩ (by omega) fun vC w7 g7 oC => ?_
  obtain ⟨XC, cC, psC, rfl, oC⟩ := oC
  have hB := hB.gr g7
  have h14 := h14.gr g7
  have oS7 := oS.gr g7
  have gw6 := g
  have g := gr_trans g g7
  refine do_alloc_of inf37 fun b20 w8 g8 hb8 h20 => ?_
  refine do_store sz37 rfl (by intro u hu; simp [Value.cells] at hu; rcases hu with rfl | rfl | rfl <;> rfl) h20 (by simp [Value.cells]) fun w9 g9 s9 h20 => ?_
  have g79 := gr_put g8 g9 hb8
  have hB := hB.gr g79
  have h14 := h14.gr g79
  have g := gr_trans g g79
  have oC9 := oC.gr g79
  rw [ldB_agg agg37 sz37 rfl h20]
  have vC9 : ∀ w', Gr w7 w' → GramV (fun _ => True) w' (.agg #[.int .i64 gm.nons, .int .i64 gm.toks, .slice XC gm.rules.length cC]) gm := fun w' g' => by
    obtain ⟨cells, hr, _⟩ := oC.cells
    exact ⟨XC, cC, rfl, (Row.cap hr).1, (oC.read.gr g').mono fun _ _ => trivial⟩
  refine implStarOf_c (vC9 w9 g79) fun vI w10 g10 rI => ?_
  have oI := rI.own
  obtain ⟨XI, cI, psI, rfl, oI⟩ := oI
  simp only [go_sem, Nat.reduceEqDiff]
  refine do_alloc_of inf37 fun b28 w11 g11 hb11 h28 => ?_
  refine do_store sz37 rfl (by intro u hu; simp [Value.cells] at hu; rcases hu with rfl | rfl | rfl <;> rfl) h28 (by simp [Value.cells]) fun w12 g12 s12 h28 => ?_
  have g1012 := gr_put g11 g12 hb11
  have g912 := gr_trans g10 g1012
  have hB := hB.gr g912
  have h14 := h14.gr g912
  have h20 := h20.gr g912
  have oI := oI.gr g1012
  have g := gr_trans g g912
  rw [ldB_agg agg37 sz37 rfl h28, ldB_agg agg37 sz37 rfl h14]
  have vS : ∀ w', Gr w6 w' → GramV (fun q => q < w6.heap.size) w' (.agg #[.int .i64 (resG (starV gm)).nons, .int .i64 (resG (starV gm)).toks, .slice XS (resG (starV gm)).rules.length cS]) (resG (starV gm)) := fun w' g' => by
    obtain ⟨cells, hr, _⟩ := oS.cells
    exact ⟨XS, cS, rfl, (Row.cap hr).1, (oS.read.gr g').mono fun _ h => h.2⟩
  have vI : ∀ w', Gr w12 w' → GramV (fun q => w9.heap.size ≤ q) w' (.agg #[.int .i64 (resG (starV gm)).nons, .int .i64 (resG (starV gm)).toks, .slice XI (resG (starV gm)).rules.length cI]) (resG (starV gm)) := fun w' g' => by
    obtain ⟨cells, hr, _⟩ := oI.cells
    exact ⟨XI, cI, rfl, (Row.cap hr).1, (oI.read.gr g').mono fun _ h => h.1⟩
  have g612 : Gr w6 w12 := gr_trans (gr_trans g7 g79) g912
  refine eqGrammar_c (vI w12 (Gr.refl _)) (vS w12 g612) fun w13 g13 => ?_
  simp only [decide_true, Bool.not_true, go_sem, Nat.reduceEqDiff]
  rw [bin_neq_bool Try.underlying4]
  simp only [beq_self_eq_true, Bool.not_true, go_sem, Nat.reduceEqDiff]
  have gd := gr_drew w13
  have h2013 := h20.gr g13
  have hB13 := hB.gr g13
  refine ⟨fun w' => Gr w13.drew w', Gr.refl _, ?_⟩
  rw [rd_loadAgg agg37 sz37 (cs := [.int .i64 gm.nons, .int .i64 gm.toks, .slice XC gm.rules.length cC]) rfl (fun w' hw' j hj => by
    rw [add_plain, Nat.zero_add, ((h2013.gr gd).gr hw').cell]
    exact List.getElem?_eq_getElem hj)]
  rw [rd_loadAgg agg31 sz31 (cs := [.int .i64 gm.nons, .int .i64 gm.toks, .slice Y gm.rules.length c]) rfl (fun w' hw' j hj => by
    rw [add_plain, Nat.zero_add, ((hB13.gr gd).gr hw').cell]
    exact List.getElem?_eq_getElem hj)]
  have g13d := gr_trans g13 gd
  refine toGrammar_c (gm := gm) ⟨Y, c, rfl, hc, hy.gr (gr_trans g g13d)⟩ (by omega) fun v3 w14 g14 o3 => ?_
  refine ⟨g14, ?_⟩
  have g1214 := gr_trans g13d g14
  refine eqGrammar_c (vC9 w14 (gr_trans g79 (gr_trans g912 g1214))) o3.read fun w15 g15 => ?_
  have g1215 := gr_trans g1214 g15
  simp only [decide_true, Bool.not_true, go_sem, Nat.reduceEqDiff]
  have hB := hB.gr g1215
  have h14 := h14.gr g1215
  have h20 := h20.gr g1215
  have h28 := h28.gr g1215
  have g := gr_trans g g1215
  rw [ldB_agg agg37 sz37 rfl h20]
  have s67 := g7.size
  have s79 := g79.size
  have sw6 := gw6.size
  have oC15 := oC.gr (gr_trans g79 (gr_trans g912 g1215))
  refine markGrammar_c (gm := gm) oC15 rfl (by decide) (by omega) fun w16 g16 oC16 => ?_
  have hB16 := hB.gx g16 (oC15.foot_box hB (by decide) (by decide))
  have h1416 := h14.gx g16 (oC15.foot_box h14 (by decide) (by decide))
  have h2816 := h28.gx g16 (oC15.foot_box h28 (by decide) (by decide))
  have vS16 := (vS w15 (gr_trans g612 g1215)).gx g16 fun q hq hf => by have := (oC.foot hf).1; omega
  have vI16 := (vI w15 g1215).gx g16 fun q hq hf => by have := (oC.foot hf).2; omega
  have gw16 : Gr w w16 := Gx.gr_after g g16 fun q hf => by have := (oC.foot hf).1; omega
  simp only [show ¬ ((1 : Int) + (sizeR gm.rules : Nat) < 0) from by omega, decide_false, go_sem, Nat.reduceEqDiff]
  rw [ldB_agg agg37 sz37 rfl h2816]
  simp only [go_sem, Nat.reduceEqDiff]
  rw [ldB_agg agg37 sz37 rfl h1416]
  simp only [go_sem, Nat.reduceEqDiff]
  refine eqGrammar_c vI16 vS16 fun w17 g17 => ?_
  simp only [decide_true, Bool.not_true, go_sem, Nat.reduceEqDiff]
  rw [bin_neq_bool Try.underlying4]
  simp only [beq_self_eq_true, Bool.not_true, go_sem, Nat.reduceEqDiff]
  rw [ldB_agg agg37 sz37 rfl (h2816.gr g17)]
  have hIs := @starV_size gm
  have oI17 := ((oI.gr g1215).gx g16 fun q h1 h2 hf => by have := (oC.foot hf).2; omega).gr g17
  refine markGrammar_c (gm := resG (starV gm)) oI17 rfl (by decide) (by omega) fun w18 g18 oI18 => ?_
  have hB18 := (hB16.gr g17).gx g18 (oI17.foot_box (hB16.gr g17) (by decide) (by decide))
  have h1418 := (h1416.gr g17).gx g18 (oI17.foot_box (h1416.gr g17) (by decide) (by decide))
  have h2818 := (h2816.gr g17).gx g18 (oI17.foot_box (h2816.gr g17) (by decide) (by decide))
  have vS18 := (vS16.gr g17).gx g18 fun q hq hf => by have := (oI.foot hf).1; omega
  have gw18 : Gr w w18 := Gx.gr_after (gr_trans gw16 g17) g18 fun q hf => by have := (oI.foot hf).1; omega
  have hml := markR_length 1 (resG (starV gm)).rules
  have vM : ∀ w', Gr w18 w' → GramV (fun _ => True) w' (.agg #[.int .i64 (resG (starV gm)).nons, .int .i64 (resG (starV gm)).toks, .slice XI (resG (starV gm)).rules.length cI]) ⟨(resG (starV gm)).nons, (resG (starV gm)).toks, markR 1 (resG (starV gm)).rules⟩ := fun w' g' => by
    obtain ⟨cells, hr, _⟩ := oI18.cells
    exact ⟨XI, cI, by rw [hml], (Row.cap hr).1, (oI18.read.gr g').mono fun _ _ => trivial⟩
  rw [ldB_agg agg37 sz37 rfl h2818]
  refine heldGrammar_c (gm := resG (starV gm)) (vM w18 (Gr.refl _)) (by decide) (by omega) fun w19 g19 => ?_
  simp only [show ¬ ((1 : Int) + (sizeR (resG (starV gm)).rules : Nat) < 0) from by omega, decide_false, decide_true, Bool.not_true, go_sem, Nat.reduceEqDiff]
  rw [ldB_agg agg31 sz31 rfl (hB18.gr g19)]
  have gw19 := gr_trans gw18 g19
  refine toGrammar_c (gm := gm) ⟨Y, c, rfl, hc, hy.gr gw19⟩ (by omega) fun v4 w20 g20 o20 => ?_
  refine implStarOf_c o20.read fun vJ w21 g21 rJ => ?_
  obtain ⟨XJ, cJ, psJ, rfl, oJ⟩ := rJ.own
  simp only [go_sem, Nat.reduceEqDiff]
  refine do_alloc_of inf37 fun b87 w22 g22 hb22 h87 => ?_
  refine do_store sz37 rfl (by intro u hu; simp [Value.cells] at hu; rcases hu with rfl | rfl | rfl <;> rfl) h87 (by simp [Value.cells]) fun w23 g23 s23 h87 => ?_
  have g2123 := gr_put g22 g23 hb22
  have g1823 := gr_trans g19 (gr_trans g20 (gr_trans g21 g2123))
  rw [ldB_agg agg37 sz37 rfl h87, ldB_agg agg37 sz37 rfl (h1418.gr g1823)]
  have vJ : GramV (fun _ => True) w23 (.agg #[.int .i64 (resG (starV gm)).nons, .int .i64 (resG (starV gm)).toks, .slice XJ (resG (starV gm)).rules.length cJ]) (resG (starV gm)) := by
    obtain ⟨cells, hr, _⟩ := oJ.cells
    exact ⟨XJ, cJ, rfl, (Row.cap hr).1, (oJ.read.gr g2123).mono fun _ _ => trivial⟩
  refine eqGrammar_c vJ (vS18.gr g1823) fun w24 g24 => ?_
  simp only [decide_true, Bool.not_true, go_sem, Nat.reduceEqDiff]
  rw [bin_neq_bool Try.underlying4]
  simp only [beq_self_eq_true, Bool.not_true, go_sem, Nat.reduceEqDiff]
  have g1824 := gr_trans g1823 g24
  rw [ldB_agg agg37 sz37 rfl (h2818.gr g1824)]
  refine heldGrammar_c (gm := resG (starV gm)) (vM w24 g1824) (by decide) (by omega) fun w25 g25 => ?_
  simp only [show ¬ ((1 : Int) + (sizeR (resG (starV gm)).rules : Nat) < 0) from by omega, decide_false, decide_true, Bool.not_true, go_sem, Nat.reduceEqDiff]
  exact hk _ (gr_trans gw18 (gr_trans g1824 g25))
end Go.Proofs.Ytiohaeckagjebaa
