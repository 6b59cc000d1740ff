/- The law of LongEnough, over its contracts. -/
import Derived.Test.YtiohaeckagjebaaShG7
set_option linter.unusedVariables false
set_option linter.unusedSimpArgs false
set_option maxRecDepth 100000
namespace Go.Sh
open Go
theorem longV_two (g : Gram) : ∃ n b, longV g = .tuple #[.int .i64 n, .bool b] := by
  unfold longV
  split
  · split
    · exact ⟨_, _, rfl⟩
    · exact ⟨_, _, rfl⟩
  · exact ⟨_, _, rfl⟩
theorem left_neg {n : Int} {s : Nat} (h : left n s < 0) : left n s = -1 := by
  unfold left at h ⊢
  split at h
  · rw [if_pos (by assumption)]
  · omega
theorem left_ok {n : Int} {s : Nat} (h : ¬ left n s < 0) : (s : Int) ≤ n := by
  unfold left at h
  split at h <;> omega
end Go.Sh
namespace Go.Proofs.Ytiohaeckagjebaa
open Go Go.Sh Go.RowKit

theorem law_LongEnough {w : World} {v : Value} {gm : Gram} (hv : GramV (fun b => b < w.heap.size) w v gm) {k : Value → World → Prop} (hk : ∀ w', Gr w w' → k (.bool true) w') :
    CallK Try.prog 4 [v] k w := by
  obtain ⟨Y, c, rfl, hc, hy⟩ := hv
  refine enter4 ?_
  unfold S4
  refine do_box fun b w1 g1 hb1 hB => ?_
  rw [ldB_agg agg31 sz31 rfl hB]
  refine szGrammar_c (gm := gm) ⟨Y, c, rfl, hc, hy.gr g1⟩ (by decide) (by decide) fun w2 g2 => ?_
  have g := gr_trans g1 g2
  have hB := hB.gr g2
  simp only [go_sem, Nat.reduceEqDiff]
  by_cases hs : left 1048576 (sizeR gm.rules) < 0
  · simp only [hs, decide_true, go_sem, Nat.reduceEqDiff]
    exact hk _ g
  have hsz := left_ok hs
  simp only [hs, decide_false, go_sem, Nat.reduceEqDiff]
  rw [ldB_agg agg31 sz31 rfl hB]
  refine toGrammar_c (gm := gm) ⟨Y, c, rfl, hc, hy.gr g⟩ (by omega) fun v1 w3 g3 o1 => ?_
  have g := gr_trans g g3
  have hB := hB.gr g3
  refine specLongEnough_c o1.read fun w4 g4 => ?_
  have g := gr_trans g g4
  have hB := hB.gr g4
  obtain ⟨n, ok, e⟩ := longV_two gm
  rw [e]
  simp only [go_sem, Nat.reduceEqDiff]
  rw [ldB_agg agg31 sz31 rfl hB]
  refine toGrammar_c (gm := gm) ⟨Y, c, rfl, hc, hy.gr g⟩ (by omega) fun v2 w5 g5 o2 => ?_
  have g := gr_trans g g5
  have hB := hB.gr g5
  refine do_alloc_of inf37 fun b2 w6 g6 hb2 h2 => ?_
  have n2 := hB.ne hb2
  have hB := hB.gr g6
  have q2 := Nat.le_trans g.size hb2
  have g := gr_trans g g6
  obtain ⟨X2, c2, ps2, rfl, o2⟩ := o2
  refine do_store sz37 rfl (by intro u hu; simp [Value.cells] at hu; rcases hu with rfl | rfl | rfl <;> rfl) h2 (by simp [Value.cells]) fun w7 g7 s7 h2 => ?_
  have hB := hB.put g7 n2
  have o2 := o2.gr (gr_put g6 g7 hb2)
  have g := gr_put g g7 q2
  rw [ldB_agg agg37 sz37 rfl h2]
  have oc : ∀ w', Gr w7 w' → GramV (fun _ => True) w' (.agg #[.int .i64 gm.nons, .int .i64 gm.toks, .slice X2 gm.rules.length c2]) gm := fun w' g' => by
    obtain ⟨⟨cells, hr, hh⟩, hh2, hh3⟩ := o2
    exact ⟨X2, c2, rfl, (Row.cap hr).1, ((OwnR.read ⟨⟨cells, hr, hh⟩, hh2, hh3⟩).gr g').mono fun _ _ => trivial⟩
  refine implLongEnough_c (oc w7 (Gr.refl w7)) fun w8 g8 => ?_
  have g := gr_trans g g8
  have hB := hB.gr g8
  have h2 := h2.gr g8
  rw [e]
  simp only [go_sem, decide_true, Bool.not_true]
  rw [bin_neq_bool Try.underlying4]
  simp only [beq_self_eq_true, Bool.not_true, go_sem, Nat.reduceEqDiff]
  refine ⟨fun w' => Gr w8.drew w', Gr.refl _, ?_⟩
  have gd := gr_drew w8
  rw [rd_loadAgg agg37 sz37 (cs := [.int .i64 gm.nons, .int .i64 gm.toks, .slice X2 gm.rules.length c2]) rfl (fun w' hw' j hj => by
    rw [add_plain, Nat.zero_add, ((h2.gr gd).gr hw').cell]
    exact List.getElem?_eq_getElem hj)]
  rw [rd_loadAgg agg31 sz31 (cs := [.int .i64 gm.nons, .int .i64 gm.toks, .slice Y gm.rules.length c]) rfl (fun w' hw' j hj => by
    rw [add_plain, Nat.zero_add, ((hB.gr gd).gr hw').cell]
    exact List.getElem?_eq_getElem hj)]
  have gk := gr_trans g gd
  refine toGrammar_c (gm := gm) ⟨Y, c, rfl, hc, hy.gr gk⟩ (by omega) fun v3 w9 g9 o3 => ?_
  refine ⟨g9, ?_⟩
  refine eqGrammar_c (oc w9 (gr_trans g8 (gr_trans gd g9))) o3.read fun w10 g10 => ?_
  simp only [decide_true, Bool.not_true, go_sem, Nat.reduceEqDiff]
  exact hk _ (gr_trans gk (gr_trans g9 g10))
end Go.Proofs.Ytiohaeckagjebaa
