/- Contracts: equality of grammars, copies of grammars. -/
import Derived.Test.YtiohaeckagjebaaShG2
set_option linter.unusedVariables false
set_option linter.unusedSimpArgs false
set_option maxRecDepth 100000
namespace Go.Sh
open Go
theorem rules_ext {rs qs : List RuleL} (hl : rs.length = qs.length) (h : ∀ j, j < rs.length → rul rs j = rul qs j) : rs = qs := by
  apply List.ext_getElem hl
  intro j h1 h2
  have := h j h1
  rwa [rul_eq h1, rul_eq h2] at this
end Go.Sh
namespace Go.Proofs.Ytiohaeckagjebaa
open Go Go.Sh Go.RowKit

theorem eqRule_c {F E : Nat → Prop} {w : World} {v u : Value} {r q : RuleL} (hv : RuleV F w v r) (hu : RuleV E w u q) {k : Value → World → Prop} (hk : ∀ w', Gr w w' → k (.bool (decide (r = q))) w') :
    CallK Try.prog 139 [v, u] k w := by
  obtain ⟨Y, c, rfl, hc, hy⟩ := hv
  obtain ⟨Z, d, rfl, hd, hz⟩ := hu
  refine enter139 ?_
  unfold S139
  refine do_box fun b w1 g1 hb1 hb => ?_
  refine do_box fun b' w2 g2 hb2 hb' => ?_
  have hb := hb.gr g2
  have g := gr_trans g1 g2
  simp only [go_sem, Nat.reduceEqDiff]
  rw [ldB3 hb rfl, ldB3 hb' rfl]
  simp only [go_sem, Nat.reduceEqDiff]
  by_cases h : r.1 = q.1
  · simp only [h, decide_true, go_sem, Nat.reduceEqDiff]
    rw [ldB22 hb rfl, ldB22 hb' rfl]
    refine eqIntS_c (hy.is.gr g) (hz.is.gr g) fun w3 g3 => ?_
    have := hk w3 (gr_trans g g3)
    simp only [go_sem, Nat.reduceEqDiff]
    by_cases h2 : r.2 = q.2
    · simp only [h2, decide_true, go_sem, Nat.reduceEqDiff]
      rwa [decide_eq_true (Prod.ext h h2)] at this
    · simp only [h2, decide_false, Bool.not_false, go_sem, Nat.reduceEqDiff]
      rwa [decide_eq_false (fun e => h2 (by rw [e]))] at this
  · simp only [h, decide_false, Bool.not_false, go_sem, Nat.reduceEqDiff]
    have := hk w2 g
    rwa [decide_eq_false (fun e => h (by rw [e]))] at this
theorem eqRuleS_c {F E : Nat → Prop} {w : World} {X Y : Option Addr} {c d : Nat} {rs qs : List RuleL} (hx : RulesF F w X rs) (hy : RulesF E w Y qs) {k : Value → World → Prop} (hk : ∀ w', Gr w w' → k (.bool (decide (rs = qs))) w') :
    CallK Try.prog 85 [.slice X rs.length c, .slice Y qs.length d] k w := by
  refine enter85 ?_
  unfold S85
  simp only [go_sem, Nat.reduceEqDiff]
  by_cases hl : rs.length = qs.length
  rotate_left
  · simp only [Int.ofNat_inj, hl, decide_false, Bool.not_false, go_sem, Nat.reduceEqDiff]
    have := hk _ (Gr.refl w)
    rwa [decide_eq_false (fun e => hl (by rw [e]))] at this
  simp only [Int.ofNat_inj, hl, decide_true, Bool.not_true, go_sem, Nat.reduceEqDiff]
  refine ⟨fun f w' => ∃ i : Nat, i ≤ rs.length ∧ f 5 = .int .i64 i ∧ Gr w w' ∧ ∀ j, j < i → rul rs j = rul qs j, fun f _ => rs.length - (intOf (f 5)).toNat, ⟨0, Nat.zero_le _, rfl, Gr.refl w, fun j hj => absurd hj (Nat.not_lt_zero j)⟩, ?_⟩
  rintro f w1 hag ⟨i, hi, h5, g1, hpre⟩
  have f0 : f 0 = .slice X rs.length c := (hag 0 (by decide)).trans (by rw [hl]; rfl)
  have f1 : f 1 = .slice Y qs.length d := hag 1 (by decide)
  simp only [f0, f1, h5, go_sem, Nat.reduceEqDiff]
  by_cases hlt : i < rs.length
  · have hlt' : (i : Int) < rs.length := by omega
    have := hx.le
    simp only [hlt', decide_true, go_sem, Nat.reduceEqDiff]
    have gd := gr_trans g1 (gr_drew w1)
    rw [ixn35 hx.ptr hlt]
    refine ld_rule agg77 sz77 (hx.gr gd) hlt fun v hv => ?_
    rw [ixn35 hy.ptr (by omega)]
    refine ld_rule agg77 sz77 (hy.gr gd) (by omega) fun u hu => ?_
    refine eqRule_c hv hu fun w2 g2 => ?_
    have g2' := gr_trans gd g2
    by_cases he : rul rs i = rul qs i
    · simp only [he, decide_true, Bool.not_true, go_sem, Nat.reduceEqDiff]
      rw [i64_of (by omega) (by omega)]
      refine ⟨⟨i + 1, hlt, rfl, g2', fun j hj => ?_⟩, ?_⟩
      · rcases Nat.lt_succ_iff_lt_or_eq.1 hj with h | rfl
        · exact hpre j h
        · exact he
      · simp only [intOf]
        omega
    · simp only [he, decide_false, Bool.not_false, go_sem, Nat.reduceEqDiff]
      have := hk _ g2'
      rwa [decide_eq_false (fun e => he (by rw [e]))] at this
  · simp only [show ¬ (i : Int) < rs.length from by omega, decide_false, go_sem, Nat.reduceEqDiff]
    have := hk _ g1
    rwa [decide_eq_true (rules_ext hl fun j hj => hpre j (by omega))] at this
theorem eqGrammar_c {F E : Nat → Prop} {w : World} {v u : Value} {a b : Gram} (hv : GramV F w v a) (hu : GramV E w u b) {k : Value → World → Prop} (hk : ∀ w', Gr w w' → k (.bool (decide (a = b))) w') :
    CallK Try.prog 33 [v, u] k w := by
  obtain ⟨Y, c, rfl, hc, hy⟩ := hv
  obtain ⟨Z, d, rfl, hd, hz⟩ := hu
  obtain ⟨n1, t1, r1⟩ := a
  obtain ⟨n2, t2, r2⟩ := b
  refine enter33 ?_
  unfold S33
  refine do_box fun b w1 g1 hb1 hb => ?_
  refine do_box fun b' w2 g2 hb2 hb' => ?_
  have hb := hb.gr g2
  have g := gr_trans g1 g2
  simp only [go_sem, Nat.reduceEqDiff]
  rw [ldB3 hb rfl, ldB3 hb' rfl]
  simp only [go_sem, Nat.reduceEqDiff]
  by_cases h : n1 = n2
  rotate_left
  · simp only [h, decide_false, Bool.not_false, go_sem, Nat.reduceEqDiff]
    have := hk w2 g
    rwa [decide_eq_false (fun e => h (by injection e))] at this
  simp only [h, decide_true, go_sem, Nat.reduceEqDiff]
  rw [ldB3 hb rfl, ldB3 hb' rfl]
  simp only [go_sem, Nat.reduceEqDiff]
  by_cases h2 : t1 = t2
  rotate_left
  · simp only [h2, decide_false, Bool.not_false, go_sem, Nat.reduceEqDiff]
    have := hk w2 g
    rwa [decide_eq_false (fun e => h2 (by injection e))] at this
  simp only [h2, decide_true, go_sem, Nat.reduceEqDiff]
  rw [ldB35 hb rfl, ldB35 hb' rfl]
  refine eqRuleS_c (hy.gr g) (hz.gr g) fun w3 g3 => ?_
  have := hk w3 (gr_trans g g3)
  simp only [go_sem, Nat.reduceEqDiff]
  by_cases h3 : r1 = r2
  · simp only [h3, decide_true, Bool.not_true, go_sem, Nat.reduceEqDiff]
    rwa [decide_eq_true (by rw [h, h2, h3])] at this
  · simp only [h3, decide_false, Bool.not_false, go_sem, Nat.reduceEqDiff]
    rwa [decide_eq_false (fun e => h3 (by injection e))] at this
end Go.Proofs.Ytiohaeckagjebaa
