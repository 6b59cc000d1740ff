/- Contracts: how large a grammar is, whether two are the same, and a copy of one. -/
import Derived.Test.YtiohaeckagjebaaShG1
import Derived.Test.YtiohaeckagjebaaBb
set_option linter.unusedVariables false
set_option linter.unusedSimpArgs false
set_option maxRecDepth 100000
namespace Go.Sh
open Go
def lens (rs : List RuleL) : Nat := (rs.map fun r => r.2.length).sum
def sizeR (rs : List RuleL) : Nat := rs.length + lens rs
def left (n : Int) (s : Nat) : Int := if n < s then -1 else n - s
theorem take_rul {rs : List RuleL} {i : Nat} (h : i < rs.length) : rs.take (i + 1) = rs.take i ++ [rul rs i] := by
  rw [List.take_succ_eq_append_getElem h, rul_eq h]
theorem lens_take {rs : List RuleL} {i : Nat} (h : i < rs.length) : lens (rs.take (i + 1)) = lens (rs.take i) + (rul rs i).2.length := by
  rw [take_rul h]
  simp [lens]
theorem lens_le {rs : List RuleL} {i : Nat} : lens (rs.take i) ≤ lens rs := by
  unfold lens
  conv => rhs; rw [← List.take_append_drop i rs]
  rw [List.map_append, List.sum_append]
  omega
theorem lens_one {rs : List RuleL} {i : Nat} (h : i < rs.length) : (rul rs i).2.length ≤ lens rs := by
  have := lens_take h
  have := @lens_le rs (i + 1)
  omega
theorem rul_take {rs : List RuleL} {i j : Nat} (h : j < i) : rul (rs.take i) j = rul rs j := by
  simp [rul, List.getD_eq_getElem?_getD, List.getElem?_take, h]
end Go.Sh
namespace Go.Proofs.Ytiohaeckagjebaa
open Go Go.Sh Go.RowKit

theorem szIntS_c {w : World} {X : Option Addr} {c l : Nat} {n : Int} (h0 : 0 ≤ n) (h1 : n ≤ 9223372036854775807) (hl : l ≤ 9223372036854775807) {k : Value → World → Prop} (hk : k (.int .i64 (left n l)) w) :
    CallK Try.prog 172 [.slice X l c, .int .i64 n] k w := by
  refine enter172 ?_
  unfold S172
  simp only [go_sem, Nat.reduceEqDiff]
  rw [i64_of (by omega) (by omega)]
  unfold left at hk
  by_cases h : n - l < 0
  · simp only [h, decide_true, go_sem, Nat.reduceEqDiff]
    rwa [if_pos (by omega)] at hk
  · simp only [h, decide_false, go_sem, Nat.reduceEqDiff]
    rwa [if_neg (by omega)] at hk
theorem szRule_c {F : Nat → Prop} {w : World} {v : Value} {r : RuleL} {n : Int} (hv : RuleV F w v r) (h0 : 0 ≤ n) (h1 : n ≤ 9223372036854775807) {k : Value → World → Prop} (hk : ∀ w', Gr w w' → k (.int .i64 (left n r.2.length)) w') :
    CallK Try.prog 131 [v, .int .i64 n] k w := by
  obtain ⟨Y, c, rfl, hc, hy⟩ := hv
  refine enter131 ?_
  unfold S131
  refine do_box fun b w1 g1 hb1 hb => ?_
  simp only [go_sem, Nat.reduceEqDiff]
  rw [ldB22 hb rfl]
  refine szIntS_c h0 h1 hy.is.le ?_
  simp only [go_sem, Nat.reduceEqDiff]
  have := hk _ g1
  by_cases h : left n r.2.length < 0
  · simp only [h, decide_true, go_sem, Nat.reduceEqDiff]
    have e : left n r.2.length = -1 := by
      unfold left at h ⊢
      split at h
      · rw [if_pos (by assumption)]
      · omega
    rwa [e] at this
  · simp only [h, decide_false, go_sem, Nat.reduceEqDiff]
    exact this
theorem szRuleS_c {F : Nat → Prop} {w : World} {X : Option Addr} {c : Nat} {rs : List RuleL} {n : Int} (hx : RulesF F w X rs) (h0 : 0 ≤ n) (h1 : n ≤ 9223372036854775807) {k : Value → World → Prop} (hk : ∀ w', Gr w w' → k (.int .i64 (left n (sizeR rs))) w') :
    CallK Try.prog 80 [.slice X rs.length c, .int .i64 n] k w := by
  refine enter80 ?_
  unfold S80
  simp only [go_sem, Nat.reduceEqDiff]
  have hle := hx.le
  rw [i64_of (by omega) (by omega)]
  by_cases h : n - rs.length < 0
  · simp only [h, decide_true, go_sem, Nat.reduceEqDiff]
    have := hk _ (Gr.refl w)
    rwa [show left n (sizeR rs) = -1 from if_pos (by unfold sizeR; omega)] at this
  simp only [h, decide_false, go_sem, Nat.reduceEqDiff]
  refine ⟨fun f w' => ∃ i : Nat, i ≤ rs.length ∧ f 5 = .int .i64 i ∧ f 1 = .int .i64 (n - rs.length - lens (rs.take i)) ∧ 0 ≤ n - rs.length - lens (rs.take i) ∧ Gr w w', fun f _ => rs.length - (intOf (f 5)).toNat, ⟨0, Nat.zero_le _, rfl, by simp [lens]; rfl, by simp [lens]; omega, Gr.refl w⟩, ?_⟩
  rintro f w1 hag ⟨i, hi, h5, hf1, hpos, g1⟩
  have f0 : f 0 = .slice X rs.length c := hag 0 (by decide)
  simp only [f0, hf1, h5, go_sem, Nat.reduceEqDiff]
  by_cases hlt : i < rs.length
  · have hlt' : (i : Int) < rs.length := by omega
    simp only [hlt', decide_true, go_sem, Nat.reduceEqDiff]
    rw [ixn29 hx.ptr hlt]
    refine ld_rule agg148 sz148 (hx.gr g1) hlt fun v hv => ?_
    refine szRule_c hv hpos (by omega) fun w2 g2 => ?_
    simp only [go_sem, Nat.reduceEqDiff]
    have e := lens_take hlt
    by_cases hs : left (n - rs.length - lens (rs.take i)) (rul rs i).2.length < 0
    · simp only [hs, decide_true, go_sem, Nat.reduceEqDiff]
      have := hk _ (gr_trans g1 g2)
      have h2 := @lens_le rs (i + 1)
      have e2 : n < sizeR rs := by
        unfold left at hs
        unfold sizeR
        split at hs <;> omega
      rwa [show left n (sizeR rs) = -1 from if_pos e2] at this
    · simp only [hs, decide_false, go_sem, Nat.reduceEqDiff]
      rw [i64_of (by omega) (by omega)]
      have e3 : left (n - rs.length - lens (rs.take i)) (rul rs i).2.length = n - rs.length - lens (rs.take (i + 1)) := by
        unfold left at hs ⊢
        split at hs
        · omega
        · rw [if_neg (by assumption)]; omega
      rw [e3] at hs ⊢
      refine ⟨⟨i + 1, hlt, rfl, rfl, by omega, gr_trans g1 g2⟩, ?_⟩
      simp only [intOf]
      omega
  · simp only [show ¬ (i : Int) < rs.length from by omega, decide_false, go_sem, Nat.reduceEqDiff]
    have := hk _ g1
    have hi' : i = rs.length := by omega
    subst hi'
    rw [List.take_length] at hpos ⊢
    rwa [show left n (sizeR rs) = n - rs.length - lens rs from by unfold left sizeR; rw [if_neg (by omega)]; omega] at this
theorem szGrammar_c {F : Nat → Prop} {w : World} {v : Value} {gm : Gram} {n : Int} (hv : GramV F w v gm) (h0 : 0 ≤ n) (h1 : n ≤ 9223372036854775807) {k : Value → World → Prop} (hk : ∀ w', Gr w w' → k (.int .i64 (left n (sizeR gm.rules))) w') :
    CallK Try.prog 29 [v, .int .i64 n] k w := by
  obtain ⟨Y, c, rfl, hc, hy⟩ := hv
  refine enter29 ?_
  unfold S29
  refine do_box fun b w1 g1 hb1 hb => ?_
  simp only [go_sem, Nat.reduceEqDiff]
  rw [ldB29 hb rfl]
  refine szRuleS_c (hy.gr g1) h0 h1 fun w2 g2 => ?_
  simp only [go_sem, Nat.reduceEqDiff]
  have := hk _ (gr_trans g1 g2)
  by_cases h : left n (sizeR gm.rules) < 0
  · simp only [h, decide_true, go_sem, Nat.reduceEqDiff]
    have e : left n (sizeR gm.rules) = -1 := by
      unfold left at h ⊢
      split at h
      · rw [if_pos (by assumption)]
      · omega
    rwa [e] at this
  · simp only [h, decide_false, go_sem, Nat.reduceEqDiff]
    exact this
end Go.Proofs.Ytiohaeckagjebaa
