/- Contracts: whether a tree is one, its parts, by the reference. -/
import Derived.Test.YtiohaeckagjebaaShQ1
import Derived.Test.YtiohaeckagjebaaShK3
import Derived.Test.YtiohaeckagjebaaShH3
set_option linter.unusedVariables false
set_option linter.unusedSimpArgs false
set_option maxRecDepth 100000
namespace Go.Sh
open Go
theorem good_nons {g : Gram} (hg : goodG g = true) : 1 ≤ g.nons ∧ g.nons ≤ 6 := by
  simp only [goodG, inB, Bool.and_eq_true, decide_eq_true_eq] at hg
  exact hg.1.1.1
theorem good_toks {g : Gram} (hg : goodG g = true) : 1 ≤ g.toks ∧ g.toks ≤ 4 := by
  simp only [goodG, inB, Bool.and_eq_true, decide_eq_true_eq] at hg
  exact hg.1.1.2
def isT (gm : Gram) (tree : List Int) : Bool := decide (0 < tree.length) && decide (endT gm.rules tree tree.length 0 0 = some tree.length)
def askedT (gm : Gram) (tree : List Int) : Bool := goodG gm && decide (tree.length ≤ 60) && isT gm tree
theorem optI_eq {o : Option Nat} {n : Nat} : (optI o = n) = (o = some n) := by
  cases o with
  | none => exact propext ⟨fun h => by simp only [optI] at h; omega, fun h => by cases h⟩
  | some e => simp only [optI, Int.natCast_inj, Option.some.injEq]
end Go.Sh
namespace Go.Proofs.Ytiohaeckagjebaa
open Go Go.Sh Go.RowKit

theorem l11Asked_c {F : Nat → Prop} {w : World} {v : Value} {gm : Gram} {non : Int} {X : Option Addr} {n c : Nat} (hv : GramV F w v gm) {k : Value → World → Prop} (hk : ∀ w', Gr w w' → k (.bool (goodG gm && inB non 0 (gm.nons - 1) && decide (n ≤ 60))) w') :
    CallK Try.prog 142 [v, .int .i64 non, .slice X n c] k w := by
  obtain ⟨Y, cy, rfl, hc, hy⟩ := hv
  refine enter142 ?_
  unfold S142
  have H := Apt.nil w
  refine boxH H fun b1 w1 H => ?_
  rw [ldB_agg agg37 sz37 rfl (H.box 0 rfl)]
  refine goodGrammar_c (gm := gm) ⟨Y, cy, rfl, hc, hy.gr H.gr⟩ fun w2 g2 => ?_
  have H := H.step g2
  cases hg : goodG gm
  · simp only [go_sem, Nat.reduceEqDiff]
    have := hk _ H.gr
    simpa only [hg, Bool.false_and] using this
  have hn := good_nons hg
  simp only [go_sem, Nat.reduceEqDiff]
  rw [ldB3 (H.box 0 rfl) rfl]
  simp only [go_sem, Nat.reduceEqDiff]
  rw [i64_of (by omega) (by omega)]
  refine l1In_c ?_
  have := hk _ H.gr
  rw [hg, Bool.true_and] at this
  cases hi : inB non 0 (gm.nons - 1)
  · simp only [go_sem, Nat.reduceEqDiff]
    rwa [hi, Bool.false_and] at this
  · simp only [go_sem, Nat.reduceEqDiff]
    rw [hi, Bool.true_and] at this
    rwa [show (decide ((n : Int) ≤ 60)) = decide (n ≤ 60) from decide_eq_decide.2 (by omega)]
theorem l11Is_c {F : Nat → Prop} {w : World} {v : Value} {gm : Gram} {X : Option Addr} {tree : List Int} {n c : Nat} (hv : GramV F w v gm) (hg : goodG gm = true) (hx : Ints w X tree) (hn : n = tree.length) (ht : tree.length ≤ 1000) {k : Value → World → Prop} (hk : ∀ w', Gr w w' → k (.bool (isT gm tree)) w') :
    CallK Try.prog 143 [v, .int .i64 0, .slice X n c] k w := by
  subst hn
  obtain ⟨Y, cy, rfl, hc, hy⟩ := hv
  refine enter143 ?_
  unfold S143
  have H := Apt.nil w
  refine boxH H fun b1 w1 H => ?_
  simp only [go_sem, Nat.reduceEqDiff]
  by_cases h0 : 0 < tree.length
  case neg =>
    simp only [show ¬ ((0 : Int) < tree.length) from by omega, decide_false, go_sem, Nat.reduceEqDiff]
    have := hk _ H.gr
    rwa [show isT gm tree = false from by rw [isT, decide_eq_false h0, Bool.false_and]] at this
  simp only [show (0 : Int) < tree.length from by omega, decide_true, go_sem, Nat.reduceEqDiff]
  rw [ldB_agg agg37 sz37 rfl (H.box 0 rfl)]
  refine l11End_c hg ht tree.length (a := 0) ⟨Y, cy, rfl, hc, hy.gr H.gr⟩ (hx.gr H.gr) (by omega) fun w2 g2 => ?_
  have H := H.step g2
  simp only [go_sem, Nat.reduceEqDiff]
  have := hk _ H.gr
  rw [isT, decide_eq_true h0, Bool.true_and] at this
  simpa only [optI_eq] using this
theorem l18Asked_c {F : Nat → Prop} {w : World} {v : Value} {gm : Gram} {X : Option Addr} {tree : List Int} {n c : Nat} (hv : GramV F w v gm) (hx : Ints w X tree) (hn : n = tree.length) {k : Value → World → Prop} (hk : ∀ w', Gr w w' → k (.bool (askedT gm tree)) w') :
    CallK Try.prog 91 [v, .slice X n c] k w := by
  subst hn
  obtain ⟨Y, cy, rfl, hc, hy⟩ := hv
  refine enter91 ?_
  unfold S91
  have H := Apt.nil w
  refine boxH H fun b1 w1 H => ?_
  rw [ldB_agg agg37 sz37 rfl (H.box 0 rfl)]
  refine l11Asked_c (gm := gm) ⟨Y, cy, rfl, hc, hy.gr H.gr⟩ fun w2 g2 => ?_
  have H := H.step g2
  have hk' := hk
  unfold askedT at hk'
  cases hg : goodG gm
  · simp only [Bool.false_and, go_sem, Nat.reduceEqDiff]
    simpa only [hg, Bool.false_and] using hk' _ H.gr
  have hn := good_nons hg
  rw [show inB 0 0 (gm.nons - 1) = true from by simp only [inB, Bool.and_eq_true, decide_eq_true_eq]; omega]
  by_cases hl : tree.length ≤ 60
  case neg =>
    simp only [hl, decide_false, Bool.and_false, go_sem, Nat.reduceEqDiff]
    simpa only [hl, decide_false, Bool.and_false, Bool.false_and] using hk' _ H.gr
  simp only [hl, decide_true, Bool.and_true, go_sem, Nat.reduceEqDiff]
  rw [ldB_agg agg37 sz37 rfl (H.box 0 rfl)]
  refine l11Is_c (gm := gm) ⟨Y, cy, rfl, hc, hy.gr H.gr⟩ hg (hx.gr H.gr) rfl (by omega) fun w3 g3 => ?_
  have H := H.step g3
  simpa only [hg, hl, decide_true, Bool.true_and] using hk' _ H.gr
end Go.Proofs.Ytiohaeckagjebaa
