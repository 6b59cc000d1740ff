/- Contract: whether two grammars may be set beside each other (the reference's l20Two). -/
import Derived.Test.YtiohaeckagjebaaShH6
import Derived.Test.YtiohaeckagjebaaBd
set_option linter.unusedVariables false
set_option linter.unusedSimpArgs false
set_option maxRecDepth 100000
namespace Go.Sh
open Go
def twoB (a b : Gram) : Bool := goodG a && goodG b && decide (a.toks = b.toks)
def joinFirst (a : Gram) : List RuleL := [(0, [1, IntKind.i64.wrap (1 + a.nons)])]
def unionFirst (a : Gram) : List RuleL := [(0, [1]), (0, [IntKind.i64.wrap (1 + a.nons)])]
def joinV (a b : Gram) : Option Gram := if twoB a b = true then madeV (joinFirst a) (IntKind.i64.wrap (IntKind.i64.wrap (1 + a.nons) + b.nons)) a.toks [a, b] else none
def unionV (a b : Gram) : Option Gram := if twoB a b = true then madeV (unionFirst a) (IntKind.i64.wrap (IntKind.i64.wrap (1 + a.nons) + b.nons)) a.toks [a, b] else none
end Go.Sh
namespace Go.Proofs.Ytiohaeckagjebaa
open Go Go.Sh Go.RowKit

theorem l20Two_c {F E : Nat → Prop} {w : World} {v u : Value} {a b : Gram} (hv : GramV F w v a) (hu : GramV E w u b) {k : Value → World → Prop} (hk : ∀ w', Gr w w' → k (.bool (twoB a b)) w') :
    CallK Try.prog 90 [v, u] k w := by
  obtain ⟨Y, c, rfl, hc, hy⟩ := hv
  obtain ⟨Z, d, rfl, hd, hz⟩ := hu
  refine enter90 ?_
  unfold S90
  refine do_box fun b1 w1 g1 hb1 h1 => ?_
  refine do_box fun b2 w2 g2 hb2 h2 => ?_
  have h1 := h1.gr g2
  have g := gr_trans g1 g2
  rw [ldB_agg agg37 sz37 rfl h1]
  refine goodGrammar_c (gm := a) ⟨Y, c, rfl, hc, hy.gr g⟩ fun w3 g3 => ?_
  have g := gr_trans g g3
  cases ha : goodG a
  · simp only [go_sem, Nat.reduceEqDiff]
    have := hk _ g
    rwa [show twoB a b = false from by simp [twoB, ha]] at this
  simp only [go_sem, Nat.reduceEqDiff]
  rw [ldB_agg agg37 sz37 rfl (h2.gr g3)]
  refine goodGrammar_c (gm := b) ⟨Z, d, rfl, hd, hz.gr g⟩ fun w4 g4 => ?_
  have g := gr_trans g g4
  cases hb : goodG b
  · simp only [go_sem, Nat.reduceEqDiff]
    have := hk _ g
    rwa [show twoB a b = false from by simp [twoB, hb]] at this
  simp only [go_sem, Nat.reduceEqDiff]
  rw [ldB3 (h1.gr (gr_trans g3 g4)) rfl]
  rw [ldB3 (h2.gr (gr_trans g3 g4)) rfl]
  simp only [go_sem, Nat.reduceEqDiff]
  have := hk _ g
  rwa [show twoB a b = decide (a.toks = b.toks) from by simp [twoB, ha, hb]] at this
end Go.Proofs.Ytiohaeckagjebaa
