/- Rules that the call owns: appended. -/
import Derived.Test.YtiohaeckagjebaaShG4
import Derived.Test.YtiohaeckagjebaaShA2
set_option linter.unusedVariables false
set_option linter.unusedSimpArgs false
set_option maxRecDepth 100000
namespace Go.Sh
open Go
/-- The cells of a row of rules. -/
def RCells (cells : List Value) (rs : List RuleL) (ps : Nat → Option Addr × Nat) : Prop :=
  cells.length = rs.length * 2 ∧ ∀ j, j < rs.length → cells[j * 2]? = some (.int .i64 (rul rs j).1) ∧ cells[j * 2 + 1]? = some (.slice (ps j).1 (rul rs j).2.length (ps j).2)
def joinP (n : Nat) (ps qp : Nat → Option Addr × Nat) : Nat → Option Addr × Nat := fun i => if i < n then ps i else qp (i - n)
theorem rul_left {rs qs : List RuleL} {i : Nat} (h : i < rs.length) : rul (rs ++ qs) i = rul rs i := by
  simp [rul, List.getD_eq_getElem?_getD, List.getElem?_append_left h]
theorem rul_right {rs qs : List RuleL} {i : Nat} (h : rs.length ≤ i) : rul (rs ++ qs) i = rul qs (i - rs.length) := by
  simp [rul, List.getD_eq_getElem?_getD, List.getElem?_append_right h]
theorem RCells.append {cells news : List Value} {rs qs : List RuleL} {ps qp : Nat → Option Addr × Nat} (h : RCells cells rs ps) (g : RCells news qs qp) : RCells (cells ++ news) (rs ++ qs) (joinP rs.length ps qp) := by
  refine ⟨by rw [List.length_append, List.length_append, h.1, g.1, Nat.add_mul], fun j hj => ?_⟩
  have h1 := h.1
  by_cases hlt : j < rs.length
  · rw [List.getElem?_append_left (by omega), List.getElem?_append_left (by omega), rul_left hlt]
    simp only [joinP, hlt, if_true]
    exact h.2 j hlt
  · rw [List.getElem?_append_right (by omega), List.getElem?_append_right (by omega), rul_right (by omega), h1]
    simp only [joinP, hlt, if_false]
    have := g.2 (j - rs.length) (by rw [List.length_append] at hj; omega)
    rw [show j * 2 - rs.length * 2 = (j - rs.length) * 2 from by omega, show j * 2 + 1 - rs.length * 2 = (j - rs.length) * 2 + 1 from by omega]
    exact this
theorem RCells.one {cells : List Value} {rs : List RuleL} {ps : Nat → Option Addr × Nat} (h : RCells cells rs ps) : ∀ v ∈ cells, v.oneCell' = true := by
  intro v hv
  obtain ⟨k, hk, rfl⟩ := List.getElem_of_mem hv
  have hl := h.1
  obtain ⟨h1, h2⟩ := h.2 (k / 2) (by omega)
  rcases Nat.mod_two_eq_zero_or_one k with e | e
  · rw [show k / 2 * 2 = k from by omega, List.getElem?_eq_getElem hk] at h1
    rw [Option.some.inj h1]
    rfl
  · rw [show k / 2 * 2 + 1 = k from by omega, List.getElem?_eq_getElem hk] at h2
    rw [Option.some.inj h2]
    rfl
theorem OwnR.cells {e1 e2 : Nat} {w : World} {B : Nat} {X : Option Addr} {c : Nat} {rs : List RuleL} {ps : Nat → Option Addr × Nat} (h : OwnR e1 e2 w B X c rs ps) : ∃ cells, Row w B e1 2 X rs.length c cells ∧ RCells cells rs ps := by
  obtain ⟨cells, hr, hc⟩ := h.row
  exact ⟨cells, hr, hr.len, hc⟩
theorem blk_ne {X Y : Option Addr} {a b : Nat} (h : ∀ q, blk X = some q → q < a) (g : ∀ q, blk Y = some q → b ≤ q) (hab : a ≤ b) : blk X = none ∨ blk X ≠ blk Y := by
  cases hq : blk X with
  | none => exact .inl rfl
  | some q =>
    refine .inr fun e => ?_
    have := h q hq
    have := g q e.symm
    omega
section
variable {P : Program} {S : WS} {k : Value → Prop}
theorem rd_build3 {t sz by' n0 n1 n2 : Nat} {z : Value} {f0 f1 f2 : Field} {ps : List (Nat × Value)} {cells : Array Value} (ht : P.underlying t = some (.struct #[f0, f1, f2])) (H : Inf P t z sz by') (h0 : szOf P f0.type n0) (h1 : szOf P f1.type n1) (h2 : szOf P f2.type n2)
    (hf : Instr.fill (#[(f0.offset, n0), (f1.offset, n1), (f2.offset, n2)][·]?) z.cells ps = some cells) : Rd P S (sBuild t ps) k = k (.agg cells) := rd_eq fun w _ => by
  obtain ⟨i, hi, hz, _, _⟩ := H
  have e0 : (zeroValue t).run P w = .ok z w := by simp [zeroValue, run_info hi, hz]
  have hf' : Instr.fill (fun x => [(f0.offset, n0), (f1.offset, n1), (f2.offset, n2)][x]?) z.cells ps = some cells := by simpa using hf
  simp [sBuild, Instr.build, e0, run_underlying ht, run_size h0, run_size h1, run_size h2, hf']
theorem rd_build2 {t sz by' n0 n1 : Nat} {z : Value} {f0 f1 : Field} {ps : List (Nat × Value)} {cells : Array Value} (ht : P.underlying t = some (.struct #[f0, f1])) (H : Inf P t z sz by') (h0 : szOf P f0.type n0) (h1 : szOf P f1.type n1)
    (hf : Instr.fill (#[(f0.offset, n0), (f1.offset, n1)][·]?) z.cells ps = some cells) : Rd P S (sBuild t ps) k = k (.agg cells) := rd_eq fun w _ => by
  obtain ⟨i, hi, hz, _, _⟩ := H
  have e0 : (zeroValue t).run P w = .ok z w := by simp [zeroValue, run_info hi, hz]
  have hf' : Instr.fill (fun x => [(f0.offset, n0), (f1.offset, n1)][x]?) z.cells ps = some cells := by simpa using hf
  simp [sBuild, Instr.build, e0, run_underlying ht, run_size h0, run_size h1, hf']
theorem rd_field {t : Nat} {fs : Array Field} {f : Field} {i : Nat} {cs : Array Value} {v : Value} (ht : P.underlying t = some (.struct fs)) (hf : fs[i]? = some f) (hp : ∀ w, (part f.type cs f.offset).run P w = .ok v w) : Rd P S (sField t (.agg cs) i) k = k v := rd_eq fun w _ => by
  simp [sField, Instr.field, run_underlying ht, hf, asAgg, hp]
end
/-- A box and a row of another type are different blocks. -/
theorem box_row {w : World} {b t B e sz n c : Nat} {cs xs : List Value} {X : Option Addr} (hb : Box w b cs t) (h : Row w B e sz X n c xs) (he : e ≠ t) : blk X ≠ some b := by
  intro hq
  rcases h.2 with h2 | ⟨q, cap, cur, e1, e2, e3, e4⟩
  · obtain ⟨rfl, _, _⟩ : X = none ∧ n = 0 ∧ c = 0 := by simpa using h2.1
    cases hq
  · obtain ⟨rfl, _, _⟩ : X = some ⟨q, 0, none⟩ ∧ n = n ∧ c = cap := by simpa using e1
    have : q = b := by simpa [blk] using hq
    subst this
    unfold Box at hb
    rw [hb] at e3
    simp at e3
    exact he e3.2.symm
theorem OwnR.put {e1 e2 : Nat} {w w' : World} {B b t : Nat} {X : Option Addr} {c : Nat} {rs : List RuleL} {ps : Nat → Option Addr × Nat} {cs : List Value} (h : OwnR e1 e2 w B X c rs ps) (hb : Box w b cs t) (h1 : e1 ≠ t) (h2 : e2 ≠ t) (g : w.grownBy w' (some b)) : OwnR e1 e2 w' B X c rs ps := by
  obtain ⟨⟨cells, hr, hc⟩, ho, ht⟩ := h
  exact ⟨⟨cells, Row.kept hr g (.inr (box_row hb hr h1)), hc⟩, fun j hj => Row.kept (ho j hj) g (.inr (box_row hb (ho j hj) h2)), ht⟩
section
variable {P : Program} {k : Value → World → Prop} {w : World}
/-- Rules appended to rules. -/
theorem do_append_rules {t u e1 e2 by' : Nat} {z : Value} (ht : P.underlying t = some (.slice e1)) (H : Inf P e1 z 2 by') (hzs : z.cells.size = 2) (he : e1 ≠ e2) {cs : List Bool} {B c d n m : Nat} {X Y : Option Addr} {rs qs : List RuleL} {ps qp : Nat → Option Addr × Nat} {news : List Value}
    (hn : n = rs.length) (hmq : m = qs.length) (hO : OwnR e1 e2 w B X c rs ps) (hS : Src w Y news) (hN : RCells news qs qp) (hown : ∀ j, j < qs.length → Own e2 w B (qp j).1 (qp j).2 (rul qs j).2)
    (htwo : ∀ i j, i < qs.length → j < qs.length → i ≠ j → blk (qp i).1 = none ∨ blk (qp i).1 ≠ blk (qp j).1) (hsep : ∀ i j, i < rs.length → j < qs.length → blk (ps i).1 = none ∨ blk (ps i).1 ≠ blk (qp j).1)
    (hm : (rs.length + qs.length) * by' ≤ 140737488355328) (hmax : rs.length + qs.length ≤ 9223372036854775807) (hB : B ≤ w.heap.size)
    (h : ∀ X' c' w', w.grownBy w' (blk X) → OwnR e1 e2 w' B X' c' (rs ++ qs) (joinP rs.length ps qp) → Moved w X X' → k (.slice X' (n + m) c') w') : Do P (sBuiltin .append #[t, t] u cs [.slice X n c, .slice Y m d]) k w := by
  subst hn hmq
  obtain ⟨cells, hr, hc⟩ := hO.cells
  refine do_append2 ht H hzs (by decide) hr hS hN.1 hN.one hm hmax hB fun X' c' w' hr' g hmv => h X' c' w' g ?_ hmv
  have hX : ∀ {Z : Option Addr} {n c : Nat} {xs : List Value}, Row w B e2 1 Z n c xs → blk Z = none ∨ blk Z ≠ blk X := fun hz => row_ne hz hr (fun e => he e.symm)
  have hsym : ∀ {U V : Option Addr}, (blk U = none ∨ blk U ≠ blk V) → blk V = none ∨ blk V ≠ blk U := fun {U V} h => by
    cases hq : blk V with
    | none => exact .inl rfl
    | some q =>
      refine .inr fun e => ?_
      rcases h with h | h
      · rw [h] at e; cases e
      · exact h (by rw [hq, e])
  refine ⟨⟨_, by rw [List.length_append]; exact hr', (hc.append hN).2⟩, fun j hj => ?_, fun i j hi hj hij => ?_⟩
  · rw [List.length_append] at hj
    by_cases hlt : j < rs.length
    · rw [rul_left hlt]
      simp only [joinP, hlt, if_true]
      exact Row.kept (hO.own j hlt) g (hX (hO.own j hlt))
    · rw [rul_right (by omega)]
      simp only [joinP, hlt, if_false]
      exact Row.kept (hown _ (by omega)) g (hX (hown _ (by omega)))
  · rw [List.length_append] at hi hj
    by_cases h1 : i < rs.length <;> by_cases h2 : j < rs.length <;> simp only [joinP, h1, h2, if_true, if_false]
    · exact hO.two i j h1 h2 hij
    · exact hsep i _ h1 (by omega)
    · exact hsym (hsep j _ h2 (by omega))
    · exact htwo _ _ (by omega) (by omega) (by omega)
end
theorem rng1 : Array.range 1 = #[0] := by decide
theorem rng2 : Array.range 2 = #[0, 1] := by decide
theorem rng3 : Array.range 3 = #[0, 1, 2] := by decide
theorem rng4 : Array.range 4 = #[0, 1, 2, 3] := by decide
end Go.Sh
namespace Go.Proofs.Ytiohaeckagjebaa
open Go Go.Sh
theorem part_one {t : TypeId} {cs : Array Value} {off : Nat} {v : Value} (ht : one Try.prog t) (hc : cs[off]? = some v) (w : World) : (part t cs off).run Try.prog w = .ok v w := by
  simp [part, run_isAgg_one ht, hc]
theorem bd37 {S : WS} {k : Value → Prop} {ps : List (Nat × Value)} {cells : Array Value} (hf : Instr.fill (#[(0, 1), (1, 1), (2, 1)][·]?) #[.int .i64 0, .int .i64 0, .slice none 0 0] ps = some cells) : Rd Try.prog S (sBuild 37 ps) k = k (.agg cells) :=
  rd_build3 Try.underlying37 inf37 sz3 sz3 sz35 hf
theorem bd77 {S : WS} {k : Value → Prop} {ps : List (Nat × Value)} {cells : Array Value} (hf : Instr.fill (#[(0, 1), (1, 1)][·]?) #[.int .i64 0, .slice none 0 0] ps = some cells) : Rd Try.prog S (sBuild 77 ps) k = k (.agg cells) :=
  rd_build2 Try.underlying77 inf77 sz3 sz22 hf
theorem fd37_2 {S : WS} {k : Value → Prop} {a b c : Value} : Rd Try.prog S (sField 37 (.agg #[a, b, c]) 2) k = k c :=
  rd_field Try.underlying37 rfl (part_one one35 rfl)
end Go.Proofs.Ytiohaeckagjebaa
