/- From the reading of a grammar among the arguments to what the contracts ask. -/
import Derived.Test.YtiohaeckagjebaaShR
import Derived.Test.YtiohaeckagjebaaShG0
import Derived.Deep.SlicePairs
import Derived.Deep.Strs
set_option linter.unusedVariables false
set_option linter.unusedSimpArgs false
set_option maxRecDepth 100000
namespace Go.Sh
open Go Go.ChangeShapes Go.WideShapes Go.ChangeAt Go.RowKit Go.Deep
section
variable {H : Type} {enc : TypeId × Value → H} {P : Program} {w : World} {base : Nat} {spare : Nat → Bool} {held : Bool}
theorem read_rules {t e ti : TypeId} {f0 f1 : Field} (ht : P.underlying t = some (.slice e)) (he : P.underlying e = some (.struct #[f0, f1])) (ce : P.cellsOf e = 2) (o0 : f0.offset = 0) (o1 : f1.offset = 1) (c0 : P.cellsOf f0.type = 1) (c1 : P.cellsOf f1.type = 1)
    (h0 : P.underlying f0.type = some (.int .i64)) (h1 : P.underlying f1.type = some (.slice ti)) (hti : P.underlying ti = some (.int .i64)) (hci : P.cellsOf ti = 1) {fuel : Nat} {cs : List Value} {x : DataW H × List MemPlace}
    (h : DataW.trod enc P w base spare held fuel t cs = some x) : ∃ X c rs, cs = [.slice X (List.length rs) c] ∧ rs.length ≤ c ∧ RulesF (fun b => b < w.heap.size) w X rs := by
  rcases open_slice_pairs ht he ce o0 o1 c0 c1 h with ⟨hcs, _⟩ | ⟨a, len, cap, m, n, V0, V1, D0, D1, P0, P1, rfl, hb, hl, hm, hmm, _, hx⟩
  · exact ⟨none, 0, [], hcs, Nat.le_refl _, by simp, fun h => by simp at h, fun h => by simp at h, fun j hj => by simp at hj⟩
  have hlm : len ≤ m := by rw [hmm]; split <;> omega
  have each : ∀ i, i < len → ∃ q : RuleL × Option Addr × Nat, V0 i = .int .i64 q.1.1 ∧ V1 i = .slice q.2.1 q.1.2.length q.2.2 ∧ q.1.2.length ≤ q.2.2 ∧ Ints w q.2.1 q.1.2 := fun i hi => by
    obtain ⟨_, _, t0, t1⟩ := hx i (by omega)
    obtain ⟨k, hk, _, _⟩ := DataW.trod_int h0 t0
    obtain ⟨X, n, c, xs, hcs, rfl, hn, hix⟩ := read_ints h1 hti hci t1
    simp only [List.cons.injEq, and_true] at hk hcs
    exact ⟨((k, xs), X, c), hk, hcs, hn, hix⟩
  obtain ⟨q, hq⟩ := choose_lt each
  have hr : ∀ j, j < len → rul ((List.range len).map fun i => (q i).1) j = (q j).1 := fun j hj => by
    rw [rul_eq (by simpa using hj)]
    simp
  refine ⟨some a, cap, (List.range len).map fun i => (q i).1, by simp, by simpa using hl, by unfold maxLen at hm; simp; omega, fun _ => rfl, fun hp => ?_, fun j hj => ?_⟩
  · have := lt_of_cell (hx 0 (by simp at hp; omega)).1
    rwa [add_block] at this
  · have hj' : j < len := by simpa using hj
    rw [hr j hj']
    obtain ⟨e0, e1, _, _⟩ := hx j (by omega)
    obtain ⟨q0, q1, q2, q3⟩ := hq j hj'
    exact ⟨_, _, e0.trans (by rw [q0]), e1.trans (by rw [q1]), q2, IntsF.of_ints q3⟩
end
end Go.Sh
namespace Go.Proofs.Ytiohaeckagjebaa
open Go Go.Sh Go.ChangeShapes Go.WideShapes Go.ChangeAt Go.RowKit Go.Deep
theorem cells3 : Try.prog.cellsOf 3 = 1 := by kernel_rfl
theorem cells22 : Try.prog.cellsOf 22 = 1 := by kernel_rfl
theorem cells29 : Try.prog.cellsOf 29 = 1 := by kernel_rfl
theorem cells148 : Try.prog.cellsOf 148 = 2 := by kernel_rfl
theorem read_gram {H : Type} {enc : TypeId × Value → H} {w : World} {base b0 : Nat} {spare : Nat → Bool} {held : Bool} {r : Reach} {v : Value} {d : DataW H} {p : List MemPlace} (hval : Value.okWide Try.prog w r b0 31 v)
    (h : DataW.Trod enc Try.prog w base spare held 31 v d p) : ∃ g, GramV (fun b => b < w.heap.size) w v g := by
  obtain ⟨cs, rfl, hsz⟩ := okWide_struct Try.underlying31 hval
  obtain ⟨fuel, hf⟩ := h
  obtain ⟨y0, y1, y2, n, _, hl, t0, t1, t2⟩ := trod_struct3 Try.underlying31 hf
  have hc3 : Try.prog.cellsOf 31 = 3 := by kernel_rfl
  rw [hc3] at hl hsz
  obtain ⟨l⟩ := cs
  match l, hsz with
  | [u0, u1, u2], _ =>
    have ec : (Value.agg #[u0, u1, u2]).cells.toList = [u0, u1, u2] := rfl
    simp only [ec, cells3, cells29, List.drop, List.take] at t0 t1 t2
    obtain ⟨k0, e0, _, _⟩ := DataW.trod_int Try.underlying3 t0
    obtain ⟨k1, e1, _, _⟩ := DataW.trod_int Try.underlying3 t1
    obtain ⟨X, c, rs, e2, hc, hr⟩ := read_rules Try.underlying29 Try.underlying148 cells148 rfl rfl cells3 cells22 Try.underlying3 Try.underlying22 Try.underlying3 cells3 t2
    simp only [List.cons.injEq, and_true] at e0 e1 e2
    subst e0 e1 e2
    exact ⟨⟨k0, k1, rs⟩, X, c, rfl, hc, hr⟩
end Go.Proofs.Ytiohaeckagjebaa
