/- Texts of this repository put together: ShFF, ShFG, ShFH, ShB2, ShI4, Bd, ShJ1, ShB3, ShB4, ShI5, ShI6, ShIO. -/
import Derived.Test.YtegcjkhebecgbaaKUsefulf
import Derived.Test.YtegcjkhebecgbaaKUsefule
import Derived.Test.YtegcjkhebecgbaaProg
import Derived.Test.YtegcjkhebecgbaaKUsefula
import Derived.Test.YtegcjkhebecgbaaKUsefuld
import Derived.Test.YtegcjkhebecgbaaKUsefulb
import Derived.Test.YtegcjkhebecgbaaRows
import Derived.JoinedOf
import Derived.KernelRfl

/- What the program's useful deletes; rules of the call's own as one thing. -/
set_option linter.unusedVariables false
set_option linter.unusedSimpArgs false
set_option maxRecDepth 100000
namespace Go.Sh
open Go
def dropA (C A : List Bool) (r : RuleL) : Bool := (!atB C r.1.toNat || !atB A r.1.toNat) || r.2.any (barP A)
def dropB (C : List Bool) (r : RuleL) : Bool := !atB C r.1.toNat
theorem dropA_iff {rs : List RuleL} {C A : List Bool} (hl : ∀ r ∈ rs, 0 ≤ r.1) (hA : ∀ n, atB A n = true ↔ Clo rs true n) (hC : ∀ n, atB C n = true ↔ Rch rs n) {r : RuleL} (hr : r ∈ rs) : (!dropA C A r) = true ↔ Rch rs r.1.toNat ∧ ∀ x ∈ r.2, ¬ x < 0 → Clo rs true x.toNat := by
  unfold dropA
  rw [Bool.not_or, Bool.and_eq_true, Bool.not_or, Bool.not_not, Bool.not_not, Bool.and_eq_true, hC, hA, any_not]
  constructor
  · rintro ⟨⟨h1, _⟩, h3⟩
    exact ⟨h1, fun x hx hn => (hA _).1 (((bars_p A x).1 (h3 x hx)).2 hn)⟩
  · rintro ⟨h1, h2⟩
    refine ⟨⟨h1, .mk hr (by have := hl r hr; omega) (fun _ _ _ => rfl) h2⟩, fun x hx => (bars_p A x).2 ⟨fun _ => rfl, fun hn => (hA _).2 (h2 x hx hn)⟩⟩
open Classical in
theorem useful_two {rs : List RuleL} {p q : RuleL → Bool} (hp : ∀ r ∈ rs, p r = true ↔ Rch rs r.1.toNat ∧ ∀ x ∈ r.2, ¬ x < 0 → Clo rs true x.toNat) (hl : ∀ r ∈ rs, 0 ≤ r.1) (hq : ∀ n, q n = true ↔ Rch (rs.filter p) n.1.toNat) : (rs.filter p).filter q = usefulR rs := by
  have key : ∀ n, Rch (rs.filter p) n ↔ Rch (madeR rs) n := fun n => by
    constructor
    · refine fun h => rch_mono (fun r hr => ?_) h
      rw [List.mem_filter] at hr
      exact madeR_mem.2 ⟨hr.1, ((hp r hr.1).1 hr.2).2⟩
    · intro h
      induction h with
      | zero => exact .zero
      | @step B r x h1 h2 h3 h4 h5 ih =>
        have hm := madeR_mem.1 h1
        have hr : Rch rs B := rch_mono (fun r hr => (madeR_mem.1 hr).1) h3
        refine .step (List.mem_filter.2 ⟨hm.1, (hp r hm.1).2 ⟨?_, hm.2⟩⟩) h2 ih h4 h5
        rw [h2, Int.toNat_natCast]
        exact hr
  unfold usefulR rchR
  rw [List.filter_filter]
  conv => rhs; arg 2; unfold madeR
  rw [List.filter_filter]
  apply List.filter_congr
  intro r hr
  rw [Bool.eq_iff_iff, Bool.and_eq_true, Bool.and_eq_true, hq, key, decide_eq_true_eq, decide_eq_true_eq, hp r hr]
  constructor
  · rintro ⟨h1, _, h3⟩
    exact ⟨h1, h3⟩
  · rintro ⟨h1, h3⟩
    exact ⟨h1, rch_mono (fun r hr => (madeR_mem.1 hr).1) h1, h3⟩
theorem RuleCells.of_cell {F : Nat → Prop} {w : World} : ∀ {rs : List RuleL} {cells : List Value}, cells.length = rs.length * 2 → (∀ j, j < rs.length → ∃ Y d, cells[j * 2]? = some (.int .i64 (rul rs j).1) ∧ cells[j * 2 + 1]? = some (.slice Y (rul rs j).2.length d) ∧ (rul rs j).2.length ≤ d ∧ IntsF F w Y (rul rs j).2) → RuleCells F w rs cells
  | [], cells, hl, _ => by
    obtain rfl : cells = [] := List.eq_nil_of_length_eq_zero (by simpa using hl)
    exact .nil
  | r :: rs, [], hl, _ => by simp at hl
  | r :: rs, [a], hl, _ => by simp at hl; omega
  | r :: rs, a :: b :: cells, hl, h => by
    obtain ⟨Y, d, h1, h2, h3, h4⟩ := h 0 (by simp)
    obtain rfl := Option.some.inj h1
    obtain rfl := Option.some.inj h2
    refine .cons h3 h4 (RuleCells.of_cell (by simp at hl; omega) fun j hj => ?_)
    obtain ⟨Z, e, a1, a2, a3, a4⟩ := h (j + 1) (by simpa using hj)
    have er : rul (r :: rs) (j + 1) = rul rs j := by simp [rul]
    rw [er] at a1 a2 a3 a4
    refine ⟨Z, e, ?_, ?_, a3, a4⟩
    · rw [show (j + 1) * 2 = j * 2 + 1 + 1 from by omega] at a1
      simpa using a1
    · rw [show (j + 1) * 2 + 1 = j * 2 + 1 + 1 + 1 from by omega] at a2
      simpa using a2
theorem OwnR.cellsG {e1 e2 : Nat} {w : World} {B c : Nat} {X : Option Addr} {rs : List RuleL} {ps : Nat → Option Addr × Nat} (h : OwnR e1 e2 w B X c rs ps) (he : e1 ≠ e2) : ∃ cells, Row w B e1 2 X rs.length c cells ∧ RuleCells (fun q => B ≤ q ∧ blk X ≠ some q) w rs cells := by
  obtain ⟨⟨cells, hr, hc⟩, ho, ht⟩ := h
  refine ⟨cells, hr, RuleCells.of_cell hr.len fun j hj => ?_⟩
  obtain ⟨h1, h2⟩ := hc j hj
  refine ⟨_, _, h1, h2, (Row.cap (ho j hj)).1, ⟨Own.ints (ho j hj), fun hp => ?_⟩⟩
  have hb : blk (ps j).1 = some (ad (ps j).1).block := by
    have hq : (ps j).1 = some (ad (ps j).1) := Row.ptr (ho j hj) hp
    rw [hq]
    rfl
  refine ⟨((ho j hj).ge hb).1, fun e => ?_⟩
  rcases row_ne hr (ho j hj) he with h | h
  · rw [h] at e; cases e
  · exact h (e.trans hb.symm)
end Go.Sh
namespace Go.Proofs.Ytegcjkhebecgbaa
open Go Go.Sh Go.RowKit
section
variable {w : World} {k : Value → World → Prop}
theorem barP3_c {b : Nat} {A : List Bool} {x : Int} (hlen : A.length = 6) (hx : x < 6) (hB : Box w b (A.map Value.bool) 163) (hk : k (.bool (barP A x)) w) :
    CallK Try.prog 266 [.int .i64 x, ptrv b] k w := by
  refine enter266 ?_
  unfold S266
  unfold barP at hk
  simp only [bin_add, bin_sub, bin_mul, bin_eql, bin_neq, bin_lss, bin_leq, bin_gtr, bin_geq, un_not, un_neg, zq4, zq3, zq1, zq2, zq0, cond_true', cond_false', zq14, zq15, zq16, zq17, zq13, zq10, zq12, zq11, zq7, zq5, zq6, zq9, zq8, resK_nil, resK_tmp, ite_T, ite_F, upd_at, add_plain, add_zero', Nat.reduceEqDiff, fa8_0, fa8_1, fa8_2, fa8_3, fa14_0, fa14_1, fa19_0, len22, len24, fa26_0, fa26_1, fa26_2, len27, fa33_0, fa33_1, len35, fa77_0, fa77_1, fa88_0, fa88_1, fa88_2, fa88_3, fa88_4, fa88_5, fa114_0, fa114_1, fa114_2, fa124_0, fa124_1, len134, len136, len154, fa156_0, fa156_1, fa156_2, fa156_3, fa156_4, fa156_5, fa156_6, fa184_0, fa184_1, fa200_0, fa200_1, fa200_2, fa200_3, fa215_0, fa215_1, fa215_2, fa215_3, fa215_4, len218, len271, fa274_0, fa274_1, fa274_2, fa303_0, fa303_1, fa303_2, fa303_3, fa314_0, fa314_1, fa314_2, fa314_3, fa314_4, fa314_5, fa314_6, fa314_7, fa314_8, fa314_9, fa314_10]
  by_cases h : 0 ≤ x
  · simp only [h, decide_true, bin_add, bin_sub, bin_mul, bin_eql, bin_neq, bin_lss, bin_leq, bin_gtr, bin_geq, un_not, un_neg, zq4, zq3, zq1, zq2, zq0, cond_true', cond_false', zq14, zq15, zq16, zq17, zq13, zq10, zq12, zq11, zq7, zq5, zq6, zq9, zq8, resK_nil, resK_tmp, ite_T, ite_F, upd_at, add_plain, add_zero', Nat.reduceEqDiff, fa8_0, fa8_1, fa8_2, fa8_3, fa14_0, fa14_1, fa19_0, len22, len24, fa26_0, fa26_1, fa26_2, len27, fa33_0, fa33_1, len35, fa77_0, fa77_1, fa88_0, fa88_1, fa88_2, fa88_3, fa88_4, fa88_5, fa114_0, fa114_1, fa114_2, fa124_0, fa124_1, len134, len136, len154, fa156_0, fa156_1, fa156_2, fa156_3, fa156_4, fa156_5, fa156_6, fa184_0, fa184_1, fa200_0, fa200_1, fa200_2, fa200_3, fa215_0, fa215_1, fa215_2, fa215_3, fa215_4, len218, len271, fa274_0, fa274_1, fa274_2, fa303_0, fa303_1, fa303_2, fa303_3, fa314_0, fa314_1, fa314_2, fa314_3, fa314_4, fa314_5, fa314_6, fa314_7, fa314_8, fa314_9, fa314_10]
    refine rdi (ixa163 h hx) ?_
    rw [add_plain, Nat.zero_add, ldB4 hB (atB_get (by omega))]
    simp only [bin_add, bin_sub, bin_mul, bin_eql, bin_neq, bin_lss, bin_leq, bin_gtr, bin_geq, un_not, un_neg, zq4, zq3, zq1, zq2, zq0, cond_true', cond_false', zq14, zq15, zq16, zq17, zq13, zq10, zq12, zq11, zq7, zq5, zq6, zq9, zq8, resK_nil, resK_tmp, ite_T, ite_F, upd_at, add_plain, add_zero', Nat.reduceEqDiff, fa8_0, fa8_1, fa8_2, fa8_3, fa14_0, fa14_1, fa19_0, len22, len24, fa26_0, fa26_1, fa26_2, len27, fa33_0, fa33_1, len35, fa77_0, fa77_1, fa88_0, fa88_1, fa88_2, fa88_3, fa88_4, fa88_5, fa114_0, fa114_1, fa114_2, fa124_0, fa124_1, len134, len136, len154, fa156_0, fa156_1, fa156_2, fa156_3, fa156_4, fa156_5, fa156_6, fa184_0, fa184_1, fa200_0, fa200_1, fa200_2, fa200_3, fa215_0, fa215_1, fa215_2, fa215_3, fa215_4, len218, len271, fa274_0, fa274_1, fa274_2, fa303_0, fa303_1, fa303_2, fa303_3, fa314_0, fa314_1, fa314_2, fa314_3, fa314_4, fa314_5, fa314_6, fa314_7, fa314_8, fa314_9, fa314_10]
    simpa only [h, decide_true, Bool.true_and] using hk
  · simp only [h, decide_false, bin_add, bin_sub, bin_mul, bin_eql, bin_neq, bin_lss, bin_leq, bin_gtr, bin_geq, un_not, un_neg, zq4, zq3, zq1, zq2, zq0, cond_true', cond_false', zq14, zq15, zq16, zq17, zq13, zq10, zq12, zq11, zq7, zq5, zq6, zq9, zq8, resK_nil, resK_tmp, ite_T, ite_F, upd_at, add_plain, add_zero', Nat.reduceEqDiff, fa8_0, fa8_1, fa8_2, fa8_3, fa14_0, fa14_1, fa19_0, len22, len24, fa26_0, fa26_1, fa26_2, len27, fa33_0, fa33_1, len35, fa77_0, fa77_1, fa88_0, fa88_1, fa88_2, fa88_3, fa88_4, fa88_5, fa114_0, fa114_1, fa114_2, fa124_0, fa124_1, len134, len136, len154, fa156_0, fa156_1, fa156_2, fa156_3, fa156_4, fa156_5, fa156_6, fa184_0, fa184_1, fa200_0, fa200_1, fa200_2, fa200_3, fa215_0, fa215_1, fa215_2, fa215_3, fa215_4, len218, len271, fa274_0, fa274_1, fa274_2, fa303_0, fa303_1, fa303_2, fa303_3, fa314_0, fa314_1, fa314_2, fa314_3, fa314_4, fa314_5, fa314_6, fa314_7, fa314_8, fa314_9, fa314_10]
    simpa only [h, decide_false, Bool.false_and] using hk
theorem dropB_c {b : Nat} {C : List Bool} {r : RuleL} {Z : Option Addr} {d : Nat} (hC : C.length = 6) (hB : Box w b (C.map Value.bool) 163) (hl : 0 ≤ r.1 ∧ r.1 < 6) (hk : ∀ w', Gr w w' → k (.bool (dropB C r)) w') :
    CallK Try.prog 267 [.agg #[.int .i64 r.1, .slice Z r.2.length d], ptrv b] k w := by
  refine enter267 ?_
  unfold S267
  refine do_box fun b1 w1 g1 hb1 B1 => ?_
  simp only [bin_add, bin_sub, bin_mul, bin_eql, bin_neq, bin_lss, bin_leq, bin_gtr, bin_geq, un_not, un_neg, zq4, zq3, zq1, zq2, zq0, cond_true', cond_false', zq14, zq15, zq16, zq17, zq13, zq10, zq12, zq11, zq7, zq5, zq6, zq9, zq8, resK_nil, resK_tmp, ite_T, ite_F, upd_at, add_plain, add_zero', Nat.reduceEqDiff, fa8_0, fa8_1, fa8_2, fa8_3, fa14_0, fa14_1, fa19_0, len22, len24, fa26_0, fa26_1, fa26_2, len27, fa33_0, fa33_1, len35, fa77_0, fa77_1, fa88_0, fa88_1, fa88_2, fa88_3, fa88_4, fa88_5, fa114_0, fa114_1, fa114_2, fa124_0, fa124_1, len134, len136, len154, fa156_0, fa156_1, fa156_2, fa156_3, fa156_4, fa156_5, fa156_6, fa184_0, fa184_1, fa200_0, fa200_1, fa200_2, fa200_3, fa215_0, fa215_1, fa215_2, fa215_3, fa215_4, len218, len271, fa274_0, fa274_1, fa274_2, fa303_0, fa303_1, fa303_2, fa303_3, fa314_0, fa314_1, fa314_2, fa314_3, fa314_4, fa314_5, fa314_6, fa314_7, fa314_8, fa314_9, fa314_10]
  rw [ldB3 B1 rfl]
  refine rdi (ixa163 hl.1 hl.2) ?_
  rw [add_plain, Nat.zero_add, ldB4 (hB.gr g1) (atB_get (by omega))]
  simp only [bin_add, bin_sub, bin_mul, bin_eql, bin_neq, bin_lss, bin_leq, bin_gtr, bin_geq, un_not, un_neg, zq4, zq3, zq1, zq2, zq0, cond_true', cond_false', zq14, zq15, zq16, zq17, zq13, zq10, zq12, zq11, zq7, zq5, zq6, zq9, zq8, resK_nil, resK_tmp, ite_T, ite_F, upd_at, add_plain, add_zero', Nat.reduceEqDiff, fa8_0, fa8_1, fa8_2, fa8_3, fa14_0, fa14_1, fa19_0, len22, len24, fa26_0, fa26_1, fa26_2, len27, fa33_0, fa33_1, len35, fa77_0, fa77_1, fa88_0, fa88_1, fa88_2, fa88_3, fa88_4, fa88_5, fa114_0, fa114_1, fa114_2, fa124_0, fa124_1, len134, len136, len154, fa156_0, fa156_1, fa156_2, fa156_3, fa156_4, fa156_5, fa156_6, fa184_0, fa184_1, fa200_0, fa200_1, fa200_2, fa200_3, fa215_0, fa215_1, fa215_2, fa215_3, fa215_4, len218, len271, fa274_0, fa274_1, fa274_2, fa303_0, fa303_1, fa303_2, fa303_3, fa314_0, fa314_1, fa314_2, fa314_3, fa314_4, fa314_5, fa314_6, fa314_7, fa314_8, fa314_9, fa314_10]
  exact hk w1 g1
theorem dropA_c {b e : Nat} {C A : List Bool} {r : RuleL} {Z : Option Addr} {d : Nat} (hC : C.length = 6) (hA : A.length = 6) (hB : Box w b (C.map Value.bool) 163) (hE : Box w e (A.map Value.bool) 163) (hl : 0 ≤ r.1 ∧ r.1 < 6) (hx : ∀ x ∈ r.2, x < 6) (hZ : kI Z r.2 d w) (hk : ∀ w', Gr w w' → k (.bool (dropA C A r)) w') :
    CallK Try.prog 265 [.agg #[.int .i64 r.1, .slice Z r.2.length d], ptrv b, ptrv e] k w := by
  refine enter265 ?_
  unfold S265
  refine do_box fun b1 w1 g1 hb1 B1 => ?_
  unfold dropA at hk
  have hE := hE.gr g1
  simp only [bin_add, bin_sub, bin_mul, bin_eql, bin_neq, bin_lss, bin_leq, bin_gtr, bin_geq, un_not, un_neg, zq4, zq3, zq1, zq2, zq0, cond_true', cond_false', zq14, zq15, zq16, zq17, zq13, zq10, zq12, zq11, zq7, zq5, zq6, zq9, zq8, resK_nil, resK_tmp, ite_T, ite_F, upd_at, add_plain, add_zero', Nat.reduceEqDiff, fa8_0, fa8_1, fa8_2, fa8_3, fa14_0, fa14_1, fa19_0, len22, len24, fa26_0, fa26_1, fa26_2, len27, fa33_0, fa33_1, len35, fa77_0, fa77_1, fa88_0, fa88_1, fa88_2, fa88_3, fa88_4, fa88_5, fa114_0, fa114_1, fa114_2, fa124_0, fa124_1, len134, len136, len154, fa156_0, fa156_1, fa156_2, fa156_3, fa156_4, fa156_5, fa156_6, fa184_0, fa184_1, fa200_0, fa200_1, fa200_2, fa200_3, fa215_0, fa215_1, fa215_2, fa215_3, fa215_4, len218, len271, fa274_0, fa274_1, fa274_2, fa303_0, fa303_1, fa303_2, fa303_3, fa314_0, fa314_1, fa314_2, fa314_3, fa314_4, fa314_5, fa314_6, fa314_7, fa314_8, fa314_9, fa314_10]
  rw [ldB3 B1 rfl]
  refine rdi (ixa163 hl.1 hl.2) ?_
  rw [add_plain, Nat.zero_add, ldB4 (hB.gr g1) (atB_get (by omega))]
  cases h1 : atB C r.1.toNat
  · simp only [Bool.not_false, bin_add, bin_sub, bin_mul, bin_eql, bin_neq, bin_lss, bin_leq, bin_gtr, bin_geq, un_not, un_neg, zq4, zq3, zq1, zq2, zq0, cond_true', cond_false', zq14, zq15, zq16, zq17, zq13, zq10, zq12, zq11, zq7, zq5, zq6, zq9, zq8, resK_nil, resK_tmp, ite_T, ite_F, upd_at, add_plain, add_zero', Nat.reduceEqDiff, fa8_0, fa8_1, fa8_2, fa8_3, fa14_0, fa14_1, fa19_0, len22, len24, fa26_0, fa26_1, fa26_2, len27, fa33_0, fa33_1, len35, fa77_0, fa77_1, fa88_0, fa88_1, fa88_2, fa88_3, fa88_4, fa88_5, fa114_0, fa114_1, fa114_2, fa124_0, fa124_1, len134, len136, len154, fa156_0, fa156_1, fa156_2, fa156_3, fa156_4, fa156_5, fa156_6, fa184_0, fa184_1, fa200_0, fa200_1, fa200_2, fa200_3, fa215_0, fa215_1, fa215_2, fa215_3, fa215_4, len218, len271, fa274_0, fa274_1, fa274_2, fa303_0, fa303_1, fa303_2, fa303_3, fa314_0, fa314_1, fa314_2, fa314_3, fa314_4, fa314_5, fa314_6, fa314_7, fa314_8, fa314_9, fa314_10]
    have := hk w1 g1
    rwa [h1, Bool.not_false, Bool.true_or, Bool.true_or] at this
  simp only [Bool.not_true, bin_add, bin_sub, bin_mul, bin_eql, bin_neq, bin_lss, bin_leq, bin_gtr, bin_geq, un_not, un_neg, zq4, zq3, zq1, zq2, zq0, cond_true', cond_false', zq14, zq15, zq16, zq17, zq13, zq10, zq12, zq11, zq7, zq5, zq6, zq9, zq8, resK_nil, resK_tmp, ite_T, ite_F, upd_at, add_plain, add_zero', Nat.reduceEqDiff, fa8_0, fa8_1, fa8_2, fa8_3, fa14_0, fa14_1, fa19_0, len22, len24, fa26_0, fa26_1, fa26_2, len27, fa33_0, fa33_1, len35, fa77_0, fa77_1, fa88_0, fa88_1, fa88_2, fa88_3, fa88_4, fa88_5, fa114_0, fa114_1, fa114_2, fa124_0, fa124_1, len134, len136, len154, fa156_0, fa156_1, fa156_2, fa156_3, fa156_4, fa156_5, fa156_6, fa184_0, fa184_1, fa200_0, fa200_1, fa200_2, fa200_3, fa215_0, fa215_1, fa215_2, fa215_3, fa215_4, len218, len271, fa274_0, fa274_1, fa274_2, fa303_0, fa303_1, fa303_2, fa303_3, fa314_0, fa314_1, fa314_2, fa314_3, fa314_4, fa314_5, fa314_6, fa314_7, fa314_8, fa314_9, fa314_10]
  rw [ldB3 B1 rfl]
  refine rdi (ixa163 hl.1 hl.2) ?_
  rw [add_plain, Nat.zero_add, ldB4 hE (atB_get (by omega))]
  cases h2 : atB A r.1.toNat
  · simp only [Bool.not_false, bin_add, bin_sub, bin_mul, bin_eql, bin_neq, bin_lss, bin_leq, bin_gtr, bin_geq, un_not, un_neg, zq4, zq3, zq1, zq2, zq0, cond_true', cond_false', zq14, zq15, zq16, zq17, zq13, zq10, zq12, zq11, zq7, zq5, zq6, zq9, zq8, resK_nil, resK_tmp, ite_T, ite_F, upd_at, add_plain, add_zero', Nat.reduceEqDiff, fa8_0, fa8_1, fa8_2, fa8_3, fa14_0, fa14_1, fa19_0, len22, len24, fa26_0, fa26_1, fa26_2, len27, fa33_0, fa33_1, len35, fa77_0, fa77_1, fa88_0, fa88_1, fa88_2, fa88_3, fa88_4, fa88_5, fa114_0, fa114_1, fa114_2, fa124_0, fa124_1, len134, len136, len154, fa156_0, fa156_1, fa156_2, fa156_3, fa156_4, fa156_5, fa156_6, fa184_0, fa184_1, fa200_0, fa200_1, fa200_2, fa200_3, fa215_0, fa215_1, fa215_2, fa215_3, fa215_4, len218, len271, fa274_0, fa274_1, fa274_2, fa303_0, fa303_1, fa303_2, fa303_3, fa314_0, fa314_1, fa314_2, fa314_3, fa314_4, fa314_5, fa314_6, fa314_7, fa314_8, fa314_9, fa314_10]
    have := hk w1 g1
    rwa [h1, h2, Bool.not_false, Bool.or_true, Bool.true_or] at this
  simp only [Bool.not_true, bin_add, bin_sub, bin_mul, bin_eql, bin_neq, bin_lss, bin_leq, bin_gtr, bin_geq, un_not, un_neg, zq4, zq3, zq1, zq2, zq0, cond_true', cond_false', zq14, zq15, zq16, zq17, zq13, zq10, zq12, zq11, zq7, zq5, zq6, zq9, zq8, resK_nil, resK_tmp, ite_T, ite_F, upd_at, add_plain, add_zero', Nat.reduceEqDiff, fa8_0, fa8_1, fa8_2, fa8_3, fa14_0, fa14_1, fa19_0, len22, len24, fa26_0, fa26_1, fa26_2, len27, fa33_0, fa33_1, len35, fa77_0, fa77_1, fa88_0, fa88_1, fa88_2, fa88_3, fa88_4, fa88_5, fa114_0, fa114_1, fa114_2, fa124_0, fa124_1, len134, len136, len154, fa156_0, fa156_1, fa156_2, fa156_3, fa156_4, fa156_5, fa156_6, fa184_0, fa184_1, fa200_0, fa200_1, fa200_2, fa200_3, fa215_0, fa215_1, fa215_2, fa215_3, fa215_4, len218, len271, fa274_0, fa274_1, fa274_2, fa303_0, fa303_1, fa303_2, fa303_3, fa314_0, fa314_1, fa314_2, fa314_3, fa314_4, fa314_5, fa314_6, fa314_7, fa314_8, fa314_9, fa314_10]
  rw [ldB27 B1 rfl]
  rw [makeFunc_]
  refine containsFuncD_c (D := fun x => x < 6) (p := barP A) (hZ.1.gr g1) hx (fun w4 g4 x hx k hk => ?_) fun w3 g3 => ?_
  · refine callVc (caps := [ptrv e]) ?_
    exact barP3_c hA hx (hE.gr g4) (hk w4 (Gr.refl _))
  have := hk w3 (gr_trans g1 g3)
  rwa [h1, h2, Bool.not_true, Bool.or_false, Bool.false_or] at this
end
end Go.Proofs.Ytegcjkhebecgbaa

/- Contract: the program's useful (printed by gen_useful.py). -/
set_option linter.unusedVariables false
set_option linter.unusedSimpArgs false
set_option maxRecDepth 100000
namespace Go.Proofs.Ytegcjkhebecgbaa
open Go Go.Sh Go.RowKit
section
variable {w : World} {k : Value → World → Prop} {Y : Option Addr} {cy : Nat} {gm : Gram}
set_option maxHeartbeats 12800000 in
theorem useful_c (hG : kG Y cy gm.rules w) (hg : goodG gm = true) (hk : ∀ w' X c, Gr w w' → (usefulR gm.rules).length ≤ c → RulesF (fun q => w.heap.size ≤ q ∧ q < w'.heap.size) w' X (usefulR gm.rules) → k (.agg #[.int .i64 gm.nons, .int .i64 gm.toks, .slice X (usefulR gm.rules).length c]) w') :
    CallK Try.prog 183 [grv gm Y cy] k w := by
  have h6 := sixR hg
  have hr4 : ∀ r ∈ gm.rules, r.2.length ≤ 1000 := fun r hr => by have := (goodRules hg r hr).2.1; omega
  refine enter183 ?_
  unfold S183
  have H := Apt.nil w
  refine boxH H fun b1 w1 H => ?_
  refine allocH H inf26 fun b3 w2 H => ?_
  have H : Apt w w2 [bx b1 [.int .i64 gm.nons, .int .i64 gm.toks, .slice Y gm.rules.length cy] 26, bx b3 zg 26] := H
  refine join_as (fun f w' => f 1 = ptrv b1 ∧ f 2 = ptrv b3 ∧ ∃ bp br A C, f 3 = ptrv bp ∧ f 4 = ptrv br ∧ A.length = 6 ∧ (∀ n, atB A n = true ↔ Clo gm.rules true n) ∧ C.length = 6 ∧ (∀ n, atB C n = true ↔ Rch gm.rules n) ∧
      Apt w w' [bx b1 [.int .i64 gm.nons, .int .i64 gm.toks, .slice Y gm.rules.length cy] 26, bx b3 zg 26, bx bp (A.map Value.bool) 163, bx br (C.map Value.bool) 163]) (fun K hK => ?_) ?_
  · have H := H.drew
    refine ⟨fun w' => Box w' b1 [.int .i64 gm.nons, .int .i64 gm.toks, .slice Y gm.rules.length cy] 26, H.box 0 rfl, ?_⟩
    refine rdi (rdS26 rfl fun w' h => h) (rdi (rdS26 rfl fun w' h => h) ?_)
    refine ⟨?_, ?_, ?_⟩
    · refine productive_c (gm := gm) ⟨hG.1, hG.2.gr H.gr⟩ h6 fun w10 A g hA' hA => ?_
      obtain ⟨a0, a1, a2, a3, a4, a5, rfl⟩ := six_of hA'
      have H := H.step g
      refine ⟨H.box 0 rfl, ?_⟩
      refine ⟨?_, ?_, ?_⟩
      · refine reached_c (gm := gm) ⟨hG.1, hG.2.gr H.gr⟩ h6 hr4 fun w11 C g hC' hC => ?_
        obtain ⟨c0, c1, c2, c3, c4, c5, rfl⟩ := six_of hC'
        have H := H.step g
        refine ⟨H.box 0 rfl, ?_⟩
        refine ⟨?_, ?_⟩
        · refine allocH H inf163' fun bp w12 H => ?_
          refine ⟨H.box 0 rfl, ?_⟩
          refine allocH H inf163' fun br w13 H => ?_
          refine ⟨H.box 0 rfl, ?_⟩
          refine storeH H 2 rfl sz163 rfl rfl rfl fun w14 H => ?_
          refine ⟨H.box 0 rfl, ?_⟩
          refine storeH H 3 rfl sz163 rfl rfl rfl fun w15 H => ?_
          refine ⟨H.box 0 rfl, ?_⟩
          have H : Apt w w15 [bx b1 [.int .i64 gm.nons, .int .i64 gm.toks, .slice Y gm.rules.length cy] 26, bx b3 zg 26, bx bp ([a0, a1, a2, a3, a4, a5].map Value.bool) 163, bx br ([c0, c1, c2, c3, c4, c5].map Value.bool) 163] := H
          exact hK _ _ ⟨rfl, rfl, bp, br, _, _, rfl, rfl, rfl, hA, rfl, hC, H⟩
        · refine allocH H inf163' fun br w16 H => ?_
          refine ⟨H.box 0 rfl, ?_⟩
          refine allocH H inf163' fun bp w17 H => ?_
          refine ⟨H.box 0 rfl, ?_⟩
          refine storeH H 3 rfl sz163 rfl rfl rfl fun w18 H => ?_
          refine ⟨H.box 0 rfl, ?_⟩
          refine storeH H 2 rfl sz163 rfl rfl rfl fun w19 H => ?_
          refine ⟨H.box 0 rfl, ?_⟩
          have H : Apt w w19 [bx b1 [.int .i64 gm.nons, .int .i64 gm.toks, .slice Y gm.rules.length cy] 26, bx b3 zg 26, bx br ([c0, c1, c2, c3, c4, c5].map Value.bool) 163, bx bp ([a0, a1, a2, a3, a4, a5].map Value.bool) 163] := H
          have H := H.perm (List.Perm.cons _ (List.Perm.cons _ (List.Perm.swap _ _ _)))
          exact hK _ _ ⟨rfl, rfl, bp, br, _, _, rfl, rfl, rfl, hA, rfl, hC, H⟩
      · refine allocH H inf163' fun bp w20 H => ?_
        refine ⟨H.box 0 rfl, ?_⟩
        refine ⟨?_, ?_⟩
        · refine reached_c (gm := gm) ⟨hG.1, hG.2.gr H.gr⟩ h6 hr4 fun w21 C g hC' hC => ?_
          obtain ⟨c0, c1, c2, c3, c4, c5, rfl⟩ := six_of hC'
          have H := H.step g
          refine ⟨H.box 0 rfl, ?_⟩
          refine allocH H inf163' fun br w22 H => ?_
          refine ⟨H.box 0 rfl, ?_⟩
          refine storeH H 2 rfl sz163 rfl rfl rfl fun w23 H => ?_
          refine ⟨H.box 0 rfl, ?_⟩
          refine storeH H 3 rfl sz163 rfl rfl rfl fun w24 H => ?_
          refine ⟨H.box 0 rfl, ?_⟩
          have H : Apt w w24 [bx b1 [.int .i64 gm.nons, .int .i64 gm.toks, .slice Y gm.rules.length cy] 26, bx b3 zg 26, bx bp ([a0, a1, a2, a3, a4, a5].map Value.bool) 163, bx br ([c0, c1, c2, c3, c4, c5].map Value.bool) 163] := H
          exact hK _ _ ⟨rfl, rfl, bp, br, _, _, rfl, rfl, rfl, hA, rfl, hC, H⟩
        · refine allocH H inf163' fun br w25 H => ?_
          refine ⟨H.box 0 rfl, ?_⟩
          refine reached_c (gm := gm) ⟨hG.1, hG.2.gr H.gr⟩ h6 hr4 fun w26 C g hC' hC => ?_
          obtain ⟨c0, c1, c2, c3, c4, c5, rfl⟩ := six_of hC'
          have H := H.step g
          refine ⟨H.box 0 rfl, ?_⟩
          refine storeH H 2 rfl sz163 rfl rfl rfl fun w27 H => ?_
          refine ⟨H.box 0 rfl, ?_⟩
          refine storeH H 3 rfl sz163 rfl rfl rfl fun w28 H => ?_
          refine ⟨H.box 0 rfl, ?_⟩
          have H : Apt w w28 [bx b1 [.int .i64 gm.nons, .int .i64 gm.toks, .slice Y gm.rules.length cy] 26, bx b3 zg 26, bx bp ([a0, a1, a2, a3, a4, a5].map Value.bool) 163, bx br ([c0, c1, c2, c3, c4, c5].map Value.bool) 163] := H
          exact hK _ _ ⟨rfl, rfl, bp, br, _, _, rfl, rfl, rfl, hA, rfl, hC, H⟩
      · refine allocH H inf163' fun br w29 H => ?_
        refine ⟨H.box 0 rfl, ?_⟩
        refine ⟨?_, ?_⟩
        · refine reached_c (gm := gm) ⟨hG.1, hG.2.gr H.gr⟩ h6 hr4 fun w30 C g hC' hC => ?_
          obtain ⟨c0, c1, c2, c3, c4, c5, rfl⟩ := six_of hC'
          have H := H.step g
          refine ⟨H.box 0 rfl, ?_⟩
          refine allocH H inf163' fun bp w31 H => ?_
          refine ⟨H.box 0 rfl, ?_⟩
          refine storeH H 3 rfl sz163 rfl rfl rfl fun w32 H => ?_
          refine ⟨H.box 0 rfl, ?_⟩
          refine storeH H 2 rfl sz163 rfl rfl rfl fun w33 H => ?_
          refine ⟨H.box 0 rfl, ?_⟩
          have H : Apt w w33 [bx b1 [.int .i64 gm.nons, .int .i64 gm.toks, .slice Y gm.rules.length cy] 26, bx b3 zg 26, bx br ([c0, c1, c2, c3, c4, c5].map Value.bool) 163, bx bp ([a0, a1, a2, a3, a4, a5].map Value.bool) 163] := H
          have H := H.perm (List.Perm.cons _ (List.Perm.cons _ (List.Perm.swap _ _ _)))
          exact hK _ _ ⟨rfl, rfl, bp, br, _, _, rfl, rfl, rfl, hA, rfl, hC, H⟩
        · refine allocH H inf163' fun bp w34 H => ?_
          refine ⟨H.box 0 rfl, ?_⟩
          refine reached_c (gm := gm) ⟨hG.1, hG.2.gr H.gr⟩ h6 hr4 fun w35 C g hC' hC => ?_
          obtain ⟨c0, c1, c2, c3, c4, c5, rfl⟩ := six_of hC'
          have H := H.step g
          refine ⟨H.box 0 rfl, ?_⟩
          refine storeH H 3 rfl sz163 rfl rfl rfl fun w36 H => ?_
          refine ⟨H.box 0 rfl, ?_⟩
          refine storeH H 2 rfl sz163 rfl rfl rfl fun w37 H => ?_
          refine ⟨H.box 0 rfl, ?_⟩
          have H : Apt w w37 [bx b1 [.int .i64 gm.nons, .int .i64 gm.toks, .slice Y gm.rules.length cy] 26, bx b3 zg 26, bx br ([c0, c1, c2, c3, c4, c5].map Value.bool) 163, bx bp ([a0, a1, a2, a3, a4, a5].map Value.bool) 163] := H
          have H := H.perm (List.Perm.cons _ (List.Perm.cons _ (List.Perm.swap _ _ _)))
          exact hK _ _ ⟨rfl, rfl, bp, br, _, _, rfl, rfl, rfl, hA, rfl, hC, H⟩
    · refine allocH H inf163' fun bp w38 H => ?_
      refine ⟨H.box 0 rfl, ?_⟩
      refine ⟨?_, ?_⟩
      · refine productive_c (gm := gm) ⟨hG.1, hG.2.gr H.gr⟩ h6 fun w39 A g hA' hA => ?_
        obtain ⟨a0, a1, a2, a3, a4, a5, rfl⟩ := six_of hA'
        have H := H.step g
        refine ⟨H.box 0 rfl, ?_⟩
        refine ⟨?_, ?_⟩
        · refine reached_c (gm := gm) ⟨hG.1, hG.2.gr H.gr⟩ h6 hr4 fun w40 C g hC' hC => ?_
          obtain ⟨c0, c1, c2, c3, c4, c5, rfl⟩ := six_of hC'
          have H := H.step g
          refine ⟨H.box 0 rfl, ?_⟩
          refine allocH H inf163' fun br w41 H => ?_
          refine ⟨H.box 0 rfl, ?_⟩
          refine storeH H 2 rfl sz163 rfl rfl rfl fun w42 H => ?_
          refine ⟨H.box 0 rfl, ?_⟩
          refine storeH H 3 rfl sz163 rfl rfl rfl fun w43 H => ?_
          refine ⟨H.box 0 rfl, ?_⟩
          have H : Apt w w43 [bx b1 [.int .i64 gm.nons, .int .i64 gm.toks, .slice Y gm.rules.length cy] 26, bx b3 zg 26, bx bp ([a0, a1, a2, a3, a4, a5].map Value.bool) 163, bx br ([c0, c1, c2, c3, c4, c5].map Value.bool) 163] := H
          exact hK _ _ ⟨rfl, rfl, bp, br, _, _, rfl, rfl, rfl, hA, rfl, hC, H⟩
        · refine allocH H inf163' fun br w44 H => ?_
          refine ⟨H.box 0 rfl, ?_⟩
          refine reached_c (gm := gm) ⟨hG.1, hG.2.gr H.gr⟩ h6 hr4 fun w45 C g hC' hC => ?_
          obtain ⟨c0, c1, c2, c3, c4, c5, rfl⟩ := six_of hC'
          have H := H.step g
          refine ⟨H.box 0 rfl, ?_⟩
          refine storeH H 2 rfl sz163 rfl rfl rfl fun w46 H => ?_
          refine ⟨H.box 0 rfl, ?_⟩
          refine storeH H 3 rfl sz163 rfl rfl rfl fun w47 H => ?_
          refine ⟨H.box 0 rfl, ?_⟩
          have H : Apt w w47 [bx b1 [.int .i64 gm.nons, .int .i64 gm.toks, .slice Y gm.rules.length cy] 26, bx b3 zg 26, bx bp ([a0, a1, a2, a3, a4, a5].map Value.bool) 163, bx br ([c0, c1, c2, c3, c4, c5].map Value.bool) 163] := H
          exact hK _ _ ⟨rfl, rfl, bp, br, _, _, rfl, rfl, rfl, hA, rfl, hC, H⟩
      · refine allocH H inf163' fun br w48 H => ?_
        refine ⟨H.box 0 rfl, ?_⟩
        refine productive_c (gm := gm) ⟨hG.1, hG.2.gr H.gr⟩ h6 fun w49 A g hA' hA => ?_
        obtain ⟨a0, a1, a2, a3, a4, a5, rfl⟩ := six_of hA'
        have H := H.step g
        refine ⟨H.box 0 rfl, ?_⟩
        refine reached_c (gm := gm) ⟨hG.1, hG.2.gr H.gr⟩ h6 hr4 fun w50 C g hC' hC => ?_
        obtain ⟨c0, c1, c2, c3, c4, c5, rfl⟩ := six_of hC'
        have H := H.step g
        refine ⟨H.box 0 rfl, ?_⟩
        refine storeH H 2 rfl sz163 rfl rfl rfl fun w51 H => ?_
        refine ⟨H.box 0 rfl, ?_⟩
        refine storeH H 3 rfl sz163 rfl rfl rfl fun w52 H => ?_
        refine ⟨H.box 0 rfl, ?_⟩
        have H : Apt w w52 [bx b1 [.int .i64 gm.nons, .int .i64 gm.toks, .slice Y gm.rules.length cy] 26, bx b3 zg 26, bx bp ([a0, a1, a2, a3, a4, a5].map Value.bool) 163, bx br ([c0, c1, c2, c3, c4, c5].map Value.bool) 163] := H
        exact hK _ _ ⟨rfl, rfl, bp, br, _, _, rfl, rfl, rfl, hA, rfl, hC, H⟩
    · refine allocH H inf163' fun br w53 H => ?_
      refine ⟨H.box 0 rfl, ?_⟩
      refine ⟨?_, ?_⟩
      · refine productive_c (gm := gm) ⟨hG.1, hG.2.gr H.gr⟩ h6 fun w54 A g hA' hA => ?_
        obtain ⟨a0, a1, a2, a3, a4, a5, rfl⟩ := six_of hA'
        have H := H.step g
        refine ⟨H.box 0 rfl, ?_⟩
        refine ⟨?_, ?_⟩
        · refine reached_c (gm := gm) ⟨hG.1, hG.2.gr H.gr⟩ h6 hr4 fun w55 C g hC' hC => ?_
          obtain ⟨c0, c1, c2, c3, c4, c5, rfl⟩ := six_of hC'
          have H := H.step g
          refine ⟨H.box 0 rfl, ?_⟩
          refine allocH H inf163' fun bp w56 H => ?_
          refine ⟨H.box 0 rfl, ?_⟩
          refine storeH H 3 rfl sz163 rfl rfl rfl fun w57 H => ?_
          refine ⟨H.box 0 rfl, ?_⟩
          refine storeH H 2 rfl sz163 rfl rfl rfl fun w58 H => ?_
          refine ⟨H.box 0 rfl, ?_⟩
          have H : Apt w w58 [bx b1 [.int .i64 gm.nons, .int .i64 gm.toks, .slice Y gm.rules.length cy] 26, bx b3 zg 26, bx br ([c0, c1, c2, c3, c4, c5].map Value.bool) 163, bx bp ([a0, a1, a2, a3, a4, a5].map Value.bool) 163] := H
          have H := H.perm (List.Perm.cons _ (List.Perm.cons _ (List.Perm.swap _ _ _)))
          exact hK _ _ ⟨rfl, rfl, bp, br, _, _, rfl, rfl, rfl, hA, rfl, hC, H⟩
        · refine allocH H inf163' fun bp w59 H => ?_
          refine ⟨H.box 0 rfl, ?_⟩
          refine reached_c (gm := gm) ⟨hG.1, hG.2.gr H.gr⟩ h6 hr4 fun w60 C g hC' hC => ?_
          obtain ⟨c0, c1, c2, c3, c4, c5, rfl⟩ := six_of hC'
          have H := H.step g
          refine ⟨H.box 0 rfl, ?_⟩
          refine storeH H 3 rfl sz163 rfl rfl rfl fun w61 H => ?_
          refine ⟨H.box 0 rfl, ?_⟩
          refine storeH H 2 rfl sz163 rfl rfl rfl fun w62 H => ?_
          refine ⟨H.box 0 rfl, ?_⟩
          have H : Apt w w62 [bx b1 [.int .i64 gm.nons, .int .i64 gm.toks, .slice Y gm.rules.length cy] 26, bx b3 zg 26, bx br ([c0, c1, c2, c3, c4, c5].map Value.bool) 163, bx bp ([a0, a1, a2, a3, a4, a5].map Value.bool) 163] := H
          have H := H.perm (List.Perm.cons _ (List.Perm.cons _ (List.Perm.swap _ _ _)))
          exact hK _ _ ⟨rfl, rfl, bp, br, _, _, rfl, rfl, rfl, hA, rfl, hC, H⟩
      · refine allocH H inf163' fun bp w63 H => ?_
        refine ⟨H.box 0 rfl, ?_⟩
        refine productive_c (gm := gm) ⟨hG.1, hG.2.gr H.gr⟩ h6 fun w64 A g hA' hA => ?_
        obtain ⟨a0, a1, a2, a3, a4, a5, rfl⟩ := six_of hA'
        have H := H.step g
        refine ⟨H.box 0 rfl, ?_⟩
        refine reached_c (gm := gm) ⟨hG.1, hG.2.gr H.gr⟩ h6 hr4 fun w65 C g hC' hC => ?_
        obtain ⟨c0, c1, c2, c3, c4, c5, rfl⟩ := six_of hC'
        have H := H.step g
        refine ⟨H.box 0 rfl, ?_⟩
        refine storeH H 3 rfl sz163 rfl rfl rfl fun w66 H => ?_
        refine ⟨H.box 0 rfl, ?_⟩
        refine storeH H 2 rfl sz163 rfl rfl rfl fun w67 H => ?_
        refine ⟨H.box 0 rfl, ?_⟩
        have H : Apt w w67 [bx b1 [.int .i64 gm.nons, .int .i64 gm.toks, .slice Y gm.rules.length cy] 26, bx b3 zg 26, bx br ([c0, c1, c2, c3, c4, c5].map Value.bool) 163, bx bp ([a0, a1, a2, a3, a4, a5].map Value.bool) 163] := H
        have H := H.perm (List.Perm.cons _ (List.Perm.cons _ (List.Perm.swap _ _ _)))
        exact hK _ _ ⟨rfl, rfl, bp, br, _, _, rfl, rfl, rfl, hA, rfl, hC, H⟩
  clear H
  rintro f w3 ⟨f1, f2, bp, br, A, C, f3, f4, hA', hA, hC', hC, H⟩
  simp only [f1, f2, f3, f4]
  rw [ldB_agg agg26 sz26 rfl (H.box 0 rfl)]
  refine copyGrammar_c (gvK (gm := gm) ⟨hG.1, hG.2.gr H.gr⟩) hg fun v w4 g o => ?_
  obtain ⟨X, c, ps, rfl, o⟩ := o
  obtain ⟨cells, hrow, hcells⟩ := o.cellsG (by decide)
  have H := H.addGow g hrow hcells
  generalize (fun q => w3.heap.size ≤ q ∧ q < w4.heap.size) = ft at H
  have H := H.perm (List.perm_append_singleton _ _)
  refine allocH H inf26 fun b7 w5 H => ?_
  refine storeH H 5 rfl sz26 rfl rfl rfl fun w6 H => ?_
  have H : Apt w w6 [gth ft X c gm.rules, bx b1 [.int .i64 gm.nons, .int .i64 gm.toks, .slice Y gm.rules.length cy] 26, bx b3 zg 26, bx bp (A.map Value.bool) 163, bx br (C.map Value.bool) 163, bx b7 [.int .i64 gm.nons, .int .i64 gm.toks, .slice X gm.rules.length c] 26] := H
  simp only [bin_add, bin_sub, bin_mul, bin_eql, bin_neq, bin_lss, bin_leq, bin_gtr, bin_geq, un_not, un_neg, zq4, zq3, zq1, zq2, zq0, cond_true', cond_false', zq14, zq15, zq16, zq17, zq13, zq10, zq12, zq11, zq7, zq5, zq6, zq9, zq8, resK_nil, resK_tmp, ite_T, ite_F, upd_at, add_plain, add_zero', Nat.reduceEqDiff, fa8_0, fa8_1, fa8_2, fa8_3, fa14_0, fa14_1, fa19_0, len22, len24, fa26_0, fa26_1, fa26_2, len27, fa33_0, fa33_1, len35, fa77_0, fa77_1, fa88_0, fa88_1, fa88_2, fa88_3, fa88_4, fa88_5, fa114_0, fa114_1, fa114_2, fa124_0, fa124_1, len134, len136, len154, fa156_0, fa156_1, fa156_2, fa156_3, fa156_4, fa156_5, fa156_6, fa184_0, fa184_1, fa200_0, fa200_1, fa200_2, fa200_3, fa215_0, fa215_1, fa215_2, fa215_3, fa215_4, len218, len271, fa274_0, fa274_1, fa274_2, fa303_0, fa303_1, fa303_2, fa303_3, fa314_0, fa314_1, fa314_2, fa314_3, fa314_4, fa314_5, fa314_6, fa314_7, fa314_8, fa314_9, fa314_10]
  rw [ldB24 (H.box 5 rfl) rfl]
  rw [makeFunc_]
  refine deleteFunc_c (p := dropA C A) (Q := fun w' => Box w' br (C.map Value.bool) 163 ∧ Box w' bp (A.map Value.bool) 163) H (fun w' cur H => ⟨H.box 4 rfl, H.box 3 rfl⟩) (fun w1 q r hr Z d k hZ hk => callVc (caps := [ptrv br, ptrv bp]) (dropA_c hC' hA' q.1 q.2 (h6 r hr).1 (h6 r hr).2 hZ hk)) fun w7 H => ?_
  have hsub : ∀ r ∈ (gm.rules.filter fun r => !dropA C A r), r ∈ gm.rules := fun r hr => (List.mem_filter.1 hr).1
  have hp := fun r hr => dropA_iff (rs := gm.rules) (fun r hr => (h6 r hr).1.1) hA hC (r := r) hr
  have two := fun q hq => useful_two (rs := gm.rules) (p := fun r => !dropA C A r) (q := q) hp (fun r hr => (h6 r hr).1.1) hq
  generalize (gm.rules.filter fun r => !dropA C A r) = rs1 at *
  refine storeH H 5 rfl sz24 rfl rfl rfl fun w8 H => ?_
  have H : Apt w w8 [gth ft X c rs1, bx b1 [.int .i64 gm.nons, .int .i64 gm.toks, .slice Y gm.rules.length cy] 26, bx b3 zg 26, bx bp (A.map Value.bool) 163, bx br (C.map Value.bool) 163, bx b7 [.int .i64 gm.nons, .int .i64 gm.toks, .slice X rs1.length c] 26] := H
  rw [ldB_agg agg26 sz26 rfl (H.box 5 rfl)]
  refine reached_c (gm := ⟨gm.nons, gm.toks, rs1⟩) (gowK (H.gow 0 rfl)) (fun r hr => h6 r (hsub r hr)) (fun r hr => hr4 r (hsub r hr)) fun w9 C2 g hC2' hC2 => ?_
  have H := H.step g
  obtain ⟨a0, a1, a2, a3, a4, a5, rfl⟩ := six_of hC2'
  obtain ⟨c0, c1, c2, c3, c4, c5, rfl⟩ := six_of hC'
  refine storeH H 4 rfl sz163 rfl rfl rfl fun w10 H => ?_
  have H : Apt w w10 [gth ft X c rs1, bx b1 [.int .i64 gm.nons, .int .i64 gm.toks, .slice Y gm.rules.length cy] 26, bx b3 zg 26, bx bp (A.map Value.bool) 163, bx br ([a0, a1, a2, a3, a4, a5].map Value.bool) 163, bx b7 [.int .i64 gm.nons, .int .i64 gm.toks, .slice X rs1.length c] 26] := H
  rw [ldB24 (H.box 5 rfl) rfl]
  rw [makeFunc_]
  refine deleteFunc_c (p := dropB [a0, a1, a2, a3, a4, a5]) (Q := fun w' => Box w' br ([a0, a1, a2, a3, a4, a5].map Value.bool) 163) H (fun w' cur H => H.box 4 rfl) (fun w1 q r hr Z d k hZ hk => callVc (caps := [ptrv br]) (dropB_c rfl q (h6 r (hsub r hr)).1 hk)) fun w11 H => ?_
  have e := two (fun r => !dropB [a0, a1, a2, a3, a4, a5] r) fun r => by
    unfold dropB
    rw [Bool.not_not]
    exact hC2 _
  rw [e] at H ⊢
  refine storeH H 5 rfl sz24 rfl rfl rfl fun w12 H => ?_
  have H : Apt w w12 [gth ft X c (usefulR gm.rules), bx b1 [.int .i64 gm.nons, .int .i64 gm.toks, .slice Y gm.rules.length cy] 26, bx b3 zg 26, bx bp (A.map Value.bool) 163, bx br ([a0, a1, a2, a3, a4, a5].map Value.bool) 163, bx b7 [.int .i64 gm.nons, .int .i64 gm.toks, .slice X (usefulR gm.rules).length c] 26] := H
  rw [ldB_agg agg26 sz26 rfl (H.box 5 rfl)]
  refine storeH H 2 rfl sz26 rfl rfl rfl fun w13 H => ?_
  have H : Apt w w13 [gth ft X c (usefulR gm.rules), bx b1 [.int .i64 gm.nons, .int .i64 gm.toks, .slice Y gm.rules.length cy] 26, bx b3 [.int .i64 gm.nons, .int .i64 gm.toks, .slice X (usefulR gm.rules).length c] 26, bx bp (A.map Value.bool) 163, bx br ([a0, a1, a2, a3, a4, a5].map Value.bool) 163, bx b7 [.int .i64 gm.nons, .int .i64 gm.toks, .slice X (usefulR gm.rules).length c] 26] := H
  rw [rd_loadVar, ldB_agg agg26 sz26 rfl (H.box 2 rfl)]
  refine hk w13 X c H.gr (gowK (H.gow 0 rfl)).1 ((H.gow 0 rfl).readF.mono fun q hq => ?_)
  have hq' : blk X = some q ∨ ft q := by
    rcases hq with h | h
    · exact .inl h
    · exact .inr (by first | exact h | exact h.1)
  exact ⟨(H.ok 0 _ rfl).lo q hq', (H.ok 0 _ rfl).hi q hq'⟩
end
end Go.Proofs.Ytegcjkhebecgbaa

/- Contracts: UsefulOf and IsUseful. -/
set_option linter.unusedVariables false
set_option linter.unusedSimpArgs false
set_option maxRecDepth 100000
namespace Go.Sh
open Go
noncomputable def isUsefulV (gm : Gram) : Bool × Bool := if goodG gm = true then (decide ((usefulR gm.rules).length = gm.rules.length), true) else (false, false)
end Go.Sh
namespace Go.Proofs.Ytegcjkhebecgbaa
open Go Go.Sh Go.RowKit
section
variable {w : World} {Y : Option Addr} {cy : Nat} {gm : Gram} {k : Value → World → Prop}
theorem implUsefulOf_c (hG : kG Y cy gm.rules w) (hk : ∀ w' X c, Gr w w' → (usefulV gm).1.rules.length ≤ c → RulesF (fun q => w.heap.size ≤ q ∧ q < w'.heap.size) w' X (usefulV gm).1.rules → k (.tuple #[grv (usefulV gm).1 X c, .bool (usefulV gm).2]) w') :
    CallK Try.prog 63 [grv gm Y cy] k w := by
  refine enter63 ?_
  unfold S63
  have H := (Kn.nil w).addG hG.1 hG.2
  refine do_box fun b1 w1 g1 hb1 B1 => ?_
  have H := (H.step g1).addB B1
  refine do_alloc_of inf26 fun b3 w2 g2 hb3 B3 => ?_
  have H := (H.step g2).addB B3
  simp only [List.cons_append, List.nil_append] at H
  have hsz : w.heap.size ≤ b3 := by have := g1.size; omega
  rw [ldB_agg agg26 sz26 rfl (H.get 2 rfl)]
  refine isGrammar_c (gvK (H.get 1 rfl)) fun w3 g => ?_
  have H := H.step g
  unfold usefulV at hk
  cases hg : goodG gm
  · simp only [Bool.not_false, bin_add, bin_sub, bin_mul, bin_eql, bin_neq, bin_lss, bin_leq, bin_gtr, bin_geq, un_not, un_neg, zq4, zq3, zq1, zq2, zq0, cond_true', cond_false', zq14, zq15, zq16, zq17, zq13, zq10, zq12, zq11, zq7, zq5, zq6, zq9, zq8, resK_nil, resK_tmp, ite_T, ite_F, upd_at, add_plain, add_zero', Nat.reduceEqDiff, fa8_0, fa8_1, fa8_2, fa8_3, fa14_0, fa14_1, fa19_0, len22, len24, fa26_0, fa26_1, fa26_2, len27, fa33_0, fa33_1, len35, fa77_0, fa77_1, fa88_0, fa88_1, fa88_2, fa88_3, fa88_4, fa88_5, fa114_0, fa114_1, fa114_2, fa124_0, fa124_1, len134, len136, len154, fa156_0, fa156_1, fa156_2, fa156_3, fa156_4, fa156_5, fa156_6, fa184_0, fa184_1, fa200_0, fa200_1, fa200_2, fa200_3, fa215_0, fa215_1, fa215_2, fa215_3, fa215_4, len218, len271, fa274_0, fa274_1, fa274_2, fa303_0, fa303_1, fa303_2, fa303_3, fa314_0, fa314_1, fa314_2, fa314_3, fa314_4, fa314_5, fa314_6, fa314_7, fa314_8, fa314_9, fa314_10]
    rw [hg, if_neg Bool.false_ne_true] at hk
    rw [bd26 (cells := #[.int .i64 0, .int .i64 0, .slice none 0 0]) rfl]
    refine retG (gm := ⟨0, 0, []⟩) (F := fun _ => False) (X := none) (c := 0) (H.get 3 rfl) rfl (H.get 0 rfl) hsz ⟨by simp, fun h => by simp at h, fun h => by simp at h, fun j hj => by simp at hj⟩ (fun q hq => hq.elim) fun w4 g4 _ hf => ?_
    exact hk w4 none 0 g4 (Nat.le_refl _) (hf.mono fun q hq => hq.elim)
  rw [hg, if_pos rfl] at hk
  simp only [Bool.not_true, bin_add, bin_sub, bin_mul, bin_eql, bin_neq, bin_lss, bin_leq, bin_gtr, bin_geq, un_not, un_neg, zq4, zq3, zq1, zq2, zq0, cond_true', cond_false', zq14, zq15, zq16, zq17, zq13, zq10, zq12, zq11, zq7, zq5, zq6, zq9, zq8, resK_nil, resK_tmp, ite_T, ite_F, upd_at, add_plain, add_zero', Nat.reduceEqDiff, fa8_0, fa8_1, fa8_2, fa8_3, fa14_0, fa14_1, fa19_0, len22, len24, fa26_0, fa26_1, fa26_2, len27, fa33_0, fa33_1, len35, fa77_0, fa77_1, fa88_0, fa88_1, fa88_2, fa88_3, fa88_4, fa88_5, fa114_0, fa114_1, fa114_2, fa124_0, fa124_1, len134, len136, len154, fa156_0, fa156_1, fa156_2, fa156_3, fa156_4, fa156_5, fa156_6, fa184_0, fa184_1, fa200_0, fa200_1, fa200_2, fa200_3, fa215_0, fa215_1, fa215_2, fa215_3, fa215_4, len218, len271, fa274_0, fa274_1, fa274_2, fa303_0, fa303_1, fa303_2, fa303_3, fa314_0, fa314_1, fa314_2, fa314_3, fa314_4, fa314_5, fa314_6, fa314_7, fa314_8, fa314_9, fa314_10]
  rw [ldB_agg agg26 sz26 rfl (H.get 2 rfl)]
  refine useful_c (H.get 1 rfl) hg fun w4 X c g hc hR => ?_
  have hb3' : b3 < w3.heap.size := (H.get 3 rfl).lt
  have H := H.step g
  have hw3 : w.heap.size ≤ w3.heap.size := (H.get 0 rfl |> fun _ => by have := g1.size; have := g2.size; have := ‹Gr w2 w3›.size; omega)
  refine retG (gm := usefulG gm) (c := c) (H.get 3 rfl) rfl (H.get 0 rfl) hsz hR (fun q hq e => by omega) fun w5 g5 hs hf => ?_
  exact hk w5 X c g5 hc (hf.mono fun q hq => by omega)
theorem implIsUseful_c (hG : kG Y cy gm.rules w) (hk : ∀ w', Gr w w' → k (.tuple #[.bool (isUsefulV gm).1, .bool (isUsefulV gm).2]) w') :
    CallK Try.prog 65 [grv gm Y cy] k w := by
  refine enter65 ?_
  unfold S65
  refine do_box fun b1 w1 g1 hb1 B1 => ?_
  rw [ldB_agg agg26 sz26 rfl B1]
  refine isGrammar_c (gvK (gm := gm) ⟨hG.1, hG.2.gr g1⟩) fun w2 g2 => ?_
  have g2' := gr_trans g1 g2
  unfold isUsefulV at hk
  cases hg : goodG gm
  · simp only [Bool.not_false, bin_add, bin_sub, bin_mul, bin_eql, bin_neq, bin_lss, bin_leq, bin_gtr, bin_geq, un_not, un_neg, zq4, zq3, zq1, zq2, zq0, cond_true', cond_false', zq14, zq15, zq16, zq17, zq13, zq10, zq12, zq11, zq7, zq5, zq6, zq9, zq8, resK_nil, resK_tmp, ite_T, ite_F, upd_at, add_plain, add_zero', Nat.reduceEqDiff, fa8_0, fa8_1, fa8_2, fa8_3, fa14_0, fa14_1, fa19_0, len22, len24, fa26_0, fa26_1, fa26_2, len27, fa33_0, fa33_1, len35, fa77_0, fa77_1, fa88_0, fa88_1, fa88_2, fa88_3, fa88_4, fa88_5, fa114_0, fa114_1, fa114_2, fa124_0, fa124_1, len134, len136, len154, fa156_0, fa156_1, fa156_2, fa156_3, fa156_4, fa156_5, fa156_6, fa184_0, fa184_1, fa200_0, fa200_1, fa200_2, fa200_3, fa215_0, fa215_1, fa215_2, fa215_3, fa215_4, len218, len271, fa274_0, fa274_1, fa274_2, fa303_0, fa303_1, fa303_2, fa303_3, fa314_0, fa314_1, fa314_2, fa314_3, fa314_4, fa314_5, fa314_6, fa314_7, fa314_8, fa314_9, fa314_10]
    rw [hg, if_neg Bool.false_ne_true] at hk
    exact hk w2 g2'
  rw [hg, if_pos rfl] at hk
  simp only [Bool.not_true, bin_add, bin_sub, bin_mul, bin_eql, bin_neq, bin_lss, bin_leq, bin_gtr, bin_geq, un_not, un_neg, zq4, zq3, zq1, zq2, zq0, cond_true', cond_false', zq14, zq15, zq16, zq17, zq13, zq10, zq12, zq11, zq7, zq5, zq6, zq9, zq8, resK_nil, resK_tmp, ite_T, ite_F, upd_at, add_plain, add_zero', Nat.reduceEqDiff, fa8_0, fa8_1, fa8_2, fa8_3, fa14_0, fa14_1, fa19_0, len22, len24, fa26_0, fa26_1, fa26_2, len27, fa33_0, fa33_1, len35, fa77_0, fa77_1, fa88_0, fa88_1, fa88_2, fa88_3, fa88_4, fa88_5, fa114_0, fa114_1, fa114_2, fa124_0, fa124_1, len134, len136, len154, fa156_0, fa156_1, fa156_2, fa156_3, fa156_4, fa156_5, fa156_6, fa184_0, fa184_1, fa200_0, fa200_1, fa200_2, fa200_3, fa215_0, fa215_1, fa215_2, fa215_3, fa215_4, len218, len271, fa274_0, fa274_1, fa274_2, fa303_0, fa303_1, fa303_2, fa303_3, fa314_0, fa314_1, fa314_2, fa314_3, fa314_4, fa314_5, fa314_6, fa314_7, fa314_8, fa314_9, fa314_10]
  have B1 : Box w2.drew b1 [.int .i64 gm.nons, .int .i64 gm.toks, .slice Y gm.rules.length cy] 26 := (B1.gr g2).gr (gr_drew w2)
  refine ⟨fun w' => Box w' b1 [.int .i64 gm.nons, .int .i64 gm.toks, .slice Y gm.rules.length cy] 26, B1, ?_⟩
  refine rdi (rdS26 rfl fun w' h => h) ?_
  refine rdi (ldS24 (v := .slice Y gm.rules.length cy) fun w' h => (Box.cell h 2).trans rfl) ?_
  simp only [bin_add, bin_sub, bin_mul, bin_eql, bin_neq, bin_lss, bin_leq, bin_gtr, bin_geq, un_not, un_neg, zq4, zq3, zq1, zq2, zq0, cond_true', cond_false', zq14, zq15, zq16, zq17, zq13, zq10, zq12, zq11, zq7, zq5, zq6, zq9, zq8, resK_nil, resK_tmp, ite_T, ite_F, upd_at, add_plain, add_zero', Nat.reduceEqDiff, fa8_0, fa8_1, fa8_2, fa8_3, fa14_0, fa14_1, fa19_0, len22, len24, fa26_0, fa26_1, fa26_2, len27, fa33_0, fa33_1, len35, fa77_0, fa77_1, fa88_0, fa88_1, fa88_2, fa88_3, fa88_4, fa88_5, fa114_0, fa114_1, fa114_2, fa124_0, fa124_1, len134, len136, len154, fa156_0, fa156_1, fa156_2, fa156_3, fa156_4, fa156_5, fa156_6, fa184_0, fa184_1, fa200_0, fa200_1, fa200_2, fa200_3, fa215_0, fa215_1, fa215_2, fa215_3, fa215_4, len218, len271, fa274_0, fa274_1, fa274_2, fa303_0, fa303_1, fa303_2, fa303_3, fa314_0, fa314_1, fa314_2, fa314_3, fa314_4, fa314_5, fa314_6, fa314_7, fa314_8, fa314_9, fa314_10]
  have g3 := gr_trans g2' (gr_drew w2)
  refine useful_c (gm := gm) ⟨hG.1, hG.2.gr g3⟩ hg fun w4 X c g4 hc hR => ?_
  refine ⟨B1.gr g4, ?_⟩
  rw [fd26_2]
  simp only [bin_add, bin_sub, bin_mul, bin_eql, bin_neq, bin_lss, bin_leq, bin_gtr, bin_geq, un_not, un_neg, zq4, zq3, zq1, zq2, zq0, cond_true', cond_false', zq14, zq15, zq16, zq17, zq13, zq10, zq12, zq11, zq7, zq5, zq6, zq9, zq8, resK_nil, resK_tmp, ite_T, ite_F, upd_at, add_plain, add_zero', Nat.reduceEqDiff, fa8_0, fa8_1, fa8_2, fa8_3, fa14_0, fa14_1, fa19_0, len22, len24, fa26_0, fa26_1, fa26_2, len27, fa33_0, fa33_1, len35, fa77_0, fa77_1, fa88_0, fa88_1, fa88_2, fa88_3, fa88_4, fa88_5, fa114_0, fa114_1, fa114_2, fa124_0, fa124_1, len134, len136, len154, fa156_0, fa156_1, fa156_2, fa156_3, fa156_4, fa156_5, fa156_6, fa184_0, fa184_1, fa200_0, fa200_1, fa200_2, fa200_3, fa215_0, fa215_1, fa215_2, fa215_3, fa215_4, len218, len271, fa274_0, fa274_1, fa274_2, fa303_0, fa303_1, fa303_2, fa303_3, fa314_0, fa314_1, fa314_2, fa314_3, fa314_4, fa314_5, fa314_6, fa314_7, fa314_8, fa314_9, fa314_10]
  have e : decide (((usefulR gm.rules).length : Int) = (gm.rules.length : Int)) = decide ((usefulR gm.rules).length = gm.rules.length) := by
    rw [Bool.eq_iff_iff, decide_eq_true_eq, decide_eq_true_eq]
    omega
  rw [e]
  exact hk w4 (gr_trans g3 g4)
theorem specIsUseful_c (hG : kG Y cy gm.rules w) (hk : ∀ w', Gr w w' → k (.tuple #[.bool (isUsefulV gm).1, .bool (isUsefulV gm).2]) w') :
    CallK Try.prog 68 [grv gm Y cy] k w := by
  refine enter68 ?_
  unfold S68
  refine do_box fun b1 w1 g1 hb1 B1 => ?_
  rw [ldB_agg agg26 sz26 rfl B1]
  refine goodGrammar_c (gvK (gm := gm) ⟨hG.1, hG.2.gr g1⟩) fun w2 g2 => ?_
  have g2' := gr_trans g1 g2
  unfold isUsefulV at hk
  cases hg : goodG gm
  · simp only [Bool.not_false, bin_add, bin_sub, bin_mul, bin_eql, bin_neq, bin_lss, bin_leq, bin_gtr, bin_geq, un_not, un_neg, zq4, zq3, zq1, zq2, zq0, cond_true', cond_false', zq14, zq15, zq16, zq17, zq13, zq10, zq12, zq11, zq7, zq5, zq6, zq9, zq8, resK_nil, resK_tmp, ite_T, ite_F, upd_at, add_plain, add_zero', Nat.reduceEqDiff, fa8_0, fa8_1, fa8_2, fa8_3, fa14_0, fa14_1, fa19_0, len22, len24, fa26_0, fa26_1, fa26_2, len27, fa33_0, fa33_1, len35, fa77_0, fa77_1, fa88_0, fa88_1, fa88_2, fa88_3, fa88_4, fa88_5, fa114_0, fa114_1, fa114_2, fa124_0, fa124_1, len134, len136, len154, fa156_0, fa156_1, fa156_2, fa156_3, fa156_4, fa156_5, fa156_6, fa184_0, fa184_1, fa200_0, fa200_1, fa200_2, fa200_3, fa215_0, fa215_1, fa215_2, fa215_3, fa215_4, len218, len271, fa274_0, fa274_1, fa274_2, fa303_0, fa303_1, fa303_2, fa303_3, fa314_0, fa314_1, fa314_2, fa314_3, fa314_4, fa314_5, fa314_6, fa314_7, fa314_8, fa314_9, fa314_10]
    rw [hg, if_neg Bool.false_ne_true] at hk
    exact hk w2 g2'
  rw [hg, if_pos rfl] at hk
  simp only [Bool.not_true, bin_add, bin_sub, bin_mul, bin_eql, bin_neq, bin_lss, bin_leq, bin_gtr, bin_geq, un_not, un_neg, zq4, zq3, zq1, zq2, zq0, cond_true', cond_false', zq14, zq15, zq16, zq17, zq13, zq10, zq12, zq11, zq7, zq5, zq6, zq9, zq8, resK_nil, resK_tmp, ite_T, ite_F, upd_at, add_plain, add_zero', Nat.reduceEqDiff, fa8_0, fa8_1, fa8_2, fa8_3, fa14_0, fa14_1, fa19_0, len22, len24, fa26_0, fa26_1, fa26_2, len27, fa33_0, fa33_1, len35, fa77_0, fa77_1, fa88_0, fa88_1, fa88_2, fa88_3, fa88_4, fa88_5, fa114_0, fa114_1, fa114_2, fa124_0, fa124_1, len134, len136, len154, fa156_0, fa156_1, fa156_2, fa156_3, fa156_4, fa156_5, fa156_6, fa184_0, fa184_1, fa200_0, fa200_1, fa200_2, fa200_3, fa215_0, fa215_1, fa215_2, fa215_3, fa215_4, len218, len271, fa274_0, fa274_1, fa274_2, fa303_0, fa303_1, fa303_2, fa303_3, fa314_0, fa314_1, fa314_2, fa314_3, fa314_4, fa314_5, fa314_6, fa314_7, fa314_8, fa314_9, fa314_10]
  have B1 : Box w2.drew b1 [.int .i64 gm.nons, .int .i64 gm.toks, .slice Y gm.rules.length cy] 26 := (B1.gr g2).gr (gr_drew w2)
  refine ⟨fun w' => Box w' b1 [.int .i64 gm.nons, .int .i64 gm.toks, .slice Y gm.rules.length cy] 26, B1, ?_⟩
  refine rdi (rdS26 rfl fun w' h => h) ?_
  refine rdi (ldS24 (v := .slice Y gm.rules.length cy) fun w' h => (Box.cell h 2).trans rfl) ?_
  simp only [bin_add, bin_sub, bin_mul, bin_eql, bin_neq, bin_lss, bin_leq, bin_gtr, bin_geq, un_not, un_neg, zq4, zq3, zq1, zq2, zq0, cond_true', cond_false', zq14, zq15, zq16, zq17, zq13, zq10, zq12, zq11, zq7, zq5, zq6, zq9, zq8, resK_nil, resK_tmp, ite_T, ite_F, upd_at, add_plain, add_zero', Nat.reduceEqDiff, fa8_0, fa8_1, fa8_2, fa8_3, fa14_0, fa14_1, fa19_0, len22, len24, fa26_0, fa26_1, fa26_2, len27, fa33_0, fa33_1, len35, fa77_0, fa77_1, fa88_0, fa88_1, fa88_2, fa88_3, fa88_4, fa88_5, fa114_0, fa114_1, fa114_2, fa124_0, fa124_1, len134, len136, len154, fa156_0, fa156_1, fa156_2, fa156_3, fa156_4, fa156_5, fa156_6, fa184_0, fa184_1, fa200_0, fa200_1, fa200_2, fa200_3, fa215_0, fa215_1, fa215_2, fa215_3, fa215_4, len218, len271, fa274_0, fa274_1, fa274_2, fa303_0, fa303_1, fa303_2, fa303_3, fa314_0, fa314_1, fa314_2, fa314_3, fa314_4, fa314_5, fa314_6, fa314_7, fa314_8, fa314_9, fa314_10]
  have g3 := gr_trans g2' (gr_drew w2)
  refine l3Useful_c (gm := gm) ⟨hG.1, hG.2.gr g3⟩ hg fun w4 X c g4 hc hR => ?_
  refine ⟨B1.gr g4, ?_⟩
  rw [fd26_2]
  simp only [bin_add, bin_sub, bin_mul, bin_eql, bin_neq, bin_lss, bin_leq, bin_gtr, bin_geq, un_not, un_neg, zq4, zq3, zq1, zq2, zq0, cond_true', cond_false', zq14, zq15, zq16, zq17, zq13, zq10, zq12, zq11, zq7, zq5, zq6, zq9, zq8, resK_nil, resK_tmp, ite_T, ite_F, upd_at, add_plain, add_zero', Nat.reduceEqDiff, fa8_0, fa8_1, fa8_2, fa8_3, fa14_0, fa14_1, fa19_0, len22, len24, fa26_0, fa26_1, fa26_2, len27, fa33_0, fa33_1, len35, fa77_0, fa77_1, fa88_0, fa88_1, fa88_2, fa88_3, fa88_4, fa88_5, fa114_0, fa114_1, fa114_2, fa124_0, fa124_1, len134, len136, len154, fa156_0, fa156_1, fa156_2, fa156_3, fa156_4, fa156_5, fa156_6, fa184_0, fa184_1, fa200_0, fa200_1, fa200_2, fa200_3, fa215_0, fa215_1, fa215_2, fa215_3, fa215_4, len218, len271, fa274_0, fa274_1, fa274_2, fa303_0, fa303_1, fa303_2, fa303_3, fa314_0, fa314_1, fa314_2, fa314_3, fa314_4, fa314_5, fa314_6, fa314_7, fa314_8, fa314_9, fa314_10]
  have e : decide (((usefulR gm.rules).length : Int) = (gm.rules.length : Int)) = decide ((usefulR gm.rules).length = gm.rules.length) := by
    rw [Bool.eq_iff_iff, decide_eq_true_eq, decide_eq_true_eq]
    omega
  rw [e]
  exact hk w4 (gr_trans g3 g4)
end
end Go.Proofs.Ytegcjkhebecgbaa

/- Contracts: two grammars are drawn; DrawUnionOf, DrawGoodGrammar, DrawStarOf. -/
set_option linter.unusedVariables false
set_option linter.unusedSimpArgs false
set_option maxRecDepth 100000
namespace Go.Proofs.Ytegcjkhebecgbaa
open Go Go.Sh Go.RowKit
/-- Bounds of a grammar that is drawn somehow. -/
structure Dr (gm : Gram) : Prop where
  nons : 0 ≤ gm.nons ∧ gm.nons ≤ 1000
  toks : 0 ≤ gm.toks ∧ gm.toks ≤ 1000
theorem Dr.of {m : Nat} {gm : Gram} (h : Drawn m gm) : Dr gm := ⟨h.nons, h.toks⟩
theorem Dr.useful {gm : Gram} (h : Dr gm) : Dr (usefulV gm).1 := by
  unfold usefulV
  split
  · exact ⟨h.nons, h.toks⟩
  · exact ⟨by simp, by simp⟩
section
variable {w0 w : World} {E : List Thing} {bc N cap : Nat} {C : Option Addr} {bs : List Int} {k : Value → World → Prop}
theorem drawGood_c (hC : Byts w C bs) (hk : ∀ w' gm ft Y cy, Drawn 101 gm → Apt w w' [gth ft Y cy gm.rules] → k (grv gm Y cy) w') :
    CallK Try.prog 173 [.slice C bs.length cap] k w := by
  refine enter173 ?_
  unfold S173
  refine draw0 fun b1 b4 w1 H => ?_
  refine any_c H hC (by omega) fun w2 gm ft Y cy hd H => ?_
  refine storeH H 2 rfl sz26 rfl rfl rfl fun w3 H => ?_
  have H : Apt w w3 [cur b4 (.slice C bs.length cap) (0 + 600), gth ft Y cy gm.rules, bx b1 [.int .i64 gm.nons, .int .i64 gm.toks, .slice Y gm.rules.length cy] 26] := H
  rw [rd_loadVar, ldB_agg agg26 sz26 rfl (H.box 2 rfl)]
  have H := (H.erase 2).erase 0
  simp only [List.eraseIdx_cons_zero, List.eraseIdx_cons_succ] at H
  exact hk w3 gm ft Y cy hd H
end
end Go.Proofs.Ytegcjkhebecgbaa

/- Contract: DrawIsUseful. -/
set_option linter.unusedVariables false
set_option linter.unusedSimpArgs false
set_option maxRecDepth 100000
namespace Go.Proofs.Ytegcjkhebecgbaa
open Go Go.Sh Go.RowKit
section
variable {w : World} {C : Option Addr} {cap : Nat} {bs : List Int} {k : Value → World → Prop}
set_option maxHeartbeats 3200000 in
theorem drawIsUseful_c (hC : Byts w C bs) (hk : ∀ w' gm Y cy, Gr w w' → kG Y cy gm.rules w' → k (grv gm Y cy) w') :
    CallK Try.prog 67 [.slice C bs.length cap] k w := by
  refine enter67 ?_
  unfold S67
  have H := Apt.nil w
  refine allocH H inf26 fun b1 w1 H => ?_
  refine drawGood_c (hC.gr H.gr) fun w2 gm ft Y cy hd A => ?_
  have H := H.append A
  simp only [List.nil_append, List.cons_append] at H
  have hc1 := (gowK (H.gow 1 rfl)).1
  have H := H.toRead 1 rfl
  simp only [List.set_cons_zero, List.set_cons_succ] at H
  generalize (fun q => blk Y = some q ∨ ft q) = ft1 at H
  refine allocH H inf26 fun b5 w3 H => ?_
  refine storeH H 2 rfl sz26 rfl rfl rfl fun w4 H => ?_
  have H : Apt w w4 [bx b1 zg 26, rdr ft1 Y gm.rules, bx b5 [.int .i64 gm.nons, .int .i64 gm.toks, .slice Y gm.rules.length cy] 26] := H
  refine rdi (bd114 (cells := #[.slice C bs.length cap, .int .i64 0, .int .u64 0]) rfl) ?_
  refine boxH H fun b9 w5 H => ?_
  simp only [List.nil_append, List.cons_append] at H
  have H := H.shutCur (N := 0) (tc := TC) (bc := b9) (cv := .slice C bs.length cap) (a := 0) (s := 0) 3 rfl (by omega) (by omega)
  simp only [List.set_cons_succ, List.set_cons_zero] at H
  rw [ldB_agg agg26 sz26 rfl (H.box 2 rfl)]
  refine specUsefulOf_c (gm := gm) ⟨hc1, (H.rdr 1 rfl).mono fun _ _ => trivial⟩ fun w6 X c g hc2 hR => ?_
  have H := H.addRead g hR
  generalize (fun q => w5.heap.size ≤ q ∧ q < w6.heap.size) = ft2 at H
  generalize (usefulV gm).1 = u at *
  simp only [List.nil_append, List.cons_append] at H
  simp only [bin_add, bin_sub, bin_mul, bin_eql, bin_neq, bin_lss, bin_leq, bin_gtr, bin_geq, un_not, un_neg, zq4, zq3, zq1, zq2, zq0, cond_true', cond_false', zq14, zq15, zq16, zq17, zq13, zq10, zq12, zq11, zq7, zq5, zq6, zq9, zq8, resK_nil, resK_tmp, ite_T, ite_F, upd_at, add_plain, add_zero', Nat.reduceEqDiff, fa8_0, fa8_1, fa8_2, fa8_3, fa14_0, fa14_1, fa19_0, len22, len24, fa26_0, fa26_1, fa26_2, len27, fa33_0, fa33_1, len35, fa77_0, fa77_1, fa88_0, fa88_1, fa88_2, fa88_3, fa88_4, fa88_5, fa114_0, fa114_1, fa114_2, fa124_0, fa124_1, len134, len136, len154, fa156_0, fa156_1, fa156_2, fa156_3, fa156_4, fa156_5, fa156_6, fa184_0, fa184_1, fa200_0, fa200_1, fa200_2, fa200_3, fa215_0, fa215_1, fa215_2, fa215_3, fa215_4, len218, len271, fa274_0, fa274_1, fa274_2, fa303_0, fa303_1, fa303_2, fa303_3, fa314_0, fa314_1, fa314_2, fa314_3, fa314_4, fa314_5, fa314_6, fa314_7, fa314_8, fa314_9, fa314_10]
  refine allocH H inf26 fun b16 w7 H => ?_
  refine storeH H 5 rfl sz26 rfl rfl rfl fun w8 H => ?_
  have H : Apt w w8 [bx b1 zg 26, rdr ft1 Y gm.rules, bx b5 [.int .i64 gm.nons, .int .i64 gm.toks, .slice Y gm.rules.length cy] 26, cur b9 (.slice C bs.length cap) 0, rdr ft2 X u.rules, bx b16 [.int .i64 u.nons, .int .i64 u.toks, .slice X u.rules.length c] 26] := H
  have old : ∀ (w' : World) (N : Nat), Apt w w' [bx b1 zg 26, rdr ft1 Y gm.rules, bx b5 [.int .i64 gm.nons, .int .i64 gm.toks, .slice Y gm.rules.length cy] 26, cur b9 (.slice C bs.length cap) N, rdr ft2 X u.rules, bx b16 [.int .i64 u.nons, .int .i64 u.toks, .slice X u.rules.length c] 26] →
      Rd Try.prog (WS.at w') (sLoad 26 (ptrv b5)) fun t27 => Do Try.prog (sStore 26 (ptrv b1) t27) (fun _ w28 => Rd Try.prog (WS.at w28) (sLoadVar 26 (ptrv b1)) fun t29 => k t29 w28) w' := fun w' N H => by
    rw [ldB_agg agg26 sz26 rfl (H.box 2 rfl)]
    refine storeH H 0 rfl sz26 rfl rfl rfl fun w9 H => ?_
    have H : Apt w w9 [bx b1 [.int .i64 gm.nons, .int .i64 gm.toks, .slice Y gm.rules.length cy] 26, rdr ft1 Y gm.rules, bx b5 [.int .i64 gm.nons, .int .i64 gm.toks, .slice Y gm.rules.length cy] 26, cur b9 (.slice C bs.length cap) N, rdr ft2 X u.rules, bx b16 [.int .i64 u.nons, .int .i64 u.toks, .slice X u.rules.length c] 26] := H
    rw [rd_loadVar, ldB_agg agg26 sz26 rfl (H.box 0 rfl)]
    exact hk w9 gm Y cy H.gr ⟨hc1, (H.rdr 1 rfl).mono fun _ _ => trivial⟩
  cases (usefulV gm).2
  · simp only [bin_add, bin_sub, bin_mul, bin_eql, bin_neq, bin_lss, bin_leq, bin_gtr, bin_geq, un_not, un_neg, zq4, zq3, zq1, zq2, zq0, cond_true', cond_false', zq14, zq15, zq16, zq17, zq13, zq10, zq12, zq11, zq7, zq5, zq6, zq9, zq8, resK_nil, resK_tmp, ite_T, ite_F, upd_at, add_plain, add_zero', Nat.reduceEqDiff, fa8_0, fa8_1, fa8_2, fa8_3, fa14_0, fa14_1, fa19_0, len22, len24, fa26_0, fa26_1, fa26_2, len27, fa33_0, fa33_1, len35, fa77_0, fa77_1, fa88_0, fa88_1, fa88_2, fa88_3, fa88_4, fa88_5, fa114_0, fa114_1, fa114_2, fa124_0, fa124_1, len134, len136, len154, fa156_0, fa156_1, fa156_2, fa156_3, fa156_4, fa156_5, fa156_6, fa184_0, fa184_1, fa200_0, fa200_1, fa200_2, fa200_3, fa215_0, fa215_1, fa215_2, fa215_3, fa215_4, len218, len271, fa274_0, fa274_1, fa274_2, fa303_0, fa303_1, fa303_2, fa303_3, fa314_0, fa314_1, fa314_2, fa314_3, fa314_4, fa314_5, fa314_6, fa314_7, fa314_8, fa314_9, fa314_10]
    exact old _ _ H
  simp only [bin_add, bin_sub, bin_mul, bin_eql, bin_neq, bin_lss, bin_leq, bin_gtr, bin_geq, un_not, un_neg, zq4, zq3, zq1, zq2, zq0, cond_true', cond_false', zq14, zq15, zq16, zq17, zq13, zq10, zq12, zq11, zq7, zq5, zq6, zq9, zq8, resK_nil, resK_tmp, ite_T, ite_F, upd_at, add_plain, add_zero', Nat.reduceEqDiff, fa8_0, fa8_1, fa8_2, fa8_3, fa14_0, fa14_1, fa19_0, len22, len24, fa26_0, fa26_1, fa26_2, len27, fa33_0, fa33_1, len35, fa77_0, fa77_1, fa88_0, fa88_1, fa88_2, fa88_3, fa88_4, fa88_5, fa114_0, fa114_1, fa114_2, fa124_0, fa124_1, len134, len136, len154, fa156_0, fa156_1, fa156_2, fa156_3, fa156_4, fa156_5, fa156_6, fa184_0, fa184_1, fa200_0, fa200_1, fa200_2, fa200_3, fa215_0, fa215_1, fa215_2, fa215_3, fa215_4, len218, len271, fa274_0, fa274_1, fa274_2, fa303_0, fa303_1, fa303_2, fa303_3, fa314_0, fa314_1, fa314_2, fa314_3, fa314_4, fa314_5, fa314_6, fa314_7, fa314_8, fa314_9, fa314_10]
  refine one_c H 3 rfl hC (by omega) (by omega) fun w12 b H => ?_
  simp only [List.set_cons_zero, List.set_cons_succ] at H
  cases b
  · simp only [bin_add, bin_sub, bin_mul, bin_eql, bin_neq, bin_lss, bin_leq, bin_gtr, bin_geq, un_not, un_neg, zq4, zq3, zq1, zq2, zq0, cond_true', cond_false', zq14, zq15, zq16, zq17, zq13, zq10, zq12, zq11, zq7, zq5, zq6, zq9, zq8, resK_nil, resK_tmp, ite_T, ite_F, upd_at, add_plain, add_zero', Nat.reduceEqDiff, fa8_0, fa8_1, fa8_2, fa8_3, fa14_0, fa14_1, fa19_0, len22, len24, fa26_0, fa26_1, fa26_2, len27, fa33_0, fa33_1, len35, fa77_0, fa77_1, fa88_0, fa88_1, fa88_2, fa88_3, fa88_4, fa88_5, fa114_0, fa114_1, fa114_2, fa124_0, fa124_1, len134, len136, len154, fa156_0, fa156_1, fa156_2, fa156_3, fa156_4, fa156_5, fa156_6, fa184_0, fa184_1, fa200_0, fa200_1, fa200_2, fa200_3, fa215_0, fa215_1, fa215_2, fa215_3, fa215_4, len218, len271, fa274_0, fa274_1, fa274_2, fa303_0, fa303_1, fa303_2, fa303_3, fa314_0, fa314_1, fa314_2, fa314_3, fa314_4, fa314_5, fa314_6, fa314_7, fa314_8, fa314_9, fa314_10]
    exact old _ _ H
  simp only [bin_add, bin_sub, bin_mul, bin_eql, bin_neq, bin_lss, bin_leq, bin_gtr, bin_geq, un_not, un_neg, zq4, zq3, zq1, zq2, zq0, cond_true', cond_false', zq14, zq15, zq16, zq17, zq13, zq10, zq12, zq11, zq7, zq5, zq6, zq9, zq8, resK_nil, resK_tmp, ite_T, ite_F, upd_at, add_plain, add_zero', Nat.reduceEqDiff, fa8_0, fa8_1, fa8_2, fa8_3, fa14_0, fa14_1, fa19_0, len22, len24, fa26_0, fa26_1, fa26_2, len27, fa33_0, fa33_1, len35, fa77_0, fa77_1, fa88_0, fa88_1, fa88_2, fa88_3, fa88_4, fa88_5, fa114_0, fa114_1, fa114_2, fa124_0, fa124_1, len134, len136, len154, fa156_0, fa156_1, fa156_2, fa156_3, fa156_4, fa156_5, fa156_6, fa184_0, fa184_1, fa200_0, fa200_1, fa200_2, fa200_3, fa215_0, fa215_1, fa215_2, fa215_3, fa215_4, len218, len271, fa274_0, fa274_1, fa274_2, fa303_0, fa303_1, fa303_2, fa303_3, fa314_0, fa314_1, fa314_2, fa314_3, fa314_4, fa314_5, fa314_6, fa314_7, fa314_8, fa314_9, fa314_10]
  rw [ldB_agg agg26 sz26 rfl (H.box 5 rfl)]
  refine storeH H 0 rfl sz26 rfl rfl rfl fun w9 H => ?_
  have H : Apt w w9 [bx b1 [.int .i64 u.nons, .int .i64 u.toks, .slice X u.rules.length c] 26, rdr ft1 Y gm.rules, bx b5 [.int .i64 gm.nons, .int .i64 gm.toks, .slice Y gm.rules.length cy] 26, cur b9 (.slice C bs.length cap) (0 + 2), rdr ft2 X u.rules, bx b16 [.int .i64 u.nons, .int .i64 u.toks, .slice X u.rules.length c] 26] := H
  rw [rd_loadVar, ldB_agg agg26 sz26 rfl (H.box 0 rfl)]
  exact hk w9 u X c H.gr ⟨hc2, (H.rdr 4 rfl).mono fun _ _ => trivial⟩
end
end Go.Proofs.Ytegcjkhebecgbaa

/- Bd: bodies of functions as terms of the frame calculus, printed by shgen.py of this repository. -/
set_option linter.unusedVariables false
set_option maxRecDepth 100000
namespace Go.Proofs.Ytegcjkhebecgbaa
open Go Go.Sh

/-! loop.example/g00758/spec.JoinOf -/
/-! loop.example/g00758/impl.JoinOf -/
/-! loop.example/g00758/spec.UnionOf -/
/-! loop.example/g00758/impl.UnionOf -/
end Go.Proofs.Ytegcjkhebecgbaa

/- Contracts: joined and united grammars, by the reference and by the program. -/
set_option linter.unusedVariables false
set_option linter.unusedSimpArgs false
set_option maxRecDepth 100000
namespace Go.Sh

end Go.Sh
namespace Go.Proofs.Ytegcjkhebecgbaa
open Go Go.Sh Go.RowKit

end Go.Proofs.Ytegcjkhebecgbaa

/- Plain: languages of unions, of what is joined, of what comes again and again. -/
set_option linter.unusedVariables false
set_option linter.unusedSimpArgs false
set_option maxRecDepth 100000
namespace Go.Sh
open Go
theorem inL_yi {gm : Gram} {ws : List Int} (hg : goodG gm = true) (hw : ws.length ≤ 10) : inL gm.rules ws = true ↔ Yi gm.rules (.inl 0) ws := by
  unfold inL
  rw [span_iff (good_lefts hg) (good_left6 hg) hw (Nat.le_refl _), der_yi (Nat.zero_le _) (Nat.le_refl _), cut_all]
end Go.Sh

/- The law of Beside. -/
set_option linter.unusedVariables false
set_option linter.unusedSimpArgs false
set_option maxRecDepth 100000
namespace Go.Sh
open Go
theorem inLV_of {gm : Gram} {ws : List Int} (hg : goodG gm = true) (hw : wordB gm.toks ws = true) : inLV gm ws = (inL gm.rules ws, true) := by
  unfold inLV wordG
  rw [hg, hw, if_pos (by rfl)]
end Go.Sh
namespace Go.Proofs.Ytegcjkhebecgbaa
open Go Go.Sh Go.RowKit
section
variable {w : World} {L : List (World → Prop)} {k : Value → World → Prop} {Y X : Option Addr} {cy cx n : Nat} {gm : Gram} {ws : List Int}
end
end Go.Proofs.Ytegcjkhebecgbaa

/- Plain: what the law of Useful asks of the values. -/
set_option linter.unusedVariables false
set_option linter.unusedSimpArgs false
set_option maxRecDepth 100000
namespace Go.Sh
open Go
theorem goodG_iff {g : Gram} : goodG g = true ↔ inB g.nons 1 6 = true ∧ inB g.toks 1 4 = true ∧ g.rules.length ≤ 16 ∧ (∀ r ∈ g.rules, inB r.1 0 (g.nons - 1) = true ∧ r.2.length ≤ 4 ∧ r.2.all (symB g.nons g.toks) = true) ∧ g.rules.Nodup := by
  unfold goodG
  simp only [Bool.and_eq_true, decide_eq_true_eq, List.all_eq_true (l := List.range g.rules.length), List.mem_range]
  constructor
  · rintro ⟨⟨⟨h1, h2⟩, h3⟩, h4⟩
    refine ⟨h1, h2, h3, fun r hr => ?_, ?_⟩
    · obtain ⟨i, hi, rfl⟩ := List.getElem_of_mem hr
      have := h4 i hi
      simp only [goodR, Bool.and_eq_true, decide_eq_true_eq, rul_eq hi] at this
      exact ⟨this.1.1.1, this.1.1.2, this.1.2⟩
    · rw [List.Nodup, List.pairwise_iff_getElem]
      intro i j hi hj hij e
      have := h4 j hj
      simp only [goodR, Bool.and_eq_true, Bool.not_eq_true', List.any_eq_false, decide_eq_true_eq, rul_eq hj] at this
      refine this.2 g.rules[i] ?_ e.symm
      rw [List.mem_take_iff_getElem]
      exact ⟨i, by omega, rfl⟩
  · rintro ⟨h1, h2, h3, h4, h5⟩
    refine ⟨⟨⟨h1, h2⟩, h3⟩, fun i hi => ?_⟩
    obtain ⟨a1, a2, a3⟩ := h4 g.rules[i] (List.getElem_mem hi)
    simp only [goodR, Bool.and_eq_true, Bool.not_eq_true', List.any_eq_false, decide_eq_true_eq, rul_eq hi]
    refine ⟨⟨⟨a1, a2⟩, a3⟩, fun q hq e => ?_⟩
    obtain ⟨j, hj, rfl⟩ := List.getElem_of_mem hq
    rw [List.length_take] at hj
    rw [List.getElem_take] at e
    rw [List.Nodup, List.pairwise_iff_getElem] at h5
    exact h5 j i (by omega) hi (by omega) e.symm
theorem good_useful {gm : Gram} (hg : goodG gm = true) : goodG (usefulG gm) = true := by
  obtain ⟨h1, h2, h3, h4, h5⟩ := goodG_iff.1 hg
  have hs := usefulR_sublist gm.rules
  exact goodG_iff.2 ⟨h1, h2, Nat.le_trans hs.length_le h3, fun r hr => h4 r (hs.subset hr), hs.nodup h5⟩
theorem good_lefts0 {gm : Gram} (hg : goodG gm = true) : ∀ r ∈ gm.rules, 0 ≤ r.1 := fun r hr => (goodRules hg r hr).1.1
theorem usefulV_good {gm : Gram} (hg : goodG gm = true) : usefulV gm = (usefulG gm, true) := by
  unfold usefulV
  rw [if_pos hg]
theorem useful_useful {gm : Gram} (hg : goodG gm = true) : usefulV (usefulG gm) = (usefulG gm, true) := by
  rw [usefulV_good (good_useful hg)]
  unfold usefulG
  dsimp only
  rw [useful_again (good_lefts0 hg)]
theorem isUseful_useful {gm : Gram} (hg : goodG gm = true) : isUsefulV (usefulG gm) = (true, true) := by
  unfold isUsefulV
  rw [if_pos (good_useful hg)]
  show (decide ((usefulR (usefulR gm.rules)).length = (usefulR gm.rules).length), true) = _
  rw [useful_again (good_lefts0 hg)]
  simp
theorem inLV_useful {gm : Gram} {ws : List Int} (hg : goodG gm = true) : inLV (usefulG gm) ws = inLV gm ws := by
  have hg' := good_useful hg
  by_cases hw : wordB gm.toks ws = true
  · rw [inLV_of hg hw, inLV_of hg' hw]
    have hl := (wordB_of hw).1
    have e : inL (usefulG gm).rules ws = inL gm.rules ws := by
      rw [Bool.eq_iff_iff, inL_yi hg hl, inL_yi hg' hl]
      exact useful_yi
    rw [e]
  · unfold inLV wordG
    have e : wordB (usefulG gm).toks ws = wordB gm.toks ws := rfl
    rw [e]
    simp [hw]
theorem listV_good {gm : Gram} (hg : goodG gm = true) (l : List Int) : listV gm l = (l, true) := by
  unfold listV
  rw [if_pos hg]
theorem useful_lists {gm : Gram} (hg : goodG gm = true) {r : RuleL} (hr : r ∈ (usefulG gm).rules) : r.1 ∈ cloV (usefulG gm) true ∧ r.1 ∈ rchV (usefulG gm) := by
  have hl := (goodRules (good_useful hg) r hr).1
  have e : r.1 = (r.1.toNat : Int) := by omega
  constructor
  · unfold cloV
    rw [setL_mem]
    exact ⟨_, e, by omega, useful_left (good_lefts0 hg) hr⟩
  · unfold rchV
    rw [setL_mem]
    exact ⟨_, e, by omega, useful_rch hr⟩
end Go.Sh

/- The law of Useful. -/
set_option linter.unusedVariables false
set_option linter.unusedSimpArgs false
set_option maxRecDepth 100000
namespace Go.Proofs.Ytegcjkhebecgbaa
open Go Go.Sh Go.RowKit
set_option maxHeartbeats 12800000 in
theorem law_Useful {w : World} {C D : Option Addr} {cap cap' : Nat} {bs es : List Int} (hC : Byts w C bs) (hD : Byts w D es) {k : Value → World → Prop} (hk : ∀ w', Gr w w' → k (.bool true) w') :
    CallK Try.prog 8 [.slice C bs.length cap, .slice D es.length cap'] k w := by
  refine enter8 ?_
  unfold S8
  have H := knC (knC (Kn.nil w) hC) hD
  refine big_c hC.le hD.le fun b => ?_
  cases b
  case true => exact hk _ (H.get 0 rfl)
  simp only [cond_false']
  refine drawInLanguage_c (H.get 1 rfl) fun w2 gm ft Y cy X cx ws hd A => ?_
  have H := knI (knG (H.step A.gr) A 1 rfl) A 0 rfl
  clear A
  simp only [List.cons_append, List.nil_append] at H
  simp only [bin_add, bin_sub, bin_mul, bin_eql, bin_neq, bin_lss, bin_leq, bin_gtr, bin_geq, un_not, un_neg, zq4, zq3, zq1, zq2, zq0, cond_true', cond_false', zq14, zq15, zq16, zq17, zq13, zq10, zq12, zq11, zq7, zq5, zq6, zq9, zq8, resK_nil, resK_tmp, ite_T, ite_F, upd_at, add_plain, add_zero', Nat.reduceEqDiff, fa8_0, fa8_1, fa8_2, fa8_3, fa14_0, fa14_1, fa19_0, len22, len24, fa26_0, fa26_1, fa26_2, len27, fa33_0, fa33_1, len35, fa77_0, fa77_1, fa88_0, fa88_1, fa88_2, fa88_3, fa88_4, fa88_5, fa114_0, fa114_1, fa114_2, fa124_0, fa124_1, len134, len136, len154, fa156_0, fa156_1, fa156_2, fa156_3, fa156_4, fa156_5, fa156_6, fa184_0, fa184_1, fa200_0, fa200_1, fa200_2, fa200_3, fa215_0, fa215_1, fa215_2, fa215_3, fa215_4, len218, len271, fa274_0, fa274_1, fa274_2, fa303_0, fa303_1, fa303_2, fa303_3, fa314_0, fa314_1, fa314_2, fa314_3, fa314_4, fa314_5, fa314_6, fa314_7, fa314_8, fa314_9, fa314_10]
  refine newG H fun b1 w3 H => ?_
  simp only [List.cons_append, List.nil_append] at H
  rw [ldB_agg agg26 sz26 rfl (H.get 5 rfl)]
  refine implUsefulOf_c (H.get 3 rfl) fun w4 U c g hc hR => ?_
  have H := (H.step g).addG hc (hR.mono fun _ _ => trivial)
  simp only [List.cons_append, List.nil_append] at H
  simp only [bin_add, bin_sub, bin_mul, bin_eql, bin_neq, bin_lss, bin_leq, bin_gtr, bin_geq, un_not, un_neg, zq4, zq3, zq1, zq2, zq0, cond_true', cond_false', zq14, zq15, zq16, zq17, zq13, zq10, zq12, zq11, zq7, zq5, zq6, zq9, zq8, resK_nil, resK_tmp, ite_T, ite_F, upd_at, add_plain, add_zero', Nat.reduceEqDiff, fa8_0, fa8_1, fa8_2, fa8_3, fa14_0, fa14_1, fa19_0, len22, len24, fa26_0, fa26_1, fa26_2, len27, fa33_0, fa33_1, len35, fa77_0, fa77_1, fa88_0, fa88_1, fa88_2, fa88_3, fa88_4, fa88_5, fa114_0, fa114_1, fa114_2, fa124_0, fa124_1, len134, len136, len154, fa156_0, fa156_1, fa156_2, fa156_3, fa156_4, fa156_5, fa156_6, fa184_0, fa184_1, fa200_0, fa200_1, fa200_2, fa200_3, fa215_0, fa215_1, fa215_2, fa215_3, fa215_4, len218, len271, fa274_0, fa274_1, fa274_2, fa303_0, fa303_1, fa303_2, fa303_3, fa314_0, fa314_1, fa314_2, fa314_3, fa314_4, fa314_5, fa314_6, fa314_7, fa314_8, fa314_9, fa314_10]
  refine newG H fun b2 w5 H => ?_
  simp only [List.cons_append, List.nil_append] at H
  rw [ldB_agg agg26 sz26 rfl (H.get 5 rfl)]
  refine specUsefulOf_c (H.get 3 rfl) fun w6 V e g he hR => ?_
  have H := (H.step g).addG he (hR.mono fun _ _ => trivial)
  simp only [List.cons_append, List.nil_append] at H
  simp only [bin_add, bin_sub, bin_mul, bin_eql, bin_neq, bin_lss, bin_leq, bin_gtr, bin_geq, un_not, un_neg, zq4, zq3, zq1, zq2, zq0, cond_true', cond_false', zq14, zq15, zq16, zq17, zq13, zq10, zq12, zq11, zq7, zq5, zq6, zq9, zq8, resK_nil, resK_tmp, ite_T, ite_F, upd_at, add_plain, add_zero', Nat.reduceEqDiff, fa8_0, fa8_1, fa8_2, fa8_3, fa14_0, fa14_1, fa19_0, len22, len24, fa26_0, fa26_1, fa26_2, len27, fa33_0, fa33_1, len35, fa77_0, fa77_1, fa88_0, fa88_1, fa88_2, fa88_3, fa88_4, fa88_5, fa114_0, fa114_1, fa114_2, fa124_0, fa124_1, len134, len136, len154, fa156_0, fa156_1, fa156_2, fa156_3, fa156_4, fa156_5, fa156_6, fa184_0, fa184_1, fa200_0, fa200_1, fa200_2, fa200_3, fa215_0, fa215_1, fa215_2, fa215_3, fa215_4, len218, len271, fa274_0, fa274_1, fa274_2, fa303_0, fa303_1, fa303_2, fa303_3, fa314_0, fa314_1, fa314_2, fa314_3, fa314_4, fa314_5, fa314_6, fa314_7, fa314_8, fa314_9, fa314_10]
  refine newG H fun b3 w7 H => ?_
  simp only [List.cons_append, List.nil_append] at H
  simp only [bneq, beq_self_eq_true, Bool.not_true, bin_add, bin_sub, bin_mul, bin_eql, bin_neq, bin_lss, bin_leq, bin_gtr, bin_geq, un_not, un_neg, zq4, zq3, zq1, zq2, zq0, cond_true', cond_false', zq14, zq15, zq16, zq17, zq13, zq10, zq12, zq11, zq7, zq5, zq6, zq9, zq8, resK_nil, resK_tmp, ite_T, ite_F, upd_at, add_plain, add_zero', Nat.reduceEqDiff, fa8_0, fa8_1, fa8_2, fa8_3, fa14_0, fa14_1, fa19_0, len22, len24, fa26_0, fa26_1, fa26_2, len27, fa33_0, fa33_1, len35, fa77_0, fa77_1, fa88_0, fa88_1, fa88_2, fa88_3, fa88_4, fa88_5, fa114_0, fa114_1, fa114_2, fa124_0, fa124_1, len134, len136, len154, fa156_0, fa156_1, fa156_2, fa156_3, fa156_4, fa156_5, fa156_6, fa184_0, fa184_1, fa200_0, fa200_1, fa200_2, fa200_3, fa215_0, fa215_1, fa215_2, fa215_3, fa215_4, len218, len271, fa274_0, fa274_1, fa274_2, fa303_0, fa303_1, fa303_2, fa303_3, fa314_0, fa314_1, fa314_2, fa314_3, fa314_4, fa314_5, fa314_6, fa314_7, fa314_8, fa314_9, fa314_10]
  rw [ldB_agg agg26 sz26 rfl (H.get 7 rfl), ldB_agg agg26 sz26 rfl (H.get 9 rfl)]
  refine sameGrammar_c (H.get 6 rfl) (H.get 8 rfl) fun w8 g => ?_
  have H := H.step g
  simp only [decide_true, Bool.not_true, bin_add, bin_sub, bin_mul, bin_eql, bin_neq, bin_lss, bin_leq, bin_gtr, bin_geq, un_not, un_neg, zq4, zq3, zq1, zq2, zq0, cond_true', cond_false', zq14, zq15, zq16, zq17, zq13, zq10, zq12, zq11, zq7, zq5, zq6, zq9, zq8, resK_nil, resK_tmp, ite_T, ite_F, upd_at, add_plain, add_zero', Nat.reduceEqDiff, fa8_0, fa8_1, fa8_2, fa8_3, fa14_0, fa14_1, fa19_0, len22, len24, fa26_0, fa26_1, fa26_2, len27, fa33_0, fa33_1, len35, fa77_0, fa77_1, fa88_0, fa88_1, fa88_2, fa88_3, fa88_4, fa88_5, fa114_0, fa114_1, fa114_2, fa124_0, fa124_1, len134, len136, len154, fa156_0, fa156_1, fa156_2, fa156_3, fa156_4, fa156_5, fa156_6, fa184_0, fa184_1, fa200_0, fa200_1, fa200_2, fa200_3, fa215_0, fa215_1, fa215_2, fa215_3, fa215_4, len218, len271, fa274_0, fa274_1, fa274_2, fa303_0, fa303_1, fa303_2, fa303_3, fa314_0, fa314_1, fa314_2, fa314_3, fa314_4, fa314_5, fa314_6, fa314_7, fa314_8, fa314_9, fa314_10]
  have H := H.add (P := fun w' => Gr w8 w') fun w' g => g
  simp only [List.cons_append, List.nil_append] at H
  refine join_as (fun f w' => f 1 = .slice D es.length cap' ∧ Gr w8 w') (fun K hK => ?_) ?_
  · cases hg : goodG gm
    · have e : (usefulV gm).2 = false := by unfold usefulV; rw [hg]; rfl
      rw [e]
      simp only [bin_add, bin_sub, bin_mul, bin_eql, bin_neq, bin_lss, bin_leq, bin_gtr, bin_geq, un_not, un_neg, zq4, zq3, zq1, zq2, zq0, cond_true', cond_false', zq14, zq15, zq16, zq17, zq13, zq10, zq12, zq11, zq7, zq5, zq6, zq9, zq8, resK_nil, resK_tmp, ite_T, ite_F, upd_at, add_plain, add_zero', Nat.reduceEqDiff, fa8_0, fa8_1, fa8_2, fa8_3, fa14_0, fa14_1, fa19_0, len22, len24, fa26_0, fa26_1, fa26_2, len27, fa33_0, fa33_1, len35, fa77_0, fa77_1, fa88_0, fa88_1, fa88_2, fa88_3, fa88_4, fa88_5, fa114_0, fa114_1, fa114_2, fa124_0, fa124_1, len134, len136, len154, fa156_0, fa156_1, fa156_2, fa156_3, fa156_4, fa156_5, fa156_6, fa184_0, fa184_1, fa200_0, fa200_1, fa200_2, fa200_3, fa215_0, fa215_1, fa215_2, fa215_3, fa215_4, len218, len271, fa274_0, fa274_1, fa274_2, fa303_0, fa303_1, fa303_2, fa303_3, fa314_0, fa314_1, fa314_2, fa314_3, fa314_4, fa314_5, fa314_6, fa314_7, fa314_8, fa314_9, fa314_10]
      exact hK _ _ ⟨rfl, H.get 10 rfl⟩
    have hg' := good_useful hg
    rw [usefulV_good hg] at H ⊢
    simp only [bin_add, bin_sub, bin_mul, bin_eql, bin_neq, bin_lss, bin_leq, bin_gtr, bin_geq, un_not, un_neg, zq4, zq3, zq1, zq2, zq0, cond_true', cond_false', zq14, zq15, zq16, zq17, zq13, zq10, zq12, zq11, zq7, zq5, zq6, zq9, zq8, resK_nil, resK_tmp, ite_T, ite_F, upd_at, add_plain, add_zero', Nat.reduceEqDiff, fa8_0, fa8_1, fa8_2, fa8_3, fa14_0, fa14_1, fa19_0, len22, len24, fa26_0, fa26_1, fa26_2, len27, fa33_0, fa33_1, len35, fa77_0, fa77_1, fa88_0, fa88_1, fa88_2, fa88_3, fa88_4, fa88_5, fa114_0, fa114_1, fa114_2, fa124_0, fa124_1, len134, len136, len154, fa156_0, fa156_1, fa156_2, fa156_3, fa156_4, fa156_5, fa156_6, fa184_0, fa184_1, fa200_0, fa200_1, fa200_2, fa200_3, fa215_0, fa215_1, fa215_2, fa215_3, fa215_4, len218, len271, fa274_0, fa274_1, fa274_2, fa303_0, fa303_1, fa303_2, fa303_3, fa314_0, fa314_1, fa314_2, fa314_3, fa314_4, fa314_5, fa314_6, fa314_7, fa314_8, fa314_9, fa314_10]
    rw [ldB_agg agg26 sz26 rfl (H.get 7 rfl)]
    refine implUsefulOf_c (gm := usefulG gm) (H.get 6 rfl) fun w9 Z z g hz hR => ?_
    rw [useful_useful hg] at hz hR ⊢
    have H := (H.step g).addG hz (hR.mono fun _ _ => trivial)
    simp only [List.cons_append, List.nil_append] at H
    simp only [bin_add, bin_sub, bin_mul, bin_eql, bin_neq, bin_lss, bin_leq, bin_gtr, bin_geq, un_not, un_neg, zq4, zq3, zq1, zq2, zq0, cond_true', cond_false', zq14, zq15, zq16, zq17, zq13, zq10, zq12, zq11, zq7, zq5, zq6, zq9, zq8, resK_nil, resK_tmp, ite_T, ite_F, upd_at, add_plain, add_zero', Nat.reduceEqDiff, fa8_0, fa8_1, fa8_2, fa8_3, fa14_0, fa14_1, fa19_0, len22, len24, fa26_0, fa26_1, fa26_2, len27, fa33_0, fa33_1, len35, fa77_0, fa77_1, fa88_0, fa88_1, fa88_2, fa88_3, fa88_4, fa88_5, fa114_0, fa114_1, fa114_2, fa124_0, fa124_1, len134, len136, len154, fa156_0, fa156_1, fa156_2, fa156_3, fa156_4, fa156_5, fa156_6, fa184_0, fa184_1, fa200_0, fa200_1, fa200_2, fa200_3, fa215_0, fa215_1, fa215_2, fa215_3, fa215_4, len218, len271, fa274_0, fa274_1, fa274_2, fa303_0, fa303_1, fa303_2, fa303_3, fa314_0, fa314_1, fa314_2, fa314_3, fa314_4, fa314_5, fa314_6, fa314_7, fa314_8, fa314_9, fa314_10]
    refine newG H fun b4 w10 H => ?_
    simp only [List.cons_append, List.nil_append] at H
    rw [ldB_agg agg26 sz26 rfl (H.get 7 rfl)]
    refine implIsUseful_c (gm := usefulG gm) (H.get 6 rfl) fun w11 g => ?_
    have H := H.step g
    rw [isUseful_useful hg]
    simp only [bin_add, bin_sub, bin_mul, bin_eql, bin_neq, bin_lss, bin_leq, bin_gtr, bin_geq, un_not, un_neg, zq4, zq3, zq1, zq2, zq0, cond_true', cond_false', zq14, zq15, zq16, zq17, zq13, zq10, zq12, zq11, zq7, zq5, zq6, zq9, zq8, resK_nil, resK_tmp, ite_T, ite_F, upd_at, add_plain, add_zero', Nat.reduceEqDiff, fa8_0, fa8_1, fa8_2, fa8_3, fa14_0, fa14_1, fa19_0, len22, len24, fa26_0, fa26_1, fa26_2, len27, fa33_0, fa33_1, len35, fa77_0, fa77_1, fa88_0, fa88_1, fa88_2, fa88_3, fa88_4, fa88_5, fa114_0, fa114_1, fa114_2, fa124_0, fa124_1, len134, len136, len154, fa156_0, fa156_1, fa156_2, fa156_3, fa156_4, fa156_5, fa156_6, fa184_0, fa184_1, fa200_0, fa200_1, fa200_2, fa200_3, fa215_0, fa215_1, fa215_2, fa215_3, fa215_4, len218, len271, fa274_0, fa274_1, fa274_2, fa303_0, fa303_1, fa303_2, fa303_3, fa314_0, fa314_1, fa314_2, fa314_3, fa314_4, fa314_5, fa314_6, fa314_7, fa314_8, fa314_9, fa314_10]
    rw [ldB_agg agg26 sz26 rfl (H.get 7 rfl)]
    refine implProductiveOf_c (gm := usefulG gm) (H.get 6 rfl) fun w12 P p g hP => ?_
    rw [listV_good hg'] at hP ⊢
    have H := (H.step g).addI hP.1 hP.2
    simp only [List.cons_append, List.nil_append] at H
    simp only [bin_add, bin_sub, bin_mul, bin_eql, bin_neq, bin_lss, bin_leq, bin_gtr, bin_geq, un_not, un_neg, zq4, zq3, zq1, zq2, zq0, cond_true', cond_false', zq14, zq15, zq16, zq17, zq13, zq10, zq12, zq11, zq7, zq5, zq6, zq9, zq8, resK_nil, resK_tmp, ite_T, ite_F, upd_at, add_plain, add_zero', Nat.reduceEqDiff, fa8_0, fa8_1, fa8_2, fa8_3, fa14_0, fa14_1, fa19_0, len22, len24, fa26_0, fa26_1, fa26_2, len27, fa33_0, fa33_1, len35, fa77_0, fa77_1, fa88_0, fa88_1, fa88_2, fa88_3, fa88_4, fa88_5, fa114_0, fa114_1, fa114_2, fa124_0, fa124_1, len134, len136, len154, fa156_0, fa156_1, fa156_2, fa156_3, fa156_4, fa156_5, fa156_6, fa184_0, fa184_1, fa200_0, fa200_1, fa200_2, fa200_3, fa215_0, fa215_1, fa215_2, fa215_3, fa215_4, len218, len271, fa274_0, fa274_1, fa274_2, fa303_0, fa303_1, fa303_2, fa303_3, fa314_0, fa314_1, fa314_2, fa314_3, fa314_4, fa314_5, fa314_6, fa314_7, fa314_8, fa314_9, fa314_10]
    rw [ldB_agg agg26 sz26 rfl (H.get 7 rfl)]
    refine implReachedOf_c (gm := usefulG gm) (H.get 6 rfl) fun w13 Q q g hQ => ?_
    rw [listV_good hg'] at hQ ⊢
    have H := (H.step g).addI hQ.1 hQ.2
    simp only [List.cons_append, List.nil_append] at H
    simp only [bin_add, bin_sub, bin_mul, bin_eql, bin_neq, bin_lss, bin_leq, bin_gtr, bin_geq, un_not, un_neg, zq4, zq3, zq1, zq2, zq0, cond_true', cond_false', zq14, zq15, zq16, zq17, zq13, zq10, zq12, zq11, zq7, zq5, zq6, zq9, zq8, resK_nil, resK_tmp, ite_T, ite_F, upd_at, add_plain, add_zero', Nat.reduceEqDiff, fa8_0, fa8_1, fa8_2, fa8_3, fa14_0, fa14_1, fa19_0, len22, len24, fa26_0, fa26_1, fa26_2, len27, fa33_0, fa33_1, len35, fa77_0, fa77_1, fa88_0, fa88_1, fa88_2, fa88_3, fa88_4, fa88_5, fa114_0, fa114_1, fa114_2, fa124_0, fa124_1, len134, len136, len154, fa156_0, fa156_1, fa156_2, fa156_3, fa156_4, fa156_5, fa156_6, fa184_0, fa184_1, fa200_0, fa200_1, fa200_2, fa200_3, fa215_0, fa215_1, fa215_2, fa215_3, fa215_4, len218, len271, fa274_0, fa274_1, fa274_2, fa303_0, fa303_1, fa303_2, fa303_3, fa314_0, fa314_1, fa314_2, fa314_3, fa314_4, fa314_5, fa314_6, fa314_7, fa314_8, fa314_9, fa314_10]
    rw [ldB_agg agg26 sz26 rfl (H.get 5 rfl)]
    refine implInLanguage_c (H.get 3 rfl) (H.get 4 rfl) fun w14 g => ?_
    have H := H.step g
    simp only [bin_add, bin_sub, bin_mul, bin_eql, bin_neq, bin_lss, bin_leq, bin_gtr, bin_geq, un_not, un_neg, zq4, zq3, zq1, zq2, zq0, cond_true', cond_false', zq14, zq15, zq16, zq17, zq13, zq10, zq12, zq11, zq7, zq5, zq6, zq9, zq8, resK_nil, resK_tmp, ite_T, ite_F, upd_at, add_plain, add_zero', Nat.reduceEqDiff, fa8_0, fa8_1, fa8_2, fa8_3, fa14_0, fa14_1, fa19_0, len22, len24, fa26_0, fa26_1, fa26_2, len27, fa33_0, fa33_1, len35, fa77_0, fa77_1, fa88_0, fa88_1, fa88_2, fa88_3, fa88_4, fa88_5, fa114_0, fa114_1, fa114_2, fa124_0, fa124_1, len134, len136, len154, fa156_0, fa156_1, fa156_2, fa156_3, fa156_4, fa156_5, fa156_6, fa184_0, fa184_1, fa200_0, fa200_1, fa200_2, fa200_3, fa215_0, fa215_1, fa215_2, fa215_3, fa215_4, len218, len271, fa274_0, fa274_1, fa274_2, fa303_0, fa303_1, fa303_2, fa303_3, fa314_0, fa314_1, fa314_2, fa314_3, fa314_4, fa314_5, fa314_6, fa314_7, fa314_8, fa314_9, fa314_10]
    rw [ldB_agg agg26 sz26 rfl (H.get 7 rfl)]
    refine implInLanguage_c (gm := usefulG gm) (H.get 6 rfl) (H.get 4 rfl) fun w15 g => ?_
    have H := H.step g
    rw [inLV_useful hg]
    simp only [Bool.not_true, bin_add, bin_sub, bin_mul, bin_eql, bin_neq, bin_lss, bin_leq, bin_gtr, bin_geq, un_not, un_neg, zq4, zq3, zq1, zq2, zq0, cond_true', cond_false', zq14, zq15, zq16, zq17, zq13, zq10, zq12, zq11, zq7, zq5, zq6, zq9, zq8, resK_nil, resK_tmp, ite_T, ite_F, upd_at, add_plain, add_zero', Nat.reduceEqDiff, fa8_0, fa8_1, fa8_2, fa8_3, fa14_0, fa14_1, fa19_0, len22, len24, fa26_0, fa26_1, fa26_2, len27, fa33_0, fa33_1, len35, fa77_0, fa77_1, fa88_0, fa88_1, fa88_2, fa88_3, fa88_4, fa88_5, fa114_0, fa114_1, fa114_2, fa124_0, fa124_1, len134, len136, len154, fa156_0, fa156_1, fa156_2, fa156_3, fa156_4, fa156_5, fa156_6, fa184_0, fa184_1, fa200_0, fa200_1, fa200_2, fa200_3, fa215_0, fa215_1, fa215_2, fa215_3, fa215_4, len218, len271, fa274_0, fa274_1, fa274_2, fa303_0, fa303_1, fa303_2, fa303_3, fa314_0, fa314_1, fa314_2, fa314_3, fa314_4, fa314_5, fa314_6, fa314_7, fa314_8, fa314_9, fa314_10]
    rw [ldB_agg agg26 sz26 rfl (H.get 12 rfl), ldB_agg agg26 sz26 rfl (H.get 7 rfl)]
    refine sameGrammar_c (H.get 11 rfl) (H.get 6 rfl) fun w16 g => ?_
    have H := H.step g
    simp only [decide_true, bneq, beq_self_eq_true, Bool.not_true, bin_add, bin_sub, bin_mul, bin_eql, bin_neq, bin_lss, bin_leq, bin_gtr, bin_geq, un_not, un_neg, zq4, zq3, zq1, zq2, zq0, cond_true', cond_false', zq14, zq15, zq16, zq17, zq13, zq10, zq12, zq11, zq7, zq5, zq6, zq9, zq8, resK_nil, resK_tmp, ite_T, ite_F, upd_at, add_plain, add_zero', Nat.reduceEqDiff, fa8_0, fa8_1, fa8_2, fa8_3, fa14_0, fa14_1, fa19_0, len22, len24, fa26_0, fa26_1, fa26_2, len27, fa33_0, fa33_1, len35, fa77_0, fa77_1, fa88_0, fa88_1, fa88_2, fa88_3, fa88_4, fa88_5, fa114_0, fa114_1, fa114_2, fa124_0, fa124_1, len134, len136, len154, fa156_0, fa156_1, fa156_2, fa156_3, fa156_4, fa156_5, fa156_6, fa184_0, fa184_1, fa200_0, fa200_1, fa200_2, fa200_3, fa215_0, fa215_1, fa215_2, fa215_3, fa215_4, len218, len271, fa274_0, fa274_1, fa274_2, fa303_0, fa303_1, fa303_2, fa303_3, fa314_0, fa314_1, fa314_2, fa314_3, fa314_4, fa314_5, fa314_6, fa314_7, fa314_8, fa314_9, fa314_10]
    rw [ldB24 (H.get 7 rfl) rfl]
    simp only [bin_add, bin_sub, bin_mul, bin_eql, bin_neq, bin_lss, bin_leq, bin_gtr, bin_geq, un_not, un_neg, zq4, zq3, zq1, zq2, zq0, cond_true', cond_false', zq14, zq15, zq16, zq17, zq13, zq10, zq12, zq11, zq7, zq5, zq6, zq9, zq8, resK_nil, resK_tmp, ite_T, ite_F, upd_at, add_plain, add_zero', Nat.reduceEqDiff, fa8_0, fa8_1, fa8_2, fa8_3, fa14_0, fa14_1, fa19_0, len22, len24, fa26_0, fa26_1, fa26_2, len27, fa33_0, fa33_1, len35, fa77_0, fa77_1, fa88_0, fa88_1, fa88_2, fa88_3, fa88_4, fa88_5, fa114_0, fa114_1, fa114_2, fa124_0, fa124_1, len134, len136, len154, fa156_0, fa156_1, fa156_2, fa156_3, fa156_4, fa156_5, fa156_6, fa184_0, fa184_1, fa200_0, fa200_1, fa200_2, fa200_3, fa215_0, fa215_1, fa215_2, fa215_3, fa215_4, len218, len271, fa274_0, fa274_1, fa274_2, fa303_0, fa303_1, fa303_2, fa303_3, fa314_0, fa314_1, fa314_2, fa314_3, fa314_4, fa314_5, fa314_6, fa314_7, fa314_8, fa314_9, fa314_10]
    rw [ldB24 (H.get 5 rfl) rfl]
    have hsub : (usefulG gm).rules.length ≤ gm.rules.length := (usefulR_sublist gm.rules).length_le
    simp only [bin_add, bin_sub, bin_mul, bin_eql, bin_neq, bin_lss, bin_leq, bin_gtr, bin_geq, un_not, un_neg, zq4, zq3, zq1, zq2, zq0, cond_true', cond_false', zq14, zq15, zq16, zq17, zq13, zq10, zq12, zq11, zq7, zq5, zq6, zq9, zq8, resK_nil, resK_tmp, ite_T, ite_F, upd_at, add_plain, add_zero', Nat.reduceEqDiff, fa8_0, fa8_1, fa8_2, fa8_3, fa14_0, fa14_1, fa19_0, len22, len24, fa26_0, fa26_1, fa26_2, len27, fa33_0, fa33_1, len35, fa77_0, fa77_1, fa88_0, fa88_1, fa88_2, fa88_3, fa88_4, fa88_5, fa114_0, fa114_1, fa114_2, fa124_0, fa124_1, len134, len136, len154, fa156_0, fa156_1, fa156_2, fa156_3, fa156_4, fa156_5, fa156_6, fa184_0, fa184_1, fa200_0, fa200_1, fa200_2, fa200_3, fa215_0, fa215_1, fa215_2, fa215_3, fa215_4, len218, len271, fa274_0, fa274_1, fa274_2, fa303_0, fa303_1, fa303_2, fa303_3, fa314_0, fa314_1, fa314_2, fa314_3, fa314_4, fa314_5, fa314_6, fa314_7, fa314_8, fa314_9, fa314_10]
    simp only [show ¬ ((gm.rules.length : Int) < ((usefulG gm).rules.length : Int)) from by omega, decide_false, bin_add, bin_sub, bin_mul, bin_eql, bin_neq, bin_lss, bin_leq, bin_gtr, bin_geq, un_not, un_neg, zq4, zq3, zq1, zq2, zq0, cond_true', cond_false', zq14, zq15, zq16, zq17, zq13, zq10, zq12, zq11, zq7, zq5, zq6, zq9, zq8, resK_nil, resK_tmp, ite_T, ite_F, upd_at, add_plain, add_zero', Nat.reduceEqDiff, fa8_0, fa8_1, fa8_2, fa8_3, fa14_0, fa14_1, fa19_0, len22, len24, fa26_0, fa26_1, fa26_2, len27, fa33_0, fa33_1, len35, fa77_0, fa77_1, fa88_0, fa88_1, fa88_2, fa88_3, fa88_4, fa88_5, fa114_0, fa114_1, fa114_2, fa124_0, fa124_1, len134, len136, len154, fa156_0, fa156_1, fa156_2, fa156_3, fa156_4, fa156_5, fa156_6, fa184_0, fa184_1, fa200_0, fa200_1, fa200_2, fa200_3, fa215_0, fa215_1, fa215_2, fa215_3, fa215_4, len218, len271, fa274_0, fa274_1, fa274_2, fa303_0, fa303_1, fa303_2, fa303_3, fa314_0, fa314_1, fa314_2, fa314_3, fa314_4, fa314_5, fa314_6, fa314_7, fa314_8, fa314_9, fa314_10]
    rw [ldB24 (H.get 7 rfl) rfl]
    simp only [bin_add, bin_sub, bin_mul, bin_eql, bin_neq, bin_lss, bin_leq, bin_gtr, bin_geq, un_not, un_neg, zq4, zq3, zq1, zq2, zq0, cond_true', cond_false', zq14, zq15, zq16, zq17, zq13, zq10, zq12, zq11, zq7, zq5, zq6, zq9, zq8, resK_nil, resK_tmp, ite_T, ite_F, upd_at, add_plain, add_zero', Nat.reduceEqDiff, fa8_0, fa8_1, fa8_2, fa8_3, fa14_0, fa14_1, fa19_0, len22, len24, fa26_0, fa26_1, fa26_2, len27, fa33_0, fa33_1, len35, fa77_0, fa77_1, fa88_0, fa88_1, fa88_2, fa88_3, fa88_4, fa88_5, fa114_0, fa114_1, fa114_2, fa124_0, fa124_1, len134, len136, len154, fa156_0, fa156_1, fa156_2, fa156_3, fa156_4, fa156_5, fa156_6, fa184_0, fa184_1, fa200_0, fa200_1, fa200_2, fa200_3, fa215_0, fa215_1, fa215_2, fa215_3, fa215_4, len218, len271, fa274_0, fa274_1, fa274_2, fa303_0, fa303_1, fa303_2, fa303_3, fa314_0, fa314_1, fa314_2, fa314_3, fa314_4, fa314_5, fa314_6, fa314_7, fa314_8, fa314_9, fa314_10]
    have H := H.add (P := fun w' => Gr w16 w') fun w' g => g
    simp only [List.cons_append, List.nil_append] at H
    refine loop_to (usefulG gm).rules.length 0 (fun i f w' => i ≤ (usefulG gm).rules.length ∧ f 152 = .int .i64 (i : Int) ∧ Gr w16 w') ⟨Nat.zero_le _, rfl, Gr.refl _⟩ ?_
    rintro i f w17 N hag ⟨hi, f152, g⟩ hN
    have H := H.step g
    have f1 : f 1 = .slice D es.length cap' := hag 1 (by decide)
    have f15 : f 15 = .slice P (cloV (usefulG gm) true).length p := hag 15 (by decide)
    have f17 : f 17 = .slice Q (rchV (usefulG gm)).length q := hag 17 (by decide)
    have f150 : f 150 = .slice U (usefulG gm).rules.length c := hag 150 (by decide)
    have f151 : f 151 = .int .i64 (usefulG gm).rules.length := hag 151 (by decide)
    simp only [f1, f15, f17, f150, f151, f152, bin_add, bin_sub, bin_mul, bin_eql, bin_neq, bin_lss, bin_leq, bin_gtr, bin_geq, un_not, un_neg, zq4, zq3, zq1, zq2, zq0, cond_true', cond_false', zq14, zq15, zq16, zq17, zq13, zq10, zq12, zq11, zq7, zq5, zq6, zq9, zq8, resK_nil, resK_tmp, ite_T, ite_F, upd_at, add_plain, add_zero', Nat.reduceEqDiff, fa8_0, fa8_1, fa8_2, fa8_3, fa14_0, fa14_1, fa19_0, len22, len24, fa26_0, fa26_1, fa26_2, len27, fa33_0, fa33_1, len35, fa77_0, fa77_1, fa88_0, fa88_1, fa88_2, fa88_3, fa88_4, fa88_5, fa114_0, fa114_1, fa114_2, fa124_0, fa124_1, len134, len136, len154, fa156_0, fa156_1, fa156_2, fa156_3, fa156_4, fa156_5, fa156_6, fa184_0, fa184_1, fa200_0, fa200_1, fa200_2, fa200_3, fa215_0, fa215_1, fa215_2, fa215_3, fa215_4, len218, len271, fa274_0, fa274_1, fa274_2, fa303_0, fa303_1, fa303_2, fa303_3, fa314_0, fa314_1, fa314_2, fa314_3, fa314_4, fa314_5, fa314_6, fa314_7, fa314_8, fa314_9, fa314_10]
    have hRF := (H.get 6 rfl).2
    have hle := hRF.le
    by_cases hlt : i < (usefulG gm).rules.length
    case pos =>
      simp only [show ((i : Int) < ((usefulG gm).rules.length : Int)) from by omega, decide_true, bin_add, bin_sub, bin_mul, bin_eql, bin_neq, bin_lss, bin_leq, bin_gtr, bin_geq, un_not, un_neg, zq4, zq3, zq1, zq2, zq0, cond_true', cond_false', zq14, zq15, zq16, zq17, zq13, zq10, zq12, zq11, zq7, zq5, zq6, zq9, zq8, resK_nil, resK_tmp, ite_T, ite_F, upd_at, add_plain, add_zero', Nat.reduceEqDiff, fa8_0, fa8_1, fa8_2, fa8_3, fa14_0, fa14_1, fa19_0, len22, len24, fa26_0, fa26_1, fa26_2, len27, fa33_0, fa33_1, len35, fa77_0, fa77_1, fa88_0, fa88_1, fa88_2, fa88_3, fa88_4, fa88_5, fa114_0, fa114_1, fa114_2, fa124_0, fa124_1, len134, len136, len154, fa156_0, fa156_1, fa156_2, fa156_3, fa156_4, fa156_5, fa156_6, fa184_0, fa184_1, fa200_0, fa200_1, fa200_2, fa200_3, fa215_0, fa215_1, fa215_2, fa215_3, fa215_4, len218, len271, fa274_0, fa274_1, fa274_2, fa303_0, fa303_1, fa303_2, fa303_3, fa314_0, fa314_1, fa314_2, fa314_3, fa314_4, fa314_5, fa314_6, fa314_7, fa314_8, fa314_9, fa314_10]
      have hrm : rul (usefulG gm).rules i ∈ (usefulG gm).rules := by rw [rul_eq hlt]; exact List.getElem_mem hlt
      have hls := useful_lists hg hrm
      refine rdi (ixn24 hRF.ptr hlt) ?_
      refine ld_rule agg33 sz33 hRF hlt fun v hv => ?_
      obtain ⟨Z2, cz, rfl, hcz, hZ⟩ := hv
      refine newR H fun b9 w18 H => ?_
      simp only [List.cons_append, List.nil_append] at H
      simp only [bin_add, bin_sub, bin_mul, bin_eql, bin_neq, bin_lss, bin_leq, bin_gtr, bin_geq, un_not, un_neg, zq4, zq3, zq1, zq2, zq0, cond_true', cond_false', zq14, zq15, zq16, zq17, zq13, zq10, zq12, zq11, zq7, zq5, zq6, zq9, zq8, resK_nil, resK_tmp, ite_T, ite_F, upd_at, add_plain, add_zero', Nat.reduceEqDiff, fa8_0, fa8_1, fa8_2, fa8_3, fa14_0, fa14_1, fa19_0, len22, len24, fa26_0, fa26_1, fa26_2, len27, fa33_0, fa33_1, len35, fa77_0, fa77_1, fa88_0, fa88_1, fa88_2, fa88_3, fa88_4, fa88_5, fa114_0, fa114_1, fa114_2, fa124_0, fa124_1, len134, len136, len154, fa156_0, fa156_1, fa156_2, fa156_3, fa156_4, fa156_5, fa156_6, fa184_0, fa184_1, fa200_0, fa200_1, fa200_2, fa200_3, fa215_0, fa215_1, fa215_2, fa215_3, fa215_4, len218, len271, fa274_0, fa274_1, fa274_2, fa303_0, fa303_1, fa303_2, fa303_3, fa314_0, fa314_1, fa314_2, fa314_3, fa314_4, fa314_5, fa314_6, fa314_7, fa314_8, fa314_9, fa314_10]
      rw [ldB3 (H.get 16 rfl) rfl]
      refine has_c (H.get 13 rfl).1 fun w19 g => ?_
      have H := H.step g
      simp only [hls.1, decide_true, Bool.not_true, bin_add, bin_sub, bin_mul, bin_eql, bin_neq, bin_lss, bin_leq, bin_gtr, bin_geq, un_not, un_neg, zq4, zq3, zq1, zq2, zq0, cond_true', cond_false', zq14, zq15, zq16, zq17, zq13, zq10, zq12, zq11, zq7, zq5, zq6, zq9, zq8, resK_nil, resK_tmp, ite_T, ite_F, upd_at, add_plain, add_zero', Nat.reduceEqDiff, fa8_0, fa8_1, fa8_2, fa8_3, fa14_0, fa14_1, fa19_0, len22, len24, fa26_0, fa26_1, fa26_2, len27, fa33_0, fa33_1, len35, fa77_0, fa77_1, fa88_0, fa88_1, fa88_2, fa88_3, fa88_4, fa88_5, fa114_0, fa114_1, fa114_2, fa124_0, fa124_1, len134, len136, len154, fa156_0, fa156_1, fa156_2, fa156_3, fa156_4, fa156_5, fa156_6, fa184_0, fa184_1, fa200_0, fa200_1, fa200_2, fa200_3, fa215_0, fa215_1, fa215_2, fa215_3, fa215_4, len218, len271, fa274_0, fa274_1, fa274_2, fa303_0, fa303_1, fa303_2, fa303_3, fa314_0, fa314_1, fa314_2, fa314_3, fa314_4, fa314_5, fa314_6, fa314_7, fa314_8, fa314_9, fa314_10]
      rw [ldB3 (H.get 16 rfl) rfl]
      refine has_c (H.get 14 rfl).1 fun w20 g => ?_
      have H := H.step g
      simp only [hls.2, decide_true, Bool.not_true, bin_add, bin_sub, bin_mul, bin_eql, bin_neq, bin_lss, bin_leq, bin_gtr, bin_geq, un_not, un_neg, zq4, zq3, zq1, zq2, zq0, cond_true', cond_false', zq14, zq15, zq16, zq17, zq13, zq10, zq12, zq11, zq7, zq5, zq6, zq9, zq8, resK_nil, resK_tmp, ite_T, ite_F, upd_at, add_plain, add_zero', Nat.reduceEqDiff, fa8_0, fa8_1, fa8_2, fa8_3, fa14_0, fa14_1, fa19_0, len22, len24, fa26_0, fa26_1, fa26_2, len27, fa33_0, fa33_1, len35, fa77_0, fa77_1, fa88_0, fa88_1, fa88_2, fa88_3, fa88_4, fa88_5, fa114_0, fa114_1, fa114_2, fa124_0, fa124_1, len134, len136, len154, fa156_0, fa156_1, fa156_2, fa156_3, fa156_4, fa156_5, fa156_6, fa184_0, fa184_1, fa200_0, fa200_1, fa200_2, fa200_3, fa215_0, fa215_1, fa215_2, fa215_3, fa215_4, len218, len271, fa274_0, fa274_1, fa274_2, fa303_0, fa303_1, fa303_2, fa303_3, fa314_0, fa314_1, fa314_2, fa314_3, fa314_4, fa314_5, fa314_6, fa314_7, fa314_8, fa314_9, fa314_10]
      rw [i64_of (by omega) (by omega)]
      exact hN _ _ hlt ⟨by omega, rfl, H.get 15 rfl⟩
    simp only [show ¬ ((i : Int) < ((usefulG gm).rules.length : Int)) from by omega, decide_false, f1, bin_add, bin_sub, bin_mul, bin_eql, bin_neq, bin_lss, bin_leq, bin_gtr, bin_geq, un_not, un_neg, zq4, zq3, zq1, zq2, zq0, cond_true', cond_false', zq14, zq15, zq16, zq17, zq13, zq10, zq12, zq11, zq7, zq5, zq6, zq9, zq8, resK_nil, resK_tmp, ite_T, ite_F, upd_at, add_plain, add_zero', Nat.reduceEqDiff, fa8_0, fa8_1, fa8_2, fa8_3, fa14_0, fa14_1, fa19_0, len22, len24, fa26_0, fa26_1, fa26_2, len27, fa33_0, fa33_1, len35, fa77_0, fa77_1, fa88_0, fa88_1, fa88_2, fa88_3, fa88_4, fa88_5, fa114_0, fa114_1, fa114_2, fa124_0, fa124_1, len134, len136, len154, fa156_0, fa156_1, fa156_2, fa156_3, fa156_4, fa156_5, fa156_6, fa184_0, fa184_1, fa200_0, fa200_1, fa200_2, fa200_3, fa215_0, fa215_1, fa215_2, fa215_3, fa215_4, len218, len271, fa274_0, fa274_1, fa274_2, fa303_0, fa303_1, fa303_2, fa303_3, fa314_0, fa314_1, fa314_2, fa314_3, fa314_4, fa314_5, fa314_6, fa314_7, fa314_8, fa314_9, fa314_10]
    exact hK _ _ ⟨f1, H.get 10 rfl⟩
  rintro f w9 ⟨f1, g⟩
  have H := H.step g
  simp only [f1]
  refine drawIsUseful_c (H.get 2 rfl) fun w10 g2 Y2 cy2 g hG2 => ?_
  have H := (H.step g).addG hG2.1 hG2.2
  simp only [List.cons_append, List.nil_append] at H
  refine newG H fun b5 w11 H => ?_
  simp only [List.cons_append, List.nil_append] at H
  rw [ldB_agg agg26 sz26 rfl (H.get 12 rfl)]
  refine implIsUseful_c (H.get 11 rfl) fun w12 g => ?_
  have H := H.step g
  simp only [bin_add, bin_sub, bin_mul, bin_eql, bin_neq, bin_lss, bin_leq, bin_gtr, bin_geq, un_not, un_neg, zq4, zq3, zq1, zq2, zq0, cond_true', cond_false', zq14, zq15, zq16, zq17, zq13, zq10, zq12, zq11, zq7, zq5, zq6, zq9, zq8, resK_nil, resK_tmp, ite_T, ite_F, upd_at, add_plain, add_zero', Nat.reduceEqDiff, fa8_0, fa8_1, fa8_2, fa8_3, fa14_0, fa14_1, fa19_0, len22, len24, fa26_0, fa26_1, fa26_2, len27, fa33_0, fa33_1, len35, fa77_0, fa77_1, fa88_0, fa88_1, fa88_2, fa88_3, fa88_4, fa88_5, fa114_0, fa114_1, fa114_2, fa124_0, fa124_1, len134, len136, len154, fa156_0, fa156_1, fa156_2, fa156_3, fa156_4, fa156_5, fa156_6, fa184_0, fa184_1, fa200_0, fa200_1, fa200_2, fa200_3, fa215_0, fa215_1, fa215_2, fa215_3, fa215_4, len218, len271, fa274_0, fa274_1, fa274_2, fa303_0, fa303_1, fa303_2, fa303_3, fa314_0, fa314_1, fa314_2, fa314_3, fa314_4, fa314_5, fa314_6, fa314_7, fa314_8, fa314_9, fa314_10]
  rw [ldB_agg agg26 sz26 rfl (H.get 12 rfl)]
  refine specIsUseful_c (H.get 11 rfl) fun w13 g => ?_
  have H := H.step g
  simp only [bin_add, bin_sub, bin_mul, bin_eql, bin_neq, bin_lss, bin_leq, bin_gtr, bin_geq, un_not, un_neg, zq4, zq3, zq1, zq2, zq0, cond_true', cond_false', zq14, zq15, zq16, zq17, zq13, zq10, zq12, zq11, zq7, zq5, zq6, zq9, zq8, resK_nil, resK_tmp, ite_T, ite_F, upd_at, add_plain, add_zero', Nat.reduceEqDiff, fa8_0, fa8_1, fa8_2, fa8_3, fa14_0, fa14_1, fa19_0, len22, len24, fa26_0, fa26_1, fa26_2, len27, fa33_0, fa33_1, len35, fa77_0, fa77_1, fa88_0, fa88_1, fa88_2, fa88_3, fa88_4, fa88_5, fa114_0, fa114_1, fa114_2, fa124_0, fa124_1, len134, len136, len154, fa156_0, fa156_1, fa156_2, fa156_3, fa156_4, fa156_5, fa156_6, fa184_0, fa184_1, fa200_0, fa200_1, fa200_2, fa200_3, fa215_0, fa215_1, fa215_2, fa215_3, fa215_4, len218, len271, fa274_0, fa274_1, fa274_2, fa303_0, fa303_1, fa303_2, fa303_3, fa314_0, fa314_1, fa314_2, fa314_3, fa314_4, fa314_5, fa314_6, fa314_7, fa314_8, fa314_9, fa314_10]
  rw [ldB_agg agg26 sz26 rfl (H.get 12 rfl)]
  refine implNullableOf_c (H.get 11 rfl) fun w14 X1 c1 g o => ?_
  have H := (H.step g).addI o.1 o.2
  simp only [List.cons_append, List.nil_append] at H
  simp only [bin_add, bin_sub, bin_mul, bin_eql, bin_neq, bin_lss, bin_leq, bin_gtr, bin_geq, un_not, un_neg, zq4, zq3, zq1, zq2, zq0, cond_true', cond_false', zq14, zq15, zq16, zq17, zq13, zq10, zq12, zq11, zq7, zq5, zq6, zq9, zq8, resK_nil, resK_tmp, ite_T, ite_F, upd_at, add_plain, add_zero', Nat.reduceEqDiff, fa8_0, fa8_1, fa8_2, fa8_3, fa14_0, fa14_1, fa19_0, len22, len24, fa26_0, fa26_1, fa26_2, len27, fa33_0, fa33_1, len35, fa77_0, fa77_1, fa88_0, fa88_1, fa88_2, fa88_3, fa88_4, fa88_5, fa114_0, fa114_1, fa114_2, fa124_0, fa124_1, len134, len136, len154, fa156_0, fa156_1, fa156_2, fa156_3, fa156_4, fa156_5, fa156_6, fa184_0, fa184_1, fa200_0, fa200_1, fa200_2, fa200_3, fa215_0, fa215_1, fa215_2, fa215_3, fa215_4, len218, len271, fa274_0, fa274_1, fa274_2, fa303_0, fa303_1, fa303_2, fa303_3, fa314_0, fa314_1, fa314_2, fa314_3, fa314_4, fa314_5, fa314_6, fa314_7, fa314_8, fa314_9, fa314_10]
  rw [ldB_agg agg26 sz26 rfl (H.get 12 rfl)]
  refine specNullableOf_c (H.get 11 rfl) fun w15 X2 c2 g o => ?_
  have H := (H.step g).addI o.1 o.2
  simp only [List.cons_append, List.nil_append] at H
  simp only [bin_add, bin_sub, bin_mul, bin_eql, bin_neq, bin_lss, bin_leq, bin_gtr, bin_geq, un_not, un_neg, zq4, zq3, zq1, zq2, zq0, cond_true', cond_false', zq14, zq15, zq16, zq17, zq13, zq10, zq12, zq11, zq7, zq5, zq6, zq9, zq8, resK_nil, resK_tmp, ite_T, ite_F, upd_at, add_plain, add_zero', Nat.reduceEqDiff, fa8_0, fa8_1, fa8_2, fa8_3, fa14_0, fa14_1, fa19_0, len22, len24, fa26_0, fa26_1, fa26_2, len27, fa33_0, fa33_1, len35, fa77_0, fa77_1, fa88_0, fa88_1, fa88_2, fa88_3, fa88_4, fa88_5, fa114_0, fa114_1, fa114_2, fa124_0, fa124_1, len134, len136, len154, fa156_0, fa156_1, fa156_2, fa156_3, fa156_4, fa156_5, fa156_6, fa184_0, fa184_1, fa200_0, fa200_1, fa200_2, fa200_3, fa215_0, fa215_1, fa215_2, fa215_3, fa215_4, len218, len271, fa274_0, fa274_1, fa274_2, fa303_0, fa303_1, fa303_2, fa303_3, fa314_0, fa314_1, fa314_2, fa314_3, fa314_4, fa314_5, fa314_6, fa314_7, fa314_8, fa314_9, fa314_10]
  rw [ldB_agg agg26 sz26 rfl (H.get 12 rfl)]
  refine implProductiveOf_c (H.get 11 rfl) fun w16 X3 c3 g o => ?_
  have H := (H.step g).addI o.1 o.2
  simp only [List.cons_append, List.nil_append] at H
  simp only [bin_add, bin_sub, bin_mul, bin_eql, bin_neq, bin_lss, bin_leq, bin_gtr, bin_geq, un_not, un_neg, zq4, zq3, zq1, zq2, zq0, cond_true', cond_false', zq14, zq15, zq16, zq17, zq13, zq10, zq12, zq11, zq7, zq5, zq6, zq9, zq8, resK_nil, resK_tmp, ite_T, ite_F, upd_at, add_plain, add_zero', Nat.reduceEqDiff, fa8_0, fa8_1, fa8_2, fa8_3, fa14_0, fa14_1, fa19_0, len22, len24, fa26_0, fa26_1, fa26_2, len27, fa33_0, fa33_1, len35, fa77_0, fa77_1, fa88_0, fa88_1, fa88_2, fa88_3, fa88_4, fa88_5, fa114_0, fa114_1, fa114_2, fa124_0, fa124_1, len134, len136, len154, fa156_0, fa156_1, fa156_2, fa156_3, fa156_4, fa156_5, fa156_6, fa184_0, fa184_1, fa200_0, fa200_1, fa200_2, fa200_3, fa215_0, fa215_1, fa215_2, fa215_3, fa215_4, len218, len271, fa274_0, fa274_1, fa274_2, fa303_0, fa303_1, fa303_2, fa303_3, fa314_0, fa314_1, fa314_2, fa314_3, fa314_4, fa314_5, fa314_6, fa314_7, fa314_8, fa314_9, fa314_10]
  rw [ldB_agg agg26 sz26 rfl (H.get 12 rfl)]
  refine specProductiveOf_c (H.get 11 rfl) fun w17 X4 c4 g o => ?_
  have H := (H.step g).addI o.1 o.2
  simp only [List.cons_append, List.nil_append] at H
  simp only [bin_add, bin_sub, bin_mul, bin_eql, bin_neq, bin_lss, bin_leq, bin_gtr, bin_geq, un_not, un_neg, zq4, zq3, zq1, zq2, zq0, cond_true', cond_false', zq14, zq15, zq16, zq17, zq13, zq10, zq12, zq11, zq7, zq5, zq6, zq9, zq8, resK_nil, resK_tmp, ite_T, ite_F, upd_at, add_plain, add_zero', Nat.reduceEqDiff, fa8_0, fa8_1, fa8_2, fa8_3, fa14_0, fa14_1, fa19_0, len22, len24, fa26_0, fa26_1, fa26_2, len27, fa33_0, fa33_1, len35, fa77_0, fa77_1, fa88_0, fa88_1, fa88_2, fa88_3, fa88_4, fa88_5, fa114_0, fa114_1, fa114_2, fa124_0, fa124_1, len134, len136, len154, fa156_0, fa156_1, fa156_2, fa156_3, fa156_4, fa156_5, fa156_6, fa184_0, fa184_1, fa200_0, fa200_1, fa200_2, fa200_3, fa215_0, fa215_1, fa215_2, fa215_3, fa215_4, len218, len271, fa274_0, fa274_1, fa274_2, fa303_0, fa303_1, fa303_2, fa303_3, fa314_0, fa314_1, fa314_2, fa314_3, fa314_4, fa314_5, fa314_6, fa314_7, fa314_8, fa314_9, fa314_10]
  rw [ldB_agg agg26 sz26 rfl (H.get 12 rfl)]
  refine implReachedOf_c (H.get 11 rfl) fun w18 X5 c5 g o => ?_
  have H := (H.step g).addI o.1 o.2
  simp only [List.cons_append, List.nil_append] at H
  simp only [bin_add, bin_sub, bin_mul, bin_eql, bin_neq, bin_lss, bin_leq, bin_gtr, bin_geq, un_not, un_neg, zq4, zq3, zq1, zq2, zq0, cond_true', cond_false', zq14, zq15, zq16, zq17, zq13, zq10, zq12, zq11, zq7, zq5, zq6, zq9, zq8, resK_nil, resK_tmp, ite_T, ite_F, upd_at, add_plain, add_zero', Nat.reduceEqDiff, fa8_0, fa8_1, fa8_2, fa8_3, fa14_0, fa14_1, fa19_0, len22, len24, fa26_0, fa26_1, fa26_2, len27, fa33_0, fa33_1, len35, fa77_0, fa77_1, fa88_0, fa88_1, fa88_2, fa88_3, fa88_4, fa88_5, fa114_0, fa114_1, fa114_2, fa124_0, fa124_1, len134, len136, len154, fa156_0, fa156_1, fa156_2, fa156_3, fa156_4, fa156_5, fa156_6, fa184_0, fa184_1, fa200_0, fa200_1, fa200_2, fa200_3, fa215_0, fa215_1, fa215_2, fa215_3, fa215_4, len218, len271, fa274_0, fa274_1, fa274_2, fa303_0, fa303_1, fa303_2, fa303_3, fa314_0, fa314_1, fa314_2, fa314_3, fa314_4, fa314_5, fa314_6, fa314_7, fa314_8, fa314_9, fa314_10]
  rw [ldB_agg agg26 sz26 rfl (H.get 12 rfl)]
  refine specReachedOf_c (H.get 11 rfl) fun w19 X6 c6 g o => ?_
  have H := (H.step g).addI o.1 o.2
  simp only [List.cons_append, List.nil_append] at H
  simp only [bin_add, bin_sub, bin_mul, bin_eql, bin_neq, bin_lss, bin_leq, bin_gtr, bin_geq, un_not, un_neg, zq4, zq3, zq1, zq2, zq0, cond_true', cond_false', zq14, zq15, zq16, zq17, zq13, zq10, zq12, zq11, zq7, zq5, zq6, zq9, zq8, resK_nil, resK_tmp, ite_T, ite_F, upd_at, add_plain, add_zero', Nat.reduceEqDiff, fa8_0, fa8_1, fa8_2, fa8_3, fa14_0, fa14_1, fa19_0, len22, len24, fa26_0, fa26_1, fa26_2, len27, fa33_0, fa33_1, len35, fa77_0, fa77_1, fa88_0, fa88_1, fa88_2, fa88_3, fa88_4, fa88_5, fa114_0, fa114_1, fa114_2, fa124_0, fa124_1, len134, len136, len154, fa156_0, fa156_1, fa156_2, fa156_3, fa156_4, fa156_5, fa156_6, fa184_0, fa184_1, fa200_0, fa200_1, fa200_2, fa200_3, fa215_0, fa215_1, fa215_2, fa215_3, fa215_4, len218, len271, fa274_0, fa274_1, fa274_2, fa303_0, fa303_1, fa303_2, fa303_3, fa314_0, fa314_1, fa314_2, fa314_3, fa314_4, fa314_5, fa314_6, fa314_7, fa314_8, fa314_9, fa314_10]
  rw [ldB_agg agg26 sz26 rfl (H.get 12 rfl)]
  refine implGrowingOf_c (H.get 11 rfl) fun w20 X7 c7 g o => ?_
  have H := (H.step g).addI o.1 o.2
  simp only [List.cons_append, List.nil_append] at H
  simp only [bin_add, bin_sub, bin_mul, bin_eql, bin_neq, bin_lss, bin_leq, bin_gtr, bin_geq, un_not, un_neg, zq4, zq3, zq1, zq2, zq0, cond_true', cond_false', zq14, zq15, zq16, zq17, zq13, zq10, zq12, zq11, zq7, zq5, zq6, zq9, zq8, resK_nil, resK_tmp, ite_T, ite_F, upd_at, add_plain, add_zero', Nat.reduceEqDiff, fa8_0, fa8_1, fa8_2, fa8_3, fa14_0, fa14_1, fa19_0, len22, len24, fa26_0, fa26_1, fa26_2, len27, fa33_0, fa33_1, len35, fa77_0, fa77_1, fa88_0, fa88_1, fa88_2, fa88_3, fa88_4, fa88_5, fa114_0, fa114_1, fa114_2, fa124_0, fa124_1, len134, len136, len154, fa156_0, fa156_1, fa156_2, fa156_3, fa156_4, fa156_5, fa156_6, fa184_0, fa184_1, fa200_0, fa200_1, fa200_2, fa200_3, fa215_0, fa215_1, fa215_2, fa215_3, fa215_4, len218, len271, fa274_0, fa274_1, fa274_2, fa303_0, fa303_1, fa303_2, fa303_3, fa314_0, fa314_1, fa314_2, fa314_3, fa314_4, fa314_5, fa314_6, fa314_7, fa314_8, fa314_9, fa314_10]
  rw [ldB_agg agg26 sz26 rfl (H.get 12 rfl)]
  refine specGrowingOf_c (H.get 11 rfl) fun w21 X8 c8 g o => ?_
  have H := (H.step g).addI o.1 o.2
  simp only [List.cons_append, List.nil_append] at H
  simp only [beql, beq_self_eq_true, bin_add, bin_sub, bin_mul, bin_eql, bin_neq, bin_lss, bin_leq, bin_gtr, bin_geq, un_not, un_neg, zq4, zq3, zq1, zq2, zq0, cond_true', cond_false', zq14, zq15, zq16, zq17, zq13, zq10, zq12, zq11, zq7, zq5, zq6, zq9, zq8, resK_nil, resK_tmp, ite_T, ite_F, upd_at, add_plain, add_zero', Nat.reduceEqDiff, fa8_0, fa8_1, fa8_2, fa8_3, fa14_0, fa14_1, fa19_0, len22, len24, fa26_0, fa26_1, fa26_2, len27, fa33_0, fa33_1, len35, fa77_0, fa77_1, fa88_0, fa88_1, fa88_2, fa88_3, fa88_4, fa88_5, fa114_0, fa114_1, fa114_2, fa124_0, fa124_1, len134, len136, len154, fa156_0, fa156_1, fa156_2, fa156_3, fa156_4, fa156_5, fa156_6, fa184_0, fa184_1, fa200_0, fa200_1, fa200_2, fa200_3, fa215_0, fa215_1, fa215_2, fa215_3, fa215_4, len218, len271, fa274_0, fa274_1, fa274_2, fa303_0, fa303_1, fa303_2, fa303_3, fa314_0, fa314_1, fa314_2, fa314_3, fa314_4, fa314_5, fa314_6, fa314_7, fa314_8, fa314_9, fa314_10]
  refine sameInts_c (H.get 13 rfl).1 (H.get 14 rfl).1 fun w22 g => ?_
  have H := H.step g
  simp only [decide_true, beql, beq_self_eq_true, bin_add, bin_sub, bin_mul, bin_eql, bin_neq, bin_lss, bin_leq, bin_gtr, bin_geq, un_not, un_neg, zq4, zq3, zq1, zq2, zq0, cond_true', cond_false', zq14, zq15, zq16, zq17, zq13, zq10, zq12, zq11, zq7, zq5, zq6, zq9, zq8, resK_nil, resK_tmp, ite_T, ite_F, upd_at, add_plain, add_zero', Nat.reduceEqDiff, fa8_0, fa8_1, fa8_2, fa8_3, fa14_0, fa14_1, fa19_0, len22, len24, fa26_0, fa26_1, fa26_2, len27, fa33_0, fa33_1, len35, fa77_0, fa77_1, fa88_0, fa88_1, fa88_2, fa88_3, fa88_4, fa88_5, fa114_0, fa114_1, fa114_2, fa124_0, fa124_1, len134, len136, len154, fa156_0, fa156_1, fa156_2, fa156_3, fa156_4, fa156_5, fa156_6, fa184_0, fa184_1, fa200_0, fa200_1, fa200_2, fa200_3, fa215_0, fa215_1, fa215_2, fa215_3, fa215_4, len218, len271, fa274_0, fa274_1, fa274_2, fa303_0, fa303_1, fa303_2, fa303_3, fa314_0, fa314_1, fa314_2, fa314_3, fa314_4, fa314_5, fa314_6, fa314_7, fa314_8, fa314_9, fa314_10]
  refine sameInts_c (H.get 15 rfl).1 (H.get 16 rfl).1 fun w23 g => ?_
  have H := H.step g
  simp only [decide_true, beql, beq_self_eq_true, bin_add, bin_sub, bin_mul, bin_eql, bin_neq, bin_lss, bin_leq, bin_gtr, bin_geq, un_not, un_neg, zq4, zq3, zq1, zq2, zq0, cond_true', cond_false', zq14, zq15, zq16, zq17, zq13, zq10, zq12, zq11, zq7, zq5, zq6, zq9, zq8, resK_nil, resK_tmp, ite_T, ite_F, upd_at, add_plain, add_zero', Nat.reduceEqDiff, fa8_0, fa8_1, fa8_2, fa8_3, fa14_0, fa14_1, fa19_0, len22, len24, fa26_0, fa26_1, fa26_2, len27, fa33_0, fa33_1, len35, fa77_0, fa77_1, fa88_0, fa88_1, fa88_2, fa88_3, fa88_4, fa88_5, fa114_0, fa114_1, fa114_2, fa124_0, fa124_1, len134, len136, len154, fa156_0, fa156_1, fa156_2, fa156_3, fa156_4, fa156_5, fa156_6, fa184_0, fa184_1, fa200_0, fa200_1, fa200_2, fa200_3, fa215_0, fa215_1, fa215_2, fa215_3, fa215_4, len218, len271, fa274_0, fa274_1, fa274_2, fa303_0, fa303_1, fa303_2, fa303_3, fa314_0, fa314_1, fa314_2, fa314_3, fa314_4, fa314_5, fa314_6, fa314_7, fa314_8, fa314_9, fa314_10]
  refine sameInts_c (H.get 17 rfl).1 (H.get 18 rfl).1 fun w24 g => ?_
  have H := H.step g
  simp only [decide_true, beql, beq_self_eq_true, bin_add, bin_sub, bin_mul, bin_eql, bin_neq, bin_lss, bin_leq, bin_gtr, bin_geq, un_not, un_neg, zq4, zq3, zq1, zq2, zq0, cond_true', cond_false', zq14, zq15, zq16, zq17, zq13, zq10, zq12, zq11, zq7, zq5, zq6, zq9, zq8, resK_nil, resK_tmp, ite_T, ite_F, upd_at, add_plain, add_zero', Nat.reduceEqDiff, fa8_0, fa8_1, fa8_2, fa8_3, fa14_0, fa14_1, fa19_0, len22, len24, fa26_0, fa26_1, fa26_2, len27, fa33_0, fa33_1, len35, fa77_0, fa77_1, fa88_0, fa88_1, fa88_2, fa88_3, fa88_4, fa88_5, fa114_0, fa114_1, fa114_2, fa124_0, fa124_1, len134, len136, len154, fa156_0, fa156_1, fa156_2, fa156_3, fa156_4, fa156_5, fa156_6, fa184_0, fa184_1, fa200_0, fa200_1, fa200_2, fa200_3, fa215_0, fa215_1, fa215_2, fa215_3, fa215_4, len218, len271, fa274_0, fa274_1, fa274_2, fa303_0, fa303_1, fa303_2, fa303_3, fa314_0, fa314_1, fa314_2, fa314_3, fa314_4, fa314_5, fa314_6, fa314_7, fa314_8, fa314_9, fa314_10]
  refine sameInts_c (H.get 19 rfl).1 (H.get 20 rfl).1 fun w25 g => ?_
  have H := H.step g
  simp only [decide_true, bin_add, bin_sub, bin_mul, bin_eql, bin_neq, bin_lss, bin_leq, bin_gtr, bin_geq, un_not, un_neg, zq4, zq3, zq1, zq2, zq0, cond_true', cond_false', zq14, zq15, zq16, zq17, zq13, zq10, zq12, zq11, zq7, zq5, zq6, zq9, zq8, resK_nil, resK_tmp, ite_T, ite_F, upd_at, add_plain, add_zero', Nat.reduceEqDiff, fa8_0, fa8_1, fa8_2, fa8_3, fa14_0, fa14_1, fa19_0, len22, len24, fa26_0, fa26_1, fa26_2, len27, fa33_0, fa33_1, len35, fa77_0, fa77_1, fa88_0, fa88_1, fa88_2, fa88_3, fa88_4, fa88_5, fa114_0, fa114_1, fa114_2, fa124_0, fa124_1, len134, len136, len154, fa156_0, fa156_1, fa156_2, fa156_3, fa156_4, fa156_5, fa156_6, fa184_0, fa184_1, fa200_0, fa200_1, fa200_2, fa200_3, fa215_0, fa215_1, fa215_2, fa215_3, fa215_4, len218, len271, fa274_0, fa274_1, fa274_2, fa303_0, fa303_1, fa303_2, fa303_3, fa314_0, fa314_1, fa314_2, fa314_3, fa314_4, fa314_5, fa314_6, fa314_7, fa314_8, fa314_9, fa314_10]
  exact hk _ (H.get 0 rfl)
end Go.Proofs.Ytegcjkhebecgbaa

/- Facts of the program alone, that each row asks for: its init order's words, and that it is laid out. -/
set_option maxRecDepth 100000
namespace Go.Proofs.Ytegcjkhebecgbaa
open Go
theorem make_of {P : Program} {W : List (List Char)} {c : List Char} {rest : List (List Char)} (h : behindMainWord (wordsSigns P.initOrder.toList) = W) (hW : W = c :: rest) (hc : (c == "gc".toList || c == "spec".toList) = false) (h2 : (c == "cut".toList) = true) : P.make = some .cut := by
  unfold Program.make
  rw [h, hW]
  dsimp only
  rw [if_neg (by rw [hc]; exact Bool.false_ne_true), if_pos (by rw [h2]; rfl)]
theorem lifts_of {P : Program} {W : List (List Char)} (h : behindMainWord (wordsSigns P.initOrder.toList) = W) (h1 : (W.head? == some "carried".toList) = false) (h2 : (stripLifts liftWords W).1.contains "finals" = false) : P.liftsFinal = false := by
  unfold Program.liftsFinal Program.headLifts
  rw [h]
  simp only [h1, Bool.false_and, Bool.false_or]
  split
  · exact h2
  · rfl
theorem may_of {P : Program} {W : List (List Char)} {c : List Char} {rest : List (List Char)} {l : List String} (h : behindMainWord (wordsSigns P.initOrder.toList) = W) (hW : W = c :: rest) (hl : P.laysLater = false) (hb : P.bearsReflect = false) (hs : stripLifts liftWords (c :: rest) = (l, c :: rest)) (h2 : (c == "cut".toList) = true) (h3 : l.contains "leanrows" = false) (hd : P.doorFits l = true) : P.mayEnter = true := by
  unfold Program.mayEnter
  rw [h, hW]
  have h4 : (some c == some "cut".toList) = true := h2
  simp only [hs, hl, hb, h3, hd, h4, List.head?_cons, Bool.not_false, Bool.and_true, Bool.or_true]
def signs : List Char := Char.ofNat 104 :: Char.ofNat 97 :: Char.ofNat 114 :: Char.ofNat 110 :: Char.ofNat 101 :: Char.ofNat 115 :: Char.ofNat 115 :: Char.ofNat 32 :: Char.ofNat 54 :: Char.ofNat 56 :: Char.ofNat 98 :: Char.ofNat 99 :: Char.ofNat 101 :: Char.ofNat 53 :: Char.ofNat 101 :: Char.ofNat 51 :: Char.ofNat 48 :: Char.ofNat 98 :: Char.ofNat 99 :: Char.ofNat 100 :: Char.ofNat 53 :: Char.ofNat 48 :: Char.ofNat 57 :: Char.ofNat 53 :: Char.ofNat 50 :: Char.ofNat 99 :: Char.ofNat 57 :: Char.ofNat 55 :: Char.ofNat 55 :: Char.ofNat 51 :: Char.ofNat 57 :: Char.ofNat 97 :: Char.ofNat 99 :: Char.ofNat 97 :: Char.ofNat 98 :: Char.ofNat 101 :: Char.ofNat 102 :: Char.ofNat 48 :: Char.ofNat 52 :: Char.ofNat 57 :: Char.ofNat 51 :: Char.ofNat 48 :: Char.ofNat 48 :: Char.ofNat 48 :: Char.ofNat 56 :: Char.ofNat 52 :: Char.ofNat 101 :: Char.ofNat 101 :: Char.ofNat 57 :: Char.ofNat 53 :: Char.ofNat 57 :: Char.ofNat 50 :: Char.ofNat 101 :: Char.ofNat 52 :: Char.ofNat 50 :: Char.ofNat 50 :: Char.ofNat 48 :: Char.ofNat 98 :: Char.ofNat 48 :: Char.ofNat 51 :: Char.ofNat 100 :: Char.ofNat 98 :: Char.ofNat 56 :: Char.ofNat 101 :: Char.ofNat 54 :: Char.ofNat 52 :: Char.ofNat 99 :: Char.ofNat 98 :: Char.ofNat 53 :: Char.ofNat 55 :: Char.ofNat 49 :: Char.ofNat 98 :: Char.ofNat 32 :: Char.ofNat 99 :: Char.ofNat 117 :: Char.ofNat 116 :: Char.ofNat 32 :: Char.ofNat 97 :: Char.ofNat 116 :: Char.ofNat 32 :: Char.ofNat 108 :: Char.ofNat 111 :: Char.ofNat 111 :: Char.ofNat 112 :: Char.ofNat 46 :: Char.ofNat 101 :: Char.ofNat 120 :: Char.ofNat 97 :: Char.ofNat 109 :: Char.ofNat 112 :: Char.ofNat 108 :: Char.ofNat 101 :: Char.ofNat 47 :: Char.ofNat 103 :: Char.ofNat 48 :: Char.ofNat 48 :: Char.ofNat 55 :: Char.ofNat 53 :: Char.ofNat 56 :: Char.ofNat 47 :: Char.ofNat 108 :: Char.ofNat 97 :: Char.ofNat 119 :: Char.ofNat 115 :: Char.ofNat 46 :: Char.ofNat 70 :: Char.ofNat 110 :: Char.ofNat 68 :: Char.ofNat 101 :: Char.ofNat 114 :: Char.ofNat 105 :: Char.ofNat 118 :: Char.ofNat 101 :: Char.ofNat 115 :: Char.ofNat 32 :: Char.ofNat 108 :: Char.ofNat 111 :: Char.ofNat 111 :: Char.ofNat 112 :: Char.ofNat 46 :: Char.ofNat 101 :: Char.ofNat 120 :: Char.ofNat 97 :: Char.ofNat 109 :: Char.ofNat 112 :: Char.ofNat 108 :: Char.ofNat 101 :: Char.ofNat 47 :: Char.ofNat 103 :: Char.ofNat 48 :: Char.ofNat 48 :: Char.ofNat 55 :: Char.ofNat 53 :: Char.ofNat 56 :: Char.ofNat 47 :: Char.ofNat 108 :: Char.ofNat 97 :: Char.ofNat 119 :: Char.ofNat 115 :: Char.ofNat 46 :: Char.ofNat 70 :: Char.ofNat 110 :: Char.ofNat 70 :: Char.ofNat 105 :: Char.ofNat 114 :: Char.ofNat 115 :: Char.ofNat 116 :: Char.ofNat 115 :: Char.ofNat 32 :: Char.ofNat 108 :: Char.ofNat 111 :: Char.ofNat 111 :: Char.ofNat 112 :: Char.ofNat 46 :: Char.ofNat 101 :: Char.ofNat 120 :: Char.ofNat 97 :: Char.ofNat 109 :: Char.ofNat 112 :: Char.ofNat 108 :: Char.ofNat 101 :: Char.ofNat 47 :: Char.ofNat 103 :: Char.ofNat 48 :: Char.ofNat 48 :: Char.ofNat 55 :: Char.ofNat 53 :: Char.ofNat 56 :: Char.ofNat 47 :: Char.ofNat 108 :: Char.ofNat 97 :: Char.ofNat 119 :: Char.ofNat 115 :: Char.ofNat 46 :: Char.ofNat 70 :: Char.ofNat 110 :: Char.ofNat 66 :: Char.ofNat 101 :: Char.ofNat 115 :: Char.ofNat 105 :: Char.ofNat 100 :: Char.ofNat 101 :: Char.ofNat 32 :: Char.ofNat 108 :: Char.ofNat 111 :: Char.ofNat 111 :: Char.ofNat 112 :: Char.ofNat 46 :: Char.ofNat 101 :: Char.ofNat 120 :: Char.ofNat 97 :: Char.ofNat 109 :: Char.ofNat 112 :: Char.ofNat 108 :: Char.ofNat 101 :: Char.ofNat 47 :: Char.ofNat 103 :: Char.ofNat 48 :: Char.ofNat 48 :: Char.ofNat 55 :: Char.ofNat 53 :: Char.ofNat 56 :: Char.ofNat 47 :: Char.ofNat 108 :: Char.ofNat 97 :: Char.ofNat 119 :: Char.ofNat 115 :: Char.ofNat 46 :: Char.ofNat 70 :: Char.ofNat 110 :: Char.ofNat 82 :: Char.ofNat 101 :: Char.ofNat 119 :: Char.ofNat 114 :: Char.ofNat 105 :: Char.ofNat 116 :: Char.ofNat 101 :: Char.ofNat 115 :: Char.ofNat 32 :: Char.ofNat 108 :: Char.ofNat 111 :: Char.ofNat 111 :: Char.ofNat 112 :: Char.ofNat 46 :: Char.ofNat 101 :: Char.ofNat 120 :: Char.ofNat 97 :: Char.ofNat 109 :: Char.ofNat 112 :: Char.ofNat 108 :: Char.ofNat 101 :: Char.ofNat 47 :: Char.ofNat 103 :: Char.ofNat 48 :: Char.ofNat 48 :: Char.ofNat 55 :: Char.ofNat 53 :: Char.ofNat 56 :: Char.ofNat 47 :: Char.ofNat 108 :: Char.ofNat 97 :: Char.ofNat 119 :: Char.ofNat 115 :: Char.ofNat 46 :: Char.ofNat 70 :: Char.ofNat 110 :: Char.ofNat 70 :: Char.ofNat 105 :: Char.ofNat 110 :: Char.ofNat 105 :: Char.ofNat 116 :: Char.ofNat 101 :: Char.ofNat 32 :: Char.ofNat 108 :: Char.ofNat 111 :: Char.ofNat 111 :: Char.ofNat 112 :: Char.ofNat 46 :: Char.ofNat 101 :: Char.ofNat 120 :: Char.ofNat 97 :: Char.ofNat 109 :: Char.ofNat 112 :: Char.ofNat 108 :: Char.ofNat 101 :: Char.ofNat 47 :: Char.ofNat 103 :: Char.ofNat 48 :: Char.ofNat 48 :: Char.ofNat 55 :: Char.ofNat 53 :: Char.ofNat 56 :: Char.ofNat 47 :: Char.ofNat 108 :: Char.ofNat 97 :: Char.ofNat 119 :: Char.ofNat 115 :: Char.ofNat 46 :: Char.ofNat 70 :: Char.ofNat 110 :: Char.ofNat 85 :: Char.ofNat 115 :: Char.ofNat 101 :: Char.ofNat 102 :: Char.ofNat 117 :: Char.ofNat 108 :: Char.ofNat 32 :: Char.ofNat 108 :: Char.ofNat 111 :: Char.ofNat 111 :: Char.ofNat 112 :: Char.ofNat 46 :: Char.ofNat 101 :: Char.ofNat 120 :: Char.ofNat 97 :: Char.ofNat 109 :: Char.ofNat 112 :: Char.ofNat 108 :: Char.ofNat 101 :: Char.ofNat 47 :: Char.ofNat 103 :: Char.ofNat 48 :: Char.ofNat 48 :: Char.ofNat 55 :: Char.ofNat 53 :: Char.ofNat 56 :: Char.ofNat 47 :: Char.ofNat 108 :: Char.ofNat 97 :: Char.ofNat 119 :: Char.ofNat 115 :: Char.ofNat 46 :: Char.ofNat 70 :: Char.ofNat 110 :: Char.ofNat 85 :: Char.ofNat 110 :: Char.ofNat 108 :: Char.ofNat 105 :: Char.ofNat 107 :: Char.ofNat 101 :: Char.ofNat 32 :: Char.ofNat 108 :: Char.ofNat 111 :: Char.ofNat 111 :: Char.ofNat 112 :: Char.ofNat 46 :: Char.ofNat 101 :: Char.ofNat 120 :: Char.ofNat 97 :: Char.ofNat 109 :: Char.ofNat 112 :: Char.ofNat 108 :: Char.ofNat 101 :: Char.ofNat 47 :: Char.ofNat 103 :: Char.ofNat 48 :: Char.ofNat 48 :: Char.ofNat 55 :: Char.ofNat 53 :: Char.ofNat 56 :: Char.ofNat 47 :: Char.ofNat 108 :: Char.ofNat 97 :: Char.ofNat 119 :: Char.ofNat 115 :: Char.ofNat 46 :: Char.ofNat 70 :: Char.ofNat 110 :: Char.ofNat 67 :: Char.ofNat 101 :: Char.ofNat 108 :: Char.ofNat 108 :: Char.ofNat 115 :: Char.ofNat 32 :: Char.ofNat 108 :: Char.ofNat 111 :: Char.ofNat 111 :: Char.ofNat 112 :: Char.ofNat 46 :: Char.ofNat 101 :: Char.ofNat 120 :: Char.ofNat 97 :: Char.ofNat 109 :: Char.ofNat 112 :: Char.ofNat 108 :: Char.ofNat 101 :: Char.ofNat 47 :: Char.ofNat 103 :: Char.ofNat 48 :: Char.ofNat 48 :: Char.ofNat 55 :: Char.ofNat 53 :: Char.ofNat 56 :: Char.ofNat 47 :: Char.ofNat 108 :: Char.ofNat 97 :: Char.ofNat 119 :: Char.ofNat 115 :: Char.ofNat 46 :: Char.ofNat 70 :: Char.ofNat 110 :: Char.ofNat 77 :: Char.ofNat 101 :: Char.ofNat 110 :: Char.ofNat 100 :: Char.ofNat 32 :: Char.ofNat 108 :: Char.ofNat 111 :: Char.ofNat 111 :: Char.ofNat 112 :: Char.ofNat 46 :: Char.ofNat 101 :: Char.ofNat 120 :: Char.ofNat 97 :: Char.ofNat 109 :: Char.ofNat 112 :: Char.ofNat 108 :: Char.ofNat 101 :: Char.ofNat 47 :: Char.ofNat 103 :: Char.ofNat 48 :: Char.ofNat 48 :: Char.ofNat 55 :: Char.ofNat 53 :: Char.ofNat 56 :: Char.ofNat 47 :: Char.ofNat 108 :: Char.ofNat 97 :: Char.ofNat 119 :: Char.ofNat 115 :: Char.ofNat 46 :: Char.ofNat 70 :: Char.ofNat 110 :: Char.ofNat 80 :: Char.ofNat 117 :: Char.ofNat 109 :: Char.ofNat 112 :: Char.ofNat 32 :: Char.ofNat 108 :: Char.ofNat 111 :: Char.ofNat 111 :: Char.ofNat 112 :: Char.ofNat 46 :: Char.ofNat 101 :: Char.ofNat 120 :: Char.ofNat 97 :: Char.ofNat 109 :: Char.ofNat 112 :: Char.ofNat 108 :: Char.ofNat 101 :: Char.ofNat 47 :: Char.ofNat 103 :: Char.ofNat 48 :: Char.ofNat 48 :: Char.ofNat 55 :: Char.ofNat 53 :: Char.ofNat 56 :: Char.ofNat 47 :: Char.ofNat 108 :: Char.ofNat 97 :: Char.ofNat 119 :: Char.ofNat 115 :: Char.ofNat 46 :: Char.ofNat 70 :: Char.ofNat 110 :: Char.ofNat 76 :: Char.ofNat 111 :: Char.ofNat 110 :: Char.ofNat 103 :: Char.ofNat 69 :: Char.ofNat 110 :: Char.ofNat 111 :: Char.ofNat 117 :: Char.ofNat 103 :: Char.ofNat 104 :: Char.ofNat 32 :: Char.ofNat 108 :: Char.ofNat 111 :: Char.ofNat 111 :: Char.ofNat 112 :: Char.ofNat 46 :: Char.ofNat 101 :: Char.ofNat 120 :: Char.ofNat 97 :: Char.ofNat 109 :: Char.ofNat 112 :: Char.ofNat 108 :: Char.ofNat 101 :: Char.ofNat 47 :: Char.ofNat 103 :: Char.ofNat 48 :: Char.ofNat 48 :: Char.ofNat 55 :: Char.ofNat 53 :: Char.ofNat 56 :: Char.ofNat 47 :: Char.ofNat 108 :: Char.ofNat 97 :: Char.ofNat 119 :: Char.ofNat 115 :: Char.ofNat 46 :: Char.ofNat 70 :: Char.ofNat 110 :: Char.ofNat 84 :: Char.ofNat 117 :: Char.ofNat 114 :: Char.ofNat 110 :: Char.ofNat 101 :: Char.ofNat 100 :: []
theorem io0 : Try.prog.initOrder = "harness 68bce5e30bcd50952c97739acabef049300084ee9592e4220b03db8e64cb571b cut at loop.example/g00758/laws.FnDerives loop.example/g00758/laws.FnFirsts loop.example/g00758/laws.FnBeside loop.example/g00758/laws.FnRewrites loop.example/g00758/laws.FnFinite loop.example/g00758/laws.FnUseful loop.example/g00758/laws.FnUnlike loop.example/g00758/laws.FnCells loop.example/g00758/laws.FnMend loop.example/g00758/laws.FnPump loop.example/g00758/laws.FnLongEnough loop.example/g00758/laws.FnTurned" := by kernel_rfl
theorem io1 : "harness 68bce5e30bcd50952c97739acabef049300084ee9592e4220b03db8e64cb571b cut at loop.example/g00758/laws.FnDerives loop.example/g00758/laws.FnFirsts loop.example/g00758/laws.FnBeside loop.example/g00758/laws.FnRewrites loop.example/g00758/laws.FnFinite loop.example/g00758/laws.FnUseful loop.example/g00758/laws.FnUnlike loop.example/g00758/laws.FnCells loop.example/g00758/laws.FnMend loop.example/g00758/laws.FnPump loop.example/g00758/laws.FnLongEnough loop.example/g00758/laws.FnTurned" = String.ofList (Char.ofNat 104 :: Char.ofNat 97 :: Char.ofNat 114 :: Char.ofNat 110 :: Char.ofNat 101 :: Char.ofNat 115 :: Char.ofNat 115 :: Char.ofNat 32 :: Char.ofNat 54 :: Char.ofNat 56 :: Char.ofNat 98 :: Char.ofNat 99 :: Char.ofNat 101 :: Char.ofNat 53 :: Char.ofNat 101 :: Char.ofNat 51 :: Char.ofNat 48 :: Char.ofNat 98 :: Char.ofNat 99 :: Char.ofNat 100 :: Char.ofNat 53 :: Char.ofNat 48 :: Char.ofNat 57 :: Char.ofNat 53 :: Char.ofNat 50 :: Char.ofNat 99 :: Char.ofNat 57 :: Char.ofNat 55 :: Char.ofNat 55 :: Char.ofNat 51 :: Char.ofNat 57 :: Char.ofNat 97 :: Char.ofNat 99 :: Char.ofNat 97 :: Char.ofNat 98 :: Char.ofNat 101 :: Char.ofNat 102 :: Char.ofNat 48 :: Char.ofNat 52 :: Char.ofNat 57 :: Char.ofNat 51 :: Char.ofNat 48 :: Char.ofNat 48 :: Char.ofNat 48 :: Char.ofNat 56 :: Char.ofNat 52 :: Char.ofNat 101 :: Char.ofNat 101 :: Char.ofNat 57 :: Char.ofNat 53 :: Char.ofNat 57 :: Char.ofNat 50 :: Char.ofNat 101 :: Char.ofNat 52 :: Char.ofNat 50 :: Char.ofNat 50 :: Char.ofNat 48 :: Char.ofNat 98 :: Char.ofNat 48 :: Char.ofNat 51 :: Char.ofNat 100 :: Char.ofNat 98 :: Char.ofNat 56 :: Char.ofNat 101 :: Char.ofNat 54 :: Char.ofNat 52 :: Char.ofNat 99 :: Char.ofNat 98 :: Char.ofNat 53 :: Char.ofNat 55 :: Char.ofNat 49 :: Char.ofNat 98 :: Char.ofNat 32 :: Char.ofNat 99 :: Char.ofNat 117 :: Char.ofNat 116 :: Char.ofNat 32 :: Char.ofNat 97 :: Char.ofNat 116 :: Char.ofNat 32 :: Char.ofNat 108 :: Char.ofNat 111 :: Char.ofNat 111 :: Char.ofNat 112 :: Char.ofNat 46 :: Char.ofNat 101 :: Char.ofNat 120 :: Char.ofNat 97 :: Char.ofNat 109 :: Char.ofNat 112 :: Char.ofNat 108 :: Char.ofNat 101 :: Char.ofNat 47 :: Char.ofNat 103 :: Char.ofNat 48 :: Char.ofNat 48 :: Char.ofNat 55 :: Char.ofNat 53 :: Char.ofNat 56 :: Char.ofNat 47 :: Char.ofNat 108 :: Char.ofNat 97 :: Char.ofNat 119 :: Char.ofNat 115 :: Char.ofNat 46 :: Char.ofNat 70 :: Char.ofNat 110 :: Char.ofNat 68 :: Char.ofNat 101 :: Char.ofNat 114 :: Char.ofNat 105 :: Char.ofNat 118 :: Char.ofNat 101 :: Char.ofNat 115 :: Char.ofNat 32 :: Char.ofNat 108 :: Char.ofNat 111 :: Char.ofNat 111 :: Char.ofNat 112 :: Char.ofNat 46 :: Char.ofNat 101 :: Char.ofNat 120 :: Char.ofNat 97 :: Char.ofNat 109 :: Char.ofNat 112 :: Char.ofNat 108 :: Char.ofNat 101 :: Char.ofNat 47 :: Char.ofNat 103 :: Char.ofNat 48 :: Char.ofNat 48 :: Char.ofNat 55 :: Char.ofNat 53 :: Char.ofNat 56 :: Char.ofNat 47 :: Char.ofNat 108 :: Char.ofNat 97 :: Char.ofNat 119 :: Char.ofNat 115 :: Char.ofNat 46 :: Char.ofNat 70 :: Char.ofNat 110 :: Char.ofNat 70 :: Char.ofNat 105 :: Char.ofNat 114 :: Char.ofNat 115 :: Char.ofNat 116 :: Char.ofNat 115 :: Char.ofNat 32 :: Char.ofNat 108 :: Char.ofNat 111 :: Char.ofNat 111 :: Char.ofNat 112 :: Char.ofNat 46 :: Char.ofNat 101 :: Char.ofNat 120 :: Char.ofNat 97 :: Char.ofNat 109 :: Char.ofNat 112 :: Char.ofNat 108 :: Char.ofNat 101 :: Char.ofNat 47 :: Char.ofNat 103 :: Char.ofNat 48 :: Char.ofNat 48 :: Char.ofNat 55 :: Char.ofNat 53 :: Char.ofNat 56 :: Char.ofNat 47 :: Char.ofNat 108 :: Char.ofNat 97 :: Char.ofNat 119 :: Char.ofNat 115 :: Char.ofNat 46 :: Char.ofNat 70 :: Char.ofNat 110 :: Char.ofNat 66 :: Char.ofNat 101 :: Char.ofNat 115 :: Char.ofNat 105 :: Char.ofNat 100 :: Char.ofNat 101 :: Char.ofNat 32 :: Char.ofNat 108 :: Char.ofNat 111 :: Char.ofNat 111 :: Char.ofNat 112 :: Char.ofNat 46 :: Char.ofNat 101 :: Char.ofNat 120 :: Char.ofNat 97 :: Char.ofNat 109 :: Char.ofNat 112 :: Char.ofNat 108 :: Char.ofNat 101 :: Char.ofNat 47 :: Char.ofNat 103 :: Char.ofNat 48 :: Char.ofNat 48 :: Char.ofNat 55 :: Char.ofNat 53 :: Char.ofNat 56 :: Char.ofNat 47 :: Char.ofNat 108 :: Char.ofNat 97 :: Char.ofNat 119 :: Char.ofNat 115 :: Char.ofNat 46 :: Char.ofNat 70 :: Char.ofNat 110 :: Char.ofNat 82 :: Char.ofNat 101 :: Char.ofNat 119 :: Char.ofNat 114 :: Char.ofNat 105 :: Char.ofNat 116 :: Char.ofNat 101 :: Char.ofNat 115 :: Char.ofNat 32 :: Char.ofNat 108 :: Char.ofNat 111 :: Char.ofNat 111 :: Char.ofNat 112 :: Char.ofNat 46 :: Char.ofNat 101 :: Char.ofNat 120 :: Char.ofNat 97 :: Char.ofNat 109 :: Char.ofNat 112 :: Char.ofNat 108 :: Char.ofNat 101 :: Char.ofNat 47 :: Char.ofNat 103 :: Char.ofNat 48 :: Char.ofNat 48 :: Char.ofNat 55 :: Char.ofNat 53 :: Char.ofNat 56 :: Char.ofNat 47 :: Char.ofNat 108 :: Char.ofNat 97 :: Char.ofNat 119 :: Char.ofNat 115 :: Char.ofNat 46 :: Char.ofNat 70 :: Char.ofNat 110 :: Char.ofNat 70 :: Char.ofNat 105 :: Char.ofNat 110 :: Char.ofNat 105 :: Char.ofNat 116 :: Char.ofNat 101 :: Char.ofNat 32 :: Char.ofNat 108 :: Char.ofNat 111 :: Char.ofNat 111 :: Char.ofNat 112 :: Char.ofNat 46 :: Char.ofNat 101 :: Char.ofNat 120 :: Char.ofNat 97 :: Char.ofNat 109 :: Char.ofNat 112 :: Char.ofNat 108 :: Char.ofNat 101 :: Char.ofNat 47 :: Char.ofNat 103 :: Char.ofNat 48 :: Char.ofNat 48 :: Char.ofNat 55 :: Char.ofNat 53 :: Char.ofNat 56 :: Char.ofNat 47 :: Char.ofNat 108 :: Char.ofNat 97 :: Char.ofNat 119 :: Char.ofNat 115 :: Char.ofNat 46 :: Char.ofNat 70 :: Char.ofNat 110 :: Char.ofNat 85 :: Char.ofNat 115 :: Char.ofNat 101 :: Char.ofNat 102 :: Char.ofNat 117 :: Char.ofNat 108 :: Char.ofNat 32 :: Char.ofNat 108 :: Char.ofNat 111 :: Char.ofNat 111 :: Char.ofNat 112 :: Char.ofNat 46 :: Char.ofNat 101 :: Char.ofNat 120 :: Char.ofNat 97 :: Char.ofNat 109 :: Char.ofNat 112 :: Char.ofNat 108 :: Char.ofNat 101 :: Char.ofNat 47 :: Char.ofNat 103 :: Char.ofNat 48 :: Char.ofNat 48 :: Char.ofNat 55 :: Char.ofNat 53 :: Char.ofNat 56 :: Char.ofNat 47 :: Char.ofNat 108 :: Char.ofNat 97 :: Char.ofNat 119 :: Char.ofNat 115 :: Char.ofNat 46 :: Char.ofNat 70 :: Char.ofNat 110 :: Char.ofNat 85 :: Char.ofNat 110 :: Char.ofNat 108 :: Char.ofNat 105 :: Char.ofNat 107 :: Char.ofNat 101 :: Char.ofNat 32 :: Char.ofNat 108 :: Char.ofNat 111 :: Char.ofNat 111 :: Char.ofNat 112 :: Char.ofNat 46 :: Char.ofNat 101 :: Char.ofNat 120 :: Char.ofNat 97 :: Char.ofNat 109 :: Char.ofNat 112 :: Char.ofNat 108 :: Char.ofNat 101 :: Char.ofNat 47 :: Char.ofNat 103 :: Char.ofNat 48 :: Char.ofNat 48 :: Char.ofNat 55 :: Char.ofNat 53 :: Char.ofNat 56 :: Char.ofNat 47 :: Char.ofNat 108 :: Char.ofNat 97 :: Char.ofNat 119 :: Char.ofNat 115 :: Char.ofNat 46 :: Char.ofNat 70 :: Char.ofNat 110 :: Char.ofNat 67 :: Char.ofNat 101 :: Char.ofNat 108 :: Char.ofNat 108 :: Char.ofNat 115 :: Char.ofNat 32 :: Char.ofNat 108 :: Char.ofNat 111 :: Char.ofNat 111 :: Char.ofNat 112 :: Char.ofNat 46 :: Char.ofNat 101 :: Char.ofNat 120 :: Char.ofNat 97 :: Char.ofNat 109 :: Char.ofNat 112 :: Char.ofNat 108 :: Char.ofNat 101 :: Char.ofNat 47 :: Char.ofNat 103 :: Char.ofNat 48 :: Char.ofNat 48 :: Char.ofNat 55 :: Char.ofNat 53 :: Char.ofNat 56 :: Char.ofNat 47 :: Char.ofNat 108 :: Char.ofNat 97 :: Char.ofNat 119 :: Char.ofNat 115 :: Char.ofNat 46 :: Char.ofNat 70 :: Char.ofNat 110 :: Char.ofNat 77 :: Char.ofNat 101 :: Char.ofNat 110 :: Char.ofNat 100 :: Char.ofNat 32 :: Char.ofNat 108 :: Char.ofNat 111 :: Char.ofNat 111 :: Char.ofNat 112 :: Char.ofNat 46 :: Char.ofNat 101 :: Char.ofNat 120 :: Char.ofNat 97 :: Char.ofNat 109 :: Char.ofNat 112 :: Char.ofNat 108 :: Char.ofNat 101 :: Char.ofNat 47 :: Char.ofNat 103 :: Char.ofNat 48 :: Char.ofNat 48 :: Char.ofNat 55 :: Char.ofNat 53 :: Char.ofNat 56 :: Char.ofNat 47 :: Char.ofNat 108 :: Char.ofNat 97 :: Char.ofNat 119 :: Char.ofNat 115 :: Char.ofNat 46 :: Char.ofNat 70 :: Char.ofNat 110 :: Char.ofNat 80 :: Char.ofNat 117 :: Char.ofNat 109 :: Char.ofNat 112 :: Char.ofNat 32 :: Char.ofNat 108 :: Char.ofNat 111 :: Char.ofNat 111 :: Char.ofNat 112 :: Char.ofNat 46 :: Char.ofNat 101 :: Char.ofNat 120 :: Char.ofNat 97 :: Char.ofNat 109 :: Char.ofNat 112 :: Char.ofNat 108 :: Char.ofNat 101 :: Char.ofNat 47 :: Char.ofNat 103 :: Char.ofNat 48 :: Char.ofNat 48 :: Char.ofNat 55 :: Char.ofNat 53 :: Char.ofNat 56 :: Char.ofNat 47 :: Char.ofNat 108 :: Char.ofNat 97 :: Char.ofNat 119 :: Char.ofNat 115 :: Char.ofNat 46 :: Char.ofNat 70 :: Char.ofNat 110 :: Char.ofNat 76 :: Char.ofNat 111 :: Char.ofNat 110 :: Char.ofNat 103 :: Char.ofNat 69 :: Char.ofNat 110 :: Char.ofNat 111 :: Char.ofNat 117 :: Char.ofNat 103 :: Char.ofNat 104 :: Char.ofNat 32 :: Char.ofNat 108 :: Char.ofNat 111 :: Char.ofNat 111 :: Char.ofNat 112 :: Char.ofNat 46 :: Char.ofNat 101 :: Char.ofNat 120 :: Char.ofNat 97 :: Char.ofNat 109 :: Char.ofNat 112 :: Char.ofNat 108 :: Char.ofNat 101 :: Char.ofNat 47 :: Char.ofNat 103 :: Char.ofNat 48 :: Char.ofNat 48 :: Char.ofNat 55 :: Char.ofNat 53 :: Char.ofNat 56 :: Char.ofNat 47 :: Char.ofNat 108 :: Char.ofNat 97 :: Char.ofNat 119 :: Char.ofNat 115 :: Char.ofNat 46 :: Char.ofNat 70 :: Char.ofNat 110 :: Char.ofNat 84 :: Char.ofNat 117 :: Char.ofNat 114 :: Char.ofNat 110 :: Char.ofNat 101 :: Char.ofNat 100 :: []) := by kernel_rfl
theorem io : Try.prog.initOrder = String.ofList (Char.ofNat 104 :: Char.ofNat 97 :: Char.ofNat 114 :: Char.ofNat 110 :: Char.ofNat 101 :: Char.ofNat 115 :: Char.ofNat 115 :: Char.ofNat 32 :: Char.ofNat 54 :: Char.ofNat 56 :: Char.ofNat 98 :: Char.ofNat 99 :: Char.ofNat 101 :: Char.ofNat 53 :: Char.ofNat 101 :: Char.ofNat 51 :: Char.ofNat 48 :: Char.ofNat 98 :: Char.ofNat 99 :: Char.ofNat 100 :: Char.ofNat 53 :: Char.ofNat 48 :: Char.ofNat 57 :: Char.ofNat 53 :: Char.ofNat 50 :: Char.ofNat 99 :: Char.ofNat 57 :: Char.ofNat 55 :: Char.ofNat 55 :: Char.ofNat 51 :: Char.ofNat 57 :: Char.ofNat 97 :: Char.ofNat 99 :: Char.ofNat 97 :: Char.ofNat 98 :: Char.ofNat 101 :: Char.ofNat 102 :: Char.ofNat 48 :: Char.ofNat 52 :: Char.ofNat 57 :: Char.ofNat 51 :: Char.ofNat 48 :: Char.ofNat 48 :: Char.ofNat 48 :: Char.ofNat 56 :: Char.ofNat 52 :: Char.ofNat 101 :: Char.ofNat 101 :: Char.ofNat 57 :: Char.ofNat 53 :: Char.ofNat 57 :: Char.ofNat 50 :: Char.ofNat 101 :: Char.ofNat 52 :: Char.ofNat 50 :: Char.ofNat 50 :: Char.ofNat 48 :: Char.ofNat 98 :: Char.ofNat 48 :: Char.ofNat 51 :: Char.ofNat 100 :: Char.ofNat 98 :: Char.ofNat 56 :: Char.ofNat 101 :: Char.ofNat 54 :: Char.ofNat 52 :: Char.ofNat 99 :: Char.ofNat 98 :: Char.ofNat 53 :: Char.ofNat 55 :: Char.ofNat 49 :: Char.ofNat 98 :: Char.ofNat 32 :: Char.ofNat 99 :: Char.ofNat 117 :: Char.ofNat 116 :: Char.ofNat 32 :: Char.ofNat 97 :: Char.ofNat 116 :: Char.ofNat 32 :: Char.ofNat 108 :: Char.ofNat 111 :: Char.ofNat 111 :: Char.ofNat 112 :: Char.ofNat 46 :: Char.ofNat 101 :: Char.ofNat 120 :: Char.ofNat 97 :: Char.ofNat 109 :: Char.ofNat 112 :: Char.ofNat 108 :: Char.ofNat 101 :: Char.ofNat 47 :: Char.ofNat 103 :: Char.ofNat 48 :: Char.ofNat 48 :: Char.ofNat 55 :: Char.ofNat 53 :: Char.ofNat 56 :: Char.ofNat 47 :: Char.ofNat 108 :: Char.ofNat 97 :: Char.ofNat 119 :: Char.ofNat 115 :: Char.ofNat 46 :: Char.ofNat 70 :: Char.ofNat 110 :: Char.ofNat 68 :: Char.ofNat 101 :: Char.ofNat 114 :: Char.ofNat 105 :: Char.ofNat 118 :: Char.ofNat 101 :: Char.ofNat 115 :: Char.ofNat 32 :: Char.ofNat 108 :: Char.ofNat 111 :: Char.ofNat 111 :: Char.ofNat 112 :: Char.ofNat 46 :: Char.ofNat 101 :: Char.ofNat 120 :: Char.ofNat 97 :: Char.ofNat 109 :: Char.ofNat 112 :: Char.ofNat 108 :: Char.ofNat 101 :: Char.ofNat 47 :: Char.ofNat 103 :: Char.ofNat 48 :: Char.ofNat 48 :: Char.ofNat 55 :: Char.ofNat 53 :: Char.ofNat 56 :: Char.ofNat 47 :: Char.ofNat 108 :: Char.ofNat 97 :: Char.ofNat 119 :: Char.ofNat 115 :: Char.ofNat 46 :: Char.ofNat 70 :: Char.ofNat 110 :: Char.ofNat 70 :: Char.ofNat 105 :: Char.ofNat 114 :: Char.ofNat 115 :: Char.ofNat 116 :: Char.ofNat 115 :: Char.ofNat 32 :: Char.ofNat 108 :: Char.ofNat 111 :: Char.ofNat 111 :: Char.ofNat 112 :: Char.ofNat 46 :: Char.ofNat 101 :: Char.ofNat 120 :: Char.ofNat 97 :: Char.ofNat 109 :: Char.ofNat 112 :: Char.ofNat 108 :: Char.ofNat 101 :: Char.ofNat 47 :: Char.ofNat 103 :: Char.ofNat 48 :: Char.ofNat 48 :: Char.ofNat 55 :: Char.ofNat 53 :: Char.ofNat 56 :: Char.ofNat 47 :: Char.ofNat 108 :: Char.ofNat 97 :: Char.ofNat 119 :: Char.ofNat 115 :: Char.ofNat 46 :: Char.ofNat 70 :: Char.ofNat 110 :: Char.ofNat 66 :: Char.ofNat 101 :: Char.ofNat 115 :: Char.ofNat 105 :: Char.ofNat 100 :: Char.ofNat 101 :: Char.ofNat 32 :: Char.ofNat 108 :: Char.ofNat 111 :: Char.ofNat 111 :: Char.ofNat 112 :: Char.ofNat 46 :: Char.ofNat 101 :: Char.ofNat 120 :: Char.ofNat 97 :: Char.ofNat 109 :: Char.ofNat 112 :: Char.ofNat 108 :: Char.ofNat 101 :: Char.ofNat 47 :: Char.ofNat 103 :: Char.ofNat 48 :: Char.ofNat 48 :: Char.ofNat 55 :: Char.ofNat 53 :: Char.ofNat 56 :: Char.ofNat 47 :: Char.ofNat 108 :: Char.ofNat 97 :: Char.ofNat 119 :: Char.ofNat 115 :: Char.ofNat 46 :: Char.ofNat 70 :: Char.ofNat 110 :: Char.ofNat 82 :: Char.ofNat 101 :: Char.ofNat 119 :: Char.ofNat 114 :: Char.ofNat 105 :: Char.ofNat 116 :: Char.ofNat 101 :: Char.ofNat 115 :: Char.ofNat 32 :: Char.ofNat 108 :: Char.ofNat 111 :: Char.ofNat 111 :: Char.ofNat 112 :: Char.ofNat 46 :: Char.ofNat 101 :: Char.ofNat 120 :: Char.ofNat 97 :: Char.ofNat 109 :: Char.ofNat 112 :: Char.ofNat 108 :: Char.ofNat 101 :: Char.ofNat 47 :: Char.ofNat 103 :: Char.ofNat 48 :: Char.ofNat 48 :: Char.ofNat 55 :: Char.ofNat 53 :: Char.ofNat 56 :: Char.ofNat 47 :: Char.ofNat 108 :: Char.ofNat 97 :: Char.ofNat 119 :: Char.ofNat 115 :: Char.ofNat 46 :: Char.ofNat 70 :: Char.ofNat 110 :: Char.ofNat 70 :: Char.ofNat 105 :: Char.ofNat 110 :: Char.ofNat 105 :: Char.ofNat 116 :: Char.ofNat 101 :: Char.ofNat 32 :: Char.ofNat 108 :: Char.ofNat 111 :: Char.ofNat 111 :: Char.ofNat 112 :: Char.ofNat 46 :: Char.ofNat 101 :: Char.ofNat 120 :: Char.ofNat 97 :: Char.ofNat 109 :: Char.ofNat 112 :: Char.ofNat 108 :: Char.ofNat 101 :: Char.ofNat 47 :: Char.ofNat 103 :: Char.ofNat 48 :: Char.ofNat 48 :: Char.ofNat 55 :: Char.ofNat 53 :: Char.ofNat 56 :: Char.ofNat 47 :: Char.ofNat 108 :: Char.ofNat 97 :: Char.ofNat 119 :: Char.ofNat 115 :: Char.ofNat 46 :: Char.ofNat 70 :: Char.ofNat 110 :: Char.ofNat 85 :: Char.ofNat 115 :: Char.ofNat 101 :: Char.ofNat 102 :: Char.ofNat 117 :: Char.ofNat 108 :: Char.ofNat 32 :: Char.ofNat 108 :: Char.ofNat 111 :: Char.ofNat 111 :: Char.ofNat 112 :: Char.ofNat 46 :: Char.ofNat 101 :: Char.ofNat 120 :: Char.ofNat 97 :: Char.ofNat 109 :: Char.ofNat 112 :: Char.ofNat 108 :: Char.ofNat 101 :: Char.ofNat 47 :: Char.ofNat 103 :: Char.ofNat 48 :: Char.ofNat 48 :: Char.ofNat 55 :: Char.ofNat 53 :: Char.ofNat 56 :: Char.ofNat 47 :: Char.ofNat 108 :: Char.ofNat 97 :: Char.ofNat 119 :: Char.ofNat 115 :: Char.ofNat 46 :: Char.ofNat 70 :: Char.ofNat 110 :: Char.ofNat 85 :: Char.ofNat 110 :: Char.ofNat 108 :: Char.ofNat 105 :: Char.ofNat 107 :: Char.ofNat 101 :: Char.ofNat 32 :: Char.ofNat 108 :: Char.ofNat 111 :: Char.ofNat 111 :: Char.ofNat 112 :: Char.ofNat 46 :: Char.ofNat 101 :: Char.ofNat 120 :: Char.ofNat 97 :: Char.ofNat 109 :: Char.ofNat 112 :: Char.ofNat 108 :: Char.ofNat 101 :: Char.ofNat 47 :: Char.ofNat 103 :: Char.ofNat 48 :: Char.ofNat 48 :: Char.ofNat 55 :: Char.ofNat 53 :: Char.ofNat 56 :: Char.ofNat 47 :: Char.ofNat 108 :: Char.ofNat 97 :: Char.ofNat 119 :: Char.ofNat 115 :: Char.ofNat 46 :: Char.ofNat 70 :: Char.ofNat 110 :: Char.ofNat 67 :: Char.ofNat 101 :: Char.ofNat 108 :: Char.ofNat 108 :: Char.ofNat 115 :: Char.ofNat 32 :: Char.ofNat 108 :: Char.ofNat 111 :: Char.ofNat 111 :: Char.ofNat 112 :: Char.ofNat 46 :: Char.ofNat 101 :: Char.ofNat 120 :: Char.ofNat 97 :: Char.ofNat 109 :: Char.ofNat 112 :: Char.ofNat 108 :: Char.ofNat 101 :: Char.ofNat 47 :: Char.ofNat 103 :: Char.ofNat 48 :: Char.ofNat 48 :: Char.ofNat 55 :: Char.ofNat 53 :: Char.ofNat 56 :: Char.ofNat 47 :: Char.ofNat 108 :: Char.ofNat 97 :: Char.ofNat 119 :: Char.ofNat 115 :: Char.ofNat 46 :: Char.ofNat 70 :: Char.ofNat 110 :: Char.ofNat 77 :: Char.ofNat 101 :: Char.ofNat 110 :: Char.ofNat 100 :: Char.ofNat 32 :: Char.ofNat 108 :: Char.ofNat 111 :: Char.ofNat 111 :: Char.ofNat 112 :: Char.ofNat 46 :: Char.ofNat 101 :: Char.ofNat 120 :: Char.ofNat 97 :: Char.ofNat 109 :: Char.ofNat 112 :: Char.ofNat 108 :: Char.ofNat 101 :: Char.ofNat 47 :: Char.ofNat 103 :: Char.ofNat 48 :: Char.ofNat 48 :: Char.ofNat 55 :: Char.ofNat 53 :: Char.ofNat 56 :: Char.ofNat 47 :: Char.ofNat 108 :: Char.ofNat 97 :: Char.ofNat 119 :: Char.ofNat 115 :: Char.ofNat 46 :: Char.ofNat 70 :: Char.ofNat 110 :: Char.ofNat 80 :: Char.ofNat 117 :: Char.ofNat 109 :: Char.ofNat 112 :: Char.ofNat 32 :: Char.ofNat 108 :: Char.ofNat 111 :: Char.ofNat 111 :: Char.ofNat 112 :: Char.ofNat 46 :: Char.ofNat 101 :: Char.ofNat 120 :: Char.ofNat 97 :: Char.ofNat 109 :: Char.ofNat 112 :: Char.ofNat 108 :: Char.ofNat 101 :: Char.ofNat 47 :: Char.ofNat 103 :: Char.ofNat 48 :: Char.ofNat 48 :: Char.ofNat 55 :: Char.ofNat 53 :: Char.ofNat 56 :: Char.ofNat 47 :: Char.ofNat 108 :: Char.ofNat 97 :: Char.ofNat 119 :: Char.ofNat 115 :: Char.ofNat 46 :: Char.ofNat 70 :: Char.ofNat 110 :: Char.ofNat 76 :: Char.ofNat 111 :: Char.ofNat 110 :: Char.ofNat 103 :: Char.ofNat 69 :: Char.ofNat 110 :: Char.ofNat 111 :: Char.ofNat 117 :: Char.ofNat 103 :: Char.ofNat 104 :: Char.ofNat 32 :: Char.ofNat 108 :: Char.ofNat 111 :: Char.ofNat 111 :: Char.ofNat 112 :: Char.ofNat 46 :: Char.ofNat 101 :: Char.ofNat 120 :: Char.ofNat 97 :: Char.ofNat 109 :: Char.ofNat 112 :: Char.ofNat 108 :: Char.ofNat 101 :: Char.ofNat 47 :: Char.ofNat 103 :: Char.ofNat 48 :: Char.ofNat 48 :: Char.ofNat 55 :: Char.ofNat 53 :: Char.ofNat 56 :: Char.ofNat 47 :: Char.ofNat 108 :: Char.ofNat 97 :: Char.ofNat 119 :: Char.ofNat 115 :: Char.ofNat 46 :: Char.ofNat 70 :: Char.ofNat 110 :: Char.ofNat 84 :: Char.ofNat 117 :: Char.ofNat 114 :: Char.ofNat 110 :: Char.ofNat 101 :: Char.ofNat 100 :: []) := io0.trans io1
theorem io2 : Try.prog.initOrder.toList = signs := by rw [io, String.toList_ofList]; rfl
def behind : List (List Char) := [[Char.ofNat 99, Char.ofNat 117, Char.ofNat 116], [Char.ofNat 97, Char.ofNat 116], [Char.ofNat 108, Char.ofNat 111, Char.ofNat 111, Char.ofNat 112, Char.ofNat 46, Char.ofNat 101, Char.ofNat 120, Char.ofNat 97, Char.ofNat 109, Char.ofNat 112, Char.ofNat 108, Char.ofNat 101, Char.ofNat 47, Char.ofNat 103, Char.ofNat 48, Char.ofNat 48, Char.ofNat 55, Char.ofNat 53, Char.ofNat 56, Char.ofNat 47, Char.ofNat 108, Char.ofNat 97, Char.ofNat 119, Char.ofNat 115, Char.ofNat 46, Char.ofNat 70, Char.ofNat 110, Char.ofNat 68, Char.ofNat 101, Char.ofNat 114, Char.ofNat 105, Char.ofNat 118, Char.ofNat 101, Char.ofNat 115], [Char.ofNat 108, Char.ofNat 111, Char.ofNat 111, Char.ofNat 112, Char.ofNat 46, Char.ofNat 101, Char.ofNat 120, Char.ofNat 97, Char.ofNat 109, Char.ofNat 112, Char.ofNat 108, Char.ofNat 101, Char.ofNat 47, Char.ofNat 103, Char.ofNat 48, Char.ofNat 48, Char.ofNat 55, Char.ofNat 53, Char.ofNat 56, Char.ofNat 47, Char.ofNat 108, Char.ofNat 97, Char.ofNat 119, Char.ofNat 115, Char.ofNat 46, Char.ofNat 70, Char.ofNat 110, Char.ofNat 70, Char.ofNat 105, Char.ofNat 114, Char.ofNat 115, Char.ofNat 116, Char.ofNat 115], [Char.ofNat 108, Char.ofNat 111, Char.ofNat 111, Char.ofNat 112, Char.ofNat 46, Char.ofNat 101, Char.ofNat 120, Char.ofNat 97, Char.ofNat 109, Char.ofNat 112, Char.ofNat 108, Char.ofNat 101, Char.ofNat 47, Char.ofNat 103, Char.ofNat 48, Char.ofNat 48, Char.ofNat 55, Char.ofNat 53, Char.ofNat 56, Char.ofNat 47, Char.ofNat 108, Char.ofNat 97, Char.ofNat 119, Char.ofNat 115, Char.ofNat 46, Char.ofNat 70, Char.ofNat 110, Char.ofNat 66, Char.ofNat 101, Char.ofNat 115, Char.ofNat 105, Char.ofNat 100, Char.ofNat 101], [Char.ofNat 108, Char.ofNat 111, Char.ofNat 111, Char.ofNat 112, Char.ofNat 46, Char.ofNat 101, Char.ofNat 120, Char.ofNat 97, Char.ofNat 109, Char.ofNat 112, Char.ofNat 108, Char.ofNat 101, Char.ofNat 47, Char.ofNat 103, Char.ofNat 48, Char.ofNat 48, Char.ofNat 55, Char.ofNat 53, Char.ofNat 56, Char.ofNat 47, Char.ofNat 108, Char.ofNat 97, Char.ofNat 119, Char.ofNat 115, Char.ofNat 46, Char.ofNat 70, Char.ofNat 110, Char.ofNat 82, Char.ofNat 101, Char.ofNat 119, Char.ofNat 114, Char.ofNat 105, Char.ofNat 116, Char.ofNat 101, Char.ofNat 115], [Char.ofNat 108, Char.ofNat 111, Char.ofNat 111, Char.ofNat 112, Char.ofNat 46, Char.ofNat 101, Char.ofNat 120, Char.ofNat 97, Char.ofNat 109, Char.ofNat 112, Char.ofNat 108, Char.ofNat 101, Char.ofNat 47, Char.ofNat 103, Char.ofNat 48, Char.ofNat 48, Char.ofNat 55, Char.ofNat 53, Char.ofNat 56, Char.ofNat 47, Char.ofNat 108, Char.ofNat 97, Char.ofNat 119, Char.ofNat 115, Char.ofNat 46, Char.ofNat 70, Char.ofNat 110, Char.ofNat 70, Char.ofNat 105, Char.ofNat 110, Char.ofNat 105, Char.ofNat 116, Char.ofNat 101], [Char.ofNat 108, Char.ofNat 111, Char.ofNat 111, Char.ofNat 112, Char.ofNat 46, Char.ofNat 101, Char.ofNat 120, Char.ofNat 97, Char.ofNat 109, Char.ofNat 112, Char.ofNat 108, Char.ofNat 101, Char.ofNat 47, Char.ofNat 103, Char.ofNat 48, Char.ofNat 48, Char.ofNat 55, Char.ofNat 53, Char.ofNat 56, Char.ofNat 47, Char.ofNat 108, Char.ofNat 97, Char.ofNat 119, Char.ofNat 115, Char.ofNat 46, Char.ofNat 70, Char.ofNat 110, Char.ofNat 85, Char.ofNat 115, Char.ofNat 101, Char.ofNat 102, Char.ofNat 117, Char.ofNat 108], [Char.ofNat 108, Char.ofNat 111, Char.ofNat 111, Char.ofNat 112, Char.ofNat 46, Char.ofNat 101, Char.ofNat 120, Char.ofNat 97, Char.ofNat 109, Char.ofNat 112, Char.ofNat 108, Char.ofNat 101, Char.ofNat 47, Char.ofNat 103, Char.ofNat 48, Char.ofNat 48, Char.ofNat 55, Char.ofNat 53, Char.ofNat 56, Char.ofNat 47, Char.ofNat 108, Char.ofNat 97, Char.ofNat 119, Char.ofNat 115, Char.ofNat 46, Char.ofNat 70, Char.ofNat 110, Char.ofNat 85, Char.ofNat 110, Char.ofNat 108, Char.ofNat 105, Char.ofNat 107, Char.ofNat 101], [Char.ofNat 108, Char.ofNat 111, Char.ofNat 111, Char.ofNat 112, Char.ofNat 46, Char.ofNat 101, Char.ofNat 120, Char.ofNat 97, Char.ofNat 109, Char.ofNat 112, Char.ofNat 108, Char.ofNat 101, Char.ofNat 47, Char.ofNat 103, Char.ofNat 48, Char.ofNat 48, Char.ofNat 55, Char.ofNat 53, Char.ofNat 56, Char.ofNat 47, Char.ofNat 108, Char.ofNat 97, Char.ofNat 119, Char.ofNat 115, Char.ofNat 46, Char.ofNat 70, Char.ofNat 110, Char.ofNat 67, Char.ofNat 101, Char.ofNat 108, Char.ofNat 108, Char.ofNat 115], [Char.ofNat 108, Char.ofNat 111, Char.ofNat 111, Char.ofNat 112, Char.ofNat 46, Char.ofNat 101, Char.ofNat 120, Char.ofNat 97, Char.ofNat 109, Char.ofNat 112, Char.ofNat 108, Char.ofNat 101, Char.ofNat 47, Char.ofNat 103, Char.ofNat 48, Char.ofNat 48, Char.ofNat 55, Char.ofNat 53, Char.ofNat 56, Char.ofNat 47, Char.ofNat 108, Char.ofNat 97, Char.ofNat 119, Char.ofNat 115, Char.ofNat 46, Char.ofNat 70, Char.ofNat 110, Char.ofNat 77, Char.ofNat 101, Char.ofNat 110, Char.ofNat 100], [Char.ofNat 108, Char.ofNat 111, Char.ofNat 111, Char.ofNat 112, Char.ofNat 46, Char.ofNat 101, Char.ofNat 120, Char.ofNat 97, Char.ofNat 109, Char.ofNat 112, Char.ofNat 108, Char.ofNat 101, Char.ofNat 47, Char.ofNat 103, Char.ofNat 48, Char.ofNat 48, Char.ofNat 55, Char.ofNat 53, Char.ofNat 56, Char.ofNat 47, Char.ofNat 108, Char.ofNat 97, Char.ofNat 119, Char.ofNat 115, Char.ofNat 46, Char.ofNat 70, Char.ofNat 110, Char.ofNat 80, Char.ofNat 117, Char.ofNat 109, Char.ofNat 112], [Char.ofNat 108, Char.ofNat 111, Char.ofNat 111, Char.ofNat 112, Char.ofNat 46, Char.ofNat 101, Char.ofNat 120, Char.ofNat 97, Char.ofNat 109, Char.ofNat 112, Char.ofNat 108, Char.ofNat 101, Char.ofNat 47, Char.ofNat 103, Char.ofNat 48, Char.ofNat 48, Char.ofNat 55, Char.ofNat 53, Char.ofNat 56, Char.ofNat 47, Char.ofNat 108, Char.ofNat 97, Char.ofNat 119, Char.ofNat 115, Char.ofNat 46, Char.ofNat 70, Char.ofNat 110, Char.ofNat 76, Char.ofNat 111, Char.ofNat 110, Char.ofNat 103, Char.ofNat 69, Char.ofNat 110, Char.ofNat 111, Char.ofNat 117, Char.ofNat 103, Char.ofNat 104], [Char.ofNat 108, Char.ofNat 111, Char.ofNat 111, Char.ofNat 112, Char.ofNat 46, Char.ofNat 101, Char.ofNat 120, Char.ofNat 97, Char.ofNat 109, Char.ofNat 112, Char.ofNat 108, Char.ofNat 101, Char.ofNat 47, Char.ofNat 103, Char.ofNat 48, Char.ofNat 48, Char.ofNat 55, Char.ofNat 53, Char.ofNat 56, Char.ofNat 47, Char.ofNat 108, Char.ofNat 97, Char.ofNat 119, Char.ofNat 115, Char.ofNat 46, Char.ofNat 70, Char.ofNat 110, Char.ofNat 84, Char.ofNat 117, Char.ofNat 114, Char.ofNat 110, Char.ofNat 101, Char.ofNat 100]]
theorem io4 : behindMainWord (wordsSigns signs) = behind := by kernel_rfl
theorem io3 : behindMainWord (wordsSigns Try.prog.initOrder.toList) = behind := by rw [io2, io4]
theorem may : Try.prog.mayEnter = true := may_of (l := []) io3 (by rfl) (by kernel_rfl) (by kernel_rfl) (by kernel_rfl) (by kernel_rfl) rfl (by kernel_rfl)
theorem fin : Try.prog.liftsFinal = false := lifts_of io3 (by kernel_rfl) (by kernel_rfl)
theorem mk : Try.prog.make = some .cut := make_of io3 (by rfl) (by kernel_rfl) (by kernel_rfl)
theorem own : ownKnob Try.prog.godebug = none := by kernel_rfl
theorem laidOut : laidOutB Try.prog = true := by kernel_rfl
theorem rowed : mapsRowed Try.prog = true := by kernel_rfl
def lightFacts (P : Program) (f : FuncId) (fn : Func) (s : ChangeSpec) (c : OpenClaim) : Bool :=
  c.wf (OpenSpec.ofChange s) && fn.params.all (P.readableRec ·) && namedTie P c.named s.vars && (c.stops == []) && (P.stops == []) && (c.knobs == []) && (P.stopKnobs == []) && (c.inPlace == P.inPlace f) && (c.unfollowed == P.unfollowed f) && (c.recurses == P.recurses f) && (c.named == P.varsNamed f) && (c.maps == (fn.params.toList ++ s.plain.varTypes P).any (P.mapsRec ·)) && (c.ifaces == (fn.params.toList ++ s.plain.varTypes P).any (P.ifacesRec ·)) && (c.mapsOut == P.mapsAmong fn.resultTypes.toList) && (c.loops == (fn.params.toList ++ s.plain.varTypes P).any (P.loopsFrom ·)) && (c.wideKeys == (fn.params.toList ++ s.plain.varTypes P ++ fn.resultTypes.toList).any (P.wideKeysFrom ·)) && s.vars.all (P.varReadable ·) && fn.resultTypes.all (fun t => P.readableRec t && decide (t < P.types.size)) && (c.ifacesOut == fn.resultTypes.toList.any (P.ifacesRec ·)) && (c.loopsOut == fn.resultTypes.toList.any (P.loopsFrom ·)) && (c.plainKeys == P.plainKeys) && c.shortTexts.isNone && P.stopsHeard && (c.kinds == (if c.domain.isEmpty then [] else fn.params.toList.map fun t => match P.underlying t with | some (.int k) => some k | _ => none)) && (c.pinned == c.pinnedBy) && (c.veiled == (fn.params.toList ++ s.plain.varTypes P ++ fn.resultTypes.toList).any (P.veiledRec ·)) && c.veiledFits P fn.params.toList (fn.params.toList ++ s.plain.varTypes P ++ fn.resultTypes.toList)
theorem facts_of {f : FuncId} {fn : Func} {s : ChangeSpec} {c : OpenClaim} (hl : c.lifted = false) (hm : c.make = .cut) (h : lightFacts Try.prog f fn s c = true) : joinedFacts Try.prog f fn s c = true := by
  unfold lightFacts at h
  unfold joinedFacts
  simp only [Bool.and_eq_true] at h ⊢
  obtain ⟨⟨⟨⟨⟨⟨⟨⟨⟨⟨⟨⟨⟨⟨⟨⟨⟨⟨⟨⟨⟨⟨⟨⟨⟨⟨k0, k3⟩, k4⟩, k5⟩, k6⟩, k7⟩, k8⟩, k9⟩, k10⟩, k11⟩, k12⟩, k13⟩, k14⟩, k15⟩, k16⟩, k17⟩, k18⟩, k19⟩, k20⟩, k21⟩, k22⟩, k23⟩, k24⟩, k28⟩, k29⟩, k30⟩, k31⟩ := h
  exact ⟨⟨⟨⟨⟨⟨⟨⟨⟨⟨⟨⟨⟨⟨⟨⟨⟨⟨⟨⟨⟨⟨⟨⟨⟨⟨⟨⟨⟨⟨⟨k0, laidOut⟩, rowed⟩, k3⟩, k4⟩, k5⟩, k6⟩, k7⟩, k8⟩, k9⟩, k10⟩, k11⟩, k12⟩, k13⟩, k14⟩, k15⟩, k16⟩, k17⟩, k18⟩, k19⟩, k20⟩, k21⟩, k22⟩, k23⟩, k24⟩, may⟩, (by rw [hl, fin]; rfl)⟩, (by rw [hm, mk]; rfl)⟩, k28⟩, k29⟩, k30⟩, k31⟩
end Go.Proofs.Ytegcjkhebecgbaa
