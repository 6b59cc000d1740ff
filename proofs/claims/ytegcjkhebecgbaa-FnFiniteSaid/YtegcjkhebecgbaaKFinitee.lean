/- Texts of this repository put together: ShF8, ShF9, ShFA, ShFB, ShFC, ShFD, Sh1x, Cg, ShFE, ShFF, ShFG, ShFH, ShB2, ShI4, Bd, ShJ1, ShB3, ShB4, ShI5, ShI7, ShU7, ShU3, ShI8, Sh52, Sh53. -/
import Derived.Test.YtegcjkhebecgbaaKFinited
import Derived.Test.YtegcjkhebecgbaaKFinitea
import Derived.Test.YtegcjkhebecgbaaProg
import Derived.Test.YtegcjkhebecgbaaKFinitec
import Derived.Test.YtegcjkhebecgbaaKFiniteb

/- Contract: the nonterminals that some rule makes so (the program's closed). -/
set_option linter.unusedVariables false
set_option linter.unusedSimpArgs false
set_option maxRecDepth 100000
namespace Go.Sh
open Go
/-- Six marks. -/
def arrB (A : List Bool) : Value := .agg (A.map Value.bool).toArray
def atB (A : List Bool) (n : Nat) : Bool := A.getD n false
theorem six_of : ∀ {A : List Bool}, A.length = 6 → ∃ a b c d e f, A = [a, b, c, d, e, f]
  | [a, b, c, d, e, f], _ => ⟨a, b, c, d, e, f, rfl⟩
theorem atB_get {A : List Bool} {n : Nat} (h : n < A.length) : (A.map Value.bool)[n]? = some (.bool (atB A n)) := by
  rw [List.getElem?_map, atB, List.getD_eq_getElem?_getD, List.getElem?_eq_getElem h]
  rfl
theorem atB_lt {A : List Bool} {n : Nat} (h : atB A n = true) : n < A.length := by
  by_cases hn : n < A.length
  · exact hn
  · rw [atB, List.getD_eq_getElem?_getD, List.getElem?_eq_none (by omega)] at h
    cases h
theorem atB_set {A : List Bool} {n m : Nat} (hn : n < A.length) : atB (A.set n true) m = true ↔ m = n ∨ atB A m = true := by
  unfold atB
  rw [List.getD_eq_getElem?_getD, List.getD_eq_getElem?_getD, List.getElem?_set]
  by_cases e : n = m
  · subst e
    simp [hn]
  · simp [e]
    exact fun h => absurd h.symm e
theorem atB_no (n : Nat) : atB (List.replicate 6 false) n = false := by
  unfold atB
  rw [List.getD_eq_getElem?_getD, List.getElem?_replicate]
  split <;> rfl
theorem count_setB {A : List Bool} {n : Nat} (hn : n < A.length) (h : atB A n = false) : (A.set n true).count true = A.count true + 1 := by
  have e : A[n] = false := by
    rw [atB, List.getD_eq_getElem?_getD, List.getElem?_eq_getElem hn] at h
    exact h
  rw [List.count_set hn, e]
  simp
/-- A rule is read; what it holds was there before. -/
theorem ld_rule0 {P : Program} {t : TypeId} (ht : agg P t) (hs : szOf P t 2) {F : Nat → Prop} {w w' : World} {X : Option Addr} {rs : List RuleL} (hx : RulesF F w X rs) (g : Gr w w') {j : Nat} (hj : j < rs.length) {k : Value → Prop}
    (hk : ∀ Z c, (rul rs j).2.length ≤ c → Ints w Z (rul rs j).2 → k (.agg #[.int .i64 (rul rs j).1, .slice Z (rul rs j).2.length c])) : Rd P (WS.at w') (sLoad t (.pointer (some ((ad X).add (j * 2))))) k := by
  obtain ⟨Y, c, h1, h2, h3, h4⟩ := hx.row j hj
  have h1 := g.cell h1
  have h2 := g.cell h2
  rw [ld_agg ht hs (cs := [.int .i64 (rul rs j).1, .slice Y (rul rs j).2.length c]) rfl]
  · exact hk _ _ h3 h4.is
  · intro i hi
    match i, hi with
    | 0, _ => rw [add_add, Nat.add_zero]; exact h1
    | 1, _ => rw [add_add]; exact h2
end Go.Sh
namespace Go.Proofs.Ytegcjkhebecgbaa
open Go Go.Sh Go.RowKit
theorem inf163' : Inf Try.prog 163 (.agg #[.bool false, .bool false, .bool false, .bool false, .bool false, .bool false]) 6 6 := inf_of (by kernel_rfl)
section
variable {w : World} {k : Value → World → Prop} {Y : Option Addr} {cy : Nat} {gm : Gram}
/-- A function value that tells of a rule and six marks. -/
def Maker (fv : Value) (mk : List Bool → RuleL → Bool) (rs : List RuleL) (w : World) : Prop := ∀ w1, Gr w w1 → ∀ (r : RuleL), r ∈ rs → ∀ (Z : Option Addr) (d : Nat) (A : List Bool) (k : Value → World → Prop), A.length = 6 → kI Z r.2 d w1 → (∀ w2, Gr w1 w2 → k (.bool (mk A r)) w2) →
  Do Try.prog (sCallV fv [.agg #[.int .i64 r.1, .slice Z r.2.length d], arrB A] 4) k w1
set_option maxHeartbeats 12800000 in
theorem closed_c {fv : Value} {mk : List Bool → RuleL → Bool} {P : Nat → Prop} (hG : kG Y cy gm.rules w) (hl : ∀ r ∈ gm.rules, 0 ≤ r.1 ∧ r.1 < 6) (hf : Maker fv mk gm.rules w)
    (hP : ∀ A r, r ∈ gm.rules → (∀ n, atB A n = true → P n) → mk A r = true → P r.1.toNat)
    (hk : ∀ w' A, Gr w w' → A.length = 6 → (∀ n, atB A n = true → P n) → (∀ r ∈ gm.rules, mk A r = true → atB A r.1.toNat = true) → k (arrB A) w') :
    CallK Try.prog 269 [grv gm Y cy, fv] k w := by
  refine enter269 ?_
  unfold S269
  have H := Apt.nil w
  refine boxH H fun b1 w1 H => ?_
  refine allocH H inf163' fun b3 w2 H => ?_
  refine rdi (rd_buildA u163 sz4 inf163' rfl) ?_
  refine allocH H inf163' fun b5 w3 H => ?_
  refine storeH H 2 rfl sz163 rfl rfl rfl fun w4 H => ?_
  have H : Apt w w4 [bx b1 [.int .i64 gm.nons, .int .i64 gm.toks, .slice Y gm.rules.length cy] 26, bx b3 [.bool false, .bool false, .bool false, .bool false, .bool false, .bool false] 163, bx b5 ((List.replicate 6 false).map Value.bool) 163] := H
  refine loop_ghost (σ := List Bool × Bool) (fun s f w' => f 6 = .bool s.2 ∧ s.1.length = 6 ∧ (∀ n, atB s.1 n = true → P n) ∧ (s.2 = false → ∀ r ∈ gm.rules, mk s.1 r = true → atB s.1 r.1.toNat = true) ∧
      Apt w w' [bx b1 [.int .i64 gm.nons, .int .i64 gm.toks, .slice Y gm.rules.length cy] 26, bx b3 [.bool false, .bool false, .bool false, .bool false, .bool false, .bool false] 163, bx b5 (s.1.map Value.bool) 163])
    (fun s => if s.2 = true then 8 - s.1.count true else 0) (List.replicate 6 false, true) ⟨rfl, rfl, (fun n hn => absurd hn (by rw [atB_no]; decide)), (fun h => by cases h), H⟩ ?_
  clear H
  rintro ⟨A, more⟩ f w5 N hag ⟨f6, hlen, hs, hcl, H⟩ hN
  dsimp only at f6 hlen hs hcl H hN
  have f1 : f 1 = fv := hag 1 (by decide)
  have f2 : f 2 = ptrv b1 := hag 2 (by decide)
  have f4 : f 4 = ptrv b3 := hag 4 (by decide)
  have f5 : f 5 = ptrv b5 := hag 5 (by decide)
  simp only [f2, f4, f5, f6, zq18, zq19, zq20, zq21, zq22, zq23, zq24, zq25, zq26, zq27, zq28, zq4, zq3, zq1, zq2, zq0, zq29, zq30, zq14, zq15, zq16, zq17, zq13, zq10, zq12, zq11, zq7, zq5, zq6, zq9, zq8, zq31, zq32, ite_T, ite_F, zq33, zq34, zq35, Nat.reduceEqDiff, len22, len24, fa26_0, fa26_1, fa26_2, len27, fa33_0, fa33_1, len35, fa114_0, fa114_1, fa114_2, fa124_0, fa124_1, len134]
  cases more
  · simp only [f4, f5, zq18, zq19, zq20, zq21, zq22, zq23, zq24, zq25, zq26, zq27, zq28, zq4, zq3, zq1, zq2, zq0, zq29, zq30, zq14, zq15, zq16, zq17, zq13, zq10, zq12, zq11, zq7, zq5, zq6, zq9, zq8, zq31, zq32, ite_T, ite_F, zq33, zq34, zq35, Nat.reduceEqDiff, len22, len24, fa26_0, fa26_1, fa26_2, len27, fa33_0, fa33_1, len35, fa114_0, fa114_1, fa114_2, fa124_0, fa124_1, len134]
    have hcl := hcl rfl
    clear hN
    obtain ⟨a0, a1, a2, a3, a4, a5, rfl⟩ := six_of hlen
    rw [ldB_agg agg163 sz163 rfl (H.box 2 rfl)]
    refine storeH H 1 rfl sz163 rfl rfl rfl fun w6 H => ?_
    have H : Apt w w6 [bx b1 [.int .i64 gm.nons, .int .i64 gm.toks, .slice Y gm.rules.length cy] 26, bx b3 ([a0, a1, a2, a3, a4, a5].map Value.bool) 163, bx b5 ([a0, a1, a2, a3, a4, a5].map Value.bool) 163] := H
    rw [rd_loadVar, ldB_agg agg163 sz163 rfl (H.box 1 rfl)]
    exact hk w6 _ H.gr rfl hs hcl
  simp only [zq18, zq19, zq20, zq21, zq22, zq23, zq24, zq25, zq26, zq27, zq28, zq4, zq3, zq1, zq2, zq0, zq29, zq30, zq14, zq15, zq16, zq17, zq13, zq10, zq12, zq11, zq7, zq5, zq6, zq9, zq8, zq31, zq32, ite_T, ite_F, zq33, zq34, zq35, Nat.reduceEqDiff, len22, len24, fa26_0, fa26_1, fa26_2, len27, fa33_0, fa33_1, len35, fa114_0, fa114_1, fa114_2, fa124_0, fa124_1, len134]
  rw [ldB24 (H.box 0 rfl) rfl]
  simp only [zq18, zq19, zq20, zq21, zq22, zq23, zq24, zq25, zq26, zq27, zq28, zq4, zq3, zq1, zq2, zq0, zq29, zq30, zq14, zq15, zq16, zq17, zq13, zq10, zq12, zq11, zq7, zq5, zq6, zq9, zq8, zq31, zq32, ite_T, ite_F, zq33, zq34, zq35, Nat.reduceEqDiff, len22, len24, fa26_0, fa26_1, fa26_2, len27, fa33_0, fa33_1, len35, fa114_0, fa114_1, fa114_2, fa124_0, fa124_1, len134]
  have hcnt : A.count true ≤ 6 := hlen ▸ List.count_le_length
  refine loop_to gm.rules.length 0 (fun i q w' => i ≤ gm.rules.length ∧ q 14 = .int .i64 (i : Int) ∧ ∃ (A2 : List Bool) (m2 : Bool), q 6 = .bool m2 ∧ A2.length = 6 ∧ (∀ n, atB A2 n = true → P n) ∧
      (m2 = false → A2 = A ∧ ∀ z, z < i → mk A (rul gm.rules z) = true → atB A (rul gm.rules z).1.toNat = true) ∧ (m2 = true → A.count true < A2.count true) ∧
      Apt w w' [bx b1 [.int .i64 gm.nons, .int .i64 gm.toks, .slice Y gm.rules.length cy] 26, bx b3 [.bool false, .bool false, .bool false, .bool false, .bool false, .bool false] 163, bx b5 (A2.map Value.bool) 163])
    ⟨Nat.zero_le _, rfl, A, false, rfl, hlen, hs, (fun _ => ⟨rfl, fun z hz => by omega⟩), (fun h => by cases h), H⟩ ?_
  clear H
  rintro i q w6 N2 hag2 ⟨hi, q14, A2, m2, q6, hlen2, hs2, hno, hyes, H⟩ hN2
  have q1 : q 1 = fv := (hag2 1 (by decide)).trans f1
  have q5 : q 5 = ptrv b5 := (hag2 5 (by decide)).trans f5
  have q12 : q 12 = .slice Y gm.rules.length cy := hag2 12 (by decide)
  have q13 : q 13 = .int .i64 gm.rules.length := hag2 13 (by decide)
  have hRF := hG.2.gr H.gr
  have hle := hRF.le
  simp only [q1, q5, q12, q13, q14, zq18, zq19, zq20, zq21, zq22, zq23, zq24, zq25, zq26, zq27, zq28, zq4, zq3, zq1, zq2, zq0, zq29, zq30, zq14, zq15, zq16, zq17, zq13, zq10, zq12, zq11, zq7, zq5, zq6, zq9, zq8, zq31, zq32, ite_T, ite_F, zq33, zq34, zq35, Nat.reduceEqDiff, len22, len24, fa26_0, fa26_1, fa26_2, len27, fa33_0, fa33_1, len35, fa114_0, fa114_1, fa114_2, fa124_0, fa124_1, len134]
  by_cases hlt : i < gm.rules.length
  case neg =>
    simp only [show ¬ ((i : Int) < (gm.rules.length : Int)) from by omega, decide_false, zq18, zq19, zq20, zq21, zq22, zq23, zq24, zq25, zq26, zq27, zq28, zq4, zq3, zq1, zq2, zq0, zq29, zq30, zq14, zq15, zq16, zq17, zq13, zq10, zq12, zq11, zq7, zq5, zq6, zq9, zq8, zq31, zq32, ite_T, ite_F, zq33, zq34, zq35, Nat.reduceEqDiff, len22, len24, fa26_0, fa26_1, fa26_2, len27, fa33_0, fa33_1, len35, fa114_0, fa114_1, fa114_2, fa124_0, fa124_1, len134]
    refine hN (A2, m2) _ _ ⟨q6, hlen2, hs2, fun hm r hr' hin => ?_, H⟩ ?_
    · dsimp only at hm hin ⊢
      obtain ⟨e, hall⟩ := hno hm
      subst e
      obtain ⟨z, hz, rfl⟩ := List.getElem_of_mem hr'
      have := hall z (by omega)
      rw [rul_eq hz] at this
      exact this hin
    · cases m2
      · simp
        omega
      · have h1 := hyes rfl
        simp
        omega
  simp only [show ((i : Int) < (gm.rules.length : Int)) from by omega, decide_true, zq18, zq19, zq20, zq21, zq22, zq23, zq24, zq25, zq26, zq27, zq28, zq4, zq3, zq1, zq2, zq0, zq29, zq30, zq14, zq15, zq16, zq17, zq13, zq10, zq12, zq11, zq7, zq5, zq6, zq9, zq8, zq31, zq32, ite_T, ite_F, zq33, zq34, zq35, Nat.reduceEqDiff, len22, len24, fa26_0, fa26_1, fa26_2, len27, fa33_0, fa33_1, len35, fa114_0, fa114_1, fa114_2, fa124_0, fa124_1, len134]
  have hrm : rul gm.rules i ∈ gm.rules := by rw [rul_eq hlt]; exact List.getElem_mem hlt
  have hl0 := hl _ hrm
  refine join_as (fun f w' => f 14 = .int .i64 (i : Int) ∧ ∃ (A2 : List Bool) (m2 : Bool), f 6 = .bool m2 ∧ A2.length = 6 ∧ (∀ n, atB A2 n = true → P n) ∧
      (m2 = false → A2 = A ∧ ∀ z, z < i + 1 → mk A (rul gm.rules z) = true → atB A (rul gm.rules z).1.toNat = true) ∧ (m2 = true → A.count true < A2.count true) ∧
      Apt w w' [bx b1 [.int .i64 gm.nons, .int .i64 gm.toks, .slice Y gm.rules.length cy] 26, bx b3 [.bool false, .bool false, .bool false, .bool false, .bool false, .bool false] 163, bx b5 (A2.map Value.bool) 163]) (fun K hK => ?_) ?_
  · refine rdi (ixn24 hRF.ptr hlt) ?_
    refine ld_rule0 agg33 sz33 hG.2 H.gr hlt fun Z cz hcz hZ => ?_
    refine allocH H inf33 fun b9 w7 H => ?_
    refine storeH H 3 rfl sz33 rfl rfl rfl fun w8 H => ?_
    have H : Apt w w8 [bx b1 [.int .i64 gm.nons, .int .i64 gm.toks, .slice Y gm.rules.length cy] 26, bx b3 [.bool false, .bool false, .bool false, .bool false, .bool false, .bool false] 163, bx b5 (A2.map Value.bool) 163, bx b9 [.int .i64 (rul gm.rules i).1, .slice Z (rul gm.rules i).2.length cz] 33] := H
    simp only [zq18, zq19, zq20, zq21, zq22, zq23, zq24, zq25, zq26, zq27, zq28, zq4, zq3, zq1, zq2, zq0, zq29, zq30, zq14, zq15, zq16, zq17, zq13, zq10, zq12, zq11, zq7, zq5, zq6, zq9, zq8, zq31, zq32, ite_T, ite_F, zq33, zq34, zq35, Nat.reduceEqDiff, len22, len24, fa26_0, fa26_1, fa26_2, len27, fa33_0, fa33_1, len35, fa114_0, fa114_1, fa114_2, fa124_0, fa124_1, len134]
    rw [ldB3 (H.box 3 rfl) rfl]
    refine rdi (ixa163 hl0.1 hl0.2) ?_
    rw [zq34, Nat.zero_add]
    have hn : (rul gm.rules i).1.toNat < A2.length := by omega
    rw [ldB4 (H.box 2 rfl) (atB_get hn)]
    have none_ : (atB A2 (rul gm.rules i).1.toNat = true ∨ mk A2 (rul gm.rules i) = false) → m2 = false → A2 = A ∧ ∀ z, z < i + 1 → mk A (rul gm.rules z) = true → atB A (rul gm.rules z).1.toNat = true := fun ho hm => by
      obtain ⟨e, hall⟩ := hno hm
      subst e
      refine ⟨rfl, fun z hz hmk => ?_⟩
      by_cases e : z = i
      · subst e
        rcases ho with ho | ho
        · exact ho
        · rw [ho] at hmk; cases hmk
      · exact hall z (by omega) hmk
    cases hset : atB A2 (rul gm.rules i).1.toNat
    case true =>
      simp only [Bool.not_true, q6, zq18, zq19, zq20, zq21, zq22, zq23, zq24, zq25, zq26, zq27, zq28, zq4, zq3, zq1, zq2, zq0, zq29, zq30, zq14, zq15, zq16, zq17, zq13, zq10, zq12, zq11, zq7, zq5, zq6, zq9, zq8, zq31, zq32, ite_T, ite_F, zq33, zq34, zq35, Nat.reduceEqDiff, len22, len24, fa26_0, fa26_1, fa26_2, len27, fa33_0, fa33_1, len35, fa114_0, fa114_1, fa114_2, fa124_0, fa124_1, len134]
      have H := H.erase 3
      simp only [List.eraseIdx_cons_zero, List.eraseIdx_cons_succ] at H
      exact hK _ _ ⟨q14, A2, m2, q6, hlen2, hs2, none_ (.inl hset), hyes, H⟩
    simp only [Bool.not_false, zq18, zq19, zq20, zq21, zq22, zq23, zq24, zq25, zq26, zq27, zq28, zq4, zq3, zq1, zq2, zq0, zq29, zq30, zq14, zq15, zq16, zq17, zq13, zq10, zq12, zq11, zq7, zq5, zq6, zq9, zq8, zq31, zq32, ite_T, ite_F, zq33, zq34, zq35, Nat.reduceEqDiff, len22, len24, fa26_0, fa26_1, fa26_2, len27, fa33_0, fa33_1, len35, fa114_0, fa114_1, fa114_2, fa124_0, fa124_1, len134]
    rw [ldB_agg agg33 sz33 rfl (H.box 3 rfl), ldB_agg agg163 sz163 (by simp [hlen2]) (H.box 2 rfl)]
    refine hf w8 H.gr _ hrm Z cz A2 _ hlen2 ⟨hZ.gr H.gr, hcz⟩ fun w9 g => ?_
    have H := H.step g
    cases hmk : mk A2 (rul gm.rules i)
    · simp only [zq18, zq19, zq20, zq21, zq22, zq23, zq24, zq25, zq26, zq27, zq28, zq4, zq3, zq1, zq2, zq0, zq29, zq30, zq14, zq15, zq16, zq17, zq13, zq10, zq12, zq11, zq7, zq5, zq6, zq9, zq8, zq31, zq32, ite_T, ite_F, zq33, zq34, zq35, Nat.reduceEqDiff, len22, len24, fa26_0, fa26_1, fa26_2, len27, fa33_0, fa33_1, len35, fa114_0, fa114_1, fa114_2, fa124_0, fa124_1, len134]
      have H := H.erase 3
      simp only [List.eraseIdx_cons_zero, List.eraseIdx_cons_succ] at H
      exact hK _ _ ⟨q14, A2, m2, q6, hlen2, hs2, none_ (.inr hmk), hyes, H⟩
    simp only [zq18, zq19, zq20, zq21, zq22, zq23, zq24, zq25, zq26, zq27, zq28, zq4, zq3, zq1, zq2, zq0, zq29, zq30, zq14, zq15, zq16, zq17, zq13, zq10, zq12, zq11, zq7, zq5, zq6, zq9, zq8, zq31, zq32, ite_T, ite_F, zq33, zq34, zq35, Nat.reduceEqDiff, len22, len24, fa26_0, fa26_1, fa26_2, len27, fa33_0, fa33_1, len35, fa114_0, fa114_1, fa114_2, fa124_0, fa124_1, len134]
    rw [ldB3 (H.box 3 rfl) rfl]
    refine rdi (ixa163 hl0.1 hl0.2) ?_
    rw [zq34, Nat.zero_add]
    refine storeH H 2 rfl sz4 rfl rfl (Nat.ble_eq_true_of_le (by simp; omega)) fun w10 H => ?_
    have e : (A2.map Value.bool).take (rul gm.rules i).1.toNat ++ (Value.bool true).cells.toList ++ (A2.map Value.bool).drop ((rul gm.rules i).1.toNat + 1) = (A2.set (rul gm.rules i).1.toNat true).map Value.bool := by
      rw [List.map_set, List.set_eq_take_append_cons_drop, if_pos (by simp; omega), List.append_assoc]
      rfl
    rw [e] at H
    have H := H.erase 3
    simp only [List.set_cons_zero, List.set_cons_succ, List.eraseIdx_cons_zero, List.eraseIdx_cons_succ] at H
    have hc3 := count_setB hn hset
    have hA2 : A.count true ≤ A2.count true := by
      cases m2
      · rw [(hno rfl).1]
        exact Nat.le_refl _
      · exact Nat.le_of_lt (hyes rfl)
    refine hK _ _ ⟨q14, _, true, rfl, by rw [List.length_set]; exact hlen2, fun n hn' => ?_, (fun h => by cases h), (fun _ => by omega), H⟩
    rcases (atB_set hn).1 hn' with rfl | h
    · exact hP A2 _ hrm hs2 hmk
    · exact hs2 n h
  clear H hno hyes hs2 hlen2
  rintro f7 w7 ⟨e14, A3, m3, e6, hlen3, hs3, hno3, hyes3, H⟩
  simp only [e14, zq18, zq19, zq20, zq21, zq22, zq23, zq24, zq25, zq26, zq27, zq28, zq4, zq3, zq1, zq2, zq0, zq29, zq30, zq14, zq15, zq16, zq17, zq13, zq10, zq12, zq11, zq7, zq5, zq6, zq9, zq8, zq31, zq32, ite_T, ite_F, zq33, zq34, zq35, Nat.reduceEqDiff, len22, len24, fa26_0, fa26_1, fa26_2, len27, fa33_0, fa33_1, len35, fa114_0, fa114_1, fa114_2, fa124_0, fa124_1, len134]
  rw [i64_of (by omega) (by omega)]
  exact hN2 _ _ hlt ⟨by omega, rfl, A3, m3, e6, hlen3, hs3, hno3, hyes3, H⟩
end
end Go.Proofs.Ytegcjkhebecgbaa

/- Contracts: the program's productive and nullable. -/
set_option linter.unusedVariables false
set_option linter.unusedSimpArgs false
set_option maxRecDepth 100000
namespace Go.Sh
open Go
/-- What stands in the way of a rule: nothing, just where it makes. -/
def Bars (tok : Bool) (p : List Bool → Int → Bool) : Prop := ∀ A x, p A x = false ↔ ((x < 0 → tok = true) ∧ (¬ x < 0 → atB A x.toNat = true))
theorem any_not {p : Int → Bool} {xs : List Int} : (!(xs.any p)) = true ↔ ∀ x ∈ xs, p x = false := by
  rw [Bool.not_eq_true', List.any_eq_false]
  simp
theorem bars_sound {rs : List RuleL} {tok : Bool} {p : List Bool → Int → Bool} (hp : Bars tok p) (hl : ∀ r ∈ rs, 0 ≤ r.1) {A : List Bool} {r : RuleL} (hr : r ∈ rs) (hs : ∀ n, atB A n = true → Clo rs tok n) (h : (!(r.2.any (p A))) = true) : Clo rs tok r.1.toNat := by
  have h := any_not.1 h
  exact .mk hr (by have := hl r hr; omega) (fun x hx => ((hp A x).1 (h x hx)).1) (fun x hx hn => hs _ (((hp A x).1 (h x hx)).2 hn))
theorem bars_full {rs : List RuleL} {tok : Bool} {p : List Bool → Int → Bool} (hp : Bars tok p) {A : List Bool} (hc : ∀ r ∈ rs, (!(r.2.any (p A))) = true → atB A r.1.toNat = true) {n : Nat} (h : Clo rs tok n) : atB A n = true := by
  induction h with
  | @mk B r h1 h2 h3 _ ih =>
    have := hc r h1 (any_not.2 fun x hx => (hp A x).2 ⟨h3 x hx, ih x hx⟩)
    rwa [h2, Int.toNat_natCast] at this
def barP (A : List Bool) (x : Int) : Bool := decide (0 ≤ x) && !atB A x.toNat
def barN (A : List Bool) (x : Int) : Bool := decide (x < 0) || !atB A x.toNat
theorem bars_p : Bars true barP := fun A x => by
  unfold barP
  by_cases h : x < 0
  · simp [h, show ¬ 0 ≤ x from by omega]
  · simp [h, show 0 ≤ x from by omega]
theorem bars_n : Bars false barN := fun A x => by
  unfold barN
  by_cases h : x < 0
  · simp [h]
  · simp [h]
end Go.Sh
namespace Go.Proofs.Ytegcjkhebecgbaa
open Go Go.Sh Go.RowKit
section
variable {w : World} {k : Value → World → Prop} {Y : Option Addr} {cy : Nat} {gm : Gram}
/-- A function value that tells of a number of a kind, in whatever world has grown. -/
def PredD (t : Nat) (fv : Value) (p : Int → Bool) (D : Int → Prop) (w : World) : Prop := ∀ w1, Gr w w1 → ∀ (x : Int), D x → ∀ (k : Value → World → Prop), (∀ w2, Gr w1 w2 → k (.bool (p x)) w2) → Do Try.prog (sCallV fv [.int .i64 x] t) k w1
theorem indexFuncD_c {X : Option Addr} {c : Nat} {xs : List Int} {fv : Value} {p : Int → Bool} {D : Int → Prop} (hx : Ints w X xs) (hD : ∀ x ∈ xs, D x) (hp : PredD 4 fv p D w)
    (hk : ∀ (r : Int) w', Gr w w' → decide (0 ≤ r) = xs.any p → k (.int .i64 r) w') :
    CallK Try.prog 177 [.slice X xs.length c, fv] k w := by
  refine enter177 ?_
  unfold S177
  simp only [zq18, zq19, zq20, zq21, zq22, zq23, zq24, zq25, zq26, zq27, zq28, zq4, zq3, zq1, zq2, zq0, zq29, zq30, zq14, zq15, zq16, zq17, zq13, zq10, zq12, zq11, zq7, zq5, zq6, zq9, zq8, zq31, zq32, ite_T, ite_F, zq33, zq34, zq35, Nat.reduceEqDiff, len22, len24, fa26_0, fa26_1, fa26_2, len27, fa33_0, fa33_1, len35, fa114_0, fa114_1, fa114_2, fa124_0, fa124_1, len134]
  refine loop_to xs.length 0 (fun i f w' => i ≤ xs.length ∧ f 8 = .int .i64 (i : Int) ∧ Gr w w' ∧ ∀ j, j < i → p (xs.getD j 0) = false) ⟨Nat.zero_le _, rfl, Gr.refl w, fun j hj => absurd hj (Nat.not_lt_zero j)⟩ ?_
  rintro i f w1 N hag ⟨hi, h8, hg, hpre⟩ hN
  have f0 : f 0 = .slice X xs.length c := hag 0 (by decide)
  have f1 : f 1 = fv := hag 1 (by decide)
  have f7 : f 7 = .int .i64 xs.length := hag 7 (by decide)
  simp only [f0, f1, f7, h8, zq18, zq19, zq20, zq21, zq22, zq23, zq24, zq25, zq26, zq27, zq28, zq4, zq3, zq1, zq2, zq0, zq29, zq30, zq14, zq15, zq16, zq17, zq13, zq10, zq12, zq11, zq7, zq5, zq6, zq9, zq8, zq31, zq32, ite_T, ite_F, zq33, zq34, zq35, Nat.reduceEqDiff, len22, len24, fa26_0, fa26_1, fa26_2, len27, fa33_0, fa33_1, len35, fa114_0, fa114_1, fa114_2, fa124_0, fa124_1, len134]
  by_cases hlt : i < xs.length
  · have hlt' : (i : Int) < xs.length := by omega
    have := hx.le
    simp only [hlt', decide_true, zq18, zq19, zq20, zq21, zq22, zq23, zq24, zq25, zq26, zq27, zq28, zq4, zq3, zq1, zq2, zq0, zq29, zq30, zq14, zq15, zq16, zq17, zq13, zq10, zq12, zq11, zq7, zq5, zq6, zq9, zq8, zq31, zq32, ite_T, ite_F, zq33, zq34, zq35, Nat.reduceEqDiff, len22, len24, fa26_0, fa26_1, fa26_2, len27, fa33_0, fa33_1, len35, fa114_0, fa114_1, fa114_2, fa124_0, fa124_1, len134]
    rw [ixn27 hx.ptr hlt, ld3 ((hx.gr hg).cell i hlt)]
    refine hp w1 hg _ (hD _ (getD_mem hlt)) _ fun w2 g2 => ?_
    have g2' := gr_trans hg g2
    cases hb : p (xs.getD i 0)
    · simp only [zq18, zq19, zq20, zq21, zq22, zq23, zq24, zq25, zq26, zq27, zq28, zq4, zq3, zq1, zq2, zq0, zq29, zq30, zq14, zq15, zq16, zq17, zq13, zq10, zq12, zq11, zq7, zq5, zq6, zq9, zq8, zq31, zq32, ite_T, ite_F, zq33, zq34, zq35, Nat.reduceEqDiff, len22, len24, fa26_0, fa26_1, fa26_2, len27, fa33_0, fa33_1, len35, fa114_0, fa114_1, fa114_2, fa124_0, fa124_1, len134]
      rw [i64_of (by omega) (by omega)]
      refine hN _ _ hlt ⟨hlt, rfl, g2', fun j hj => ?_⟩
      rcases Nat.lt_succ_iff_lt_or_eq.1 hj with h | rfl
      · exact hpre j h
      · exact hb
    · simp only [zq18, zq19, zq20, zq21, zq22, zq23, zq24, zq25, zq26, zq27, zq28, zq4, zq3, zq1, zq2, zq0, zq29, zq30, zq14, zq15, zq16, zq17, zq13, zq10, zq12, zq11, zq7, zq5, zq6, zq9, zq8, zq31, zq32, ite_T, ite_F, zq33, zq34, zq35, Nat.reduceEqDiff, len22, len24, fa26_0, fa26_1, fa26_2, len27, fa33_0, fa33_1, len35, fa114_0, fa114_1, fa114_2, fa124_0, fa124_1, len134]
      refine hk i w2 g2' ?_
      rw [decide_eq_true (by omega), eq_comm, List.any_eq_true]
      exact ⟨_, getD_mem hlt, hb⟩
  · simp only [show ¬ (i : Int) < xs.length from by omega, decide_false, zq18, zq19, zq20, zq21, zq22, zq23, zq24, zq25, zq26, zq27, zq28, zq4, zq3, zq1, zq2, zq0, zq29, zq30, zq14, zq15, zq16, zq17, zq13, zq10, zq12, zq11, zq7, zq5, zq6, zq9, zq8, zq31, zq32, ite_T, ite_F, zq33, zq34, zq35, Nat.reduceEqDiff, len22, len24, fa26_0, fa26_1, fa26_2, len27, fa33_0, fa33_1, len35, fa114_0, fa114_1, fa114_2, fa124_0, fa124_1, len134]
    refine hk (-1) w1 hg ?_
    rw [decide_eq_false (by decide), eq_comm, List.any_eq_false]
    intro x hx'
    obtain ⟨j, hj, rfl⟩ := List.getElem_of_mem hx'
    have := hpre j (by omega)
    rw [List.getD_eq_getElem?_getD, List.getElem?_eq_getElem hj] at this
    simpa using this
theorem containsFuncD_c {X : Option Addr} {c : Nat} {xs : List Int} {fv : Value} {p : Int → Bool} {D : Int → Prop} (hx : Ints w X xs) (hD : ∀ x ∈ xs, D x) (hp : PredD 4 fv p D w)
    (hk : ∀ w', Gr w w' → k (.bool (xs.any p)) w') : CallK Try.prog 250 [.slice X xs.length c, fv] k w := by
  refine enter250 ?_
  unfold S250
  refine indexFuncD_c hx hD hp fun r w' g h => ?_
  simp only [zq18, zq19, zq20, zq21, zq22, zq23, zq24, zq25, zq26, zq27, zq28, zq4, zq3, zq1, zq2, zq0, zq29, zq30, zq14, zq15, zq16, zq17, zq13, zq10, zq12, zq11, zq7, zq5, zq6, zq9, zq8, zq31, zq32, ite_T, ite_F, zq33, zq34, zq35, Nat.reduceEqDiff, len22, len24, fa26_0, fa26_1, fa26_2, len27, fa33_0, fa33_1, len35, fa114_0, fa114_1, fa114_2, fa124_0, fa124_1, len134]
  rw [h]
  exact hk w' g
theorem barP_c {b : Nat} {A : List Bool} {x : Int} (hlen : A.length = 6) (hx : x < 6) (hB : Box w b (A.map Value.bool) 163) (hk : k (.bool (barP A x)) w) :
    CallK Try.prog 271 [.int .i64 x, ptrv b] k w := by
  refine enter271 ?_
  unfold S271
  unfold barP at hk
  simp only [zq18, zq19, zq20, zq21, zq22, zq23, zq24, zq25, zq26, zq27, zq28, zq4, zq3, zq1, zq2, zq0, zq29, zq30, zq14, zq15, zq16, zq17, zq13, zq10, zq12, zq11, zq7, zq5, zq6, zq9, zq8, zq31, zq32, ite_T, ite_F, zq33, zq34, zq35, Nat.reduceEqDiff, len22, len24, fa26_0, fa26_1, fa26_2, len27, fa33_0, fa33_1, len35, fa114_0, fa114_1, fa114_2, fa124_0, fa124_1, len134]
  by_cases h : 0 ≤ x
  · simp only [h, decide_true, zq18, zq19, zq20, zq21, zq22, zq23, zq24, zq25, zq26, zq27, zq28, zq4, zq3, zq1, zq2, zq0, zq29, zq30, zq14, zq15, zq16, zq17, zq13, zq10, zq12, zq11, zq7, zq5, zq6, zq9, zq8, zq31, zq32, ite_T, ite_F, zq33, zq34, zq35, Nat.reduceEqDiff, len22, len24, fa26_0, fa26_1, fa26_2, len27, fa33_0, fa33_1, len35, fa114_0, fa114_1, fa114_2, fa124_0, fa124_1, len134]
    refine rdi (ixa163 h hx) ?_
    rw [zq34, Nat.zero_add, ldB4 hB (atB_get (by omega))]
    simp only [zq18, zq19, zq20, zq21, zq22, zq23, zq24, zq25, zq26, zq27, zq28, zq4, zq3, zq1, zq2, zq0, zq29, zq30, zq14, zq15, zq16, zq17, zq13, zq10, zq12, zq11, zq7, zq5, zq6, zq9, zq8, zq31, zq32, ite_T, ite_F, zq33, zq34, zq35, Nat.reduceEqDiff, len22, len24, fa26_0, fa26_1, fa26_2, len27, fa33_0, fa33_1, len35, fa114_0, fa114_1, fa114_2, fa124_0, fa124_1, len134]
    simpa only [h, decide_true, Bool.true_and] using hk
  · simp only [h, decide_false, zq18, zq19, zq20, zq21, zq22, zq23, zq24, zq25, zq26, zq27, zq28, zq4, zq3, zq1, zq2, zq0, zq29, zq30, zq14, zq15, zq16, zq17, zq13, zq10, zq12, zq11, zq7, zq5, zq6, zq9, zq8, zq31, zq32, ite_T, ite_F, zq33, zq34, zq35, Nat.reduceEqDiff, len22, len24, fa26_0, fa26_1, fa26_2, len27, fa33_0, fa33_1, len35, fa114_0, fa114_1, fa114_2, fa124_0, fa124_1, len134]
    simpa only [h, decide_false, Bool.false_and] using hk
theorem barN_c {b : Nat} {A : List Bool} {x : Int} (hlen : A.length = 6) (hx : x < 6) (hB : Box w b (A.map Value.bool) 163) (hk : k (.bool (barN A x)) w) :
    CallK Try.prog 273 [.int .i64 x, ptrv b] k w := by
  refine enter273 ?_
  unfold S273
  unfold barN at hk
  simp only [zq18, zq19, zq20, zq21, zq22, zq23, zq24, zq25, zq26, zq27, zq28, zq4, zq3, zq1, zq2, zq0, zq29, zq30, zq14, zq15, zq16, zq17, zq13, zq10, zq12, zq11, zq7, zq5, zq6, zq9, zq8, zq31, zq32, ite_T, ite_F, zq33, zq34, zq35, Nat.reduceEqDiff, len22, len24, fa26_0, fa26_1, fa26_2, len27, fa33_0, fa33_1, len35, fa114_0, fa114_1, fa114_2, fa124_0, fa124_1, len134]
  by_cases h : x < 0
  · simp only [h, decide_true, zq18, zq19, zq20, zq21, zq22, zq23, zq24, zq25, zq26, zq27, zq28, zq4, zq3, zq1, zq2, zq0, zq29, zq30, zq14, zq15, zq16, zq17, zq13, zq10, zq12, zq11, zq7, zq5, zq6, zq9, zq8, zq31, zq32, ite_T, ite_F, zq33, zq34, zq35, Nat.reduceEqDiff, len22, len24, fa26_0, fa26_1, fa26_2, len27, fa33_0, fa33_1, len35, fa114_0, fa114_1, fa114_2, fa124_0, fa124_1, len134]
    simpa only [h, decide_true, Bool.true_or] using hk
  · simp only [h, decide_false, zq18, zq19, zq20, zq21, zq22, zq23, zq24, zq25, zq26, zq27, zq28, zq4, zq3, zq1, zq2, zq0, zq29, zq30, zq14, zq15, zq16, zq17, zq13, zq10, zq12, zq11, zq7, zq5, zq6, zq9, zq8, zq31, zq32, ite_T, ite_F, zq33, zq34, zq35, Nat.reduceEqDiff, len22, len24, fa26_0, fa26_1, fa26_2, len27, fa33_0, fa33_1, len35, fa114_0, fa114_1, fa114_2, fa124_0, fa124_1, len134]
    refine rdi (ixa163 (by omega) hx) ?_
    rw [zq34, Nat.zero_add, ldB4 hB (atB_get (by omega))]
    simp only [zq18, zq19, zq20, zq21, zq22, zq23, zq24, zq25, zq26, zq27, zq28, zq4, zq3, zq1, zq2, zq0, zq29, zq30, zq14, zq15, zq16, zq17, zq13, zq10, zq12, zq11, zq7, zq5, zq6, zq9, zq8, zq31, zq32, ite_T, ite_F, zq33, zq34, zq35, Nat.reduceEqDiff, len22, len24, fa26_0, fa26_1, fa26_2, len27, fa33_0, fa33_1, len35, fa114_0, fa114_1, fa114_2, fa124_0, fa124_1, len134]
    simpa only [h, decide_false, Bool.false_or] using hk
theorem makeP_c {A : List Bool} {r : RuleL} {Z : Option Addr} {d : Nat} (hlen : A.length = 6) (hZ : kI Z r.2 d w) (hr : ∀ x ∈ r.2, x < 6) (hk : ∀ w', Gr w w' → k (.bool (!(r.2.any (barP A)))) w') :
    CallK Try.prog 270 [.agg #[.int .i64 r.1, .slice Z r.2.length d], arrB A] k w := by
  refine enter270 ?_
  unfold S270
  refine do_box fun b1 w1 g1 hb1 B1 => ?_
  refine do_box fun b3 w2 g2 hb3 B3 => ?_
  have B3 : Box w2 b3 (A.map Value.bool) 163 := by
    obtain ⟨a0, a1, a2, a3, a4, a5, rfl⟩ := six_of hlen
    exact B3
  simp only [zq18, zq19, zq20, zq21, zq22, zq23, zq24, zq25, zq26, zq27, zq28, zq4, zq3, zq1, zq2, zq0, zq29, zq30, zq14, zq15, zq16, zq17, zq13, zq10, zq12, zq11, zq7, zq5, zq6, zq9, zq8, zq31, zq32, ite_T, ite_F, zq33, zq34, zq35, Nat.reduceEqDiff, len22, len24, fa26_0, fa26_1, fa26_2, len27, fa33_0, fa33_1, len35, fa114_0, fa114_1, fa114_2, fa124_0, fa124_1, len134]
  rw [ldB27 (B1.gr g2) rfl]
  rw [makeFunc_]
  refine containsFuncD_c (D := fun x => x < 6) (p := barP A) (hZ.1.gr (gr_trans g1 g2)) hr (fun w4 g4 x hx k hk => ?_) fun w3 g3 => ?_
  · refine callVc (caps := [ptrv b3]) ?_
    exact barP_c hlen hx (B3.gr g4) (hk w4 (Gr.refl _))
  simp only [zq18, zq19, zq20, zq21, zq22, zq23, zq24, zq25, zq26, zq27, zq28, zq4, zq3, zq1, zq2, zq0, zq29, zq30, zq14, zq15, zq16, zq17, zq13, zq10, zq12, zq11, zq7, zq5, zq6, zq9, zq8, zq31, zq32, ite_T, ite_F, zq33, zq34, zq35, Nat.reduceEqDiff, len22, len24, fa26_0, fa26_1, fa26_2, len27, fa33_0, fa33_1, len35, fa114_0, fa114_1, fa114_2, fa124_0, fa124_1, len134]
  exact hk w3 (gr_trans (gr_trans g1 g2) g3)
theorem makeN_c {A : List Bool} {r : RuleL} {Z : Option Addr} {d : Nat} (hlen : A.length = 6) (hZ : kI Z r.2 d w) (hr : ∀ x ∈ r.2, x < 6) (hk : ∀ w', Gr w w' → k (.bool (!(r.2.any (barN A)))) w') :
    CallK Try.prog 272 [.agg #[.int .i64 r.1, .slice Z r.2.length d], arrB A] k w := by
  refine enter272 ?_
  unfold S272
  refine do_box fun b1 w1 g1 hb1 B1 => ?_
  refine do_box fun b3 w2 g2 hb3 B3 => ?_
  have B3 : Box w2 b3 (A.map Value.bool) 163 := by
    obtain ⟨a0, a1, a2, a3, a4, a5, rfl⟩ := six_of hlen
    exact B3
  simp only [zq18, zq19, zq20, zq21, zq22, zq23, zq24, zq25, zq26, zq27, zq28, zq4, zq3, zq1, zq2, zq0, zq29, zq30, zq14, zq15, zq16, zq17, zq13, zq10, zq12, zq11, zq7, zq5, zq6, zq9, zq8, zq31, zq32, ite_T, ite_F, zq33, zq34, zq35, Nat.reduceEqDiff, len22, len24, fa26_0, fa26_1, fa26_2, len27, fa33_0, fa33_1, len35, fa114_0, fa114_1, fa114_2, fa124_0, fa124_1, len134]
  rw [ldB27 (B1.gr g2) rfl]
  rw [makeFunc_]
  refine containsFuncD_c (D := fun x => x < 6) (p := barN A) (hZ.1.gr (gr_trans g1 g2)) hr (fun w4 g4 x hx k hk => ?_) fun w3 g3 => ?_
  · refine callVc (caps := [ptrv b3]) ?_
    exact barN_c hlen hx (B3.gr g4) (hk w4 (Gr.refl _))
  simp only [zq18, zq19, zq20, zq21, zq22, zq23, zq24, zq25, zq26, zq27, zq28, zq4, zq3, zq1, zq2, zq0, zq29, zq30, zq14, zq15, zq16, zq17, zq13, zq10, zq12, zq11, zq7, zq5, zq6, zq9, zq8, zq31, zq32, ite_T, ite_F, zq33, zq34, zq35, Nat.reduceEqDiff, len22, len24, fa26_0, fa26_1, fa26_2, len27, fa33_0, fa33_1, len35, fa114_0, fa114_1, fa114_2, fa124_0, fa124_1, len134]
  exact hk w3 (gr_trans (gr_trans g1 g2) g3)
/-- Bounds that the program's closures need. -/
def SixR (rs : List RuleL) : Prop := ∀ r ∈ rs, (0 ≤ r.1 ∧ r.1 < 6) ∧ ∀ x ∈ r.2, x < 6
theorem productive_c (hG : kG Y cy gm.rules w) (h6 : SixR gm.rules) (hk : ∀ w' A, Gr w w' → A.length = 6 → (∀ n, atB A n = true ↔ Clo gm.rules true n) → k (arrB A) w') :
    CallK Try.prog 188 [grv gm Y cy] k w := by
  refine enter188 ?_
  unfold S188
  have H := Apt.nil w
  refine boxH H fun b1 w1 H => ?_
  refine allocH H inf163' fun b3 w2 H => ?_
  have H : Apt w w2 [bx b1 [.int .i64 gm.nons, .int .i64 gm.toks, .slice Y gm.rules.length cy] 26, bx b3 [.bool false, .bool false, .bool false, .bool false, .bool false, .bool false] 163] := H
  rw [ldB_agg agg26 sz26 rfl (H.box 0 rfl)]
  refine closed_c (gm := gm) (P := Clo gm.rules true) (mk := fun A r => !(r.2.any (barP A))) ⟨hG.1, hG.2.gr H.gr⟩ (fun r hr => (h6 r hr).1) (fun w1 g1 r hr Z d A k hlen hZ hk => callV0 (makeP_c hlen hZ (h6 r hr).2 hk)) (fun A r hr hs h => bars_sound bars_p (fun r hr => (h6 r hr).1.1) hr hs h) fun w3 A g hlen hs hc => ?_
  have H := H.step g
  obtain ⟨a0, a1, a2, a3, a4, a5, rfl⟩ := six_of hlen
  refine storeH H 1 rfl sz163 rfl rfl rfl fun w6 H => ?_
  have H : Apt w w6 [bx b1 [.int .i64 gm.nons, .int .i64 gm.toks, .slice Y gm.rules.length cy] 26, bx b3 ([a0, a1, a2, a3, a4, a5].map Value.bool) 163] := H
  rw [rd_loadVar, ldB_agg agg163 sz163 rfl (H.box 1 rfl)]
  exact hk w6 _ H.gr rfl fun n => ⟨hs n, bars_full bars_p hc⟩
theorem nullable_c (hG : kG Y cy gm.rules w) (h6 : SixR gm.rules) (hk : ∀ w' A, Gr w w' → A.length = 6 → (∀ n, atB A n = true ↔ Clo gm.rules false n) → k (arrB A) w') :
    CallK Try.prog 189 [grv gm Y cy] k w := by
  refine enter189 ?_
  unfold S189
  have H := Apt.nil w
  refine boxH H fun b1 w1 H => ?_
  refine allocH H inf163' fun b3 w2 H => ?_
  have H : Apt w w2 [bx b1 [.int .i64 gm.nons, .int .i64 gm.toks, .slice Y gm.rules.length cy] 26, bx b3 [.bool false, .bool false, .bool false, .bool false, .bool false, .bool false] 163] := H
  rw [ldB_agg agg26 sz26 rfl (H.box 0 rfl)]
  refine closed_c (gm := gm) (P := Clo gm.rules false) (mk := fun A r => !(r.2.any (barN A))) ⟨hG.1, hG.2.gr H.gr⟩ (fun r hr => (h6 r hr).1) (fun w1 g1 r hr Z d A k hlen hZ hk => callV0 (makeN_c hlen hZ (h6 r hr).2 hk)) (fun A r hr hs h => bars_sound bars_n (fun r hr => (h6 r hr).1.1) hr hs h) fun w3 A g hlen hs hc => ?_
  have H := H.step g
  obtain ⟨a0, a1, a2, a3, a4, a5, rfl⟩ := six_of hlen
  refine storeH H 1 rfl sz163 rfl rfl rfl fun w6 H => ?_
  have H : Apt w w6 [bx b1 [.int .i64 gm.nons, .int .i64 gm.toks, .slice Y gm.rules.length cy] 26, bx b3 ([a0, a1, a2, a3, a4, a5].map Value.bool) 163] := H
  rw [rd_loadVar, ldB_agg agg163 sz163 rfl (H.box 1 rfl)]
  exact hk w6 _ H.gr rfl fun n => ⟨hs n, bars_full bars_n hc⟩
end
end Go.Proofs.Ytegcjkhebecgbaa

/- Contract: the program's reached. -/
set_option linter.unusedVariables false
set_option linter.unusedSimpArgs false
set_option maxRecDepth 100000
namespace Go.Sh
open Go
/-- What a rule that is reached reaches. -/
def LeadsB (A : List Bool) (r : RuleL) : Prop := atB A r.1.toNat = true → ∀ x ∈ r.2, ¬ x < 0 → atB A x.toNat = true
theorem atB_zero {n : Nat} (hn : atB [true, false, false, false, false, false] n = true) : n = 0 := by
  have hlt := atB_lt hn
  match n, hlt, hn with
  | 0, _, _ => rfl
  | 1, _, h => cases h
  | 2, _, h => cases h
  | 3, _, h => cases h
  | 4, _, h => cases h
  | 5, _, h => cases h
theorem rch_full {rs : List RuleL} {A : List Bool} (h0 : atB A 0 = true) (hc : ∀ r ∈ rs, LeadsB A r) {n : Nat} (h : Rch rs n) : atB A n = true := by
  induction h with
  | zero => exact h0
  | @step B r x h1 h2 _ h4 h5 ih => exact hc r h1 (by rw [h2, Int.toNat_natCast]; exact ih) x h4 h5
end Go.Sh
namespace Go.Proofs.Ytegcjkhebecgbaa
open Go Go.Sh Go.RowKit
section
variable {w : World} {k : Value → World → Prop} {Y : Option Addr} {cy : Nat} {gm : Gram}
set_option maxHeartbeats 12800000 in
theorem reached_c (hG : kG Y cy gm.rules w) (h6 : SixR gm.rules) (hr : ∀ r ∈ gm.rules, r.2.length ≤ 1000) (hk : ∀ w' A, Gr w w' → A.length = 6 → (∀ n, atB A n = true ↔ Rch gm.rules n) → k (arrB A) w') :
    CallK Try.prog 191 [grv gm Y cy] k w := by
  refine enter191 ?_
  unfold S191
  have H := Apt.nil w
  refine boxH H fun b1 w1 H => ?_
  refine allocH H inf163' fun b3 w2 H => ?_
  refine rdi (rd_buildA u163 sz4 inf163' (cells := #[.bool true, .bool false, .bool false, .bool false, .bool false, .bool false]) rfl) ?_
  refine allocH H inf163' fun b5 w3 H => ?_
  refine storeH H 2 rfl sz163 rfl rfl rfl fun w4 H => ?_
  have H : Apt w w4 [bx b1 [.int .i64 gm.nons, .int .i64 gm.toks, .slice Y gm.rules.length cy] 26, bx b3 [.bool false, .bool false, .bool false, .bool false, .bool false, .bool false] 163, bx b5 ([true, false, false, false, false, false].map Value.bool) 163] := H
  refine loop_ghost (σ := List Bool × Bool) (fun s f w' => f 4 = .bool s.2 ∧ s.1.length = 6 ∧ (∀ n, atB s.1 n = true → Rch gm.rules n) ∧ atB s.1 0 = true ∧ (s.2 = false → ∀ r ∈ gm.rules, LeadsB s.1 r) ∧
      Apt w w' [bx b1 [.int .i64 gm.nons, .int .i64 gm.toks, .slice Y gm.rules.length cy] 26, bx b3 [.bool false, .bool false, .bool false, .bool false, .bool false, .bool false] 163, bx b5 (s.1.map Value.bool) 163])
    (fun s => if s.2 = true then 8 - s.1.count true else 0) ([true, false, false, false, false, false], true) ⟨rfl, rfl, (fun n hn => atB_zero hn ▸ .zero), rfl, (fun h => by cases h), H⟩ ?_
  clear H
  rintro ⟨A, more⟩ f w5 N hag ⟨f4, hlen, hs, hz, hcl, H⟩ hN
  dsimp only at f4 hlen hs hz hcl H hN
  have f1 : f 1 = ptrv b1 := hag 1 (by decide)
  have f2 : f 2 = ptrv b3 := hag 2 (by decide)
  have f3 : f 3 = ptrv b5 := hag 3 (by decide)
  simp only [f1, f2, f3, f4, zq18, zq19, zq20, zq21, zq22, zq23, zq24, zq25, zq26, zq27, zq28, zq4, zq3, zq1, zq2, zq0, zq29, zq30, zq14, zq15, zq16, zq17, zq13, zq10, zq12, zq11, zq7, zq5, zq6, zq9, zq8, zq31, zq32, ite_T, ite_F, zq33, zq34, zq35, Nat.reduceEqDiff, len22, len24, fa26_0, fa26_1, fa26_2, len27, fa33_0, fa33_1, len35, fa114_0, fa114_1, fa114_2, fa124_0, fa124_1, len134]
  cases more
  · simp only [f2, f3, zq18, zq19, zq20, zq21, zq22, zq23, zq24, zq25, zq26, zq27, zq28, zq4, zq3, zq1, zq2, zq0, zq29, zq30, zq14, zq15, zq16, zq17, zq13, zq10, zq12, zq11, zq7, zq5, zq6, zq9, zq8, zq31, zq32, ite_T, ite_F, zq33, zq34, zq35, Nat.reduceEqDiff, len22, len24, fa26_0, fa26_1, fa26_2, len27, fa33_0, fa33_1, len35, fa114_0, fa114_1, fa114_2, fa124_0, fa124_1, len134]
    have hcl := hcl rfl
    clear hN
    obtain ⟨a0, a1, a2, a3, a4, a5, rfl⟩ := six_of hlen
    rw [ldB_agg agg163 sz163 rfl (H.box 2 rfl)]
    refine storeH H 1 rfl sz163 rfl rfl rfl fun w6 H => ?_
    have H : Apt w w6 [bx b1 [.int .i64 gm.nons, .int .i64 gm.toks, .slice Y gm.rules.length cy] 26, bx b3 ([a0, a1, a2, a3, a4, a5].map Value.bool) 163, bx b5 ([a0, a1, a2, a3, a4, a5].map Value.bool) 163] := H
    rw [rd_loadVar, ldB_agg agg163 sz163 rfl (H.box 1 rfl)]
    exact hk w6 _ H.gr rfl fun n => ⟨hs n, rch_full hz hcl⟩
  simp only [zq18, zq19, zq20, zq21, zq22, zq23, zq24, zq25, zq26, zq27, zq28, zq4, zq3, zq1, zq2, zq0, zq29, zq30, zq14, zq15, zq16, zq17, zq13, zq10, zq12, zq11, zq7, zq5, zq6, zq9, zq8, zq31, zq32, ite_T, ite_F, zq33, zq34, zq35, Nat.reduceEqDiff, len22, len24, fa26_0, fa26_1, fa26_2, len27, fa33_0, fa33_1, len35, fa114_0, fa114_1, fa114_2, fa124_0, fa124_1, len134]
  rw [ldB24 (H.box 0 rfl) rfl]
  simp only [zq18, zq19, zq20, zq21, zq22, zq23, zq24, zq25, zq26, zq27, zq28, zq4, zq3, zq1, zq2, zq0, zq29, zq30, zq14, zq15, zq16, zq17, zq13, zq10, zq12, zq11, zq7, zq5, zq6, zq9, zq8, zq31, zq32, ite_T, ite_F, zq33, zq34, zq35, Nat.reduceEqDiff, len22, len24, fa26_0, fa26_1, fa26_2, len27, fa33_0, fa33_1, len35, fa114_0, fa114_1, fa114_2, fa124_0, fa124_1, len134]
  have hcnt : A.count true ≤ 6 := hlen ▸ List.count_le_length
  refine loop_to gm.rules.length 0 (fun i q w' => i ≤ gm.rules.length ∧ q 14 = .int .i64 (i : Int) ∧ ∃ (A2 : List Bool) (m2 : Bool), q 4 = .bool m2 ∧ A2.length = 6 ∧ (∀ n, atB A2 n = true → Rch gm.rules n) ∧ atB A2 0 = true ∧
      (m2 = false → A2 = A ∧ ∀ z, z < i → LeadsB A (rul gm.rules z)) ∧ (m2 = true → A.count true < A2.count true) ∧
      Apt w w' [bx b1 [.int .i64 gm.nons, .int .i64 gm.toks, .slice Y gm.rules.length cy] 26, bx b3 [.bool false, .bool false, .bool false, .bool false, .bool false, .bool false] 163, bx b5 (A2.map Value.bool) 163])
    ⟨Nat.zero_le _, rfl, A, false, rfl, hlen, hs, hz, (fun _ => ⟨rfl, fun z hz => by omega⟩), (fun h => by cases h), H⟩ ?_
  clear H
  rintro i q w6 N2 hag2 ⟨hi, q14, A2, m2, q4, hlen2, hs2, hz2, hno, hyes, H⟩ hN2
  have q3 : q 3 = ptrv b5 := (hag2 3 (by decide)).trans f3
  have q12 : q 12 = .slice Y gm.rules.length cy := hag2 12 (by decide)
  have q13 : q 13 = .int .i64 gm.rules.length := hag2 13 (by decide)
  have hRF := hG.2.gr H.gr
  have hle := hRF.le
  simp only [q3, q12, q13, q14, zq18, zq19, zq20, zq21, zq22, zq23, zq24, zq25, zq26, zq27, zq28, zq4, zq3, zq1, zq2, zq0, zq29, zq30, zq14, zq15, zq16, zq17, zq13, zq10, zq12, zq11, zq7, zq5, zq6, zq9, zq8, zq31, zq32, ite_T, ite_F, zq33, zq34, zq35, Nat.reduceEqDiff, len22, len24, fa26_0, fa26_1, fa26_2, len27, fa33_0, fa33_1, len35, fa114_0, fa114_1, fa114_2, fa124_0, fa124_1, len134]
  by_cases hlt : i < gm.rules.length
  case neg =>
    simp only [show ¬ ((i : Int) < (gm.rules.length : Int)) from by omega, decide_false, zq18, zq19, zq20, zq21, zq22, zq23, zq24, zq25, zq26, zq27, zq28, zq4, zq3, zq1, zq2, zq0, zq29, zq30, zq14, zq15, zq16, zq17, zq13, zq10, zq12, zq11, zq7, zq5, zq6, zq9, zq8, zq31, zq32, ite_T, ite_F, zq33, zq34, zq35, Nat.reduceEqDiff, len22, len24, fa26_0, fa26_1, fa26_2, len27, fa33_0, fa33_1, len35, fa114_0, fa114_1, fa114_2, fa124_0, fa124_1, len134]
    refine hN (A2, m2) _ _ ⟨q4, hlen2, hs2, hz2, fun hm r hr' => ?_, H⟩ ?_
    · dsimp only at hm ⊢
      obtain ⟨e, hall⟩ := hno hm
      subst e
      obtain ⟨z, hz, rfl⟩ := List.getElem_of_mem hr'
      have := hall z (by omega)
      rwa [rul_eq hz] at this
    · cases m2
      · simp
        omega
      · have h1 := hyes rfl
        simp
        omega
  simp only [show ((i : Int) < (gm.rules.length : Int)) from by omega, decide_true, zq18, zq19, zq20, zq21, zq22, zq23, zq24, zq25, zq26, zq27, zq28, zq4, zq3, zq1, zq2, zq0, zq29, zq30, zq14, zq15, zq16, zq17, zq13, zq10, zq12, zq11, zq7, zq5, zq6, zq9, zq8, zq31, zq32, ite_T, ite_F, zq33, zq34, zq35, Nat.reduceEqDiff, len22, len24, fa26_0, fa26_1, fa26_2, len27, fa33_0, fa33_1, len35, fa114_0, fa114_1, fa114_2, fa124_0, fa124_1, len134]
  have hrm : rul gm.rules i ∈ gm.rules := by rw [rul_eq hlt]; exact List.getElem_mem hlt
  have hl0 := (h6 _ hrm).1
  have hx6 := (h6 _ hrm).2
  have hr2 := hr _ hrm
  refine rdi (ixn24 hRF.ptr hlt) ?_
  refine ld_rule0 agg33 sz33 hG.2 H.gr hlt fun Z cz hcz hZ => ?_
  refine allocH H inf33 fun b9 w7 H => ?_
  refine storeH H 3 rfl sz33 rfl rfl rfl fun w8 H => ?_
  have H : Apt w w8 [bx b1 [.int .i64 gm.nons, .int .i64 gm.toks, .slice Y gm.rules.length cy] 26, bx b3 [.bool false, .bool false, .bool false, .bool false, .bool false, .bool false] 163, bx b5 (A2.map Value.bool) 163, bx b9 [.int .i64 (rul gm.rules i).1, .slice Z (rul gm.rules i).2.length cz] 33] := H
  simp only [zq18, zq19, zq20, zq21, zq22, zq23, zq24, zq25, zq26, zq27, zq28, zq4, zq3, zq1, zq2, zq0, zq29, zq30, zq14, zq15, zq16, zq17, zq13, zq10, zq12, zq11, zq7, zq5, zq6, zq9, zq8, zq31, zq32, ite_T, ite_F, zq33, zq34, zq35, Nat.reduceEqDiff, len22, len24, fa26_0, fa26_1, fa26_2, len27, fa33_0, fa33_1, len35, fa114_0, fa114_1, fa114_2, fa124_0, fa124_1, len134]
  rw [ldB27 (H.box 3 rfl) rfl]
  simp only [zq18, zq19, zq20, zq21, zq22, zq23, zq24, zq25, zq26, zq27, zq28, zq4, zq3, zq1, zq2, zq0, zq29, zq30, zq14, zq15, zq16, zq17, zq13, zq10, zq12, zq11, zq7, zq5, zq6, zq9, zq8, zq31, zq32, ite_T, ite_F, zq33, zq34, zq35, Nat.reduceEqDiff, len22, len24, fa26_0, fa26_1, fa26_2, len27, fa33_0, fa33_1, len35, fa114_0, fa114_1, fa114_2, fa124_0, fa124_1, len134]
  refine loop_to (rul gm.rules i).2.length 0 (fun j f w' => j ≤ (rul gm.rules i).2.length ∧ f 21 = .int .i64 (j : Int) ∧ ∃ (A3 : List Bool) (m3 : Bool), f 4 = .bool m3 ∧ A3.length = 6 ∧ (∀ n, atB A3 n = true → Rch gm.rules n) ∧ atB A3 0 = true ∧
      (m3 = false → A3 = A ∧ (∀ z, z < i → LeadsB A (rul gm.rules z)) ∧ (atB A (rul gm.rules i).1.toNat = true → ∀ x ∈ (rul gm.rules i).2.take j, ¬ x < 0 → atB A x.toNat = true)) ∧ (m3 = true → A.count true < A3.count true) ∧
      Apt w w' [bx b1 [.int .i64 gm.nons, .int .i64 gm.toks, .slice Y gm.rules.length cy] 26, bx b3 [.bool false, .bool false, .bool false, .bool false, .bool false, .bool false] 163, bx b5 (A3.map Value.bool) 163, bx b9 [.int .i64 (rul gm.rules i).1, .slice Z (rul gm.rules i).2.length cz] 33])
    ⟨Nat.zero_le _, rfl, A2, m2, q4, hlen2, hs2, hz2, fun h => ⟨(hno h).1, (hno h).2, fun _ x hx => by simp at hx⟩, hyes, H⟩ ?_
  clear H hno hyes hs2 hlen2 hz2 q4
  rintro j r w9 N3 hag3 ⟨hj, r21, A3, m3, r4, hlen3, hs3, hz3, hno3, hyes3, H⟩ hN3
  have r3 : r 3 = ptrv b5 := (hag3 3 (by decide)).trans q3
  have r6 : r 6 = ptrv b9 := hag3 6 (by decide)
  have r14 : r 14 = .int .i64 (i : Int) := (hag3 14 (by decide)).trans q14
  have r19 : r 19 = .slice Z (rul gm.rules i).2.length cz := hag3 19 (by decide)
  have r20 : r 20 = .int .i64 ((rul gm.rules i).2.length : Int) := hag3 20 (by decide)
  simp only [r3, r6, r19, r20, r21, zq18, zq19, zq20, zq21, zq22, zq23, zq24, zq25, zq26, zq27, zq28, zq4, zq3, zq1, zq2, zq0, zq29, zq30, zq14, zq15, zq16, zq17, zq13, zq10, zq12, zq11, zq7, zq5, zq6, zq9, zq8, zq31, zq32, ite_T, ite_F, zq33, zq34, zq35, Nat.reduceEqDiff, len22, len24, fa26_0, fa26_1, fa26_2, len27, fa33_0, fa33_1, len35, fa114_0, fa114_1, fa114_2, fa124_0, fa124_1, len134]
  by_cases hlt2 : j < (rul gm.rules i).2.length
  case neg =>
    simp only [show ¬ ((j : Int) < ((rul gm.rules i).2.length : Int)) from by omega, decide_false, r14, zq18, zq19, zq20, zq21, zq22, zq23, zq24, zq25, zq26, zq27, zq28, zq4, zq3, zq1, zq2, zq0, zq29, zq30, zq14, zq15, zq16, zq17, zq13, zq10, zq12, zq11, zq7, zq5, zq6, zq9, zq8, zq31, zq32, ite_T, ite_F, zq33, zq34, zq35, Nat.reduceEqDiff, len22, len24, fa26_0, fa26_1, fa26_2, len27, fa33_0, fa33_1, len35, fa114_0, fa114_1, fa114_2, fa124_0, fa124_1, len134]
    rw [i64_of (by omega) (by omega)]
    rw [List.take_of_length_le (by omega)] at hno3
    have H := H.erase 3
    simp only [List.eraseIdx_cons_zero, List.eraseIdx_cons_succ] at H
    refine hN2 _ _ hlt ⟨by omega, rfl, A3, m3, r4, hlen3, hs3, hz3, fun hm => ⟨(hno3 hm).1, fun z hz' => ?_⟩, hyes3, H⟩
    rcases Nat.lt_succ_iff_lt_or_eq.1 hz' with hz' | rfl
    · exact (hno3 hm).2.1 z hz'
    · exact (hno3 hm).2.2
  simp only [show ((j : Int) < ((rul gm.rules i).2.length : Int)) from by omega, decide_true, zq18, zq19, zq20, zq21, zq22, zq23, zq24, zq25, zq26, zq27, zq28, zq4, zq3, zq1, zq2, zq0, zq29, zq30, zq14, zq15, zq16, zq17, zq13, zq10, zq12, zq11, zq7, zq5, zq6, zq9, zq8, zq31, zq32, ite_T, ite_F, zq33, zq34, zq35, Nat.reduceEqDiff, len22, len24, fa26_0, fa26_1, fa26_2, len27, fa33_0, fa33_1, len35, fa114_0, fa114_1, fa114_2, fa124_0, fa124_1, len134]
  refine join_as (fun f w' => f 21 = .int .i64 (j : Int) ∧ ∃ (A3 : List Bool) (m3 : Bool), f 4 = .bool m3 ∧ A3.length = 6 ∧ (∀ n, atB A3 n = true → Rch gm.rules n) ∧ atB A3 0 = true ∧
      (m3 = false → A3 = A ∧ (∀ z, z < i → LeadsB A (rul gm.rules z)) ∧ (atB A (rul gm.rules i).1.toNat = true → ∀ x ∈ (rul gm.rules i).2.take (j + 1), ¬ x < 0 → atB A x.toNat = true)) ∧ (m3 = true → A.count true < A3.count true) ∧
      Apt w w' [bx b1 [.int .i64 gm.nons, .int .i64 gm.toks, .slice Y gm.rules.length cy] 26, bx b3 [.bool false, .bool false, .bool false, .bool false, .bool false, .bool false] 163, bx b5 (A3.map Value.bool) 163, bx b9 [.int .i64 (rul gm.rules i).1, .slice Z (rul gm.rules i).2.length cz] 33]) (fun K hK => ?_) ?_
  case refine_2 =>
    rintro f w' ⟨f21, h⟩
    simp only [f21, zq18, zq19, zq20, zq21, zq22, zq23, zq24, zq25, zq26, zq27, zq28, zq4, zq3, zq1, zq2, zq0, zq29, zq30, zq14, zq15, zq16, zq17, zq13, zq10, zq12, zq11, zq7, zq5, zq6, zq9, zq8, zq31, zq32, ite_T, ite_F, zq33, zq34, zq35, Nat.reduceEqDiff, len22, len24, fa26_0, fa26_1, fa26_2, len27, fa33_0, fa33_1, len35, fa114_0, fa114_1, fa114_2, fa124_0, fa124_1, len134]
    rw [i64_of (by omega) (by omega)]
    exact hN3 _ _ hlt2 ⟨by omega, rfl, h⟩
  have hZ' := hZ.gr H.gr
  refine rdi (ixn27 hZ'.ptr hlt2) (rdi (ld3 (hZ'.cell j hlt2)) ?_)
  have htk := take_snoc hlt2
  have hmem : (rul gm.rules i).2.getD j 0 ∈ (rul gm.rules i).2 := getD_mem hlt2
  generalize (rul gm.rules i).2.getD j 0 = x at *
  have hx6 := hx6 x hmem
  have skip : ∀ (w' : World) (f' : F), f' 21 = .int .i64 (j : Int) → f' 4 = .bool m3 → (atB A3 (rul gm.rules i).1.toNat = true → ¬ x < 0 → atB A3 x.toNat = true) → Apt w w' [bx b1 [.int .i64 gm.nons, .int .i64 gm.toks, .slice Y gm.rules.length cy] 26, bx b3 [.bool false, .bool false, .bool false, .bool false, .bool false, .bool false] 163, bx b5 (A3.map Value.bool) 163, bx b9 [.int .i64 (rul gm.rules i).1, .slice Z (rul gm.rules i).2.length cz] 33] → K f' w' := fun w' f' e1 e2 hsk H => by
    refine hK f' w' ⟨e1, A3, m3, e2, hlen3, hs3, hz3, fun hm => ?_, hyes3, H⟩
    obtain ⟨a1, a2, a3⟩ := hno3 hm
    refine ⟨a1, a2, fun hin y hy h0 => ?_⟩
    rw [htk, List.mem_append, List.mem_singleton] at hy
    rcases hy with hy | rfl
    · exact a3 hin y hy h0
    · rw [← a1] at hin ⊢
      exact hsk hin h0
  rw [ldB3 (H.box 3 rfl) rfl]
  refine rdi (ixa163 hl0.1 hl0.2) ?_
  rw [zq34, Nat.zero_add, ldB4 (H.box 2 rfl) (atB_get (by omega))]
  cases hleft : atB A3 (rul gm.rules i).1.toNat
  · simp only [r3, zq18, zq19, zq20, zq21, zq22, zq23, zq24, zq25, zq26, zq27, zq28, zq4, zq3, zq1, zq2, zq0, zq29, zq30, zq14, zq15, zq16, zq17, zq13, zq10, zq12, zq11, zq7, zq5, zq6, zq9, zq8, zq31, zq32, ite_T, ite_F, zq33, zq34, zq35, Nat.reduceEqDiff, len22, len24, fa26_0, fa26_1, fa26_2, len27, fa33_0, fa33_1, len35, fa114_0, fa114_1, fa114_2, fa124_0, fa124_1, len134]
    exact skip _ _ r21 r4 (fun h => by rw [hleft] at h; cases h) H
  simp only [zq18, zq19, zq20, zq21, zq22, zq23, zq24, zq25, zq26, zq27, zq28, zq4, zq3, zq1, zq2, zq0, zq29, zq30, zq14, zq15, zq16, zq17, zq13, zq10, zq12, zq11, zq7, zq5, zq6, zq9, zq8, zq31, zq32, ite_T, ite_F, zq33, zq34, zq35, Nat.reduceEqDiff, len22, len24, fa26_0, fa26_1, fa26_2, len27, fa33_0, fa33_1, len35, fa114_0, fa114_1, fa114_2, fa124_0, fa124_1, len134]
  by_cases hx0 : 0 ≤ x
  case neg =>
    simp only [hx0, decide_false, r3, zq18, zq19, zq20, zq21, zq22, zq23, zq24, zq25, zq26, zq27, zq28, zq4, zq3, zq1, zq2, zq0, zq29, zq30, zq14, zq15, zq16, zq17, zq13, zq10, zq12, zq11, zq7, zq5, zq6, zq9, zq8, zq31, zq32, ite_T, ite_F, zq33, zq34, zq35, Nat.reduceEqDiff, len22, len24, fa26_0, fa26_1, fa26_2, len27, fa33_0, fa33_1, len35, fa114_0, fa114_1, fa114_2, fa124_0, fa124_1, len134]
    exact skip _ _ r21 r4 (fun _ h => absurd (by omega) h) H
  simp only [hx0, decide_true, zq18, zq19, zq20, zq21, zq22, zq23, zq24, zq25, zq26, zq27, zq28, zq4, zq3, zq1, zq2, zq0, zq29, zq30, zq14, zq15, zq16, zq17, zq13, zq10, zq12, zq11, zq7, zq5, zq6, zq9, zq8, zq31, zq32, ite_T, ite_F, zq33, zq34, zq35, Nat.reduceEqDiff, len22, len24, fa26_0, fa26_1, fa26_2, len27, fa33_0, fa33_1, len35, fa114_0, fa114_1, fa114_2, fa124_0, fa124_1, len134]
  refine rdi (ixa163 hx0 hx6) ?_
  rw [zq34, Nat.zero_add, ldB4 (H.box 2 rfl) (atB_get (by omega))]
  have hxn : x.toNat < A3.length := by omega
  cases hset : atB A3 x.toNat
  case true =>
    simp only [Bool.not_true, zq18, zq19, zq20, zq21, zq22, zq23, zq24, zq25, zq26, zq27, zq28, zq4, zq3, zq1, zq2, zq0, zq29, zq30, zq14, zq15, zq16, zq17, zq13, zq10, zq12, zq11, zq7, zq5, zq6, zq9, zq8, zq31, zq32, ite_T, ite_F, zq33, zq34, zq35, Nat.reduceEqDiff, len22, len24, fa26_0, fa26_1, fa26_2, len27, fa33_0, fa33_1, len35, fa114_0, fa114_1, fa114_2, fa124_0, fa124_1, len134]
    exact skip _ _ r21 r4 (fun _ _ => hset) H
  simp only [Bool.not_false, zq18, zq19, zq20, zq21, zq22, zq23, zq24, zq25, zq26, zq27, zq28, zq4, zq3, zq1, zq2, zq0, zq29, zq30, zq14, zq15, zq16, zq17, zq13, zq10, zq12, zq11, zq7, zq5, zq6, zq9, zq8, zq31, zq32, ite_T, ite_F, zq33, zq34, zq35, Nat.reduceEqDiff, len22, len24, fa26_0, fa26_1, fa26_2, len27, fa33_0, fa33_1, len35, fa114_0, fa114_1, fa114_2, fa124_0, fa124_1, len134]
  refine rdi (ixa163 hx0 hx6) ?_
  rw [zq34, Nat.zero_add]
  refine storeH H 2 rfl sz4 rfl rfl (Nat.ble_eq_true_of_le (by simp; omega)) fun w10 H => ?_
  have e : (A3.map Value.bool).take x.toNat ++ (Value.bool true).cells.toList ++ (A3.map Value.bool).drop (x.toNat + 1) = (A3.set x.toNat true).map Value.bool := by
    rw [List.map_set, List.set_eq_take_append_cons_drop, if_pos (by simp; omega), List.append_assoc]
    rfl
  rw [e] at H
  simp only [List.set_cons_zero, List.set_cons_succ] at H
  have hc3 := count_setB hxn hset
  have hA3 : A.count true ≤ A3.count true := by
    cases m3
    · rw [(hno3 rfl).1]
      exact Nat.le_refl _
    · exact Nat.le_of_lt (hyes3 rfl)
  refine hK _ _ ⟨r21, _, true, rfl, by rw [List.length_set]; exact hlen3, fun n hn' => ?_, (atB_set hxn).2 (.inr hz3), (fun h => by cases h), (fun _ => by omega), H⟩
  rcases (atB_set hxn).1 hn' with rfl | h
  · exact .step hrm (Int.toNat_of_nonneg hl0.1).symm (hs3 _ hleft) hmem (by omega)
  · exact hs3 n h
end
end Go.Proofs.Ytegcjkhebecgbaa

/- Contracts: listOf, growing; NullableOf, ProductiveOf, ReachedOf, GrowingOf of the program. -/
set_option linter.unusedVariables false
set_option linter.unusedSimpArgs false
set_option maxRecDepth 100000
namespace Go.Sh
open Go
theorem setL_succ {i : Nat} {P : Nat → Prop} : (P i → setL (i + 1) P = setL i P ++ [(i : Int)]) ∧ (¬ P i → setL (i + 1) P = setL i P) := by
  unfold setL
  rw [List.range_succ, List.filter_append, List.map_append]
  constructor
  · intro h
    simp [h]
  · intro h
    simp [h]
theorem setL_same {n m : Nat} {P Q : Nat → Prop} (h : ∀ a, (a < n ∧ P a) ↔ (a < m ∧ Q a)) : setL n P = setL m Q := rise_ext (setL_rise n P) (setL_rise m Q) fun x => by
  rw [setL_mem, setL_mem]
  constructor
  · rintro ⟨a, e, h1, h2⟩
    exact ⟨a, e, (h a).1 ⟨h1, h2⟩⟩
  · rintro ⟨a, e, h1, h2⟩
    exact ⟨a, e, (h a).2 ⟨h1, h2⟩⟩
theorem setL_mark {A : List Bool} {m : Nat} {P : Nat → Prop} (hlen : A.length = 6) (h : ∀ n, atB A n = true ↔ P n) (hm : ∀ n, P n → n < m) : setL 6 (fun n => atB A n = true) = setL m P := setL_same fun a => by
  constructor
  · rintro ⟨_, h2⟩
    have := (h a).1 h2
    exact ⟨hm a this, this⟩
  · rintro ⟨_, h2⟩
    have := (h a).2 h2
    exact ⟨by have := atB_lt this; omega, this⟩
def barG (A : List Bool) (x : Int) : Bool := decide (x < 0) || atB A x.toNat
theorem gro_sound {rs : List RuleL} {C A : List Bool} (hC : ∀ n, atB C n = true ↔ Clo rs true n) (hl : ∀ r ∈ rs, 0 ≤ r.1) {r : RuleL} (hr : r ∈ rs) (hs : ∀ n, atB A n = true → Gro rs n) (h : (!(r.2.any (barP C)) && r.2.any (barG A)) = true) : Gro rs r.1.toNat := by
  rw [Bool.and_eq_true] at h
  have h1 := any_not.1 h.1
  obtain ⟨x, hx, h2⟩ := List.any_eq_true.1 h.2
  have e : r.1 = (r.1.toNat : Int) := by have := hl r hr; omega
  have hc : ∀ x ∈ r.2, ¬ x < 0 → Clo rs true x.toNat := fun x hx hn => (hC _).1 (((bars_p C x).1 (h1 x hx)).2 hn)
  by_cases h0 : x < 0
  · exact .tok hr e hc hx h0
  · unfold barG at h2
    rw [decide_eq_false h0, Bool.false_or] at h2
    exact .non hr e hc hx h0 (hs _ h2)
theorem gro_full {rs : List RuleL} {C A : List Bool} (hC : ∀ n, atB C n = true ↔ Clo rs true n) (hc : ∀ r ∈ rs, (!(r.2.any (barP C)) && r.2.any (barG A)) = true → atB A r.1.toNat = true) {n : Nat} (h : Gro rs n) : atB A n = true := by
  have bar : ∀ r : RuleL, (∀ x ∈ r.2, ¬ x < 0 → Clo rs true x.toNat) → (!(r.2.any (barP C))) = true := fun r h => any_not.2 fun x hx => (bars_p C x).2 ⟨fun _ => rfl, fun hn => (hC _).2 (h x hx hn)⟩
  induction h with
  | @tok B r x h1 h2 h3 h4 h5 =>
    have := hc r h1 (by rw [bar r h3, Bool.true_and]; exact List.any_eq_true.2 ⟨x, h4, by simp [barG, h5]⟩)
    rwa [h2, Int.toNat_natCast] at this
  | @non B r x h1 h2 h3 h4 h5 _ ih =>
    have := hc r h1 (by rw [bar r h3, Bool.true_and]; exact List.any_eq_true.2 ⟨x, h4, by simp [barG, h5, ih]⟩)
    rwa [h2, Int.toNat_natCast] at this
end Go.Sh
namespace Go.Proofs.Ytegcjkhebecgbaa
open Go Go.Sh Go.RowKit
section
variable {w : World} {k : Value → World → Prop} {Y : Option Addr} {cy : Nat} {gm : Gram}
theorem rd_idx163 {S : WS} {k : Value → Prop} {A : List Bool} (hlen : A.length = 6) {i : Nat} (hi : i < 6) : Rd Try.prog S (sIndex 163 (arrB A) (.int .i64 (i : Int))) k = k (.bool (atB A i)) := by
  obtain ⟨a0, a1, a2, a3, a4, a5, rfl⟩ := six_of hlen
  match i, hi with
  | 0, _ => exact rd_eq fun w _ => by kernel_rfl
  | 1, _ => exact rd_eq fun w _ => by kernel_rfl
  | 2, _ => exact rd_eq fun w _ => by kernel_rfl
  | 3, _ => exact rd_eq fun w _ => by kernel_rfl
  | 4, _ => exact rd_eq fun w _ => by kernel_rfl
  | 5, _ => exact rd_eq fun w _ => by kernel_rfl
theorem arrB_cells {A : List Bool} (hlen : A.length = 6) : (arrB A).cells.toList = A.map Value.bool := by
  obtain ⟨a0, a1, a2, a3, a4, a5, rfl⟩ := six_of hlen
  rfl
theorem listOf_c {A : List Bool} (hlen : A.length = 6) (hk : ∀ w' X c, Gr w w' → kI X (setL 6 fun n => atB A n = true) c w' → k (.slice X (setL 6 fun n => atB A n = true).length c) w') :
    CallK Try.prog 187 [arrB A] k w := by
  refine enter187 ?_
  unfold S187
  have H := Apt.nil w
  refine boxH H fun b1 w1 H => ?_
  rw [List.nil_append, arrB_cells hlen] at H
  refine buildH H u27 inf3 [] (by decide) (by decide) (by simp [Instr.fill, madeCells]) rfl fun b3 w2 H => ?_
  simp only [List.cons_append, List.nil_append] at H
  rw [ldB_agg agg163 sz163 (by simp [hlen]) (H.box 0 rfl)]
  refine loop_to 6 0 (fun i f w' => i ≤ 6 ∧ f 8 = .int .i64 (i : Int) ∧ ∃ X c, f 3 = .slice X (setL i fun n => atB A n = true).length c ∧ Apt w w' [bx b1 (A.map Value.bool) 163, ows X c (setL i fun n => atB A n = true)])
    ⟨by omega, rfl, _, _, rfl, H⟩ ?_
  clear H
  rintro i f w3 N hag ⟨hi, f8, X, c, f3, H⟩ hN
  have f7 : f 7 = arrB A := hag 7 (by decide)
  simp only [f3, f7, f8, zq18, zq19, zq20, zq21, zq22, zq23, zq24, zq25, zq26, zq27, zq28, zq4, zq3, zq1, zq2, zq0, zq29, zq30, zq14, zq15, zq16, zq17, zq13, zq10, zq12, zq11, zq7, zq5, zq6, zq9, zq8, zq31, zq32, ite_T, ite_F, zq33, zq34, zq35, Nat.reduceEqDiff, len22, len24, fa26_0, fa26_1, fa26_2, len27, fa33_0, fa33_1, len35, fa114_0, fa114_1, fa114_2, fa124_0, fa124_1, len134]
  by_cases hlt : i < 6
  case neg =>
    simp only [show ¬ ((i : Int) < 6) from by omega, decide_false, f3, zq18, zq19, zq20, zq21, zq22, zq23, zq24, zq25, zq26, zq27, zq28, zq4, zq3, zq1, zq2, zq0, zq29, zq30, zq14, zq15, zq16, zq17, zq13, zq10, zq12, zq11, zq7, zq5, zq6, zq9, zq8, zq31, zq32, ite_T, ite_F, zq33, zq34, zq35, Nat.reduceEqDiff, len22, len24, fa26_0, fa26_1, fa26_2, len27, fa33_0, fa33_1, len35, fa114_0, fa114_1, fa114_2, fa124_0, fa124_1, len134]
    have e : i = 6 := by omega
    subst e
    exact hk w3 X c H.gr ⟨H.ints 1 rfl, (H.row 1 rfl).cap.1⟩
  simp only [show ((i : Int) < 6) from by omega, decide_true, zq18, zq19, zq20, zq21, zq22, zq23, zq24, zq25, zq26, zq27, zq28, zq4, zq3, zq1, zq2, zq0, zq29, zq30, zq14, zq15, zq16, zq17, zq13, zq10, zq12, zq11, zq7, zq5, zq6, zq9, zq8, zq31, zq32, ite_T, ite_F, zq33, zq34, zq35, Nat.reduceEqDiff, len22, len24, fa26_0, fa26_1, fa26_2, len27, fa33_0, fa33_1, len35, fa114_0, fa114_1, fa114_2, fa124_0, fa124_1, len134]
  refine join_as (fun f w' => f 8 = .int .i64 (i : Int) ∧ ∃ X c, f 3 = .slice X (setL (i + 1) fun n => atB A n = true).length c ∧ Apt w w' [bx b1 (A.map Value.bool) 163, ows X c (setL (i + 1) fun n => atB A n = true)]) (fun K hK => ?_) ?_
  · rw [rd_idx163 hlen hlt]
    cases ha : atB A i
    · simp only [zq18, zq19, zq20, zq21, zq22, zq23, zq24, zq25, zq26, zq27, zq28, zq4, zq3, zq1, zq2, zq0, zq29, zq30, zq14, zq15, zq16, zq17, zq13, zq10, zq12, zq11, zq7, zq5, zq6, zq9, zq8, zq31, zq32, ite_T, ite_F, zq33, zq34, zq35, Nat.reduceEqDiff, len22, len24, fa26_0, fa26_1, fa26_2, len27, fa33_0, fa33_1, len35, fa114_0, fa114_1, fa114_2, fa124_0, fa124_1, len134]
      have e := (setL_succ (i := i) (P := fun n => atB A n = true)).2 (by rw [ha]; decide)
      exact hK _ _ ⟨f8, X, c, by rw [e]; exact f3, by rw [e]; exact H⟩
    · simp only [zq18, zq19, zq20, zq21, zq22, zq23, zq24, zq25, zq26, zq27, zq28, zq4, zq3, zq1, zq2, zq0, zq29, zq30, zq14, zq15, zq16, zq17, zq13, zq10, zq12, zq11, zq7, zq5, zq6, zq9, zq8, zq31, zq32, ite_T, ite_F, zq33, zq34, zq35, Nat.reduceEqDiff, len22, len24, fa26_0, fa26_1, fa26_2, len27, fa33_0, fa33_1, len35, fa114_0, fa114_1, fa114_2, fa124_0, fa124_1, len134]
      have e := (setL_succ (i := i) (P := fun n => atB A n = true)).1 ha
      have hl := setL_len i fun n => atB A n = true
      refine pushH H 1 rfl rfl (by omega) fun t X2 c2 w4 H => ?_
      rw [← e] at H ⊢
      simp only [List.set_cons_zero, List.set_cons_succ] at H
      exact hK _ _ ⟨f8, X2, c2, rfl, H⟩
  clear H
  rintro f w4 ⟨f8, h⟩
  simp only [f8, zq18, zq19, zq20, zq21, zq22, zq23, zq24, zq25, zq26, zq27, zq28, zq4, zq3, zq1, zq2, zq0, zq29, zq30, zq14, zq15, zq16, zq17, zq13, zq10, zq12, zq11, zq7, zq5, zq6, zq9, zq8, zq31, zq32, ite_T, ite_F, zq33, zq34, zq35, Nat.reduceEqDiff, len22, len24, fa26_0, fa26_1, fa26_2, len27, fa33_0, fa33_1, len35, fa114_0, fa114_1, fa114_2, fa124_0, fa124_1, len134]
  rw [i64_of (by omega) (by omega)]
  exact hN _ _ hlt ⟨by omega, rfl, h⟩
theorem barP2_c {b : Nat} {A : List Bool} {x : Int} (hlen : A.length = 6) (hx : x < 6) (hB : Box w b (A.map Value.bool) 163) (hk : k (.bool (barP A x)) w) :
    CallK Try.prog 276 [.int .i64 x, ptrv b] k w := by
  refine enter276 ?_
  unfold S276
  unfold barP at hk
  simp only [zq18, zq19, zq20, zq21, zq22, zq23, zq24, zq25, zq26, zq27, zq28, zq4, zq3, zq1, zq2, zq0, zq29, zq30, zq14, zq15, zq16, zq17, zq13, zq10, zq12, zq11, zq7, zq5, zq6, zq9, zq8, zq31, zq32, ite_T, ite_F, zq33, zq34, zq35, Nat.reduceEqDiff, len22, len24, fa26_0, fa26_1, fa26_2, len27, fa33_0, fa33_1, len35, fa114_0, fa114_1, fa114_2, fa124_0, fa124_1, len134]
  by_cases h : 0 ≤ x
  · simp only [h, decide_true, zq18, zq19, zq20, zq21, zq22, zq23, zq24, zq25, zq26, zq27, zq28, zq4, zq3, zq1, zq2, zq0, zq29, zq30, zq14, zq15, zq16, zq17, zq13, zq10, zq12, zq11, zq7, zq5, zq6, zq9, zq8, zq31, zq32, ite_T, ite_F, zq33, zq34, zq35, Nat.reduceEqDiff, len22, len24, fa26_0, fa26_1, fa26_2, len27, fa33_0, fa33_1, len35, fa114_0, fa114_1, fa114_2, fa124_0, fa124_1, len134]
    refine rdi (ixa163 h hx) ?_
    rw [zq34, Nat.zero_add, ldB4 hB (atB_get (by omega))]
    simp only [zq18, zq19, zq20, zq21, zq22, zq23, zq24, zq25, zq26, zq27, zq28, zq4, zq3, zq1, zq2, zq0, zq29, zq30, zq14, zq15, zq16, zq17, zq13, zq10, zq12, zq11, zq7, zq5, zq6, zq9, zq8, zq31, zq32, ite_T, ite_F, zq33, zq34, zq35, Nat.reduceEqDiff, len22, len24, fa26_0, fa26_1, fa26_2, len27, fa33_0, fa33_1, len35, fa114_0, fa114_1, fa114_2, fa124_0, fa124_1, len134]
    simpa only [h, decide_true, Bool.true_and] using hk
  · simp only [h, decide_false, zq18, zq19, zq20, zq21, zq22, zq23, zq24, zq25, zq26, zq27, zq28, zq4, zq3, zq1, zq2, zq0, zq29, zq30, zq14, zq15, zq16, zq17, zq13, zq10, zq12, zq11, zq7, zq5, zq6, zq9, zq8, zq31, zq32, ite_T, ite_F, zq33, zq34, zq35, Nat.reduceEqDiff, len22, len24, fa26_0, fa26_1, fa26_2, len27, fa33_0, fa33_1, len35, fa114_0, fa114_1, fa114_2, fa124_0, fa124_1, len134]
    simpa only [h, decide_false, Bool.false_and] using hk
theorem barG_c {b : Nat} {A : List Bool} {x : Int} (hlen : A.length = 6) (hx : x < 6) (hB : Box w b (A.map Value.bool) 163) (hk : k (.bool (barG A x)) w) :
    CallK Try.prog 277 [.int .i64 x, ptrv b] k w := by
  refine enter277 ?_
  unfold S277
  unfold barG at hk
  simp only [zq18, zq19, zq20, zq21, zq22, zq23, zq24, zq25, zq26, zq27, zq28, zq4, zq3, zq1, zq2, zq0, zq29, zq30, zq14, zq15, zq16, zq17, zq13, zq10, zq12, zq11, zq7, zq5, zq6, zq9, zq8, zq31, zq32, ite_T, ite_F, zq33, zq34, zq35, Nat.reduceEqDiff, len22, len24, fa26_0, fa26_1, fa26_2, len27, fa33_0, fa33_1, len35, fa114_0, fa114_1, fa114_2, fa124_0, fa124_1, len134]
  by_cases h : x < 0
  · simp only [h, decide_true, zq18, zq19, zq20, zq21, zq22, zq23, zq24, zq25, zq26, zq27, zq28, zq4, zq3, zq1, zq2, zq0, zq29, zq30, zq14, zq15, zq16, zq17, zq13, zq10, zq12, zq11, zq7, zq5, zq6, zq9, zq8, zq31, zq32, ite_T, ite_F, zq33, zq34, zq35, Nat.reduceEqDiff, len22, len24, fa26_0, fa26_1, fa26_2, len27, fa33_0, fa33_1, len35, fa114_0, fa114_1, fa114_2, fa124_0, fa124_1, len134]
    simpa only [h, decide_true, Bool.true_or] using hk
  · simp only [h, decide_false, zq18, zq19, zq20, zq21, zq22, zq23, zq24, zq25, zq26, zq27, zq28, zq4, zq3, zq1, zq2, zq0, zq29, zq30, zq14, zq15, zq16, zq17, zq13, zq10, zq12, zq11, zq7, zq5, zq6, zq9, zq8, zq31, zq32, ite_T, ite_F, zq33, zq34, zq35, Nat.reduceEqDiff, len22, len24, fa26_0, fa26_1, fa26_2, len27, fa33_0, fa33_1, len35, fa114_0, fa114_1, fa114_2, fa124_0, fa124_1, len134]
    refine rdi (ixa163 (by omega) hx) ?_
    rw [zq34, Nat.zero_add, ldB4 hB (atB_get (by omega))]
    simpa only [h, decide_false, Bool.false_or] using hk
theorem makeG_c {C A : List Bool} {r : RuleL} {Z : Option Addr} {b d : Nat} (hC : C.length = 6) (hB : Box w b (C.map Value.bool) 163) (hlen : A.length = 6) (hZ : kI Z r.2 d w) (hr : ∀ x ∈ r.2, x < 6) (hk : ∀ w', Gr w w' → k (.bool (!(r.2.any (barP C)) && r.2.any (barG A))) w') :
    CallK Try.prog 275 [.agg #[.int .i64 r.1, .slice Z r.2.length d], arrB A, ptrv b] k w := by
  refine enter275 ?_
  unfold S275
  refine do_box fun b1 w1 g1 hb1 B1 => ?_
  refine do_box fun b3 w2 g2 hb3 B3 => ?_
  have B3 : Box w2 b3 (A.map Value.bool) 163 := by
    obtain ⟨a0, a1, a2, a3, a4, a5, rfl⟩ := six_of hlen
    exact B3
  have B1 := B1.gr g2
  have hB := hB.gr (gr_trans g1 g2)
  simp only [zq18, zq19, zq20, zq21, zq22, zq23, zq24, zq25, zq26, zq27, zq28, zq4, zq3, zq1, zq2, zq0, zq29, zq30, zq14, zq15, zq16, zq17, zq13, zq10, zq12, zq11, zq7, zq5, zq6, zq9, zq8, zq31, zq32, ite_T, ite_F, zq33, zq34, zq35, Nat.reduceEqDiff, len22, len24, fa26_0, fa26_1, fa26_2, len27, fa33_0, fa33_1, len35, fa114_0, fa114_1, fa114_2, fa124_0, fa124_1, len134]
  rw [ldB27 B1 rfl]
  rw [makeFunc_]
  refine containsFuncD_c (D := fun x => x < 6) (p := barP C) (hZ.1.gr (gr_trans g1 g2)) hr (fun w4 g4 x hx k hk => ?_) fun w3 g3 => ?_
  · refine callVc (caps := [ptrv b]) ?_
    exact barP2_c hC hx (hB.gr g4) (hk w4 (Gr.refl _))
  have g3' := gr_trans (gr_trans g1 g2) g3
  cases hlost : r.2.any (barP C)
  case true =>
    simp only [Bool.not_true, zq18, zq19, zq20, zq21, zq22, zq23, zq24, zq25, zq26, zq27, zq28, zq4, zq3, zq1, zq2, zq0, zq29, zq30, zq14, zq15, zq16, zq17, zq13, zq10, zq12, zq11, zq7, zq5, zq6, zq9, zq8, zq31, zq32, ite_T, ite_F, zq33, zq34, zq35, Nat.reduceEqDiff, len22, len24, fa26_0, fa26_1, fa26_2, len27, fa33_0, fa33_1, len35, fa114_0, fa114_1, fa114_2, fa124_0, fa124_1, len134]
    have := hk w3 g3'
    rwa [hlost, Bool.not_true, Bool.false_and] at this
  simp only [Bool.not_false, zq18, zq19, zq20, zq21, zq22, zq23, zq24, zq25, zq26, zq27, zq28, zq4, zq3, zq1, zq2, zq0, zq29, zq30, zq14, zq15, zq16, zq17, zq13, zq10, zq12, zq11, zq7, zq5, zq6, zq9, zq8, zq31, zq32, ite_T, ite_F, zq33, zq34, zq35, Nat.reduceEqDiff, len22, len24, fa26_0, fa26_1, fa26_2, len27, fa33_0, fa33_1, len35, fa114_0, fa114_1, fa114_2, fa124_0, fa124_1, len134]
  rw [ldB27 (B1.gr g3) rfl]
  rw [makeFunc_]
  refine containsFuncD_c (D := fun x => x < 6) (p := barG A) (hZ.1.gr g3') hr (fun w4 g4 x hx k hk => ?_) fun w5 g5 => ?_
  · refine callVc (caps := [ptrv b3]) ?_
    exact barG_c hlen hx ((B3.gr g3).gr g4) (hk w4 (Gr.refl _))
  have := hk w5 (gr_trans g3' g5)
  rwa [hlost, Bool.not_false, Bool.true_and] at this
theorem growing_c (hG : kG Y cy gm.rules w) (h6 : SixR gm.rules) (hk : ∀ w' A, Gr w w' → A.length = 6 → (∀ n, atB A n = true ↔ Gro gm.rules n) → k (arrB A) w') :
    CallK Try.prog 194 [grv gm Y cy] k w := by
  refine enter194 ?_
  unfold S194
  have H := Apt.nil w
  refine boxH H fun b1 w1 H => ?_
  refine allocH H inf163' fun b3 w2 H => ?_
  have H : Apt w w2 [bx b1 [.int .i64 gm.nons, .int .i64 gm.toks, .slice Y gm.rules.length cy] 26, bx b3 [.bool false, .bool false, .bool false, .bool false, .bool false, .bool false] 163] := H
  rw [ldB_agg agg26 sz26 rfl (H.box 0 rfl)]
  refine productive_c (gm := gm) ⟨hG.1, hG.2.gr H.gr⟩ h6 fun w3 C g hC hP => ?_
  have H := H.step g
  refine allocH H inf163' fun b8 w4 H => ?_
  obtain ⟨c0, c1, c2, c3, c4, c5, rfl⟩ := six_of hC
  refine storeH H 2 rfl sz163 rfl rfl rfl fun w5 H => ?_
  have H : Apt w w5 [bx b1 [.int .i64 gm.nons, .int .i64 gm.toks, .slice Y gm.rules.length cy] 26, bx b3 [.bool false, .bool false, .bool false, .bool false, .bool false, .bool false] 163, bx b8 ([c0, c1, c2, c3, c4, c5].map Value.bool) 163] := H
  rw [ldB_agg agg26 sz26 rfl (H.box 0 rfl)]
  rw [makeFunc_]
  have B8 := H.box 2 rfl
  refine closed_c (gm := gm) (P := Gro gm.rules) (mk := fun A r => !(r.2.any (barP [c0, c1, c2, c3, c4, c5])) && r.2.any (barG A)) ⟨hG.1, hG.2.gr H.gr⟩ (fun r hr => (h6 r hr).1) (fun w1 g1 r hr Z d A k hlen hZ hk => callVc (caps := [ptrv b8]) (makeG_c rfl (B8.gr g1) hlen hZ (h6 r hr).2 hk)) (fun A r hr hs h => gro_sound hP (fun r hr => (h6 r hr).1.1) hr hs h) fun w6 A g hlen hs hc => ?_
  have H := H.step g
  obtain ⟨a0, a1, a2, a3, a4, a5, rfl⟩ := six_of hlen
  refine storeH H 1 rfl sz163 rfl rfl rfl fun w7 H => ?_
  have H : Apt w w7 [bx b1 [.int .i64 gm.nons, .int .i64 gm.toks, .slice Y gm.rules.length cy] 26, bx b3 ([a0, a1, a2, a3, a4, a5].map Value.bool) 163, bx b8 ([c0, c1, c2, c3, c4, c5].map Value.bool) 163] := H
  rw [rd_loadVar, ldB_agg agg163 sz163 rfl (H.box 1 rfl)]
  exact hk w7 _ H.gr rfl fun n => ⟨hs n, gro_full hP hc⟩
end
end Go.Proofs.Ytegcjkhebecgbaa

/- Contracts: NullableOf, ProductiveOf, ReachedOf, GrowingOf of the program. -/
set_option linter.unusedVariables false
set_option linter.unusedSimpArgs false
set_option maxRecDepth 100000
namespace Go.Sh
open Go
theorem clo_lt {gm : Gram} (hg : goodG gm = true) {tok : Bool} {n : Nat} (h : Clo gm.rules tok n) : n < gm.nons.toNat := by
  cases h with
  | mk h1 h2 _ _ => have := (goodRules hg _ h1).1; omega
end Go.Sh
namespace Go.Proofs.Ytegcjkhebecgbaa
open Go Go.Sh Go.RowKit
theorem sixR {gm : Gram} (hg : goodG gm = true) : SixR gm.rules := fun r hr => by
  have h6 := good_nons hg
  obtain ⟨h1, _, h3⟩ := goodRules hg r hr
  exact ⟨⟨by omega, by omega⟩, fun x hx => by have := h3 x hx; omega⟩
section
variable {w : World} {k : Value → World → Prop} {Y : Option Addr} {cy : Nat} {gm : Gram}
theorem implNullableOf_c (hG : kG Y cy gm.rules w) (hk : ∀ w' X c, Gr w w' → kI X (listV gm (cloV gm false)).1 c w' → k (.tuple #[.slice X (listV gm (cloV gm false)).1.length c, .bool (listV gm (cloV gm false)).2]) w') :
    CallK Try.prog 61 [grv gm Y cy] k w := by
  refine enter61 ?_
  unfold S61
  refine do_box fun b1 w1 g1 hb1 B1 => ?_
  rw [ldB_agg agg26 sz26 rfl B1]
  refine isGrammar_c (gvK (gm := gm) ⟨hG.1, hG.2.gr g1⟩) fun w2 g2 => ?_
  have g2' := gr_trans g1 g2
  cases hg : goodG gm
  · simp only [Bool.not_false, zq18, zq19, zq20, zq21, zq22, zq23, zq24, zq25, zq26, zq27, zq28, zq4, zq3, zq1, zq2, zq0, zq29, zq30, zq14, zq15, zq16, zq17, zq13, zq10, zq12, zq11, zq7, zq5, zq6, zq9, zq8, zq31, zq32, ite_T, ite_F, zq33, zq34, zq35, Nat.reduceEqDiff, len22, len24, fa26_0, fa26_1, fa26_2, len27, fa33_0, fa33_1, len35, fa114_0, fa114_1, fa114_2, fa124_0, fa124_1, len134]
    have e : listV gm (cloV gm false) = ([], false) := by unfold listV; rw [hg]; rfl
    rw [e] at hk
    exact hk w2 none 0 g2' ⟨⟨by simp, fun h => by simp at h, fun j hj => by simp at hj⟩, by simp⟩
  simp only [Bool.not_true, zq18, zq19, zq20, zq21, zq22, zq23, zq24, zq25, zq26, zq27, zq28, zq4, zq3, zq1, zq2, zq0, zq29, zq30, zq14, zq15, zq16, zq17, zq13, zq10, zq12, zq11, zq7, zq5, zq6, zq9, zq8, zq31, zq32, ite_T, ite_F, zq33, zq34, zq35, Nat.reduceEqDiff, len22, len24, fa26_0, fa26_1, fa26_2, len27, fa33_0, fa33_1, len35, fa114_0, fa114_1, fa114_2, fa124_0, fa124_1, len134]
  have e : listV gm (cloV gm false) = (cloV gm false, true) := by unfold listV; rw [hg]; rfl
  rw [e] at hk
  rw [ldB_agg agg26 sz26 rfl (B1.gr g2)]
  refine nullable_c (gm := gm) ⟨hG.1, hG.2.gr g2'⟩ (sixR hg) fun w3 A g3 hlen hA => ?_
  refine listOf_c hlen fun w4 X c g4 hX => ?_
  rw [setL_mark (P := Clo gm.rules false) (m := gm.nons.toNat) hlen hA fun n h => clo_lt hg h] at hX ⊢
  exact hk w4 X c (gr_trans (gr_trans g2' g3) g4) hX
theorem implProductiveOf_c (hG : kG Y cy gm.rules w) (hk : ∀ w' X c, Gr w w' → kI X (listV gm (cloV gm true)).1 c w' → k (.tuple #[.slice X (listV gm (cloV gm true)).1.length c, .bool (listV gm (cloV gm true)).2]) w') :
    CallK Try.prog 60 [grv gm Y cy] k w := by
  refine enter60 ?_
  unfold S60
  refine do_box fun b1 w1 g1 hb1 B1 => ?_
  rw [ldB_agg agg26 sz26 rfl B1]
  refine isGrammar_c (gvK (gm := gm) ⟨hG.1, hG.2.gr g1⟩) fun w2 g2 => ?_
  have g2' := gr_trans g1 g2
  cases hg : goodG gm
  · simp only [Bool.not_false, zq18, zq19, zq20, zq21, zq22, zq23, zq24, zq25, zq26, zq27, zq28, zq4, zq3, zq1, zq2, zq0, zq29, zq30, zq14, zq15, zq16, zq17, zq13, zq10, zq12, zq11, zq7, zq5, zq6, zq9, zq8, zq31, zq32, ite_T, ite_F, zq33, zq34, zq35, Nat.reduceEqDiff, len22, len24, fa26_0, fa26_1, fa26_2, len27, fa33_0, fa33_1, len35, fa114_0, fa114_1, fa114_2, fa124_0, fa124_1, len134]
    have e : listV gm (cloV gm true) = ([], false) := by unfold listV; rw [hg]; rfl
    rw [e] at hk
    exact hk w2 none 0 g2' ⟨⟨by simp, fun h => by simp at h, fun j hj => by simp at hj⟩, by simp⟩
  simp only [Bool.not_true, zq18, zq19, zq20, zq21, zq22, zq23, zq24, zq25, zq26, zq27, zq28, zq4, zq3, zq1, zq2, zq0, zq29, zq30, zq14, zq15, zq16, zq17, zq13, zq10, zq12, zq11, zq7, zq5, zq6, zq9, zq8, zq31, zq32, ite_T, ite_F, zq33, zq34, zq35, Nat.reduceEqDiff, len22, len24, fa26_0, fa26_1, fa26_2, len27, fa33_0, fa33_1, len35, fa114_0, fa114_1, fa114_2, fa124_0, fa124_1, len134]
  have e : listV gm (cloV gm true) = (cloV gm true, true) := by unfold listV; rw [hg]; rfl
  rw [e] at hk
  rw [ldB_agg agg26 sz26 rfl (B1.gr g2)]
  refine productive_c (gm := gm) ⟨hG.1, hG.2.gr g2'⟩ (sixR hg) fun w3 A g3 hlen hA => ?_
  refine listOf_c hlen fun w4 X c g4 hX => ?_
  rw [setL_mark (P := Clo gm.rules true) (m := gm.nons.toNat) hlen hA fun n h => clo_lt hg h] at hX ⊢
  exact hk w4 X c (gr_trans (gr_trans g2' g3) g4) hX
end
end Go.Proofs.Ytegcjkhebecgbaa

/- Rows: clearing a tail and cutting it off; a rule is moved within rules. -/
set_option linter.unusedVariables false
set_option linter.unusedSimpArgs false
set_option maxRecDepth 100000
namespace Go.Sh
open Go
section
variable {P : Program} {w : World} {k : Value → World → Prop} {B e sz n c m : Nat} {X : Option Addr} {cells : List Value}
theorem Row.cutS (h : Row w B e sz X n c cells) (hm : m ≤ n) : Row w B e sz X m c (cells.take (m * sz)) := by
  have hl := h.1
  have hms : m * sz ≤ n * sz := Nat.mul_le_mul_right sz hm
  rcases h.2 with ⟨h2, h3⟩ | ⟨g, cap, cur, e1, e2, e3, e4, e5, e6, e7⟩
  · subst h3
    rcases h.at_ with ⟨rfl, _, rfl⟩ | ⟨g, rfl, _⟩
    · obtain rfl : m = 0 := by omega
      rw [Nat.zero_mul, List.take_zero]
      exact Row.nil _ _ _ _
    · simp at h2
  · simp only [Value.slice.injEq] at e1
    obtain ⟨rfl, _, rfl⟩ := e1
    refine ⟨by rw [List.length_take]; omega, .inr ⟨g, c, cur, rfl, e2, e3, by omega, e5, e6, ?_⟩⟩
    rw [← e7, List.take_take, Nat.min_eq_left hms]
theorem zeroCells_len (zs : Array Value) (n : Nat) : (Builtin.zeroCells zs n).toList.length = n * zs.size := by simp [Builtin.zeroCells]
theorem zeroCells_one {zs : Array Value} (h : ∀ v ∈ zs.toList, v.oneCell' = true) (h0 : 0 < zs.size) (n : Nat) : ∀ v ∈ (Builtin.zeroCells zs n).toList, v.oneCell' = true := fun v hv => by
  simp only [Builtin.zeroCells, Array.toList_map, List.mem_map] at hv
  obtain ⟨i, _, rfl⟩ := hv
  have hlt := Nat.mod_lt i h0
  rw [getElem!_pos zs _ hlt]
  exact h _ (by simp)
/-- The tail of a row is cleared; the rest stays. -/
theorem do_clear_tail {u t by' : Nat} {z : Value} {cs : List Bool} (hu : P.underlying u = some (.slice e)) (I : Inf P e z sz by') (hzs : z.cells.size = sz) (hsz : 0 < sz) (h1 : ∀ v ∈ z.cells.toList, v.oneCell' = true) (hO : Row w B e sz X n c cells) (hm : m ≤ n)
    (h : ∀ w', w.grownBy w' (blk X) → w'.heap.size = w.heap.size → Row w' B e sz X m c (cells.take (m * sz)) → k (.tuple #[]) w') :
    Do P (sBuiltin .clear #[u] t cs [.slice (sub X m c sz) (n - m) (c - m)]) k w := by
  by_cases hmn : m = n
  · subst hmn
    have e' : (sBuiltin .clear #[u] t cs [.slice (sub X m c sz) (m - m) (c - m)]).run P w = .ok (.value (.tuple #[])) w := by
      rw [Nat.sub_self]
      simp only [sBuiltin, builtin, Sem.run_bind]
      unfold Builtin.clear_
      cases sub X m c sz <;> simp [Sem.run_bind, run_underlying hu, Result.andThen]
    rw [do_value e']
    exact h w (gr_any (Gr.refl w) _) rfl (hO.cutS (Nat.le_refl _))
  have hcap := hO.cap
  rcases hO.at_ with ⟨rfl, rfl, _⟩ | ⟨g, rfl, hb, hg⟩
  · omega
  have hlen := hO.len
  have hsub : sub (some (⟨g, 0, none⟩ : Addr)) m c sz = some ⟨g, m * sz, none⟩ := by
    unfold sub
    rw [if_neg (by omega), Option.map_some, zq34, Nat.zero_add]
  have hms : m * sz + (n - m) * sz = n * sz := by rw [← Nat.add_mul]; congr 1; omega
  have hzl := zeroCells_len z.cells (n - m)
  rw [hzs] at hzl
  obtain ⟨w', hr, hg', hb', hsz'⟩ := run_storeRow (P := P) (j := m * sz) (Builtin.zeroCells z.cells (n - m)).toList 0 cells w hO (by rw [hzl]; omega) (zeroCells_one h1 (by omega) _)
  have e' : (sBuiltin .clear #[u] t cs [.slice (sub (some (⟨g, 0, none⟩ : Addr)) m c sz) (n - m) (c - m)]).run P w = .ok (.value (.tuple #[])) w' := by
    rw [hsub]
    obtain ⟨p, hp⟩ : ∃ p, n - m = p + 1 := ⟨n - m - 1, by omega⟩
    rw [hp] at hr ⊢
    obtain ⟨i, hi, hz, _, _⟩ := I
    have e0 : (zeroValue e).run P w = .ok z w := by simp [zeroValue, run_info hi, hz]
    simp only [sBuiltin, builtin, Sem.run_bind]
    unfold Builtin.clear_
    simp [Sem.run_bind, run_underlying hu, Result.andThen, e0, hr]
  rw [do_value e']
  refine h w' hg' hsz' ?_
  have := Row.cutS hb' hm
  rwa [Nat.add_zero, List.append_assoc, List.take_append_of_le_length (by rw [List.length_take, hlen]; have := Nat.mul_le_mul_right sz hm; omega), List.take_take, Nat.min_self] at this
end
section
variable {F : Nat → Prop} {w : World} {rs : List RuleL} {cells : List Value}
theorem RuleCells.take (h : RuleCells F w rs cells) : ∀ m, RuleCells F w (rs.take m) (cells.take (m * 2)) := by
  induction h with
  | nil => intro m; rw [List.take_nil, List.take_nil]; exact .nil
  | @cons r rs Y c cells h1 h2 _ ih =>
    intro m
    cases m with
    | zero => exact .nil
    | succ m =>
      rw [show (m + 1) * 2 = m * 2 + 1 + 1 from by omega]
      exact .cons h1 h2 (ih m)
theorem RuleCells.set {r : RuleL} {Y : Option Addr} {d : Nat} (h : RuleCells F w rs cells) (hd : r.2.length ≤ d) (hY : IntsF F w Y r.2) : ∀ j, j < rs.length → RuleCells F w (rs.set j r) (cells.take (j * 2) ++ [.int .i64 r.1, .slice Y r.2.length d] ++ cells.drop (j * 2 + 2)) := by
  induction h with
  | nil => intro j hj; simp at hj
  | @cons q rs Z c cells h1 h2 h3 ih =>
    intro j hj
    cases j with
    | zero => exact .cons hd hY h3
    | succ j =>
      have := ih j (by simpa using hj)
      rw [show (j + 1) * 2 = j * 2 + 1 + 1 from by omega]
      exact .cons h1 h2 this
end
end Go.Sh
namespace Go.Proofs.Ytegcjkhebecgbaa
open Go Go.Sh Go.RowKit
section
variable {w0 w : World} {L : List Thing} {k : Value → World → Prop}
/-- A rule is put in the place of another. -/
theorem moveG (H : Apt w0 w L) (i : Nat) {X Y : Option Addr} {c d j : Nat} {rs : List RuleL} {r : RuleL} {ft : Nat → Prop} (hi : L[i]? = some (gth ft X c rs)) (hj : j < rs.length) (hd : r.2.length ≤ d) (hY : IntsF (fun q => ft q ∧ blk X ≠ some q) w Y r.2)
    (h : ∀ w', Apt w0 w' (L.set i (gth ft X c (rs.set j r))) → k undef w') : Do Try.prog (sStore 33 (.pointer (some ((ad X).add (j * 2)))) (.agg #[.int .i64 r.1, .slice Y r.2.length d])) k w := by
  obtain ⟨cells, hrow, hrc⟩ := H.gow i hi
  refine do_store_rows sz33 rfl (by decide) (by intro u hu; simp [Value.cells] at hu; rcases hu with rfl | rfl <;> rfl) hrow (by omega) fun w' g hsz hr' => h w' ?_
  have hset := hrc.set hd hY j hj
  have hset' : RuleCells (fun q => ft q ∧ blk X ≠ some q) w' (rs.set j r) _ := (hset.lt.same fun q hq => g.block q hq.2 fun e => hq.1.2 e.symm).mono fun q hq => hq.1
  refine H.set hi (it' := gth ft X c (rs.set j r)) (gx_of g fun q hq => .inl hq) (fun q hq => .inl hq) (fun q hq => ?_) (gow_kept ⟨_, by rw [List.length_set]; exact hr', hset'⟩)
  rw [hsz]
  exact (H.ok i _ hi).hi q hq
/-- The tail of rules is cleared and cut off. -/
theorem clearG (H : Apt w0 w L) (i : Nat) {X : Option Addr} {c m t : Nat} {rs : List RuleL} {ft : Nat → Prop} {cs : List Bool} (hi : L[i]? = some (gth ft X c rs)) (hm : m ≤ rs.length)
    (h : ∀ w', Apt w0 w' (L.set i (gth ft X c (rs.take m))) → k (.tuple #[]) w') : Do Try.prog (sBuiltin .clear #[24] t cs [.slice (sub X m c 2) (rs.length - m) (c - m)]) k w := by
  obtain ⟨cells, hrow, hrc⟩ := H.gow i hi
  refine do_clear_tail u24 inf33 rfl (by decide) (by intro u hu; simp [Value.cells] at hu; rcases hu with rfl | rfl <;> rfl) hrow hm fun w' g hsz hr' => h w' ?_
  have hset' : RuleCells (fun q => ft q ∧ blk X ≠ some q) w' (rs.take m) _ := ((hrc.take m).lt.same fun q hq => g.block q hq.2 fun e => hq.1.2 e.symm).mono fun q hq => hq.1
  have hml : (rs.take m).length = m := by rw [List.length_take]; omega
  refine H.set hi (it' := gth ft X c (rs.take m)) (gx_of g fun q hq => .inl hq) (fun q hq => .inl hq) (fun q hq => ?_) (gow_kept ⟨_, by rw [hml]; exact hr', hset'⟩)
  rw [hsz]
  exact (H.ok i _ hi).hi q hq
end
end Go.Proofs.Ytegcjkhebecgbaa

/- Plans whose steps fork in three: the frame's soundness once more, for those. -/
set_option linter.unusedVariables false
namespace Go.Sh.X
open Go Go.Proofs.YtegcjkhebecgbaaW.PrintLast

/-- Steps of a plan; at a fork either of two may come first. -/
inductive Steps where
  | nil
  | step (i : Nat) (kd : Kd) (r : Steps)
  | fork (i : Nat) (a : Steps) (j : Nat) (b : Steps)
  | fork3 (i : Nat) (a : Steps) (j : Nat) (b : Steps) (m : Nat) (c : Steps)
structure Plan where
  gen : Bool
  ds : List Nat
  steps : Steps

def stepsOK (ops : Array Oper) (ds : List Nat) : Steps → Nat → Array Bool → Bool → Bool
  | .nil, n, l, _ => (n == 0) && (Region.ready .any ops l == [])
  | .step _ _ _, 0, _, _ => false
  | .step i .any r, n + 1, l, s => quietAt ops i && anyB .any ops l (l.setIfInBounds i true) i && stepsOK ops ds r n (l.setIfInBounds i true) s
  | .step i .held r, n + 1, l, s => s && quietAt ops i && takeB .any ops ds l (l.setIfInBounds i true) i && stepsOK ops ds r n (l.setIfInBounds i true) s
  | .step i .one r, n + 1, l, s => s && !ds.contains i && (Region.ready .any ops l == [i]) && stepsOK ops ds r n (l.setIfInBounds i true) s
  | .step i .last r, n + 1, l, s => !quietAt ops i && ds.contains i && (Region.ready .any ops l == [i]) && stepsOK ops ds r n (l.setIfInBounds i true) false
  | .fork _ _ _ _, 0, _, _ => false
  | .fork i a j b, n + 1, l, s => s && !ds.contains i && !ds.contains j && (Region.ready .any ops l == [i, j]) && stepsOK ops ds a n (l.setIfInBounds i true) s && stepsOK ops ds b n (l.setIfInBounds j true) s
  | .fork3 _ _ _ _ _ _, 0, _, _ => false
  | .fork3 i a j b m c, n + 1, l, s => s && !ds.contains i && !ds.contains j && !ds.contains m && (Region.ready .any ops l == [i, j, m]) && stepsOK ops ds a n (l.setIfInBounds i true) s && stepsOK ops ds b n (l.setIfInBounds j true) s && stepsOK ops ds c n (l.setIfInBounds m true) s
def planOK (ops : Array Oper) (p : Plan) : Bool := stepsOK ops p.ds p.steps ops.size (Array.replicate ops.size false) true

def stepsK (P : Program) (ops : List Oper) (S : WS) : Steps → F → (F → World → Prop) → World → Prop
  | .nil, f, k, w => k f w
  | .step i kd r, f, k, w =>
    match ops[i]? with
    | none => False
    | some o =>
      match kd with
      | .any => stepK P WS.any ops f o (fun v w' => stepsK P ops S r (f.put o.dst v) k w') w
      | .held => stepK P S ops f o (fun v w' => stepsK P ops S r (f.put o.dst v) k w') w
      | .one => stepK P S ops f o (fun v w' => S.S w' ∧ stepsK P ops S r (f.put o.dst v) k w') w
      | .last => stepK P S ops f o (fun v w' => stepsK P ops S r (f.put o.dst v) k w') w
  | .fork i a j b, f, k, w =>
    match ops[i]?, ops[j]? with
    | some o, some u => stepK P S ops f o (fun v w' => S.S w' ∧ stepsK P ops S a (f.put o.dst v) k w') w ∧ stepK P S ops f u (fun v w' => S.S w' ∧ stepsK P ops S b (f.put u.dst v) k w') w
    | _, _ => False
  | .fork3 i a j b m c, f, k, w =>
    match ops[i]?, ops[j]?, ops[m]? with
    | some o, some u, some x => stepK P S ops f o (fun v w' => S.S w' ∧ stepsK P ops S a (f.put o.dst v) k w') w ∧ stepK P S ops f u (fun v w' => S.S w' ∧ stepsK P ops S b (f.put u.dst v) k w') w ∧ stepK P S ops f x (fun v w' => S.S w' ∧ stepsK P ops S c (f.put x.dst v) k w') w
    | _, _, _ => False
def drawK (P : Program) (ops : List Oper) (p : Plan) (f : F) (k : F → World → Prop) (w : World) : Prop :=
  bif p.gen then ∃ S : World → Prop, ∃ h : S w, stepsK P ops ⟨S, w, h⟩ p.steps f k w
  else stepsK P ops (WS.at w) p.steps f k w

theorem stepsK_sound {P : Program} {ops : Array Oper} {n : Nat} {W : List Nat} {k : F → World → Prop} {Q : Exit → Act → World → Prop} {f0 : F} {S : WS} {ds : List Nat}
    (hQ : ∀ f a w, Fits n f a → Agree W f0 f → k f w → Q .normal a w) (hP : ∀ c a w, ¬ Q (.panic c) a w) (hW : ∀ d ∈ W, d < n) (hD : ∀ d ∈ dsts ops.toList, d ∈ W) :
    ∀ (steps : Steps) (m : Nat) (l : Array Bool) (s : Bool) (f : F) (a : Act) (w : World), stepsOK ops ds steps m l s = true → (s = true → S.S w) → Fits n f a → Agree W f0 f →
      stepsK P ops.toList S steps f k w → wpAnyLast P .any ops Q S.S ds m l a w := by
  have hdst : ∀ {i : Nat} {o : Oper}, ops[i]? = some o → ∀ d, o.dst = some d → d ∈ W := fun {i o} ho d e => hD d (List.mem_filterMap.2 ⟨o, by
    rw [← Array.getElem?_toList] at ho
    exact List.mem_of_getElem? ho, e⟩)
  have hone : ∀ {i m : Nat} {o : Oper} {r : Steps} {l : Array Bool} {s : Bool} {f : F} {a : Act} {w : World}, ops[i]? = some o → s = true → (s = true → S.S w) → Fits n f a → Agree W f0 f → stepsOK ops ds r m (l.setIfInBounds i true) s = true →
      stepK P S ops.toList f o (fun v w' => S.S w' ∧ stepsK P ops.toList S r (f.put o.dst v) k w') w →
      (∀ (l : Array Bool) (s : Bool) (f : F) (a : Act) (w : World), stepsOK ops ds r m l s = true → (s = true → S.S w) → Fits n f a → Agree W f0 f → stepsK P ops.toList S r f k w → wpAnyLast P .any ops Q S.S ds m l a w) →
      wpOp P ops Q i (fun a' w' => (i ∉ ds → S.S w → S.S w') ∧ wpAnyLast P .any ops Q S.S ds m (l.setIfInBounds i true) a' w') a w := by
    intro i m o r l s f a w ho hs1 hs hf ha hok h ih
    unfold wpOp
    simp only [ho]
    have go : ∀ v w', S.S w' → stepsK P ops.toList S r (f.put o.dst v) k w' → wpAnyLast P .any ops Q S.S ds m (l.setIfInBounds i true) (a.put o.dst v) w' :=
      fun v w' h2 h3 => ih _ s _ _ _ hok (fun _ => h2) (hf.put _ (fun d e => hW d (hdst ho d e)) v) (ha.put _ (hdst ho) v) h3
    rcases stepK_cases hf h with ⟨hw, h'⟩ | ⟨hw, h'⟩
    · rw [if_pos hw]
      exact .inl (opK_wp (fun _ => hs hs1) hf.ev h' fun v w' hk => ⟨fun _ _ => hk.1, go v w' hk.1 hk.2⟩)
    · rw [if_neg (by simp [hw])]
      exact ⟨fun _ _ => h'.1, go undef w h'.1 h'.2⟩
  intro steps
  induction steps with
  | nil =>
    intro m l s f a w hok _ hf ha h
    simp only [stepsOK, Bool.and_eq_true, beq_iff_eq] at hok
    obtain ⟨rfl, hok⟩ := hok
    exact ⟨hok, hQ f a w hf ha h⟩
  | fork i x j y ihx ihy =>
    intro m l s f a w hok hs hf ha h
    cases m with
    | zero => simp [stepsOK] at hok
    | succ m =>
    simp only [stepsOK, Bool.and_eq_true] at hok
    obtain ⟨⟨⟨⟨⟨h0, h1⟩, h2⟩, h3⟩, h4⟩, h5⟩ := hok
    have h3' : Region.ready .any ops l = [i, j] := by simpa using h3
    unfold stepsK at h
    split at h
    · rename_i o u ho hu
      rw [Array.getElem?_toList] at ho hu
      refine wpAnyLast_all h3' (by simp) fun e he => ?_
      have : e = i ∨ e = j := by simpa using he
      rcases this with rfl | rfl
      · exact hone ho h0 hs hf ha h4 h.1 fun l s f a w => ihx m l s f a w
      · exact hone hu h0 hs hf ha h5 h.2 fun l s f a w => ihy m l s f a w
    · exact h.elim
  | fork3 i x j y t z ihx ihy ihz =>
    intro m l s f a w hok hs hf ha h
    cases m with
    | zero => simp [stepsOK] at hok
    | succ m =>
    simp only [stepsOK, Bool.and_eq_true] at hok
    obtain ⟨⟨⟨⟨⟨⟨⟨h0, h1⟩, h2⟩, h2'⟩, h3⟩, h4⟩, h5⟩, h6⟩ := hok
    have h3' : Region.ready .any ops l = [i, j, t] := by simpa using h3
    unfold stepsK at h
    split at h
    · rename_i o u v ho hu hv
      rw [Array.getElem?_toList] at ho hu hv
      refine wpAnyLast_all h3' (by simp) fun e he => ?_
      have : e = i ∨ e = j ∨ e = t := by simpa using he
      rcases this with rfl | rfl | rfl
      · exact hone ho h0 hs hf ha h4 h.1 fun l s f a w => ihx m l s f a w
      · exact hone hu h0 hs hf ha h5 h.2.1 fun l s f a w => ihy m l s f a w
      · exact hone hv h0 hs hf ha h6 h.2.2 fun l s f a w => ihz m l s f a w
    · exact h.elim
  | step i kd r ih =>
    intro m l s f a w hok hs hf ha h
    cases m with
    | zero => simp [stepsOK] at hok
    | succ m =>
    unfold stepsK at h
    split at h
    · exact h.elim
    · rename_i o ho
      rw [Array.getElem?_toList] at ho
      have hod : ∀ d, o.dst = some d → d ∈ W := hdst ho
      have hq : quietAt ops i = true → quietOp o.op = true := fun h => by simpa [quietAt, ho] using h
      have go : ∀ v w' s', stepsOK ops ds r m (l.setIfInBounds i true) s' = true → (s' = true → S.S w') → stepsK P ops.toList S r (f.put o.dst v) k w' → wpAnyLast P .any ops Q S.S ds m (l.setIfInBounds i true) (a.put o.dst v) w' :=
        fun v w' s' h1 h2 h3 => ih _ _ s' _ _ _ h1 h2 (hf.put _ (fun d e => hW d (hod d e)) v) (ha.put _ hod v) h3
      cases kd with
      | any =>
        simp only [stepsOK, Bool.and_eq_true] at hok
        obtain ⟨⟨h1, h2⟩, h3⟩ := hok
        simp only at h
        have hy : ∃ v, Yields P ops o v a ∧ stepsK P ops.toList S r (f.put o.dst v) k w := by
          rcases stepK_cases hf h with ⟨hw, h'⟩ | ⟨hw, h'⟩
          · obtain ⟨v, hv, hk⟩ := opK_yields (hq h1) h'
            exact ⟨v, .inl ⟨hw, fun w' => by rw [hf.ev]; exact hv w' trivial⟩, hk⟩
          · exact ⟨undef, .inr ⟨hw, rfl⟩, h'⟩
        obtain ⟨v, hy, hk⟩ := hy
        exact pure_ _ ho rfl h2 (fun c a w hq => absurd hq (hP c _ w)) hy rfl (go v w s h3 hs hk)
      | held =>
        simp only [stepsOK, Bool.and_eq_true] at hok
        obtain ⟨⟨⟨h0, h1⟩, h2⟩, h3⟩ := hok
        simp only at h
        have hy : ∃ v, YieldsIf P ops S.S o v a ∧ stepsK P ops.toList S r (f.put o.dst v) k w := by
          rcases stepK_cases hf h with ⟨hw, h'⟩ | ⟨hw, h'⟩
          · obtain ⟨v, hv, hk⟩ := opK_yields (hq h1) h'
            exact ⟨v, .inl ⟨hw, fun w' hw' => by rw [hf.ev]; exact hv w' hw'⟩, hk⟩
          · exact ⟨undef, .inr ⟨hw, rfl⟩, h'⟩
        obtain ⟨v, hy, hk⟩ := hy
        exact take_ _ ho rfl h2 (fun c a w hq => absurd hq (hP c _ w)) hy (hs h0) rfl (go v w s h3 hs hk)
      | one =>
        simp only [stepsOK, Bool.and_eq_true] at hok
        obtain ⟨⟨⟨h0, h1⟩, h2⟩, h3⟩ := hok
        simp only at h
        have h2' : Region.ready .any ops l = [i] := by simpa using h2
        refine wpAnyLast_all h2' (by simp) fun j hj => ?_
        have hji : j = i := by simpa using hj
        subst hji
        unfold wpOp
        simp only [ho]
        rcases stepK_cases hf h with ⟨hw, h'⟩ | ⟨hw, h'⟩
        · rw [if_pos hw]
          exact .inl (opK_wp (fun _ => hs h0) hf.ev h' fun v w' hk => ⟨fun _ _ => hk.1, go v w' s h3 (fun _ => hk.1) hk.2⟩)
        · rw [if_neg (by simp [hw])]
          exact ⟨fun _ _ => h'.1, go undef w s h3 (fun _ => h'.1) h'.2⟩
      | last =>
        simp only [stepsOK, Bool.and_eq_true] at hok
        obtain ⟨⟨⟨h0, h1⟩, h2⟩, h3⟩ := hok
        simp only at h
        have hnq : quietOp o.op = true → S.S w := fun e => by simp [quietAt, ho, e] at h0
        have h2' : Region.ready .any ops l = [i] := by simpa using h2
        have hid : i ∈ ds := by simpa using h1
        refine wpAnyLast_all h2' (by simp) fun j hj => ?_
        have hji : j = i := by simpa using hj
        subst hji
        unfold wpOp
        simp only [ho]
        rcases stepK_cases hf h with ⟨hw, h'⟩ | ⟨hw, h'⟩
        · rw [if_pos hw]
          refine .inl (opK_wp hnq hf.ev h' fun v w' hk => ⟨fun hn => absurd hid hn, go v w' false h3 (fun h => by cases h) hk⟩)
        · rw [if_neg (by simp [hw])]
          exact ⟨fun hn => absurd hid hn, go undef w false h3 (fun h => by cases h) h'⟩

theorem plan_sound {P : Program} {ops : Array Oper} {n : Nat} {W : List Nat} {k : F → World → Prop} {Q : Exit → Act → World → Prop} {id : Nat} {p : Plan} {f : F} {a : Act} {w : World} (hm : P.follows .mixedOrders = true)
    (hQ : ∀ f' a w, Fits n f' a → Agree W f f' → k f' w → Q .normal a w) (hP : ∀ c a w, ¬ Q (.panic c) a w) (hW : ∀ d ∈ W, d < n) (hD : ∀ d ∈ dsts ops.toList, d ∈ W)
    (hok : planOK ops p = true) (hf : Fits n f a) (h : drawK P ops.toList p f k w.drew) : (Code.region id ops true).wp P Q a w := by
  unfold planOK at hok
  unfold drawK at h
  cases hg : p.gen <;> rw [hg] at h
  · refine wp_region_last (S := (WS.at w.drew).S) (ds := p.ds) hm ?_
    exact stepsK_sound (S := WS.at w.drew) hQ hP hW hD p.steps _ _ true f a _ hok (fun _ => rfl) hf (Agree.refl _ _) h
  · obtain ⟨S, hS, h⟩ := h
    refine wp_region_last (S := S) (ds := p.ds) hm ?_
    exact stepsK_sound (S := ⟨S, w.drew, hS⟩) hQ hP hW hD p.steps _ _ true f a _ hok (fun _ => hS) hf (Agree.refl _ _) h

def Plans := Nat → Plan

def wpF (P : Program) (pl : Plans) : Code → (Exit → F → World → Prop) → F → World → Prop
  | .skip, Q, f, w => Q .normal f w
  | .region _ ops false, Q, f, w => opsK P ops.toList ops.toList f (fun f w => Q .normal f w) w
  | .region id ops true, Q, f, w => drawK P ops.toList (pl id) f (fun f w => Q .normal f w) w.drew
  | .seq a b, Q, f, w => wpF P pl a (seqQ (wpF P pl b Q) Q) f w
  | .cond c a b, Q, f, w => CondK (f.ev c) (wpF P pl a Q f w) (wpF P pl b Q f w)
  | .block id b, Q, f, w => wpF P pl b (blockQ id Q) f w
  | .loop b, Q, f, w => LoopF (wr b) (wpF P pl b) Q f w
  | .exit id, Q, f, w => Q (.exit id) f w
  | .ret, Q, f, w => Q .ret f w
  | _, _, _, _ => False

def plansOK (pl : Plans) : Code → Bool
  | .region id ops true => planOK ops (pl id)
  | .seq a b => plansOK pl a && plansOK pl b
  | .cond _ a b => plansOK pl a && plansOK pl b
  | .block _ b => plansOK pl b
  | .loop b => plansOK pl b
  | _ => true

/-- What a plain frame calculus says of code, the model's own rules say of it. -/
theorem wpF_sound {P : Program} {pl : Plans} (hm : P.follows .mixedOrders = true) {n : Nat} : ∀ (c : Code), (∀ d ∈ wr c, d < n) → plansOK pl c = true → ∀ (Q : Exit → F → World → Prop), NoPanic Q → ∀ (f : F) (w : World) (a : Act),
    wpF P pl c Q f w → Fits n f a → c.wp P (fun e a' w' => ∃ f', Fits n f' a' ∧ Q e f' w' ∧ Agree (wr c) f f') a w := by
  intro c
  induction c with
  | skip => intro _ _ Q _ f w a h hf; exact wp_skip ⟨f, hf, h, Agree.refl _ _⟩
  | exit id => intro _ _ Q _ f w a h hf; exact wp_exit ⟨f, hf, h, Agree.refl _ _⟩
  | ret => intro _ _ Q _ f w a h hf; exact wp_ret ⟨f, hf, h, Agree.refl _ _⟩
  | region id ops draw =>
    intro hW hok Q hQ f w a h hf
    cases draw with
    | false =>
      refine wp_region ?_
      have := opsK_sound (W := wr (.region id ops false)) (f0 := f) (Q := fun e a' w' => ∃ f', Fits n f' a' ∧ Q e f' w' ∧ Agree (wr (.region id ops false)) f f') (k := fun f w => Q .normal f w)
        (fun f' a w h1 h2 h3 => ⟨f', h1, h3, h2⟩) hW ops.toList [] f a w rfl (fun d hd => hd) hf (Agree.refl _ _) h
      simpa [List.range_eq_range'] using this
    | true =>
      exact plan_sound (W := wr (.region id ops true)) (Q := fun e a' w' => ∃ f', Fits n f' a' ∧ Q e f' w' ∧ Agree (wr (.region id ops true)) f f') hm
        (fun f' a w h1 h2 h3 => ⟨f', h1, h3, h2⟩) (fun c a w ⟨f', _, h, _⟩ => hQ _ _ _ h) hW (fun d hd => hd) hok hf h
  | seq x y ihx ihy =>
    intro hW hok Q hQ f w a h hf
    simp only [plansOK, Bool.and_eq_true] at hok
    have hx := ihx (fun d hd => hW d (List.mem_append_left _ hd)) hok.1 (seqQ (wpF P pl y Q) Q) (fun c f w h => hQ c f w h) f w a h hf
    refine wp_seq (wp_mono hx fun e a' w' ⟨f', hf', hq, hag⟩ => ?_)
    cases e with
    | normal =>
      exact wp_mono (ihy (fun d hd => hW d (List.mem_append_right _ hd)) hok.2 Q hQ f' w' a' hq hf') fun e a'' w'' ⟨f'', h1, h2, h3⟩ =>
        ⟨f'', h1, h2, (hag.sub (fun s hs => List.mem_append_left _ hs)).trans (h3.sub fun s hs => List.mem_append_right _ hs)⟩
    | _ => exact ⟨f', hf', hq, hag.sub fun s hs => List.mem_append_left _ hs⟩
  | cond c x y ihx ihy =>
    intro hW hok Q hQ f w a h hf
    simp only [plansOK, Bool.and_eq_true] at hok
    simp only [wpF, CondK] at h
    split at h
    · rename_i b hb
      have hc : a.eval c = .bool b := by rw [hf.ev]; exact hb
      refine wp_cond hc ?_
      cases b
      · exact wp_mono (ihy (fun d hd => hW d (List.mem_append_right _ hd)) hok.2 Q hQ f w a h hf) fun e a' w' ⟨f', h1, h2, h3⟩ => ⟨f', h1, h2, h3.sub fun s hs => List.mem_append_right _ hs⟩
      · exact wp_mono (ihx (fun d hd => hW d (List.mem_append_left _ hd)) hok.1 Q hQ f w a h hf) fun e a' w' ⟨f', h1, h2, h3⟩ => ⟨f', h1, h2, h3.sub fun s hs => List.mem_append_left _ hs⟩
    · exact h.elim
  | block id b ih =>
    intro hW hok Q hQ f w a h hf
    refine wp_block (wp_mono (ih hW hok (blockQ id Q) (fun c f w h => hQ c f w h) f w a h hf) fun e a' w' ⟨f', h1, h2, h3⟩ => ?_)
    cases e with
    | exit i =>
      show if i = id then _ else _
      simp only [blockQ] at h2
      by_cases hi : i = id
      · subst hi
        rw [if_pos rfl]
        rw [show Nat.beq i i = true from Nat.beq_refl i] at h2
        exact ⟨f', h1, h2, h3⟩
      · rw [if_neg hi]
        have hb : Nat.beq i id = false := by
          cases h' : Nat.beq i id
          · rfl
          · exact absurd (Nat.eq_of_beq_eq_true h') hi
        rw [hb] at h2
        exact ⟨f', h1, h2, h3⟩
    | _ => exact ⟨f', h1, h2, h3⟩
  | loop b ih =>
    intro hW hok Q hQ f w a h hf
    obtain ⟨I, μ, h0, hr⟩ := h
    have hex : ∃ μ' : Act → World → Nat, ∀ f' a' w', Fits n f' a' → μ' a' w' = μ f' w' := ⟨fun a' w' => μ (fun t => a'.tmps.getD t undef) w', fun f' a' w' hf' => by
      have : (fun t => a'.tmps.getD t undef) = f' := funext hf'.eq
      show μ (fun t => a'.tmps.getD t undef) w' = μ f' w'
      rw [this]⟩
    obtain ⟨μ', hμ⟩ := hex
    refine wp_loop (fun a' w' => ∃ f', Fits n f' a' ∧ Agree (wr b) f f' ∧ I f' w') μ' ⟨f, hf, Agree.refl _ _, h0⟩ ?_
    rintro a1 w1 ⟨f1, hf1, hag1, hI1⟩
    refine wp_mono (ih hW hok (seqQ (fun f' w' => I f' w' ∧ μ f' w' < μ f1 w1) Q) (fun c f w h => hQ c f w h) f1 w1 a1 (hr f1 w1 hag1 hI1) hf1) fun e a' w' ⟨f', h1, h2, h3⟩ => ?_
    cases e with
    | normal => exact ⟨⟨f', h1, hag1.trans h3, h2.1⟩, by rw [hμ f' a' w' h1, hμ f1 a1 w1 hf1]; exact h2.2⟩
    | _ => exact ⟨f', h1, h2, hag1.trans h3⟩
  | _ => intro _ _ Q _ f w a h hf; exact h.elim

theorem call_of_wpF {P : Program} {pl : Plans} {g : FuncId} {fn : Func} {c : Code} {args : List Value} {w : World} {k : Value → World → Prop} (hm : P.follows .mixedOrders = true)
    (hg : P.funcs[g]? = some fn) (hb : fn.body = some c) (hn : (fn.name == "runtime.NumGoroutine") = false) (hl : args.length ≤ fn.ntmps) (hw : (wr c).all (fun d => Nat.blt d fn.ntmps) = true) (hp : plansOK pl c = true)
    (h : wpF P pl c (bodyQ P fn.results.toList k) (initF args) w) : CallK P g args k w := by
  refine ⟨⟨fn, hg, by simp [hb], hn⟩, calls_of_wp hg hb ?_⟩
  have hfit : Fits fn.ntmps (initF args) { tmps := args.toArray ++ Array.replicate (fn.ntmps - args.toArray.size) undef, defers := [] } := by
    refine ⟨by simp; omega, rfl, fun t => ?_⟩
    simp only [initF, Array.getD_eq_getD_getElem?, List.getD_eq_getElem?_getD]
    rw [Array.getElem?_append]
    split
    · simp
    · rename_i hlt
      simp only [List.size_toArray] at hlt
      rw [List.getElem?_eq_none (by omega), Array.getElem?_replicate]
      split <;> rfl
  refine wp_mono (wpF_sound hm c (fun d hd => by simpa using List.all_eq_true.1 hw d hd) hp _ (fun _ _ _ h => h) _ w _ h hfit) fun e a' w' ⟨f', h1, h2, _⟩ => ?_
  have key : resK P fn.results.toList f' [] (oneOf k) w' → bodyPost P fn (retK k) .ret a' w' := fun hr => by
    obtain ⟨vs, hv, hk⟩ := resK_run _ _ hr
    refine ⟨h1.defers, if h : vs.length = 1 then vs[0] else .tuple vs.toArray, ?_, ?_⟩
    · unfold results
      rw [Array.mapM_eq_mapM_toList]
      simp only [h1.eq, Sem.run_bind, Sem.run_map]
      erw [hv]
      simp
    · simp only [List.nil_append] at hk
      show k _ w'
      match vs, hk with
      | [], hk => exact hk
      | [v], hk => exact hk
      | _ :: _ :: _, hk => exact hk
  cases e with
  | normal => exact key h2
  | ret => exact key h2
  | _ => exact h2.elim

end Go.Sh.X

/- Cg: bodies of functions as terms of the frame calculus, printed by shgen.py of this repository. -/
set_option linter.unusedVariables false
set_option maxRecDepth 100000
namespace Go.Proofs.Ytegcjkhebecgbaa
open Go Go.Sh

/-! (loop.example/g00758/impl.Grammar).useful -/
def pl183 : X.Plans := fun i => match i with
  | 1 => ⟨true, [], .step 0 .held (.step 2 .held (.fork3 1 (.fork3 3 (.fork 4 (.step 5 .one (.step 6 .one (.step 7 .one (.nil)))) 5 (.step 4 .one (.step 6 .one (.step 7 .one (.nil))))) 4 (.fork 3 (.step 5 .one (.step 6 .one (.step 7 .one (.nil)))) 5 (.step 3 .one (.step 6 .one (.step 7 .one (.nil))))) 5 (.fork 3 (.step 4 .one (.step 6 .one (.step 7 .one (.nil)))) 4 (.step 3 .one (.step 6 .one (.step 7 .one (.nil)))))) 4 (.fork 1 (.fork 3 (.step 5 .one (.step 6 .one (.step 7 .one (.nil)))) 5 (.step 3 .one (.step 6 .one (.step 7 .one (.nil))))) 5 (.step 1 .one (.step 3 .one (.step 6 .one (.step 7 .one (.nil)))))) 5 (.fork 1 (.fork 3 (.step 4 .one (.step 6 .one (.step 7 .one (.nil)))) 4 (.step 3 .one (.step 6 .one (.step 7 .one (.nil))))) 4 (.step 1 .one (.step 3 .one (.step 6 .one (.step 7 .one (.nil))))))))⟩
  | _ => ⟨false, [], .nil⟩
def S183 (v0 : Value) (k : Value → World → Prop) (w : World) : Prop :=
 Do Try.prog (sBox 26 v0) (fun t1 w2 =>
 Do Try.prog (sAlloc 26) (fun t3 w4 =>
 Join (fun K7 =>
 ∃ S5 : World → Prop, ∃ h6 : S5 w4.drew,
 Rd Try.prog ⟨S5, w4.drew, h6⟩ (sLoad 26 t1) fun t10 =>
 Rd Try.prog ⟨S5, w4.drew, h6⟩ (sLoad 26 t1) fun t11 =>
 ((CallK Try.prog 188 [t10] (fun t12 w13 =>
 S5 w13 ∧ ((CallK Try.prog 191 [t11] (fun t14 w15 =>
 S5 w15 ∧ ((Do Try.prog (sAlloc 163) (fun t16 w17 =>
 S5 w17 ∧ Do Try.prog (sAlloc 163) (fun t18 w19 =>
 S5 w19 ∧ Do Try.prog (sStore 163 t16 t12) (fun _ w20 =>
 S5 w20 ∧ Do Try.prog (sStore 163 t18 t14) (fun _ w21 =>
 S5 w21 ∧ K7 (F.upd (F.upd (F.upd (F.upd (F.upd (F.upd (F.upd (F.upd (initF [v0]) 1 t1) 2 t3) 6 t10) 8 t11) 7 t12) 9 t14) 3 t16) 4 t18) w21) w20) w19) w17) w15) ∧
 (Do Try.prog (sAlloc 163) (fun t22 w23 =>
 S5 w23 ∧ Do Try.prog (sAlloc 163) (fun t24 w25 =>
 S5 w25 ∧ Do Try.prog (sStore 163 t24 t12) (fun _ w26 =>
 S5 w26 ∧ Do Try.prog (sStore 163 t22 t14) (fun _ w27 =>
 S5 w27 ∧ K7 (F.upd (F.upd (F.upd (F.upd (F.upd (F.upd (F.upd (F.upd (initF [v0]) 1 t1) 2 t3) 6 t10) 8 t11) 7 t12) 9 t14) 4 t22) 3 t24) w27) w26) w25) w23) w15))) w13) ∧
 (Do Try.prog (sAlloc 163) (fun t28 w29 =>
 S5 w29 ∧ ((CallK Try.prog 191 [t11] (fun t30 w31 =>
 S5 w31 ∧ Do Try.prog (sAlloc 163) (fun t32 w33 =>
 S5 w33 ∧ Do Try.prog (sStore 163 t28 t12) (fun _ w34 =>
 S5 w34 ∧ Do Try.prog (sStore 163 t32 t30) (fun _ w35 =>
 S5 w35 ∧ K7 (F.upd (F.upd (F.upd (F.upd (F.upd (F.upd (F.upd (F.upd (initF [v0]) 1 t1) 2 t3) 6 t10) 8 t11) 7 t12) 3 t28) 9 t30) 4 t32) w35) w34) w33) w31) w29) ∧
 (Do Try.prog (sAlloc 163) (fun t36 w37 =>
 S5 w37 ∧ CallK Try.prog 191 [t11] (fun t38 w39 =>
 S5 w39 ∧ Do Try.prog (sStore 163 t28 t12) (fun _ w40 =>
 S5 w40 ∧ Do Try.prog (sStore 163 t36 t38) (fun _ w41 =>
 S5 w41 ∧ K7 (F.upd (F.upd (F.upd (F.upd (F.upd (F.upd (F.upd (F.upd (initF [v0]) 1 t1) 2 t3) 6 t10) 8 t11) 7 t12) 3 t28) 4 t36) 9 t38) w41) w40) w39) w37) w29))) w13) ∧
 (Do Try.prog (sAlloc 163) (fun t42 w43 =>
 S5 w43 ∧ ((CallK Try.prog 191 [t11] (fun t44 w45 =>
 S5 w45 ∧ Do Try.prog (sAlloc 163) (fun t46 w47 =>
 S5 w47 ∧ Do Try.prog (sStore 163 t46 t12) (fun _ w48 =>
 S5 w48 ∧ Do Try.prog (sStore 163 t42 t44) (fun _ w49 =>
 S5 w49 ∧ K7 (F.upd (F.upd (F.upd (F.upd (F.upd (F.upd (F.upd (F.upd (initF [v0]) 1 t1) 2 t3) 6 t10) 8 t11) 7 t12) 4 t42) 9 t44) 3 t46) w49) w48) w47) w45) w43) ∧
 (Do Try.prog (sAlloc 163) (fun t50 w51 =>
 S5 w51 ∧ CallK Try.prog 191 [t11] (fun t52 w53 =>
 S5 w53 ∧ Do Try.prog (sStore 163 t50 t12) (fun _ w54 =>
 S5 w54 ∧ Do Try.prog (sStore 163 t42 t52) (fun _ w55 =>
 S5 w55 ∧ K7 (F.upd (F.upd (F.upd (F.upd (F.upd (F.upd (F.upd (F.upd (initF [v0]) 1 t1) 2 t3) 6 t10) 8 t11) 7 t12) 4 t42) 3 t50) 9 t52) w55) w54) w53) w51) w43))) w13))) w4.drew) ∧
 (Do Try.prog (sAlloc 163) (fun t56 w57 =>
 S5 w57 ∧ ((CallK Try.prog 188 [t10] (fun t58 w59 =>
 S5 w59 ∧ ((CallK Try.prog 191 [t11] (fun t60 w61 =>
 S5 w61 ∧ Do Try.prog (sAlloc 163) (fun t62 w63 =>
 S5 w63 ∧ Do Try.prog (sStore 163 t56 t58) (fun _ w64 =>
 S5 w64 ∧ Do Try.prog (sStore 163 t62 t60) (fun _ w65 =>
 S5 w65 ∧ K7 (F.upd (F.upd (F.upd (F.upd (F.upd (F.upd (F.upd (F.upd (initF [v0]) 1 t1) 2 t3) 6 t10) 8 t11) 3 t56) 7 t58) 9 t60) 4 t62) w65) w64) w63) w61) w59) ∧
 (Do Try.prog (sAlloc 163) (fun t66 w67 =>
 S5 w67 ∧ CallK Try.prog 191 [t11] (fun t68 w69 =>
 S5 w69 ∧ Do Try.prog (sStore 163 t56 t58) (fun _ w70 =>
 S5 w70 ∧ Do Try.prog (sStore 163 t66 t68) (fun _ w71 =>
 S5 w71 ∧ K7 (F.upd (F.upd (F.upd (F.upd (F.upd (F.upd (F.upd (F.upd (initF [v0]) 1 t1) 2 t3) 6 t10) 8 t11) 3 t56) 7 t58) 4 t66) 9 t68) w71) w70) w69) w67) w59))) w57) ∧
 (Do Try.prog (sAlloc 163) (fun t72 w73 =>
 S5 w73 ∧ CallK Try.prog 188 [t10] (fun t74 w75 =>
 S5 w75 ∧ CallK Try.prog 191 [t11] (fun t76 w77 =>
 S5 w77 ∧ Do Try.prog (sStore 163 t56 t74) (fun _ w78 =>
 S5 w78 ∧ Do Try.prog (sStore 163 t72 t76) (fun _ w79 =>
 S5 w79 ∧ K7 (F.upd (F.upd (F.upd (F.upd (F.upd (F.upd (F.upd (F.upd (initF [v0]) 1 t1) 2 t3) 6 t10) 8 t11) 3 t56) 4 t72) 7 t74) 9 t76) w79) w78) w77) w75) w73) w57))) w4.drew) ∧
 (Do Try.prog (sAlloc 163) (fun t80 w81 =>
 S5 w81 ∧ ((CallK Try.prog 188 [t10] (fun t82 w83 =>
 S5 w83 ∧ ((CallK Try.prog 191 [t11] (fun t84 w85 =>
 S5 w85 ∧ Do Try.prog (sAlloc 163) (fun t86 w87 =>
 S5 w87 ∧ Do Try.prog (sStore 163 t86 t82) (fun _ w88 =>
 S5 w88 ∧ Do Try.prog (sStore 163 t80 t84) (fun _ w89 =>
 S5 w89 ∧ K7 (F.upd (F.upd (F.upd (F.upd (F.upd (F.upd (F.upd (F.upd (initF [v0]) 1 t1) 2 t3) 6 t10) 8 t11) 4 t80) 7 t82) 9 t84) 3 t86) w89) w88) w87) w85) w83) ∧
 (Do Try.prog (sAlloc 163) (fun t90 w91 =>
 S5 w91 ∧ CallK Try.prog 191 [t11] (fun t92 w93 =>
 S5 w93 ∧ Do Try.prog (sStore 163 t90 t82) (fun _ w94 =>
 S5 w94 ∧ Do Try.prog (sStore 163 t80 t92) (fun _ w95 =>
 S5 w95 ∧ K7 (F.upd (F.upd (F.upd (F.upd (F.upd (F.upd (F.upd (F.upd (initF [v0]) 1 t1) 2 t3) 6 t10) 8 t11) 4 t80) 7 t82) 3 t90) 9 t92) w95) w94) w93) w91) w83))) w81) ∧
 (Do Try.prog (sAlloc 163) (fun t96 w97 =>
 S5 w97 ∧ CallK Try.prog 188 [t10] (fun t98 w99 =>
 S5 w99 ∧ CallK Try.prog 191 [t11] (fun t100 w101 =>
 S5 w101 ∧ Do Try.prog (sStore 163 t96 t98) (fun _ w102 =>
 S5 w102 ∧ Do Try.prog (sStore 163 t80 t100) (fun _ w103 =>
 S5 w103 ∧ K7 (F.upd (F.upd (F.upd (F.upd (F.upd (F.upd (F.upd (F.upd (initF [v0]) 1 t1) 2 t3) 6 t10) 8 t11) 4 t80) 3 t96) 7 t98) 9 t100) w103) w102) w101) w99) w97) w81))) w4.drew))) (fun f8 w9 =>
 Rd Try.prog (WS.at w9) (sLoad 26 (f8 1)) fun t104 =>
 CallK Try.prog 234 [t104] (fun t105 w106 =>
 Do Try.prog (sAlloc 26) (fun t107 w108 =>
 Do Try.prog (sStore 26 t107 t105) (fun _ w109 =>
 Rd Try.prog (WS.at w109) (sFieldAddr 26 t107 2) fun t110 =>
 Rd Try.prog (WS.at w109) (sLoad 24 t110) fun t111 =>
 Rd Try.prog (WS.at w109) (sMakeFunc (.func 265) [] [(f8 4), (f8 3)]) fun t112 =>
 CallK Try.prog 264 [t111, t112] (fun t113 w114 =>
 Rd Try.prog (WS.at w114) (sFieldAddr 26 t107 2) fun t115 =>
 Do Try.prog (sStore 24 t115 t113) (fun _ w116 =>
 Rd Try.prog (WS.at w116) (sLoad 26 t107) fun t117 =>
 CallK Try.prog 191 [t117] (fun t118 w119 =>
 Do Try.prog (sStore 163 (f8 4) t118) (fun _ w120 =>
 Rd Try.prog (WS.at w120) (sFieldAddr 26 t107 2) fun t121 =>
 Rd Try.prog (WS.at w120) (sLoad 24 t121) fun t122 =>
 Rd Try.prog (WS.at w120) (sMakeFunc (.func 267) [] [(f8 4)]) fun t123 =>
 CallK Try.prog 264 [t122, t123] (fun t124 w125 =>
 Rd Try.prog (WS.at w125) (sFieldAddr 26 t107 2) fun t126 =>
 Do Try.prog (sStore 24 t126 t124) (fun _ w127 =>
 Rd Try.prog (WS.at w127) (sLoad 26 t107) fun t128 =>
 Do Try.prog (sStore 26 (f8 2) t128) (fun _ w129 =>
 Rd Try.prog (WS.at w129) (sLoadVar 26 (f8 2)) fun t130 => k t130 w129) w127) w125) w120) w119) w116) w114) w109) w108) w106) w9)) w2) w
theorem body183 : Try.f183.body = some (bodyOf Try.f183) := by kernel_rfl
theorem same183 (v0 : Value) (k : Value → World → Prop) (w : World) : X.wpF Try.prog pl183 (bodyOf Try.f183) (bodyQ Try.prog Try.f183.results.toList k) (initF [v0]) w = S183 v0 k w := by kernel_rfl
theorem enter183 {v0 : Value} {k : Value → World → Prop} {w : World} (h : S183 v0 k w) : CallK Try.prog 183 [v0] k w :=
  X.call_of_wpF (pl := pl183) mixed Try.func183 body183 (by kernel_rfl) (of_decide_eq_true (by kernel_rfl)) (by kernel_rfl) (by kernel_rfl) (Eq.mpr (same183 v0 k w) h)

/-! (loop.example/g00758/impl.Grammar).useful$1 -/
def pl265 : Plans := fun _ => ⟨false, [], .nil⟩
def S265 (v0 v1 v2 : Value) (k : Value → World → Prop) (w : World) : Prop :=
 Do Try.prog (sBox 33 v0) (fun t1 w2 =>
 Rd Try.prog (WS.at w2) (sFieldAddr 33 t1 0) fun t3 =>
 Rd Try.prog (WS.at w2) (sLoad 3 t3) fun t4 =>
 Rd Try.prog (WS.at w2) (sIndexAddr 163 v1 t4) fun t5 =>
 Rd Try.prog (WS.at w2) (sLoad 4 t5) fun t6 =>
 Rd Try.prog (WS.at w2) (sUn .not t6) fun t7 =>
 GuardK t7 false (fun k w' => Rd Try.prog (WS.at w2) (sFieldAddr 33 t1 0) fun v => k v w') (fun t8 w9 =>
 GuardK t7 false (fun k w' => Rd Try.prog (WS.at w9) (sLoad 3 t8) fun v => k v w') (fun t10 w11 =>
 GuardK t7 false (fun k w' => Rd Try.prog (WS.at w11) (sIndexAddr 163 v2 t10) fun v => k v w') (fun t12 w13 =>
 GuardK t7 false (fun k w' => Rd Try.prog (WS.at w13) (sLoad 4 t12) fun v => k v w') (fun t14 w15 =>
 GuardK t7 false (fun k w' => Rd Try.prog (WS.at w15) (sUn .not t14) fun v => k v w') (fun t16 w17 =>
 Rd Try.prog (WS.at w17) (sPick t7 (.bool true) t16) fun t18 =>
 GuardK t18 false (fun k w' => Rd Try.prog (WS.at w17) (sFieldAddr 33 t1 1) fun v => k v w') (fun t19 w20 =>
 GuardK t18 false (fun k w' => Rd Try.prog (WS.at w20) (sLoad 27 t19) fun v => k v w') (fun t21 w22 =>
 GuardK t18 false (fun k w' => Rd Try.prog (WS.at w22) (sMakeFunc (.func 266) [] [v2]) fun v => k v w') (fun t23 w24 =>
 GuardK t18 false (fun k w' => CallK Try.prog 250 [t21, t23] k w') (fun t25 w26 =>
 Rd Try.prog (WS.at w26) (sPick t18 (.bool true) t25) fun t27 =>
 k t27 w26) w24) w22) w20) w17) w15) w13) w11) w9) w2) w
theorem body265 : Try.f265.body = some (bodyOf Try.f265) := by kernel_rfl
theorem same265 (v0 v1 v2 : Value) (k : Value → World → Prop) (w : World) : wpF Try.prog pl265 (bodyOf Try.f265) (bodyQ Try.prog Try.f265.results.toList k) (initF [v0, v1, v2]) w = S265 v0 v1 v2 k w := by kernel_rfl
theorem enter265 {v0 v1 v2 : Value} {k : Value → World → Prop} {w : World} (h : S265 v0 v1 v2 k w) : CallK Try.prog 265 [v0, v1, v2] k w :=
  call_of_wpF (pl := pl265) mixed Try.func265 body265 (by kernel_rfl) (of_decide_eq_true (by kernel_rfl)) (by kernel_rfl) (by kernel_rfl) (Eq.mpr (same265 v0 v1 v2 k w) h)

/-! (loop.example/g00758/impl.Grammar).useful$1$1 -/
def pl266 : Plans := fun _ => ⟨false, [], .nil⟩
def S266 (v0 v1 : Value) (k : Value → World → Prop) (w : World) : Prop :=
 Rd Try.prog (WS.at w) (sBin .geq 3 true v0 (.int .i64 0)) fun t1 =>
 GuardK t1 true (fun k w' => k v0 w') (fun t2 w3 =>
 GuardK t1 true (fun k w' => Rd Try.prog (WS.at w3) (sIndexAddr 163 v1 t2) fun v => k v w') (fun t4 w5 =>
 GuardK t1 true (fun k w' => Rd Try.prog (WS.at w5) (sLoad 4 t4) fun v => k v w') (fun t6 w7 =>
 GuardK t1 true (fun k w' => Rd Try.prog (WS.at w7) (sUn .not t6) fun v => k v w') (fun t8 w9 =>
 Rd Try.prog (WS.at w9) (sPick t1 t8 (.bool false)) fun t10 =>
 k t10 w9) w7) w5) w3) w
theorem body266 : Try.f266.body = some (bodyOf Try.f266) := by kernel_rfl
theorem same266 (v0 v1 : Value) (k : Value → World → Prop) (w : World) : wpF Try.prog pl266 (bodyOf Try.f266) (bodyQ Try.prog Try.f266.results.toList k) (initF [v0, v1]) w = S266 v0 v1 k w := by kernel_rfl
theorem enter266 {v0 v1 : Value} {k : Value → World → Prop} {w : World} (h : S266 v0 v1 k w) : CallK Try.prog 266 [v0, v1] k w :=
  call_of_wpF (pl := pl266) mixed Try.func266 body266 (by kernel_rfl) (of_decide_eq_true (by kernel_rfl)) (by kernel_rfl) (by kernel_rfl) (Eq.mpr (same266 v0 v1 k w) h)

/-! (loop.example/g00758/impl.Grammar).useful$2 -/
def pl267 : Plans := fun _ => ⟨false, [], .nil⟩
def S267 (v0 v1 : Value) (k : Value → World → Prop) (w : World) : Prop :=
 Do Try.prog (sBox 33 v0) (fun t1 w2 =>
 Rd Try.prog (WS.at w2) (sFieldAddr 33 t1 0) fun t3 =>
 Rd Try.prog (WS.at w2) (sLoad 3 t3) fun t4 =>
 Rd Try.prog (WS.at w2) (sIndexAddr 163 v1 t4) fun t5 =>
 Rd Try.prog (WS.at w2) (sLoad 4 t5) fun t6 =>
 Rd Try.prog (WS.at w2) (sUn .not t6) fun t7 =>
 k t7 w2) w
theorem body267 : Try.f267.body = some (bodyOf Try.f267) := by kernel_rfl
theorem same267 (v0 v1 : Value) (k : Value → World → Prop) (w : World) : wpF Try.prog pl267 (bodyOf Try.f267) (bodyQ Try.prog Try.f267.results.toList k) (initF [v0, v1]) w = S267 v0 v1 k w := by kernel_rfl
theorem enter267 {v0 v1 : Value} {k : Value → World → Prop} {w : World} (h : S267 v0 v1 k w) : CallK Try.prog 267 [v0, v1] k w :=
  call_of_wpF (pl := pl267) mixed Try.func267 body267 (by kernel_rfl) (of_decide_eq_true (by kernel_rfl)) (by kernel_rfl) (by kernel_rfl) (Eq.mpr (same267 v0 v1 k w) h)

/-! slices.DeleteFunc[[]loop.example/g00758/impl.Rule,loop.example/g00758/impl.Rule] -/
def pl264 : Plans := fun _ => ⟨false, [], .nil⟩
def S264 (v0 v1 : Value) (k : Value → World → Prop) (w : World) : Prop :=
 CallK Try.prog 305 [v0, v1] (fun t1 w2 =>
 Rd Try.prog (WS.at w2) (sBin .eql 3 true t1 (.int .i64 (-1))) fun t3 =>
 CondK t3
  (k v0 w2)
  (Rd Try.prog (WS.at w2) (sBin .add 3 true t1 (.int .i64 1)) fun t4 =>
  LoopF [16, 17, 18, 19, 22, 23, 24, 25, 7, 26, 27, 28, 29, 30, 31, 32, 33, 34, 35, 5, 20, 21, 6] (fun Q5 f6 w7 =>
   Rd Try.prog (WS.at w7) (sBuiltin .len #[24] 3 [false] [(f6 0)]) fun t8 =>
   Rd Try.prog (WS.at w7) (sBin .lss 3 false (f6 6) t8) fun t9 =>
   CondK t9
    (Join (fun K10 =>
    Rd Try.prog (WS.at w7) (sIndexAddr 24 (f6 0) (f6 6)) fun t13 =>
    Rd Try.prog (WS.at w7) (sLoad 33 t13) fun t14 =>
    Do Try.prog (sAlloc 33) (fun t15 w16 =>
    Do Try.prog (sStore 33 t15 t14) (fun _ w17 =>
    Rd Try.prog (WS.at w17) (sLoad 33 t15) fun t18 =>
    Do Try.prog (sCallV (f6 1) [t18] 4) (fun t19 w20 =>
    Rd Try.prog (WS.at w20) (sUn .not t19) fun t21 =>
    CondK t21
     (Rd Try.prog (WS.at w20) (sLoad 33 t15) fun t22 =>
     Rd Try.prog (WS.at w20) (sIndexAddr 24 (f6 0) (f6 5)) fun t23 =>
     Do Try.prog (sStore 33 t23 t22) (fun _ w24 =>
     Rd Try.prog (WS.at w24) (sBin .add 3 true (f6 5) (.int .i64 1)) fun t25 =>
     K10 (F.upd (F.upd (F.upd (F.upd (F.upd (F.upd (F.upd (F.upd (F.upd (F.upd (F.upd (F.upd (F.upd (F.upd (F.upd (F.upd (F.upd (F.upd (F.upd (F.upd f6 16 (f6 6)) 17 (f6 0)) 18 t8) 19 t9) 22 (f6 0)) 23 (f6 6)) 24 t13) 25 t14) 7 t15) 26 (f6 1)) 27 t18) 28 t19) 29 t21) 30 (f6 0)) 31 (f6 5)) 32 t22) 33 t23) 34 (f6 5)) 35 t25) 5 t25) w24) w20)
     (K10 (F.upd (F.upd (F.upd (F.upd (F.upd (F.upd (F.upd (F.upd (F.upd (F.upd (F.upd (F.upd (F.upd f6 16 (f6 6)) 17 (f6 0)) 18 t8) 19 t9) 22 (f6 0)) 23 (f6 6)) 24 t13) 25 t14) 7 t15) 26 (f6 1)) 27 t18) 28 t19) 29 t21) w20)) w17) w16) w7) (fun f11 w12 =>
    Rd Try.prog (WS.at w12) (sBin .add 3 true (f11 6) (.int .i64 1)) fun t26 =>
    Q5 .normal (F.upd (F.upd (F.upd f11 20 (f11 6)) 21 t26) 6 t26) w12))
    (Q5 (.exit 0) (F.upd (F.upd (F.upd (F.upd f6 16 (f6 6)) 17 (f6 0)) 18 t8) 19 t9) w7))
   (blockQ 0 (seqQ (fun f27 w28 =>
  Rd Try.prog (WS.at w28) (sSlice 24 (f27 0) (some (f27 5)) none none) fun t29 =>
  Do Try.prog (sBuiltin .clear #[24] 0 [false] [t29]) (fun _ w30 =>
  Rd Try.prog (WS.at w30) (sSlice 24 (f27 0) none (some (f27 5)) none) fun t31 =>
  k t31 w30) w28) (bodyQ Try.prog [.tmp 4] k)))
   (F.upd (F.upd (F.upd (F.upd (F.upd (F.upd (F.upd (F.upd (F.upd (F.upd (initF [v0, v1]) 4 (.slice none 0 0)) 8 v0) 9 v1) 10 t1) 5 t1) 11 t1) 12 t3) 14 t1) 15 t4) 6 t4) w2)) w
theorem body264 : Try.f264.body = some (bodyOf Try.f264) := by kernel_rfl
theorem same264 (v0 v1 : Value) (k : Value → World → Prop) (w : World) : wpF Try.prog pl264 (bodyOf Try.f264) (bodyQ Try.prog Try.f264.results.toList k) (initF [v0, v1]) w = S264 v0 v1 k w := by kernel_rfl
theorem enter264 {v0 v1 : Value} {k : Value → World → Prop} {w : World} (h : S264 v0 v1 k w) : CallK Try.prog 264 [v0, v1] k w :=
  call_of_wpF (pl := pl264) mixed Try.func264 body264 (by kernel_rfl) (of_decide_eq_true (by kernel_rfl)) (by kernel_rfl) (by kernel_rfl) (Eq.mpr (same264 v0 v1 k w) h)

/-! loop.example/g00758/impl.UsefulOf -/
/-! loop.example/g00758/impl.IsUseful -/
end Go.Proofs.Ytegcjkhebecgbaa

/- Contract: slices.DeleteFunc at rules. -/
set_option linter.unusedVariables false
set_option linter.unusedSimpArgs false
set_option maxRecDepth 100000
namespace Go.Sh
open Go
theorem filter_all_rul {p : RuleL → Bool} {rs : List RuleL} {m : Nat} (h : ∀ j, j < m → p (rul rs j) = true) (hm : m ≤ rs.length) : (rs.take m).filter p = rs.take m := by
  rw [List.filter_eq_self]
  intro r hr
  obtain ⟨j, hj, rfl⟩ := List.getElem_of_mem hr
  rw [List.length_take] at hj
  have := h j (by omega)
  rw [rul_eq (by omega)] at this
  rwa [List.getElem_take]
theorem rul_drop {rs qs : List RuleL} {j : Nat} (h : rs.drop j = qs.drop j) : rul rs j = rul qs j := by
  have := congrArg (fun l : List RuleL => l[0]?) h
  simp only [List.getElem?_drop, Nat.add_zero] at this
  unfold rul
  rw [List.getD_eq_getElem?_getD, List.getD_eq_getElem?_getD, this]
end Go.Sh
namespace Go.Proofs.Ytegcjkhebecgbaa
open Go Go.Sh Go.RowKit
section
variable {w0 w : World} {k : Value → World → Prop}
/-- A function value that tells of each of some rules. -/
def Telling (fv : Value) (p : RuleL → Bool) (rs : List RuleL) (Q : World → Prop) : Prop := ∀ w1, Q w1 → ∀ r, r ∈ rs → ∀ (Z : Option Addr) (d : Nat) (k : Value → World → Prop), kI Z r.2 d w1 → (∀ w2, Gr w1 w2 → k (.bool (p r)) w2) →
  Do Try.prog (sCallV fv [.agg #[.int .i64 r.1, .slice Z r.2.length d]] 4) k w1
theorem indexFuncRD_c {F : Nat → Prop} {X : Option Addr} {c : Nat} {rs : List RuleL} {fv : Value} {p : RuleL → Bool} {Q : World → Prop} (hx : RulesF F w X rs) (hq : ∀ w', Gr w w' → Q w') (hp : Telling fv p rs Q)
    (hk : ∀ (r : Int) w', Gr w w' → ((r = -1 ∧ ∀ j, j < rs.length → p (rul rs j) = false) ∨ ∃ i : Nat, i < rs.length ∧ r = i ∧ p (rul rs i) = true ∧ ∀ j, j < i → p (rul rs j) = false) → k (.int .i64 r) w') :
    CallK Try.prog 305 [.slice X rs.length c, fv] k w := by
  refine enter305 ?_
  unfold S305
  simp only [zq18, zq19, zq20, zq21, zq22, zq23, zq24, zq25, zq26, zq27, zq28, zq4, zq3, zq1, zq2, zq0, zq29, zq30, zq14, zq15, zq16, zq17, zq13, zq10, zq12, zq11, zq7, zq5, zq6, zq9, zq8, zq31, zq32, ite_T, ite_F, zq33, zq34, zq35, Nat.reduceEqDiff, len22, len24, fa26_0, fa26_1, fa26_2, len27, fa33_0, fa33_1, len35, fa114_0, fa114_1, fa114_2, fa124_0, fa124_1, len134]
  refine loop_to rs.length 0 (fun i f w' => i ≤ rs.length ∧ f 8 = .int .i64 (i : Int) ∧ Gr w w' ∧ ∀ j, j < i → p (rul rs j) = false) ⟨Nat.zero_le _, rfl, Gr.refl w, fun j hj => absurd hj (Nat.not_lt_zero j)⟩ ?_
  rintro i f w1 N hag ⟨hi, h8, hg, hpre⟩ hN
  have f0 : f 0 = .slice X rs.length c := hag 0 (by decide)
  have f1 : f 1 = fv := hag 1 (by decide)
  have f7 : f 7 = .int .i64 rs.length := hag 7 (by decide)
  simp only [f0, f1, f7, h8, zq18, zq19, zq20, zq21, zq22, zq23, zq24, zq25, zq26, zq27, zq28, zq4, zq3, zq1, zq2, zq0, zq29, zq30, zq14, zq15, zq16, zq17, zq13, zq10, zq12, zq11, zq7, zq5, zq6, zq9, zq8, zq31, zq32, ite_T, ite_F, zq33, zq34, zq35, Nat.reduceEqDiff, len22, len24, fa26_0, fa26_1, fa26_2, len27, fa33_0, fa33_1, len35, fa114_0, fa114_1, fa114_2, fa124_0, fa124_1, len134]
  by_cases hlt : i < rs.length
  · have hlt' : (i : Int) < rs.length := by omega
    have := hx.le
    simp only [hlt', decide_true, zq18, zq19, zq20, zq21, zq22, zq23, zq24, zq25, zq26, zq27, zq28, zq4, zq3, zq1, zq2, zq0, zq29, zq30, zq14, zq15, zq16, zq17, zq13, zq10, zq12, zq11, zq7, zq5, zq6, zq9, zq8, zq31, zq32, ite_T, ite_F, zq33, zq34, zq35, Nat.reduceEqDiff, len22, len24, fa26_0, fa26_1, fa26_2, len27, fa33_0, fa33_1, len35, fa114_0, fa114_1, fa114_2, fa124_0, fa124_1, len134]
    rw [ixn24 hx.ptr hlt]
    refine ld_rule0 agg33 sz33 hx hg hlt fun Z cz hcz hZ => ?_
    refine hp w1 (hq w1 hg) _ (by rw [rul_eq hlt]; exact List.getElem_mem hlt) Z cz _ ⟨hZ.gr hg, hcz⟩ fun w2 g2 => ?_
    have g2' := gr_trans hg g2
    cases hb : p (rul rs i)
    · simp only [zq18, zq19, zq20, zq21, zq22, zq23, zq24, zq25, zq26, zq27, zq28, zq4, zq3, zq1, zq2, zq0, zq29, zq30, zq14, zq15, zq16, zq17, zq13, zq10, zq12, zq11, zq7, zq5, zq6, zq9, zq8, zq31, zq32, ite_T, ite_F, zq33, zq34, zq35, Nat.reduceEqDiff, len22, len24, fa26_0, fa26_1, fa26_2, len27, fa33_0, fa33_1, len35, fa114_0, fa114_1, fa114_2, fa124_0, fa124_1, len134]
      rw [i64_of (by omega) (by omega)]
      refine hN _ _ hlt ⟨hlt, rfl, g2', fun j hj => ?_⟩
      rcases Nat.lt_succ_iff_lt_or_eq.1 hj with h | rfl
      · exact hpre j h
      · exact hb
    · simp only [zq18, zq19, zq20, zq21, zq22, zq23, zq24, zq25, zq26, zq27, zq28, zq4, zq3, zq1, zq2, zq0, zq29, zq30, zq14, zq15, zq16, zq17, zq13, zq10, zq12, zq11, zq7, zq5, zq6, zq9, zq8, zq31, zq32, ite_T, ite_F, zq33, zq34, zq35, Nat.reduceEqDiff, len22, len24, fa26_0, fa26_1, fa26_2, len27, fa33_0, fa33_1, len35, fa114_0, fa114_1, fa114_2, fa124_0, fa124_1, len134]
      exact hk i w2 g2' (.inr ⟨i, hlt, rfl, hb, hpre⟩)
  · simp only [show ¬ (i : Int) < rs.length from by omega, decide_false, zq18, zq19, zq20, zq21, zq22, zq23, zq24, zq25, zq26, zq27, zq28, zq4, zq3, zq1, zq2, zq0, zq29, zq30, zq14, zq15, zq16, zq17, zq13, zq10, zq12, zq11, zq7, zq5, zq6, zq9, zq8, zq31, zq32, ite_T, ite_F, zq33, zq34, zq35, Nat.reduceEqDiff, len22, len24, fa26_0, fa26_1, fa26_2, len27, fa33_0, fa33_1, len35, fa114_0, fa114_1, fa114_2, fa124_0, fa124_1, len134]
    exact hk (-1) w1 hg (.inl ⟨rfl, fun j hj => hpre j (by omega)⟩)
/-- A rule of the call's own is read. -/
theorem ld_gow {L : List Thing} (H : Apt w0 w L) (i : Nat) {X : Option Addr} {c j : Nat} {rs : List RuleL} {ft : Nat → Prop} (hi : L[i]? = some (gth ft X c rs)) (hj : j < rs.length) {k : Value → Prop}
    (hk : ∀ Z d, (rul rs j).2.length ≤ d → IntsF (fun q => ft q ∧ blk X ≠ some q) w Z (rul rs j).2 → k (.agg #[.int .i64 (rul rs j).1, .slice Z (rul rs j).2.length d])) : Rd Try.prog (WS.at w) (sLoad 33 (.pointer (some ((ad X).add (j * 2))))) k := by
  obtain ⟨cells, hrow, hrc⟩ := H.gow i hi
  obtain ⟨Z, d, a1, a2, a3, a4⟩ := hrc.cell j hj
  have h1 := hrow.src.cell _ _ a1
  have h2 := hrow.src.cell _ _ a2
  rw [ld_agg agg33 sz33 (cs := [.int .i64 (rul rs j).1, .slice Z (rul rs j).2.length d]) rfl]
  · exact hk _ _ a3 a4
  · intro i hi
    match i, hi with
    | 0, _ => rw [add_add, Nat.add_zero]; exact h1
    | 1, _ => rw [add_add]; exact h2
set_option maxHeartbeats 6400000 in
theorem deleteFunc_c {E : List Thing} {X : Option Addr} {c : Nat} {rs : List RuleL} {ft : Nat → Prop} {fv : Value} {p : RuleL → Bool} {Q : World → Prop} (H : Apt w0 w (gth ft X c rs :: E)) (hq : ∀ w' cur, Apt w0 w' (gth ft X c cur :: E) → Q w') (hp : Telling fv p rs Q)
    (hk : ∀ w', Apt w0 w' (gth ft X c (rs.filter fun r => !p r) :: E) → k (.slice X (rs.filter fun r => !p r).length c) w') :
    CallK Try.prog 264 [.slice X rs.length c, fv] k w := by
  refine enter264 ?_
  unfold S264
  have hR := (gowK (H.gow 0 rfl)).2
  have hc := (gowK (H.gow 0 rfl)).1
  have hle := hR.le
  refine indexFuncRD_c hR (fun w' g => hq w' rs (H.step g)) hp fun r w1 g hr => ?_
  have H := H.step g
  rcases hr with ⟨rfl, hno⟩ | ⟨i0, hi0, rfl, hyes, hpre⟩
  · simp only [decide_true, zq18, zq19, zq20, zq21, zq22, zq23, zq24, zq25, zq26, zq27, zq28, zq4, zq3, zq1, zq2, zq0, zq29, zq30, zq14, zq15, zq16, zq17, zq13, zq10, zq12, zq11, zq7, zq5, zq6, zq9, zq8, zq31, zq32, ite_T, ite_F, zq33, zq34, zq35, Nat.reduceEqDiff, len22, len24, fa26_0, fa26_1, fa26_2, len27, fa33_0, fa33_1, len35, fa114_0, fa114_1, fa114_2, fa124_0, fa124_1, len134]
    have e : (rs.filter fun r => !p r) = rs := by
      have := filter_all_rul (p := fun r => !p r) (rs := rs) (m := rs.length) (fun j hj => by rw [hno j hj]; rfl) (Nat.le_refl _)
      rwa [List.take_length] at this
    rw [e] at hk
    exact hk w1 H
  simp only [show ¬ ((i0 : Int) = -1) from by omega, decide_false, zq18, zq19, zq20, zq21, zq22, zq23, zq24, zq25, zq26, zq27, zq28, zq4, zq3, zq1, zq2, zq0, zq29, zq30, zq14, zq15, zq16, zq17, zq13, zq10, zq12, zq11, zq7, zq5, zq6, zq9, zq8, zq31, zq32, ite_T, ite_F, zq33, zq34, zq35, Nat.reduceEqDiff, len22, len24, fa26_0, fa26_1, fa26_2, len27, fa33_0, fa33_1, len35, fa114_0, fa114_1, fa114_2, fa124_0, fa124_1, len134]
  rw [i64_of (by omega) (by omega)]
  refine loop_to rs.length (i0 + 1) (fun j f w' => j ≤ rs.length ∧ f 6 = .int .i64 (j : Int) ∧ ∃ (i : Nat) (cur : List RuleL), f 5 = .int .i64 (i : Int) ∧ i ≤ j ∧ cur.length = rs.length ∧ cur.take i = (rs.take j).filter (fun r => !p r) ∧ cur.drop j = rs.drop j ∧ Apt w0 w' (gth ft X c cur :: E))
    ⟨by omega, rfl, i0, rs, rfl, by omega, rfl, ?_, rfl, H⟩ ?_
  · rw [filter_take_succ hi0, hyes, filter_all_rul (fun j hj => by rw [hpre j hj]; rfl) (by omega)]
    simp
  clear H
  rintro j f w2 N hag ⟨hj, f6, i, cur, f5, hij, hcl, htk, hdr, H⟩ hN
  have f0 : f 0 = .slice X rs.length c := hag 0 (by decide)
  have f1 : f 1 = fv := hag 1 (by decide)
  simp only [f0, f1, f5, f6, zq18, zq19, zq20, zq21, zq22, zq23, zq24, zq25, zq26, zq27, zq28, zq4, zq3, zq1, zq2, zq0, zq29, zq30, zq14, zq15, zq16, zq17, zq13, zq10, zq12, zq11, zq7, zq5, zq6, zq9, zq8, zq31, zq32, ite_T, ite_F, zq33, zq34, zq35, Nat.reduceEqDiff, len22, len24, fa26_0, fa26_1, fa26_2, len27, fa33_0, fa33_1, len35, fa114_0, fa114_1, fa114_2, fa124_0, fa124_1, len134]
  by_cases hlt : j < rs.length
  case neg =>
    simp only [show ¬ ((j : Int) < (rs.length : Int)) from by omega, decide_false, f0, f5, zq18, zq19, zq20, zq21, zq22, zq23, zq24, zq25, zq26, zq27, zq28, zq4, zq3, zq1, zq2, zq0, zq29, zq30, zq14, zq15, zq16, zq17, zq13, zq10, zq12, zq11, zq7, zq5, zq6, zq9, zq8, zq31, zq32, ite_T, ite_F, zq33, zq34, zq35, Nat.reduceEqDiff, len22, len24, fa26_0, fa26_1, fa26_2, len27, fa33_0, fa33_1, len35, fa114_0, fa114_1, fa114_2, fa124_0, fa124_1, len134]
    have ej : j = rs.length := by omega
    subst ej
    rw [List.take_length] at htk
    refine rdi (rd_slice_l u24 sz33 (by omega) (by omega)) ?_
    rw [Int.toNat_natCast, ← hcl]
    refine clearG H 0 rfl (by omega) fun w3 H => ?_
    refine rdi (rd_slice_h u24 sz33 (by omega) (by omega)) ?_
    rw [sub_zero, Int.toNat_natCast]
    simp only [List.set_cons_zero] at H
    rw [htk] at H
    have hi : i = (rs.filter fun r => !p r).length := by rw [← htk, List.length_take]; omega
    rw [hi]
    exact hk w3 H
  simp only [show ((j : Int) < (rs.length : Int)) from by omega, decide_true, zq18, zq19, zq20, zq21, zq22, zq23, zq24, zq25, zq26, zq27, zq28, zq4, zq3, zq1, zq2, zq0, zq29, zq30, zq14, zq15, zq16, zq17, zq13, zq10, zq12, zq11, zq7, zq5, zq6, zq9, zq8, zq31, zq32, ite_T, ite_F, zq33, zq34, zq35, Nat.reduceEqDiff, len22, len24, fa26_0, fa26_1, fa26_2, len27, fa33_0, fa33_1, len35, fa114_0, fa114_1, fa114_2, fa124_0, fa124_1, len134]
  have hrm : rul rs j ∈ rs := by rw [rul_eq hlt]; exact List.getElem_mem hlt
  have er := rul_drop hdr
  have hdr1 : cur.drop (j + 1) = rs.drop (j + 1) := by
    rw [← List.drop_drop, ← List.drop_drop, hdr]
  have hptr := (gowK (H.gow 0 rfl)).2.ptr
  refine join_as (fun f w' => f 6 = .int .i64 (j : Int) ∧ ∃ (i : Nat) (cur : List RuleL), f 5 = .int .i64 (i : Int) ∧ i ≤ j + 1 ∧ cur.length = rs.length ∧ cur.take i = (rs.take (j + 1)).filter (fun r => !p r) ∧ cur.drop (j + 1) = rs.drop (j + 1) ∧ Apt w0 w' (gth ft X c cur :: E)) (fun K hK => ?_) ?_
  · refine rdi (ixn24 (fun h => hptr (by omega)) hlt) ?_
    refine ld_gow H 0 rfl (by omega) fun Z d hd hZ => ?_
    rw [er] at hd hZ ⊢
    have A := Apt.nil w2
    refine allocH A inf33 fun b15 w3 A => ?_
    refine storeH A 0 rfl sz33 rfl rfl rfl fun w4 A => ?_
    have A : Apt w2 w4 [bx b15 [.int .i64 (rul rs j).1, .slice Z (rul rs j).2.length d] 33] := A
    rw [ldB_agg agg33 sz33 rfl (A.box 0 rfl)]
    refine hp w4 (hq w4 cur (H.step A.gr)) _ hrm Z d _ ⟨hZ.is.gr A.gr, hd⟩ fun w5 g5 => ?_
    have A := A.step g5
    have H := H.step A.gr
    cases hpr : p (rul rs j)
    case true =>
      simp only [Bool.not_true, zq18, zq19, zq20, zq21, zq22, zq23, zq24, zq25, zq26, zq27, zq28, zq4, zq3, zq1, zq2, zq0, zq29, zq30, zq14, zq15, zq16, zq17, zq13, zq10, zq12, zq11, zq7, zq5, zq6, zq9, zq8, zq31, zq32, ite_T, ite_F, zq33, zq34, zq35, Nat.reduceEqDiff, len22, len24, fa26_0, fa26_1, fa26_2, len27, fa33_0, fa33_1, len35, fa114_0, fa114_1, fa114_2, fa124_0, fa124_1, len134]
      exact hK _ _ ⟨f6, i, cur, f5, by omega, hcl, by rw [filter_take_succ hlt, hpr, htk]; simp, hdr1, H⟩
    simp only [Bool.not_false, zq18, zq19, zq20, zq21, zq22, zq23, zq24, zq25, zq26, zq27, zq28, zq4, zq3, zq1, zq2, zq0, zq29, zq30, zq14, zq15, zq16, zq17, zq13, zq10, zq12, zq11, zq7, zq5, zq6, zq9, zq8, zq31, zq32, ite_T, ite_F, zq33, zq34, zq35, Nat.reduceEqDiff, len22, len24, fa26_0, fa26_1, fa26_2, len27, fa33_0, fa33_1, len35, fa114_0, fa114_1, fa114_2, fa124_0, fa124_1, len134]
    rw [ldB_agg agg33 sz33 rfl (A.box 0 rfl)]
    refine rdi (ixn24 (fun h => hptr (by omega)) (show i < rs.length by omega)) ?_
    refine moveG H 0 rfl (by omega) hd (hZ.gr A.gr) fun w6 H => ?_
    simp only [List.set_cons_zero] at H
    rw [i64_of (by omega) (by omega)]
    refine hK _ _ ⟨f6, i + 1, _, rfl, by omega, by rw [List.length_set]; exact hcl, ?_, ?_, H⟩
    · rw [filter_take_succ hlt, hpr, ← htk, List.take_succ_eq_append_getElem (by rw [List.length_set]; omega), List.getElem_set_self, List.take_set, List.set_eq_of_length_le (by rw [List.length_take]; omega)]
      simp
    · rw [List.drop_set_of_lt (by omega)]
      exact hdr1
  clear H
  rintro f7 w3 ⟨e6, h⟩
  simp only [e6, zq18, zq19, zq20, zq21, zq22, zq23, zq24, zq25, zq26, zq27, zq28, zq4, zq3, zq1, zq2, zq0, zq29, zq30, zq14, zq15, zq16, zq17, zq13, zq10, zq12, zq11, zq7, zq5, zq6, zq9, zq8, zq31, zq32, ite_T, ite_F, zq33, zq34, zq35, Nat.reduceEqDiff, len22, len24, fa26_0, fa26_1, fa26_2, len27, fa33_0, fa33_1, len35, fa114_0, fa114_1, fa114_2, fa124_0, fa124_1, len134]
  rw [i64_of (by omega) (by omega)]
  exact hN _ _ hlt ⟨by omega, rfl, h⟩
end
end Go.Proofs.Ytegcjkhebecgbaa

/- What the program's useful deletes; rules of the call's own as one thing. -/
set_option linter.unusedVariables false
set_option linter.unusedSimpArgs false
set_option maxRecDepth 100000
namespace Go.Sh
open Go
def dropA (C A : List Bool) (r : RuleL) : Bool := (!atB C r.1.toNat || !atB A r.1.toNat) || r.2.any (barP A)
def dropB (C : List Bool) (r : RuleL) : Bool := !atB C r.1.toNat
theorem dropA_iff {rs : List RuleL} {C A : List Bool} (hl : ∀ r ∈ rs, 0 ≤ r.1) (hA : ∀ n, atB A n = true ↔ Clo rs true n) (hC : ∀ n, atB C n = true ↔ Rch rs n) {r : RuleL} (hr : r ∈ rs) : (!dropA C A r) = true ↔ Rch rs r.1.toNat ∧ ∀ x ∈ r.2, ¬ x < 0 → Clo rs true x.toNat := by
  unfold dropA
  rw [Bool.not_or, Bool.and_eq_true, Bool.not_or, Bool.not_not, Bool.not_not, Bool.and_eq_true, hC, hA, any_not]
  constructor
  · rintro ⟨⟨h1, _⟩, h3⟩
    exact ⟨h1, fun x hx hn => (hA _).1 (((bars_p A x).1 (h3 x hx)).2 hn)⟩
  · rintro ⟨h1, h2⟩
    refine ⟨⟨h1, .mk hr (by have := hl r hr; omega) (fun _ _ _ => rfl) h2⟩, fun x hx => (bars_p A x).2 ⟨fun _ => rfl, fun hn => (hA _).2 (h2 x hx hn)⟩⟩
open Classical in
theorem useful_two {rs : List RuleL} {p q : RuleL → Bool} (hp : ∀ r ∈ rs, p r = true ↔ Rch rs r.1.toNat ∧ ∀ x ∈ r.2, ¬ x < 0 → Clo rs true x.toNat) (hl : ∀ r ∈ rs, 0 ≤ r.1) (hq : ∀ n, q n = true ↔ Rch (rs.filter p) n.1.toNat) : (rs.filter p).filter q = usefulR rs := by
  have key : ∀ n, Rch (rs.filter p) n ↔ Rch (madeR rs) n := fun n => by
    constructor
    · refine fun h => rch_mono (fun r hr => ?_) h
      rw [List.mem_filter] at hr
      exact madeR_mem.2 ⟨hr.1, ((hp r hr.1).1 hr.2).2⟩
    · intro h
      induction h with
      | zero => exact .zero
      | @step B r x h1 h2 h3 h4 h5 ih =>
        have hm := madeR_mem.1 h1
        have hr : Rch rs B := rch_mono (fun r hr => (madeR_mem.1 hr).1) h3
        refine .step (List.mem_filter.2 ⟨hm.1, (hp r hm.1).2 ⟨?_, hm.2⟩⟩) h2 ih h4 h5
        rw [h2, Int.toNat_natCast]
        exact hr
  unfold usefulR rchR
  rw [List.filter_filter]
  conv => rhs; arg 2; unfold madeR
  rw [List.filter_filter]
  apply List.filter_congr
  intro r hr
  rw [Bool.eq_iff_iff, Bool.and_eq_true, Bool.and_eq_true, hq, key, decide_eq_true_eq, decide_eq_true_eq, hp r hr]
  constructor
  · rintro ⟨h1, _, h3⟩
    exact ⟨h1, h3⟩
  · rintro ⟨h1, h3⟩
    exact ⟨h1, rch_mono (fun r hr => (madeR_mem.1 hr).1) h1, h3⟩
theorem RuleCells.of_cell {F : Nat → Prop} {w : World} : ∀ {rs : List RuleL} {cells : List Value}, cells.length = rs.length * 2 → (∀ j, j < rs.length → ∃ Y d, cells[j * 2]? = some (.int .i64 (rul rs j).1) ∧ cells[j * 2 + 1]? = some (.slice Y (rul rs j).2.length d) ∧ (rul rs j).2.length ≤ d ∧ IntsF F w Y (rul rs j).2) → RuleCells F w rs cells
  | [], cells, hl, _ => by
    obtain rfl : cells = [] := List.eq_nil_of_length_eq_zero (by simpa using hl)
    exact .nil
  | r :: rs, [], hl, _ => by simp at hl
  | r :: rs, [a], hl, _ => by simp at hl; omega
  | r :: rs, a :: b :: cells, hl, h => by
    obtain ⟨Y, d, h1, h2, h3, h4⟩ := h 0 (by simp)
    obtain rfl := Option.some.inj h1
    obtain rfl := Option.some.inj h2
    refine .cons h3 h4 (RuleCells.of_cell (by simp at hl; omega) fun j hj => ?_)
    obtain ⟨Z, e, a1, a2, a3, a4⟩ := h (j + 1) (by simpa using hj)
    have er : rul (r :: rs) (j + 1) = rul rs j := by simp [rul]
    rw [er] at a1 a2 a3 a4
    refine ⟨Z, e, ?_, ?_, a3, a4⟩
    · rw [show (j + 1) * 2 = j * 2 + 1 + 1 from by omega] at a1
      simpa using a1
    · rw [show (j + 1) * 2 + 1 = j * 2 + 1 + 1 + 1 from by omega] at a2
      simpa using a2
theorem OwnR.cellsG {e1 e2 : Nat} {w : World} {B c : Nat} {X : Option Addr} {rs : List RuleL} {ps : Nat → Option Addr × Nat} (h : OwnR e1 e2 w B X c rs ps) (he : e1 ≠ e2) : ∃ cells, Row w B e1 2 X rs.length c cells ∧ RuleCells (fun q => B ≤ q ∧ blk X ≠ some q) w rs cells := by
  obtain ⟨⟨cells, hr, hc⟩, ho, ht⟩ := h
  refine ⟨cells, hr, RuleCells.of_cell hr.len fun j hj => ?_⟩
  obtain ⟨h1, h2⟩ := hc j hj
  refine ⟨_, _, h1, h2, (Row.cap (ho j hj)).1, ⟨Own.ints (ho j hj), fun hp => ?_⟩⟩
  have hb : blk (ps j).1 = some (ad (ps j).1).block := by
    have hq : (ps j).1 = some (ad (ps j).1) := Row.ptr (ho j hj) hp
    rw [hq]
    rfl
  refine ⟨((ho j hj).ge hb).1, fun e => ?_⟩
  rcases row_ne hr (ho j hj) he with h | h
  · rw [h] at e; cases e
  · exact h (e.trans hb.symm)
end Go.Sh
namespace Go.Proofs.Ytegcjkhebecgbaa
open Go Go.Sh Go.RowKit
section
variable {w : World} {k : Value → World → Prop}
theorem barP3_c {b : Nat} {A : List Bool} {x : Int} (hlen : A.length = 6) (hx : x < 6) (hB : Box w b (A.map Value.bool) 163) (hk : k (.bool (barP A x)) w) :
    CallK Try.prog 266 [.int .i64 x, ptrv b] k w := by
  refine enter266 ?_
  unfold S266
  unfold barP at hk
  simp only [zq18, zq19, zq20, zq21, zq22, zq23, zq24, zq25, zq26, zq27, zq28, zq4, zq3, zq1, zq2, zq0, zq29, zq30, zq14, zq15, zq16, zq17, zq13, zq10, zq12, zq11, zq7, zq5, zq6, zq9, zq8, zq31, zq32, ite_T, ite_F, zq33, zq34, zq35, Nat.reduceEqDiff, len22, len24, fa26_0, fa26_1, fa26_2, len27, fa33_0, fa33_1, len35, fa114_0, fa114_1, fa114_2, fa124_0, fa124_1, len134]
  by_cases h : 0 ≤ x
  · simp only [h, decide_true, zq18, zq19, zq20, zq21, zq22, zq23, zq24, zq25, zq26, zq27, zq28, zq4, zq3, zq1, zq2, zq0, zq29, zq30, zq14, zq15, zq16, zq17, zq13, zq10, zq12, zq11, zq7, zq5, zq6, zq9, zq8, zq31, zq32, ite_T, ite_F, zq33, zq34, zq35, Nat.reduceEqDiff, len22, len24, fa26_0, fa26_1, fa26_2, len27, fa33_0, fa33_1, len35, fa114_0, fa114_1, fa114_2, fa124_0, fa124_1, len134]
    refine rdi (ixa163 h hx) ?_
    rw [zq34, Nat.zero_add, ldB4 hB (atB_get (by omega))]
    simp only [zq18, zq19, zq20, zq21, zq22, zq23, zq24, zq25, zq26, zq27, zq28, zq4, zq3, zq1, zq2, zq0, zq29, zq30, zq14, zq15, zq16, zq17, zq13, zq10, zq12, zq11, zq7, zq5, zq6, zq9, zq8, zq31, zq32, ite_T, ite_F, zq33, zq34, zq35, Nat.reduceEqDiff, len22, len24, fa26_0, fa26_1, fa26_2, len27, fa33_0, fa33_1, len35, fa114_0, fa114_1, fa114_2, fa124_0, fa124_1, len134]
    simpa only [h, decide_true, Bool.true_and] using hk
  · simp only [h, decide_false, zq18, zq19, zq20, zq21, zq22, zq23, zq24, zq25, zq26, zq27, zq28, zq4, zq3, zq1, zq2, zq0, zq29, zq30, zq14, zq15, zq16, zq17, zq13, zq10, zq12, zq11, zq7, zq5, zq6, zq9, zq8, zq31, zq32, ite_T, ite_F, zq33, zq34, zq35, Nat.reduceEqDiff, len22, len24, fa26_0, fa26_1, fa26_2, len27, fa33_0, fa33_1, len35, fa114_0, fa114_1, fa114_2, fa124_0, fa124_1, len134]
    simpa only [h, decide_false, Bool.false_and] using hk
theorem dropB_c {b : Nat} {C : List Bool} {r : RuleL} {Z : Option Addr} {d : Nat} (hC : C.length = 6) (hB : Box w b (C.map Value.bool) 163) (hl : 0 ≤ r.1 ∧ r.1 < 6) (hk : ∀ w', Gr w w' → k (.bool (dropB C r)) w') :
    CallK Try.prog 267 [.agg #[.int .i64 r.1, .slice Z r.2.length d], ptrv b] k w := by
  refine enter267 ?_
  unfold S267
  refine do_box fun b1 w1 g1 hb1 B1 => ?_
  simp only [zq18, zq19, zq20, zq21, zq22, zq23, zq24, zq25, zq26, zq27, zq28, zq4, zq3, zq1, zq2, zq0, zq29, zq30, zq14, zq15, zq16, zq17, zq13, zq10, zq12, zq11, zq7, zq5, zq6, zq9, zq8, zq31, zq32, ite_T, ite_F, zq33, zq34, zq35, Nat.reduceEqDiff, len22, len24, fa26_0, fa26_1, fa26_2, len27, fa33_0, fa33_1, len35, fa114_0, fa114_1, fa114_2, fa124_0, fa124_1, len134]
  rw [ldB3 B1 rfl]
  refine rdi (ixa163 hl.1 hl.2) ?_
  rw [zq34, Nat.zero_add, ldB4 (hB.gr g1) (atB_get (by omega))]
  simp only [zq18, zq19, zq20, zq21, zq22, zq23, zq24, zq25, zq26, zq27, zq28, zq4, zq3, zq1, zq2, zq0, zq29, zq30, zq14, zq15, zq16, zq17, zq13, zq10, zq12, zq11, zq7, zq5, zq6, zq9, zq8, zq31, zq32, ite_T, ite_F, zq33, zq34, zq35, Nat.reduceEqDiff, len22, len24, fa26_0, fa26_1, fa26_2, len27, fa33_0, fa33_1, len35, fa114_0, fa114_1, fa114_2, fa124_0, fa124_1, len134]
  exact hk w1 g1
theorem dropA_c {b e : Nat} {C A : List Bool} {r : RuleL} {Z : Option Addr} {d : Nat} (hC : C.length = 6) (hA : A.length = 6) (hB : Box w b (C.map Value.bool) 163) (hE : Box w e (A.map Value.bool) 163) (hl : 0 ≤ r.1 ∧ r.1 < 6) (hx : ∀ x ∈ r.2, x < 6) (hZ : kI Z r.2 d w) (hk : ∀ w', Gr w w' → k (.bool (dropA C A r)) w') :
    CallK Try.prog 265 [.agg #[.int .i64 r.1, .slice Z r.2.length d], ptrv b, ptrv e] k w := by
  refine enter265 ?_
  unfold S265
  refine do_box fun b1 w1 g1 hb1 B1 => ?_
  unfold dropA at hk
  have hE := hE.gr g1
  simp only [zq18, zq19, zq20, zq21, zq22, zq23, zq24, zq25, zq26, zq27, zq28, zq4, zq3, zq1, zq2, zq0, zq29, zq30, zq14, zq15, zq16, zq17, zq13, zq10, zq12, zq11, zq7, zq5, zq6, zq9, zq8, zq31, zq32, ite_T, ite_F, zq33, zq34, zq35, Nat.reduceEqDiff, len22, len24, fa26_0, fa26_1, fa26_2, len27, fa33_0, fa33_1, len35, fa114_0, fa114_1, fa114_2, fa124_0, fa124_1, len134]
  rw [ldB3 B1 rfl]
  refine rdi (ixa163 hl.1 hl.2) ?_
  rw [zq34, Nat.zero_add, ldB4 (hB.gr g1) (atB_get (by omega))]
  cases h1 : atB C r.1.toNat
  · simp only [Bool.not_false, zq18, zq19, zq20, zq21, zq22, zq23, zq24, zq25, zq26, zq27, zq28, zq4, zq3, zq1, zq2, zq0, zq29, zq30, zq14, zq15, zq16, zq17, zq13, zq10, zq12, zq11, zq7, zq5, zq6, zq9, zq8, zq31, zq32, ite_T, ite_F, zq33, zq34, zq35, Nat.reduceEqDiff, len22, len24, fa26_0, fa26_1, fa26_2, len27, fa33_0, fa33_1, len35, fa114_0, fa114_1, fa114_2, fa124_0, fa124_1, len134]
    have := hk w1 g1
    rwa [h1, Bool.not_false, Bool.true_or, Bool.true_or] at this
  simp only [Bool.not_true, zq18, zq19, zq20, zq21, zq22, zq23, zq24, zq25, zq26, zq27, zq28, zq4, zq3, zq1, zq2, zq0, zq29, zq30, zq14, zq15, zq16, zq17, zq13, zq10, zq12, zq11, zq7, zq5, zq6, zq9, zq8, zq31, zq32, ite_T, ite_F, zq33, zq34, zq35, Nat.reduceEqDiff, len22, len24, fa26_0, fa26_1, fa26_2, len27, fa33_0, fa33_1, len35, fa114_0, fa114_1, fa114_2, fa124_0, fa124_1, len134]
  rw [ldB3 B1 rfl]
  refine rdi (ixa163 hl.1 hl.2) ?_
  rw [zq34, Nat.zero_add, ldB4 hE (atB_get (by omega))]
  cases h2 : atB A r.1.toNat
  · simp only [Bool.not_false, zq18, zq19, zq20, zq21, zq22, zq23, zq24, zq25, zq26, zq27, zq28, zq4, zq3, zq1, zq2, zq0, zq29, zq30, zq14, zq15, zq16, zq17, zq13, zq10, zq12, zq11, zq7, zq5, zq6, zq9, zq8, zq31, zq32, ite_T, ite_F, zq33, zq34, zq35, Nat.reduceEqDiff, len22, len24, fa26_0, fa26_1, fa26_2, len27, fa33_0, fa33_1, len35, fa114_0, fa114_1, fa114_2, fa124_0, fa124_1, len134]
    have := hk w1 g1
    rwa [h1, h2, Bool.not_false, Bool.or_true, Bool.true_or] at this
  simp only [Bool.not_true, zq18, zq19, zq20, zq21, zq22, zq23, zq24, zq25, zq26, zq27, zq28, zq4, zq3, zq1, zq2, zq0, zq29, zq30, zq14, zq15, zq16, zq17, zq13, zq10, zq12, zq11, zq7, zq5, zq6, zq9, zq8, zq31, zq32, ite_T, ite_F, zq33, zq34, zq35, Nat.reduceEqDiff, len22, len24, fa26_0, fa26_1, fa26_2, len27, fa33_0, fa33_1, len35, fa114_0, fa114_1, fa114_2, fa124_0, fa124_1, len134]
  rw [ldB27 B1 rfl]
  rw [makeFunc_]
  refine containsFuncD_c (D := fun x => x < 6) (p := barP A) (hZ.1.gr g1) hx (fun w4 g4 x hx k hk => ?_) fun w3 g3 => ?_
  · refine callVc (caps := [ptrv e]) ?_
    exact barP3_c hA hx (hE.gr g4) (hk w4 (Gr.refl _))
  have := hk w3 (gr_trans g1 g3)
  rwa [h1, h2, Bool.not_true, Bool.or_false, Bool.false_or] at this
end
end Go.Proofs.Ytegcjkhebecgbaa

/- Contract: the program's useful (printed by gen_useful.py). -/
set_option linter.unusedVariables false
set_option linter.unusedSimpArgs false
set_option maxRecDepth 100000
namespace Go.Proofs.Ytegcjkhebecgbaa
open Go Go.Sh Go.RowKit
section
variable {w : World} {k : Value → World → Prop} {Y : Option Addr} {cy : Nat} {gm : Gram}
set_option maxHeartbeats 12800000 in
theorem useful_c (hG : kG Y cy gm.rules w) (hg : goodG gm = true) (hk : ∀ w' X c, Gr w w' → (usefulR gm.rules).length ≤ c → RulesF (fun q => w.heap.size ≤ q ∧ q < w'.heap.size) w' X (usefulR gm.rules) → k (.agg #[.int .i64 gm.nons, .int .i64 gm.toks, .slice X (usefulR gm.rules).length c]) w') :
    CallK Try.prog 183 [grv gm Y cy] k w := by
  have h6 := sixR hg
  have hr4 : ∀ r ∈ gm.rules, r.2.length ≤ 1000 := fun r hr => by have := (goodRules hg r hr).2.1; omega
  refine enter183 ?_
  unfold S183
  have H := Apt.nil w
  refine boxH H fun b1 w1 H => ?_
  refine allocH H inf26 fun b3 w2 H => ?_
  have H : Apt w w2 [bx b1 [.int .i64 gm.nons, .int .i64 gm.toks, .slice Y gm.rules.length cy] 26, bx b3 zg 26] := H
  refine join_as (fun f w' => f 1 = ptrv b1 ∧ f 2 = ptrv b3 ∧ ∃ bp br A C, f 3 = ptrv bp ∧ f 4 = ptrv br ∧ A.length = 6 ∧ (∀ n, atB A n = true ↔ Clo gm.rules true n) ∧ C.length = 6 ∧ (∀ n, atB C n = true ↔ Rch gm.rules n) ∧
      Apt w w' [bx b1 [.int .i64 gm.nons, .int .i64 gm.toks, .slice Y gm.rules.length cy] 26, bx b3 zg 26, bx bp (A.map Value.bool) 163, bx br (C.map Value.bool) 163]) (fun K hK => ?_) ?_
  · have H := H.drew
    refine ⟨fun w' => Box w' b1 [.int .i64 gm.nons, .int .i64 gm.toks, .slice Y gm.rules.length cy] 26, H.box 0 rfl, ?_⟩
    refine rdi (rdS26 rfl fun w' h => h) (rdi (rdS26 rfl fun w' h => h) ?_)
    refine ⟨?_, ?_, ?_⟩
    · refine productive_c (gm := gm) ⟨hG.1, hG.2.gr H.gr⟩ h6 fun w10 A g hA' hA => ?_
      obtain ⟨a0, a1, a2, a3, a4, a5, rfl⟩ := six_of hA'
      have H := H.step g
      refine ⟨H.box 0 rfl, ?_⟩
      refine ⟨?_, ?_, ?_⟩
      · refine reached_c (gm := gm) ⟨hG.1, hG.2.gr H.gr⟩ h6 hr4 fun w11 C g hC' hC => ?_
        obtain ⟨c0, c1, c2, c3, c4, c5, rfl⟩ := six_of hC'
        have H := H.step g
        refine ⟨H.box 0 rfl, ?_⟩
        refine ⟨?_, ?_⟩
        · refine allocH H inf163' fun bp w12 H => ?_
          refine ⟨H.box 0 rfl, ?_⟩
          refine allocH H inf163' fun br w13 H => ?_
          refine ⟨H.box 0 rfl, ?_⟩
          refine storeH H 2 rfl sz163 rfl rfl rfl fun w14 H => ?_
          refine ⟨H.box 0 rfl, ?_⟩
          refine storeH H 3 rfl sz163 rfl rfl rfl fun w15 H => ?_
          refine ⟨H.box 0 rfl, ?_⟩
          have H : Apt w w15 [bx b1 [.int .i64 gm.nons, .int .i64 gm.toks, .slice Y gm.rules.length cy] 26, bx b3 zg 26, bx bp ([a0, a1, a2, a3, a4, a5].map Value.bool) 163, bx br ([c0, c1, c2, c3, c4, c5].map Value.bool) 163] := H
          exact hK _ _ ⟨rfl, rfl, bp, br, _, _, rfl, rfl, rfl, hA, rfl, hC, H⟩
        · refine allocH H inf163' fun br w16 H => ?_
          refine ⟨H.box 0 rfl, ?_⟩
          refine allocH H inf163' fun bp w17 H => ?_
          refine ⟨H.box 0 rfl, ?_⟩
          refine storeH H 3 rfl sz163 rfl rfl rfl fun w18 H => ?_
          refine ⟨H.box 0 rfl, ?_⟩
          refine storeH H 2 rfl sz163 rfl rfl rfl fun w19 H => ?_
          refine ⟨H.box 0 rfl, ?_⟩
          have H : Apt w w19 [bx b1 [.int .i64 gm.nons, .int .i64 gm.toks, .slice Y gm.rules.length cy] 26, bx b3 zg 26, bx br ([c0, c1, c2, c3, c4, c5].map Value.bool) 163, bx bp ([a0, a1, a2, a3, a4, a5].map Value.bool) 163] := H
          have H := H.perm (List.Perm.cons _ (List.Perm.cons _ (List.Perm.swap _ _ _)))
          exact hK _ _ ⟨rfl, rfl, bp, br, _, _, rfl, rfl, rfl, hA, rfl, hC, H⟩
      · refine allocH H inf163' fun bp w20 H => ?_
        refine ⟨H.box 0 rfl, ?_⟩
        refine ⟨?_, ?_⟩
        · refine reached_c (gm := gm) ⟨hG.1, hG.2.gr H.gr⟩ h6 hr4 fun w21 C g hC' hC => ?_
          obtain ⟨c0, c1, c2, c3, c4, c5, rfl⟩ := six_of hC'
          have H := H.step g
          refine ⟨H.box 0 rfl, ?_⟩
          refine allocH H inf163' fun br w22 H => ?_
          refine ⟨H.box 0 rfl, ?_⟩
          refine storeH H 2 rfl sz163 rfl rfl rfl fun w23 H => ?_
          refine ⟨H.box 0 rfl, ?_⟩
          refine storeH H 3 rfl sz163 rfl rfl rfl fun w24 H => ?_
          refine ⟨H.box 0 rfl, ?_⟩
          have H : Apt w w24 [bx b1 [.int .i64 gm.nons, .int .i64 gm.toks, .slice Y gm.rules.length cy] 26, bx b3 zg 26, bx bp ([a0, a1, a2, a3, a4, a5].map Value.bool) 163, bx br ([c0, c1, c2, c3, c4, c5].map Value.bool) 163] := H
          exact hK _ _ ⟨rfl, rfl, bp, br, _, _, rfl, rfl, rfl, hA, rfl, hC, H⟩
        · refine allocH H inf163' fun br w25 H => ?_
          refine ⟨H.box 0 rfl, ?_⟩
          refine reached_c (gm := gm) ⟨hG.1, hG.2.gr H.gr⟩ h6 hr4 fun w26 C g hC' hC => ?_
          obtain ⟨c0, c1, c2, c3, c4, c5, rfl⟩ := six_of hC'
          have H := H.step g
          refine ⟨H.box 0 rfl, ?_⟩
          refine storeH H 2 rfl sz163 rfl rfl rfl fun w27 H => ?_
          refine ⟨H.box 0 rfl, ?_⟩
          refine storeH H 3 rfl sz163 rfl rfl rfl fun w28 H => ?_
          refine ⟨H.box 0 rfl, ?_⟩
          have H : Apt w w28 [bx b1 [.int .i64 gm.nons, .int .i64 gm.toks, .slice Y gm.rules.length cy] 26, bx b3 zg 26, bx bp ([a0, a1, a2, a3, a4, a5].map Value.bool) 163, bx br ([c0, c1, c2, c3, c4, c5].map Value.bool) 163] := H
          exact hK _ _ ⟨rfl, rfl, bp, br, _, _, rfl, rfl, rfl, hA, rfl, hC, H⟩
      · refine allocH H inf163' fun br w29 H => ?_
        refine ⟨H.box 0 rfl, ?_⟩
        refine ⟨?_, ?_⟩
        · refine reached_c (gm := gm) ⟨hG.1, hG.2.gr H.gr⟩ h6 hr4 fun w30 C g hC' hC => ?_
          obtain ⟨c0, c1, c2, c3, c4, c5, rfl⟩ := six_of hC'
          have H := H.step g
          refine ⟨H.box 0 rfl, ?_⟩
          refine allocH H inf163' fun bp w31 H => ?_
          refine ⟨H.box 0 rfl, ?_⟩
          refine storeH H 3 rfl sz163 rfl rfl rfl fun w32 H => ?_
          refine ⟨H.box 0 rfl, ?_⟩
          refine storeH H 2 rfl sz163 rfl rfl rfl fun w33 H => ?_
          refine ⟨H.box 0 rfl, ?_⟩
          have H : Apt w w33 [bx b1 [.int .i64 gm.nons, .int .i64 gm.toks, .slice Y gm.rules.length cy] 26, bx b3 zg 26, bx br ([c0, c1, c2, c3, c4, c5].map Value.bool) 163, bx bp ([a0, a1, a2, a3, a4, a5].map Value.bool) 163] := H
          have H := H.perm (List.Perm.cons _ (List.Perm.cons _ (List.Perm.swap _ _ _)))
          exact hK _ _ ⟨rfl, rfl, bp, br, _, _, rfl, rfl, rfl, hA, rfl, hC, H⟩
        · refine allocH H inf163' fun bp w34 H => ?_
          refine ⟨H.box 0 rfl, ?_⟩
          refine reached_c (gm := gm) ⟨hG.1, hG.2.gr H.gr⟩ h6 hr4 fun w35 C g hC' hC => ?_
          obtain ⟨c0, c1, c2, c3, c4, c5, rfl⟩ := six_of hC'
          have H := H.step g
          refine ⟨H.box 0 rfl, ?_⟩
          refine storeH H 3 rfl sz163 rfl rfl rfl fun w36 H => ?_
          refine ⟨H.box 0 rfl, ?_⟩
          refine storeH H 2 rfl sz163 rfl rfl rfl fun w37 H => ?_
          refine ⟨H.box 0 rfl, ?_⟩
          have H : Apt w w37 [bx b1 [.int .i64 gm.nons, .int .i64 gm.toks, .slice Y gm.rules.length cy] 26, bx b3 zg 26, bx br ([c0, c1, c2, c3, c4, c5].map Value.bool) 163, bx bp ([a0, a1, a2, a3, a4, a5].map Value.bool) 163] := H
          have H := H.perm (List.Perm.cons _ (List.Perm.cons _ (List.Perm.swap _ _ _)))
          exact hK _ _ ⟨rfl, rfl, bp, br, _, _, rfl, rfl, rfl, hA, rfl, hC, H⟩
    · refine allocH H inf163' fun bp w38 H => ?_
      refine ⟨H.box 0 rfl, ?_⟩
      refine ⟨?_, ?_⟩
      · refine productive_c (gm := gm) ⟨hG.1, hG.2.gr H.gr⟩ h6 fun w39 A g hA' hA => ?_
        obtain ⟨a0, a1, a2, a3, a4, a5, rfl⟩ := six_of hA'
        have H := H.step g
        refine ⟨H.box 0 rfl, ?_⟩
        refine ⟨?_, ?_⟩
        · refine reached_c (gm := gm) ⟨hG.1, hG.2.gr H.gr⟩ h6 hr4 fun w40 C g hC' hC => ?_
          obtain ⟨c0, c1, c2, c3, c4, c5, rfl⟩ := six_of hC'
          have H := H.step g
          refine ⟨H.box 0 rfl, ?_⟩
          refine allocH H inf163' fun br w41 H => ?_
          refine ⟨H.box 0 rfl, ?_⟩
          refine storeH H 2 rfl sz163 rfl rfl rfl fun w42 H => ?_
          refine ⟨H.box 0 rfl, ?_⟩
          refine storeH H 3 rfl sz163 rfl rfl rfl fun w43 H => ?_
          refine ⟨H.box 0 rfl, ?_⟩
          have H : Apt w w43 [bx b1 [.int .i64 gm.nons, .int .i64 gm.toks, .slice Y gm.rules.length cy] 26, bx b3 zg 26, bx bp ([a0, a1, a2, a3, a4, a5].map Value.bool) 163, bx br ([c0, c1, c2, c3, c4, c5].map Value.bool) 163] := H
          exact hK _ _ ⟨rfl, rfl, bp, br, _, _, rfl, rfl, rfl, hA, rfl, hC, H⟩
        · refine allocH H inf163' fun br w44 H => ?_
          refine ⟨H.box 0 rfl, ?_⟩
          refine reached_c (gm := gm) ⟨hG.1, hG.2.gr H.gr⟩ h6 hr4 fun w45 C g hC' hC => ?_
          obtain ⟨c0, c1, c2, c3, c4, c5, rfl⟩ := six_of hC'
          have H := H.step g
          refine ⟨H.box 0 rfl, ?_⟩
          refine storeH H 2 rfl sz163 rfl rfl rfl fun w46 H => ?_
          refine ⟨H.box 0 rfl, ?_⟩
          refine storeH H 3 rfl sz163 rfl rfl rfl fun w47 H => ?_
          refine ⟨H.box 0 rfl, ?_⟩
          have H : Apt w w47 [bx b1 [.int .i64 gm.nons, .int .i64 gm.toks, .slice Y gm.rules.length cy] 26, bx b3 zg 26, bx bp ([a0, a1, a2, a3, a4, a5].map Value.bool) 163, bx br ([c0, c1, c2, c3, c4, c5].map Value.bool) 163] := H
          exact hK _ _ ⟨rfl, rfl, bp, br, _, _, rfl, rfl, rfl, hA, rfl, hC, H⟩
      · refine allocH H inf163' fun br w48 H => ?_
        refine ⟨H.box 0 rfl, ?_⟩
        refine productive_c (gm := gm) ⟨hG.1, hG.2.gr H.gr⟩ h6 fun w49 A g hA' hA => ?_
        obtain ⟨a0, a1, a2, a3, a4, a5, rfl⟩ := six_of hA'
        have H := H.step g
        refine ⟨H.box 0 rfl, ?_⟩
        refine reached_c (gm := gm) ⟨hG.1, hG.2.gr H.gr⟩ h6 hr4 fun w50 C g hC' hC => ?_
        obtain ⟨c0, c1, c2, c3, c4, c5, rfl⟩ := six_of hC'
        have H := H.step g
        refine ⟨H.box 0 rfl, ?_⟩
        refine storeH H 2 rfl sz163 rfl rfl rfl fun w51 H => ?_
        refine ⟨H.box 0 rfl, ?_⟩
        refine storeH H 3 rfl sz163 rfl rfl rfl fun w52 H => ?_
        refine ⟨H.box 0 rfl, ?_⟩
        have H : Apt w w52 [bx b1 [.int .i64 gm.nons, .int .i64 gm.toks, .slice Y gm.rules.length cy] 26, bx b3 zg 26, bx bp ([a0, a1, a2, a3, a4, a5].map Value.bool) 163, bx br ([c0, c1, c2, c3, c4, c5].map Value.bool) 163] := H
        exact hK _ _ ⟨rfl, rfl, bp, br, _, _, rfl, rfl, rfl, hA, rfl, hC, H⟩
    · refine allocH H inf163' fun br w53 H => ?_
      refine ⟨H.box 0 rfl, ?_⟩
      refine ⟨?_, ?_⟩
      · refine productive_c (gm := gm) ⟨hG.1, hG.2.gr H.gr⟩ h6 fun w54 A g hA' hA => ?_
        obtain ⟨a0, a1, a2, a3, a4, a5, rfl⟩ := six_of hA'
        have H := H.step g
        refine ⟨H.box 0 rfl, ?_⟩
        refine ⟨?_, ?_⟩
        · refine reached_c (gm := gm) ⟨hG.1, hG.2.gr H.gr⟩ h6 hr4 fun w55 C g hC' hC => ?_
          obtain ⟨c0, c1, c2, c3, c4, c5, rfl⟩ := six_of hC'
          have H := H.step g
          refine ⟨H.box 0 rfl, ?_⟩
          refine allocH H inf163' fun bp w56 H => ?_
          refine ⟨H.box 0 rfl, ?_⟩
          refine storeH H 3 rfl sz163 rfl rfl rfl fun w57 H => ?_
          refine ⟨H.box 0 rfl, ?_⟩
          refine storeH H 2 rfl sz163 rfl rfl rfl fun w58 H => ?_
          refine ⟨H.box 0 rfl, ?_⟩
          have H : Apt w w58 [bx b1 [.int .i64 gm.nons, .int .i64 gm.toks, .slice Y gm.rules.length cy] 26, bx b3 zg 26, bx br ([c0, c1, c2, c3, c4, c5].map Value.bool) 163, bx bp ([a0, a1, a2, a3, a4, a5].map Value.bool) 163] := H
          have H := H.perm (List.Perm.cons _ (List.Perm.cons _ (List.Perm.swap _ _ _)))
          exact hK _ _ ⟨rfl, rfl, bp, br, _, _, rfl, rfl, rfl, hA, rfl, hC, H⟩
        · refine allocH H inf163' fun bp w59 H => ?_
          refine ⟨H.box 0 rfl, ?_⟩
          refine reached_c (gm := gm) ⟨hG.1, hG.2.gr H.gr⟩ h6 hr4 fun w60 C g hC' hC => ?_
          obtain ⟨c0, c1, c2, c3, c4, c5, rfl⟩ := six_of hC'
          have H := H.step g
          refine ⟨H.box 0 rfl, ?_⟩
          refine storeH H 3 rfl sz163 rfl rfl rfl fun w61 H => ?_
          refine ⟨H.box 0 rfl, ?_⟩
          refine storeH H 2 rfl sz163 rfl rfl rfl fun w62 H => ?_
          refine ⟨H.box 0 rfl, ?_⟩
          have H : Apt w w62 [bx b1 [.int .i64 gm.nons, .int .i64 gm.toks, .slice Y gm.rules.length cy] 26, bx b3 zg 26, bx br ([c0, c1, c2, c3, c4, c5].map Value.bool) 163, bx bp ([a0, a1, a2, a3, a4, a5].map Value.bool) 163] := H
          have H := H.perm (List.Perm.cons _ (List.Perm.cons _ (List.Perm.swap _ _ _)))
          exact hK _ _ ⟨rfl, rfl, bp, br, _, _, rfl, rfl, rfl, hA, rfl, hC, H⟩
      · refine allocH H inf163' fun bp w63 H => ?_
        refine ⟨H.box 0 rfl, ?_⟩
        refine productive_c (gm := gm) ⟨hG.1, hG.2.gr H.gr⟩ h6 fun w64 A g hA' hA => ?_
        obtain ⟨a0, a1, a2, a3, a4, a5, rfl⟩ := six_of hA'
        have H := H.step g
        refine ⟨H.box 0 rfl, ?_⟩
        refine reached_c (gm := gm) ⟨hG.1, hG.2.gr H.gr⟩ h6 hr4 fun w65 C g hC' hC => ?_
        obtain ⟨c0, c1, c2, c3, c4, c5, rfl⟩ := six_of hC'
        have H := H.step g
        refine ⟨H.box 0 rfl, ?_⟩
        refine storeH H 3 rfl sz163 rfl rfl rfl fun w66 H => ?_
        refine ⟨H.box 0 rfl, ?_⟩
        refine storeH H 2 rfl sz163 rfl rfl rfl fun w67 H => ?_
        refine ⟨H.box 0 rfl, ?_⟩
        have H : Apt w w67 [bx b1 [.int .i64 gm.nons, .int .i64 gm.toks, .slice Y gm.rules.length cy] 26, bx b3 zg 26, bx br ([c0, c1, c2, c3, c4, c5].map Value.bool) 163, bx bp ([a0, a1, a2, a3, a4, a5].map Value.bool) 163] := H
        have H := H.perm (List.Perm.cons _ (List.Perm.cons _ (List.Perm.swap _ _ _)))
        exact hK _ _ ⟨rfl, rfl, bp, br, _, _, rfl, rfl, rfl, hA, rfl, hC, H⟩
  clear H
  rintro f w3 ⟨f1, f2, bp, br, A, C, f3, f4, hA', hA, hC', hC, H⟩
  simp only [f1, f2, f3, f4]
  rw [ldB_agg agg26 sz26 rfl (H.box 0 rfl)]
  refine copyGrammar_c (gvK (gm := gm) ⟨hG.1, hG.2.gr H.gr⟩) hg fun v w4 g o => ?_
  obtain ⟨X, c, ps, rfl, o⟩ := o
  obtain ⟨cells, hrow, hcells⟩ := o.cellsG (by decide)
  have H := H.addGow g hrow hcells
  generalize (fun q => w3.heap.size ≤ q ∧ q < w4.heap.size) = ft at H
  have H := H.perm (List.perm_append_singleton _ _)
  refine allocH H inf26 fun b7 w5 H => ?_
  refine storeH H 5 rfl sz26 rfl rfl rfl fun w6 H => ?_
  have H : Apt w w6 [gth ft X c gm.rules, bx b1 [.int .i64 gm.nons, .int .i64 gm.toks, .slice Y gm.rules.length cy] 26, bx b3 zg 26, bx bp (A.map Value.bool) 163, bx br (C.map Value.bool) 163, bx b7 [.int .i64 gm.nons, .int .i64 gm.toks, .slice X gm.rules.length c] 26] := H
  simp only [zq18, zq19, zq20, zq21, zq22, zq23, zq24, zq25, zq26, zq27, zq28, zq4, zq3, zq1, zq2, zq0, zq29, zq30, zq14, zq15, zq16, zq17, zq13, zq10, zq12, zq11, zq7, zq5, zq6, zq9, zq8, zq31, zq32, ite_T, ite_F, zq33, zq34, zq35, Nat.reduceEqDiff, len22, len24, fa26_0, fa26_1, fa26_2, len27, fa33_0, fa33_1, len35, fa114_0, fa114_1, fa114_2, fa124_0, fa124_1, len134]
  rw [ldB24 (H.box 5 rfl) rfl]
  rw [makeFunc_]
  refine deleteFunc_c (p := dropA C A) (Q := fun w' => Box w' br (C.map Value.bool) 163 ∧ Box w' bp (A.map Value.bool) 163) H (fun w' cur H => ⟨H.box 4 rfl, H.box 3 rfl⟩) (fun w1 q r hr Z d k hZ hk => callVc (caps := [ptrv br, ptrv bp]) (dropA_c hC' hA' q.1 q.2 (h6 r hr).1 (h6 r hr).2 hZ hk)) fun w7 H => ?_
  have hsub : ∀ r ∈ (gm.rules.filter fun r => !dropA C A r), r ∈ gm.rules := fun r hr => (List.mem_filter.1 hr).1
  have hp := fun r hr => dropA_iff (rs := gm.rules) (fun r hr => (h6 r hr).1.1) hA hC (r := r) hr
  have two := fun q hq => useful_two (rs := gm.rules) (p := fun r => !dropA C A r) (q := q) hp (fun r hr => (h6 r hr).1.1) hq
  generalize (gm.rules.filter fun r => !dropA C A r) = rs1 at *
  refine storeH H 5 rfl sz24 rfl rfl rfl fun w8 H => ?_
  have H : Apt w w8 [gth ft X c rs1, bx b1 [.int .i64 gm.nons, .int .i64 gm.toks, .slice Y gm.rules.length cy] 26, bx b3 zg 26, bx bp (A.map Value.bool) 163, bx br (C.map Value.bool) 163, bx b7 [.int .i64 gm.nons, .int .i64 gm.toks, .slice X rs1.length c] 26] := H
  rw [ldB_agg agg26 sz26 rfl (H.box 5 rfl)]
  refine reached_c (gm := ⟨gm.nons, gm.toks, rs1⟩) (gowK (H.gow 0 rfl)) (fun r hr => h6 r (hsub r hr)) (fun r hr => hr4 r (hsub r hr)) fun w9 C2 g hC2' hC2 => ?_
  have H := H.step g
  obtain ⟨a0, a1, a2, a3, a4, a5, rfl⟩ := six_of hC2'
  obtain ⟨c0, c1, c2, c3, c4, c5, rfl⟩ := six_of hC'
  refine storeH H 4 rfl sz163 rfl rfl rfl fun w10 H => ?_
  have H : Apt w w10 [gth ft X c rs1, bx b1 [.int .i64 gm.nons, .int .i64 gm.toks, .slice Y gm.rules.length cy] 26, bx b3 zg 26, bx bp (A.map Value.bool) 163, bx br ([a0, a1, a2, a3, a4, a5].map Value.bool) 163, bx b7 [.int .i64 gm.nons, .int .i64 gm.toks, .slice X rs1.length c] 26] := H
  rw [ldB24 (H.box 5 rfl) rfl]
  rw [makeFunc_]
  refine deleteFunc_c (p := dropB [a0, a1, a2, a3, a4, a5]) (Q := fun w' => Box w' br ([a0, a1, a2, a3, a4, a5].map Value.bool) 163) H (fun w' cur H => H.box 4 rfl) (fun w1 q r hr Z d k hZ hk => callVc (caps := [ptrv br]) (dropB_c rfl q (h6 r (hsub r hr)).1 hk)) fun w11 H => ?_
  have e := two (fun r => !dropB [a0, a1, a2, a3, a4, a5] r) fun r => by
    unfold dropB
    rw [Bool.not_not]
    exact hC2 _
  rw [e] at H ⊢
  refine storeH H 5 rfl sz24 rfl rfl rfl fun w12 H => ?_
  have H : Apt w w12 [gth ft X c (usefulR gm.rules), bx b1 [.int .i64 gm.nons, .int .i64 gm.toks, .slice Y gm.rules.length cy] 26, bx b3 zg 26, bx bp (A.map Value.bool) 163, bx br ([a0, a1, a2, a3, a4, a5].map Value.bool) 163, bx b7 [.int .i64 gm.nons, .int .i64 gm.toks, .slice X (usefulR gm.rules).length c] 26] := H
  rw [ldB_agg agg26 sz26 rfl (H.box 5 rfl)]
  refine storeH H 2 rfl sz26 rfl rfl rfl fun w13 H => ?_
  have H : Apt w w13 [gth ft X c (usefulR gm.rules), bx b1 [.int .i64 gm.nons, .int .i64 gm.toks, .slice Y gm.rules.length cy] 26, bx b3 [.int .i64 gm.nons, .int .i64 gm.toks, .slice X (usefulR gm.rules).length c] 26, bx bp (A.map Value.bool) 163, bx br ([a0, a1, a2, a3, a4, a5].map Value.bool) 163, bx b7 [.int .i64 gm.nons, .int .i64 gm.toks, .slice X (usefulR gm.rules).length c] 26] := H
  rw [rd_loadVar, ldB_agg agg26 sz26 rfl (H.box 2 rfl)]
  refine hk w13 X c H.gr (gowK (H.gow 0 rfl)).1 ((H.gow 0 rfl).readF.mono fun q hq => ?_)
  have hq' : blk X = some q ∨ ft q := by
    rcases hq with h | h
    · exact .inl h
    · exact .inr (by first | exact h | exact h.1)
  exact ⟨(H.ok 0 _ rfl).lo q hq', (H.ok 0 _ rfl).hi q hq'⟩
end
end Go.Proofs.Ytegcjkhebecgbaa

/- Contracts: UsefulOf and IsUseful. -/
set_option linter.unusedVariables false
set_option linter.unusedSimpArgs false
set_option maxRecDepth 100000
namespace Go.Sh
open Go
end Go.Sh
namespace Go.Proofs.Ytegcjkhebecgbaa
open Go Go.Sh Go.RowKit
section
variable {w : World} {Y : Option Addr} {cy : Nat} {gm : Gram} {k : Value → World → Prop}
end
end Go.Proofs.Ytegcjkhebecgbaa

/- Contracts: two grammars are drawn; DrawUnionOf, DrawGoodGrammar, DrawStarOf. -/
set_option linter.unusedVariables false
set_option linter.unusedSimpArgs false
set_option maxRecDepth 100000
namespace Go.Proofs.Ytegcjkhebecgbaa
open Go Go.Sh Go.RowKit
/-- Bounds of a grammar that is drawn somehow. -/
structure Dr (gm : Gram) : Prop where
  nons : 0 ≤ gm.nons ∧ gm.nons ≤ 1000
  toks : 0 ≤ gm.toks ∧ gm.toks ≤ 1000
theorem Dr.of {m : Nat} {gm : Gram} (h : Drawn m gm) : Dr gm := ⟨h.nons, h.toks⟩
theorem Dr.useful {gm : Gram} (h : Dr gm) : Dr (usefulV gm).1 := by
  unfold usefulV
  split
  · exact ⟨h.nons, h.toks⟩
  · exact ⟨by simp, by simp⟩
section
variable {w0 w : World} {E : List Thing} {bc N cap : Nat} {C : Option Addr} {bs : List Int} {k : Value → World → Prop}
theorem drawGood_c (hC : Byts w C bs) (hk : ∀ w' gm ft Y cy, Drawn 101 gm → Apt w w' [gth ft Y cy gm.rules] → k (grv gm Y cy) w') :
    CallK Try.prog 173 [.slice C bs.length cap] k w := by
  refine enter173 ?_
  unfold S173
  refine draw0 fun b1 b4 w1 H => ?_
  refine any_c H hC (by omega) fun w2 gm ft Y cy hd H => ?_
  refine storeH H 2 rfl sz26 rfl rfl rfl fun w3 H => ?_
  have H : Apt w w3 [cur b4 (.slice C bs.length cap) (0 + 600), gth ft Y cy gm.rules, bx b1 [.int .i64 gm.nons, .int .i64 gm.toks, .slice Y gm.rules.length cy] 26] := H
  rw [rd_loadVar, ldB_agg agg26 sz26 rfl (H.box 2 rfl)]
  have H := (H.erase 2).erase 0
  simp only [List.eraseIdx_cons_zero, List.eraseIdx_cons_succ] at H
  exact hk w3 gm ft Y cy hd H
end
end Go.Proofs.Ytegcjkhebecgbaa

/- Contract: DrawIsUseful. -/
set_option linter.unusedVariables false
set_option linter.unusedSimpArgs false
set_option maxRecDepth 100000
namespace Go.Proofs.Ytegcjkhebecgbaa
open Go Go.Sh Go.RowKit
section
variable {w : World} {C : Option Addr} {cap : Nat} {bs : List Int} {k : Value → World → Prop}
end
end Go.Proofs.Ytegcjkhebecgbaa

/- Bd: bodies of functions as terms of the frame calculus, printed by shgen.py of this repository. -/
set_option linter.unusedVariables false
set_option maxRecDepth 100000
namespace Go.Proofs.Ytegcjkhebecgbaa
open Go Go.Sh

/-! loop.example/g00758/spec.JoinOf -/
/-! loop.example/g00758/impl.JoinOf -/
/-! loop.example/g00758/spec.UnionOf -/
/-! loop.example/g00758/impl.UnionOf -/
end Go.Proofs.Ytegcjkhebecgbaa

/- Contracts: joined and united grammars, by the reference and by the program. -/
set_option linter.unusedVariables false
set_option linter.unusedSimpArgs false
set_option maxRecDepth 100000
namespace Go.Sh

end Go.Sh
namespace Go.Proofs.Ytegcjkhebecgbaa
open Go Go.Sh Go.RowKit

end Go.Proofs.Ytegcjkhebecgbaa

/- Plain: languages of unions, of what is joined, of what comes again and again. -/
set_option linter.unusedVariables false
set_option linter.unusedSimpArgs false
set_option maxRecDepth 100000
namespace Go.Sh
open Go
theorem inL_yi {gm : Gram} {ws : List Int} (hg : goodG gm = true) (hw : ws.length ≤ 10) : inL gm.rules ws = true ↔ Yi gm.rules (.inl 0) ws := by
  unfold inL
  rw [span_iff (good_lefts hg) (good_left6 hg) hw (Nat.le_refl _), der_yi (Nat.zero_le _) (Nat.le_refl _), cut_all]
end Go.Sh

/- The law of Beside. -/
set_option linter.unusedVariables false
set_option linter.unusedSimpArgs false
set_option maxRecDepth 100000
namespace Go.Sh
open Go
end Go.Sh
namespace Go.Proofs.Ytegcjkhebecgbaa
open Go Go.Sh Go.RowKit
section
variable {w : World} {L : List (World → Prop)} {k : Value → World → Prop} {Y X : Option Addr} {cy cx n : Nat} {gm : Gram} {ws : List Int}
end
end Go.Proofs.Ytegcjkhebecgbaa

/- Plain: what the law of Useful asks of the values. -/
set_option linter.unusedVariables false
set_option linter.unusedSimpArgs false
set_option maxRecDepth 100000
namespace Go.Sh
open Go
theorem goodG_iff {g : Gram} : goodG g = true ↔ inB g.nons 1 6 = true ∧ inB g.toks 1 4 = true ∧ g.rules.length ≤ 16 ∧ (∀ r ∈ g.rules, inB r.1 0 (g.nons - 1) = true ∧ r.2.length ≤ 4 ∧ r.2.all (symB g.nons g.toks) = true) ∧ g.rules.Nodup := by
  unfold goodG
  simp only [Bool.and_eq_true, decide_eq_true_eq, List.all_eq_true (l := List.range g.rules.length), List.mem_range]
  constructor
  · rintro ⟨⟨⟨h1, h2⟩, h3⟩, h4⟩
    refine ⟨h1, h2, h3, fun r hr => ?_, ?_⟩
    · obtain ⟨i, hi, rfl⟩ := List.getElem_of_mem hr
      have := h4 i hi
      simp only [goodR, Bool.and_eq_true, decide_eq_true_eq, rul_eq hi] at this
      exact ⟨this.1.1.1, this.1.1.2, this.1.2⟩
    · rw [List.Nodup, List.pairwise_iff_getElem]
      intro i j hi hj hij e
      have := h4 j hj
      simp only [goodR, Bool.and_eq_true, Bool.not_eq_true', List.any_eq_false, decide_eq_true_eq, rul_eq hj] at this
      refine this.2 g.rules[i] ?_ e.symm
      rw [List.mem_take_iff_getElem]
      exact ⟨i, by omega, rfl⟩
  · rintro ⟨h1, h2, h3, h4, h5⟩
    refine ⟨⟨⟨h1, h2⟩, h3⟩, fun i hi => ?_⟩
    obtain ⟨a1, a2, a3⟩ := h4 g.rules[i] (List.getElem_mem hi)
    simp only [goodR, Bool.and_eq_true, Bool.not_eq_true', List.any_eq_false, decide_eq_true_eq, rul_eq hi]
    refine ⟨⟨⟨a1, a2⟩, a3⟩, fun q hq e => ?_⟩
    obtain ⟨j, hj, rfl⟩ := List.getElem_of_mem hq
    rw [List.length_take] at hj
    rw [List.getElem_take] at e
    rw [List.Nodup, List.pairwise_iff_getElem] at h5
    exact h5 j i (by omega) hi (by omega) e.symm
theorem good_useful {gm : Gram} (hg : goodG gm = true) : goodG (usefulG gm) = true := by
  obtain ⟨h1, h2, h3, h4, h5⟩ := goodG_iff.1 hg
  have hs := usefulR_sublist gm.rules
  exact goodG_iff.2 ⟨h1, h2, Nat.le_trans hs.length_le h3, fun r hr => h4 r (hs.subset hr), hs.nodup h5⟩
theorem good_lefts0 {gm : Gram} (hg : goodG gm = true) : ∀ r ∈ gm.rules, 0 ≤ r.1 := fun r hr => (goodRules hg r hr).1.1
theorem listV_good {gm : Gram} (hg : goodG gm = true) (l : List Int) : listV gm l = (l, true) := by
  unfold listV
  rw [if_pos hg]
end Go.Sh

/- Contracts: DrawSameUpTo, DrawCountByLong. -/
set_option linter.unusedVariables false
set_option linter.unusedSimpArgs false
set_option maxRecDepth 100000
namespace Go.Proofs.Ytegcjkhebecgbaa
open Go Go.Sh Go.RowKit
section
variable {w : World} {C : Option Addr} {cap : Nat} {bs : List Int} {k : Value → World → Prop}
end
end Go.Proofs.Ytegcjkhebecgbaa

/- Contracts: FirstUnlike of the reference and of the program. -/
set_option linter.unusedVariables false
set_option linter.unusedSimpArgs false
set_option maxRecDepth 100000
namespace Go.Proofs.Ytegcjkhebecgbaa
open Go Go.Sh Go.RowKit
end Go.Proofs.Ytegcjkhebecgbaa

/- Contracts: how many words of each length, by the reference and by the program. -/
set_option linter.unusedVariables false
set_option linter.unusedSimpArgs false
set_option maxRecDepth 100000
namespace Go.Sh
open Go
end Go.Sh
namespace Go.Proofs.Ytegcjkhebecgbaa
open Go Go.Sh Go.RowKit
theorem putH {k : Value → World → Prop} {w0 w : World} {L : List Thing} (H : Apt w0 w L) (i : Nat) {j c : Nat} {X : Option Addr} {xs : List Int} {x : Int} (hi : L[i]? = some (ows X c xs)) (hj : j < xs.length)
    (h : ∀ w', Apt w0 w' (L.set i (ows X c (xs.set j x))) → k undef w') : Do Try.prog (sStore 3 (.pointer (some ((ad X).add j))) (.int .i64 x)) k w := by
  refine do_store_row sz3 rfl rfl (H.row i hi) (by omega) fun w' g hs hr => ?_
  have hr' : Row w' w0.heap.size 3 1 X (xs.set j x).length c (ints (xs.set j x)) := by
    rw [List.length_set, show ints (xs.set j x) = (ints xs).set j (.int .i64 x) from by simp [ints]]
    exact hr
  exact h w' (H.set hi (gx_of g fun q hq => hq) (fun q hq => .inl hq) (fun q hq => (Row.ge hr' hq).2) (rwi_kept hr'))
end Go.Proofs.Ytegcjkhebecgbaa

/- Plain: what the law of Unlike asks of the values. -/
set_option linter.unusedVariables false
set_option linter.unusedSimpArgs false
set_option maxRecDepth 100000
namespace Go.Sh
open Go
theorem wordsN_all {toks : Nat} (x : List Int) (h : ∀ t ∈ x, 0 ≤ t ∧ t < toks) : x ∈ wordsN toks x.length := by
  obtain ⟨y, rfl⟩ : ∃ y, x = y.reverse := ⟨x.reverse, by simp⟩
  induction y with
  | nil => simp [wordsN]
  | cons a y ih =>
    rw [List.reverse_cons] at h ⊢
    rw [List.length_append, List.length_singleton, wordsN, List.mem_flatMap]
    refine ⟨_, ih fun t ht => h t (by simp at ht ⊢; exact .inl ht), ?_⟩
    unfold extW
    have ha := h a (by simp)
    rw [List.mem_map]
    exact ⟨a.toNat, List.mem_range.2 (by omega), by rw [Int.toNat_of_nonneg ha.1]⟩
theorem shortV_true {gm : Gram} {most : Int} (h : (shortV gm most).2 = true) : goodG gm = true ∧ 0 ≤ most ∧ most ≤ 4 ∧ shortV gm most = (shortW gm (most.toNat + 1), true) := by
  unfold shortV at h ⊢
  split at h
  · rename_i hc
    rw [if_pos hc]
    simp only [Bool.and_eq_true, inB, decide_eq_true_eq] at hc
    exact ⟨hc.1, hc.2.1, hc.2.2, rfl⟩
  · cases h
theorem shortV_in {gm : Gram} {most : Int} (h : (shortV gm most).2 = true) {x : List Int} (hx : ∀ t ∈ x, 0 ≤ t ∧ t < gm.toks.toNat) (hl : (x.length : Int) ≤ most) : x ∈ (shortV gm most).1 ↔ inL gm.rules x = true := by
  obtain ⟨hg, h0, h4, e⟩ := shortV_true h
  rw [e]
  dsimp only
  unfold shortW
  rw [List.mem_flatMap]
  constructor
  · rintro ⟨m, _, hm⟩
    exact (List.mem_filter.1 hm).2
  · intro hi
    exact ⟨x.length, List.mem_range.2 (by omega), List.mem_filter.2 ⟨wordsN_all x hx, hi⟩⟩
end Go.Sh

/- Plain: what the law of Finite asks of the values. -/
set_option linter.unusedVariables false
set_option linter.unusedSimpArgs false
set_option maxRecDepth 100000
namespace Go.Sh
open Go
theorem longI_ex (rs : List RuleL) : ∃ n, LongI rs n := by
  by_cases h : ∃ u, Yi rs (.inl 0) u
  · obtain ⟨u, hu⟩ := h
    have key : ∀ m : Nat, (∃ u, Yi rs (.inl 0) u ∧ u.length = m) → ∃ n, LongI rs n := by
      intro m
      induction m using Nat.strongRecOn with
      | _ m ih =>
        intro hm
        by_cases hs : ∃ v, Yi rs (.inl 0) v ∧ v.length < m
        · obtain ⟨v, hv, hl⟩ := hs
          exact ih v.length hl ⟨v, hv, rfl⟩
        · obtain ⟨v, hv, e⟩ := hm
          refine ⟨(m : Int), .inr ⟨by omega, ⟨v, hv, by omega⟩, fun x hx => ?_⟩⟩
          have : ¬ x.length < m := fun hl => hs ⟨x, hx, hl⟩
          omega
    exact key u.length ⟨u, hu, rfl⟩
  · exact ⟨-1, .inl ⟨by omega, fun u hu => h ⟨u, hu⟩⟩⟩
theorem llV_cases {gm : Gram} (hg : goodG gm = true) : (llV gm = (0, false) ∧ ∀ u, ¬ Yi gm.rules (.inl 0) u) ∨ ∃ n : Nat, llV gm = ((n : Int), true) ∧ (∃ u, Yi gm.rules (.inl 0) u ∧ u.length = n) ∧ ∀ u, Yi gm.rules (.inl 0) u → n ≤ u.length := by
  obtain ⟨n, hn⟩ := longI_ex gm.rules
  rw [llV_of hg hn]
  rcases hn with ⟨h1, h2⟩ | ⟨h1, ⟨u, hu, e⟩, h3⟩
  · rw [if_pos h1]
    exact .inl ⟨rfl, h2⟩
  · rw [if_neg (by omega)]
    exact .inr ⟨n.toNat, by rw [Int.toNat_of_nonneg h1], ⟨u, hu, by omega⟩, fun v hv => by have := h3 v hv; omega⟩
theorem yi_range {rs : List RuleL} {T : Int} (hr : ∀ r ∈ rs, ∀ x ∈ r.2, -T ≤ x) {c : Nat ⊕ List Int} {u : List Int} (h : Yi rs c u) : match c with | .inl _ => ∀ t ∈ u, 0 ≤ t ∧ t < T | .inr xs => (∀ x ∈ xs, -T ≤ x) → ∀ t ∈ u, 0 ≤ t ∧ t < T := by
  induction h with
  | @rule A r u h1 h2 _ ih => exact ih (hr r h1)
  | nil => exact fun _ t ht => by simp at ht
  | @tok x xs u hx _ ih =>
    intro hT t ht
    rcases List.mem_cons.1 ht with rfl | ht
    · have := hT x (List.mem_cons_self ..)
      omega
    · exact ih (fun y hy => hT y (List.mem_cons_of_mem _ hy)) t ht
  | @non x xs u v hx _ _ ih1 ih2 =>
    intro hT t ht
    rcases List.mem_append.1 ht with ht | ht
    · exact ih1 t ht
    · exact ih2 (fun y hy => hT y (List.mem_cons_of_mem _ hy)) t ht
theorem good_yi {gm : Gram} (hg : goodG gm = true) {A : Nat} {u : List Int} (h : Yi gm.rules (.inl A) u) : ∀ t ∈ u, 0 ≤ t ∧ t < gm.toks :=
  yi_range (fun r hr x hx => ((goodRules hg r hr).2.2 x hx).1) h
theorem mem_clo0 {gm : Gram} (hg : goodG gm = true) (tok : Bool) : (0 : Int) ∈ cloV gm tok ↔ Clo gm.rules tok 0 := by
  have hn := good_nons hg
  unfold cloV
  rw [setL_mem]
  constructor
  · rintro ⟨a, e, _, h⟩
    obtain rfl : a = 0 := by omega
    exact h
  · exact fun h => ⟨0, rfl, by omega, h⟩
theorem short_yi {gm : Gram} {most : Int} (hs : (shortV gm most).2 = true) {u : List Int} (h : Yi gm.rules (.inl 0) u) (hl : (u.length : Int) ≤ most) : u ∈ (shortV gm most).1 := by
  obtain ⟨hg, h0, h4, e⟩ := shortV_true hs
  have ht := good_toks hg
  rw [shortV_in hs (fun t ht' => by have := good_yi hg h t ht'; omega) hl, inL_yi hg (by omega)]
  exact h
theorem yi_short {gm : Gram} {most : Int} {u : List Int} (h : u ∈ (shortV gm most).1) : Yi gm.rules (.inl 0) u ∧ (u.length : Int) ≤ most := by
  obtain ⟨hg, h4, _, hi⟩ := shortV_mem4 h
  refine ⟨(inL_yi hg (by omega)).1 hi, ?_⟩
  unfold shortV at h
  split at h
  · rename_i hc
    simp only [Bool.and_eq_true, inB, decide_eq_true_eq] at hc
    have := (shortW_mem h).1
    omega
  · cases h
theorem short3 {gm : Gram} (hg : goodG gm = true) : (shortV gm 3).2 = true := by
  unfold shortV
  rw [if_pos (by rw [hg]; rfl)]
/-- No word: nothing is of use. -/
theorem useful_none {rs : List RuleL} (h0 : ∀ r ∈ rs, 0 ≤ r.1) (h : ∀ u, ¬ Yi rs (.inl 0) u) : usefulR rs = [] := by
  cases he : usefulR rs with
  | nil => rfl
  | cons r qs =>
    exfalso
    have hr : r ∈ usefulR rs := by rw [he]; exact List.mem_cons_self ..
    have no : ∀ r' ∈ usefulR rs, r'.1 ≠ 0 := fun r' hr' e => by
      obtain ⟨u, hu⟩ := clo_yi (useful_left h0 hr')
      rw [e] at hu
      exact h u (useful_yi.1 hu)
    have key : ∀ A, Rch (usefulR rs) A → A = 0 := fun A hA => by
      induction hA with
      | zero => rfl
      | step h1 h2 _ _ _ ih =>
        rw [ih] at h2
        exact absurd h2 (no _ h1)
    have := key _ (useful_rch hr)
    exact no r hr (by have := h0 r (usefulR_sub hr); omega)
theorem finite_none {gm : Gram} (hg : goodG gm = true) (h : ∀ u, ¬ Yi gm.rules (.inl 0) u) : finiteV gm = (true, true) := by
  unfold finiteV
  rw [if_pos hg, useful_none (good_lefts0 hg) h]
  have : ¬ CycB (EdR []) (EgR []) 6 := by
    rintro ⟨a, b, ⟨r, hr, _⟩, _⟩
    cases hr
  simp [this]
structure FinF (gm : Gram) (n : Int) (one : Bool) : Prop where
  n0 : 0 ≤ n
  pro : decide ((0 : Int) ∈ cloV gm true) = one
  none_ : one = false → (shortV gm 3).1 = [] ∧ finiteV gm = (true, true)
  low : one = true → n ≤ 3 → 0 < (shortV gm 3).1.length ∧ ((rgt (shortV gm 3).1 0).length : Int) = n
  high : one = true → ¬ n ≤ 3 → (shortV gm 3).1 = []
  null : decide ((0 : Int) ∈ cloV gm false) = (one && decide (n = 0))
theorem finF {gm : Gram} (hg : goodG gm = true) {n : Int} {one : Bool} (h : llV gm = (n, one)) : FinF gm n one := by
  have h3 := short3 hg
  rcases llV_cases hg with ⟨e, hno⟩ | ⟨m, e, ⟨u, hu, hul⟩, hmin⟩
  · obtain ⟨rfl, rfl⟩ : (0 : Int) = n ∧ false = one := by rw [e] at h; simpa using h
    refine ⟨by omega, ?_, fun _ => ⟨?_, finite_none hg hno⟩, (fun h => by cases h), (fun h => by cases h), ?_⟩
    · rw [decide_eq_false]
      rw [mem_clo0 hg, clo_true]
      exact fun ⟨u, hu⟩ => hno u hu
    · rw [List.eq_nil_iff_forall_not_mem]
      exact fun x hx => hno x (yi_short hx).1
    · rw [Bool.false_and, decide_eq_false]
      rw [mem_clo0 hg, clo_false]
      exact fun hu => hno _ hu
  · obtain ⟨rfl, rfl⟩ : (m : Int) = n ∧ true = one := by rw [e] at h; simpa using h
    refine ⟨by omega, ?_, (fun h => by cases h), fun _ hn => ?_, fun _ hn => ?_, ?_⟩
    · rw [decide_eq_true]
      rw [mem_clo0 hg, clo_true]
      exact ⟨u, hu⟩
    · have hm := short_yi h3 hu (by omega)
      have hpos : 0 < (shortV gm 3).1.length := List.length_pos_of_mem hm
      refine ⟨hpos, ?_⟩
      have h0 := yi_short (rgt_mem hpos)
      have h1 := hmin _ h0.1
      have h2 : (rgt (shortV gm 3).1 0).length ≤ u.length := by
        obtain ⟨i, hi, e⟩ := List.getElem_of_mem hm
        have hp : (shortV gm 3).1.Pairwise fun a b => a.length ≤ b.length := by
          rw [(shortV_true h3).2.2.2]
          exact shortW_sorted _ _
        by_cases hi0 : i = 0
        · subst hi0
          rw [rgt_eq hpos, e]
          exact Nat.le_refl _
        · have := List.pairwise_iff_getElem.1 hp 0 i hpos hi (by omega)
          rw [rgt_eq hpos, ← e]
          exact this
      omega
    · rw [List.eq_nil_iff_forall_not_mem]
      intro x hx
      have h0 := yi_short hx
      have h1 := hmin _ h0.1
      omega
    · rw [Bool.true_and, Bool.eq_iff_iff, decide_eq_true_eq, decide_eq_true_eq, mem_clo0 hg, clo_false]
      constructor
      · intro hu0
        have := hmin _ hu0
        simp at this
        omega
      · intro h0
        have : u = [] := List.eq_nil_of_length_eq_zero (by omega)
        rw [← this]
        exact hu
end Go.Sh

/- Contract: LeastLong of the reference. -/
set_option linter.unusedVariables false
set_option linter.unusedSimpArgs false
set_option maxRecDepth 100000
namespace Go.Sh
open Go
theorem lat_getD {L : List Int} {n : Nat} (h : n < L.length) : L.getD n 0 = lat L n := by
  rw [lat_get h, List.getD_eq_getElem?_getD, List.getElem?_eq_getElem h]
  rfl
def doneL (L : List Int) (r : RuleL) : Prop := ¬ (0 ≤ seqLL L r.2 ∧ (lat L r.1.toNat < 0 ∨ seqLL L r.2 < lat L r.1.toNat))
theorem fixL_of {rs : List RuleL} {L : List Int} (h : ∀ r ∈ rs, doneL L r) : FixL rs L := fun r hr h0 => by
  have := h r hr
  unfold doneL at this
  by_cases h1 : lat L r.1.toNat < 0
  · exact absurd ⟨h0, .inl h1⟩ this
  · by_cases h2 : seqLL L r.2 < lat L r.1.toNat
    · exact absurd ⟨h0, .inr h2⟩ this
    · omega
theorem minus_set {i m : Nat} (h : i < m) : (List.replicate i (-1 : Int) ++ List.replicate (m - i) 0).set i (-1) = List.replicate (i + 1) (-1) ++ List.replicate (m - (i + 1)) 0 := by
  rw [show m - i = (m - (i + 1)) + 1 from by omega, List.replicate_succ, List.set_append]
  simp [List.replicate_succ']
theorem put_ints {L : List Int} {n : Nat} {x : Int} (h : n < L.length) : (ints L).take n ++ (Value.int .i64 x).cells.toList ++ (ints L).drop (n + 1) = ints (L.set n x) := by
  unfold ints
  rw [List.map_set, List.set_eq_take_append_cons_drop, if_pos (by simp; omega), List.append_assoc]
  rfl
theorem ints_get {L : List Int} {n : Nat} (h : n < L.length) : (ints L)[n]? = some (.int .i64 (lat L n)) := by
  unfold ints
  rw [List.getElem?_map, List.getElem?_eq_getElem h, lat_get h]
  rfl
end Go.Sh

namespace Go.Proofs.Ytegcjkhebecgbaa
open Go Go.Sh Go.RowKit
theorem putH' {k : Value → World → Prop} {w0 w : World} {L : List Thing} (H : Apt w0 w L) (i : Nat) {j c : Nat} {X : Option Addr} {xs : List Int} {x : Int} (hi : L[i]? = some (ows X c xs)) (hj : j < xs.length)
    (h : ∀ w', Apt w0 w' (L.set i (ows X c (xs.set j x))) → k undef w') : Do Try.prog (sStore 3 (.pointer (some ((ad X).add j))) (.int .i64 x)) k w := putH H i hi hj h
section
variable {w : World} {k : Value → World → Prop} {Y : Option Addr} {cy : Nat} {gm : Gram}
set_option maxHeartbeats 12800000 in
theorem specLeastLong_c (hG : kG Y cy gm.rules w) (hk : ∀ w', Gr w w' → k (.tuple #[.int .i64 (llV gm).1, .bool (llV gm).2]) w') :
    CallK Try.prog 59 [grv gm Y cy] k w := by
  refine enter59 ?_
  unfold S59
  have H := Apt.nil w
  refine boxH H fun b1 w1 H => ?_
  rw [ldB_agg agg26 sz26 rfl (H.box 0 rfl)]
  refine goodGrammar_c (gm := gm) (gvK ⟨hG.1, hG.2.gr H.gr⟩) fun w2 g => ?_
  have H := H.step g
  cases hg : goodG gm
  · simp only [Bool.not_false, zq18, zq19, zq20, zq21, zq22, zq23, zq24, zq25, zq26, zq27, zq28, zq4, zq3, zq1, zq2, zq0, zq29, zq30, zq14, zq15, zq16, zq17, zq13, zq10, zq12, zq11, zq7, zq5, zq6, zq9, zq8, zq31, zq32, ite_T, ite_F, zq33, zq34, zq35, Nat.reduceEqDiff, len22, len24, fa26_0, fa26_1, fa26_2, len27, fa33_0, fa33_1, len35, fa114_0, fa114_1, fa114_2, fa124_0, fa124_1, len134]
    have := hk w2 H.gr
    rwa [llV_bad hg] at this
  have hgr := goodRules hg
  have hn := good_nons hg
  have hr1 : ∀ r ∈ gm.rules, (0 ≤ r.1 ∧ r.1 < ((gm.nons.toNat : Nat) : Int)) ∧ r.2.length ≤ 4 ∧ ∀ x ∈ r.2, x < ((gm.nons.toNat : Nat) : Int) := fun r hr => by
    have := hgr r hr
    exact ⟨by omega, this.2.1, fun x hx => by have := this.2.2 x hx; omega⟩
  simp only [Bool.not_true, zq18, zq19, zq20, zq21, zq22, zq23, zq24, zq25, zq26, zq27, zq28, zq4, zq3, zq1, zq2, zq0, zq29, zq30, zq14, zq15, zq16, zq17, zq13, zq10, zq12, zq11, zq7, zq5, zq6, zq9, zq8, zq31, zq32, ite_T, ite_F, zq33, zq34, zq35, Nat.reduceEqDiff, len22, len24, fa26_0, fa26_1, fa26_2, len27, fa33_0, fa33_1, len35, fa114_0, fa114_1, fa114_2, fa124_0, fa124_1, len134]
  rw [ldB3 (H.box 0 rfl) rfl]
  have hm0 : 0 < gm.nons.toNat := by omega
  have hm6 : gm.nons.toNat ≤ 6 := by omega
  rw [show gm.nons = ((gm.nons.toNat : Nat) : Int) from by omega]
  generalize hmm : gm.nons.toNat = m at *
  refine makeH H u27 inf3 (by omega) (by omega) fun b2 w3 H => ?_
  rw [zeros_ints] at H
  have H : Apt w w3 [bx b1 [.int .i64 gm.nons, .int .i64 gm.toks, .slice Y gm.rules.length cy] 26, ows (some ⟨b2, 0, none⟩) m (List.replicate m 0)] := by
    have e : ows (some ⟨b2, 0, none⟩) m (List.replicate m 0) = rwi 3 1 (some ⟨b2, 0, none⟩) m m (ints (List.replicate m 0)) := by simp [ows]
    rw [e]
    exact H
  simp only [zq18, zq19, zq20, zq21, zq22, zq23, zq24, zq25, zq26, zq27, zq28, zq4, zq3, zq1, zq2, zq0, zq29, zq30, zq14, zq15, zq16, zq17, zq13, zq10, zq12, zq11, zq7, zq5, zq6, zq9, zq8, zq31, zq32, ite_T, ite_F, zq33, zq34, zq35, Nat.reduceEqDiff, len22, len24, fa26_0, fa26_1, fa26_2, len27, fa33_0, fa33_1, len35, fa114_0, fa114_1, fa114_2, fa124_0, fa124_1, len134]
  refine loop_to m 0 (fun i f w' => i ≤ m ∧ f 20 = .int .i64 (i : Int) ∧ Apt w w' [bx b1 [.int .i64 gm.nons, .int .i64 gm.toks, .slice Y gm.rules.length cy] 26, ows (some ⟨b2, 0, none⟩) m (List.replicate i (-1) ++ List.replicate (m - i) 0)])
    ⟨Nat.zero_le _, rfl, by rw [List.replicate_zero, List.nil_append, Nat.sub_zero]; exact H⟩ ?_
  clear H
  rintro i f w5 N hag ⟨hi, fII, H⟩ hN
  have fAR : f 4 = .slice (some ⟨b2, 0, none⟩) m m := hag 4 (by decide)
  have fIL : f 19 = .int .i64 ((m : Nat) : Int) := hag 19 (by decide)
  have f1 : f 1 = ptrv b1 := hag 1 (by decide)
  simp only [f1, fII, fAR, fIL, zq18, zq19, zq20, zq21, zq22, zq23, zq24, zq25, zq26, zq27, zq28, zq4, zq3, zq1, zq2, zq0, zq29, zq30, zq14, zq15, zq16, zq17, zq13, zq10, zq12, zq11, zq7, zq5, zq6, zq9, zq8, zq31, zq32, ite_T, ite_F, zq33, zq34, zq35, Nat.reduceEqDiff, len22, len24, fa26_0, fa26_1, fa26_2, len27, fa33_0, fa33_1, len35, fa114_0, fa114_1, fa114_2, fa124_0, fa124_1, len134]
  by_cases hlt : i < m
  case pos =>
    simp only [show ((i : Int) < ((m : Nat) : Int)) from by omega, decide_true, zq18, zq19, zq20, zq21, zq22, zq23, zq24, zq25, zq26, zq27, zq28, zq4, zq3, zq1, zq2, zq0, zq29, zq30, zq14, zq15, zq16, zq17, zq13, zq10, zq12, zq11, zq7, zq5, zq6, zq9, zq8, zq31, zq32, ite_T, ite_F, zq33, zq34, zq35, Nat.reduceEqDiff, len22, len24, fa26_0, fa26_1, fa26_2, len27, fa33_0, fa33_1, len35, fa114_0, fa114_1, fa114_2, fa124_0, fa124_1, len134]
    refine rdi (ixn27 (X := some ⟨b2, 0, none⟩) (fun _ => rfl) (by omega)) ?_
    refine putH' H 1 rfl (by simp; omega) fun w9 H => ?_
    simp only [List.set_cons_zero, List.set_cons_succ] at H
    rw [minus_set hlt] at H
    rw [i64_of (by omega) (by omega)]
    exact hN _ _ hlt ⟨by omega, rfl, H⟩
  simp only [show ¬ ((i : Int) < ((m : Nat) : Int)) from by omega, decide_false, zq18, zq19, zq20, zq21, zq22, zq23, zq24, zq25, zq26, zq27, zq28, zq4, zq3, zq1, zq2, zq0, zq29, zq30, zq14, zq15, zq16, zq17, zq13, zq10, zq12, zq11, zq7, zq5, zq6, zq9, zq8, zq31, zq32, ite_T, ite_F, zq33, zq34, zq35, Nat.reduceEqDiff, len22, len24, fa26_0, fa26_1, fa26_2, len27, fa33_0, fa33_1, len35, fa114_0, fa114_1, fa114_2, fa124_0, fa124_1, len134]
  have e6 : m = i := by omega
  subst e6
  simp only [Nat.sub_self, List.replicate_zero, List.append_nil] at H
  clear hN hag
  refine loop_ghost (σ := List Int × Bool) (fun s f w' => f 6 = .bool s.2 ∧ OkL gm.rules m s.1 ∧ (s.2 = false → ∀ r ∈ gm.rules, doneL s.1 r) ∧ Apt w w' [bx b1 [.int .i64 gm.nons, .int .i64 gm.toks, .slice Y gm.rules.length cy] 26, ows (some ⟨b2, 0, none⟩) m s.1])
    (fun s => if s.2 = true then restL s.1 + 1 else 0) (List.replicate m (-1), true) ⟨rfl, okL_zero _ _, (fun h => by cases h), H⟩ ?_
  clear H
  rintro ⟨L, more⟩ g w6 N hag ⟨gMO, hok, hcl, H⟩ hN
  dsimp only at gMO hok hcl H hN
  have g1 : g 1 = ptrv b1 := (hag 1 (by decide)).trans f1
  have gAR : g 4 = .slice (some ⟨b2, 0, none⟩) m m := (hag 4 (by decide)).trans fAR
  simp only [g1, gAR, gMO, zq18, zq19, zq20, zq21, zq22, zq23, zq24, zq25, zq26, zq27, zq28, zq4, zq3, zq1, zq2, zq0, zq29, zq30, zq14, zq15, zq16, zq17, zq13, zq10, zq12, zq11, zq7, zq5, zq6, zq9, zq8, zq31, zq32, ite_T, ite_F, zq33, zq34, zq35, Nat.reduceEqDiff, len22, len24, fa26_0, fa26_1, fa26_2, len27, fa33_0, fa33_1, len35, fa114_0, fa114_1, fa114_2, fa124_0, fa124_1, len134]
  cases more
  case false =>
    simp only [gAR, zq18, zq19, zq20, zq21, zq22, zq23, zq24, zq25, zq26, zq27, zq28, zq4, zq3, zq1, zq2, zq0, zq29, zq30, zq14, zq15, zq16, zq17, zq13, zq10, zq12, zq11, zq7, zq5, zq6, zq9, zq8, zq31, zq32, ite_T, ite_F, zq33, zq34, zq35, Nat.reduceEqDiff, len22, len24, fa26_0, fa26_1, fa26_2, len27, fa33_0, fa33_1, len35, fa114_0, fa114_1, fa114_2, fa124_0, fa124_1, len134]
    have hlen := hok.len
    refine rdi (ixn27 (X := some ⟨b2, 0, none⟩) (i := 0) (fun _ => rfl) (by omega)) ?_
    refine rdi (ld3 ((H.ints 1 rfl).cell 0 (by omega))) ?_
    rw [lat_getD (by omega)]
    simp only [zq18, zq19, zq20, zq21, zq22, zq23, zq24, zq25, zq26, zq27, zq28, zq4, zq3, zq1, zq2, zq0, zq29, zq30, zq14, zq15, zq16, zq17, zq13, zq10, zq12, zq11, zq7, zq5, zq6, zq9, zq8, zq31, zq32, ite_T, ite_F, zq33, zq34, zq35, Nat.reduceEqDiff, len22, len24, fa26_0, fa26_1, fa26_2, len27, fa33_0, fa33_1, len35, fa114_0, fa114_1, fa114_2, fa124_0, fa124_1, len134]
    have hL := longI_of hok.snd (fixL_of (hcl rfl))
    have := hk _ H.gr
    rw [llV_of hg hL] at this
    by_cases hneg : lat L 0 < 0
    · simp only [hneg, decide_true, zq18, zq19, zq20, zq21, zq22, zq23, zq24, zq25, zq26, zq27, zq28, zq4, zq3, zq1, zq2, zq0, zq29, zq30, zq14, zq15, zq16, zq17, zq13, zq10, zq12, zq11, zq7, zq5, zq6, zq9, zq8, zq31, zq32, ite_T, ite_F, zq33, zq34, zq35, Nat.reduceEqDiff, len22, len24, fa26_0, fa26_1, fa26_2, len27, fa33_0, fa33_1, len35, fa114_0, fa114_1, fa114_2, fa124_0, fa124_1, len134]
      rwa [if_pos hneg] at this
    · simp only [hneg, decide_false, gAR, zq18, zq19, zq20, zq21, zq22, zq23, zq24, zq25, zq26, zq27, zq28, zq4, zq3, zq1, zq2, zq0, zq29, zq30, zq14, zq15, zq16, zq17, zq13, zq10, zq12, zq11, zq7, zq5, zq6, zq9, zq8, zq31, zq32, ite_T, ite_F, zq33, zq34, zq35, Nat.reduceEqDiff, len22, len24, fa26_0, fa26_1, fa26_2, len27, fa33_0, fa33_1, len35, fa114_0, fa114_1, fa114_2, fa124_0, fa124_1, len134]
      refine rdi (ixn27 (X := some ⟨b2, 0, none⟩) (i := 0) (fun _ => rfl) (by omega)) ?_
      refine rdi (ld3 ((H.ints 1 rfl).cell 0 (by omega))) ?_
      rw [lat_getD (by omega)]
      rwa [if_neg hneg] at this
  simp only [zq18, zq19, zq20, zq21, zq22, zq23, zq24, zq25, zq26, zq27, zq28, zq4, zq3, zq1, zq2, zq0, zq29, zq30, zq14, zq15, zq16, zq17, zq13, zq10, zq12, zq11, zq7, zq5, zq6, zq9, zq8, zq31, zq32, ite_T, ite_F, zq33, zq34, zq35, Nat.reduceEqDiff, len22, len24, fa26_0, fa26_1, fa26_2, len27, fa33_0, fa33_1, len35, fa114_0, fa114_1, fa114_2, fa124_0, fa124_1, len134]
  rw [ldB24 (H.box 0 rfl) rfl]
  simp only [zq18, zq19, zq20, zq21, zq22, zq23, zq24, zq25, zq26, zq27, zq28, zq4, zq3, zq1, zq2, zq0, zq29, zq30, zq14, zq15, zq16, zq17, zq13, zq10, zq12, zq11, zq7, zq5, zq6, zq9, zq8, zq31, zq32, ite_T, ite_F, zq33, zq34, zq35, Nat.reduceEqDiff, len22, len24, fa26_0, fa26_1, fa26_2, len27, fa33_0, fa33_1, len35, fa114_0, fa114_1, fa114_2, fa124_0, fa124_1, len134]
  refine loop_to gm.rules.length 0 (fun i q w' => i ≤ gm.rules.length ∧ q 31 = .int .i64 (i : Int) ∧ ∃ (L2 : List Int) (m2 : Bool), q 6 = .bool m2 ∧ OkL gm.rules m L2 ∧
      (m2 = false → L2 = L ∧ ∀ z, z < i → doneL L (rul gm.rules z)) ∧ (m2 = true → restL L2 < restL L) ∧ Apt w w' [bx b1 [.int .i64 gm.nons, .int .i64 gm.toks, .slice Y gm.rules.length cy] 26, ows (some ⟨b2, 0, none⟩) m L2])
    ⟨Nat.zero_le _, rfl, L, false, rfl, hok, (fun _ => ⟨rfl, fun z hz => by omega⟩), (fun h => by cases h), H⟩ ?_
  clear H
  rintro i q w7 N2 hag2 ⟨hi, qRI, L2, m2, qMO, hok2, hno, hyes, H⟩ hN2
  have qAR : q 4 = .slice (some ⟨b2, 0, none⟩) m m := (hag2 4 (by decide)).trans gAR
  have qRS : q 29 = .slice Y gm.rules.length cy := hag2 29 (by decide)
  have qRL : q 30 = .int .i64 gm.rules.length := hag2 30 (by decide)
  have hRF := hG.2.gr H.gr
  have hle := hRF.le
  simp only [qAR, qRS, qRL, qRI, qMO, zq18, zq19, zq20, zq21, zq22, zq23, zq24, zq25, zq26, zq27, zq28, zq4, zq3, zq1, zq2, zq0, zq29, zq30, zq14, zq15, zq16, zq17, zq13, zq10, zq12, zq11, zq7, zq5, zq6, zq9, zq8, zq31, zq32, ite_T, ite_F, zq33, zq34, zq35, Nat.reduceEqDiff, len22, len24, fa26_0, fa26_1, fa26_2, len27, fa33_0, fa33_1, len35, fa114_0, fa114_1, fa114_2, fa124_0, fa124_1, len134]
  by_cases hlt : i < gm.rules.length
  case neg =>
    simp only [show ¬ ((i : Int) < (gm.rules.length : Int)) from by omega, decide_false, zq18, zq19, zq20, zq21, zq22, zq23, zq24, zq25, zq26, zq27, zq28, zq4, zq3, zq1, zq2, zq0, zq29, zq30, zq14, zq15, zq16, zq17, zq13, zq10, zq12, zq11, zq7, zq5, zq6, zq9, zq8, zq31, zq32, ite_T, ite_F, zq33, zq34, zq35, Nat.reduceEqDiff, len22, len24, fa26_0, fa26_1, fa26_2, len27, fa33_0, fa33_1, len35, fa114_0, fa114_1, fa114_2, fa124_0, fa124_1, len134]
    refine hN (L2, m2) _ _ ⟨qMO, hok2, fun hm r hr' => ?_, H⟩ ?_
    · dsimp only at hm ⊢
      obtain ⟨e, hall⟩ := hno hm
      subst e
      obtain ⟨z, hz, rfl⟩ := List.getElem_of_mem hr'
      have := hall z (by omega)
      rwa [rul_eq hz] at this
    · cases m2
      · simp
      · have h1 := hyes rfl
        simp
        omega
  simp only [show ((i : Int) < (gm.rules.length : Int)) from by omega, decide_true, zq18, zq19, zq20, zq21, zq22, zq23, zq24, zq25, zq26, zq27, zq28, zq4, zq3, zq1, zq2, zq0, zq29, zq30, zq14, zq15, zq16, zq17, zq13, zq10, zq12, zq11, zq7, zq5, zq6, zq9, zq8, zq31, zq32, ite_T, ite_F, zq33, zq34, zq35, Nat.reduceEqDiff, len22, len24, fa26_0, fa26_1, fa26_2, len27, fa33_0, fa33_1, len35, fa114_0, fa114_1, fa114_2, fa124_0, fa124_1, len134]
  have hrm : rul gm.rules i ∈ gm.rules := by rw [rul_eq hlt]; exact List.getElem_mem hlt
  obtain ⟨hb1, hb2, hb3⟩ := hr1 _ hrm
  have hlen2 := hok2.len
  have hL2 : restL L2 ≤ restL L := by
    cases m2
    · rw [(hno rfl).1]
      exact Nat.le_refl _
    · exact Nat.le_of_lt (hyes rfl)
  refine join_as (fun f w' => f 31 = .int .i64 (i : Int) ∧ ∃ (L2 : List Int) (m2 : Bool), f 6 = .bool m2 ∧ OkL gm.rules m L2 ∧
      (m2 = false → L2 = L ∧ ∀ z, z < i + 1 → doneL L (rul gm.rules z)) ∧ (m2 = true → restL L2 < restL L) ∧ Apt w w' [bx b1 [.int .i64 gm.nons, .int .i64 gm.toks, .slice Y gm.rules.length cy] 26, ows (some ⟨b2, 0, none⟩) m L2]) (fun K hK => ?_) ?_
  case refine_2 =>
    rintro f w' ⟨f31, h⟩
    simp only [f31, zq18, zq19, zq20, zq21, zq22, zq23, zq24, zq25, zq26, zq27, zq28, zq4, zq3, zq1, zq2, zq0, zq29, zq30, zq14, zq15, zq16, zq17, zq13, zq10, zq12, zq11, zq7, zq5, zq6, zq9, zq8, zq31, zq32, ite_T, ite_F, zq33, zq34, zq35, Nat.reduceEqDiff, len22, len24, fa26_0, fa26_1, fa26_2, len27, fa33_0, fa33_1, len35, fa114_0, fa114_1, fa114_2, fa124_0, fa124_1, len134]
    rw [i64_of (by omega) (by omega)]
    exact hN2 _ _ hlt ⟨by omega, rfl, h⟩
  obtain ⟨a, ha⟩ : ∃ a : Nat, (rul gm.rules i).1 = (a : Int) := ⟨(rul gm.rules i).1.toNat, by omega⟩
  have ha' : (rul gm.rules i).1.toNat = a := by omega
  have hal : a < L2.length := by omega
  refine rdi (ixn24 hRF.ptr hlt) ?_
  refine ld_rule0 agg33 sz33 hG.2 H.gr hlt fun Z cz hcz hZ => ?_
  refine allocH H inf33 fun b9 w8 H => ?_
  refine storeH H 2 rfl sz33 rfl rfl rfl fun w9 H => ?_
  have H : Apt w w9 [bx b1 [.int .i64 gm.nons, .int .i64 gm.toks, .slice Y gm.rules.length cy] 26, ows (some ⟨b2, 0, none⟩) m L2, bx b9 [.int .i64 (a : Int), .slice Z (rul gm.rules i).2.length cz] 33] := by rw [← ha]; exact H
  simp only [zq18, zq19, zq20, zq21, zq22, zq23, zq24, zq25, zq26, zq27, zq28, zq4, zq3, zq1, zq2, zq0, zq29, zq30, zq14, zq15, zq16, zq17, zq13, zq10, zq12, zq11, zq7, zq5, zq6, zq9, zq8, zq31, zq32, ite_T, ite_F, zq33, zq34, zq35, Nat.reduceEqDiff, len22, len24, fa26_0, fa26_1, fa26_2, len27, fa33_0, fa33_1, len35, fa114_0, fa114_1, fa114_2, fa124_0, fa124_1, len134]
  rw [ldB27 (H.box 2 rfl) rfl]
  simp only [zq18, zq19, zq20, zq21, zq22, zq23, zq24, zq25, zq26, zq27, zq28, zq4, zq3, zq1, zq2, zq0, zq29, zq30, zq14, zq15, zq16, zq17, zq13, zq10, zq12, zq11, zq7, zq5, zq6, zq9, zq8, zq31, zq32, ite_T, ite_F, zq33, zq34, zq35, Nat.reduceEqDiff, len22, len24, fa26_0, fa26_1, fa26_2, len27, fa33_0, fa33_1, len35, fa114_0, fa114_1, fa114_2, fa124_0, fa124_1, len134]
  refine loop_to (rul gm.rules i).2.length 0 (fun j f w' => j ≤ (rul gm.rules i).2.length ∧ f 38 = .int .i64 (j : Int) ∧ f 9 = .int .i64 (seqLL L2 ((rul gm.rules i).2.take j)) ∧ Apt w w' [bx b1 [.int .i64 gm.nons, .int .i64 gm.toks, .slice Y gm.rules.length cy] 26, ows (some ⟨b2, 0, none⟩) m L2, bx b9 [.int .i64 (a : Int), .slice Z (rul gm.rules i).2.length cz] 33])
    ⟨Nat.zero_le _, rfl, rfl, H⟩ ?_
  clear H
  rintro j r w10 N3 hag3 ⟨hj, rJI, rN, H⟩ hN3
  have rAR : r 4 = .slice (some ⟨b2, 0, none⟩) m m := (hag3 4 (by decide)).trans qAR
  have rMO : r 6 = .bool m2 := (hag3 6 (by decide)).trans qMO
  have rRU : r 8 = ptrv b9 := hag3 8 (by decide)
  have rRI : r 31 = .int .i64 (i : Int) := (hag3 31 (by decide)).trans qRI
  have rJS : r 36 = .slice Z (rul gm.rules i).2.length cz := hag3 36 (by decide)
  have rJL : r 37 = .int .i64 ((rul gm.rules i).2.length : Int) := hag3 37 (by decide)
  simp only [rAR, rRU, rJS, rJL, rJI, rN, zq18, zq19, zq20, zq21, zq22, zq23, zq24, zq25, zq26, zq27, zq28, zq4, zq3, zq1, zq2, zq0, zq29, zq30, zq14, zq15, zq16, zq17, zq13, zq10, zq12, zq11, zq7, zq5, zq6, zq9, zq8, zq31, zq32, ite_T, ite_F, zq33, zq34, zq35, Nat.reduceEqDiff, len22, len24, fa26_0, fa26_1, fa26_2, len27, fa33_0, fa33_1, len35, fa114_0, fa114_1, fa114_2, fa124_0, fa124_1, len134]
  have hZ' := hZ.gr H.gr
  have hnum := seqLL_num hok2.bd (by omega) (xs := (rul gm.rules i).2.take j) (by simp; omega)
  by_cases hlt2 : j < (rul gm.rules i).2.length
  case pos =>
    simp only [show ((j : Int) < ((rul gm.rules i).2.length : Int)) from by omega, decide_true, zq18, zq19, zq20, zq21, zq22, zq23, zq24, zq25, zq26, zq27, zq28, zq4, zq3, zq1, zq2, zq0, zq29, zq30, zq14, zq15, zq16, zq17, zq13, zq10, zq12, zq11, zq7, zq5, zq6, zq9, zq8, zq31, zq32, ite_T, ite_F, zq33, zq34, zq35, Nat.reduceEqDiff, len22, len24, fa26_0, fa26_1, fa26_2, len27, fa33_0, fa33_1, len35, fa114_0, fa114_1, fa114_2, fa124_0, fa124_1, len134]
    have hst := seqLL_take (L := L2) hlt2
    refine join_as (fun f w' => f 38 = .int .i64 (j : Int) ∧ f 9 = .int .i64 (seqLL L2 ((rul gm.rules i).2.take (j + 1))) ∧ Apt w w' [bx b1 [.int .i64 gm.nons, .int .i64 gm.toks, .slice Y gm.rules.length cy] 26, ows (some ⟨b2, 0, none⟩) m L2, bx b9 [.int .i64 (a : Int), .slice Z (rul gm.rules i).2.length cz] 33]) (fun K3 hK3 => ?_) ?_
    case refine_2 =>
      rintro f w' ⟨e1, e2, h⟩
      simp only [e1, zq18, zq19, zq20, zq21, zq22, zq23, zq24, zq25, zq26, zq27, zq28, zq4, zq3, zq1, zq2, zq0, zq29, zq30, zq14, zq15, zq16, zq17, zq13, zq10, zq12, zq11, zq7, zq5, zq6, zq9, zq8, zq31, zq32, ite_T, ite_F, zq33, zq34, zq35, Nat.reduceEqDiff, len22, len24, fa26_0, fa26_1, fa26_2, len27, fa33_0, fa33_1, len35, fa114_0, fa114_1, fa114_2, fa124_0, fa124_1, len134]
      rw [i64_of (by omega) (by omega)]
      exact hN3 _ _ hlt2 ⟨by omega, rfl, e2, h⟩
    refine rdi (ixn27 hZ'.ptr hlt2) (rdi (ld3 (hZ'.cell j hlt2)) ?_)
    have hxb := hb3 _ (getD_mem hlt2)
    have hnum2 := seqLL_num hok2.bd (by omega) (xs := (rul gm.rules i).2.take (j + 1)) (by simp; omega)
    rw [hst] at hnum2
    rw [hst] at hK3
    generalize (rul gm.rules i).2.getD j 0 = x at *
    generalize seqLL L2 ((rul gm.rules i).2.take j) = n at *
    simp only [rN, zq18, zq19, zq20, zq21, zq22, zq23, zq24, zq25, zq26, zq27, zq28, zq4, zq3, zq1, zq2, zq0, zq29, zq30, zq14, zq15, zq16, zq17, zq13, zq10, zq12, zq11, zq7, zq5, zq6, zq9, zq8, zq31, zq32, ite_T, ite_F, zq33, zq34, zq35, Nat.reduceEqDiff, len22, len24, fa26_0, fa26_1, fa26_2, len27, fa33_0, fa33_1, len35, fa114_0, fa114_1, fa114_2, fa124_0, fa124_1, len134]
    by_cases h0 : n < 0
    · simp only [h0, decide_true, zq18, zq19, zq20, zq21, zq22, zq23, zq24, zq25, zq26, zq27, zq28, zq4, zq3, zq1, zq2, zq0, zq29, zq30, zq14, zq15, zq16, zq17, zq13, zq10, zq12, zq11, zq7, zq5, zq6, zq9, zq8, zq31, zq32, ite_T, ite_F, zq33, zq34, zq35, Nat.reduceEqDiff, len22, len24, fa26_0, fa26_1, fa26_2, len27, fa33_0, fa33_1, len35, fa114_0, fa114_1, fa114_2, fa124_0, fa124_1, len134]
      exact hK3 _ _ ⟨rJI, by rw [show stepLL L2 n x = n from if_pos h0]; exact rN, H⟩
    simp only [h0, decide_false, zq18, zq19, zq20, zq21, zq22, zq23, zq24, zq25, zq26, zq27, zq28, zq4, zq3, zq1, zq2, zq0, zq29, zq30, zq14, zq15, zq16, zq17, zq13, zq10, zq12, zq11, zq7, zq5, zq6, zq9, zq8, zq31, zq32, ite_T, ite_F, zq33, zq34, zq35, Nat.reduceEqDiff, len22, len24, fa26_0, fa26_1, fa26_2, len27, fa33_0, fa33_1, len35, fa114_0, fa114_1, fa114_2, fa124_0, fa124_1, len134]
    by_cases hx : x < 0
    · simp only [hx, decide_true, rN, zq18, zq19, zq20, zq21, zq22, zq23, zq24, zq25, zq26, zq27, zq28, zq4, zq3, zq1, zq2, zq0, zq29, zq30, zq14, zq15, zq16, zq17, zq13, zq10, zq12, zq11, zq7, zq5, zq6, zq9, zq8, zq31, zq32, ite_T, ite_F, zq33, zq34, zq35, Nat.reduceEqDiff, len22, len24, fa26_0, fa26_1, fa26_2, len27, fa33_0, fa33_1, len35, fa114_0, fa114_1, fa114_2, fa124_0, fa124_1, len134]
      rw [i64_of (by omega) (by omega)]
      exact hK3 _ _ ⟨rJI, by rw [show stepLL L2 n x = n + 1 from by unfold stepLL; rw [if_neg h0, if_pos hx]]; rfl, H⟩
    simp only [hx, decide_false, rAR, zq18, zq19, zq20, zq21, zq22, zq23, zq24, zq25, zq26, zq27, zq28, zq4, zq3, zq1, zq2, zq0, zq29, zq30, zq14, zq15, zq16, zq17, zq13, zq10, zq12, zq11, zq7, zq5, zq6, zq9, zq8, zq31, zq32, ite_T, ite_F, zq33, zq34, zq35, Nat.reduceEqDiff, len22, len24, fa26_0, fa26_1, fa26_2, len27, fa33_0, fa33_1, len35, fa114_0, fa114_1, fa114_2, fa124_0, fa124_1, len134]
    obtain ⟨y, rfl⟩ : ∃ y : Nat, x = (y : Int) := ⟨x.toNat, by omega⟩
    have hyl : y < L2.length := by omega
    have hst2 : stepLL L2 n (y : Int) = if lat L2 y < 0 then -1 else n + lat L2 y := by unfold stepLL; rw [if_neg h0, if_neg hx, Int.toNat_natCast]
    rw [hst2] at hK3 hnum2
    refine rdi (ixn27 (X := some ⟨b2, 0, none⟩) (fun _ => rfl) (by omega)) ?_
    refine rdi (ld3 ((H.ints 1 rfl).cell _ hyl)) ?_
    rw [lat_getD hyl]
    simp only [zq18, zq19, zq20, zq21, zq22, zq23, zq24, zq25, zq26, zq27, zq28, zq4, zq3, zq1, zq2, zq0, zq29, zq30, zq14, zq15, zq16, zq17, zq13, zq10, zq12, zq11, zq7, zq5, zq6, zq9, zq8, zq31, zq32, ite_T, ite_F, zq33, zq34, zq35, Nat.reduceEqDiff, len22, len24, fa26_0, fa26_1, fa26_2, len27, fa33_0, fa33_1, len35, fa114_0, fa114_1, fa114_2, fa124_0, fa124_1, len134]
    by_cases hl : lat L2 y < 0
    · simp only [hl, decide_true, zq18, zq19, zq20, zq21, zq22, zq23, zq24, zq25, zq26, zq27, zq28, zq4, zq3, zq1, zq2, zq0, zq29, zq30, zq14, zq15, zq16, zq17, zq13, zq10, zq12, zq11, zq7, zq5, zq6, zq9, zq8, zq31, zq32, ite_T, ite_F, zq33, zq34, zq35, Nat.reduceEqDiff, len22, len24, fa26_0, fa26_1, fa26_2, len27, fa33_0, fa33_1, len35, fa114_0, fa114_1, fa114_2, fa124_0, fa124_1, len134]
      exact hK3 _ _ ⟨rJI, by rw [if_pos hl]; rfl, H⟩
    simp only [hl, decide_false, rAR, rN, zq18, zq19, zq20, zq21, zq22, zq23, zq24, zq25, zq26, zq27, zq28, zq4, zq3, zq1, zq2, zq0, zq29, zq30, zq14, zq15, zq16, zq17, zq13, zq10, zq12, zq11, zq7, zq5, zq6, zq9, zq8, zq31, zq32, ite_T, ite_F, zq33, zq34, zq35, Nat.reduceEqDiff, len22, len24, fa26_0, fa26_1, fa26_2, len27, fa33_0, fa33_1, len35, fa114_0, fa114_1, fa114_2, fa124_0, fa124_1, len134]
    refine rdi (ixn27 (X := some ⟨b2, 0, none⟩) (fun _ => rfl) (by omega)) ?_
    refine rdi (ld3 ((H.ints 1 rfl).cell _ hyl)) ?_
    rw [lat_getD hyl]
    simp only [zq18, zq19, zq20, zq21, zq22, zq23, zq24, zq25, zq26, zq27, zq28, zq4, zq3, zq1, zq2, zq0, zq29, zq30, zq14, zq15, zq16, zq17, zq13, zq10, zq12, zq11, zq7, zq5, zq6, zq9, zq8, zq31, zq32, ite_T, ite_F, zq33, zq34, zq35, Nat.reduceEqDiff, len22, len24, fa26_0, fa26_1, fa26_2, len27, fa33_0, fa33_1, len35, fa114_0, fa114_1, fa114_2, fa124_0, fa124_1, len134]
    rw [if_neg hl] at hK3 hnum2
    rw [i64_of (by omega) (by omega)]
    exact hK3 _ _ ⟨rJI, rfl, H⟩
  simp only [show ¬ ((j : Int) < ((rul gm.rules i).2.length : Int)) from by omega, decide_false, rAR, rRU, rN, zq18, zq19, zq20, zq21, zq22, zq23, zq24, zq25, zq26, zq27, zq28, zq4, zq3, zq1, zq2, zq0, zq29, zq30, zq14, zq15, zq16, zq17, zq13, zq10, zq12, zq11, zq7, zq5, zq6, zq9, zq8, zq31, zq32, ite_T, ite_F, zq33, zq34, zq35, Nat.reduceEqDiff, len22, len24, fa26_0, fa26_1, fa26_2, len27, fa33_0, fa33_1, len35, fa114_0, fa114_1, fa114_2, fa124_0, fa124_1, len134]
  rw [List.take_of_length_le (by omega)] at rN hnum ⊢
  have skip : doneL L2 (rul gm.rules i) → ∀ (f' : F), f' 31 = .int .i64 (i : Int) → f' 6 = .bool m2 → K f' w10 := fun hd f' e1 e2 => by
    have H := H.erase 2
    simp only [List.eraseIdx_cons_zero, List.eraseIdx_cons_succ] at H
    refine hK _ _ ⟨e1, L2, m2, e2, hok2, fun hm => ?_, hyes, H⟩
    obtain ⟨e, hall⟩ := hno hm
    subst e
    refine ⟨rfl, fun z hz => ?_⟩
    by_cases ez : z = i
    · subst ez
      exact hd
    · exact hall z (by omega)
  by_cases hs0 : 0 ≤ seqLL L2 (rul gm.rules i).2
  case neg =>
    simp only [hs0, decide_false, zq18, zq19, zq20, zq21, zq22, zq23, zq24, zq25, zq26, zq27, zq28, zq4, zq3, zq1, zq2, zq0, zq29, zq30, zq14, zq15, zq16, zq17, zq13, zq10, zq12, zq11, zq7, zq5, zq6, zq9, zq8, zq31, zq32, ite_T, ite_F, zq33, zq34, zq35, Nat.reduceEqDiff, len22, len24, fa26_0, fa26_1, fa26_2, len27, fa33_0, fa33_1, len35, fa114_0, fa114_1, fa114_2, fa124_0, fa124_1, len134]
    exact skip (fun h => hs0 h.1) _ rRI rMO
  have fire : (lat L2 a < 0 ∨ seqLL L2 (rul gm.rules i).2 < lat L2 a) → ∀ w', Apt w w' [bx b1 [.int .i64 gm.nons, .int .i64 gm.toks, .slice Y gm.rules.length cy] 26, ows (some ⟨b2, 0, none⟩) m (L2.set a (seqLL L2 (rul gm.rules i).2)), bx b9 [.int .i64 (a : Int), .slice Z (rul gm.rules i).2.length cz] 33] → ∀ (f' : F), f' 31 = .int .i64 (i : Int) → f' 6 = .bool true → K f' w' := fun hor w' H f' e1 e2 => by
    have H := H.erase 2
    simp only [List.eraseIdx_cons_zero, List.eraseIdx_cons_succ] at H
    have hset := okL_set hok2 hm6 hrm hb1 hb2 hs0 (by rw [ha']; exact hor)
    rw [ha'] at hset
    exact hK _ _ ⟨e1, _, true, e2, hset.1, (fun h => by cases h), (fun _ => by omega), H⟩
  simp only [hs0, decide_true, zq18, zq19, zq20, zq21, zq22, zq23, zq24, zq25, zq26, zq27, zq28, zq4, zq3, zq1, zq2, zq0, zq29, zq30, zq14, zq15, zq16, zq17, zq13, zq10, zq12, zq11, zq7, zq5, zq6, zq9, zq8, zq31, zq32, ite_T, ite_F, zq33, zq34, zq35, Nat.reduceEqDiff, len22, len24, fa26_0, fa26_1, fa26_2, len27, fa33_0, fa33_1, len35, fa114_0, fa114_1, fa114_2, fa124_0, fa124_1, len134]
  rw [ldB3 (H.box 2 rfl) rfl]
  refine rdi (ixn27 (X := some ⟨b2, 0, none⟩) (fun _ => rfl) (by omega)) ?_
  refine rdi (ld3 ((H.ints 1 rfl).cell _ hal)) ?_
  rw [lat_getD hal]
  simp only [zq18, zq19, zq20, zq21, zq22, zq23, zq24, zq25, zq26, zq27, zq28, zq4, zq3, zq1, zq2, zq0, zq29, zq30, zq14, zq15, zq16, zq17, zq13, zq10, zq12, zq11, zq7, zq5, zq6, zq9, zq8, zq31, zq32, ite_T, ite_F, zq33, zq34, zq35, Nat.reduceEqDiff, len22, len24, fa26_0, fa26_1, fa26_2, len27, fa33_0, fa33_1, len35, fa114_0, fa114_1, fa114_2, fa124_0, fa124_1, len134]
  by_cases hneg : lat L2 a < 0
  · simp only [hneg, decide_true, rAR, rRU, rN, zq18, zq19, zq20, zq21, zq22, zq23, zq24, zq25, zq26, zq27, zq28, zq4, zq3, zq1, zq2, zq0, zq29, zq30, zq14, zq15, zq16, zq17, zq13, zq10, zq12, zq11, zq7, zq5, zq6, zq9, zq8, zq31, zq32, ite_T, ite_F, zq33, zq34, zq35, Nat.reduceEqDiff, len22, len24, fa26_0, fa26_1, fa26_2, len27, fa33_0, fa33_1, len35, fa114_0, fa114_1, fa114_2, fa124_0, fa124_1, len134]
    rw [ldB3 (H.box 2 rfl) rfl]
    refine rdi (ixn27 (X := some ⟨b2, 0, none⟩) (fun _ => rfl) (by omega)) ?_
    refine putH' H 1 rfl hal fun w9 H => ?_
    simp only [List.set_cons_zero, List.set_cons_succ] at H
    exact fire (.inl hneg) _ H _ rRI rfl
  simp only [hneg, decide_false, rAR, rRU, rN, zq18, zq19, zq20, zq21, zq22, zq23, zq24, zq25, zq26, zq27, zq28, zq4, zq3, zq1, zq2, zq0, zq29, zq30, zq14, zq15, zq16, zq17, zq13, zq10, zq12, zq11, zq7, zq5, zq6, zq9, zq8, zq31, zq32, ite_T, ite_F, zq33, zq34, zq35, Nat.reduceEqDiff, len22, len24, fa26_0, fa26_1, fa26_2, len27, fa33_0, fa33_1, len35, fa114_0, fa114_1, fa114_2, fa124_0, fa124_1, len134]
  rw [ldB3 (H.box 2 rfl) rfl]
  refine rdi (ixn27 (X := some ⟨b2, 0, none⟩) (fun _ => rfl) (by omega)) ?_
  refine rdi (ld3 ((H.ints 1 rfl).cell _ hal)) ?_
  rw [lat_getD hal]
  simp only [zq18, zq19, zq20, zq21, zq22, zq23, zq24, zq25, zq26, zq27, zq28, zq4, zq3, zq1, zq2, zq0, zq29, zq30, zq14, zq15, zq16, zq17, zq13, zq10, zq12, zq11, zq7, zq5, zq6, zq9, zq8, zq31, zq32, ite_T, ite_F, zq33, zq34, zq35, Nat.reduceEqDiff, len22, len24, fa26_0, fa26_1, fa26_2, len27, fa33_0, fa33_1, len35, fa114_0, fa114_1, fa114_2, fa124_0, fa124_1, len134]
  by_cases hlt3 : seqLL L2 (rul gm.rules i).2 < lat L2 a
  · simp only [hlt3, decide_true, rAR, rRU, rN, zq18, zq19, zq20, zq21, zq22, zq23, zq24, zq25, zq26, zq27, zq28, zq4, zq3, zq1, zq2, zq0, zq29, zq30, zq14, zq15, zq16, zq17, zq13, zq10, zq12, zq11, zq7, zq5, zq6, zq9, zq8, zq31, zq32, ite_T, ite_F, zq33, zq34, zq35, Nat.reduceEqDiff, len22, len24, fa26_0, fa26_1, fa26_2, len27, fa33_0, fa33_1, len35, fa114_0, fa114_1, fa114_2, fa124_0, fa124_1, len134]
    rw [ldB3 (H.box 2 rfl) rfl]
    refine rdi (ixn27 (X := some ⟨b2, 0, none⟩) (fun _ => rfl) (by omega)) ?_
    refine putH' H 1 rfl hal fun w9 H => ?_
    simp only [List.set_cons_zero, List.set_cons_succ] at H
    exact fire (.inr hlt3) _ H _ rRI rfl
  simp only [hlt3, decide_false, zq18, zq19, zq20, zq21, zq22, zq23, zq24, zq25, zq26, zq27, zq28, zq4, zq3, zq1, zq2, zq0, zq29, zq30, zq14, zq15, zq16, zq17, zq13, zq10, zq12, zq11, zq7, zq5, zq6, zq9, zq8, zq31, zq32, ite_T, ite_F, zq33, zq34, zq35, Nat.reduceEqDiff, len22, len24, fa26_0, fa26_1, fa26_2, len27, fa33_0, fa33_1, len35, fa114_0, fa114_1, fa114_2, fa124_0, fa124_1, len134]
  exact skip (fun h => by rw [ha'] at h; omega) _ rRI rMO
end
end Go.Proofs.Ytegcjkhebecgbaa
