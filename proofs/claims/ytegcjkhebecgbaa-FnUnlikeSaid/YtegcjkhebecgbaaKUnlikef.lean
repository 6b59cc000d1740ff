/- Texts of this repository put together: ShFA, ShFB, ShFC, ShFD, Sh1x, Cg, ShFE, ShFF, ShFG, ShFH, ShB2, ShI7, ShI4, Bd, ShJ1, ShB3, ShB4, ShI5, ShU7, ShU3, ShI8. -/
import Derived.Test.YtegcjkhebecgbaaKUnlikee
import Derived.Test.YtegcjkhebecgbaaKUnlikea
import Derived.Test.YtegcjkhebecgbaaProg
import Derived.Test.YtegcjkhebecgbaaKUnliked
import Derived.Test.YtegcjkhebecgbaaKUnlikeb

/- Contract: the program's reached. -/
set_option linter.unusedVariables false
set_option linter.unusedSimpArgs false
set_option maxRecDepth 100000
namespace Go.Sh
open Go
/-- What a rule that is reached reaches. -/
def LeadsB (A : List Bool) (r : RuleL) : Prop := atB A r.1.toNat = true → ∀ x ∈ r.2, ¬ x < 0 → atB A x.toNat = true
theorem atB_zero {n : Nat} (hn : atB [true, false, false, false, false, false] n = true) : n = 0 := by
  have hlt := atB_lt hn
  match n, hlt, hn with
  | 0, _, _ => rfl
  | 1, _, h => cases h
  | 2, _, h => cases h
  | 3, _, h => cases h
  | 4, _, h => cases h
  | 5, _, h => cases h
theorem rch_full {rs : List RuleL} {A : List Bool} (h0 : atB A 0 = true) (hc : ∀ r ∈ rs, LeadsB A r) {n : Nat} (h : Rch rs n) : atB A n = true := by
  induction h with
  | zero => exact h0
  | @step B r x h1 h2 _ h4 h5 ih => exact hc r h1 (by rw [h2, Int.toNat_natCast]; exact ih) x h4 h5
end Go.Sh
namespace Go.Proofs.Ytegcjkhebecgbaa
open Go Go.Sh Go.RowKit
section
variable {w : World} {k : Value → World → Prop} {Y : Option Addr} {cy : Nat} {gm : Gram}
set_option maxHeartbeats 12800000 in
theorem reached_c (hG : kG Y cy gm.rules w) (h6 : SixR gm.rules) (hr : ∀ r ∈ gm.rules, r.2.length ≤ 1000) (hk : ∀ w' A, Gr w w' → A.length = 6 → (∀ n, atB A n = true ↔ Rch gm.rules n) → k (arrB A) w') :
    CallK Try.prog 191 [grv gm Y cy] k w := by
  refine enter191 ?_
  unfold S191
  have H := Apt.nil w
  refine boxH H fun b1 w1 H => ?_
  refine allocH H inf163' fun b3 w2 H => ?_
  refine rdi (rd_buildA u163 sz4 inf163' (cells := #[.bool true, .bool false, .bool false, .bool false, .bool false, .bool false]) rfl) ?_
  refine allocH H inf163' fun b5 w3 H => ?_
  refine storeH H 2 rfl sz163 rfl rfl rfl fun w4 H => ?_
  have H : Apt w w4 [bx b1 [.int .i64 gm.nons, .int .i64 gm.toks, .slice Y gm.rules.length cy] 26, bx b3 [.bool false, .bool false, .bool false, .bool false, .bool false, .bool false] 163, bx b5 ([true, false, false, false, false, false].map Value.bool) 163] := H
  refine loop_ghost (σ := List Bool × Bool) (fun s f w' => f 4 = .bool s.2 ∧ s.1.length = 6 ∧ (∀ n, atB s.1 n = true → Rch gm.rules n) ∧ atB s.1 0 = true ∧ (s.2 = false → ∀ r ∈ gm.rules, LeadsB s.1 r) ∧
      Apt w w' [bx b1 [.int .i64 gm.nons, .int .i64 gm.toks, .slice Y gm.rules.length cy] 26, bx b3 [.bool false, .bool false, .bool false, .bool false, .bool false, .bool false] 163, bx b5 (s.1.map Value.bool) 163])
    (fun s => if s.2 = true then 8 - s.1.count true else 0) ([true, false, false, false, false, false], true) ⟨rfl, rfl, (fun n hn => atB_zero hn ▸ .zero), rfl, (fun h => by cases h), H⟩ ?_
  clear H
  rintro ⟨A, more⟩ f w5 N hag ⟨f4, hlen, hs, hz, hcl, H⟩ hN
  dsimp only at f4 hlen hs hz hcl H hN
  have f1 : f 1 = ptrv b1 := hag 1 (by decide)
  have f2 : f 2 = ptrv b3 := hag 2 (by decide)
  have f3 : f 3 = ptrv b5 := hag 3 (by decide)
  simp only [f1, f2, f3, f4, bin_add, bin_sub, bin_mul, bin_eql, bin_neq, bin_lss, bin_leq, bin_gtr, bin_geq, un_not, un_neg, zq4, zq3, zq1, zq2, zq0, cond_true', cond_false', zq14, zq15, zq16, zq17, zq13, zq10, zq12, zq11, zq7, zq5, zq6, zq9, zq8, resK_nil, resK_tmp, ite_T, ite_F, upd_at, add_plain, add_zero', Nat.reduceEqDiff, fa8_0, fa8_1, fa8_2, fa8_3, fa14_0, fa14_1, fa19_0, len22, len24, fa26_0, fa26_1, fa26_2, len27, fa33_0, fa33_1, len35, fa77_0, fa77_1, fa88_0, fa88_1, fa88_2, fa88_3, fa88_4, fa88_5, fa114_0, fa114_1, fa114_2, fa124_0, fa124_1, len134, len136, len154, fa156_0, fa156_1, fa156_2, fa156_3, fa156_4, fa156_5, fa156_6, fa184_0, fa184_1, fa200_0, fa200_1, fa200_2, fa200_3, fa215_0, fa215_1, fa215_2, fa215_3, fa215_4, len218, len271, fa274_0, fa274_1, fa274_2, fa303_0, fa303_1, fa303_2, fa303_3, fa314_0, fa314_1, fa314_2, fa314_3, fa314_4, fa314_5, fa314_6, fa314_7, fa314_8, fa314_9, fa314_10]
  cases more
  · simp only [f2, f3, bin_add, bin_sub, bin_mul, bin_eql, bin_neq, bin_lss, bin_leq, bin_gtr, bin_geq, un_not, un_neg, zq4, zq3, zq1, zq2, zq0, cond_true', cond_false', zq14, zq15, zq16, zq17, zq13, zq10, zq12, zq11, zq7, zq5, zq6, zq9, zq8, resK_nil, resK_tmp, ite_T, ite_F, upd_at, add_plain, add_zero', Nat.reduceEqDiff, fa8_0, fa8_1, fa8_2, fa8_3, fa14_0, fa14_1, fa19_0, len22, len24, fa26_0, fa26_1, fa26_2, len27, fa33_0, fa33_1, len35, fa77_0, fa77_1, fa88_0, fa88_1, fa88_2, fa88_3, fa88_4, fa88_5, fa114_0, fa114_1, fa114_2, fa124_0, fa124_1, len134, len136, len154, fa156_0, fa156_1, fa156_2, fa156_3, fa156_4, fa156_5, fa156_6, fa184_0, fa184_1, fa200_0, fa200_1, fa200_2, fa200_3, fa215_0, fa215_1, fa215_2, fa215_3, fa215_4, len218, len271, fa274_0, fa274_1, fa274_2, fa303_0, fa303_1, fa303_2, fa303_3, fa314_0, fa314_1, fa314_2, fa314_3, fa314_4, fa314_5, fa314_6, fa314_7, fa314_8, fa314_9, fa314_10]
    have hcl := hcl rfl
    clear hN
    obtain ⟨a0, a1, a2, a3, a4, a5, rfl⟩ := six_of hlen
    rw [ldB_agg agg163 sz163 rfl (H.box 2 rfl)]
    refine storeH H 1 rfl sz163 rfl rfl rfl fun w6 H => ?_
    have H : Apt w w6 [bx b1 [.int .i64 gm.nons, .int .i64 gm.toks, .slice Y gm.rules.length cy] 26, bx b3 ([a0, a1, a2, a3, a4, a5].map Value.bool) 163, bx b5 ([a0, a1, a2, a3, a4, a5].map Value.bool) 163] := H
    rw [rd_loadVar, ldB_agg agg163 sz163 rfl (H.box 1 rfl)]
    exact hk w6 _ H.gr rfl fun n => ⟨hs n, rch_full hz hcl⟩
  simp only [bin_add, bin_sub, bin_mul, bin_eql, bin_neq, bin_lss, bin_leq, bin_gtr, bin_geq, un_not, un_neg, zq4, zq3, zq1, zq2, zq0, cond_true', cond_false', zq14, zq15, zq16, zq17, zq13, zq10, zq12, zq11, zq7, zq5, zq6, zq9, zq8, resK_nil, resK_tmp, ite_T, ite_F, upd_at, add_plain, add_zero', Nat.reduceEqDiff, fa8_0, fa8_1, fa8_2, fa8_3, fa14_0, fa14_1, fa19_0, len22, len24, fa26_0, fa26_1, fa26_2, len27, fa33_0, fa33_1, len35, fa77_0, fa77_1, fa88_0, fa88_1, fa88_2, fa88_3, fa88_4, fa88_5, fa114_0, fa114_1, fa114_2, fa124_0, fa124_1, len134, len136, len154, fa156_0, fa156_1, fa156_2, fa156_3, fa156_4, fa156_5, fa156_6, fa184_0, fa184_1, fa200_0, fa200_1, fa200_2, fa200_3, fa215_0, fa215_1, fa215_2, fa215_3, fa215_4, len218, len271, fa274_0, fa274_1, fa274_2, fa303_0, fa303_1, fa303_2, fa303_3, fa314_0, fa314_1, fa314_2, fa314_3, fa314_4, fa314_5, fa314_6, fa314_7, fa314_8, fa314_9, fa314_10]
  rw [ldB24 (H.box 0 rfl) rfl]
  simp only [bin_add, bin_sub, bin_mul, bin_eql, bin_neq, bin_lss, bin_leq, bin_gtr, bin_geq, un_not, un_neg, zq4, zq3, zq1, zq2, zq0, cond_true', cond_false', zq14, zq15, zq16, zq17, zq13, zq10, zq12, zq11, zq7, zq5, zq6, zq9, zq8, resK_nil, resK_tmp, ite_T, ite_F, upd_at, add_plain, add_zero', Nat.reduceEqDiff, fa8_0, fa8_1, fa8_2, fa8_3, fa14_0, fa14_1, fa19_0, len22, len24, fa26_0, fa26_1, fa26_2, len27, fa33_0, fa33_1, len35, fa77_0, fa77_1, fa88_0, fa88_1, fa88_2, fa88_3, fa88_4, fa88_5, fa114_0, fa114_1, fa114_2, fa124_0, fa124_1, len134, len136, len154, fa156_0, fa156_1, fa156_2, fa156_3, fa156_4, fa156_5, fa156_6, fa184_0, fa184_1, fa200_0, fa200_1, fa200_2, fa200_3, fa215_0, fa215_1, fa215_2, fa215_3, fa215_4, len218, len271, fa274_0, fa274_1, fa274_2, fa303_0, fa303_1, fa303_2, fa303_3, fa314_0, fa314_1, fa314_2, fa314_3, fa314_4, fa314_5, fa314_6, fa314_7, fa314_8, fa314_9, fa314_10]
  have hcnt : A.count true ≤ 6 := hlen ▸ List.count_le_length
  refine loop_to gm.rules.length 0 (fun i q w' => i ≤ gm.rules.length ∧ q 14 = .int .i64 (i : Int) ∧ ∃ (A2 : List Bool) (m2 : Bool), q 4 = .bool m2 ∧ A2.length = 6 ∧ (∀ n, atB A2 n = true → Rch gm.rules n) ∧ atB A2 0 = true ∧
      (m2 = false → A2 = A ∧ ∀ z, z < i → LeadsB A (rul gm.rules z)) ∧ (m2 = true → A.count true < A2.count true) ∧
      Apt w w' [bx b1 [.int .i64 gm.nons, .int .i64 gm.toks, .slice Y gm.rules.length cy] 26, bx b3 [.bool false, .bool false, .bool false, .bool false, .bool false, .bool false] 163, bx b5 (A2.map Value.bool) 163])
    ⟨Nat.zero_le _, rfl, A, false, rfl, hlen, hs, hz, (fun _ => ⟨rfl, fun z hz => by omega⟩), (fun h => by cases h), H⟩ ?_
  clear H
  rintro i q w6 N2 hag2 ⟨hi, q14, A2, m2, q4, hlen2, hs2, hz2, hno, hyes, H⟩ hN2
  have q3 : q 3 = ptrv b5 := (hag2 3 (by decide)).trans f3
  have q12 : q 12 = .slice Y gm.rules.length cy := hag2 12 (by decide)
  have q13 : q 13 = .int .i64 gm.rules.length := hag2 13 (by decide)
  have hRF := hG.2.gr H.gr
  have hle := hRF.le
  simp only [q3, q12, q13, q14, bin_add, bin_sub, bin_mul, bin_eql, bin_neq, bin_lss, bin_leq, bin_gtr, bin_geq, un_not, un_neg, zq4, zq3, zq1, zq2, zq0, cond_true', cond_false', zq14, zq15, zq16, zq17, zq13, zq10, zq12, zq11, zq7, zq5, zq6, zq9, zq8, resK_nil, resK_tmp, ite_T, ite_F, upd_at, add_plain, add_zero', Nat.reduceEqDiff, fa8_0, fa8_1, fa8_2, fa8_3, fa14_0, fa14_1, fa19_0, len22, len24, fa26_0, fa26_1, fa26_2, len27, fa33_0, fa33_1, len35, fa77_0, fa77_1, fa88_0, fa88_1, fa88_2, fa88_3, fa88_4, fa88_5, fa114_0, fa114_1, fa114_2, fa124_0, fa124_1, len134, len136, len154, fa156_0, fa156_1, fa156_2, fa156_3, fa156_4, fa156_5, fa156_6, fa184_0, fa184_1, fa200_0, fa200_1, fa200_2, fa200_3, fa215_0, fa215_1, fa215_2, fa215_3, fa215_4, len218, len271, fa274_0, fa274_1, fa274_2, fa303_0, fa303_1, fa303_2, fa303_3, fa314_0, fa314_1, fa314_2, fa314_3, fa314_4, fa314_5, fa314_6, fa314_7, fa314_8, fa314_9, fa314_10]
  by_cases hlt : i < gm.rules.length
  case neg =>
    simp only [show ¬ ((i : Int) < (gm.rules.length : Int)) from by omega, decide_false, bin_add, bin_sub, bin_mul, bin_eql, bin_neq, bin_lss, bin_leq, bin_gtr, bin_geq, un_not, un_neg, zq4, zq3, zq1, zq2, zq0, cond_true', cond_false', zq14, zq15, zq16, zq17, zq13, zq10, zq12, zq11, zq7, zq5, zq6, zq9, zq8, resK_nil, resK_tmp, ite_T, ite_F, upd_at, add_plain, add_zero', Nat.reduceEqDiff, fa8_0, fa8_1, fa8_2, fa8_3, fa14_0, fa14_1, fa19_0, len22, len24, fa26_0, fa26_1, fa26_2, len27, fa33_0, fa33_1, len35, fa77_0, fa77_1, fa88_0, fa88_1, fa88_2, fa88_3, fa88_4, fa88_5, fa114_0, fa114_1, fa114_2, fa124_0, fa124_1, len134, len136, len154, fa156_0, fa156_1, fa156_2, fa156_3, fa156_4, fa156_5, fa156_6, fa184_0, fa184_1, fa200_0, fa200_1, fa200_2, fa200_3, fa215_0, fa215_1, fa215_2, fa215_3, fa215_4, len218, len271, fa274_0, fa274_1, fa274_2, fa303_0, fa303_1, fa303_2, fa303_3, fa314_0, fa314_1, fa314_2, fa314_3, fa314_4, fa314_5, fa314_6, fa314_7, fa314_8, fa314_9, fa314_10]
    refine hN (A2, m2) _ _ ⟨q4, hlen2, hs2, hz2, fun hm r hr' => ?_, H⟩ ?_
    · dsimp only at hm ⊢
      obtain ⟨e, hall⟩ := hno hm
      subst e
      obtain ⟨z, hz, rfl⟩ := List.getElem_of_mem hr'
      have := hall z (by omega)
      rwa [rul_eq hz] at this
    · cases m2
      · simp
        omega
      · have h1 := hyes rfl
        simp
        omega
  simp only [show ((i : Int) < (gm.rules.length : Int)) from by omega, decide_true, bin_add, bin_sub, bin_mul, bin_eql, bin_neq, bin_lss, bin_leq, bin_gtr, bin_geq, un_not, un_neg, zq4, zq3, zq1, zq2, zq0, cond_true', cond_false', zq14, zq15, zq16, zq17, zq13, zq10, zq12, zq11, zq7, zq5, zq6, zq9, zq8, resK_nil, resK_tmp, ite_T, ite_F, upd_at, add_plain, add_zero', Nat.reduceEqDiff, fa8_0, fa8_1, fa8_2, fa8_3, fa14_0, fa14_1, fa19_0, len22, len24, fa26_0, fa26_1, fa26_2, len27, fa33_0, fa33_1, len35, fa77_0, fa77_1, fa88_0, fa88_1, fa88_2, fa88_3, fa88_4, fa88_5, fa114_0, fa114_1, fa114_2, fa124_0, fa124_1, len134, len136, len154, fa156_0, fa156_1, fa156_2, fa156_3, fa156_4, fa156_5, fa156_6, fa184_0, fa184_1, fa200_0, fa200_1, fa200_2, fa200_3, fa215_0, fa215_1, fa215_2, fa215_3, fa215_4, len218, len271, fa274_0, fa274_1, fa274_2, fa303_0, fa303_1, fa303_2, fa303_3, fa314_0, fa314_1, fa314_2, fa314_3, fa314_4, fa314_5, fa314_6, fa314_7, fa314_8, fa314_9, fa314_10]
  have hrm : rul gm.rules i ∈ gm.rules := by rw [rul_eq hlt]; exact List.getElem_mem hlt
  have hl0 := (h6 _ hrm).1
  have hx6 := (h6 _ hrm).2
  have hr2 := hr _ hrm
  refine rdi (ixn24 hRF.ptr hlt) ?_
  refine ld_rule0 agg33 sz33 hG.2 H.gr hlt fun Z cz hcz hZ => ?_
  refine allocH H inf33 fun b9 w7 H => ?_
  refine storeH H 3 rfl sz33 rfl rfl rfl fun w8 H => ?_
  have H : Apt w w8 [bx b1 [.int .i64 gm.nons, .int .i64 gm.toks, .slice Y gm.rules.length cy] 26, bx b3 [.bool false, .bool false, .bool false, .bool false, .bool false, .bool false] 163, bx b5 (A2.map Value.bool) 163, bx b9 [.int .i64 (rul gm.rules i).1, .slice Z (rul gm.rules i).2.length cz] 33] := H
  simp only [bin_add, bin_sub, bin_mul, bin_eql, bin_neq, bin_lss, bin_leq, bin_gtr, bin_geq, un_not, un_neg, zq4, zq3, zq1, zq2, zq0, cond_true', cond_false', zq14, zq15, zq16, zq17, zq13, zq10, zq12, zq11, zq7, zq5, zq6, zq9, zq8, resK_nil, resK_tmp, ite_T, ite_F, upd_at, add_plain, add_zero', Nat.reduceEqDiff, fa8_0, fa8_1, fa8_2, fa8_3, fa14_0, fa14_1, fa19_0, len22, len24, fa26_0, fa26_1, fa26_2, len27, fa33_0, fa33_1, len35, fa77_0, fa77_1, fa88_0, fa88_1, fa88_2, fa88_3, fa88_4, fa88_5, fa114_0, fa114_1, fa114_2, fa124_0, fa124_1, len134, len136, len154, fa156_0, fa156_1, fa156_2, fa156_3, fa156_4, fa156_5, fa156_6, fa184_0, fa184_1, fa200_0, fa200_1, fa200_2, fa200_3, fa215_0, fa215_1, fa215_2, fa215_3, fa215_4, len218, len271, fa274_0, fa274_1, fa274_2, fa303_0, fa303_1, fa303_2, fa303_3, fa314_0, fa314_1, fa314_2, fa314_3, fa314_4, fa314_5, fa314_6, fa314_7, fa314_8, fa314_9, fa314_10]
  rw [ldB27 (H.box 3 rfl) rfl]
  simp only [bin_add, bin_sub, bin_mul, bin_eql, bin_neq, bin_lss, bin_leq, bin_gtr, bin_geq, un_not, un_neg, zq4, zq3, zq1, zq2, zq0, cond_true', cond_false', zq14, zq15, zq16, zq17, zq13, zq10, zq12, zq11, zq7, zq5, zq6, zq9, zq8, resK_nil, resK_tmp, ite_T, ite_F, upd_at, add_plain, add_zero', Nat.reduceEqDiff, fa8_0, fa8_1, fa8_2, fa8_3, fa14_0, fa14_1, fa19_0, len22, len24, fa26_0, fa26_1, fa26_2, len27, fa33_0, fa33_1, len35, fa77_0, fa77_1, fa88_0, fa88_1, fa88_2, fa88_3, fa88_4, fa88_5, fa114_0, fa114_1, fa114_2, fa124_0, fa124_1, len134, len136, len154, fa156_0, fa156_1, fa156_2, fa156_3, fa156_4, fa156_5, fa156_6, fa184_0, fa184_1, fa200_0, fa200_1, fa200_2, fa200_3, fa215_0, fa215_1, fa215_2, fa215_3, fa215_4, len218, len271, fa274_0, fa274_1, fa274_2, fa303_0, fa303_1, fa303_2, fa303_3, fa314_0, fa314_1, fa314_2, fa314_3, fa314_4, fa314_5, fa314_6, fa314_7, fa314_8, fa314_9, fa314_10]
  refine loop_to (rul gm.rules i).2.length 0 (fun j f w' => j ≤ (rul gm.rules i).2.length ∧ f 21 = .int .i64 (j : Int) ∧ ∃ (A3 : List Bool) (m3 : Bool), f 4 = .bool m3 ∧ A3.length = 6 ∧ (∀ n, atB A3 n = true → Rch gm.rules n) ∧ atB A3 0 = true ∧
      (m3 = false → A3 = A ∧ (∀ z, z < i → LeadsB A (rul gm.rules z)) ∧ (atB A (rul gm.rules i).1.toNat = true → ∀ x ∈ (rul gm.rules i).2.take j, ¬ x < 0 → atB A x.toNat = true)) ∧ (m3 = true → A.count true < A3.count true) ∧
      Apt w w' [bx b1 [.int .i64 gm.nons, .int .i64 gm.toks, .slice Y gm.rules.length cy] 26, bx b3 [.bool false, .bool false, .bool false, .bool false, .bool false, .bool false] 163, bx b5 (A3.map Value.bool) 163, bx b9 [.int .i64 (rul gm.rules i).1, .slice Z (rul gm.rules i).2.length cz] 33])
    ⟨Nat.zero_le _, rfl, A2, m2, q4, hlen2, hs2, hz2, fun h => ⟨(hno h).1, (hno h).2, fun _ x hx => by simp at hx⟩, hyes, H⟩ ?_
  clear H hno hyes hs2 hlen2 hz2 q4
  rintro j r w9 N3 hag3 ⟨hj, r21, A3, m3, r4, hlen3, hs3, hz3, hno3, hyes3, H⟩ hN3
  have r3 : r 3 = ptrv b5 := (hag3 3 (by decide)).trans q3
  have r6 : r 6 = ptrv b9 := hag3 6 (by decide)
  have r14 : r 14 = .int .i64 (i : Int) := (hag3 14 (by decide)).trans q14
  have r19 : r 19 = .slice Z (rul gm.rules i).2.length cz := hag3 19 (by decide)
  have r20 : r 20 = .int .i64 ((rul gm.rules i).2.length : Int) := hag3 20 (by decide)
  simp only [r3, r6, r19, r20, r21, bin_add, bin_sub, bin_mul, bin_eql, bin_neq, bin_lss, bin_leq, bin_gtr, bin_geq, un_not, un_neg, zq4, zq3, zq1, zq2, zq0, cond_true', cond_false', zq14, zq15, zq16, zq17, zq13, zq10, zq12, zq11, zq7, zq5, zq6, zq9, zq8, resK_nil, resK_tmp, ite_T, ite_F, upd_at, add_plain, add_zero', Nat.reduceEqDiff, fa8_0, fa8_1, fa8_2, fa8_3, fa14_0, fa14_1, fa19_0, len22, len24, fa26_0, fa26_1, fa26_2, len27, fa33_0, fa33_1, len35, fa77_0, fa77_1, fa88_0, fa88_1, fa88_2, fa88_3, fa88_4, fa88_5, fa114_0, fa114_1, fa114_2, fa124_0, fa124_1, len134, len136, len154, fa156_0, fa156_1, fa156_2, fa156_3, fa156_4, fa156_5, fa156_6, fa184_0, fa184_1, fa200_0, fa200_1, fa200_2, fa200_3, fa215_0, fa215_1, fa215_2, fa215_3, fa215_4, len218, len271, fa274_0, fa274_1, fa274_2, fa303_0, fa303_1, fa303_2, fa303_3, fa314_0, fa314_1, fa314_2, fa314_3, fa314_4, fa314_5, fa314_6, fa314_7, fa314_8, fa314_9, fa314_10]
  by_cases hlt2 : j < (rul gm.rules i).2.length
  case neg =>
    simp only [show ¬ ((j : Int) < ((rul gm.rules i).2.length : Int)) from by omega, decide_false, r14, bin_add, bin_sub, bin_mul, bin_eql, bin_neq, bin_lss, bin_leq, bin_gtr, bin_geq, un_not, un_neg, zq4, zq3, zq1, zq2, zq0, cond_true', cond_false', zq14, zq15, zq16, zq17, zq13, zq10, zq12, zq11, zq7, zq5, zq6, zq9, zq8, resK_nil, resK_tmp, ite_T, ite_F, upd_at, add_plain, add_zero', Nat.reduceEqDiff, fa8_0, fa8_1, fa8_2, fa8_3, fa14_0, fa14_1, fa19_0, len22, len24, fa26_0, fa26_1, fa26_2, len27, fa33_0, fa33_1, len35, fa77_0, fa77_1, fa88_0, fa88_1, fa88_2, fa88_3, fa88_4, fa88_5, fa114_0, fa114_1, fa114_2, fa124_0, fa124_1, len134, len136, len154, fa156_0, fa156_1, fa156_2, fa156_3, fa156_4, fa156_5, fa156_6, fa184_0, fa184_1, fa200_0, fa200_1, fa200_2, fa200_3, fa215_0, fa215_1, fa215_2, fa215_3, fa215_4, len218, len271, fa274_0, fa274_1, fa274_2, fa303_0, fa303_1, fa303_2, fa303_3, fa314_0, fa314_1, fa314_2, fa314_3, fa314_4, fa314_5, fa314_6, fa314_7, fa314_8, fa314_9, fa314_10]
    rw [i64_of (by omega) (by omega)]
    rw [List.take_of_length_le (by omega)] at hno3
    have H := H.erase 3
    simp only [List.eraseIdx_cons_zero, List.eraseIdx_cons_succ] at H
    refine hN2 _ _ hlt ⟨by omega, rfl, A3, m3, r4, hlen3, hs3, hz3, fun hm => ⟨(hno3 hm).1, fun z hz' => ?_⟩, hyes3, H⟩
    rcases Nat.lt_succ_iff_lt_or_eq.1 hz' with hz' | rfl
    · exact (hno3 hm).2.1 z hz'
    · exact (hno3 hm).2.2
  simp only [show ((j : Int) < ((rul gm.rules i).2.length : Int)) from by omega, decide_true, bin_add, bin_sub, bin_mul, bin_eql, bin_neq, bin_lss, bin_leq, bin_gtr, bin_geq, un_not, un_neg, zq4, zq3, zq1, zq2, zq0, cond_true', cond_false', zq14, zq15, zq16, zq17, zq13, zq10, zq12, zq11, zq7, zq5, zq6, zq9, zq8, resK_nil, resK_tmp, ite_T, ite_F, upd_at, add_plain, add_zero', Nat.reduceEqDiff, fa8_0, fa8_1, fa8_2, fa8_3, fa14_0, fa14_1, fa19_0, len22, len24, fa26_0, fa26_1, fa26_2, len27, fa33_0, fa33_1, len35, fa77_0, fa77_1, fa88_0, fa88_1, fa88_2, fa88_3, fa88_4, fa88_5, fa114_0, fa114_1, fa114_2, fa124_0, fa124_1, len134, len136, len154, fa156_0, fa156_1, fa156_2, fa156_3, fa156_4, fa156_5, fa156_6, fa184_0, fa184_1, fa200_0, fa200_1, fa200_2, fa200_3, fa215_0, fa215_1, fa215_2, fa215_3, fa215_4, len218, len271, fa274_0, fa274_1, fa274_2, fa303_0, fa303_1, fa303_2, fa303_3, fa314_0, fa314_1, fa314_2, fa314_3, fa314_4, fa314_5, fa314_6, fa314_7, fa314_8, fa314_9, fa314_10]
  refine join_as (fun f w' => f 21 = .int .i64 (j : Int) ∧ ∃ (A3 : List Bool) (m3 : Bool), f 4 = .bool m3 ∧ A3.length = 6 ∧ (∀ n, atB A3 n = true → Rch gm.rules n) ∧ atB A3 0 = true ∧
      (m3 = false → A3 = A ∧ (∀ z, z < i → LeadsB A (rul gm.rules z)) ∧ (atB A (rul gm.rules i).1.toNat = true → ∀ x ∈ (rul gm.rules i).2.take (j + 1), ¬ x < 0 → atB A x.toNat = true)) ∧ (m3 = true → A.count true < A3.count true) ∧
      Apt w w' [bx b1 [.int .i64 gm.nons, .int .i64 gm.toks, .slice Y gm.rules.length cy] 26, bx b3 [.bool false, .bool false, .bool false, .bool false, .bool false, .bool false] 163, bx b5 (A3.map Value.bool) 163, bx b9 [.int .i64 (rul gm.rules i).1, .slice Z (rul gm.rules i).2.length cz] 33]) (fun K hK => ?_) ?_
  case refine_2 =>
    rintro f w' ⟨f21, h⟩
    simp only [f21, bin_add, bin_sub, bin_mul, bin_eql, bin_neq, bin_lss, bin_leq, bin_gtr, bin_geq, un_not, un_neg, zq4, zq3, zq1, zq2, zq0, cond_true', cond_false', zq14, zq15, zq16, zq17, zq13, zq10, zq12, zq11, zq7, zq5, zq6, zq9, zq8, resK_nil, resK_tmp, ite_T, ite_F, upd_at, add_plain, add_zero', Nat.reduceEqDiff, fa8_0, fa8_1, fa8_2, fa8_3, fa14_0, fa14_1, fa19_0, len22, len24, fa26_0, fa26_1, fa26_2, len27, fa33_0, fa33_1, len35, fa77_0, fa77_1, fa88_0, fa88_1, fa88_2, fa88_3, fa88_4, fa88_5, fa114_0, fa114_1, fa114_2, fa124_0, fa124_1, len134, len136, len154, fa156_0, fa156_1, fa156_2, fa156_3, fa156_4, fa156_5, fa156_6, fa184_0, fa184_1, fa200_0, fa200_1, fa200_2, fa200_3, fa215_0, fa215_1, fa215_2, fa215_3, fa215_4, len218, len271, fa274_0, fa274_1, fa274_2, fa303_0, fa303_1, fa303_2, fa303_3, fa314_0, fa314_1, fa314_2, fa314_3, fa314_4, fa314_5, fa314_6, fa314_7, fa314_8, fa314_9, fa314_10]
    rw [i64_of (by omega) (by omega)]
    exact hN3 _ _ hlt2 ⟨by omega, rfl, h⟩
  have hZ' := hZ.gr H.gr
  refine rdi (ixn27 hZ'.ptr hlt2) (rdi (ld3 (hZ'.cell j hlt2)) ?_)
  have htk := take_snoc hlt2
  have hmem : (rul gm.rules i).2.getD j 0 ∈ (rul gm.rules i).2 := getD_mem hlt2
  generalize (rul gm.rules i).2.getD j 0 = x at *
  have hx6 := hx6 x hmem
  have skip : ∀ (w' : World) (f' : F), f' 21 = .int .i64 (j : Int) → f' 4 = .bool m3 → (atB A3 (rul gm.rules i).1.toNat = true → ¬ x < 0 → atB A3 x.toNat = true) → Apt w w' [bx b1 [.int .i64 gm.nons, .int .i64 gm.toks, .slice Y gm.rules.length cy] 26, bx b3 [.bool false, .bool false, .bool false, .bool false, .bool false, .bool false] 163, bx b5 (A3.map Value.bool) 163, bx b9 [.int .i64 (rul gm.rules i).1, .slice Z (rul gm.rules i).2.length cz] 33] → K f' w' := fun w' f' e1 e2 hsk H => by
    refine hK f' w' ⟨e1, A3, m3, e2, hlen3, hs3, hz3, fun hm => ?_, hyes3, H⟩
    obtain ⟨a1, a2, a3⟩ := hno3 hm
    refine ⟨a1, a2, fun hin y hy h0 => ?_⟩
    rw [htk, List.mem_append, List.mem_singleton] at hy
    rcases hy with hy | rfl
    · exact a3 hin y hy h0
    · rw [← a1] at hin ⊢
      exact hsk hin h0
  rw [ldB3 (H.box 3 rfl) rfl]
  refine rdi (ixa163 hl0.1 hl0.2) ?_
  rw [add_plain, Nat.zero_add, ldB4 (H.box 2 rfl) (atB_get (by omega))]
  cases hleft : atB A3 (rul gm.rules i).1.toNat
  · simp only [r3, bin_add, bin_sub, bin_mul, bin_eql, bin_neq, bin_lss, bin_leq, bin_gtr, bin_geq, un_not, un_neg, zq4, zq3, zq1, zq2, zq0, cond_true', cond_false', zq14, zq15, zq16, zq17, zq13, zq10, zq12, zq11, zq7, zq5, zq6, zq9, zq8, resK_nil, resK_tmp, ite_T, ite_F, upd_at, add_plain, add_zero', Nat.reduceEqDiff, fa8_0, fa8_1, fa8_2, fa8_3, fa14_0, fa14_1, fa19_0, len22, len24, fa26_0, fa26_1, fa26_2, len27, fa33_0, fa33_1, len35, fa77_0, fa77_1, fa88_0, fa88_1, fa88_2, fa88_3, fa88_4, fa88_5, fa114_0, fa114_1, fa114_2, fa124_0, fa124_1, len134, len136, len154, fa156_0, fa156_1, fa156_2, fa156_3, fa156_4, fa156_5, fa156_6, fa184_0, fa184_1, fa200_0, fa200_1, fa200_2, fa200_3, fa215_0, fa215_1, fa215_2, fa215_3, fa215_4, len218, len271, fa274_0, fa274_1, fa274_2, fa303_0, fa303_1, fa303_2, fa303_3, fa314_0, fa314_1, fa314_2, fa314_3, fa314_4, fa314_5, fa314_6, fa314_7, fa314_8, fa314_9, fa314_10]
    exact skip _ _ r21 r4 (fun h => by rw [hleft] at h; cases h) H
  simp only [bin_add, bin_sub, bin_mul, bin_eql, bin_neq, bin_lss, bin_leq, bin_gtr, bin_geq, un_not, un_neg, zq4, zq3, zq1, zq2, zq0, cond_true', cond_false', zq14, zq15, zq16, zq17, zq13, zq10, zq12, zq11, zq7, zq5, zq6, zq9, zq8, resK_nil, resK_tmp, ite_T, ite_F, upd_at, add_plain, add_zero', Nat.reduceEqDiff, fa8_0, fa8_1, fa8_2, fa8_3, fa14_0, fa14_1, fa19_0, len22, len24, fa26_0, fa26_1, fa26_2, len27, fa33_0, fa33_1, len35, fa77_0, fa77_1, fa88_0, fa88_1, fa88_2, fa88_3, fa88_4, fa88_5, fa114_0, fa114_1, fa114_2, fa124_0, fa124_1, len134, len136, len154, fa156_0, fa156_1, fa156_2, fa156_3, fa156_4, fa156_5, fa156_6, fa184_0, fa184_1, fa200_0, fa200_1, fa200_2, fa200_3, fa215_0, fa215_1, fa215_2, fa215_3, fa215_4, len218, len271, fa274_0, fa274_1, fa274_2, fa303_0, fa303_1, fa303_2, fa303_3, fa314_0, fa314_1, fa314_2, fa314_3, fa314_4, fa314_5, fa314_6, fa314_7, fa314_8, fa314_9, fa314_10]
  by_cases hx0 : 0 ≤ x
  case neg =>
    simp only [hx0, decide_false, r3, bin_add, bin_sub, bin_mul, bin_eql, bin_neq, bin_lss, bin_leq, bin_gtr, bin_geq, un_not, un_neg, zq4, zq3, zq1, zq2, zq0, cond_true', cond_false', zq14, zq15, zq16, zq17, zq13, zq10, zq12, zq11, zq7, zq5, zq6, zq9, zq8, resK_nil, resK_tmp, ite_T, ite_F, upd_at, add_plain, add_zero', Nat.reduceEqDiff, fa8_0, fa8_1, fa8_2, fa8_3, fa14_0, fa14_1, fa19_0, len22, len24, fa26_0, fa26_1, fa26_2, len27, fa33_0, fa33_1, len35, fa77_0, fa77_1, fa88_0, fa88_1, fa88_2, fa88_3, fa88_4, fa88_5, fa114_0, fa114_1, fa114_2, fa124_0, fa124_1, len134, len136, len154, fa156_0, fa156_1, fa156_2, fa156_3, fa156_4, fa156_5, fa156_6, fa184_0, fa184_1, fa200_0, fa200_1, fa200_2, fa200_3, fa215_0, fa215_1, fa215_2, fa215_3, fa215_4, len218, len271, fa274_0, fa274_1, fa274_2, fa303_0, fa303_1, fa303_2, fa303_3, fa314_0, fa314_1, fa314_2, fa314_3, fa314_4, fa314_5, fa314_6, fa314_7, fa314_8, fa314_9, fa314_10]
    exact skip _ _ r21 r4 (fun _ h => absurd (by omega) h) H
  simp only [hx0, decide_true, bin_add, bin_sub, bin_mul, bin_eql, bin_neq, bin_lss, bin_leq, bin_gtr, bin_geq, un_not, un_neg, zq4, zq3, zq1, zq2, zq0, cond_true', cond_false', zq14, zq15, zq16, zq17, zq13, zq10, zq12, zq11, zq7, zq5, zq6, zq9, zq8, resK_nil, resK_tmp, ite_T, ite_F, upd_at, add_plain, add_zero', Nat.reduceEqDiff, fa8_0, fa8_1, fa8_2, fa8_3, fa14_0, fa14_1, fa19_0, len22, len24, fa26_0, fa26_1, fa26_2, len27, fa33_0, fa33_1, len35, fa77_0, fa77_1, fa88_0, fa88_1, fa88_2, fa88_3, fa88_4, fa88_5, fa114_0, fa114_1, fa114_2, fa124_0, fa124_1, len134, len136, len154, fa156_0, fa156_1, fa156_2, fa156_3, fa156_4, fa156_5, fa156_6, fa184_0, fa184_1, fa200_0, fa200_1, fa200_2, fa200_3, fa215_0, fa215_1, fa215_2, fa215_3, fa215_4, len218, len271, fa274_0, fa274_1, fa274_2, fa303_0, fa303_1, fa303_2, fa303_3, fa314_0, fa314_1, fa314_2, fa314_3, fa314_4, fa314_5, fa314_6, fa314_7, fa314_8, fa314_9, fa314_10]
  refine rdi (ixa163 hx0 hx6) ?_
  rw [add_plain, Nat.zero_add, ldB4 (H.box 2 rfl) (atB_get (by omega))]
  have hxn : x.toNat < A3.length := by omega
  cases hset : atB A3 x.toNat
  case true =>
    simp only [Bool.not_true, bin_add, bin_sub, bin_mul, bin_eql, bin_neq, bin_lss, bin_leq, bin_gtr, bin_geq, un_not, un_neg, zq4, zq3, zq1, zq2, zq0, cond_true', cond_false', zq14, zq15, zq16, zq17, zq13, zq10, zq12, zq11, zq7, zq5, zq6, zq9, zq8, resK_nil, resK_tmp, ite_T, ite_F, upd_at, add_plain, add_zero', Nat.reduceEqDiff, fa8_0, fa8_1, fa8_2, fa8_3, fa14_0, fa14_1, fa19_0, len22, len24, fa26_0, fa26_1, fa26_2, len27, fa33_0, fa33_1, len35, fa77_0, fa77_1, fa88_0, fa88_1, fa88_2, fa88_3, fa88_4, fa88_5, fa114_0, fa114_1, fa114_2, fa124_0, fa124_1, len134, len136, len154, fa156_0, fa156_1, fa156_2, fa156_3, fa156_4, fa156_5, fa156_6, fa184_0, fa184_1, fa200_0, fa200_1, fa200_2, fa200_3, fa215_0, fa215_1, fa215_2, fa215_3, fa215_4, len218, len271, fa274_0, fa274_1, fa274_2, fa303_0, fa303_1, fa303_2, fa303_3, fa314_0, fa314_1, fa314_2, fa314_3, fa314_4, fa314_5, fa314_6, fa314_7, fa314_8, fa314_9, fa314_10]
    exact skip _ _ r21 r4 (fun _ _ => hset) H
  simp only [Bool.not_false, bin_add, bin_sub, bin_mul, bin_eql, bin_neq, bin_lss, bin_leq, bin_gtr, bin_geq, un_not, un_neg, zq4, zq3, zq1, zq2, zq0, cond_true', cond_false', zq14, zq15, zq16, zq17, zq13, zq10, zq12, zq11, zq7, zq5, zq6, zq9, zq8, resK_nil, resK_tmp, ite_T, ite_F, upd_at, add_plain, add_zero', Nat.reduceEqDiff, fa8_0, fa8_1, fa8_2, fa8_3, fa14_0, fa14_1, fa19_0, len22, len24, fa26_0, fa26_1, fa26_2, len27, fa33_0, fa33_1, len35, fa77_0, fa77_1, fa88_0, fa88_1, fa88_2, fa88_3, fa88_4, fa88_5, fa114_0, fa114_1, fa114_2, fa124_0, fa124_1, len134, len136, len154, fa156_0, fa156_1, fa156_2, fa156_3, fa156_4, fa156_5, fa156_6, fa184_0, fa184_1, fa200_0, fa200_1, fa200_2, fa200_3, fa215_0, fa215_1, fa215_2, fa215_3, fa215_4, len218, len271, fa274_0, fa274_1, fa274_2, fa303_0, fa303_1, fa303_2, fa303_3, fa314_0, fa314_1, fa314_2, fa314_3, fa314_4, fa314_5, fa314_6, fa314_7, fa314_8, fa314_9, fa314_10]
  refine rdi (ixa163 hx0 hx6) ?_
  rw [add_plain, Nat.zero_add]
  refine storeH H 2 rfl sz4 rfl rfl (Nat.ble_eq_true_of_le (by simp; omega)) fun w10 H => ?_
  have e : (A3.map Value.bool).take x.toNat ++ (Value.bool true).cells.toList ++ (A3.map Value.bool).drop (x.toNat + 1) = (A3.set x.toNat true).map Value.bool := by
    rw [List.map_set, List.set_eq_take_append_cons_drop, if_pos (by simp; omega), List.append_assoc]
    rfl
  rw [e] at H
  simp only [List.set_cons_zero, List.set_cons_succ] at H
  have hc3 := count_setB hxn hset
  have hA3 : A.count true ≤ A3.count true := by
    cases m3
    · rw [(hno3 rfl).1]
      exact Nat.le_refl _
    · exact Nat.le_of_lt (hyes3 rfl)
  refine hK _ _ ⟨r21, _, true, rfl, by rw [List.length_set]; exact hlen3, fun n hn' => ?_, (atB_set hxn).2 (.inr hz3), (fun h => by cases h), (fun _ => by omega), H⟩
  rcases (atB_set hxn).1 hn' with rfl | h
  · exact .step hrm (Int.toNat_of_nonneg hl0.1).symm (hs3 _ hleft) hmem (by omega)
  · exact hs3 n h
end
end Go.Proofs.Ytegcjkhebecgbaa

/- Contracts: listOf, growing; NullableOf, ProductiveOf, ReachedOf, GrowingOf of the program. -/
set_option linter.unusedVariables false
set_option linter.unusedSimpArgs false
set_option maxRecDepth 100000
namespace Go.Sh
open Go
end Go.Sh
namespace Go.Proofs.Ytegcjkhebecgbaa
open Go Go.Sh Go.RowKit
section
variable {w : World} {k : Value → World → Prop} {Y : Option Addr} {cy : Nat} {gm : Gram}
end
end Go.Proofs.Ytegcjkhebecgbaa

/- Contracts: NullableOf, ProductiveOf, ReachedOf, GrowingOf of the program. -/
set_option linter.unusedVariables false
set_option linter.unusedSimpArgs false
set_option maxRecDepth 100000
namespace Go.Sh
open Go
end Go.Sh
namespace Go.Proofs.Ytegcjkhebecgbaa
open Go Go.Sh Go.RowKit
theorem sixR {gm : Gram} (hg : goodG gm = true) : SixR gm.rules := fun r hr => by
  have h6 := good_nons hg
  obtain ⟨h1, _, h3⟩ := goodRules hg r hr
  exact ⟨⟨by omega, by omega⟩, fun x hx => by have := h3 x hx; omega⟩
section
variable {w : World} {k : Value → World → Prop} {Y : Option Addr} {cy : Nat} {gm : Gram}
end
end Go.Proofs.Ytegcjkhebecgbaa

/- Rows: clearing a tail and cutting it off; a rule is moved within rules. -/
set_option linter.unusedVariables false
set_option linter.unusedSimpArgs false
set_option maxRecDepth 100000
namespace Go.Sh
open Go
section
variable {P : Program} {w : World} {k : Value → World → Prop} {B e sz n c m : Nat} {X : Option Addr} {cells : List Value}
theorem Row.cutS (h : Row w B e sz X n c cells) (hm : m ≤ n) : Row w B e sz X m c (cells.take (m * sz)) := by
  have hl := h.1
  have hms : m * sz ≤ n * sz := Nat.mul_le_mul_right sz hm
  rcases h.2 with ⟨h2, h3⟩ | ⟨g, cap, cur, e1, e2, e3, e4, e5, e6, e7⟩
  · subst h3
    rcases h.at_ with ⟨rfl, _, rfl⟩ | ⟨g, rfl, _⟩
    · obtain rfl : m = 0 := by omega
      rw [Nat.zero_mul, List.take_zero]
      exact Row.nil _ _ _ _
    · simp at h2
  · simp only [Value.slice.injEq] at e1
    obtain ⟨rfl, _, rfl⟩ := e1
    refine ⟨by rw [List.length_take]; omega, .inr ⟨g, c, cur, rfl, e2, e3, by omega, e5, e6, ?_⟩⟩
    rw [← e7, List.take_take, Nat.min_eq_left hms]
theorem zeroCells_len (zs : Array Value) (n : Nat) : (Builtin.zeroCells zs n).toList.length = n * zs.size := by simp [Builtin.zeroCells]
theorem zeroCells_one {zs : Array Value} (h : ∀ v ∈ zs.toList, v.oneCell' = true) (h0 : 0 < zs.size) (n : Nat) : ∀ v ∈ (Builtin.zeroCells zs n).toList, v.oneCell' = true := fun v hv => by
  simp only [Builtin.zeroCells, Array.toList_map, List.mem_map] at hv
  obtain ⟨i, _, rfl⟩ := hv
  have hlt := Nat.mod_lt i h0
  rw [getElem!_pos zs _ hlt]
  exact h _ (by simp)
/-- The tail of a row is cleared; the rest stays. -/
theorem do_clear_tail {u t by' : Nat} {z : Value} {cs : List Bool} (hu : P.underlying u = some (.slice e)) (I : Inf P e z sz by') (hzs : z.cells.size = sz) (hsz : 0 < sz) (h1 : ∀ v ∈ z.cells.toList, v.oneCell' = true) (hO : Row w B e sz X n c cells) (hm : m ≤ n)
    (h : ∀ w', w.grownBy w' (blk X) → w'.heap.size = w.heap.size → Row w' B e sz X m c (cells.take (m * sz)) → k (.tuple #[]) w') :
    Do P (sBuiltin .clear #[u] t cs [.slice (sub X m c sz) (n - m) (c - m)]) k w := by
  by_cases hmn : m = n
  · subst hmn
    have e' : (sBuiltin .clear #[u] t cs [.slice (sub X m c sz) (m - m) (c - m)]).run P w = .ok (.value (.tuple #[])) w := by
      rw [Nat.sub_self]
      simp only [sBuiltin, builtin, Sem.run_bind]
      unfold Builtin.clear_
      cases sub X m c sz <;> simp [Sem.run_bind, run_underlying hu, Result.andThen]
    rw [do_value e']
    exact h w (gr_any (Gr.refl w) _) rfl (hO.cutS (Nat.le_refl _))
  have hcap := hO.cap
  rcases hO.at_ with ⟨rfl, rfl, _⟩ | ⟨g, rfl, hb, hg⟩
  · omega
  have hlen := hO.len
  have hsub : sub (some (⟨g, 0, none⟩ : Addr)) m c sz = some ⟨g, m * sz, none⟩ := by
    unfold sub
    rw [if_neg (by omega), Option.map_some, add_plain, Nat.zero_add]
  have hms : m * sz + (n - m) * sz = n * sz := by rw [← Nat.add_mul]; congr 1; omega
  have hzl := zeroCells_len z.cells (n - m)
  rw [hzs] at hzl
  obtain ⟨w', hr, hg', hb', hsz'⟩ := run_storeRow (P := P) (j := m * sz) (Builtin.zeroCells z.cells (n - m)).toList 0 cells w hO (by rw [hzl]; omega) (zeroCells_one h1 (by omega) _)
  have e' : (sBuiltin .clear #[u] t cs [.slice (sub (some (⟨g, 0, none⟩ : Addr)) m c sz) (n - m) (c - m)]).run P w = .ok (.value (.tuple #[])) w' := by
    rw [hsub]
    obtain ⟨p, hp⟩ : ∃ p, n - m = p + 1 := ⟨n - m - 1, by omega⟩
    rw [hp] at hr ⊢
    obtain ⟨i, hi, hz, _, _⟩ := I
    have e0 : (zeroValue e).run P w = .ok z w := by simp [zeroValue, run_info hi, hz]
    simp only [sBuiltin, builtin, Sem.run_bind]
    unfold Builtin.clear_
    simp [Sem.run_bind, run_underlying hu, Result.andThen, e0, hr]
  rw [do_value e']
  refine h w' hg' hsz' ?_
  have := Row.cutS hb' hm
  rwa [Nat.add_zero, List.append_assoc, List.take_append_of_le_length (by rw [List.length_take, hlen]; have := Nat.mul_le_mul_right sz hm; omega), List.take_take, Nat.min_self] at this
end
section
variable {F : Nat → Prop} {w : World} {rs : List RuleL} {cells : List Value}
theorem RuleCells.take (h : RuleCells F w rs cells) : ∀ m, RuleCells F w (rs.take m) (cells.take (m * 2)) := by
  induction h with
  | nil => intro m; rw [List.take_nil, List.take_nil]; exact .nil
  | @cons r rs Y c cells h1 h2 _ ih =>
    intro m
    cases m with
    | zero => exact .nil
    | succ m =>
      rw [show (m + 1) * 2 = m * 2 + 1 + 1 from by omega]
      exact .cons h1 h2 (ih m)
theorem RuleCells.set {r : RuleL} {Y : Option Addr} {d : Nat} (h : RuleCells F w rs cells) (hd : r.2.length ≤ d) (hY : IntsF F w Y r.2) : ∀ j, j < rs.length → RuleCells F w (rs.set j r) (cells.take (j * 2) ++ [.int .i64 r.1, .slice Y r.2.length d] ++ cells.drop (j * 2 + 2)) := by
  induction h with
  | nil => intro j hj; simp at hj
  | @cons q rs Z c cells h1 h2 h3 ih =>
    intro j hj
    cases j with
    | zero => exact .cons hd hY h3
    | succ j =>
      have := ih j (by simpa using hj)
      rw [show (j + 1) * 2 = j * 2 + 1 + 1 from by omega]
      exact .cons h1 h2 this
end
end Go.Sh
namespace Go.Proofs.Ytegcjkhebecgbaa
open Go Go.Sh Go.RowKit
section
variable {w0 w : World} {L : List Thing} {k : Value → World → Prop}
/-- A rule is put in the place of another. -/
theorem moveG (H : Apt w0 w L) (i : Nat) {X Y : Option Addr} {c d j : Nat} {rs : List RuleL} {r : RuleL} {ft : Nat → Prop} (hi : L[i]? = some (gth ft X c rs)) (hj : j < rs.length) (hd : r.2.length ≤ d) (hY : IntsF (fun q => ft q ∧ blk X ≠ some q) w Y r.2)
    (h : ∀ w', Apt w0 w' (L.set i (gth ft X c (rs.set j r))) → k undef w') : Do Try.prog (sStore 33 (.pointer (some ((ad X).add (j * 2)))) (.agg #[.int .i64 r.1, .slice Y r.2.length d])) k w := by
  obtain ⟨cells, hrow, hrc⟩ := H.gow i hi
  refine do_store_rows sz33 rfl (by decide) (by intro u hu; simp [Value.cells] at hu; rcases hu with rfl | rfl <;> rfl) hrow (by omega) fun w' g hsz hr' => h w' ?_
  have hset := hrc.set hd hY j hj
  have hset' : RuleCells (fun q => ft q ∧ blk X ≠ some q) w' (rs.set j r) _ := (hset.lt.same fun q hq => g.block q hq.2 fun e => hq.1.2 e.symm).mono fun q hq => hq.1
  refine H.set hi (it' := gth ft X c (rs.set j r)) (gx_of g fun q hq => .inl hq) (fun q hq => .inl hq) (fun q hq => ?_) (gow_kept ⟨_, by rw [List.length_set]; exact hr', hset'⟩)
  rw [hsz]
  exact (H.ok i _ hi).hi q hq
/-- The tail of rules is cleared and cut off. -/
theorem clearG (H : Apt w0 w L) (i : Nat) {X : Option Addr} {c m t : Nat} {rs : List RuleL} {ft : Nat → Prop} {cs : List Bool} (hi : L[i]? = some (gth ft X c rs)) (hm : m ≤ rs.length)
    (h : ∀ w', Apt w0 w' (L.set i (gth ft X c (rs.take m))) → k (.tuple #[]) w') : Do Try.prog (sBuiltin .clear #[24] t cs [.slice (sub X m c 2) (rs.length - m) (c - m)]) k w := by
  obtain ⟨cells, hrow, hrc⟩ := H.gow i hi
  refine do_clear_tail u24 inf33 rfl (by decide) (by intro u hu; simp [Value.cells] at hu; rcases hu with rfl | rfl <;> rfl) hrow hm fun w' g hsz hr' => h w' ?_
  have hset' : RuleCells (fun q => ft q ∧ blk X ≠ some q) w' (rs.take m) _ := ((hrc.take m).lt.same fun q hq => g.block q hq.2 fun e => hq.1.2 e.symm).mono fun q hq => hq.1
  have hml : (rs.take m).length = m := by rw [List.length_take]; omega
  refine H.set hi (it' := gth ft X c (rs.take m)) (gx_of g fun q hq => .inl hq) (fun q hq => .inl hq) (fun q hq => ?_) (gow_kept ⟨_, by rw [hml]; exact hr', hset'⟩)
  rw [hsz]
  exact (H.ok i _ hi).hi q hq
end
end Go.Proofs.Ytegcjkhebecgbaa

/- Plans whose steps fork in three: the frame's soundness once more, for those. -/
set_option linter.unusedVariables false
namespace Go.Sh.X
open Go Go.Proofs.YtegcjkhebecgbaaW.PrintLast

/-- Steps of a plan; at a fork either of two may come first. -/
inductive Steps where
  | nil
  | step (i : Nat) (kd : Kd) (r : Steps)
  | fork (i : Nat) (a : Steps) (j : Nat) (b : Steps)
  | fork3 (i : Nat) (a : Steps) (j : Nat) (b : Steps) (m : Nat) (c : Steps)
structure Plan where
  gen : Bool
  ds : List Nat
  steps : Steps

def stepsOK (ops : Array Oper) (ds : List Nat) : Steps → Nat → Array Bool → Bool → Bool
  | .nil, n, l, _ => (n == 0) && (Region.ready .any ops l == [])
  | .step _ _ _, 0, _, _ => false
  | .step i .any r, n + 1, l, s => quietAt ops i && anyB .any ops l (l.setIfInBounds i true) i && stepsOK ops ds r n (l.setIfInBounds i true) s
  | .step i .held r, n + 1, l, s => s && quietAt ops i && takeB .any ops ds l (l.setIfInBounds i true) i && stepsOK ops ds r n (l.setIfInBounds i true) s
  | .step i .one r, n + 1, l, s => s && !ds.contains i && (Region.ready .any ops l == [i]) && stepsOK ops ds r n (l.setIfInBounds i true) s
  | .step i .last r, n + 1, l, s => !quietAt ops i && ds.contains i && (Region.ready .any ops l == [i]) && stepsOK ops ds r n (l.setIfInBounds i true) false
  | .fork _ _ _ _, 0, _, _ => false
  | .fork i a j b, n + 1, l, s => s && !ds.contains i && !ds.contains j && (Region.ready .any ops l == [i, j]) && stepsOK ops ds a n (l.setIfInBounds i true) s && stepsOK ops ds b n (l.setIfInBounds j true) s
  | .fork3 _ _ _ _ _ _, 0, _, _ => false
  | .fork3 i a j b m c, n + 1, l, s => s && !ds.contains i && !ds.contains j && !ds.contains m && (Region.ready .any ops l == [i, j, m]) && stepsOK ops ds a n (l.setIfInBounds i true) s && stepsOK ops ds b n (l.setIfInBounds j true) s && stepsOK ops ds c n (l.setIfInBounds m true) s
def planOK (ops : Array Oper) (p : Plan) : Bool := stepsOK ops p.ds p.steps ops.size (Array.replicate ops.size false) true

def stepsK (P : Program) (ops : List Oper) (S : WS) : Steps → F → (F → World → Prop) → World → Prop
  | .nil, f, k, w => k f w
  | .step i kd r, f, k, w =>
    match ops[i]? with
    | none => False
    | some o =>
      match kd with
      | .any => stepK P WS.any ops f o (fun v w' => stepsK P ops S r (f.put o.dst v) k w') w
      | .held => stepK P S ops f o (fun v w' => stepsK P ops S r (f.put o.dst v) k w') w
      | .one => stepK P S ops f o (fun v w' => S.S w' ∧ stepsK P ops S r (f.put o.dst v) k w') w
      | .last => stepK P S ops f o (fun v w' => stepsK P ops S r (f.put o.dst v) k w') w
  | .fork i a j b, f, k, w =>
    match ops[i]?, ops[j]? with
    | some o, some u => stepK P S ops f o (fun v w' => S.S w' ∧ stepsK P ops S a (f.put o.dst v) k w') w ∧ stepK P S ops f u (fun v w' => S.S w' ∧ stepsK P ops S b (f.put u.dst v) k w') w
    | _, _ => False
  | .fork3 i a j b m c, f, k, w =>
    match ops[i]?, ops[j]?, ops[m]? with
    | some o, some u, some x => stepK P S ops f o (fun v w' => S.S w' ∧ stepsK P ops S a (f.put o.dst v) k w') w ∧ stepK P S ops f u (fun v w' => S.S w' ∧ stepsK P ops S b (f.put u.dst v) k w') w ∧ stepK P S ops f x (fun v w' => S.S w' ∧ stepsK P ops S c (f.put x.dst v) k w') w
    | _, _, _ => False
def drawK (P : Program) (ops : List Oper) (p : Plan) (f : F) (k : F → World → Prop) (w : World) : Prop :=
  bif p.gen then ∃ S : World → Prop, ∃ h : S w, stepsK P ops ⟨S, w, h⟩ p.steps f k w
  else stepsK P ops (WS.at w) p.steps f k w

theorem stepsK_sound {P : Program} {ops : Array Oper} {n : Nat} {W : List Nat} {k : F → World → Prop} {Q : Exit → Act → World → Prop} {f0 : F} {S : WS} {ds : List Nat}
    (hQ : ∀ f a w, Fits n f a → Agree W f0 f → k f w → Q .normal a w) (hP : ∀ c a w, ¬ Q (.panic c) a w) (hW : ∀ d ∈ W, d < n) (hD : ∀ d ∈ dsts ops.toList, d ∈ W) :
    ∀ (steps : Steps) (m : Nat) (l : Array Bool) (s : Bool) (f : F) (a : Act) (w : World), stepsOK ops ds steps m l s = true → (s = true → S.S w) → Fits n f a → Agree W f0 f →
      stepsK P ops.toList S steps f k w → wpAnyLast P .any ops Q S.S ds m l a w := by
  have hdst : ∀ {i : Nat} {o : Oper}, ops[i]? = some o → ∀ d, o.dst = some d → d ∈ W := fun {i o} ho d e => hD d (List.mem_filterMap.2 ⟨o, by
    rw [← Array.getElem?_toList] at ho
    exact List.mem_of_getElem? ho, e⟩)
  have hone : ∀ {i m : Nat} {o : Oper} {r : Steps} {l : Array Bool} {s : Bool} {f : F} {a : Act} {w : World}, ops[i]? = some o → s = true → (s = true → S.S w) → Fits n f a → Agree W f0 f → stepsOK ops ds r m (l.setIfInBounds i true) s = true →
      stepK P S ops.toList f o (fun v w' => S.S w' ∧ stepsK P ops.toList S r (f.put o.dst v) k w') w →
      (∀ (l : Array Bool) (s : Bool) (f : F) (a : Act) (w : World), stepsOK ops ds r m l s = true → (s = true → S.S w) → Fits n f a → Agree W f0 f → stepsK P ops.toList S r f k w → wpAnyLast P .any ops Q S.S ds m l a w) →
      wpOp P ops Q i (fun a' w' => (i ∉ ds → S.S w → S.S w') ∧ wpAnyLast P .any ops Q S.S ds m (l.setIfInBounds i true) a' w') a w := by
    intro i m o r l s f a w ho hs1 hs hf ha hok h ih
    unfold wpOp
    simp only [ho]
    have go : ∀ v w', S.S w' → stepsK P ops.toList S r (f.put o.dst v) k w' → wpAnyLast P .any ops Q S.S ds m (l.setIfInBounds i true) (a.put o.dst v) w' :=
      fun v w' h2 h3 => ih _ s _ _ _ hok (fun _ => h2) (hf.put _ (fun d e => hW d (hdst ho d e)) v) (ha.put _ (hdst ho) v) h3
    rcases stepK_cases hf h with ⟨hw, h'⟩ | ⟨hw, h'⟩
    · rw [if_pos hw]
      exact .inl (opK_wp (fun _ => hs hs1) hf.ev h' fun v w' hk => ⟨fun _ _ => hk.1, go v w' hk.1 hk.2⟩)
    · rw [if_neg (by simp [hw])]
      exact ⟨fun _ _ => h'.1, go undef w h'.1 h'.2⟩
  intro steps
  induction steps with
  | nil =>
    intro m l s f a w hok _ hf ha h
    simp only [stepsOK, Bool.and_eq_true, beq_iff_eq] at hok
    obtain ⟨rfl, hok⟩ := hok
    exact ⟨hok, hQ f a w hf ha h⟩
  | fork i x j y ihx ihy =>
    intro m l s f a w hok hs hf ha h
    cases m with
    | zero => simp [stepsOK] at hok
    | succ m =>
    simp only [stepsOK, Bool.and_eq_true] at hok
    obtain ⟨⟨⟨⟨⟨h0, h1⟩, h2⟩, h3⟩, h4⟩, h5⟩ := hok
    have h3' : Region.ready .any ops l = [i, j] := by simpa using h3
    unfold stepsK at h
    split at h
    · rename_i o u ho hu
      rw [Array.getElem?_toList] at ho hu
      refine wpAnyLast_all h3' (by simp) fun e he => ?_
      have : e = i ∨ e = j := by simpa using he
      rcases this with rfl | rfl
      · exact hone ho h0 hs hf ha h4 h.1 fun l s f a w => ihx m l s f a w
      · exact hone hu h0 hs hf ha h5 h.2 fun l s f a w => ihy m l s f a w
    · exact h.elim
  | fork3 i x j y t z ihx ihy ihz =>
    intro m l s f a w hok hs hf ha h
    cases m with
    | zero => simp [stepsOK] at hok
    | succ m =>
    simp only [stepsOK, Bool.and_eq_true] at hok
    obtain ⟨⟨⟨⟨⟨⟨⟨h0, h1⟩, h2⟩, h2'⟩, h3⟩, h4⟩, h5⟩, h6⟩ := hok
    have h3' : Region.ready .any ops l = [i, j, t] := by simpa using h3
    unfold stepsK at h
    split at h
    · rename_i o u v ho hu hv
      rw [Array.getElem?_toList] at ho hu hv
      refine wpAnyLast_all h3' (by simp) fun e he => ?_
      have : e = i ∨ e = j ∨ e = t := by simpa using he
      rcases this with rfl | rfl | rfl
      · exact hone ho h0 hs hf ha h4 h.1 fun l s f a w => ihx m l s f a w
      · exact hone hu h0 hs hf ha h5 h.2.1 fun l s f a w => ihy m l s f a w
      · exact hone hv h0 hs hf ha h6 h.2.2 fun l s f a w => ihz m l s f a w
    · exact h.elim
  | step i kd r ih =>
    intro m l s f a w hok hs hf ha h
    cases m with
    | zero => simp [stepsOK] at hok
    | succ m =>
    unfold stepsK at h
    split at h
    · exact h.elim
    · rename_i o ho
      rw [Array.getElem?_toList] at ho
      have hod : ∀ d, o.dst = some d → d ∈ W := hdst ho
      have hq : quietAt ops i = true → quietOp o.op = true := fun h => by simpa [quietAt, ho] using h
      have go : ∀ v w' s', stepsOK ops ds r m (l.setIfInBounds i true) s' = true → (s' = true → S.S w') → stepsK P ops.toList S r (f.put o.dst v) k w' → wpAnyLast P .any ops Q S.S ds m (l.setIfInBounds i true) (a.put o.dst v) w' :=
        fun v w' s' h1 h2 h3 => ih _ _ s' _ _ _ h1 h2 (hf.put _ (fun d e => hW d (hod d e)) v) (ha.put _ hod v) h3
      cases kd with
      | any =>
        simp only [stepsOK, Bool.and_eq_true] at hok
        obtain ⟨⟨h1, h2⟩, h3⟩ := hok
        simp only at h
        have hy : ∃ v, Yields P ops o v a ∧ stepsK P ops.toList S r (f.put o.dst v) k w := by
          rcases stepK_cases hf h with ⟨hw, h'⟩ | ⟨hw, h'⟩
          · obtain ⟨v, hv, hk⟩ := opK_yields (hq h1) h'
            exact ⟨v, .inl ⟨hw, fun w' => by rw [hf.ev]; exact hv w' trivial⟩, hk⟩
          · exact ⟨undef, .inr ⟨hw, rfl⟩, h'⟩
        obtain ⟨v, hy, hk⟩ := hy
        exact pure_ _ ho rfl h2 (fun c a w hq => absurd hq (hP c _ w)) hy rfl (go v w s h3 hs hk)
      | held =>
        simp only [stepsOK, Bool.and_eq_true] at hok
        obtain ⟨⟨⟨h0, h1⟩, h2⟩, h3⟩ := hok
        simp only at h
        have hy : ∃ v, YieldsIf P ops S.S o v a ∧ stepsK P ops.toList S r (f.put o.dst v) k w := by
          rcases stepK_cases hf h with ⟨hw, h'⟩ | ⟨hw, h'⟩
          · obtain ⟨v, hv, hk⟩ := opK_yields (hq h1) h'
            exact ⟨v, .inl ⟨hw, fun w' hw' => by rw [hf.ev]; exact hv w' hw'⟩, hk⟩
          · exact ⟨undef, .inr ⟨hw, rfl⟩, h'⟩
        obtain ⟨v, hy, hk⟩ := hy
        exact take_ _ ho rfl h2 (fun c a w hq => absurd hq (hP c _ w)) hy (hs h0) rfl (go v w s h3 hs hk)
      | one =>
        simp only [stepsOK, Bool.and_eq_true] at hok
        obtain ⟨⟨⟨h0, h1⟩, h2⟩, h3⟩ := hok
        simp only at h
        have h2' : Region.ready .any ops l = [i] := by simpa using h2
        refine wpAnyLast_all h2' (by simp) fun j hj => ?_
        have hji : j = i := by simpa using hj
        subst hji
        unfold wpOp
        simp only [ho]
        rcases stepK_cases hf h with ⟨hw, h'⟩ | ⟨hw, h'⟩
        · rw [if_pos hw]
          exact .inl (opK_wp (fun _ => hs h0) hf.ev h' fun v w' hk => ⟨fun _ _ => hk.1, go v w' s h3 (fun _ => hk.1) hk.2⟩)
        · rw [if_neg (by simp [hw])]
          exact ⟨fun _ _ => h'.1, go undef w s h3 (fun _ => h'.1) h'.2⟩
      | last =>
        simp only [stepsOK, Bool.and_eq_true] at hok
        obtain ⟨⟨⟨h0, h1⟩, h2⟩, h3⟩ := hok
        simp only at h
        have hnq : quietOp o.op = true → S.S w := fun e => by simp [quietAt, ho, e] at h0
        have h2' : Region.ready .any ops l = [i] := by simpa using h2
        have hid : i ∈ ds := by simpa using h1
        refine wpAnyLast_all h2' (by simp) fun j hj => ?_
        have hji : j = i := by simpa using hj
        subst hji
        unfold wpOp
        simp only [ho]
        rcases stepK_cases hf h with ⟨hw, h'⟩ | ⟨hw, h'⟩
        · rw [if_pos hw]
          refine .inl (opK_wp hnq hf.ev h' fun v w' hk => ⟨fun hn => absurd hid hn, go v w' false h3 (fun h => by cases h) hk⟩)
        · rw [if_neg (by simp [hw])]
          exact ⟨fun hn => absurd hid hn, go undef w false h3 (fun h => by cases h) h'⟩

theorem plan_sound {P : Program} {ops : Array Oper} {n : Nat} {W : List Nat} {k : F → World → Prop} {Q : Exit → Act → World → Prop} {id : Nat} {p : Plan} {f : F} {a : Act} {w : World} (hm : P.follows .mixedOrders = true)
    (hQ : ∀ f' a w, Fits n f' a → Agree W f f' → k f' w → Q .normal a w) (hP : ∀ c a w, ¬ Q (.panic c) a w) (hW : ∀ d ∈ W, d < n) (hD : ∀ d ∈ dsts ops.toList, d ∈ W)
    (hok : planOK ops p = true) (hf : Fits n f a) (h : drawK P ops.toList p f k w.drew) : (Code.region id ops true).wp P Q a w := by
  unfold planOK at hok
  unfold drawK at h
  cases hg : p.gen <;> rw [hg] at h
  · refine wp_region_last (S := (WS.at w.drew).S) (ds := p.ds) hm ?_
    exact stepsK_sound (S := WS.at w.drew) hQ hP hW hD p.steps _ _ true f a _ hok (fun _ => rfl) hf (Agree.refl _ _) h
  · obtain ⟨S, hS, h⟩ := h
    refine wp_region_last (S := S) (ds := p.ds) hm ?_
    exact stepsK_sound (S := ⟨S, w.drew, hS⟩) hQ hP hW hD p.steps _ _ true f a _ hok (fun _ => hS) hf (Agree.refl _ _) h

def Plans := Nat → Plan

def wpF (P : Program) (pl : Plans) : Code → (Exit → F → World → Prop) → F → World → Prop
  | .skip, Q, f, w => Q .normal f w
  | .region _ ops false, Q, f, w => opsK P ops.toList ops.toList f (fun f w => Q .normal f w) w
  | .region id ops true, Q, f, w => drawK P ops.toList (pl id) f (fun f w => Q .normal f w) w.drew
  | .seq a b, Q, f, w => wpF P pl a (seqQ (wpF P pl b Q) Q) f w
  | .cond c a b, Q, f, w => CondK (f.ev c) (wpF P pl a Q f w) (wpF P pl b Q f w)
  | .block id b, Q, f, w => wpF P pl b (blockQ id Q) f w
  | .loop b, Q, f, w => LoopF (wr b) (wpF P pl b) Q f w
  | .exit id, Q, f, w => Q (.exit id) f w
  | .ret, Q, f, w => Q .ret f w
  | _, _, _, _ => False

def plansOK (pl : Plans) : Code → Bool
  | .region id ops true => planOK ops (pl id)
  | .seq a b => plansOK pl a && plansOK pl b
  | .cond _ a b => plansOK pl a && plansOK pl b
  | .block _ b => plansOK pl b
  | .loop b => plansOK pl b
  | _ => true

/-- What a plain frame calculus says of code, the model's own rules say of it. -/
theorem wpF_sound {P : Program} {pl : Plans} (hm : P.follows .mixedOrders = true) {n : Nat} : ∀ (c : Code), (∀ d ∈ wr c, d < n) → plansOK pl c = true → ∀ (Q : Exit → F → World → Prop), NoPanic Q → ∀ (f : F) (w : World) (a : Act),
    wpF P pl c Q f w → Fits n f a → c.wp P (fun e a' w' => ∃ f', Fits n f' a' ∧ Q e f' w' ∧ Agree (wr c) f f') a w := by
  intro c
  induction c with
  | skip => intro _ _ Q _ f w a h hf; exact wp_skip ⟨f, hf, h, Agree.refl _ _⟩
  | exit id => intro _ _ Q _ f w a h hf; exact wp_exit ⟨f, hf, h, Agree.refl _ _⟩
  | ret => intro _ _ Q _ f w a h hf; exact wp_ret ⟨f, hf, h, Agree.refl _ _⟩
  | region id ops draw =>
    intro hW hok Q hQ f w a h hf
    cases draw with
    | false =>
      refine wp_region ?_
      have := opsK_sound (W := wr (.region id ops false)) (f0 := f) (Q := fun e a' w' => ∃ f', Fits n f' a' ∧ Q e f' w' ∧ Agree (wr (.region id ops false)) f f') (k := fun f w => Q .normal f w)
        (fun f' a w h1 h2 h3 => ⟨f', h1, h3, h2⟩) hW ops.toList [] f a w rfl (fun d hd => hd) hf (Agree.refl _ _) h
      simpa [List.range_eq_range'] using this
    | true =>
      exact plan_sound (W := wr (.region id ops true)) (Q := fun e a' w' => ∃ f', Fits n f' a' ∧ Q e f' w' ∧ Agree (wr (.region id ops true)) f f') hm
        (fun f' a w h1 h2 h3 => ⟨f', h1, h3, h2⟩) (fun c a w ⟨f', _, h, _⟩ => hQ _ _ _ h) hW (fun d hd => hd) hok hf h
  | seq x y ihx ihy =>
    intro hW hok Q hQ f w a h hf
    simp only [plansOK, Bool.and_eq_true] at hok
    have hx := ihx (fun d hd => hW d (List.mem_append_left _ hd)) hok.1 (seqQ (wpF P pl y Q) Q) (fun c f w h => hQ c f w h) f w a h hf
    refine wp_seq (wp_mono hx fun e a' w' ⟨f', hf', hq, hag⟩ => ?_)
    cases e with
    | normal =>
      exact wp_mono (ihy (fun d hd => hW d (List.mem_append_right _ hd)) hok.2 Q hQ f' w' a' hq hf') fun e a'' w'' ⟨f'', h1, h2, h3⟩ =>
        ⟨f'', h1, h2, (hag.sub (fun s hs => List.mem_append_left _ hs)).trans (h3.sub fun s hs => List.mem_append_right _ hs)⟩
    | _ => exact ⟨f', hf', hq, hag.sub fun s hs => List.mem_append_left _ hs⟩
  | cond c x y ihx ihy =>
    intro hW hok Q hQ f w a h hf
    simp only [plansOK, Bool.and_eq_true] at hok
    simp only [wpF, CondK] at h
    split at h
    · rename_i b hb
      have hc : a.eval c = .bool b := by rw [hf.ev]; exact hb
      refine wp_cond hc ?_
      cases b
      · exact wp_mono (ihy (fun d hd => hW d (List.mem_append_right _ hd)) hok.2 Q hQ f w a h hf) fun e a' w' ⟨f', h1, h2, h3⟩ => ⟨f', h1, h2, h3.sub fun s hs => List.mem_append_right _ hs⟩
      · exact wp_mono (ihx (fun d hd => hW d (List.mem_append_left _ hd)) hok.1 Q hQ f w a h hf) fun e a' w' ⟨f', h1, h2, h3⟩ => ⟨f', h1, h2, h3.sub fun s hs => List.mem_append_left _ hs⟩
    · exact h.elim
  | block id b ih =>
    intro hW hok Q hQ f w a h hf
    refine wp_block (wp_mono (ih hW hok (blockQ id Q) (fun c f w h => hQ c f w h) f w a h hf) fun e a' w' ⟨f', h1, h2, h3⟩ => ?_)
    cases e with
    | exit i =>
      show if i = id then _ else _
      simp only [blockQ] at h2
      by_cases hi : i = id
      · subst hi
        rw [if_pos rfl]
        rw [show Nat.beq i i = true from Nat.beq_refl i] at h2
        exact ⟨f', h1, h2, h3⟩
      · rw [if_neg hi]
        have hb : Nat.beq i id = false := by
          cases h' : Nat.beq i id
          · rfl
          · exact absurd (Nat.eq_of_beq_eq_true h') hi
        rw [hb] at h2
        exact ⟨f', h1, h2, h3⟩
    | _ => exact ⟨f', h1, h2, h3⟩
  | loop b ih =>
    intro hW hok Q hQ f w a h hf
    obtain ⟨I, μ, h0, hr⟩ := h
    have hex : ∃ μ' : Act → World → Nat, ∀ f' a' w', Fits n f' a' → μ' a' w' = μ f' w' := ⟨fun a' w' => μ (fun t => a'.tmps.getD t undef) w', fun f' a' w' hf' => by
      have : (fun t => a'.tmps.getD t undef) = f' := funext hf'.eq
      show μ (fun t => a'.tmps.getD t undef) w' = μ f' w'
      rw [this]⟩
    obtain ⟨μ', hμ⟩ := hex
    refine wp_loop (fun a' w' => ∃ f', Fits n f' a' ∧ Agree (wr b) f f' ∧ I f' w') μ' ⟨f, hf, Agree.refl _ _, h0⟩ ?_
    rintro a1 w1 ⟨f1, hf1, hag1, hI1⟩
    refine wp_mono (ih hW hok (seqQ (fun f' w' => I f' w' ∧ μ f' w' < μ f1 w1) Q) (fun c f w h => hQ c f w h) f1 w1 a1 (hr f1 w1 hag1 hI1) hf1) fun e a' w' ⟨f', h1, h2, h3⟩ => ?_
    cases e with
    | normal => exact ⟨⟨f', h1, hag1.trans h3, h2.1⟩, by rw [hμ f' a' w' h1, hμ f1 a1 w1 hf1]; exact h2.2⟩
    | _ => exact ⟨f', h1, h2, hag1.trans h3⟩
  | _ => intro _ _ Q _ f w a h hf; exact h.elim

theorem call_of_wpF {P : Program} {pl : Plans} {g : FuncId} {fn : Func} {c : Code} {args : List Value} {w : World} {k : Value → World → Prop} (hm : P.follows .mixedOrders = true)
    (hg : P.funcs[g]? = some fn) (hb : fn.body = some c) (hn : (fn.name == "runtime.NumGoroutine") = false) (hl : args.length ≤ fn.ntmps) (hw : (wr c).all (fun d => Nat.blt d fn.ntmps) = true) (hp : plansOK pl c = true)
    (h : wpF P pl c (bodyQ P fn.results.toList k) (initF args) w) : CallK P g args k w := by
  refine ⟨⟨fn, hg, by simp [hb], hn⟩, calls_of_wp hg hb ?_⟩
  have hfit : Fits fn.ntmps (initF args) { tmps := args.toArray ++ Array.replicate (fn.ntmps - args.toArray.size) undef, defers := [] } := by
    refine ⟨by simp; omega, rfl, fun t => ?_⟩
    simp only [initF, Array.getD_eq_getD_getElem?, List.getD_eq_getElem?_getD]
    rw [Array.getElem?_append]
    split
    · simp
    · rename_i hlt
      simp only [List.size_toArray] at hlt
      rw [List.getElem?_eq_none (by omega), Array.getElem?_replicate]
      split <;> rfl
  refine wp_mono (wpF_sound hm c (fun d hd => by simpa using List.all_eq_true.1 hw d hd) hp _ (fun _ _ _ h => h) _ w _ h hfit) fun e a' w' ⟨f', h1, h2, _⟩ => ?_
  have key : resK P fn.results.toList f' [] (oneOf k) w' → bodyPost P fn (retK k) .ret a' w' := fun hr => by
    obtain ⟨vs, hv, hk⟩ := resK_run _ _ hr
    refine ⟨h1.defers, if h : vs.length = 1 then vs[0] else .tuple vs.toArray, ?_, ?_⟩
    · unfold results
      rw [Array.mapM_eq_mapM_toList]
      simp only [h1.eq, Sem.run_bind, Sem.run_map]
      erw [hv]
      simp
    · simp only [List.nil_append] at hk
      show k _ w'
      match vs, hk with
      | [], hk => exact hk
      | [v], hk => exact hk
      | _ :: _ :: _, hk => exact hk
  cases e with
  | normal => exact key h2
  | ret => exact key h2
  | _ => exact h2.elim

end Go.Sh.X

/- Cg: bodies of functions as terms of the frame calculus, printed by shgen.py of this repository. -/
set_option linter.unusedVariables false
set_option maxRecDepth 100000
namespace Go.Proofs.Ytegcjkhebecgbaa
open Go Go.Sh

/-! (loop.example/g00758/impl.Grammar).useful -/
def pl183 : X.Plans := fun i => match i with
  | 1 => ⟨true, [], .step 0 .held (.step 2 .held (.fork3 1 (.fork3 3 (.fork 4 (.step 5 .one (.step 6 .one (.step 7 .one (.nil)))) 5 (.step 4 .one (.step 6 .one (.step 7 .one (.nil))))) 4 (.fork 3 (.step 5 .one (.step 6 .one (.step 7 .one (.nil)))) 5 (.step 3 .one (.step 6 .one (.step 7 .one (.nil))))) 5 (.fork 3 (.step 4 .one (.step 6 .one (.step 7 .one (.nil)))) 4 (.step 3 .one (.step 6 .one (.step 7 .one (.nil)))))) 4 (.fork 1 (.fork 3 (.step 5 .one (.step 6 .one (.step 7 .one (.nil)))) 5 (.step 3 .one (.step 6 .one (.step 7 .one (.nil))))) 5 (.step 1 .one (.step 3 .one (.step 6 .one (.step 7 .one (.nil)))))) 5 (.fork 1 (.fork 3 (.step 4 .one (.step 6 .one (.step 7 .one (.nil)))) 4 (.step 3 .one (.step 6 .one (.step 7 .one (.nil))))) 4 (.step 1 .one (.step 3 .one (.step 6 .one (.step 7 .one (.nil))))))))⟩
  | _ => ⟨false, [], .nil⟩
def S183 (v0 : Value) (k : Value → World → Prop) (w : World) : Prop :=
 Do Try.prog (sBox 26 v0) (fun t1 w2 =>
 Do Try.prog (sAlloc 26) (fun t3 w4 =>
 Join (fun K7 =>
 ∃ S5 : World → Prop, ∃ h6 : S5 w4.drew,
 Rd Try.prog ⟨S5, w4.drew, h6⟩ (sLoad 26 t1) fun t10 =>
 Rd Try.prog ⟨S5, w4.drew, h6⟩ (sLoad 26 t1) fun t11 =>
 ((CallK Try.prog 188 [t10] (fun t12 w13 =>
 S5 w13 ∧ ((CallK Try.prog 191 [t11] (fun t14 w15 =>
 S5 w15 ∧ ((Do Try.prog (sAlloc 163) (fun t16 w17 =>
 S5 w17 ∧ Do Try.prog (sAlloc 163) (fun t18 w19 =>
 S5 w19 ∧ Do Try.prog (sStore 163 t16 t12) (fun _ w20 =>
 S5 w20 ∧ Do Try.prog (sStore 163 t18 t14) (fun _ w21 =>
 S5 w21 ∧ K7 (F.upd (F.upd (F.upd (F.upd (F.upd (F.upd (F.upd (F.upd (initF [v0]) 1 t1) 2 t3) 6 t10) 8 t11) 7 t12) 9 t14) 3 t16) 4 t18) w21) w20) w19) w17) w15) ∧
 (Do Try.prog (sAlloc 163) (fun t22 w23 =>
 S5 w23 ∧ Do Try.prog (sAlloc 163) (fun t24 w25 =>
 S5 w25 ∧ Do Try.prog (sStore 163 t24 t12) (fun _ w26 =>
 S5 w26 ∧ Do Try.prog (sStore 163 t22 t14) (fun _ w27 =>
 S5 w27 ∧ K7 (F.upd (F.upd (F.upd (F.upd (F.upd (F.upd (F.upd (F.upd (initF [v0]) 1 t1) 2 t3) 6 t10) 8 t11) 7 t12) 9 t14) 4 t22) 3 t24) w27) w26) w25) w23) w15))) w13) ∧
 (Do Try.prog (sAlloc 163) (fun t28 w29 =>
 S5 w29 ∧ ((CallK Try.prog 191 [t11] (fun t30 w31 =>
 S5 w31 ∧ Do Try.prog (sAlloc 163) (fun t32 w33 =>
 S5 w33 ∧ Do Try.prog (sStore 163 t28 t12) (fun _ w34 =>
 S5 w34 ∧ Do Try.prog (sStore 163 t32 t30) (fun _ w35 =>
 S5 w35 ∧ K7 (F.upd (F.upd (F.upd (F.upd (F.upd (F.upd (F.upd (F.upd (initF [v0]) 1 t1) 2 t3) 6 t10) 8 t11) 7 t12) 3 t28) 9 t30) 4 t32) w35) w34) w33) w31) w29) ∧
 (Do Try.prog (sAlloc 163) (fun t36 w37 =>
 S5 w37 ∧ CallK Try.prog 191 [t11] (fun t38 w39 =>
 S5 w39 ∧ Do Try.prog (sStore 163 t28 t12) (fun _ w40 =>
 S5 w40 ∧ Do Try.prog (sStore 163 t36 t38) (fun _ w41 =>
 S5 w41 ∧ K7 (F.upd (F.upd (F.upd (F.upd (F.upd (F.upd (F.upd (F.upd (initF [v0]) 1 t1) 2 t3) 6 t10) 8 t11) 7 t12) 3 t28) 4 t36) 9 t38) w41) w40) w39) w37) w29))) w13) ∧
 (Do Try.prog (sAlloc 163) (fun t42 w43 =>
 S5 w43 ∧ ((CallK Try.prog 191 [t11] (fun t44 w45 =>
 S5 w45 ∧ Do Try.prog (sAlloc 163) (fun t46 w47 =>
 S5 w47 ∧ Do Try.prog (sStore 163 t46 t12) (fun _ w48 =>
 S5 w48 ∧ Do Try.prog (sStore 163 t42 t44) (fun _ w49 =>
 S5 w49 ∧ K7 (F.upd (F.upd (F.upd (F.upd (F.upd (F.upd (F.upd (F.upd (initF [v0]) 1 t1) 2 t3) 6 t10) 8 t11) 7 t12) 4 t42) 9 t44) 3 t46) w49) w48) w47) w45) w43) ∧
 (Do Try.prog (sAlloc 163) (fun t50 w51 =>
 S5 w51 ∧ CallK Try.prog 191 [t11] (fun t52 w53 =>
 S5 w53 ∧ Do Try.prog (sStore 163 t50 t12) (fun _ w54 =>
 S5 w54 ∧ Do Try.prog (sStore 163 t42 t52) (fun _ w55 =>
 S5 w55 ∧ K7 (F.upd (F.upd (F.upd (F.upd (F.upd (F.upd (F.upd (F.upd (initF [v0]) 1 t1) 2 t3) 6 t10) 8 t11) 7 t12) 4 t42) 3 t50) 9 t52) w55) w54) w53) w51) w43))) w13))) w4.drew) ∧
 (Do Try.prog (sAlloc 163) (fun t56 w57 =>
 S5 w57 ∧ ((CallK Try.prog 188 [t10] (fun t58 w59 =>
 S5 w59 ∧ ((CallK Try.prog 191 [t11] (fun t60 w61 =>
 S5 w61 ∧ Do Try.prog (sAlloc 163) (fun t62 w63 =>
 S5 w63 ∧ Do Try.prog (sStore 163 t56 t58) (fun _ w64 =>
 S5 w64 ∧ Do Try.prog (sStore 163 t62 t60) (fun _ w65 =>
 S5 w65 ∧ K7 (F.upd (F.upd (F.upd (F.upd (F.upd (F.upd (F.upd (F.upd (initF [v0]) 1 t1) 2 t3) 6 t10) 8 t11) 3 t56) 7 t58) 9 t60) 4 t62) w65) w64) w63) w61) w59) ∧
 (Do Try.prog (sAlloc 163) (fun t66 w67 =>
 S5 w67 ∧ CallK Try.prog 191 [t11] (fun t68 w69 =>
 S5 w69 ∧ Do Try.prog (sStore 163 t56 t58) (fun _ w70 =>
 S5 w70 ∧ Do Try.prog (sStore 163 t66 t68) (fun _ w71 =>
 S5 w71 ∧ K7 (F.upd (F.upd (F.upd (F.upd (F.upd (F.upd (F.upd (F.upd (initF [v0]) 1 t1) 2 t3) 6 t10) 8 t11) 3 t56) 7 t58) 4 t66) 9 t68) w71) w70) w69) w67) w59))) w57) ∧
 (Do Try.prog (sAlloc 163) (fun t72 w73 =>
 S5 w73 ∧ CallK Try.prog 188 [t10] (fun t74 w75 =>
 S5 w75 ∧ CallK Try.prog 191 [t11] (fun t76 w77 =>
 S5 w77 ∧ Do Try.prog (sStore 163 t56 t74) (fun _ w78 =>
 S5 w78 ∧ Do Try.prog (sStore 163 t72 t76) (fun _ w79 =>
 S5 w79 ∧ K7 (F.upd (F.upd (F.upd (F.upd (F.upd (F.upd (F.upd (F.upd (initF [v0]) 1 t1) 2 t3) 6 t10) 8 t11) 3 t56) 4 t72) 7 t74) 9 t76) w79) w78) w77) w75) w73) w57))) w4.drew) ∧
 (Do Try.prog (sAlloc 163) (fun t80 w81 =>
 S5 w81 ∧ ((CallK Try.prog 188 [t10] (fun t82 w83 =>
 S5 w83 ∧ ((CallK Try.prog 191 [t11] (fun t84 w85 =>
 S5 w85 ∧ Do Try.prog (sAlloc 163) (fun t86 w87 =>
 S5 w87 ∧ Do Try.prog (sStore 163 t86 t82) (fun _ w88 =>
 S5 w88 ∧ Do Try.prog (sStore 163 t80 t84) (fun _ w89 =>
 S5 w89 ∧ K7 (F.upd (F.upd (F.upd (F.upd (F.upd (F.upd (F.upd (F.upd (initF [v0]) 1 t1) 2 t3) 6 t10) 8 t11) 4 t80) 7 t82) 9 t84) 3 t86) w89) w88) w87) w85) w83) ∧
 (Do Try.prog (sAlloc 163) (fun t90 w91 =>
 S5 w91 ∧ CallK Try.prog 191 [t11] (fun t92 w93 =>
 S5 w93 ∧ Do Try.prog (sStore 163 t90 t82) (fun _ w94 =>
 S5 w94 ∧ Do Try.prog (sStore 163 t80 t92) (fun _ w95 =>
 S5 w95 ∧ K7 (F.upd (F.upd (F.upd (F.upd (F.upd (F.upd (F.upd (F.upd (initF [v0]) 1 t1) 2 t3) 6 t10) 8 t11) 4 t80) 7 t82) 3 t90) 9 t92) w95) w94) w93) w91) w83))) w81) ∧
 (Do Try.prog (sAlloc 163) (fun t96 w97 =>
 S5 w97 ∧ CallK Try.prog 188 [t10] (fun t98 w99 =>
 S5 w99 ∧ CallK Try.prog 191 [t11] (fun t100 w101 =>
 S5 w101 ∧ Do Try.prog (sStore 163 t96 t98) (fun _ w102 =>
 S5 w102 ∧ Do Try.prog (sStore 163 t80 t100) (fun _ w103 =>
 S5 w103 ∧ K7 (F.upd (F.upd (F.upd (F.upd (F.upd (F.upd (F.upd (F.upd (initF [v0]) 1 t1) 2 t3) 6 t10) 8 t11) 4 t80) 3 t96) 7 t98) 9 t100) w103) w102) w101) w99) w97) w81))) w4.drew))) (fun f8 w9 =>
 Rd Try.prog (WS.at w9) (sLoad 26 (f8 1)) fun t104 =>
 CallK Try.prog 234 [t104] (fun t105 w106 =>
 Do Try.prog (sAlloc 26) (fun t107 w108 =>
 Do Try.prog (sStore 26 t107 t105) (fun _ w109 =>
 Rd Try.prog (WS.at w109) (sFieldAddr 26 t107 2) fun t110 =>
 Rd Try.prog (WS.at w109) (sLoad 24 t110) fun t111 =>
 Rd Try.prog (WS.at w109) (sMakeFunc (.func 265) [] [(f8 4), (f8 3)]) fun t112 =>
 CallK Try.prog 264 [t111, t112] (fun t113 w114 =>
 Rd Try.prog (WS.at w114) (sFieldAddr 26 t107 2) fun t115 =>
 Do Try.prog (sStore 24 t115 t113) (fun _ w116 =>
 Rd Try.prog (WS.at w116) (sLoad 26 t107) fun t117 =>
 CallK Try.prog 191 [t117] (fun t118 w119 =>
 Do Try.prog (sStore 163 (f8 4) t118) (fun _ w120 =>
 Rd Try.prog (WS.at w120) (sFieldAddr 26 t107 2) fun t121 =>
 Rd Try.prog (WS.at w120) (sLoad 24 t121) fun t122 =>
 Rd Try.prog (WS.at w120) (sMakeFunc (.func 267) [] [(f8 4)]) fun t123 =>
 CallK Try.prog 264 [t122, t123] (fun t124 w125 =>
 Rd Try.prog (WS.at w125) (sFieldAddr 26 t107 2) fun t126 =>
 Do Try.prog (sStore 24 t126 t124) (fun _ w127 =>
 Rd Try.prog (WS.at w127) (sLoad 26 t107) fun t128 =>
 Do Try.prog (sStore 26 (f8 2) t128) (fun _ w129 =>
 Rd Try.prog (WS.at w129) (sLoadVar 26 (f8 2)) fun t130 => k t130 w129) w127) w125) w120) w119) w116) w114) w109) w108) w106) w9)) w2) w
theorem body183 : Try.f183.body = some (bodyOf Try.f183) := by kernel_rfl
theorem same183 (v0 : Value) (k : Value → World → Prop) (w : World) : X.wpF Try.prog pl183 (bodyOf Try.f183) (bodyQ Try.prog Try.f183.results.toList k) (initF [v0]) w = S183 v0 k w := by kernel_rfl
theorem enter183 {v0 : Value} {k : Value → World → Prop} {w : World} (h : S183 v0 k w) : CallK Try.prog 183 [v0] k w :=
  X.call_of_wpF (pl := pl183) mixed Try.func183 body183 (by kernel_rfl) (of_decide_eq_true (by kernel_rfl)) (by kernel_rfl) (by kernel_rfl) (Eq.mpr (same183 v0 k w) h)

/-! (loop.example/g00758/impl.Grammar).useful$1 -/
def pl265 : Plans := fun _ => ⟨false, [], .nil⟩
def S265 (v0 v1 v2 : Value) (k : Value → World → Prop) (w : World) : Prop :=
 Do Try.prog (sBox 33 v0) (fun t1 w2 =>
 Rd Try.prog (WS.at w2) (sFieldAddr 33 t1 0) fun t3 =>
 Rd Try.prog (WS.at w2) (sLoad 3 t3) fun t4 =>
 Rd Try.prog (WS.at w2) (sIndexAddr 163 v1 t4) fun t5 =>
 Rd Try.prog (WS.at w2) (sLoad 4 t5) fun t6 =>
 Rd Try.prog (WS.at w2) (sUn .not t6) fun t7 =>
 GuardK t7 false (fun k w' => Rd Try.prog (WS.at w2) (sFieldAddr 33 t1 0) fun v => k v w') (fun t8 w9 =>
 GuardK t7 false (fun k w' => Rd Try.prog (WS.at w9) (sLoad 3 t8) fun v => k v w') (fun t10 w11 =>
 GuardK t7 false (fun k w' => Rd Try.prog (WS.at w11) (sIndexAddr 163 v2 t10) fun v => k v w') (fun t12 w13 =>
 GuardK t7 false (fun k w' => Rd Try.prog (WS.at w13) (sLoad 4 t12) fun v => k v w') (fun t14 w15 =>
 GuardK t7 false (fun k w' => Rd Try.prog (WS.at w15) (sUn .not t14) fun v => k v w') (fun t16 w17 =>
 Rd Try.prog (WS.at w17) (sPick t7 (.bool true) t16) fun t18 =>
 GuardK t18 false (fun k w' => Rd Try.prog (WS.at w17) (sFieldAddr 33 t1 1) fun v => k v w') (fun t19 w20 =>
 GuardK t18 false (fun k w' => Rd Try.prog (WS.at w20) (sLoad 27 t19) fun v => k v w') (fun t21 w22 =>
 GuardK t18 false (fun k w' => Rd Try.prog (WS.at w22) (sMakeFunc (.func 266) [] [v2]) fun v => k v w') (fun t23 w24 =>
 GuardK t18 false (fun k w' => CallK Try.prog 250 [t21, t23] k w') (fun t25 w26 =>
 Rd Try.prog (WS.at w26) (sPick t18 (.bool true) t25) fun t27 =>
 k t27 w26) w24) w22) w20) w17) w15) w13) w11) w9) w2) w
theorem body265 : Try.f265.body = some (bodyOf Try.f265) := by kernel_rfl
theorem same265 (v0 v1 v2 : Value) (k : Value → World → Prop) (w : World) : wpF Try.prog pl265 (bodyOf Try.f265) (bodyQ Try.prog Try.f265.results.toList k) (initF [v0, v1, v2]) w = S265 v0 v1 v2 k w := by kernel_rfl
theorem enter265 {v0 v1 v2 : Value} {k : Value → World → Prop} {w : World} (h : S265 v0 v1 v2 k w) : CallK Try.prog 265 [v0, v1, v2] k w :=
  call_of_wpF (pl := pl265) mixed Try.func265 body265 (by kernel_rfl) (of_decide_eq_true (by kernel_rfl)) (by kernel_rfl) (by kernel_rfl) (Eq.mpr (same265 v0 v1 v2 k w) h)

/-! (loop.example/g00758/impl.Grammar).useful$1$1 -/
def pl266 : Plans := fun _ => ⟨false, [], .nil⟩
def S266 (v0 v1 : Value) (k : Value → World → Prop) (w : World) : Prop :=
 Rd Try.prog (WS.at w) (sBin .geq 3 true v0 (.int .i64 0)) fun t1 =>
 GuardK t1 true (fun k w' => k v0 w') (fun t2 w3 =>
 GuardK t1 true (fun k w' => Rd Try.prog (WS.at w3) (sIndexAddr 163 v1 t2) fun v => k v w') (fun t4 w5 =>
 GuardK t1 true (fun k w' => Rd Try.prog (WS.at w5) (sLoad 4 t4) fun v => k v w') (fun t6 w7 =>
 GuardK t1 true (fun k w' => Rd Try.prog (WS.at w7) (sUn .not t6) fun v => k v w') (fun t8 w9 =>
 Rd Try.prog (WS.at w9) (sPick t1 t8 (.bool false)) fun t10 =>
 k t10 w9) w7) w5) w3) w
theorem body266 : Try.f266.body = some (bodyOf Try.f266) := by kernel_rfl
theorem same266 (v0 v1 : Value) (k : Value → World → Prop) (w : World) : wpF Try.prog pl266 (bodyOf Try.f266) (bodyQ Try.prog Try.f266.results.toList k) (initF [v0, v1]) w = S266 v0 v1 k w := by kernel_rfl
theorem enter266 {v0 v1 : Value} {k : Value → World → Prop} {w : World} (h : S266 v0 v1 k w) : CallK Try.prog 266 [v0, v1] k w :=
  call_of_wpF (pl := pl266) mixed Try.func266 body266 (by kernel_rfl) (of_decide_eq_true (by kernel_rfl)) (by kernel_rfl) (by kernel_rfl) (Eq.mpr (same266 v0 v1 k w) h)

/-! (loop.example/g00758/impl.Grammar).useful$2 -/
def pl267 : Plans := fun _ => ⟨false, [], .nil⟩
def S267 (v0 v1 : Value) (k : Value → World → Prop) (w : World) : Prop :=
 Do Try.prog (sBox 33 v0) (fun t1 w2 =>
 Rd Try.prog (WS.at w2) (sFieldAddr 33 t1 0) fun t3 =>
 Rd Try.prog (WS.at w2) (sLoad 3 t3) fun t4 =>
 Rd Try.prog (WS.at w2) (sIndexAddr 163 v1 t4) fun t5 =>
 Rd Try.prog (WS.at w2) (sLoad 4 t5) fun t6 =>
 Rd Try.prog (WS.at w2) (sUn .not t6) fun t7 =>
 k t7 w2) w
theorem body267 : Try.f267.body = some (bodyOf Try.f267) := by kernel_rfl
theorem same267 (v0 v1 : Value) (k : Value → World → Prop) (w : World) : wpF Try.prog pl267 (bodyOf Try.f267) (bodyQ Try.prog Try.f267.results.toList k) (initF [v0, v1]) w = S267 v0 v1 k w := by kernel_rfl
theorem enter267 {v0 v1 : Value} {k : Value → World → Prop} {w : World} (h : S267 v0 v1 k w) : CallK Try.prog 267 [v0, v1] k w :=
  call_of_wpF (pl := pl267) mixed Try.func267 body267 (by kernel_rfl) (of_decide_eq_true (by kernel_rfl)) (by kernel_rfl) (by kernel_rfl) (Eq.mpr (same267 v0 v1 k w) h)

/-! slices.DeleteFunc[[]loop.example/g00758/impl.Rule,loop.example/g00758/impl.Rule] -/
def pl264 : Plans := fun _ => ⟨false, [], .nil⟩
def S264 (v0 v1 : Value) (k : Value → World → Prop) (w : World) : Prop :=
 CallK Try.prog 305 [v0, v1] (fun t1 w2 =>
 Rd Try.prog (WS.at w2) (sBin .eql 3 true t1 (.int .i64 (-1))) fun t3 =>
 CondK t3
  (k v0 w2)
  (Rd Try.prog (WS.at w2) (sBin .add 3 true t1 (.int .i64 1)) fun t4 =>
  LoopF [16, 17, 18, 19, 22, 23, 24, 25, 7, 26, 27, 28, 29, 30, 31, 32, 33, 34, 35, 5, 20, 21, 6] (fun Q5 f6 w7 =>
   Rd Try.prog (WS.at w7) (sBuiltin .len #[24] 3 [false] [(f6 0)]) fun t8 =>
   Rd Try.prog (WS.at w7) (sBin .lss 3 false (f6 6) t8) fun t9 =>
   CondK t9
    (Join (fun K10 =>
    Rd Try.prog (WS.at w7) (sIndexAddr 24 (f6 0) (f6 6)) fun t13 =>
    Rd Try.prog (WS.at w7) (sLoad 33 t13) fun t14 =>
    Do Try.prog (sAlloc 33) (fun t15 w16 =>
    Do Try.prog (sStore 33 t15 t14) (fun _ w17 =>
    Rd Try.prog (WS.at w17) (sLoad 33 t15) fun t18 =>
    Do Try.prog (sCallV (f6 1) [t18] 4) (fun t19 w20 =>
    Rd Try.prog (WS.at w20) (sUn .not t19) fun t21 =>
    CondK t21
     (Rd Try.prog (WS.at w20) (sLoad 33 t15) fun t22 =>
     Rd Try.prog (WS.at w20) (sIndexAddr 24 (f6 0) (f6 5)) fun t23 =>
     Do Try.prog (sStore 33 t23 t22) (fun _ w24 =>
     Rd Try.prog (WS.at w24) (sBin .add 3 true (f6 5) (.int .i64 1)) fun t25 =>
     K10 (F.upd (F.upd (F.upd (F.upd (F.upd (F.upd (F.upd (F.upd (F.upd (F.upd (F.upd (F.upd (F.upd (F.upd (F.upd (F.upd (F.upd (F.upd (F.upd (F.upd f6 16 (f6 6)) 17 (f6 0)) 18 t8) 19 t9) 22 (f6 0)) 23 (f6 6)) 24 t13) 25 t14) 7 t15) 26 (f6 1)) 27 t18) 28 t19) 29 t21) 30 (f6 0)) 31 (f6 5)) 32 t22) 33 t23) 34 (f6 5)) 35 t25) 5 t25) w24) w20)
     (K10 (F.upd (F.upd (F.upd (F.upd (F.upd (F.upd (F.upd (F.upd (F.upd (F.upd (F.upd (F.upd (F.upd f6 16 (f6 6)) 17 (f6 0)) 18 t8) 19 t9) 22 (f6 0)) 23 (f6 6)) 24 t13) 25 t14) 7 t15) 26 (f6 1)) 27 t18) 28 t19) 29 t21) w20)) w17) w16) w7) (fun f11 w12 =>
    Rd Try.prog (WS.at w12) (sBin .add 3 true (f11 6) (.int .i64 1)) fun t26 =>
    Q5 .normal (F.upd (F.upd (F.upd f11 20 (f11 6)) 21 t26) 6 t26) w12))
    (Q5 (.exit 0) (F.upd (F.upd (F.upd (F.upd f6 16 (f6 6)) 17 (f6 0)) 18 t8) 19 t9) w7))
   (blockQ 0 (seqQ (fun f27 w28 =>
  Rd Try.prog (WS.at w28) (sSlice 24 (f27 0) (some (f27 5)) none none) fun t29 =>
  Do Try.prog (sBuiltin .clear #[24] 0 [false] [t29]) (fun _ w30 =>
  Rd Try.prog (WS.at w30) (sSlice 24 (f27 0) none (some (f27 5)) none) fun t31 =>
  k t31 w30) w28) (bodyQ Try.prog [.tmp 4] k)))
   (F.upd (F.upd (F.upd (F.upd (F.upd (F.upd (F.upd (F.upd (F.upd (F.upd (initF [v0, v1]) 4 (.slice none 0 0)) 8 v0) 9 v1) 10 t1) 5 t1) 11 t1) 12 t3) 14 t1) 15 t4) 6 t4) w2)) w
theorem body264 : Try.f264.body = some (bodyOf Try.f264) := by kernel_rfl
theorem same264 (v0 v1 : Value) (k : Value → World → Prop) (w : World) : wpF Try.prog pl264 (bodyOf Try.f264) (bodyQ Try.prog Try.f264.results.toList k) (initF [v0, v1]) w = S264 v0 v1 k w := by kernel_rfl
theorem enter264 {v0 v1 : Value} {k : Value → World → Prop} {w : World} (h : S264 v0 v1 k w) : CallK Try.prog 264 [v0, v1] k w :=
  call_of_wpF (pl := pl264) mixed Try.func264 body264 (by kernel_rfl) (of_decide_eq_true (by kernel_rfl)) (by kernel_rfl) (by kernel_rfl) (Eq.mpr (same264 v0 v1 k w) h)

/-! loop.example/g00758/impl.UsefulOf -/
def pl63 : Plans := fun _ => ⟨false, [], .nil⟩
def S63 (v0 : Value) (k : Value → World → Prop) (w : World) : Prop :=
 Do Try.prog (sBox 26 v0) (fun t1 w2 =>
 Do Try.prog (sAlloc 26) (fun t3 w4 =>
 Rd Try.prog (WS.at w4) (sLoad 26 t1) fun t5 =>
 CallK Try.prog 148 [t5] (fun t6 w7 =>
 Rd Try.prog (WS.at w7) (sUn .not t6) fun t8 =>
 CondK t8
  (Rd Try.prog (WS.at w7) (sBuild 26 []) fun t9 =>
  Do Try.prog (sStore 26 t3 t9) (fun _ w10 =>
  Rd Try.prog (WS.at w10) (sLoadVar 26 t3) fun t11 => k (.tuple #[t11, (.bool false)]) w10) w7)
  (Rd Try.prog (WS.at w7) (sLoad 26 t1) fun t12 =>
  CallK Try.prog 183 [t12] (fun t13 w14 =>
  Do Try.prog (sStore 26 t3 t13) (fun _ w15 =>
  Rd Try.prog (WS.at w15) (sLoadVar 26 t3) fun t16 => k (.tuple #[t16, (.bool true)]) w15) w14) w7)) w4) w2) w
theorem body63 : Try.f63.body = some (bodyOf Try.f63) := by kernel_rfl
theorem same63 (v0 : Value) (k : Value → World → Prop) (w : World) : wpF Try.prog pl63 (bodyOf Try.f63) (bodyQ Try.prog Try.f63.results.toList k) (initF [v0]) w = S63 v0 k w := by kernel_rfl
theorem enter63 {v0 : Value} {k : Value → World → Prop} {w : World} (h : S63 v0 k w) : CallK Try.prog 63 [v0] k w :=
  call_of_wpF (pl := pl63) mixed Try.func63 body63 (by kernel_rfl) (of_decide_eq_true (by kernel_rfl)) (by kernel_rfl) (by kernel_rfl) (Eq.mpr (same63 v0 k w) h)

/-! loop.example/g00758/impl.IsUseful -/
end Go.Proofs.Ytegcjkhebecgbaa

/- Contract: slices.DeleteFunc at rules. -/
set_option linter.unusedVariables false
set_option linter.unusedSimpArgs false
set_option maxRecDepth 100000
namespace Go.Sh
open Go
theorem filter_all_rul {p : RuleL → Bool} {rs : List RuleL} {m : Nat} (h : ∀ j, j < m → p (rul rs j) = true) (hm : m ≤ rs.length) : (rs.take m).filter p = rs.take m := by
  rw [List.filter_eq_self]
  intro r hr
  obtain ⟨j, hj, rfl⟩ := List.getElem_of_mem hr
  rw [List.length_take] at hj
  have := h j (by omega)
  rw [rul_eq (by omega)] at this
  rwa [List.getElem_take]
theorem rul_drop {rs qs : List RuleL} {j : Nat} (h : rs.drop j = qs.drop j) : rul rs j = rul qs j := by
  have := congrArg (fun l : List RuleL => l[0]?) h
  simp only [List.getElem?_drop, Nat.add_zero] at this
  unfold rul
  rw [List.getD_eq_getElem?_getD, List.getD_eq_getElem?_getD, this]
end Go.Sh
namespace Go.Proofs.Ytegcjkhebecgbaa
open Go Go.Sh Go.RowKit
section
variable {w0 w : World} {k : Value → World → Prop}
/-- A function value that tells of each of some rules. -/
def Telling (fv : Value) (p : RuleL → Bool) (rs : List RuleL) (Q : World → Prop) : Prop := ∀ w1, Q w1 → ∀ r, r ∈ rs → ∀ (Z : Option Addr) (d : Nat) (k : Value → World → Prop), kI Z r.2 d w1 → (∀ w2, Gr w1 w2 → k (.bool (p r)) w2) →
  Do Try.prog (sCallV fv [.agg #[.int .i64 r.1, .slice Z r.2.length d]] 4) k w1
theorem indexFuncRD_c {F : Nat → Prop} {X : Option Addr} {c : Nat} {rs : List RuleL} {fv : Value} {p : RuleL → Bool} {Q : World → Prop} (hx : RulesF F w X rs) (hq : ∀ w', Gr w w' → Q w') (hp : Telling fv p rs Q)
    (hk : ∀ (r : Int) w', Gr w w' → ((r = -1 ∧ ∀ j, j < rs.length → p (rul rs j) = false) ∨ ∃ i : Nat, i < rs.length ∧ r = i ∧ p (rul rs i) = true ∧ ∀ j, j < i → p (rul rs j) = false) → k (.int .i64 r) w') :
    CallK Try.prog 305 [.slice X rs.length c, fv] k w := by
  refine enter305 ?_
  unfold S305
  simp only [bin_add, bin_sub, bin_mul, bin_eql, bin_neq, bin_lss, bin_leq, bin_gtr, bin_geq, un_not, un_neg, zq4, zq3, zq1, zq2, zq0, cond_true', cond_false', zq14, zq15, zq16, zq17, zq13, zq10, zq12, zq11, zq7, zq5, zq6, zq9, zq8, resK_nil, resK_tmp, ite_T, ite_F, upd_at, add_plain, add_zero', Nat.reduceEqDiff, fa8_0, fa8_1, fa8_2, fa8_3, fa14_0, fa14_1, fa19_0, len22, len24, fa26_0, fa26_1, fa26_2, len27, fa33_0, fa33_1, len35, fa77_0, fa77_1, fa88_0, fa88_1, fa88_2, fa88_3, fa88_4, fa88_5, fa114_0, fa114_1, fa114_2, fa124_0, fa124_1, len134, len136, len154, fa156_0, fa156_1, fa156_2, fa156_3, fa156_4, fa156_5, fa156_6, fa184_0, fa184_1, fa200_0, fa200_1, fa200_2, fa200_3, fa215_0, fa215_1, fa215_2, fa215_3, fa215_4, len218, len271, fa274_0, fa274_1, fa274_2, fa303_0, fa303_1, fa303_2, fa303_3, fa314_0, fa314_1, fa314_2, fa314_3, fa314_4, fa314_5, fa314_6, fa314_7, fa314_8, fa314_9, fa314_10]
  refine loop_to rs.length 0 (fun i f w' => i ≤ rs.length ∧ f 8 = .int .i64 (i : Int) ∧ Gr w w' ∧ ∀ j, j < i → p (rul rs j) = false) ⟨Nat.zero_le _, rfl, Gr.refl w, fun j hj => absurd hj (Nat.not_lt_zero j)⟩ ?_
  rintro i f w1 N hag ⟨hi, h8, hg, hpre⟩ hN
  have f0 : f 0 = .slice X rs.length c := hag 0 (by decide)
  have f1 : f 1 = fv := hag 1 (by decide)
  have f7 : f 7 = .int .i64 rs.length := hag 7 (by decide)
  simp only [f0, f1, f7, h8, bin_add, bin_sub, bin_mul, bin_eql, bin_neq, bin_lss, bin_leq, bin_gtr, bin_geq, un_not, un_neg, zq4, zq3, zq1, zq2, zq0, cond_true', cond_false', zq14, zq15, zq16, zq17, zq13, zq10, zq12, zq11, zq7, zq5, zq6, zq9, zq8, resK_nil, resK_tmp, ite_T, ite_F, upd_at, add_plain, add_zero', Nat.reduceEqDiff, fa8_0, fa8_1, fa8_2, fa8_3, fa14_0, fa14_1, fa19_0, len22, len24, fa26_0, fa26_1, fa26_2, len27, fa33_0, fa33_1, len35, fa77_0, fa77_1, fa88_0, fa88_1, fa88_2, fa88_3, fa88_4, fa88_5, fa114_0, fa114_1, fa114_2, fa124_0, fa124_1, len134, len136, len154, fa156_0, fa156_1, fa156_2, fa156_3, fa156_4, fa156_5, fa156_6, fa184_0, fa184_1, fa200_0, fa200_1, fa200_2, fa200_3, fa215_0, fa215_1, fa215_2, fa215_3, fa215_4, len218, len271, fa274_0, fa274_1, fa274_2, fa303_0, fa303_1, fa303_2, fa303_3, fa314_0, fa314_1, fa314_2, fa314_3, fa314_4, fa314_5, fa314_6, fa314_7, fa314_8, fa314_9, fa314_10]
  by_cases hlt : i < rs.length
  · have hlt' : (i : Int) < rs.length := by omega
    have := hx.le
    simp only [hlt', decide_true, bin_add, bin_sub, bin_mul, bin_eql, bin_neq, bin_lss, bin_leq, bin_gtr, bin_geq, un_not, un_neg, zq4, zq3, zq1, zq2, zq0, cond_true', cond_false', zq14, zq15, zq16, zq17, zq13, zq10, zq12, zq11, zq7, zq5, zq6, zq9, zq8, resK_nil, resK_tmp, ite_T, ite_F, upd_at, add_plain, add_zero', Nat.reduceEqDiff, fa8_0, fa8_1, fa8_2, fa8_3, fa14_0, fa14_1, fa19_0, len22, len24, fa26_0, fa26_1, fa26_2, len27, fa33_0, fa33_1, len35, fa77_0, fa77_1, fa88_0, fa88_1, fa88_2, fa88_3, fa88_4, fa88_5, fa114_0, fa114_1, fa114_2, fa124_0, fa124_1, len134, len136, len154, fa156_0, fa156_1, fa156_2, fa156_3, fa156_4, fa156_5, fa156_6, fa184_0, fa184_1, fa200_0, fa200_1, fa200_2, fa200_3, fa215_0, fa215_1, fa215_2, fa215_3, fa215_4, len218, len271, fa274_0, fa274_1, fa274_2, fa303_0, fa303_1, fa303_2, fa303_3, fa314_0, fa314_1, fa314_2, fa314_3, fa314_4, fa314_5, fa314_6, fa314_7, fa314_8, fa314_9, fa314_10]
    rw [ixn24 hx.ptr hlt]
    refine ld_rule0 agg33 sz33 hx hg hlt fun Z cz hcz hZ => ?_
    refine hp w1 (hq w1 hg) _ (by rw [rul_eq hlt]; exact List.getElem_mem hlt) Z cz _ ⟨hZ.gr hg, hcz⟩ fun w2 g2 => ?_
    have g2' := gr_trans hg g2
    cases hb : p (rul rs i)
    · simp only [bin_add, bin_sub, bin_mul, bin_eql, bin_neq, bin_lss, bin_leq, bin_gtr, bin_geq, un_not, un_neg, zq4, zq3, zq1, zq2, zq0, cond_true', cond_false', zq14, zq15, zq16, zq17, zq13, zq10, zq12, zq11, zq7, zq5, zq6, zq9, zq8, resK_nil, resK_tmp, ite_T, ite_F, upd_at, add_plain, add_zero', Nat.reduceEqDiff, fa8_0, fa8_1, fa8_2, fa8_3, fa14_0, fa14_1, fa19_0, len22, len24, fa26_0, fa26_1, fa26_2, len27, fa33_0, fa33_1, len35, fa77_0, fa77_1, fa88_0, fa88_1, fa88_2, fa88_3, fa88_4, fa88_5, fa114_0, fa114_1, fa114_2, fa124_0, fa124_1, len134, len136, len154, fa156_0, fa156_1, fa156_2, fa156_3, fa156_4, fa156_5, fa156_6, fa184_0, fa184_1, fa200_0, fa200_1, fa200_2, fa200_3, fa215_0, fa215_1, fa215_2, fa215_3, fa215_4, len218, len271, fa274_0, fa274_1, fa274_2, fa303_0, fa303_1, fa303_2, fa303_3, fa314_0, fa314_1, fa314_2, fa314_3, fa314_4, fa314_5, fa314_6, fa314_7, fa314_8, fa314_9, fa314_10]
      rw [i64_of (by omega) (by omega)]
      refine hN _ _ hlt ⟨hlt, rfl, g2', fun j hj => ?_⟩
      rcases Nat.lt_succ_iff_lt_or_eq.1 hj with h | rfl
      · exact hpre j h
      · exact hb
    · simp only [bin_add, bin_sub, bin_mul, bin_eql, bin_neq, bin_lss, bin_leq, bin_gtr, bin_geq, un_not, un_neg, zq4, zq3, zq1, zq2, zq0, cond_true', cond_false', zq14, zq15, zq16, zq17, zq13, zq10, zq12, zq11, zq7, zq5, zq6, zq9, zq8, resK_nil, resK_tmp, ite_T, ite_F, upd_at, add_plain, add_zero', Nat.reduceEqDiff, fa8_0, fa8_1, fa8_2, fa8_3, fa14_0, fa14_1, fa19_0, len22, len24, fa26_0, fa26_1, fa26_2, len27, fa33_0, fa33_1, len35, fa77_0, fa77_1, fa88_0, fa88_1, fa88_2, fa88_3, fa88_4, fa88_5, fa114_0, fa114_1, fa114_2, fa124_0, fa124_1, len134, len136, len154, fa156_0, fa156_1, fa156_2, fa156_3, fa156_4, fa156_5, fa156_6, fa184_0, fa184_1, fa200_0, fa200_1, fa200_2, fa200_3, fa215_0, fa215_1, fa215_2, fa215_3, fa215_4, len218, len271, fa274_0, fa274_1, fa274_2, fa303_0, fa303_1, fa303_2, fa303_3, fa314_0, fa314_1, fa314_2, fa314_3, fa314_4, fa314_5, fa314_6, fa314_7, fa314_8, fa314_9, fa314_10]
      exact hk i w2 g2' (.inr ⟨i, hlt, rfl, hb, hpre⟩)
  · simp only [show ¬ (i : Int) < rs.length from by omega, decide_false, bin_add, bin_sub, bin_mul, bin_eql, bin_neq, bin_lss, bin_leq, bin_gtr, bin_geq, un_not, un_neg, zq4, zq3, zq1, zq2, zq0, cond_true', cond_false', zq14, zq15, zq16, zq17, zq13, zq10, zq12, zq11, zq7, zq5, zq6, zq9, zq8, resK_nil, resK_tmp, ite_T, ite_F, upd_at, add_plain, add_zero', Nat.reduceEqDiff, fa8_0, fa8_1, fa8_2, fa8_3, fa14_0, fa14_1, fa19_0, len22, len24, fa26_0, fa26_1, fa26_2, len27, fa33_0, fa33_1, len35, fa77_0, fa77_1, fa88_0, fa88_1, fa88_2, fa88_3, fa88_4, fa88_5, fa114_0, fa114_1, fa114_2, fa124_0, fa124_1, len134, len136, len154, fa156_0, fa156_1, fa156_2, fa156_3, fa156_4, fa156_5, fa156_6, fa184_0, fa184_1, fa200_0, fa200_1, fa200_2, fa200_3, fa215_0, fa215_1, fa215_2, fa215_3, fa215_4, len218, len271, fa274_0, fa274_1, fa274_2, fa303_0, fa303_1, fa303_2, fa303_3, fa314_0, fa314_1, fa314_2, fa314_3, fa314_4, fa314_5, fa314_6, fa314_7, fa314_8, fa314_9, fa314_10]
    exact hk (-1) w1 hg (.inl ⟨rfl, fun j hj => hpre j (by omega)⟩)
/-- A rule of the call's own is read. -/
theorem ld_gow {L : List Thing} (H : Apt w0 w L) (i : Nat) {X : Option Addr} {c j : Nat} {rs : List RuleL} {ft : Nat → Prop} (hi : L[i]? = some (gth ft X c rs)) (hj : j < rs.length) {k : Value → Prop}
    (hk : ∀ Z d, (rul rs j).2.length ≤ d → IntsF (fun q => ft q ∧ blk X ≠ some q) w Z (rul rs j).2 → k (.agg #[.int .i64 (rul rs j).1, .slice Z (rul rs j).2.length d])) : Rd Try.prog (WS.at w) (sLoad 33 (.pointer (some ((ad X).add (j * 2))))) k := by
  obtain ⟨cells, hrow, hrc⟩ := H.gow i hi
  obtain ⟨Z, d, a1, a2, a3, a4⟩ := hrc.cell j hj
  have h1 := hrow.src.cell _ _ a1
  have h2 := hrow.src.cell _ _ a2
  rw [ld_agg agg33 sz33 (cs := [.int .i64 (rul rs j).1, .slice Z (rul rs j).2.length d]) rfl]
  · exact hk _ _ a3 a4
  · intro i hi
    match i, hi with
    | 0, _ => rw [add_add, Nat.add_zero]; exact h1
    | 1, _ => rw [add_add]; exact h2
set_option maxHeartbeats 6400000 in
theorem deleteFunc_c {E : List Thing} {X : Option Addr} {c : Nat} {rs : List RuleL} {ft : Nat → Prop} {fv : Value} {p : RuleL → Bool} {Q : World → Prop} (H : Apt w0 w (gth ft X c rs :: E)) (hq : ∀ w' cur, Apt w0 w' (gth ft X c cur :: E) → Q w') (hp : Telling fv p rs Q)
    (hk : ∀ w', Apt w0 w' (gth ft X c (rs.filter fun r => !p r) :: E) → k (.slice X (rs.filter fun r => !p r).length c) w') :
    CallK Try.prog 264 [.slice X rs.length c, fv] k w := by
  refine enter264 ?_
  unfold S264
  have hR := (gowK (H.gow 0 rfl)).2
  have hc := (gowK (H.gow 0 rfl)).1
  have hle := hR.le
  refine indexFuncRD_c hR (fun w' g => hq w' rs (H.step g)) hp fun r w1 g hr => ?_
  have H := H.step g
  rcases hr with ⟨rfl, hno⟩ | ⟨i0, hi0, rfl, hyes, hpre⟩
  · simp only [decide_true, bin_add, bin_sub, bin_mul, bin_eql, bin_neq, bin_lss, bin_leq, bin_gtr, bin_geq, un_not, un_neg, zq4, zq3, zq1, zq2, zq0, cond_true', cond_false', zq14, zq15, zq16, zq17, zq13, zq10, zq12, zq11, zq7, zq5, zq6, zq9, zq8, resK_nil, resK_tmp, ite_T, ite_F, upd_at, add_plain, add_zero', Nat.reduceEqDiff, fa8_0, fa8_1, fa8_2, fa8_3, fa14_0, fa14_1, fa19_0, len22, len24, fa26_0, fa26_1, fa26_2, len27, fa33_0, fa33_1, len35, fa77_0, fa77_1, fa88_0, fa88_1, fa88_2, fa88_3, fa88_4, fa88_5, fa114_0, fa114_1, fa114_2, fa124_0, fa124_1, len134, len136, len154, fa156_0, fa156_1, fa156_2, fa156_3, fa156_4, fa156_5, fa156_6, fa184_0, fa184_1, fa200_0, fa200_1, fa200_2, fa200_3, fa215_0, fa215_1, fa215_2, fa215_3, fa215_4, len218, len271, fa274_0, fa274_1, fa274_2, fa303_0, fa303_1, fa303_2, fa303_3, fa314_0, fa314_1, fa314_2, fa314_3, fa314_4, fa314_5, fa314_6, fa314_7, fa314_8, fa314_9, fa314_10]
    have e : (rs.filter fun r => !p r) = rs := by
      have := filter_all_rul (p := fun r => !p r) (rs := rs) (m := rs.length) (fun j hj => by rw [hno j hj]; rfl) (Nat.le_refl _)
      rwa [List.take_length] at this
    rw [e] at hk
    exact hk w1 H
  simp only [show ¬ ((i0 : Int) = -1) from by omega, decide_false, bin_add, bin_sub, bin_mul, bin_eql, bin_neq, bin_lss, bin_leq, bin_gtr, bin_geq, un_not, un_neg, zq4, zq3, zq1, zq2, zq0, cond_true', cond_false', zq14, zq15, zq16, zq17, zq13, zq10, zq12, zq11, zq7, zq5, zq6, zq9, zq8, resK_nil, resK_tmp, ite_T, ite_F, upd_at, add_plain, add_zero', Nat.reduceEqDiff, fa8_0, fa8_1, fa8_2, fa8_3, fa14_0, fa14_1, fa19_0, len22, len24, fa26_0, fa26_1, fa26_2, len27, fa33_0, fa33_1, len35, fa77_0, fa77_1, fa88_0, fa88_1, fa88_2, fa88_3, fa88_4, fa88_5, fa114_0, fa114_1, fa114_2, fa124_0, fa124_1, len134, len136, len154, fa156_0, fa156_1, fa156_2, fa156_3, fa156_4, fa156_5, fa156_6, fa184_0, fa184_1, fa200_0, fa200_1, fa200_2, fa200_3, fa215_0, fa215_1, fa215_2, fa215_3, fa215_4, len218, len271, fa274_0, fa274_1, fa274_2, fa303_0, fa303_1, fa303_2, fa303_3, fa314_0, fa314_1, fa314_2, fa314_3, fa314_4, fa314_5, fa314_6, fa314_7, fa314_8, fa314_9, fa314_10]
  rw [i64_of (by omega) (by omega)]
  refine loop_to rs.length (i0 + 1) (fun j f w' => j ≤ rs.length ∧ f 6 = .int .i64 (j : Int) ∧ ∃ (i : Nat) (cur : List RuleL), f 5 = .int .i64 (i : Int) ∧ i ≤ j ∧ cur.length = rs.length ∧ cur.take i = (rs.take j).filter (fun r => !p r) ∧ cur.drop j = rs.drop j ∧ Apt w0 w' (gth ft X c cur :: E))
    ⟨by omega, rfl, i0, rs, rfl, by omega, rfl, ?_, rfl, H⟩ ?_
  · rw [filter_take_succ hi0, hyes, filter_all_rul (fun j hj => by rw [hpre j hj]; rfl) (by omega)]
    simp
  clear H
  rintro j f w2 N hag ⟨hj, f6, i, cur, f5, hij, hcl, htk, hdr, H⟩ hN
  have f0 : f 0 = .slice X rs.length c := hag 0 (by decide)
  have f1 : f 1 = fv := hag 1 (by decide)
  simp only [f0, f1, f5, f6, bin_add, bin_sub, bin_mul, bin_eql, bin_neq, bin_lss, bin_leq, bin_gtr, bin_geq, un_not, un_neg, zq4, zq3, zq1, zq2, zq0, cond_true', cond_false', zq14, zq15, zq16, zq17, zq13, zq10, zq12, zq11, zq7, zq5, zq6, zq9, zq8, resK_nil, resK_tmp, ite_T, ite_F, upd_at, add_plain, add_zero', Nat.reduceEqDiff, fa8_0, fa8_1, fa8_2, fa8_3, fa14_0, fa14_1, fa19_0, len22, len24, fa26_0, fa26_1, fa26_2, len27, fa33_0, fa33_1, len35, fa77_0, fa77_1, fa88_0, fa88_1, fa88_2, fa88_3, fa88_4, fa88_5, fa114_0, fa114_1, fa114_2, fa124_0, fa124_1, len134, len136, len154, fa156_0, fa156_1, fa156_2, fa156_3, fa156_4, fa156_5, fa156_6, fa184_0, fa184_1, fa200_0, fa200_1, fa200_2, fa200_3, fa215_0, fa215_1, fa215_2, fa215_3, fa215_4, len218, len271, fa274_0, fa274_1, fa274_2, fa303_0, fa303_1, fa303_2, fa303_3, fa314_0, fa314_1, fa314_2, fa314_3, fa314_4, fa314_5, fa314_6, fa314_7, fa314_8, fa314_9, fa314_10]
  by_cases hlt : j < rs.length
  case neg =>
    simp only [show ¬ ((j : Int) < (rs.length : Int)) from by omega, decide_false, f0, f5, bin_add, bin_sub, bin_mul, bin_eql, bin_neq, bin_lss, bin_leq, bin_gtr, bin_geq, un_not, un_neg, zq4, zq3, zq1, zq2, zq0, cond_true', cond_false', zq14, zq15, zq16, zq17, zq13, zq10, zq12, zq11, zq7, zq5, zq6, zq9, zq8, resK_nil, resK_tmp, ite_T, ite_F, upd_at, add_plain, add_zero', Nat.reduceEqDiff, fa8_0, fa8_1, fa8_2, fa8_3, fa14_0, fa14_1, fa19_0, len22, len24, fa26_0, fa26_1, fa26_2, len27, fa33_0, fa33_1, len35, fa77_0, fa77_1, fa88_0, fa88_1, fa88_2, fa88_3, fa88_4, fa88_5, fa114_0, fa114_1, fa114_2, fa124_0, fa124_1, len134, len136, len154, fa156_0, fa156_1, fa156_2, fa156_3, fa156_4, fa156_5, fa156_6, fa184_0, fa184_1, fa200_0, fa200_1, fa200_2, fa200_3, fa215_0, fa215_1, fa215_2, fa215_3, fa215_4, len218, len271, fa274_0, fa274_1, fa274_2, fa303_0, fa303_1, fa303_2, fa303_3, fa314_0, fa314_1, fa314_2, fa314_3, fa314_4, fa314_5, fa314_6, fa314_7, fa314_8, fa314_9, fa314_10]
    have ej : j = rs.length := by omega
    subst ej
    rw [List.take_length] at htk
    refine rdi (rd_slice_l u24 sz33 (by omega) (by omega)) ?_
    rw [Int.toNat_natCast, ← hcl]
    refine clearG H 0 rfl (by omega) fun w3 H => ?_
    refine rdi (rd_slice_h u24 sz33 (by omega) (by omega)) ?_
    rw [sub_zero, Int.toNat_natCast]
    simp only [List.set_cons_zero] at H
    rw [htk] at H
    have hi : i = (rs.filter fun r => !p r).length := by rw [← htk, List.length_take]; omega
    rw [hi]
    exact hk w3 H
  simp only [show ((j : Int) < (rs.length : Int)) from by omega, decide_true, bin_add, bin_sub, bin_mul, bin_eql, bin_neq, bin_lss, bin_leq, bin_gtr, bin_geq, un_not, un_neg, zq4, zq3, zq1, zq2, zq0, cond_true', cond_false', zq14, zq15, zq16, zq17, zq13, zq10, zq12, zq11, zq7, zq5, zq6, zq9, zq8, resK_nil, resK_tmp, ite_T, ite_F, upd_at, add_plain, add_zero', Nat.reduceEqDiff, fa8_0, fa8_1, fa8_2, fa8_3, fa14_0, fa14_1, fa19_0, len22, len24, fa26_0, fa26_1, fa26_2, len27, fa33_0, fa33_1, len35, fa77_0, fa77_1, fa88_0, fa88_1, fa88_2, fa88_3, fa88_4, fa88_5, fa114_0, fa114_1, fa114_2, fa124_0, fa124_1, len134, len136, len154, fa156_0, fa156_1, fa156_2, fa156_3, fa156_4, fa156_5, fa156_6, fa184_0, fa184_1, fa200_0, fa200_1, fa200_2, fa200_3, fa215_0, fa215_1, fa215_2, fa215_3, fa215_4, len218, len271, fa274_0, fa274_1, fa274_2, fa303_0, fa303_1, fa303_2, fa303_3, fa314_0, fa314_1, fa314_2, fa314_3, fa314_4, fa314_5, fa314_6, fa314_7, fa314_8, fa314_9, fa314_10]
  have hrm : rul rs j ∈ rs := by rw [rul_eq hlt]; exact List.getElem_mem hlt
  have er := rul_drop hdr
  have hdr1 : cur.drop (j + 1) = rs.drop (j + 1) := by
    rw [← List.drop_drop, ← List.drop_drop, hdr]
  have hptr := (gowK (H.gow 0 rfl)).2.ptr
  refine join_as (fun f w' => f 6 = .int .i64 (j : Int) ∧ ∃ (i : Nat) (cur : List RuleL), f 5 = .int .i64 (i : Int) ∧ i ≤ j + 1 ∧ cur.length = rs.length ∧ cur.take i = (rs.take (j + 1)).filter (fun r => !p r) ∧ cur.drop (j + 1) = rs.drop (j + 1) ∧ Apt w0 w' (gth ft X c cur :: E)) (fun K hK => ?_) ?_
  · refine rdi (ixn24 (fun h => hptr (by omega)) hlt) ?_
    refine ld_gow H 0 rfl (by omega) fun Z d hd hZ => ?_
    rw [er] at hd hZ ⊢
    have A := Apt.nil w2
    refine allocH A inf33 fun b15 w3 A => ?_
    refine storeH A 0 rfl sz33 rfl rfl rfl fun w4 A => ?_
    have A : Apt w2 w4 [bx b15 [.int .i64 (rul rs j).1, .slice Z (rul rs j).2.length d] 33] := A
    rw [ldB_agg agg33 sz33 rfl (A.box 0 rfl)]
    refine hp w4 (hq w4 cur (H.step A.gr)) _ hrm Z d _ ⟨hZ.is.gr A.gr, hd⟩ fun w5 g5 => ?_
    have A := A.step g5
    have H := H.step A.gr
    cases hpr : p (rul rs j)
    case true =>
      simp only [Bool.not_true, bin_add, bin_sub, bin_mul, bin_eql, bin_neq, bin_lss, bin_leq, bin_gtr, bin_geq, un_not, un_neg, zq4, zq3, zq1, zq2, zq0, cond_true', cond_false', zq14, zq15, zq16, zq17, zq13, zq10, zq12, zq11, zq7, zq5, zq6, zq9, zq8, resK_nil, resK_tmp, ite_T, ite_F, upd_at, add_plain, add_zero', Nat.reduceEqDiff, fa8_0, fa8_1, fa8_2, fa8_3, fa14_0, fa14_1, fa19_0, len22, len24, fa26_0, fa26_1, fa26_2, len27, fa33_0, fa33_1, len35, fa77_0, fa77_1, fa88_0, fa88_1, fa88_2, fa88_3, fa88_4, fa88_5, fa114_0, fa114_1, fa114_2, fa124_0, fa124_1, len134, len136, len154, fa156_0, fa156_1, fa156_2, fa156_3, fa156_4, fa156_5, fa156_6, fa184_0, fa184_1, fa200_0, fa200_1, fa200_2, fa200_3, fa215_0, fa215_1, fa215_2, fa215_3, fa215_4, len218, len271, fa274_0, fa274_1, fa274_2, fa303_0, fa303_1, fa303_2, fa303_3, fa314_0, fa314_1, fa314_2, fa314_3, fa314_4, fa314_5, fa314_6, fa314_7, fa314_8, fa314_9, fa314_10]
      exact hK _ _ ⟨f6, i, cur, f5, by omega, hcl, by rw [filter_take_succ hlt, hpr, htk]; simp, hdr1, H⟩
    simp only [Bool.not_false, bin_add, bin_sub, bin_mul, bin_eql, bin_neq, bin_lss, bin_leq, bin_gtr, bin_geq, un_not, un_neg, zq4, zq3, zq1, zq2, zq0, cond_true', cond_false', zq14, zq15, zq16, zq17, zq13, zq10, zq12, zq11, zq7, zq5, zq6, zq9, zq8, resK_nil, resK_tmp, ite_T, ite_F, upd_at, add_plain, add_zero', Nat.reduceEqDiff, fa8_0, fa8_1, fa8_2, fa8_3, fa14_0, fa14_1, fa19_0, len22, len24, fa26_0, fa26_1, fa26_2, len27, fa33_0, fa33_1, len35, fa77_0, fa77_1, fa88_0, fa88_1, fa88_2, fa88_3, fa88_4, fa88_5, fa114_0, fa114_1, fa114_2, fa124_0, fa124_1, len134, len136, len154, fa156_0, fa156_1, fa156_2, fa156_3, fa156_4, fa156_5, fa156_6, fa184_0, fa184_1, fa200_0, fa200_1, fa200_2, fa200_3, fa215_0, fa215_1, fa215_2, fa215_3, fa215_4, len218, len271, fa274_0, fa274_1, fa274_2, fa303_0, fa303_1, fa303_2, fa303_3, fa314_0, fa314_1, fa314_2, fa314_3, fa314_4, fa314_5, fa314_6, fa314_7, fa314_8, fa314_9, fa314_10]
    rw [ldB_agg agg33 sz33 rfl (A.box 0 rfl)]
    refine rdi (ixn24 (fun h => hptr (by omega)) (show i < rs.length by omega)) ?_
    refine moveG H 0 rfl (by omega) hd (hZ.gr A.gr) fun w6 H => ?_
    simp only [List.set_cons_zero] at H
    rw [i64_of (by omega) (by omega)]
    refine hK _ _ ⟨f6, i + 1, _, rfl, by omega, by rw [List.length_set]; exact hcl, ?_, ?_, H⟩
    · rw [filter_take_succ hlt, hpr, ← htk, List.take_succ_eq_append_getElem (by rw [List.length_set]; omega), List.getElem_set_self, List.take_set, List.set_eq_of_length_le (by rw [List.length_take]; omega)]
      simp
    · rw [List.drop_set_of_lt (by omega)]
      exact hdr1
  clear H
  rintro f7 w3 ⟨e6, h⟩
  simp only [e6, bin_add, bin_sub, bin_mul, bin_eql, bin_neq, bin_lss, bin_leq, bin_gtr, bin_geq, un_not, un_neg, zq4, zq3, zq1, zq2, zq0, cond_true', cond_false', zq14, zq15, zq16, zq17, zq13, zq10, zq12, zq11, zq7, zq5, zq6, zq9, zq8, resK_nil, resK_tmp, ite_T, ite_F, upd_at, add_plain, add_zero', Nat.reduceEqDiff, fa8_0, fa8_1, fa8_2, fa8_3, fa14_0, fa14_1, fa19_0, len22, len24, fa26_0, fa26_1, fa26_2, len27, fa33_0, fa33_1, len35, fa77_0, fa77_1, fa88_0, fa88_1, fa88_2, fa88_3, fa88_4, fa88_5, fa114_0, fa114_1, fa114_2, fa124_0, fa124_1, len134, len136, len154, fa156_0, fa156_1, fa156_2, fa156_3, fa156_4, fa156_5, fa156_6, fa184_0, fa184_1, fa200_0, fa200_1, fa200_2, fa200_3, fa215_0, fa215_1, fa215_2, fa215_3, fa215_4, len218, len271, fa274_0, fa274_1, fa274_2, fa303_0, fa303_1, fa303_2, fa303_3, fa314_0, fa314_1, fa314_2, fa314_3, fa314_4, fa314_5, fa314_6, fa314_7, fa314_8, fa314_9, fa314_10]
  rw [i64_of (by omega) (by omega)]
  exact hN _ _ hlt ⟨by omega, rfl, h⟩
end
end Go.Proofs.Ytegcjkhebecgbaa

/- What the program's useful deletes; rules of the call's own as one thing. -/
set_option linter.unusedVariables false
set_option linter.unusedSimpArgs false
set_option maxRecDepth 100000
namespace Go.Sh
open Go
def dropA (C A : List Bool) (r : RuleL) : Bool := (!atB C r.1.toNat || !atB A r.1.toNat) || r.2.any (barP A)
def dropB (C : List Bool) (r : RuleL) : Bool := !atB C r.1.toNat
theorem dropA_iff {rs : List RuleL} {C A : List Bool} (hl : ∀ r ∈ rs, 0 ≤ r.1) (hA : ∀ n, atB A n = true ↔ Clo rs true n) (hC : ∀ n, atB C n = true ↔ Rch rs n) {r : RuleL} (hr : r ∈ rs) : (!dropA C A r) = true ↔ Rch rs r.1.toNat ∧ ∀ x ∈ r.2, ¬ x < 0 → Clo rs true x.toNat := by
  unfold dropA
  rw [Bool.not_or, Bool.and_eq_true, Bool.not_or, Bool.not_not, Bool.not_not, Bool.and_eq_true, hC, hA, any_not]
  constructor
  · rintro ⟨⟨h1, _⟩, h3⟩
    exact ⟨h1, fun x hx hn => (hA _).1 (((bars_p A x).1 (h3 x hx)).2 hn)⟩
  · rintro ⟨h1, h2⟩
    refine ⟨⟨h1, .mk hr (by have := hl r hr; omega) (fun _ _ _ => rfl) h2⟩, fun x hx => (bars_p A x).2 ⟨fun _ => rfl, fun hn => (hA _).2 (h2 x hx hn)⟩⟩
open Classical in
theorem useful_two {rs : List RuleL} {p q : RuleL → Bool} (hp : ∀ r ∈ rs, p r = true ↔ Rch rs r.1.toNat ∧ ∀ x ∈ r.2, ¬ x < 0 → Clo rs true x.toNat) (hl : ∀ r ∈ rs, 0 ≤ r.1) (hq : ∀ n, q n = true ↔ Rch (rs.filter p) n.1.toNat) : (rs.filter p).filter q = usefulR rs := by
  have key : ∀ n, Rch (rs.filter p) n ↔ Rch (madeR rs) n := fun n => by
    constructor
    · refine fun h => rch_mono (fun r hr => ?_) h
      rw [List.mem_filter] at hr
      exact madeR_mem.2 ⟨hr.1, ((hp r hr.1).1 hr.2).2⟩
    · intro h
      induction h with
      | zero => exact .zero
      | @step B r x h1 h2 h3 h4 h5 ih =>
        have hm := madeR_mem.1 h1
        have hr : Rch rs B := rch_mono (fun r hr => (madeR_mem.1 hr).1) h3
        refine .step (List.mem_filter.2 ⟨hm.1, (hp r hm.1).2 ⟨?_, hm.2⟩⟩) h2 ih h4 h5
        rw [h2, Int.toNat_natCast]
        exact hr
  unfold usefulR rchR
  rw [List.filter_filter]
  conv => rhs; arg 2; unfold madeR
  rw [List.filter_filter]
  apply List.filter_congr
  intro r hr
  rw [Bool.eq_iff_iff, Bool.and_eq_true, Bool.and_eq_true, hq, key, decide_eq_true_eq, decide_eq_true_eq, hp r hr]
  constructor
  · rintro ⟨h1, _, h3⟩
    exact ⟨h1, h3⟩
  · rintro ⟨h1, h3⟩
    exact ⟨h1, rch_mono (fun r hr => (madeR_mem.1 hr).1) h1, h3⟩
theorem RuleCells.of_cell {F : Nat → Prop} {w : World} : ∀ {rs : List RuleL} {cells : List Value}, cells.length = rs.length * 2 → (∀ j, j < rs.length → ∃ Y d, cells[j * 2]? = some (.int .i64 (rul rs j).1) ∧ cells[j * 2 + 1]? = some (.slice Y (rul rs j).2.length d) ∧ (rul rs j).2.length ≤ d ∧ IntsF F w Y (rul rs j).2) → RuleCells F w rs cells
  | [], cells, hl, _ => by
    obtain rfl : cells = [] := List.eq_nil_of_length_eq_zero (by simpa using hl)
    exact .nil
  | r :: rs, [], hl, _ => by simp at hl
  | r :: rs, [a], hl, _ => by simp at hl; omega
  | r :: rs, a :: b :: cells, hl, h => by
    obtain ⟨Y, d, h1, h2, h3, h4⟩ := h 0 (by simp)
    obtain rfl := Option.some.inj h1
    obtain rfl := Option.some.inj h2
    refine .cons h3 h4 (RuleCells.of_cell (by simp at hl; omega) fun j hj => ?_)
    obtain ⟨Z, e, a1, a2, a3, a4⟩ := h (j + 1) (by simpa using hj)
    have er : rul (r :: rs) (j + 1) = rul rs j := by simp [rul]
    rw [er] at a1 a2 a3 a4
    refine ⟨Z, e, ?_, ?_, a3, a4⟩
    · rw [show (j + 1) * 2 = j * 2 + 1 + 1 from by omega] at a1
      simpa using a1
    · rw [show (j + 1) * 2 + 1 = j * 2 + 1 + 1 + 1 from by omega] at a2
      simpa using a2
theorem OwnR.cellsG {e1 e2 : Nat} {w : World} {B c : Nat} {X : Option Addr} {rs : List RuleL} {ps : Nat → Option Addr × Nat} (h : OwnR e1 e2 w B X c rs ps) (he : e1 ≠ e2) : ∃ cells, Row w B e1 2 X rs.length c cells ∧ RuleCells (fun q => B ≤ q ∧ blk X ≠ some q) w rs cells := by
  obtain ⟨⟨cells, hr, hc⟩, ho, ht⟩ := h
  refine ⟨cells, hr, RuleCells.of_cell hr.len fun j hj => ?_⟩
  obtain ⟨h1, h2⟩ := hc j hj
  refine ⟨_, _, h1, h2, (Row.cap (ho j hj)).1, ⟨Own.ints (ho j hj), fun hp => ?_⟩⟩
  have hb : blk (ps j).1 = some (ad (ps j).1).block := by
    have hq : (ps j).1 = some (ad (ps j).1) := Row.ptr (ho j hj) hp
    rw [hq]
    rfl
  refine ⟨((ho j hj).ge hb).1, fun e => ?_⟩
  rcases row_ne hr (ho j hj) he with h | h
  · rw [h] at e; cases e
  · exact h (e.trans hb.symm)
end Go.Sh
namespace Go.Proofs.Ytegcjkhebecgbaa
open Go Go.Sh Go.RowKit
section
variable {w : World} {k : Value → World → Prop}
theorem barP3_c {b : Nat} {A : List Bool} {x : Int} (hlen : A.length = 6) (hx : x < 6) (hB : Box w b (A.map Value.bool) 163) (hk : k (.bool (barP A x)) w) :
    CallK Try.prog 266 [.int .i64 x, ptrv b] k w := by
  refine enter266 ?_
  unfold S266
  unfold barP at hk
  simp only [bin_add, bin_sub, bin_mul, bin_eql, bin_neq, bin_lss, bin_leq, bin_gtr, bin_geq, un_not, un_neg, zq4, zq3, zq1, zq2, zq0, cond_true', cond_false', zq14, zq15, zq16, zq17, zq13, zq10, zq12, zq11, zq7, zq5, zq6, zq9, zq8, resK_nil, resK_tmp, ite_T, ite_F, upd_at, add_plain, add_zero', Nat.reduceEqDiff, fa8_0, fa8_1, fa8_2, fa8_3, fa14_0, fa14_1, fa19_0, len22, len24, fa26_0, fa26_1, fa26_2, len27, fa33_0, fa33_1, len35, fa77_0, fa77_1, fa88_0, fa88_1, fa88_2, fa88_3, fa88_4, fa88_5, fa114_0, fa114_1, fa114_2, fa124_0, fa124_1, len134, len136, len154, fa156_0, fa156_1, fa156_2, fa156_3, fa156_4, fa156_5, fa156_6, fa184_0, fa184_1, fa200_0, fa200_1, fa200_2, fa200_3, fa215_0, fa215_1, fa215_2, fa215_3, fa215_4, len218, len271, fa274_0, fa274_1, fa274_2, fa303_0, fa303_1, fa303_2, fa303_3, fa314_0, fa314_1, fa314_2, fa314_3, fa314_4, fa314_5, fa314_6, fa314_7, fa314_8, fa314_9, fa314_10]
  by_cases h : 0 ≤ x
  · simp only [h, decide_true, bin_add, bin_sub, bin_mul, bin_eql, bin_neq, bin_lss, bin_leq, bin_gtr, bin_geq, un_not, un_neg, zq4, zq3, zq1, zq2, zq0, cond_true', cond_false', zq14, zq15, zq16, zq17, zq13, zq10, zq12, zq11, zq7, zq5, zq6, zq9, zq8, resK_nil, resK_tmp, ite_T, ite_F, upd_at, add_plain, add_zero', Nat.reduceEqDiff, fa8_0, fa8_1, fa8_2, fa8_3, fa14_0, fa14_1, fa19_0, len22, len24, fa26_0, fa26_1, fa26_2, len27, fa33_0, fa33_1, len35, fa77_0, fa77_1, fa88_0, fa88_1, fa88_2, fa88_3, fa88_4, fa88_5, fa114_0, fa114_1, fa114_2, fa124_0, fa124_1, len134, len136, len154, fa156_0, fa156_1, fa156_2, fa156_3, fa156_4, fa156_5, fa156_6, fa184_0, fa184_1, fa200_0, fa200_1, fa200_2, fa200_3, fa215_0, fa215_1, fa215_2, fa215_3, fa215_4, len218, len271, fa274_0, fa274_1, fa274_2, fa303_0, fa303_1, fa303_2, fa303_3, fa314_0, fa314_1, fa314_2, fa314_3, fa314_4, fa314_5, fa314_6, fa314_7, fa314_8, fa314_9, fa314_10]
    refine rdi (ixa163 h hx) ?_
    rw [add_plain, Nat.zero_add, ldB4 hB (atB_get (by omega))]
    simp only [bin_add, bin_sub, bin_mul, bin_eql, bin_neq, bin_lss, bin_leq, bin_gtr, bin_geq, un_not, un_neg, zq4, zq3, zq1, zq2, zq0, cond_true', cond_false', zq14, zq15, zq16, zq17, zq13, zq10, zq12, zq11, zq7, zq5, zq6, zq9, zq8, resK_nil, resK_tmp, ite_T, ite_F, upd_at, add_plain, add_zero', Nat.reduceEqDiff, fa8_0, fa8_1, fa8_2, fa8_3, fa14_0, fa14_1, fa19_0, len22, len24, fa26_0, fa26_1, fa26_2, len27, fa33_0, fa33_1, len35, fa77_0, fa77_1, fa88_0, fa88_1, fa88_2, fa88_3, fa88_4, fa88_5, fa114_0, fa114_1, fa114_2, fa124_0, fa124_1, len134, len136, len154, fa156_0, fa156_1, fa156_2, fa156_3, fa156_4, fa156_5, fa156_6, fa184_0, fa184_1, fa200_0, fa200_1, fa200_2, fa200_3, fa215_0, fa215_1, fa215_2, fa215_3, fa215_4, len218, len271, fa274_0, fa274_1, fa274_2, fa303_0, fa303_1, fa303_2, fa303_3, fa314_0, fa314_1, fa314_2, fa314_3, fa314_4, fa314_5, fa314_6, fa314_7, fa314_8, fa314_9, fa314_10]
    simpa only [h, decide_true, Bool.true_and] using hk
  · simp only [h, decide_false, bin_add, bin_sub, bin_mul, bin_eql, bin_neq, bin_lss, bin_leq, bin_gtr, bin_geq, un_not, un_neg, zq4, zq3, zq1, zq2, zq0, cond_true', cond_false', zq14, zq15, zq16, zq17, zq13, zq10, zq12, zq11, zq7, zq5, zq6, zq9, zq8, resK_nil, resK_tmp, ite_T, ite_F, upd_at, add_plain, add_zero', Nat.reduceEqDiff, fa8_0, fa8_1, fa8_2, fa8_3, fa14_0, fa14_1, fa19_0, len22, len24, fa26_0, fa26_1, fa26_2, len27, fa33_0, fa33_1, len35, fa77_0, fa77_1, fa88_0, fa88_1, fa88_2, fa88_3, fa88_4, fa88_5, fa114_0, fa114_1, fa114_2, fa124_0, fa124_1, len134, len136, len154, fa156_0, fa156_1, fa156_2, fa156_3, fa156_4, fa156_5, fa156_6, fa184_0, fa184_1, fa200_0, fa200_1, fa200_2, fa200_3, fa215_0, fa215_1, fa215_2, fa215_3, fa215_4, len218, len271, fa274_0, fa274_1, fa274_2, fa303_0, fa303_1, fa303_2, fa303_3, fa314_0, fa314_1, fa314_2, fa314_3, fa314_4, fa314_5, fa314_6, fa314_7, fa314_8, fa314_9, fa314_10]
    simpa only [h, decide_false, Bool.false_and] using hk
theorem dropB_c {b : Nat} {C : List Bool} {r : RuleL} {Z : Option Addr} {d : Nat} (hC : C.length = 6) (hB : Box w b (C.map Value.bool) 163) (hl : 0 ≤ r.1 ∧ r.1 < 6) (hk : ∀ w', Gr w w' → k (.bool (dropB C r)) w') :
    CallK Try.prog 267 [.agg #[.int .i64 r.1, .slice Z r.2.length d], ptrv b] k w := by
  refine enter267 ?_
  unfold S267
  refine do_box fun b1 w1 g1 hb1 B1 => ?_
  simp only [bin_add, bin_sub, bin_mul, bin_eql, bin_neq, bin_lss, bin_leq, bin_gtr, bin_geq, un_not, un_neg, zq4, zq3, zq1, zq2, zq0, cond_true', cond_false', zq14, zq15, zq16, zq17, zq13, zq10, zq12, zq11, zq7, zq5, zq6, zq9, zq8, resK_nil, resK_tmp, ite_T, ite_F, upd_at, add_plain, add_zero', Nat.reduceEqDiff, fa8_0, fa8_1, fa8_2, fa8_3, fa14_0, fa14_1, fa19_0, len22, len24, fa26_0, fa26_1, fa26_2, len27, fa33_0, fa33_1, len35, fa77_0, fa77_1, fa88_0, fa88_1, fa88_2, fa88_3, fa88_4, fa88_5, fa114_0, fa114_1, fa114_2, fa124_0, fa124_1, len134, len136, len154, fa156_0, fa156_1, fa156_2, fa156_3, fa156_4, fa156_5, fa156_6, fa184_0, fa184_1, fa200_0, fa200_1, fa200_2, fa200_3, fa215_0, fa215_1, fa215_2, fa215_3, fa215_4, len218, len271, fa274_0, fa274_1, fa274_2, fa303_0, fa303_1, fa303_2, fa303_3, fa314_0, fa314_1, fa314_2, fa314_3, fa314_4, fa314_5, fa314_6, fa314_7, fa314_8, fa314_9, fa314_10]
  rw [ldB3 B1 rfl]
  refine rdi (ixa163 hl.1 hl.2) ?_
  rw [add_plain, Nat.zero_add, ldB4 (hB.gr g1) (atB_get (by omega))]
  simp only [bin_add, bin_sub, bin_mul, bin_eql, bin_neq, bin_lss, bin_leq, bin_gtr, bin_geq, un_not, un_neg, zq4, zq3, zq1, zq2, zq0, cond_true', cond_false', zq14, zq15, zq16, zq17, zq13, zq10, zq12, zq11, zq7, zq5, zq6, zq9, zq8, resK_nil, resK_tmp, ite_T, ite_F, upd_at, add_plain, add_zero', Nat.reduceEqDiff, fa8_0, fa8_1, fa8_2, fa8_3, fa14_0, fa14_1, fa19_0, len22, len24, fa26_0, fa26_1, fa26_2, len27, fa33_0, fa33_1, len35, fa77_0, fa77_1, fa88_0, fa88_1, fa88_2, fa88_3, fa88_4, fa88_5, fa114_0, fa114_1, fa114_2, fa124_0, fa124_1, len134, len136, len154, fa156_0, fa156_1, fa156_2, fa156_3, fa156_4, fa156_5, fa156_6, fa184_0, fa184_1, fa200_0, fa200_1, fa200_2, fa200_3, fa215_0, fa215_1, fa215_2, fa215_3, fa215_4, len218, len271, fa274_0, fa274_1, fa274_2, fa303_0, fa303_1, fa303_2, fa303_3, fa314_0, fa314_1, fa314_2, fa314_3, fa314_4, fa314_5, fa314_6, fa314_7, fa314_8, fa314_9, fa314_10]
  exact hk w1 g1
theorem dropA_c {b e : Nat} {C A : List Bool} {r : RuleL} {Z : Option Addr} {d : Nat} (hC : C.length = 6) (hA : A.length = 6) (hB : Box w b (C.map Value.bool) 163) (hE : Box w e (A.map Value.bool) 163) (hl : 0 ≤ r.1 ∧ r.1 < 6) (hx : ∀ x ∈ r.2, x < 6) (hZ : kI Z r.2 d w) (hk : ∀ w', Gr w w' → k (.bool (dropA C A r)) w') :
    CallK Try.prog 265 [.agg #[.int .i64 r.1, .slice Z r.2.length d], ptrv b, ptrv e] k w := by
  refine enter265 ?_
  unfold S265
  refine do_box fun b1 w1 g1 hb1 B1 => ?_
  unfold dropA at hk
  have hE := hE.gr g1
  simp only [bin_add, bin_sub, bin_mul, bin_eql, bin_neq, bin_lss, bin_leq, bin_gtr, bin_geq, un_not, un_neg, zq4, zq3, zq1, zq2, zq0, cond_true', cond_false', zq14, zq15, zq16, zq17, zq13, zq10, zq12, zq11, zq7, zq5, zq6, zq9, zq8, resK_nil, resK_tmp, ite_T, ite_F, upd_at, add_plain, add_zero', Nat.reduceEqDiff, fa8_0, fa8_1, fa8_2, fa8_3, fa14_0, fa14_1, fa19_0, len22, len24, fa26_0, fa26_1, fa26_2, len27, fa33_0, fa33_1, len35, fa77_0, fa77_1, fa88_0, fa88_1, fa88_2, fa88_3, fa88_4, fa88_5, fa114_0, fa114_1, fa114_2, fa124_0, fa124_1, len134, len136, len154, fa156_0, fa156_1, fa156_2, fa156_3, fa156_4, fa156_5, fa156_6, fa184_0, fa184_1, fa200_0, fa200_1, fa200_2, fa200_3, fa215_0, fa215_1, fa215_2, fa215_3, fa215_4, len218, len271, fa274_0, fa274_1, fa274_2, fa303_0, fa303_1, fa303_2, fa303_3, fa314_0, fa314_1, fa314_2, fa314_3, fa314_4, fa314_5, fa314_6, fa314_7, fa314_8, fa314_9, fa314_10]
  rw [ldB3 B1 rfl]
  refine rdi (ixa163 hl.1 hl.2) ?_
  rw [add_plain, Nat.zero_add, ldB4 (hB.gr g1) (atB_get (by omega))]
  cases h1 : atB C r.1.toNat
  · simp only [Bool.not_false, bin_add, bin_sub, bin_mul, bin_eql, bin_neq, bin_lss, bin_leq, bin_gtr, bin_geq, un_not, un_neg, zq4, zq3, zq1, zq2, zq0, cond_true', cond_false', zq14, zq15, zq16, zq17, zq13, zq10, zq12, zq11, zq7, zq5, zq6, zq9, zq8, resK_nil, resK_tmp, ite_T, ite_F, upd_at, add_plain, add_zero', Nat.reduceEqDiff, fa8_0, fa8_1, fa8_2, fa8_3, fa14_0, fa14_1, fa19_0, len22, len24, fa26_0, fa26_1, fa26_2, len27, fa33_0, fa33_1, len35, fa77_0, fa77_1, fa88_0, fa88_1, fa88_2, fa88_3, fa88_4, fa88_5, fa114_0, fa114_1, fa114_2, fa124_0, fa124_1, len134, len136, len154, fa156_0, fa156_1, fa156_2, fa156_3, fa156_4, fa156_5, fa156_6, fa184_0, fa184_1, fa200_0, fa200_1, fa200_2, fa200_3, fa215_0, fa215_1, fa215_2, fa215_3, fa215_4, len218, len271, fa274_0, fa274_1, fa274_2, fa303_0, fa303_1, fa303_2, fa303_3, fa314_0, fa314_1, fa314_2, fa314_3, fa314_4, fa314_5, fa314_6, fa314_7, fa314_8, fa314_9, fa314_10]
    have := hk w1 g1
    rwa [h1, Bool.not_false, Bool.true_or, Bool.true_or] at this
  simp only [Bool.not_true, bin_add, bin_sub, bin_mul, bin_eql, bin_neq, bin_lss, bin_leq, bin_gtr, bin_geq, un_not, un_neg, zq4, zq3, zq1, zq2, zq0, cond_true', cond_false', zq14, zq15, zq16, zq17, zq13, zq10, zq12, zq11, zq7, zq5, zq6, zq9, zq8, resK_nil, resK_tmp, ite_T, ite_F, upd_at, add_plain, add_zero', Nat.reduceEqDiff, fa8_0, fa8_1, fa8_2, fa8_3, fa14_0, fa14_1, fa19_0, len22, len24, fa26_0, fa26_1, fa26_2, len27, fa33_0, fa33_1, len35, fa77_0, fa77_1, fa88_0, fa88_1, fa88_2, fa88_3, fa88_4, fa88_5, fa114_0, fa114_1, fa114_2, fa124_0, fa124_1, len134, len136, len154, fa156_0, fa156_1, fa156_2, fa156_3, fa156_4, fa156_5, fa156_6, fa184_0, fa184_1, fa200_0, fa200_1, fa200_2, fa200_3, fa215_0, fa215_1, fa215_2, fa215_3, fa215_4, len218, len271, fa274_0, fa274_1, fa274_2, fa303_0, fa303_1, fa303_2, fa303_3, fa314_0, fa314_1, fa314_2, fa314_3, fa314_4, fa314_5, fa314_6, fa314_7, fa314_8, fa314_9, fa314_10]
  rw [ldB3 B1 rfl]
  refine rdi (ixa163 hl.1 hl.2) ?_
  rw [add_plain, Nat.zero_add, ldB4 hE (atB_get (by omega))]
  cases h2 : atB A r.1.toNat
  · simp only [Bool.not_false, bin_add, bin_sub, bin_mul, bin_eql, bin_neq, bin_lss, bin_leq, bin_gtr, bin_geq, un_not, un_neg, zq4, zq3, zq1, zq2, zq0, cond_true', cond_false', zq14, zq15, zq16, zq17, zq13, zq10, zq12, zq11, zq7, zq5, zq6, zq9, zq8, resK_nil, resK_tmp, ite_T, ite_F, upd_at, add_plain, add_zero', Nat.reduceEqDiff, fa8_0, fa8_1, fa8_2, fa8_3, fa14_0, fa14_1, fa19_0, len22, len24, fa26_0, fa26_1, fa26_2, len27, fa33_0, fa33_1, len35, fa77_0, fa77_1, fa88_0, fa88_1, fa88_2, fa88_3, fa88_4, fa88_5, fa114_0, fa114_1, fa114_2, fa124_0, fa124_1, len134, len136, len154, fa156_0, fa156_1, fa156_2, fa156_3, fa156_4, fa156_5, fa156_6, fa184_0, fa184_1, fa200_0, fa200_1, fa200_2, fa200_3, fa215_0, fa215_1, fa215_2, fa215_3, fa215_4, len218, len271, fa274_0, fa274_1, fa274_2, fa303_0, fa303_1, fa303_2, fa303_3, fa314_0, fa314_1, fa314_2, fa314_3, fa314_4, fa314_5, fa314_6, fa314_7, fa314_8, fa314_9, fa314_10]
    have := hk w1 g1
    rwa [h1, h2, Bool.not_false, Bool.or_true, Bool.true_or] at this
  simp only [Bool.not_true, bin_add, bin_sub, bin_mul, bin_eql, bin_neq, bin_lss, bin_leq, bin_gtr, bin_geq, un_not, un_neg, zq4, zq3, zq1, zq2, zq0, cond_true', cond_false', zq14, zq15, zq16, zq17, zq13, zq10, zq12, zq11, zq7, zq5, zq6, zq9, zq8, resK_nil, resK_tmp, ite_T, ite_F, upd_at, add_plain, add_zero', Nat.reduceEqDiff, fa8_0, fa8_1, fa8_2, fa8_3, fa14_0, fa14_1, fa19_0, len22, len24, fa26_0, fa26_1, fa26_2, len27, fa33_0, fa33_1, len35, fa77_0, fa77_1, fa88_0, fa88_1, fa88_2, fa88_3, fa88_4, fa88_5, fa114_0, fa114_1, fa114_2, fa124_0, fa124_1, len134, len136, len154, fa156_0, fa156_1, fa156_2, fa156_3, fa156_4, fa156_5, fa156_6, fa184_0, fa184_1, fa200_0, fa200_1, fa200_2, fa200_3, fa215_0, fa215_1, fa215_2, fa215_3, fa215_4, len218, len271, fa274_0, fa274_1, fa274_2, fa303_0, fa303_1, fa303_2, fa303_3, fa314_0, fa314_1, fa314_2, fa314_3, fa314_4, fa314_5, fa314_6, fa314_7, fa314_8, fa314_9, fa314_10]
  rw [ldB27 B1 rfl]
  rw [makeFunc_]
  refine containsFuncD_c (D := fun x => x < 6) (p := barP A) (hZ.1.gr g1) hx (fun w4 g4 x hx k hk => ?_) fun w3 g3 => ?_
  · refine callVc (caps := [ptrv e]) ?_
    exact barP3_c hA hx (hE.gr g4) (hk w4 (Gr.refl _))
  have := hk w3 (gr_trans g1 g3)
  rwa [h1, h2, Bool.not_true, Bool.or_false, Bool.false_or] at this
end
end Go.Proofs.Ytegcjkhebecgbaa

/- Contract: the program's useful (printed by gen_useful.py). -/
set_option linter.unusedVariables false
set_option linter.unusedSimpArgs false
set_option maxRecDepth 100000
namespace Go.Proofs.Ytegcjkhebecgbaa
open Go Go.Sh Go.RowKit
section
variable {w : World} {k : Value → World → Prop} {Y : Option Addr} {cy : Nat} {gm : Gram}
set_option maxHeartbeats 12800000 in
theorem useful_c (hG : kG Y cy gm.rules w) (hg : goodG gm = true) (hk : ∀ w' X c, Gr w w' → (usefulR gm.rules).length ≤ c → RulesF (fun q => w.heap.size ≤ q ∧ q < w'.heap.size) w' X (usefulR gm.rules) → k (.agg #[.int .i64 gm.nons, .int .i64 gm.toks, .slice X (usefulR gm.rules).length c]) w') :
    CallK Try.prog 183 [grv gm Y cy] k w := by
  have h6 := sixR hg
  have hr4 : ∀ r ∈ gm.rules, r.2.length ≤ 1000 := fun r hr => by have := (goodRules hg r hr).2.1; omega
  refine enter183 ?_
  unfold S183
  have H := Apt.nil w
  refine boxH H fun b1 w1 H => ?_
  refine allocH H inf26 fun b3 w2 H => ?_
  have H : Apt w w2 [bx b1 [.int .i64 gm.nons, .int .i64 gm.toks, .slice Y gm.rules.length cy] 26, bx b3 zg 26] := H
  refine join_as (fun f w' => f 1 = ptrv b1 ∧ f 2 = ptrv b3 ∧ ∃ bp br A C, f 3 = ptrv bp ∧ f 4 = ptrv br ∧ A.length = 6 ∧ (∀ n, atB A n = true ↔ Clo gm.rules true n) ∧ C.length = 6 ∧ (∀ n, atB C n = true ↔ Rch gm.rules n) ∧
      Apt w w' [bx b1 [.int .i64 gm.nons, .int .i64 gm.toks, .slice Y gm.rules.length cy] 26, bx b3 zg 26, bx bp (A.map Value.bool) 163, bx br (C.map Value.bool) 163]) (fun K hK => ?_) ?_
  · have H := H.drew
    refine ⟨fun w' => Box w' b1 [.int .i64 gm.nons, .int .i64 gm.toks, .slice Y gm.rules.length cy] 26, H.box 0 rfl, ?_⟩
    refine rdi (rdS26 rfl fun w' h => h) (rdi (rdS26 rfl fun w' h => h) ?_)
    refine ⟨?_, ?_, ?_⟩
    · refine productive_c (gm := gm) ⟨hG.1, hG.2.gr H.gr⟩ h6 fun w10 A g hA' hA => ?_
      obtain ⟨a0, a1, a2, a3, a4, a5, rfl⟩ := six_of hA'
      have H := H.step g
      refine ⟨H.box 0 rfl, ?_⟩
      refine ⟨?_, ?_, ?_⟩
      · refine reached_c (gm := gm) ⟨hG.1, hG.2.gr H.gr⟩ h6 hr4 fun w11 C g hC' hC => ?_
        obtain ⟨c0, c1, c2, c3, c4, c5, rfl⟩ := six_of hC'
        have H := H.step g
        refine ⟨H.box 0 rfl, ?_⟩
        refine ⟨?_, ?_⟩
        · refine allocH H inf163' fun bp w12 H => ?_
          refine ⟨H.box 0 rfl, ?_⟩
          refine allocH H inf163' fun br w13 H => ?_
          refine ⟨H.box 0 rfl, ?_⟩
          refine storeH H 2 rfl sz163 rfl rfl rfl fun w14 H => ?_
          refine ⟨H.box 0 rfl, ?_⟩
          refine storeH H 3 rfl sz163 rfl rfl rfl fun w15 H => ?_
          refine ⟨H.box 0 rfl, ?_⟩
          have H : Apt w w15 [bx b1 [.int .i64 gm.nons, .int .i64 gm.toks, .slice Y gm.rules.length cy] 26, bx b3 zg 26, bx bp ([a0, a1, a2, a3, a4, a5].map Value.bool) 163, bx br ([c0, c1, c2, c3, c4, c5].map Value.bool) 163] := H
          exact hK _ _ ⟨rfl, rfl, bp, br, _, _, rfl, rfl, rfl, hA, rfl, hC, H⟩
        · refine allocH H inf163' fun br w16 H => ?_
          refine ⟨H.box 0 rfl, ?_⟩
          refine allocH H inf163' fun bp w17 H => ?_
          refine ⟨H.box 0 rfl, ?_⟩
          refine storeH H 3 rfl sz163 rfl rfl rfl fun w18 H => ?_
          refine ⟨H.box 0 rfl, ?_⟩
          refine storeH H 2 rfl sz163 rfl rfl rfl fun w19 H => ?_
          refine ⟨H.box 0 rfl, ?_⟩
          have H : Apt w w19 [bx b1 [.int .i64 gm.nons, .int .i64 gm.toks, .slice Y gm.rules.length cy] 26, bx b3 zg 26, bx br ([c0, c1, c2, c3, c4, c5].map Value.bool) 163, bx bp ([a0, a1, a2, a3, a4, a5].map Value.bool) 163] := H
          have H := H.perm (List.Perm.cons _ (List.Perm.cons _ (List.Perm.swap _ _ _)))
          exact hK _ _ ⟨rfl, rfl, bp, br, _, _, rfl, rfl, rfl, hA, rfl, hC, H⟩
      · refine allocH H inf163' fun bp w20 H => ?_
        refine ⟨H.box 0 rfl, ?_⟩
        refine ⟨?_, ?_⟩
        · refine reached_c (gm := gm) ⟨hG.1, hG.2.gr H.gr⟩ h6 hr4 fun w21 C g hC' hC => ?_
          obtain ⟨c0, c1, c2, c3, c4, c5, rfl⟩ := six_of hC'
          have H := H.step g
          refine ⟨H.box 0 rfl, ?_⟩
          refine allocH H inf163' fun br w22 H => ?_
          refine ⟨H.box 0 rfl, ?_⟩
          refine storeH H 2 rfl sz163 rfl rfl rfl fun w23 H => ?_
          refine ⟨H.box 0 rfl, ?_⟩
          refine storeH H 3 rfl sz163 rfl rfl rfl fun w24 H => ?_
          refine ⟨H.box 0 rfl, ?_⟩
          have H : Apt w w24 [bx b1 [.int .i64 gm.nons, .int .i64 gm.toks, .slice Y gm.rules.length cy] 26, bx b3 zg 26, bx bp ([a0, a1, a2, a3, a4, a5].map Value.bool) 163, bx br ([c0, c1, c2, c3, c4, c5].map Value.bool) 163] := H
          exact hK _ _ ⟨rfl, rfl, bp, br, _, _, rfl, rfl, rfl, hA, rfl, hC, H⟩
        · refine allocH H inf163' fun br w25 H => ?_
          refine ⟨H.box 0 rfl, ?_⟩
          refine reached_c (gm := gm) ⟨hG.1, hG.2.gr H.gr⟩ h6 hr4 fun w26 C g hC' hC => ?_
          obtain ⟨c0, c1, c2, c3, c4, c5, rfl⟩ := six_of hC'
          have H := H.step g
          refine ⟨H.box 0 rfl, ?_⟩
          refine storeH H 2 rfl sz163 rfl rfl rfl fun w27 H => ?_
          refine ⟨H.box 0 rfl, ?_⟩
          refine storeH H 3 rfl sz163 rfl rfl rfl fun w28 H => ?_
          refine ⟨H.box 0 rfl, ?_⟩
          have H : Apt w w28 [bx b1 [.int .i64 gm.nons, .int .i64 gm.toks, .slice Y gm.rules.length cy] 26, bx b3 zg 26, bx bp ([a0, a1, a2, a3, a4, a5].map Value.bool) 163, bx br ([c0, c1, c2, c3, c4, c5].map Value.bool) 163] := H
          exact hK _ _ ⟨rfl, rfl, bp, br, _, _, rfl, rfl, rfl, hA, rfl, hC, H⟩
      · refine allocH H inf163' fun br w29 H => ?_
        refine ⟨H.box 0 rfl, ?_⟩
        refine ⟨?_, ?_⟩
        · refine reached_c (gm := gm) ⟨hG.1, hG.2.gr H.gr⟩ h6 hr4 fun w30 C g hC' hC => ?_
          obtain ⟨c0, c1, c2, c3, c4, c5, rfl⟩ := six_of hC'
          have H := H.step g
          refine ⟨H.box 0 rfl, ?_⟩
          refine allocH H inf163' fun bp w31 H => ?_
          refine ⟨H.box 0 rfl, ?_⟩
          refine storeH H 3 rfl sz163 rfl rfl rfl fun w32 H => ?_
          refine ⟨H.box 0 rfl, ?_⟩
          refine storeH H 2 rfl sz163 rfl rfl rfl fun w33 H => ?_
          refine ⟨H.box 0 rfl, ?_⟩
          have H : Apt w w33 [bx b1 [.int .i64 gm.nons, .int .i64 gm.toks, .slice Y gm.rules.length cy] 26, bx b3 zg 26, bx br ([c0, c1, c2, c3, c4, c5].map Value.bool) 163, bx bp ([a0, a1, a2, a3, a4, a5].map Value.bool) 163] := H
          have H := H.perm (List.Perm.cons _ (List.Perm.cons _ (List.Perm.swap _ _ _)))
          exact hK _ _ ⟨rfl, rfl, bp, br, _, _, rfl, rfl, rfl, hA, rfl, hC, H⟩
        · refine allocH H inf163' fun bp w34 H => ?_
          refine ⟨H.box 0 rfl, ?_⟩
          refine reached_c (gm := gm) ⟨hG.1, hG.2.gr H.gr⟩ h6 hr4 fun w35 C g hC' hC => ?_
          obtain ⟨c0, c1, c2, c3, c4, c5, rfl⟩ := six_of hC'
          have H := H.step g
          refine ⟨H.box 0 rfl, ?_⟩
          refine storeH H 3 rfl sz163 rfl rfl rfl fun w36 H => ?_
          refine ⟨H.box 0 rfl, ?_⟩
          refine storeH H 2 rfl sz163 rfl rfl rfl fun w37 H => ?_
          refine ⟨H.box 0 rfl, ?_⟩
          have H : Apt w w37 [bx b1 [.int .i64 gm.nons, .int .i64 gm.toks, .slice Y gm.rules.length cy] 26, bx b3 zg 26, bx br ([c0, c1, c2, c3, c4, c5].map Value.bool) 163, bx bp ([a0, a1, a2, a3, a4, a5].map Value.bool) 163] := H
          have H := H.perm (List.Perm.cons _ (List.Perm.cons _ (List.Perm.swap _ _ _)))
          exact hK _ _ ⟨rfl, rfl, bp, br, _, _, rfl, rfl, rfl, hA, rfl, hC, H⟩
    · refine allocH H inf163' fun bp w38 H => ?_
      refine ⟨H.box 0 rfl, ?_⟩
      refine ⟨?_, ?_⟩
      · refine productive_c (gm := gm) ⟨hG.1, hG.2.gr H.gr⟩ h6 fun w39 A g hA' hA => ?_
        obtain ⟨a0, a1, a2, a3, a4, a5, rfl⟩ := six_of hA'
        have H := H.step g
        refine ⟨H.box 0 rfl, ?_⟩
        refine ⟨?_, ?_⟩
        · refine reached_c (gm := gm) ⟨hG.1, hG.2.gr H.gr⟩ h6 hr4 fun w40 C g hC' hC => ?_
          obtain ⟨c0, c1, c2, c3, c4, c5, rfl⟩ := six_of hC'
          have H := H.step g
          refine ⟨H.box 0 rfl, ?_⟩
          refine allocH H inf163' fun br w41 H => ?_
          refine ⟨H.box 0 rfl, ?_⟩
          refine storeH H 2 rfl sz163 rfl rfl rfl fun w42 H => ?_
          refine ⟨H.box 0 rfl, ?_⟩
          refine storeH H 3 rfl sz163 rfl rfl rfl fun w43 H => ?_
          refine ⟨H.box 0 rfl, ?_⟩
          have H : Apt w w43 [bx b1 [.int .i64 gm.nons, .int .i64 gm.toks, .slice Y gm.rules.length cy] 26, bx b3 zg 26, bx bp ([a0, a1, a2, a3, a4, a5].map Value.bool) 163, bx br ([c0, c1, c2, c3, c4, c5].map Value.bool) 163] := H
          exact hK _ _ ⟨rfl, rfl, bp, br, _, _, rfl, rfl, rfl, hA, rfl, hC, H⟩
        · refine allocH H inf163' fun br w44 H => ?_
          refine ⟨H.box 0 rfl, ?_⟩
          refine reached_c (gm := gm) ⟨hG.1, hG.2.gr H.gr⟩ h6 hr4 fun w45 C g hC' hC => ?_
          obtain ⟨c0, c1, c2, c3, c4, c5, rfl⟩ := six_of hC'
          have H := H.step g
          refine ⟨H.box 0 rfl, ?_⟩
          refine storeH H 2 rfl sz163 rfl rfl rfl fun w46 H => ?_
          refine ⟨H.box 0 rfl, ?_⟩
          refine storeH H 3 rfl sz163 rfl rfl rfl fun w47 H => ?_
          refine ⟨H.box 0 rfl, ?_⟩
          have H : Apt w w47 [bx b1 [.int .i64 gm.nons, .int .i64 gm.toks, .slice Y gm.rules.length cy] 26, bx b3 zg 26, bx bp ([a0, a1, a2, a3, a4, a5].map Value.bool) 163, bx br ([c0, c1, c2, c3, c4, c5].map Value.bool) 163] := H
          exact hK _ _ ⟨rfl, rfl, bp, br, _, _, rfl, rfl, rfl, hA, rfl, hC, H⟩
      · refine allocH H inf163' fun br w48 H => ?_
        refine ⟨H.box 0 rfl, ?_⟩
        refine productive_c (gm := gm) ⟨hG.1, hG.2.gr H.gr⟩ h6 fun w49 A g hA' hA => ?_
        obtain ⟨a0, a1, a2, a3, a4, a5, rfl⟩ := six_of hA'
        have H := H.step g
        refine ⟨H.box 0 rfl, ?_⟩
        refine reached_c (gm := gm) ⟨hG.1, hG.2.gr H.gr⟩ h6 hr4 fun w50 C g hC' hC => ?_
        obtain ⟨c0, c1, c2, c3, c4, c5, rfl⟩ := six_of hC'
        have H := H.step g
        refine ⟨H.box 0 rfl, ?_⟩
        refine storeH H 2 rfl sz163 rfl rfl rfl fun w51 H => ?_
        refine ⟨H.box 0 rfl, ?_⟩
        refine storeH H 3 rfl sz163 rfl rfl rfl fun w52 H => ?_
        refine ⟨H.box 0 rfl, ?_⟩
        have H : Apt w w52 [bx b1 [.int .i64 gm.nons, .int .i64 gm.toks, .slice Y gm.rules.length cy] 26, bx b3 zg 26, bx bp ([a0, a1, a2, a3, a4, a5].map Value.bool) 163, bx br ([c0, c1, c2, c3, c4, c5].map Value.bool) 163] := H
        exact hK _ _ ⟨rfl, rfl, bp, br, _, _, rfl, rfl, rfl, hA, rfl, hC, H⟩
    · refine allocH H inf163' fun br w53 H => ?_
      refine ⟨H.box 0 rfl, ?_⟩
      refine ⟨?_, ?_⟩
      · refine productive_c (gm := gm) ⟨hG.1, hG.2.gr H.gr⟩ h6 fun w54 A g hA' hA => ?_
        obtain ⟨a0, a1, a2, a3, a4, a5, rfl⟩ := six_of hA'
        have H := H.step g
        refine ⟨H.box 0 rfl, ?_⟩
        refine ⟨?_, ?_⟩
        · refine reached_c (gm := gm) ⟨hG.1, hG.2.gr H.gr⟩ h6 hr4 fun w55 C g hC' hC => ?_
          obtain ⟨c0, c1, c2, c3, c4, c5, rfl⟩ := six_of hC'
          have H := H.step g
          refine ⟨H.box 0 rfl, ?_⟩
          refine allocH H inf163' fun bp w56 H => ?_
          refine ⟨H.box 0 rfl, ?_⟩
          refine storeH H 3 rfl sz163 rfl rfl rfl fun w57 H => ?_
          refine ⟨H.box 0 rfl, ?_⟩
          refine storeH H 2 rfl sz163 rfl rfl rfl fun w58 H => ?_
          refine ⟨H.box 0 rfl, ?_⟩
          have H : Apt w w58 [bx b1 [.int .i64 gm.nons, .int .i64 gm.toks, .slice Y gm.rules.length cy] 26, bx b3 zg 26, bx br ([c0, c1, c2, c3, c4, c5].map Value.bool) 163, bx bp ([a0, a1, a2, a3, a4, a5].map Value.bool) 163] := H
          have H := H.perm (List.Perm.cons _ (List.Perm.cons _ (List.Perm.swap _ _ _)))
          exact hK _ _ ⟨rfl, rfl, bp, br, _, _, rfl, rfl, rfl, hA, rfl, hC, H⟩
        · refine allocH H inf163' fun bp w59 H => ?_
          refine ⟨H.box 0 rfl, ?_⟩
          refine reached_c (gm := gm) ⟨hG.1, hG.2.gr H.gr⟩ h6 hr4 fun w60 C g hC' hC => ?_
          obtain ⟨c0, c1, c2, c3, c4, c5, rfl⟩ := six_of hC'
          have H := H.step g
          refine ⟨H.box 0 rfl, ?_⟩
          refine storeH H 3 rfl sz163 rfl rfl rfl fun w61 H => ?_
          refine ⟨H.box 0 rfl, ?_⟩
          refine storeH H 2 rfl sz163 rfl rfl rfl fun w62 H => ?_
          refine ⟨H.box 0 rfl, ?_⟩
          have H : Apt w w62 [bx b1 [.int .i64 gm.nons, .int .i64 gm.toks, .slice Y gm.rules.length cy] 26, bx b3 zg 26, bx br ([c0, c1, c2, c3, c4, c5].map Value.bool) 163, bx bp ([a0, a1, a2, a3, a4, a5].map Value.bool) 163] := H
          have H := H.perm (List.Perm.cons _ (List.Perm.cons _ (List.Perm.swap _ _ _)))
          exact hK _ _ ⟨rfl, rfl, bp, br, _, _, rfl, rfl, rfl, hA, rfl, hC, H⟩
      · refine allocH H inf163' fun bp w63 H => ?_
        refine ⟨H.box 0 rfl, ?_⟩
        refine productive_c (gm := gm) ⟨hG.1, hG.2.gr H.gr⟩ h6 fun w64 A g hA' hA => ?_
        obtain ⟨a0, a1, a2, a3, a4, a5, rfl⟩ := six_of hA'
        have H := H.step g
        refine ⟨H.box 0 rfl, ?_⟩
        refine reached_c (gm := gm) ⟨hG.1, hG.2.gr H.gr⟩ h6 hr4 fun w65 C g hC' hC => ?_
        obtain ⟨c0, c1, c2, c3, c4, c5, rfl⟩ := six_of hC'
        have H := H.step g
        refine ⟨H.box 0 rfl, ?_⟩
        refine storeH H 3 rfl sz163 rfl rfl rfl fun w66 H => ?_
        refine ⟨H.box 0 rfl, ?_⟩
        refine storeH H 2 rfl sz163 rfl rfl rfl fun w67 H => ?_
        refine ⟨H.box 0 rfl, ?_⟩
        have H : Apt w w67 [bx b1 [.int .i64 gm.nons, .int .i64 gm.toks, .slice Y gm.rules.length cy] 26, bx b3 zg 26, bx br ([c0, c1, c2, c3, c4, c5].map Value.bool) 163, bx bp ([a0, a1, a2, a3, a4, a5].map Value.bool) 163] := H
        have H := H.perm (List.Perm.cons _ (List.Perm.cons _ (List.Perm.swap _ _ _)))
        exact hK _ _ ⟨rfl, rfl, bp, br, _, _, rfl, rfl, rfl, hA, rfl, hC, H⟩
  clear H
  rintro f w3 ⟨f1, f2, bp, br, A, C, f3, f4, hA', hA, hC', hC, H⟩
  simp only [f1, f2, f3, f4]
  rw [ldB_agg agg26 sz26 rfl (H.box 0 rfl)]
  refine copyGrammar_c (gvK (gm := gm) ⟨hG.1, hG.2.gr H.gr⟩) hg fun v w4 g o => ?_
  obtain ⟨X, c, ps, rfl, o⟩ := o
  obtain ⟨cells, hrow, hcells⟩ := o.cellsG (by decide)
  have H := H.addGow g hrow hcells
  generalize (fun q => w3.heap.size ≤ q ∧ q < w4.heap.size) = ft at H
  have H := H.perm (List.perm_append_singleton _ _)
  refine allocH H inf26 fun b7 w5 H => ?_
  refine storeH H 5 rfl sz26 rfl rfl rfl fun w6 H => ?_
  have H : Apt w w6 [gth ft X c gm.rules, bx b1 [.int .i64 gm.nons, .int .i64 gm.toks, .slice Y gm.rules.length cy] 26, bx b3 zg 26, bx bp (A.map Value.bool) 163, bx br (C.map Value.bool) 163, bx b7 [.int .i64 gm.nons, .int .i64 gm.toks, .slice X gm.rules.length c] 26] := H
  simp only [bin_add, bin_sub, bin_mul, bin_eql, bin_neq, bin_lss, bin_leq, bin_gtr, bin_geq, un_not, un_neg, zq4, zq3, zq1, zq2, zq0, cond_true', cond_false', zq14, zq15, zq16, zq17, zq13, zq10, zq12, zq11, zq7, zq5, zq6, zq9, zq8, resK_nil, resK_tmp, ite_T, ite_F, upd_at, add_plain, add_zero', Nat.reduceEqDiff, fa8_0, fa8_1, fa8_2, fa8_3, fa14_0, fa14_1, fa19_0, len22, len24, fa26_0, fa26_1, fa26_2, len27, fa33_0, fa33_1, len35, fa77_0, fa77_1, fa88_0, fa88_1, fa88_2, fa88_3, fa88_4, fa88_5, fa114_0, fa114_1, fa114_2, fa124_0, fa124_1, len134, len136, len154, fa156_0, fa156_1, fa156_2, fa156_3, fa156_4, fa156_5, fa156_6, fa184_0, fa184_1, fa200_0, fa200_1, fa200_2, fa200_3, fa215_0, fa215_1, fa215_2, fa215_3, fa215_4, len218, len271, fa274_0, fa274_1, fa274_2, fa303_0, fa303_1, fa303_2, fa303_3, fa314_0, fa314_1, fa314_2, fa314_3, fa314_4, fa314_5, fa314_6, fa314_7, fa314_8, fa314_9, fa314_10]
  rw [ldB24 (H.box 5 rfl) rfl]
  rw [makeFunc_]
  refine deleteFunc_c (p := dropA C A) (Q := fun w' => Box w' br (C.map Value.bool) 163 ∧ Box w' bp (A.map Value.bool) 163) H (fun w' cur H => ⟨H.box 4 rfl, H.box 3 rfl⟩) (fun w1 q r hr Z d k hZ hk => callVc (caps := [ptrv br, ptrv bp]) (dropA_c hC' hA' q.1 q.2 (h6 r hr).1 (h6 r hr).2 hZ hk)) fun w7 H => ?_
  have hsub : ∀ r ∈ (gm.rules.filter fun r => !dropA C A r), r ∈ gm.rules := fun r hr => (List.mem_filter.1 hr).1
  have hp := fun r hr => dropA_iff (rs := gm.rules) (fun r hr => (h6 r hr).1.1) hA hC (r := r) hr
  have two := fun q hq => useful_two (rs := gm.rules) (p := fun r => !dropA C A r) (q := q) hp (fun r hr => (h6 r hr).1.1) hq
  generalize (gm.rules.filter fun r => !dropA C A r) = rs1 at *
  refine storeH H 5 rfl sz24 rfl rfl rfl fun w8 H => ?_
  have H : Apt w w8 [gth ft X c rs1, bx b1 [.int .i64 gm.nons, .int .i64 gm.toks, .slice Y gm.rules.length cy] 26, bx b3 zg 26, bx bp (A.map Value.bool) 163, bx br (C.map Value.bool) 163, bx b7 [.int .i64 gm.nons, .int .i64 gm.toks, .slice X rs1.length c] 26] := H
  rw [ldB_agg agg26 sz26 rfl (H.box 5 rfl)]
  refine reached_c (gm := ⟨gm.nons, gm.toks, rs1⟩) (gowK (H.gow 0 rfl)) (fun r hr => h6 r (hsub r hr)) (fun r hr => hr4 r (hsub r hr)) fun w9 C2 g hC2' hC2 => ?_
  have H := H.step g
  obtain ⟨a0, a1, a2, a3, a4, a5, rfl⟩ := six_of hC2'
  obtain ⟨c0, c1, c2, c3, c4, c5, rfl⟩ := six_of hC'
  refine storeH H 4 rfl sz163 rfl rfl rfl fun w10 H => ?_
  have H : Apt w w10 [gth ft X c rs1, bx b1 [.int .i64 gm.nons, .int .i64 gm.toks, .slice Y gm.rules.length cy] 26, bx b3 zg 26, bx bp (A.map Value.bool) 163, bx br ([a0, a1, a2, a3, a4, a5].map Value.bool) 163, bx b7 [.int .i64 gm.nons, .int .i64 gm.toks, .slice X rs1.length c] 26] := H
  rw [ldB24 (H.box 5 rfl) rfl]
  rw [makeFunc_]
  refine deleteFunc_c (p := dropB [a0, a1, a2, a3, a4, a5]) (Q := fun w' => Box w' br ([a0, a1, a2, a3, a4, a5].map Value.bool) 163) H (fun w' cur H => H.box 4 rfl) (fun w1 q r hr Z d k hZ hk => callVc (caps := [ptrv br]) (dropB_c rfl q (h6 r (hsub r hr)).1 hk)) fun w11 H => ?_
  have e := two (fun r => !dropB [a0, a1, a2, a3, a4, a5] r) fun r => by
    unfold dropB
    rw [Bool.not_not]
    exact hC2 _
  rw [e] at H ⊢
  refine storeH H 5 rfl sz24 rfl rfl rfl fun w12 H => ?_
  have H : Apt w w12 [gth ft X c (usefulR gm.rules), bx b1 [.int .i64 gm.nons, .int .i64 gm.toks, .slice Y gm.rules.length cy] 26, bx b3 zg 26, bx bp (A.map Value.bool) 163, bx br ([a0, a1, a2, a3, a4, a5].map Value.bool) 163, bx b7 [.int .i64 gm.nons, .int .i64 gm.toks, .slice X (usefulR gm.rules).length c] 26] := H
  rw [ldB_agg agg26 sz26 rfl (H.box 5 rfl)]
  refine storeH H 2 rfl sz26 rfl rfl rfl fun w13 H => ?_
  have H : Apt w w13 [gth ft X c (usefulR gm.rules), bx b1 [.int .i64 gm.nons, .int .i64 gm.toks, .slice Y gm.rules.length cy] 26, bx b3 [.int .i64 gm.nons, .int .i64 gm.toks, .slice X (usefulR gm.rules).length c] 26, bx bp (A.map Value.bool) 163, bx br ([a0, a1, a2, a3, a4, a5].map Value.bool) 163, bx b7 [.int .i64 gm.nons, .int .i64 gm.toks, .slice X (usefulR gm.rules).length c] 26] := H
  rw [rd_loadVar, ldB_agg agg26 sz26 rfl (H.box 2 rfl)]
  refine hk w13 X c H.gr (gowK (H.gow 0 rfl)).1 ((H.gow 0 rfl).readF.mono fun q hq => ?_)
  have hq' : blk X = some q ∨ ft q := by
    rcases hq with h | h
    · exact .inl h
    · exact .inr (by first | exact h | exact h.1)
  exact ⟨(H.ok 0 _ rfl).lo q hq', (H.ok 0 _ rfl).hi q hq'⟩
end
end Go.Proofs.Ytegcjkhebecgbaa

/- Contracts: UsefulOf and IsUseful. -/
set_option linter.unusedVariables false
set_option linter.unusedSimpArgs false
set_option maxRecDepth 100000
namespace Go.Sh
open Go
end Go.Sh
namespace Go.Proofs.Ytegcjkhebecgbaa
open Go Go.Sh Go.RowKit
section
variable {w : World} {Y : Option Addr} {cy : Nat} {gm : Gram} {k : Value → World → Prop}
theorem implUsefulOf_c (hG : kG Y cy gm.rules w) (hk : ∀ w' X c, Gr w w' → (usefulV gm).1.rules.length ≤ c → RulesF (fun q => w.heap.size ≤ q ∧ q < w'.heap.size) w' X (usefulV gm).1.rules → k (.tuple #[grv (usefulV gm).1 X c, .bool (usefulV gm).2]) w') :
    CallK Try.prog 63 [grv gm Y cy] k w := by
  refine enter63 ?_
  unfold S63
  have H := (Kn.nil w).addG hG.1 hG.2
  refine do_box fun b1 w1 g1 hb1 B1 => ?_
  have H := (H.step g1).addB B1
  refine do_alloc_of inf26 fun b3 w2 g2 hb3 B3 => ?_
  have H := (H.step g2).addB B3
  simp only [List.cons_append, List.nil_append] at H
  have hsz : w.heap.size ≤ b3 := by have := g1.size; omega
  rw [ldB_agg agg26 sz26 rfl (H.get 2 rfl)]
  refine isGrammar_c (gvK (H.get 1 rfl)) fun w3 g => ?_
  have H := H.step g
  unfold usefulV at hk
  cases hg : goodG gm
  · simp only [Bool.not_false, bin_add, bin_sub, bin_mul, bin_eql, bin_neq, bin_lss, bin_leq, bin_gtr, bin_geq, un_not, un_neg, zq4, zq3, zq1, zq2, zq0, cond_true', cond_false', zq14, zq15, zq16, zq17, zq13, zq10, zq12, zq11, zq7, zq5, zq6, zq9, zq8, resK_nil, resK_tmp, ite_T, ite_F, upd_at, add_plain, add_zero', Nat.reduceEqDiff, fa8_0, fa8_1, fa8_2, fa8_3, fa14_0, fa14_1, fa19_0, len22, len24, fa26_0, fa26_1, fa26_2, len27, fa33_0, fa33_1, len35, fa77_0, fa77_1, fa88_0, fa88_1, fa88_2, fa88_3, fa88_4, fa88_5, fa114_0, fa114_1, fa114_2, fa124_0, fa124_1, len134, len136, len154, fa156_0, fa156_1, fa156_2, fa156_3, fa156_4, fa156_5, fa156_6, fa184_0, fa184_1, fa200_0, fa200_1, fa200_2, fa200_3, fa215_0, fa215_1, fa215_2, fa215_3, fa215_4, len218, len271, fa274_0, fa274_1, fa274_2, fa303_0, fa303_1, fa303_2, fa303_3, fa314_0, fa314_1, fa314_2, fa314_3, fa314_4, fa314_5, fa314_6, fa314_7, fa314_8, fa314_9, fa314_10]
    rw [hg, if_neg Bool.false_ne_true] at hk
    rw [bd26 (cells := #[.int .i64 0, .int .i64 0, .slice none 0 0]) rfl]
    refine retG (gm := ⟨0, 0, []⟩) (F := fun _ => False) (X := none) (c := 0) (H.get 3 rfl) rfl (H.get 0 rfl) hsz ⟨by simp, fun h => by simp at h, fun h => by simp at h, fun j hj => by simp at hj⟩ (fun q hq => hq.elim) fun w4 g4 _ hf => ?_
    exact hk w4 none 0 g4 (Nat.le_refl _) (hf.mono fun q hq => hq.elim)
  rw [hg, if_pos rfl] at hk
  simp only [Bool.not_true, bin_add, bin_sub, bin_mul, bin_eql, bin_neq, bin_lss, bin_leq, bin_gtr, bin_geq, un_not, un_neg, zq4, zq3, zq1, zq2, zq0, cond_true', cond_false', zq14, zq15, zq16, zq17, zq13, zq10, zq12, zq11, zq7, zq5, zq6, zq9, zq8, resK_nil, resK_tmp, ite_T, ite_F, upd_at, add_plain, add_zero', Nat.reduceEqDiff, fa8_0, fa8_1, fa8_2, fa8_3, fa14_0, fa14_1, fa19_0, len22, len24, fa26_0, fa26_1, fa26_2, len27, fa33_0, fa33_1, len35, fa77_0, fa77_1, fa88_0, fa88_1, fa88_2, fa88_3, fa88_4, fa88_5, fa114_0, fa114_1, fa114_2, fa124_0, fa124_1, len134, len136, len154, fa156_0, fa156_1, fa156_2, fa156_3, fa156_4, fa156_5, fa156_6, fa184_0, fa184_1, fa200_0, fa200_1, fa200_2, fa200_3, fa215_0, fa215_1, fa215_2, fa215_3, fa215_4, len218, len271, fa274_0, fa274_1, fa274_2, fa303_0, fa303_1, fa303_2, fa303_3, fa314_0, fa314_1, fa314_2, fa314_3, fa314_4, fa314_5, fa314_6, fa314_7, fa314_8, fa314_9, fa314_10]
  rw [ldB_agg agg26 sz26 rfl (H.get 2 rfl)]
  refine useful_c (H.get 1 rfl) hg fun w4 X c g hc hR => ?_
  have hb3' : b3 < w3.heap.size := (H.get 3 rfl).lt
  have H := H.step g
  have hw3 : w.heap.size ≤ w3.heap.size := (H.get 0 rfl |> fun _ => by have := g1.size; have := g2.size; have := ‹Gr w2 w3›.size; omega)
  refine retG (gm := usefulG gm) (c := c) (H.get 3 rfl) rfl (H.get 0 rfl) hsz hR (fun q hq e => by omega) fun w5 g5 hs hf => ?_
  exact hk w5 X c g5 hc (hf.mono fun q hq => by omega)
end
end Go.Proofs.Ytegcjkhebecgbaa

/- Contracts: two grammars are drawn; DrawUnionOf, DrawGoodGrammar, DrawStarOf. -/
set_option linter.unusedVariables false
set_option linter.unusedSimpArgs false
set_option maxRecDepth 100000
namespace Go.Proofs.Ytegcjkhebecgbaa
open Go Go.Sh Go.RowKit
/-- Bounds of a grammar that is drawn somehow. -/
structure Dr (gm : Gram) : Prop where
  nons : 0 ≤ gm.nons ∧ gm.nons ≤ 1000
  toks : 0 ≤ gm.toks ∧ gm.toks ≤ 1000
theorem Dr.of {m : Nat} {gm : Gram} (h : Drawn m gm) : Dr gm := ⟨h.nons, h.toks⟩
theorem Dr.useful {gm : Gram} (h : Dr gm) : Dr (usefulV gm).1 := by
  unfold usefulV
  split
  · exact ⟨h.nons, h.toks⟩
  · exact ⟨by simp, by simp⟩
section
variable {w0 w : World} {E : List Thing} {bc N cap : Nat} {C : Option Addr} {bs : List Int} {k : Value → World → Prop}
set_option maxHeartbeats 6400000 in
theorem two_c (H : Apt w0 w (cur bc (.slice C bs.length cap) N :: E)) (hC : Byts w0 C bs) (hN : N ≤ 100000) (hk : ∀ w' g1 g2 Y1 c1 ft1 Y2 c2 ft2, Drawn 101 g1 → Dr g2 → List.length g1.rules ≤ c1 → List.length g2.rules ≤ c2 → Apt w0 w' (cur bc (.slice C bs.length cap) (N + 4000) :: rdr ft2 Y2 g2.rules :: rdr ft1 Y1 g1.rules :: E) → k (.tuple #[grv g1 Y1 c1, grv g2 Y2 c2]) w') :
    CallK Try.prog 168 [ptrv bc] k w := by
  refine enter168 ?_
  unfold S168
  refine allocH H inf26 fun b1 w1 H => ?_
  have H := H.insert 1
  simp only [List.take_succ_cons, List.take_zero, List.drop_succ_cons, List.drop_zero, List.nil_append, List.cons_append] at H
  refine allocH H inf26 fun b3 w2 H => ?_
  have H := H.insert 1
  simp only [List.take_succ_cons, List.take_zero, List.drop_succ_cons, List.drop_zero, List.nil_append, List.cons_append] at H
  refine any_c H hC (by omega) fun w3 g1 ft1 Y1 c1 hd1 H => ?_
  have hc1 := (gowK (H.gow 1 rfl)).1
  have H := H.toRead 1 rfl
  simp only [List.set_cons_zero, List.set_cons_succ] at H
  generalize (fun q => blk Y1 = some q ∨ ft1 q) = ft1 at H
  refine allocH H inf26 fun b7 w4 H => ?_
  have H := H.insert 1
  simp only [List.take_succ_cons, List.take_zero, List.drop_succ_cons, List.drop_zero, List.nil_append, List.cons_append] at H
  refine storeH H 1 rfl sz26 rfl rfl rfl fun w5 H => ?_
  simp only [List.set_cons_zero, List.set_cons_succ] at H
  refine grammar_c H hC (by omega) fun w6 g2 ft2 Y2 c2 hd2 H => ?_
  have hc2 := (gowK (H.gow 1 rfl)).1
  have H := H.toRead 1 rfl
  simp only [List.set_cons_zero, List.set_cons_succ] at H
  generalize (fun q => blk Y2 = some q ∨ ft2 q) = ft2 at H
  refine allocH H inf26 fun b12 w7 H => ?_
  have H := H.insert 1
  simp only [List.take_succ_cons, List.take_zero, List.drop_succ_cons, List.drop_zero, List.nil_append, List.cons_append] at H
  refine storeH H 1 rfl sz26 rfl rfl rfl fun w8 H => ?_
  have H : Apt w0 w8 (cur bc (.slice C bs.length cap) (N + 1100) :: bx b12 [.int .i64 g2.nons, .int .i64 g2.toks, .slice Y2 g2.rules.length c2] 26 :: rdr ft2 Y2 g2.rules :: bx b7 [.int .i64 g1.nons, .int .i64 g1.toks, .slice Y1 g1.rules.length c1] 26 :: rdr ft1 Y1 g1.rules :: bx b3 zg 26 :: bx b1 zg 26 :: E) := curMore H (by omega)
  refine join_as (fun f w' => f 0 = ptrv bc ∧ f 2 = ptrv b1 ∧ f 3 = ptrv b3 ∧ f 4 = ptrv b7 ∧ f 5 = ptrv b12 ∧ ∃ g2 Y2 c2 ft2, Dr g2 ∧ List.length g2.rules ≤ c2 ∧ Apt w0 w' (cur bc (.slice C bs.length cap) (N + 1200) :: bx b12 [.int .i64 g2.nons, .int .i64 g2.toks, .slice Y2 g2.rules.length c2] 26 :: rdr ft2 Y2 g2.rules :: bx b7 [.int .i64 g1.nons, .int .i64 g1.toks, .slice Y1 g1.rules.length c1] 26 :: rdr ft1 Y1 g1.rules :: bx b3 zg 26 :: bx b1 zg 26 :: E)) (fun K hK => ?_) ?_
  · have hG1 : kG Y1 c1 g1.rules w8 := ⟨hc1, (H.rdr 4 rfl).mono fun _ _ => trivial⟩
    rw [ldB_agg agg26 sz26 rfl (H.box 3 rfl)]
    refine specUsefulOf_c hG1 fun w9 X c g hc hR => ?_
    have H := (H.addRead g hR).insert 1
    simp only [List.take_succ_cons, List.take_zero, List.drop_succ_cons, List.drop_zero, List.nil_append, List.cons_append] at H
    generalize (fun q => w8.heap.size ≤ q ∧ q < w9.heap.size) = ftu at H
    have hdu := (Dr.of hd1).useful
    generalize (usefulV g1).1 = u at *
    simp only [bin_add, bin_sub, bin_mul, bin_eql, bin_neq, bin_lss, bin_leq, bin_gtr, bin_geq, un_not, un_neg, zq4, zq3, zq1, zq2, zq0, cond_true', cond_false', zq14, zq15, zq16, zq17, zq13, zq10, zq12, zq11, zq7, zq5, zq6, zq9, zq8, resK_nil, resK_tmp, ite_T, ite_F, upd_at, add_plain, add_zero', Nat.reduceEqDiff, fa8_0, fa8_1, fa8_2, fa8_3, fa14_0, fa14_1, fa19_0, len22, len24, fa26_0, fa26_1, fa26_2, len27, fa33_0, fa33_1, len35, fa77_0, fa77_1, fa88_0, fa88_1, fa88_2, fa88_3, fa88_4, fa88_5, fa114_0, fa114_1, fa114_2, fa124_0, fa124_1, len134, len136, len154, fa156_0, fa156_1, fa156_2, fa156_3, fa156_4, fa156_5, fa156_6, fa184_0, fa184_1, fa200_0, fa200_1, fa200_2, fa200_3, fa215_0, fa215_1, fa215_2, fa215_3, fa215_4, len218, len271, fa274_0, fa274_1, fa274_2, fa303_0, fa303_1, fa303_2, fa303_3, fa314_0, fa314_1, fa314_2, fa314_3, fa314_4, fa314_5, fa314_6, fa314_7, fa314_8, fa314_9, fa314_10]
    refine allocH H inf26 fun b23 w10 H => ?_
    have H := H.insert 1
    simp only [List.take_succ_cons, List.take_zero, List.drop_succ_cons, List.drop_zero, List.nil_append, List.cons_append] at H
    refine storeH H 1 rfl sz26 rfl rfl rfl fun w11 H => ?_
    have H : Apt w0 w11 (cur bc (.slice C bs.length cap) (N + 1100) :: bx b23 [.int .i64 u.nons, .int .i64 u.toks, .slice X u.rules.length c] 26 :: rdr ftu X u.rules :: bx b12 [.int .i64 g2.nons, .int .i64 g2.toks, .slice Y2 g2.rules.length c2] 26 :: rdr ft2 Y2 g2.rules :: bx b7 [.int .i64 g1.nons, .int .i64 g1.toks, .slice Y1 g1.rules.length c1] 26 :: rdr ft1 Y1 g1.rules :: bx b3 zg 26 :: bx b1 zg 26 :: E) := H
    have old : ∀ {w' : World} {M : Nat} {f' : F}, M ≤ N + 1200 → Apt w0 w' (cur bc (.slice C bs.length cap) M :: bx b23 [.int .i64 u.nons, .int .i64 u.toks, .slice X u.rules.length c] 26 :: rdr ftu X u.rules :: bx b12 [.int .i64 g2.nons, .int .i64 g2.toks, .slice Y2 g2.rules.length c2] 26 :: rdr ft2 Y2 g2.rules :: bx b7 [.int .i64 g1.nons, .int .i64 g1.toks, .slice Y1 g1.rules.length c1] 26 :: rdr ft1 Y1 g1.rules :: bx b3 zg 26 :: bx b1 zg 26 :: E) → f' 0 = ptrv bc → f' 2 = ptrv b1 → f' 3 = ptrv b3 → f' 4 = ptrv b7 → f' 5 = ptrv b12 → K f' w' := fun hM H e0 e2 e3 e4 e5 => by
      have H := (H.erase 1).erase 1
      simp only [List.eraseIdx_cons_zero, List.eraseIdx_cons_succ] at H
      exact hK _ _ ⟨e0, e2, e3, e4, e5, g2, Y2, c2, ft2, Dr.of hd2, hc2, curMore H hM⟩
    cases (usefulV g1).2
    · simp only [bin_add, bin_sub, bin_mul, bin_eql, bin_neq, bin_lss, bin_leq, bin_gtr, bin_geq, un_not, un_neg, zq4, zq3, zq1, zq2, zq0, cond_true', cond_false', zq14, zq15, zq16, zq17, zq13, zq10, zq12, zq11, zq7, zq5, zq6, zq9, zq8, resK_nil, resK_tmp, ite_T, ite_F, upd_at, add_plain, add_zero', Nat.reduceEqDiff, fa8_0, fa8_1, fa8_2, fa8_3, fa14_0, fa14_1, fa19_0, len22, len24, fa26_0, fa26_1, fa26_2, len27, fa33_0, fa33_1, len35, fa77_0, fa77_1, fa88_0, fa88_1, fa88_2, fa88_3, fa88_4, fa88_5, fa114_0, fa114_1, fa114_2, fa124_0, fa124_1, len134, len136, len154, fa156_0, fa156_1, fa156_2, fa156_3, fa156_4, fa156_5, fa156_6, fa184_0, fa184_1, fa200_0, fa200_1, fa200_2, fa200_3, fa215_0, fa215_1, fa215_2, fa215_3, fa215_4, len218, len271, fa274_0, fa274_1, fa274_2, fa303_0, fa303_1, fa303_2, fa303_3, fa314_0, fa314_1, fa314_2, fa314_3, fa314_4, fa314_5, fa314_6, fa314_7, fa314_8, fa314_9, fa314_10]
      exact old (by omega) H rfl rfl rfl rfl rfl
    simp only [bin_add, bin_sub, bin_mul, bin_eql, bin_neq, bin_lss, bin_leq, bin_gtr, bin_geq, un_not, un_neg, zq4, zq3, zq1, zq2, zq0, cond_true', cond_false', zq14, zq15, zq16, zq17, zq13, zq10, zq12, zq11, zq7, zq5, zq6, zq9, zq8, resK_nil, resK_tmp, ite_T, ite_F, upd_at, add_plain, add_zero', Nat.reduceEqDiff, fa8_0, fa8_1, fa8_2, fa8_3, fa14_0, fa14_1, fa19_0, len22, len24, fa26_0, fa26_1, fa26_2, len27, fa33_0, fa33_1, len35, fa77_0, fa77_1, fa88_0, fa88_1, fa88_2, fa88_3, fa88_4, fa88_5, fa114_0, fa114_1, fa114_2, fa124_0, fa124_1, len134, len136, len154, fa156_0, fa156_1, fa156_2, fa156_3, fa156_4, fa156_5, fa156_6, fa184_0, fa184_1, fa200_0, fa200_1, fa200_2, fa200_3, fa215_0, fa215_1, fa215_2, fa215_3, fa215_4, len218, len271, fa274_0, fa274_1, fa274_2, fa303_0, fa303_1, fa303_2, fa303_3, fa314_0, fa314_1, fa314_2, fa314_3, fa314_4, fa314_5, fa314_6, fa314_7, fa314_8, fa314_9, fa314_10]
    refine one_c H 0 rfl hC (by omega) (by omega) fun w12 b H => ?_
    simp only [List.set_cons_zero] at H
    cases b
    · simp only [bin_add, bin_sub, bin_mul, bin_eql, bin_neq, bin_lss, bin_leq, bin_gtr, bin_geq, un_not, un_neg, zq4, zq3, zq1, zq2, zq0, cond_true', cond_false', zq14, zq15, zq16, zq17, zq13, zq10, zq12, zq11, zq7, zq5, zq6, zq9, zq8, resK_nil, resK_tmp, ite_T, ite_F, upd_at, add_plain, add_zero', Nat.reduceEqDiff, fa8_0, fa8_1, fa8_2, fa8_3, fa14_0, fa14_1, fa19_0, len22, len24, fa26_0, fa26_1, fa26_2, len27, fa33_0, fa33_1, len35, fa77_0, fa77_1, fa88_0, fa88_1, fa88_2, fa88_3, fa88_4, fa88_5, fa114_0, fa114_1, fa114_2, fa124_0, fa124_1, len134, len136, len154, fa156_0, fa156_1, fa156_2, fa156_3, fa156_4, fa156_5, fa156_6, fa184_0, fa184_1, fa200_0, fa200_1, fa200_2, fa200_3, fa215_0, fa215_1, fa215_2, fa215_3, fa215_4, len218, len271, fa274_0, fa274_1, fa274_2, fa303_0, fa303_1, fa303_2, fa303_3, fa314_0, fa314_1, fa314_2, fa314_3, fa314_4, fa314_5, fa314_6, fa314_7, fa314_8, fa314_9, fa314_10]
      exact old (by omega) H rfl rfl rfl rfl rfl
    simp only [bin_add, bin_sub, bin_mul, bin_eql, bin_neq, bin_lss, bin_leq, bin_gtr, bin_geq, un_not, un_neg, zq4, zq3, zq1, zq2, zq0, cond_true', cond_false', zq14, zq15, zq16, zq17, zq13, zq10, zq12, zq11, zq7, zq5, zq6, zq9, zq8, resK_nil, resK_tmp, ite_T, ite_F, upd_at, add_plain, add_zero', Nat.reduceEqDiff, fa8_0, fa8_1, fa8_2, fa8_3, fa14_0, fa14_1, fa19_0, len22, len24, fa26_0, fa26_1, fa26_2, len27, fa33_0, fa33_1, len35, fa77_0, fa77_1, fa88_0, fa88_1, fa88_2, fa88_3, fa88_4, fa88_5, fa114_0, fa114_1, fa114_2, fa124_0, fa124_1, len134, len136, len154, fa156_0, fa156_1, fa156_2, fa156_3, fa156_4, fa156_5, fa156_6, fa184_0, fa184_1, fa200_0, fa200_1, fa200_2, fa200_3, fa215_0, fa215_1, fa215_2, fa215_3, fa215_4, len218, len271, fa274_0, fa274_1, fa274_2, fa303_0, fa303_1, fa303_2, fa303_3, fa314_0, fa314_1, fa314_2, fa314_3, fa314_4, fa314_5, fa314_6, fa314_7, fa314_8, fa314_9, fa314_10]
    rw [ldB_agg agg26 sz26 rfl (H.box 1 rfl)]
    refine storeH H 3 rfl sz26 rfl rfl rfl fun w13 H => ?_
    have H : Apt w0 w13 (cur bc (.slice C bs.length cap) (N + 1100 + 2) :: bx b23 [.int .i64 u.nons, .int .i64 u.toks, .slice X u.rules.length c] 26 :: rdr ftu X u.rules :: bx b12 [.int .i64 u.nons, .int .i64 u.toks, .slice X u.rules.length c] 26 :: rdr ft2 Y2 g2.rules :: bx b7 [.int .i64 g1.nons, .int .i64 g1.toks, .slice Y1 g1.rules.length c1] 26 :: rdr ft1 Y1 g1.rules :: bx b3 zg 26 :: bx b1 zg 26 :: E) := H
    have H := (H.erase 4).erase 1
    simp only [List.eraseIdx_cons_zero, List.eraseIdx_cons_succ] at H
    have H := H.perm (List.Perm.cons _ (List.Perm.swap _ _ _))
    exact hK _ _ ⟨rfl, rfl, rfl, rfl, rfl, u, X, c, ftu, hdu, hc, curMore H (by omega)⟩
  clear H
  rintro f w9 ⟨f0, f2, f3, f4, f5, g2, Y2, c2, ft2, hd2, hc2, H⟩
  refine loop_to 4 0 (fun i f w' => i ≤ 4 ∧ f 8 = .int .i64 (i : Int) ∧ ∃ g2 Y2 c2 ft2, Dr g2 ∧ List.length g2.rules ≤ c2 ∧ Apt w0 w' (cur bc (.slice C bs.length cap) (N + 1200 + i * 500) :: bx b12 [.int .i64 g2.nons, .int .i64 g2.toks, .slice Y2 g2.rules.length c2] 26 :: rdr ft2 Y2 g2.rules :: bx b7 [.int .i64 g1.nons, .int .i64 g1.toks, .slice Y1 g1.rules.length c1] 26 :: rdr ft1 Y1 g1.rules :: bx b3 zg 26 :: bx b1 zg 26 :: E))
    ⟨Nat.zero_le _, rfl, g2, Y2, c2, ft2, hd2, hc2, H⟩ ?_
  clear H
  rintro i q w10 NN hag ⟨hi, q8, g2, Y2, c2, ft2, hd2, hc2, H⟩ hNN
  have q0 : q 0 = ptrv bc := (hag 0 (by decide)).trans f0
  have q2 : q 2 = ptrv b1 := (hag 2 (by decide)).trans f2
  have q3 : q 3 = ptrv b3 := (hag 3 (by decide)).trans f3
  have q4 : q 4 = ptrv b7 := (hag 4 (by decide)).trans f4
  have q5 : q 5 = ptrv b12 := (hag 5 (by decide)).trans f5
  have fin : ∀ (g2 : Gram) (Y2 : Option Addr) (c2 : Nat) (ft2 : Nat → Prop) (M : Nat) (w' : World), M ≤ N + 4000 → Dr g2 → g2.rules.length ≤ c2 → Apt w0 w' (cur bc (.slice C bs.length cap) M :: bx b12 [.int .i64 g2.nons, .int .i64 g2.toks, .slice Y2 g2.rules.length c2] 26 :: rdr ft2 Y2 g2.rules :: bx b7 [.int .i64 g1.nons, .int .i64 g1.toks, .slice Y1 g1.rules.length c1] 26 :: rdr ft1 Y1 g1.rules :: bx b3 zg 26 :: bx b1 zg 26 :: E) →
      ∃ S54 : World → Prop, ∃ h55 : S54 w'.drew,
       Rd Try.prog ⟨S54, w'.drew, h55⟩ (sLoad 26 (ptrv b7)) fun t56 =>
       Rd Try.prog ⟨S54, w'.drew, h55⟩ (sLoad 26 (ptrv b12)) fun t57 =>
       Do Try.prog (sStore 26 (ptrv b1) t56) (fun _ w58 =>
       S54 w58 ∧ Do Try.prog (sStore 26 (ptrv b3) t57) (fun _ w59 =>
       Rd Try.prog (WS.at w59) (sLoadVar 26 (ptrv b1)) fun t60 => Rd Try.prog (WS.at w59) (sLoadVar 26 (ptrv b3)) fun t61 => k (.tuple #[t60, t61]) w59) w58) w'.drew := fun g2 Y2 c2 ft2 M w' hM hd2 hc2 H => by
    have H := H.drew
    refine ⟨fun w'' => Box w'' b7 [.int .i64 g1.nons, .int .i64 g1.toks, .slice Y1 g1.rules.length c1] 26 ∧ Box w'' b12 [.int .i64 g2.nons, .int .i64 g2.toks, .slice Y2 g2.rules.length c2] 26, ⟨H.box 3 rfl, H.box 1 rfl⟩, ?_⟩
    refine rdi (rdS26 rfl fun w' h => h.1) (rdi (rdS26 rfl fun w' h => h.2) ?_)
    refine storeH H 6 rfl sz26 rfl rfl rfl fun w11 H => ?_
    have H : Apt w0 w11 (cur bc (.slice C bs.length cap) M :: bx b12 [.int .i64 g2.nons, .int .i64 g2.toks, .slice Y2 g2.rules.length c2] 26 :: rdr ft2 Y2 g2.rules :: bx b7 [.int .i64 g1.nons, .int .i64 g1.toks, .slice Y1 g1.rules.length c1] 26 :: rdr ft1 Y1 g1.rules :: bx b3 zg 26 :: bx b1 [.int .i64 g1.nons, .int .i64 g1.toks, .slice Y1 g1.rules.length c1] 26 :: E) := H
    refine ⟨⟨H.box 3 rfl, H.box 1 rfl⟩, ?_⟩
    refine storeH H 5 rfl sz26 rfl rfl rfl fun w12 H => ?_
    have H : Apt w0 w12 (cur bc (.slice C bs.length cap) M :: bx b12 [.int .i64 g2.nons, .int .i64 g2.toks, .slice Y2 g2.rules.length c2] 26 :: rdr ft2 Y2 g2.rules :: bx b7 [.int .i64 g1.nons, .int .i64 g1.toks, .slice Y1 g1.rules.length c1] 26 :: rdr ft1 Y1 g1.rules :: bx b3 [.int .i64 g2.nons, .int .i64 g2.toks, .slice Y2 g2.rules.length c2] 26 :: bx b1 [.int .i64 g1.nons, .int .i64 g1.toks, .slice Y1 g1.rules.length c1] 26 :: E) := H
    rw [rd_loadVar, ldB_agg agg26 sz26 rfl (H.box 6 rfl), rd_loadVar, ldB_agg agg26 sz26 rfl (H.box 5 rfl)]
    have H := (((H.erase 6).erase 5).erase 3).erase 1
    simp only [List.eraseIdx_cons_zero, List.eraseIdx_cons_succ] at H
    exact hk w12 g1 g2 Y1 c1 ft1 Y2 c2 ft2 hd1 hd2 hc1 hc2 (curMore H hM)
  simp only [q0, q4, q5, q8, bin_add, bin_sub, bin_mul, bin_eql, bin_neq, bin_lss, bin_leq, bin_gtr, bin_geq, un_not, un_neg, zq4, zq3, zq1, zq2, zq0, cond_true', cond_false', zq14, zq15, zq16, zq17, zq13, zq10, zq12, zq11, zq7, zq5, zq6, zq9, zq8, resK_nil, resK_tmp, ite_T, ite_F, upd_at, add_plain, add_zero', Nat.reduceEqDiff, fa8_0, fa8_1, fa8_2, fa8_3, fa14_0, fa14_1, fa19_0, len22, len24, fa26_0, fa26_1, fa26_2, len27, fa33_0, fa33_1, len35, fa77_0, fa77_1, fa88_0, fa88_1, fa88_2, fa88_3, fa88_4, fa88_5, fa114_0, fa114_1, fa114_2, fa124_0, fa124_1, len134, len136, len154, fa156_0, fa156_1, fa156_2, fa156_3, fa156_4, fa156_5, fa156_6, fa184_0, fa184_1, fa200_0, fa200_1, fa200_2, fa200_3, fa215_0, fa215_1, fa215_2, fa215_3, fa215_4, len218, len271, fa274_0, fa274_1, fa274_2, fa303_0, fa303_1, fa303_2, fa303_3, fa314_0, fa314_1, fa314_2, fa314_3, fa314_4, fa314_5, fa314_6, fa314_7, fa314_8, fa314_9, fa314_10]
  by_cases hlt : i < 4
  case neg =>
    simp only [show ¬ ((i : Int) < 4) from by omega, decide_false, q2, q3, q4, q5, bin_add, bin_sub, bin_mul, bin_eql, bin_neq, bin_lss, bin_leq, bin_gtr, bin_geq, un_not, un_neg, zq4, zq3, zq1, zq2, zq0, cond_true', cond_false', zq14, zq15, zq16, zq17, zq13, zq10, zq12, zq11, zq7, zq5, zq6, zq9, zq8, resK_nil, resK_tmp, ite_T, ite_F, upd_at, add_plain, add_zero', Nat.reduceEqDiff, fa8_0, fa8_1, fa8_2, fa8_3, fa14_0, fa14_1, fa19_0, len22, len24, fa26_0, fa26_1, fa26_2, len27, fa33_0, fa33_1, len35, fa77_0, fa77_1, fa88_0, fa88_1, fa88_2, fa88_3, fa88_4, fa88_5, fa114_0, fa114_1, fa114_2, fa124_0, fa124_1, len134, len136, len154, fa156_0, fa156_1, fa156_2, fa156_3, fa156_4, fa156_5, fa156_6, fa184_0, fa184_1, fa200_0, fa200_1, fa200_2, fa200_3, fa215_0, fa215_1, fa215_2, fa215_3, fa215_4, len218, len271, fa274_0, fa274_1, fa274_2, fa303_0, fa303_1, fa303_2, fa303_3, fa314_0, fa314_1, fa314_2, fa314_3, fa314_4, fa314_5, fa314_6, fa314_7, fa314_8, fa314_9, fa314_10]
    exact fin g2 Y2 c2 ft2 _ _ (by omega) hd2 hc2 H
  simp only [show ((i : Int) < 4) from by omega, decide_true, bin_add, bin_sub, bin_mul, bin_eql, bin_neq, bin_lss, bin_leq, bin_gtr, bin_geq, un_not, un_neg, zq4, zq3, zq1, zq2, zq0, cond_true', cond_false', zq14, zq15, zq16, zq17, zq13, zq10, zq12, zq11, zq7, zq5, zq6, zq9, zq8, resK_nil, resK_tmp, ite_T, ite_F, upd_at, add_plain, add_zero', Nat.reduceEqDiff, fa8_0, fa8_1, fa8_2, fa8_3, fa14_0, fa14_1, fa19_0, len22, len24, fa26_0, fa26_1, fa26_2, len27, fa33_0, fa33_1, len35, fa77_0, fa77_1, fa88_0, fa88_1, fa88_2, fa88_3, fa88_4, fa88_5, fa114_0, fa114_1, fa114_2, fa124_0, fa124_1, len134, len136, len154, fa156_0, fa156_1, fa156_2, fa156_3, fa156_4, fa156_5, fa156_6, fa184_0, fa184_1, fa200_0, fa200_1, fa200_2, fa200_3, fa215_0, fa215_1, fa215_2, fa215_3, fa215_4, len218, len271, fa274_0, fa274_1, fa274_2, fa303_0, fa303_1, fa303_2, fa303_3, fa314_0, fa314_1, fa314_2, fa314_3, fa314_4, fa314_5, fa314_6, fa314_7, fa314_8, fa314_9, fa314_10]
  rw [ldB3 (H.box 1 rfl) rfl, ldB3 (H.box 3 rfl) rfl]
  simp only [bin_add, bin_sub, bin_mul, bin_eql, bin_neq, bin_lss, bin_leq, bin_gtr, bin_geq, un_not, un_neg, zq4, zq3, zq1, zq2, zq0, cond_true', cond_false', zq14, zq15, zq16, zq17, zq13, zq10, zq12, zq11, zq7, zq5, zq6, zq9, zq8, resK_nil, resK_tmp, ite_T, ite_F, upd_at, add_plain, add_zero', Nat.reduceEqDiff, fa8_0, fa8_1, fa8_2, fa8_3, fa14_0, fa14_1, fa19_0, len22, len24, fa26_0, fa26_1, fa26_2, len27, fa33_0, fa33_1, len35, fa77_0, fa77_1, fa88_0, fa88_1, fa88_2, fa88_3, fa88_4, fa88_5, fa114_0, fa114_1, fa114_2, fa124_0, fa124_1, len134, len136, len154, fa156_0, fa156_1, fa156_2, fa156_3, fa156_4, fa156_5, fa156_6, fa184_0, fa184_1, fa200_0, fa200_1, fa200_2, fa200_3, fa215_0, fa215_1, fa215_2, fa215_3, fa215_4, len218, len271, fa274_0, fa274_1, fa274_2, fa303_0, fa303_1, fa303_2, fa303_3, fa314_0, fa314_1, fa314_2, fa314_3, fa314_4, fa314_5, fa314_6, fa314_7, fa314_8, fa314_9, fa314_10]
  by_cases ht : g2.toks = g1.toks
  · simp only [ht, decide_true, Bool.not_true, q2, q3, q4, q5, bin_add, bin_sub, bin_mul, bin_eql, bin_neq, bin_lss, bin_leq, bin_gtr, bin_geq, un_not, un_neg, zq4, zq3, zq1, zq2, zq0, cond_true', cond_false', zq14, zq15, zq16, zq17, zq13, zq10, zq12, zq11, zq7, zq5, zq6, zq9, zq8, resK_nil, resK_tmp, ite_T, ite_F, upd_at, add_plain, add_zero', Nat.reduceEqDiff, fa8_0, fa8_1, fa8_2, fa8_3, fa14_0, fa14_1, fa19_0, len22, len24, fa26_0, fa26_1, fa26_2, len27, fa33_0, fa33_1, len35, fa77_0, fa77_1, fa88_0, fa88_1, fa88_2, fa88_3, fa88_4, fa88_5, fa114_0, fa114_1, fa114_2, fa124_0, fa124_1, len134, len136, len154, fa156_0, fa156_1, fa156_2, fa156_3, fa156_4, fa156_5, fa156_6, fa184_0, fa184_1, fa200_0, fa200_1, fa200_2, fa200_3, fa215_0, fa215_1, fa215_2, fa215_3, fa215_4, len218, len271, fa274_0, fa274_1, fa274_2, fa303_0, fa303_1, fa303_2, fa303_3, fa314_0, fa314_1, fa314_2, fa314_3, fa314_4, fa314_5, fa314_6, fa314_7, fa314_8, fa314_9, fa314_10]
    exact fin g2 Y2 c2 ft2 _ _ (by omega) hd2 hc2 H
  simp only [ht, decide_false, Bool.not_false, bin_add, bin_sub, bin_mul, bin_eql, bin_neq, bin_lss, bin_leq, bin_gtr, bin_geq, un_not, un_neg, zq4, zq3, zq1, zq2, zq0, cond_true', cond_false', zq14, zq15, zq16, zq17, zq13, zq10, zq12, zq11, zq7, zq5, zq6, zq9, zq8, resK_nil, resK_tmp, ite_T, ite_F, upd_at, add_plain, add_zero', Nat.reduceEqDiff, fa8_0, fa8_1, fa8_2, fa8_3, fa14_0, fa14_1, fa19_0, len22, len24, fa26_0, fa26_1, fa26_2, len27, fa33_0, fa33_1, len35, fa77_0, fa77_1, fa88_0, fa88_1, fa88_2, fa88_3, fa88_4, fa88_5, fa114_0, fa114_1, fa114_2, fa124_0, fa124_1, len134, len136, len154, fa156_0, fa156_1, fa156_2, fa156_3, fa156_4, fa156_5, fa156_6, fa184_0, fa184_1, fa200_0, fa200_1, fa200_2, fa200_3, fa215_0, fa215_1, fa215_2, fa215_3, fa215_4, len218, len271, fa274_0, fa274_1, fa274_2, fa303_0, fa303_1, fa303_2, fa303_3, fa314_0, fa314_1, fa314_2, fa314_3, fa314_4, fa314_5, fa314_6, fa314_7, fa314_8, fa314_9, fa314_10]
  refine grammar_c H hC (by omega) fun w11 g3 ft3 Y3 c3 hd3 H => ?_
  have hc3 := (gowK (H.gow 1 rfl)).1
  have H := H.toRead 1 rfl
  simp only [List.set_cons_zero, List.set_cons_succ] at H
  generalize (fun q => blk Y3 = some q ∨ ft3 q) = ft3 at H
  refine storeH H 2 rfl sz26 rfl rfl rfl fun w12 H => ?_
  have H : Apt w0 w12 (cur bc (.slice C bs.length cap) (N + 1200 + i * 500 + 500) :: rdr ft3 Y3 g3.rules :: bx b12 [.int .i64 g3.nons, .int .i64 g3.toks, .slice Y3 g3.rules.length c3] 26 :: rdr ft2 Y2 g2.rules :: bx b7 [.int .i64 g1.nons, .int .i64 g1.toks, .slice Y1 g1.rules.length c1] 26 :: rdr ft1 Y1 g1.rules :: bx b3 zg 26 :: bx b1 zg 26 :: E) := H
  have H := H.erase 3
  simp only [List.eraseIdx_cons_zero, List.eraseIdx_cons_succ] at H
  have H := H.perm (List.Perm.cons _ (List.Perm.swap _ _ _))
  rw [i64_of (by omega) (by omega)]
  exact hNN _ _ hlt ⟨by omega, rfl, g3, Y3, c3, ft3, Dr.of hd3, hc3, curMore H (by omega)⟩
end
end Go.Proofs.Ytegcjkhebecgbaa

/- Contracts: DrawSameUpTo, DrawCountByLong. -/
set_option linter.unusedVariables false
set_option linter.unusedSimpArgs false
set_option maxRecDepth 100000
namespace Go.Proofs.Ytegcjkhebecgbaa
open Go Go.Sh Go.RowKit
section
variable {w : World} {C : Option Addr} {cap : Nat} {bs : List Int} {k : Value → World → Prop}
set_option maxHeartbeats 3200000 in
theorem drawSameUpTo_c (hC : Byts w C bs) (hk : ∀ w' g1 g2 Y1 c1 Y2 c2 most, Gr w w' → kG Y1 c1 g1.rules w' → kG Y2 c2 g2.rules w' → k (.tuple #[grv g1 Y1 c1, grv g2 Y2 c2, .int .i64 most]) w') :
    CallK Try.prog 74 [.slice C bs.length cap] k w := by
  refine enter74 ?_
  unfold S74
  have H := Apt.nil w
  refine allocH H inf26 fun b0 w1 H => ?_
  refine allocH H inf26 fun b1 w2 H => ?_
  refine rdi (bd114 (cells := #[.slice C bs.length cap, .int .i64 0, .int .u64 0]) rfl) ?_
  refine boxH H fun b4 w3 H => ?_
  simp only [List.nil_append, List.cons_append] at H
  have H := H.shutCur (N := 0) (tc := TC) (bc := b4) (cv := .slice C bs.length cap) (a := 0) (s := 0) 2 rfl (by omega) (by omega)
  simp only [List.set_cons_succ, List.set_cons_zero] at H
  have H : Apt w w3 [cur b4 (.slice C bs.length cap) 0, bx b0 zg 26, bx b1 zg 26] := H.perm ((List.Perm.cons _ (List.Perm.swap _ _ _)).trans (List.Perm.swap _ _ _))
  refine two_c H hC (by omega) fun w4 g1 g2 Y1 c1 ft1 Y2 c2 ft2 hd1 hd2 hc1 hc2 H => ?_
  simp only [bin_add, bin_sub, bin_mul, bin_eql, bin_neq, bin_lss, bin_leq, bin_gtr, bin_geq, un_not, un_neg, zq4, zq3, zq1, zq2, zq0, cond_true', cond_false', zq14, zq15, zq16, zq17, zq13, zq10, zq12, zq11, zq7, zq5, zq6, zq9, zq8, resK_nil, resK_tmp, ite_T, ite_F, upd_at, add_plain, add_zero', Nat.reduceEqDiff, fa8_0, fa8_1, fa8_2, fa8_3, fa14_0, fa14_1, fa19_0, len22, len24, fa26_0, fa26_1, fa26_2, len27, fa33_0, fa33_1, len35, fa77_0, fa77_1, fa88_0, fa88_1, fa88_2, fa88_3, fa88_4, fa88_5, fa114_0, fa114_1, fa114_2, fa124_0, fa124_1, len134, len136, len154, fa156_0, fa156_1, fa156_2, fa156_3, fa156_4, fa156_5, fa156_6, fa184_0, fa184_1, fa200_0, fa200_1, fa200_2, fa200_3, fa215_0, fa215_1, fa215_2, fa215_3, fa215_4, len218, len271, fa274_0, fa274_1, fa274_2, fa303_0, fa303_1, fa303_2, fa303_3, fa314_0, fa314_1, fa314_2, fa314_3, fa314_4, fa314_5, fa314_6, fa314_7, fa314_8, fa314_9, fa314_10]
  refine allocH H inf26 fun b12 w5 H => ?_
  refine allocH H inf26 fun b14 w6 H => ?_
  simp only [List.nil_append, List.cons_append] at H
  refine storeH H 5 rfl sz26 rfl rfl rfl fun w7 H => ?_
  have H : Apt w w7 [cur b4 (.slice C bs.length cap) (0 + 4000), rdr ft2 Y2 g2.rules, rdr ft1 Y1 g1.rules, bx b0 zg 26, bx b1 zg 26, bx b12 [.int .i64 g1.nons, .int .i64 g1.toks, .slice Y1 g1.rules.length c1] 26, bx b14 zg 26] := H
  refine storeH H 6 rfl sz26 rfl rfl rfl fun w8 H => ?_
  have H : Apt w w8 [cur b4 (.slice C bs.length cap) (0 + 4000), rdr ft2 Y2 g2.rules, rdr ft1 Y1 g1.rules, bx b0 zg 26, bx b1 zg 26, bx b12 [.int .i64 g1.nons, .int .i64 g1.toks, .slice Y1 g1.rules.length c1] 26, bx b14 [.int .i64 g2.nons, .int .i64 g2.toks, .slice Y2 g2.rules.length c2] 26] := H
  have H := H.drew
  refine ⟨fun w' => Box w' b12 [.int .i64 g1.nons, .int .i64 g1.toks, .slice Y1 g1.rules.length c1] 26 ∧ Box w' b14 [.int .i64 g2.nons, .int .i64 g2.toks, .slice Y2 g2.rules.length c2] 26, ⟨H.box 5 rfl, H.box 6 rfl⟩, ?_⟩
  refine rdi (rdS26 rfl fun w' h => h.1) (rdi (rdS26 rfl fun w' h => h.2) ?_)
  refine buildH H u27 inf3 (ints [0, 1, 2, 3, 3, 5]) (by decide) (by decide) (by simp [Instr.fill, madeCells, Value.cells, rng6, ints]) rfl fun b9 w9 H => ?_
  simp only [List.cons_append, List.nil_append] at H
  refine ⟨⟨H.box 5 rfl, H.box 6 rfl⟩, ?_⟩
  refine among_c (xs := [0, 1, 2, 3, 3, 5]) H 0 rfl hC (by omega) (fun w' H => Apt.ints H 7 (xs := [0, 1, 2, 3, 3, 5]) rfl) rfl (by simp) (by simp) fun w10 j hj H => ?_
  simp only [List.set_cons_zero] at H
  generalize ([0, 1, 2, 3, 3, 5] : List Int).getD j 0 = most
  refine ⟨⟨H.box 5 rfl, H.box 6 rfl⟩, ?_⟩
  refine storeH H 3 rfl sz26 rfl rfl rfl fun w11 H => ?_
  simp only [List.cons_append, List.nil_append, List.set_cons_zero, List.set_cons_succ] at H
  refine ⟨⟨H.box 5 rfl, H.box 6 rfl⟩, ?_⟩
  refine storeH H 4 rfl sz26 rfl rfl rfl fun w12 H => ?_
  simp only [List.cons_append, List.nil_append, List.set_cons_zero, List.set_cons_succ] at H
  rw [rd_loadVar, ldB_agg agg26 sz26 rfl (H.box 3 rfl), rd_loadVar, ldB_agg agg26 sz26 rfl (H.box 4 rfl)]
  exact hk w12 g1 g2 Y1 c1 Y2 c2 most H.gr ⟨hc1, (H.rdr 2 rfl).mono fun _ _ => trivial⟩ ⟨hc2, (H.rdr 1 rfl).mono fun _ _ => trivial⟩
theorem drawCountByLong_c (hC : Byts w C bs) (hk : ∀ w' gm Y cy most, Gr w w' → kG Y cy gm.rules w' → k (.tuple #[grv gm Y cy, .int .i64 most]) w') :
    CallK Try.prog 79 [.slice C bs.length cap] k w := by
  refine enter79 ?_
  unfold S79
  have H := Apt.nil w
  refine allocH H inf26 fun b1 w1 H => ?_
  refine drawShortWords_c (hC.gr H.gr) fun w2 gm ft Y cy most hd A => ?_
  have H := H.append A
  simp only [List.cons_append, List.nil_append] at H
  simp only [bin_add, bin_sub, bin_mul, bin_eql, bin_neq, bin_lss, bin_leq, bin_gtr, bin_geq, un_not, un_neg, zq4, zq3, zq1, zq2, zq0, cond_true', cond_false', zq14, zq15, zq16, zq17, zq13, zq10, zq12, zq11, zq7, zq5, zq6, zq9, zq8, resK_nil, resK_tmp, ite_T, ite_F, upd_at, add_plain, add_zero', Nat.reduceEqDiff, fa8_0, fa8_1, fa8_2, fa8_3, fa14_0, fa14_1, fa19_0, len22, len24, fa26_0, fa26_1, fa26_2, len27, fa33_0, fa33_1, len35, fa77_0, fa77_1, fa88_0, fa88_1, fa88_2, fa88_3, fa88_4, fa88_5, fa114_0, fa114_1, fa114_2, fa124_0, fa124_1, len134, len136, len154, fa156_0, fa156_1, fa156_2, fa156_3, fa156_4, fa156_5, fa156_6, fa184_0, fa184_1, fa200_0, fa200_1, fa200_2, fa200_3, fa215_0, fa215_1, fa215_2, fa215_3, fa215_4, len218, len271, fa274_0, fa274_1, fa274_2, fa303_0, fa303_1, fa303_2, fa303_3, fa314_0, fa314_1, fa314_2, fa314_3, fa314_4, fa314_5, fa314_6, fa314_7, fa314_8, fa314_9, fa314_10]
  refine storeH H 0 rfl sz26 rfl rfl rfl fun w3 H => ?_
  simp only [List.cons_append, List.nil_append, List.set_cons_zero, List.set_cons_succ] at H
  rw [rd_loadVar, ldB_agg agg26 sz26 rfl (H.box 0 rfl)]
  exact hk w3 gm Y cy most H.gr (gowK (H.gow 1 rfl))
end
end Go.Proofs.Ytegcjkhebecgbaa

/- Contract: DrawIsUseful. -/
set_option linter.unusedVariables false
set_option linter.unusedSimpArgs false
set_option maxRecDepth 100000
namespace Go.Proofs.Ytegcjkhebecgbaa
open Go Go.Sh Go.RowKit
section
variable {w : World} {C : Option Addr} {cap : Nat} {bs : List Int} {k : Value → World → Prop}
end
end Go.Proofs.Ytegcjkhebecgbaa

/- Bd: bodies of functions as terms of the frame calculus, printed by shgen.py of this repository. -/
set_option linter.unusedVariables false
set_option maxRecDepth 100000
namespace Go.Proofs.Ytegcjkhebecgbaa
open Go Go.Sh

/-! loop.example/g00758/spec.JoinOf -/
/-! loop.example/g00758/impl.JoinOf -/
/-! loop.example/g00758/spec.UnionOf -/
/-! loop.example/g00758/impl.UnionOf -/
end Go.Proofs.Ytegcjkhebecgbaa

/- Contracts: joined and united grammars, by the reference and by the program. -/
set_option linter.unusedVariables false
set_option linter.unusedSimpArgs false
set_option maxRecDepth 100000
namespace Go.Sh

end Go.Sh
namespace Go.Proofs.Ytegcjkhebecgbaa
open Go Go.Sh Go.RowKit

end Go.Proofs.Ytegcjkhebecgbaa

/- Plain: languages of unions, of what is joined, of what comes again and again. -/
set_option linter.unusedVariables false
set_option linter.unusedSimpArgs false
set_option maxRecDepth 100000
namespace Go.Sh
open Go
theorem inL_yi {gm : Gram} {ws : List Int} (hg : goodG gm = true) (hw : ws.length ≤ 10) : inL gm.rules ws = true ↔ Yi gm.rules (.inl 0) ws := by
  unfold inL
  rw [span_iff (good_lefts hg) (good_left6 hg) hw (Nat.le_refl _), der_yi (Nat.zero_le _) (Nat.le_refl _), cut_all]
end Go.Sh

/- The law of Beside. -/
set_option linter.unusedVariables false
set_option linter.unusedSimpArgs false
set_option maxRecDepth 100000
namespace Go.Sh
open Go
theorem inLV_of {gm : Gram} {ws : List Int} (hg : goodG gm = true) (hw : wordB gm.toks ws = true) : inLV gm ws = (inL gm.rules ws, true) := by
  unfold inLV wordG
  rw [hg, hw, if_pos (by rfl)]
end Go.Sh
namespace Go.Proofs.Ytegcjkhebecgbaa
open Go Go.Sh Go.RowKit
section
variable {w : World} {L : List (World → Prop)} {k : Value → World → Prop} {Y X : Option Addr} {cy cx n : Nat} {gm : Gram} {ws : List Int}
theorem newG2 {k : Value → Value → World → Prop} (H : Kn w L) {gm g2 : Gram} {Y Z : Option Addr} {cy cz : Nat} (h : ∀ b c w', Kn w' ((L ++ [kB b [.int .i64 gm.nons, .int .i64 gm.toks, .slice Y gm.rules.length cy] 26]) ++ [kB c [.int .i64 g2.nons, .int .i64 g2.toks, .slice Z g2.rules.length cz] 26]) → k (ptrv b) (ptrv c) w') :
    Do Try.prog (sAlloc 26) (fun p w1 => Do Try.prog (sAlloc 26) (fun q w2 => Do Try.prog (sStore 26 p (grv gm Y cy)) (fun _ w3 => Do Try.prog (sStore 26 q (grv g2 Z cz)) (fun _ w4 => k p q w4) w3) w2) w1) w := by
  have A := Apt.nil w
  refine allocH A inf26 fun b w1 A => ?_
  refine allocH A inf26 fun c w2 A => ?_
  simp only [List.nil_append, List.cons_append] at A
  refine storeH A 0 rfl sz26 rfl rfl rfl fun w3 A => ?_
  have A : Apt w w3 [bx b [.int .i64 gm.nons, .int .i64 gm.toks, .slice Y gm.rules.length cy] 26, bx c zg 26] := A
  refine storeH A 1 rfl sz26 rfl rfl rfl fun w4 A => ?_
  have A : Apt w w4 [bx b [.int .i64 gm.nons, .int .i64 gm.toks, .slice Y gm.rules.length cy] 26, bx c [.int .i64 g2.nons, .int .i64 g2.toks, .slice Z g2.rules.length cz] 26] := A
  exact h b c w4 (((H.step A.gr).addB (A.box 0 rfl)).addB (A.box 1 rfl))
end
end Go.Proofs.Ytegcjkhebecgbaa

/- Plain: what the law of Useful asks of the values. -/
set_option linter.unusedVariables false
set_option linter.unusedSimpArgs false
set_option maxRecDepth 100000
namespace Go.Sh
open Go
theorem goodG_iff {g : Gram} : goodG g = true ↔ inB g.nons 1 6 = true ∧ inB g.toks 1 4 = true ∧ g.rules.length ≤ 16 ∧ (∀ r ∈ g.rules, inB r.1 0 (g.nons - 1) = true ∧ r.2.length ≤ 4 ∧ r.2.all (symB g.nons g.toks) = true) ∧ g.rules.Nodup := by
  unfold goodG
  simp only [Bool.and_eq_true, decide_eq_true_eq, List.all_eq_true (l := List.range g.rules.length), List.mem_range]
  constructor
  · rintro ⟨⟨⟨h1, h2⟩, h3⟩, h4⟩
    refine ⟨h1, h2, h3, fun r hr => ?_, ?_⟩
    · obtain ⟨i, hi, rfl⟩ := List.getElem_of_mem hr
      have := h4 i hi
      simp only [goodR, Bool.and_eq_true, decide_eq_true_eq, rul_eq hi] at this
      exact ⟨this.1.1.1, this.1.1.2, this.1.2⟩
    · rw [List.Nodup, List.pairwise_iff_getElem]
      intro i j hi hj hij e
      have := h4 j hj
      simp only [goodR, Bool.and_eq_true, Bool.not_eq_true', List.any_eq_false, decide_eq_true_eq, rul_eq hj] at this
      refine this.2 g.rules[i] ?_ e.symm
      rw [List.mem_take_iff_getElem]
      exact ⟨i, by omega, rfl⟩
  · rintro ⟨h1, h2, h3, h4, h5⟩
    refine ⟨⟨⟨h1, h2⟩, h3⟩, fun i hi => ?_⟩
    obtain ⟨a1, a2, a3⟩ := h4 g.rules[i] (List.getElem_mem hi)
    simp only [goodR, Bool.and_eq_true, Bool.not_eq_true', List.any_eq_false, decide_eq_true_eq, rul_eq hi]
    refine ⟨⟨⟨a1, a2⟩, a3⟩, fun q hq e => ?_⟩
    obtain ⟨j, hj, rfl⟩ := List.getElem_of_mem hq
    rw [List.length_take] at hj
    rw [List.getElem_take] at e
    rw [List.Nodup, List.pairwise_iff_getElem] at h5
    exact h5 j i (by omega) hi (by omega) e.symm
theorem good_useful {gm : Gram} (hg : goodG gm = true) : goodG (usefulG gm) = true := by
  obtain ⟨h1, h2, h3, h4, h5⟩ := goodG_iff.1 hg
  have hs := usefulR_sublist gm.rules
  exact goodG_iff.2 ⟨h1, h2, Nat.le_trans hs.length_le h3, fun r hr => h4 r (hs.subset hr), hs.nodup h5⟩
theorem usefulV_good {gm : Gram} (hg : goodG gm = true) : usefulV gm = (usefulG gm, true) := by
  unfold usefulV
  rw [if_pos hg]
end Go.Sh

/- Contracts: FirstUnlike of the reference and of the program. -/
set_option linter.unusedVariables false
set_option linter.unusedSimpArgs false
set_option maxRecDepth 100000
namespace Go.Proofs.Ytegcjkhebecgbaa
open Go Go.Sh Go.RowKit
theorem specFirstUnlike_c {F E : Nat → Prop} {w : World} {v u : Value} {a b : Gram} {most : Int} (hv : GramV F w v a) (hu : GramV E w u b) {k : Value → World → Prop} (hk : ∀ w' U d, Gr w w' → Own 3 w' w.heap.size U d (firstV a b most).1 → k (.tuple #[.slice U (firstV a b most).1.length d, .bool (firstV a b most).2]) w') :
    CallK Try.prog 78 [v, u, .int .i64 most] k w := by
  obtain ⟨Y, cy, rfl, hc, hy⟩ := hv
  obtain ⟨Z, cz, rfl, hd, hz⟩ := hu
  refine enter78 ?_
  unfold S78
  have H := Apt.nil w
  refine boxH H fun b1 w1 H => ?_
  refine boxH H fun b2 w2 H => ?_
  refine rdi (ldB_agg agg26 sz26 rfl (H.box 0 rfl)) ?_
  refine specShortWords_c (gm := a) ⟨Y, cy, rfl, hc, hy.gr H.gr⟩ fun w3 U d ps g3 o3 => ?_
  have H := H.addLss g3 o3
  simp only [List.nil_append, List.cons_append] at H
  refine rdi zq1 (rdi zq2 ?_)
  refine rdi (ldB_agg agg26 sz26 rfl (H.box 1 rfl)) ?_
  refine specShortWords_c (gm := b) ⟨Z, cz, rfl, hd, hz.gr H.gr⟩ fun w4 V e qs g4 o4 => ?_
  have H := H.addLss g4 o4
  simp only [List.nil_append, List.cons_append] at H
  clear o3 o4
  have no : ¬ ((shortV a most).2 = true ∧ (shortV b most).2 = true ∧ twoB a b = true) → ∀ w', Gr w w' → k (.tuple #[.slice none 0 0, .bool false]) w' := fun h w' g => by
    rw [firstV, if_neg h] at hk
    exact hk w' none 0 g (Row.nil _ _ _ _)
  simp only [go_sem, Nat.reduceEqDiff]
  cases h1 : (shortV a most).2
  · simp only [Bool.not_false, go_sem, Nat.reduceEqDiff]
    exact no (fun h => by rw [h1] at h; exact absurd h.1 Bool.false_ne_true) _ H.gr
  simp only [Bool.not_true, go_sem, Nat.reduceEqDiff]
  cases h2 : (shortV b most).2
  · simp only [Bool.not_false, go_sem, Nat.reduceEqDiff]
    exact no (fun h => by rw [h2] at h; exact absurd h.2.1 Bool.false_ne_true) _ H.gr
  simp only [Bool.not_true, go_sem, Nat.reduceEqDiff]
  refine rdi (ldB_agg agg26 sz26 rfl (H.box 0 rfl)) ?_
  refine rdi (ldB_agg agg26 sz26 rfl (H.box 1 rfl)) ?_
  refine l20Two_c (a := a) (b := b) ⟨Y, cy, rfl, hc, hy.gr H.gr⟩ ⟨Z, cz, rfl, hd, hz.gr H.gr⟩ fun w5 g5 => ?_
  have H := H.step g5
  cases h3 : twoB a b
  · simp only [Bool.not_false, go_sem, Nat.reduceEqDiff]
    exact no (fun h => by rw [h3] at h; exact absurd h.2.2 Bool.false_ne_true) _ H.gr
  simp only [Bool.not_true, go_sem, Nat.reduceEqDiff]
  rw [firstV, if_pos ⟨h1, h2, h3⟩] at hk
  have G := H.gr
  refine l20Unlike_c (H.lssi 2 rfl).read (H.lssi 3 rfl).read (fun x => shortV_mem) (fun x => shortV_mem) fun w6 X c g6 o6 => ?_
  simp only [go_sem, Nat.reduceEqDiff]
  exact hk w6 X c (gr_trans G g6) (Row.mono o6 G.size)
theorem implFirstUnlike_c {F E : Nat → Prop} {w : World} {v u : Value} {a b : Gram} {most : Int} (hv : GramV F w v a) (hu : GramV E w u b) {k : Value → World → Prop} (hk : ∀ w' U d, Gr w w' → Own 3 w' w.heap.size U d (firstV a b most).1 → k (.tuple #[.slice U (firstV a b most).1.length d, .bool (firstV a b most).2]) w') :
    CallK Try.prog 77 [v, u, .int .i64 most] k w := by
  obtain ⟨Y0, cy, rfl, hc, hy⟩ := hv
  obtain ⟨Z0, cz, rfl, hd, hz⟩ := hu
  refine enter77 ?_
  unfold S77
  have H := Apt.nil w
  refine boxH H fun b1 w1 H => ?_
  refine boxH H fun b2 w2 H => ?_
  refine rdi (ldB_agg agg26 sz26 rfl (H.box 0 rfl)) ?_
  refine implShortWords_c (gm := a) ⟨Y0, cy, rfl, hc, hy.gr H.gr⟩ fun w3 U d ps g3 o3 => ?_
  have H := H.addLss g3 o3
  simp only [List.nil_append, List.cons_append] at H
  refine rdi zq1 (rdi zq2 ?_)
  refine rdi (ldB_agg agg26 sz26 rfl (H.box 1 rfl)) ?_
  refine implShortWords_c (gm := b) ⟨Z0, cz, rfl, hd, hz.gr H.gr⟩ fun w4 V e qs g4 o4 => ?_
  have H := H.addLss g4 o4
  simp only [List.nil_append, List.cons_append] at H
  clear o3 o4
  have no : ¬ ((shortV a most).2 = true ∧ (shortV b most).2 = true ∧ twoB a b = true) → ∀ w', Gr w w' → k (.tuple #[.slice none 0 0, .bool false]) w' := fun h w' g => by
    rw [firstV, if_neg h] at hk
    exact hk w' none 0 g (Row.nil _ _ _ _)
  simp only [go_sem, Nat.reduceEqDiff]
  cases h1 : (shortV a most).2
  · simp only [Bool.not_false, go_sem, Nat.reduceEqDiff]
    exact no (fun h => by rw [h1] at h; exact absurd h.1 Bool.false_ne_true) _ H.gr
  simp only [Bool.not_true, go_sem, Nat.reduceEqDiff]
  cases h2 : (shortV b most).2
  · simp only [Bool.not_false, go_sem, Nat.reduceEqDiff]
    exact no (fun h => by rw [h2] at h; exact absurd h.2.1 Bool.false_ne_true) _ H.gr
  simp only [Bool.not_true, go_sem, Nat.reduceEqDiff]
  refine rdi (ldB3 (H.box 0 rfl) rfl) ?_
  refine rdi (ldB3 (H.box 1 rfl) rfl) ?_
  simp only [go_sem, Nat.reduceEqDiff]
  have h3' : twoB a b = decide (a.toks = b.toks) := by rw [twoB, shortV_good h1, shortV_good h2]; rfl
  by_cases h3 : a.toks = b.toks
  case neg =>
    simp only [h3, decide_false, Bool.not_false, go_sem, Nat.reduceEqDiff]
    exact no (fun h => by rw [h3'] at h; exact h3 (of_decide_eq_true h.2.2)) _ H.gr
  simp only [h3, decide_true, Bool.not_true, go_sem, Nat.reduceEqDiff]
  rw [firstV, if_pos ⟨h1, h2, by rw [h3']; exact decide_eq_true h3⟩] at hk
  have hbA := fun x => @shortV_mem a most x
  have hbB := fun x => @shortV_mem b most x
  clear no
  generalize (shortV a most).1 = ls at *
  generalize (shortV b most).1 = bs at *
  have hle : ls.length ≤ 9223372036854775807 := (H.lssi 2 rfl).read.le
  have hle2 : bs.length ≤ 9223372036854775807 := (H.lssi 3 rfl).read.le
  refine loop_to ls.length 0 (fun i f w' => i ≤ ls.length ∧ i ≤ bs.length ∧ unlikeL ls bs = unlikeL (ls.drop i) (bs.drop i) ∧ ∃ (X Y : Option Addr) (n m c c' : Nat), f 8 = .slice X n c ∧ f 10 = .slice Y m c' ∧ AtS w' X n c ls ps i ∧ AtS w' Y m c' bs qs i ∧
      Apt w w' [bx b1 [.int .i64 a.nons, .int .i64 a.toks, .slice Y0 a.rules.length cy] 26, bx b2 [.int .i64 b.nons, .int .i64 b.toks, .slice Z0 b.rules.length cz] 26, lss U d ls ps, lss V e bs qs])
    ⟨Nat.zero_le _, Nat.zero_le _, by simp, U, V, _, _, d, e, rfl, rfl, AtS.of (H.lssi 2 rfl), AtS.of (H.lssi 3 rfl), H⟩ ?_
  rintro i f w5 N hag ⟨hi, hi2, hE, X, Y, n, m, c, c', h8, h10, aX, aY, H⟩ hN
  have hnX := aX.len
  have hnY := aY.len
  simp only [h8, h10, go_sem, Nat.reduceEqDiff]
  by_cases hn : n = 0
  · by_cases hm : m = 0
    · subst hn hm
      simp only [show (((0 : Nat) : Int) = 0) from rfl, decide_true, go_sem, Nat.reduceEqDiff]
      rw [show ls.drop i = [] from List.drop_of_length_le (by omega), show bs.drop i = [] from List.drop_of_length_le (by omega), unlikeL] at hE
      rw [unlikeR_no hE] at hk
      exact hk _ none 0 H.gr (Row.nil _ _ _ _)
    · subst hn
      have hj : i < bs.length := by omega
      simp only [show (((0 : Nat) : Int) = 0) from rfl, show ¬ ((0 : Int) < 0) from by omega, show ¬ ((m : Int) = 0) from by omega, decide_true, decide_false, go_sem, Nat.reduceEqDiff]
      rw [show ls.drop i = [] from List.drop_of_length_le (by omega), drop_rgt hj, unlikeL] at hE
      rw [unlikeR_of hE] at hk
      have H := H.drew.drew
      refine rdi (ix35_0 aY.ptr (by omega)) (rdi (ld27 (((aY.gr (gr_drew _)).gr (gr_drew _)).first (by omega))) ?_)
      exact hk _ _ _ H.gr ((H.lssi 3 rfl).own i hj)
  · have hj : i < ls.length := by omega
    by_cases hm : m = 0
    · subst hm
      simp only [show (((0 : Nat) : Int) = 0) from rfl, show ¬ ((n : Int) = 0) from by omega, decide_true, decide_false, go_sem, Nat.reduceEqDiff]
      rw [drop_rgt hj, show bs.drop i = [] from List.drop_of_length_le (by omega), unlikeL] at hE
      rw [unlikeR_of hE] at hk
      have H := H.drew
      refine rdi (ix35_0 aX.ptr (by omega)) (rdi (ld27 ((aX.gr (gr_drew _)).first (by omega))) ?_)
      exact hk _ _ _ H.gr ((H.lssi 2 rfl).own i hj)
    · have hj2 : i < bs.length := by omega
      simp only [show ¬ ((n : Int) = 0) from by omega, show ¬ ((m : Int) = 0) from by omega, show ((0 : Int) < (n : Int)) from by omega, decide_true, decide_false, go_sem, Nat.reduceEqDiff]
      rw [drop_rgt hj, drop_rgt hj2, unlikeL] at hE
      have H := H.drew
      have aX := aX.gr (gr_drew w5)
      have aY := aY.gr (gr_drew w5)
      have hcmp := cmpW_less (rgt ls i) (rgt bs i)
      refine rdi (ix35_0 aX.ptr (by omega)) (rdi (ld27 (aX.first (by omega))) ?_)
      refine rdi (ix35_0 aY.ptr (by omega)) (rdi (ld27 (aY.first (by omega))) ?_)
      refine compareWords_c ((H.lssi 2 rfl).own i hj).ints ((H.lssi 3 rfl).own i hj2).ints fun w6 g6 => ?_
      have H := H.step g6
      have aX := aX.gr g6
      have aY := aY.gr g6
      simp only [hcmp.1, go_sem, Nat.reduceEqDiff]
      cases hl : lessW (rgt ls i) (rgt bs i)
      · simp only [go_sem, Nat.reduceEqDiff]
        rw [hl, if_neg Bool.false_ne_true] at hE
        have H := H.drew
        have aX := aX.gr (gr_drew w6)
        have aY := aY.gr (gr_drew w6)
        refine rdi (ix35_0 aX.ptr (by omega)) (rdi (ld27 (aX.first (by omega))) ?_)
        refine rdi (ix35_0 aY.ptr (by omega)) (rdi (ld27 (aY.first (by omega))) ?_)
        refine compareWords_c ((H.lssi 2 rfl).own i hj).ints ((H.lssi 3 rfl).own i hj2).ints fun w7 g7 => ?_
        have H := H.step g7
        have aX := aX.gr g7
        have aY := aY.gr g7
        simp only [hcmp.2, go_sem, Nat.reduceEqDiff]
        cases hl2 : lessW (rgt bs i) (rgt ls i)
        · simp only [go_sem, Nat.reduceEqDiff]
          rw [hl2, if_neg Bool.false_ne_true] at hE
          have hcX := aX.le
          have hcY := aY.le
          refine rdi (sll35 (by omega) (by omega)) ?_
          refine rdi (sll35 (by omega) (by omega)) ?_
          exact hN _ _ hj ⟨by omega, by omega, hE, _, _, _, _, _, _, rfl, rfl, aX.next (by omega), aY.next (by omega), H⟩
        · simp only [go_sem, Nat.reduceEqDiff]
          rw [hl2, if_pos rfl] at hE
          rw [unlikeR_of hE] at hk
          refine rdi (ix35_0 aY.ptr (by omega)) (rdi (ld27 (aY.first (by omega))) ?_)
          exact hk _ _ _ H.gr ((H.lssi 3 rfl).own i hj2)
      · simp only [go_sem, Nat.reduceEqDiff]
        rw [hl, if_pos rfl] at hE
        rw [unlikeR_of hE] at hk
        refine rdi (ix35_0 aX.ptr (by omega)) (rdi (ld27 (aX.first (by omega))) ?_)
        exact hk _ _ _ H.gr ((H.lssi 2 rfl).own i hj)
end Go.Proofs.Ytegcjkhebecgbaa

/- Contracts: how many words of each length, by the reference and by the program. -/
set_option linter.unusedVariables false
set_option linter.unusedSimpArgs false
set_option maxRecDepth 100000
namespace Go.Sh
open Go
def tallyS (acc w : List Int) : List Int := acc.set w.length (acc.getD w.length 0 + 1)
def tally (n : Nat) (ls : List (List Int)) : List Int := ls.foldl tallyS (List.replicate n 0)
theorem tally_snoc (n : Nat) (ls : List (List Int)) (l : List Int) : tally n (ls ++ [l]) = tallyS (tally n ls) l := by
  unfold tally
  rw [List.foldl_append]
  rfl
theorem tally_length (n : Nat) : ∀ (ls : List (List Int)) (acc : List Int), (ls.foldl tallyS acc).length = acc.length := by
  intro ls
  induction ls with
  | nil => intro acc; rfl
  | cons l ls ih =>
    intro acc
    rw [List.foldl_cons, ih]
    simp [tallyS]
theorem tally_bd : ∀ (ls : List (List Int)) (acc : List Int) (B : Nat), (∀ j, 0 ≤ acc.getD j 0 ∧ acc.getD j 0 ≤ B) → ∀ j, 0 ≤ (ls.foldl tallyS acc).getD j 0 ∧ (ls.foldl tallyS acc).getD j 0 ≤ ((B + ls.length : Nat) : Int) := by
  intro ls
  induction ls with
  | nil => intro acc B h j; exact h j
  | cons l ls ih =>
    intro acc B h j
    rw [List.foldl_cons]
    have := ih (tallyS acc l) (B + 1) (fun j => ?_) j
    · rw [List.length_cons, show B + (ls.length + 1) = B + 1 + ls.length from by omega]
      exact this
    · have h1 := h j
      have h2 := h l.length
      unfold tallyS
      rw [List.getD_eq_getElem?_getD, List.getElem?_set]
      split
      · split
        · simp only [Option.getD_some]
          omega
        · simp only [Option.getD_none]
          omega
      · rw [← List.getD_eq_getElem?_getD]
        omega
theorem tally_get (n : Nat) (ls : List (List Int)) (j : Nat) : 0 ≤ (tally n ls).getD j 0 ∧ (tally n ls).getD j 0 ≤ ls.length := by
  have := tally_bd ls (List.replicate n 0) 0 (fun j => by
    rw [List.getD_eq_getElem?_getD, List.getElem?_replicate]
    split <;> simp) j
  rw [Nat.zero_add] at this
  exact this
theorem tally_len (n : Nat) (ls : List (List Int)) : (tally n ls).length = n := by
  unfold tally
  rw [tally_length n]
  simp
noncomputable def countV (gm : Gram) (most : Int) : List Int × Bool := if (shortV gm most).2 = true then (tally (most.toNat + 1) (shortV gm most).1, true) else ([], false)
end Go.Sh
namespace Go.Proofs.Ytegcjkhebecgbaa
open Go Go.Sh Go.RowKit
theorem putH {k : Value → World → Prop} {w0 w : World} {L : List Thing} (H : Apt w0 w L) (i : Nat) {j c : Nat} {X : Option Addr} {xs : List Int} {x : Int} (hi : L[i]? = some (ows X c xs)) (hj : j < xs.length)
    (h : ∀ w', Apt w0 w' (L.set i (ows X c (xs.set j x))) → k undef w') : Do Try.prog (sStore 3 (.pointer (some ((ad X).add j))) (.int .i64 x)) k w := by
  refine do_store_row sz3 rfl rfl (H.row i hi) (by omega) fun w' g hs hr => ?_
  have hr' : Row w' w0.heap.size 3 1 X (xs.set j x).length c (ints (xs.set j x)) := by
    rw [List.length_set, show ints (xs.set j x) = (ints xs).set j (.int .i64 x) from by simp [ints]]
    exact hr
  exact h w' (H.set hi (gx_of g fun q hq => hq) (fun q hq => .inl hq) (fun q hq => (Row.ge hr' hq).2) (rwi_kept hr'))
theorem specCountByLong_c {F : Nat → Prop} {w : World} {v : Value} {gm : Gram} {most : Int} (hv : GramV F w v gm) {k : Value → World → Prop}
    (hk : ∀ w' U d, Gr w w' → Own 3 w' w.heap.size U d (countV gm most).1 → k (.tuple #[.slice U (countV gm most).1.length d, .bool (countV gm most).2]) w') :
    CallK Try.prog 81 [v, .int .i64 most] k w := by
  obtain ⟨Y, cy, rfl, hc, hy⟩ := hv
  refine enter81 ?_
  unfold S81
  have H := Apt.nil w
  refine boxH H fun b1 w1 H => ?_
  rw [ldB_agg agg26 sz26 rfl (H.box 0 rfl)]
  unfold countV at hk
  refine specShortWords_c (gm := gm) ⟨Y, cy, rfl, hc, hy.gr H.gr⟩ fun w2 U d ps g2 o2 => ?_
  have H := (H.addLss g2 o2).erase 0
  simp only [List.nil_append, List.cons_append, List.eraseIdx_cons_zero] at H
  simp only [go_sem, Nat.reduceEqDiff]
  cases hs : (shortV gm most).2
  · simp only [Bool.not_false, go_sem, Nat.reduceEqDiff]
    rw [hs, if_neg Bool.false_ne_true] at hk
    exact hk _ none 0 H.gr (Row.nil _ _ _ _)
  rw [hs, if_pos rfl] at hk
  dsimp only at hk
  simp only [Bool.not_true, go_sem, Nat.reduceEqDiff]
  have hm : (goodG gm && inB most 0 4) = true := by
    unfold shortV at hs
    split at hs
    · assumption
    · cases hs
  have hS : (shortV gm most).1 = shortW gm (most.toNat + 1) := by
    unfold shortV
    rw [if_pos hm]
  simp only [Bool.and_eq_true] at hm
  have htk := good_toks hm.1
  obtain ⟨most, rfl⟩ : ∃ m' : Nat, most = m' := by
    simp only [inB, Bool.and_eq_true, decide_eq_true_eq] at hm
    exact ⟨most.toNat, by omega⟩
  have hm4 : most ≤ 4 := by
    simp only [inB, Bool.and_eq_true, decide_eq_true_eq] at hm
    omega
  rw [Int.toNat_natCast] at hk hS
  clear o2
  rw [hS] at H hk ⊢
  have hsl := shortW_len (gm := gm) htk.2 (n := most + 1) (by omega)
  have hsm := fun x => @shortW_mem gm (most + 1) x
  generalize shortW gm (most + 1) = ls at *
  rw [i64_of (by omega) (by omega), show ((most : Int) + 1) = ((most + 1 : Nat) : Int) from by omega]
  refine makeH H u27 inf3 (by omega) (by omega) fun b2 w3 H => ?_
  rw [zeros_ints] at H
  simp only [List.nil_append, List.cons_append] at H
  refine loop_to ls.length 0 (fun i f w' => i ≤ ls.length ∧ f 24 = .int .i64 i ∧ Apt w w' [lss U d ls ps, ows (some ⟨b2, 0, none⟩) (most + 1) (tally (most + 1) (ls.take i))])
    ⟨Nat.zero_le _, rfl, by simpa [tally, ows] using H⟩ ?_
  rintro i f w4 N hag ⟨hi, h24, H⟩ hN
  have f22 : f 22 = .slice U ls.length d := hag 22 (by decide)
  have f23 : f 23 = .int .i64 ls.length := hag 23 (by decide)
  have f8 : f 8 = .slice (some ⟨b2, 0, none⟩) (most + 1) (most + 1) := hag 8 (by decide)
  simp only [f22, f23, f8, h24, go_sem, Nat.reduceEqDiff]
  by_cases hlt : i < ls.length
  case neg =>
    simp only [show ¬ ((i : Int) < ls.length) from by omega, decide_false, go_sem, Nat.reduceEqDiff]
    rw [List.take_of_length_le (by omega)] at H
    have := hk _ _ _ H.gr (H.own 1 rfl)
    rw [tally_len] at this
    exact this
  simp only [show ((i : Int) < ls.length) from by omega, decide_true, go_sem, Nat.reduceEqDiff]
  have o := H.lssi 0 rfl
  have hx := hsm _ (rgt_mem hlt)
  have hT := H.own 1 rfl
  have hln := tally_len (most + 1) (ls.take i)
  have hgt := tally_get (most + 1) (ls.take i) (rgt ls i).length
  rw [List.length_take] at hgt
  refine rdi (ixn35 (fun h => o.ptr h) hlt) ?_
  refine rdi (ld27 (o.cell hlt)) ?_
  refine rdi len27 ?_
  refine rdi (ixn27 (X := some ⟨b2, 0, none⟩) (fun _ => rfl) (by omega)) ?_
  refine rdi (ld3 ((Own.ints hT).cell _ (by omega))) ?_
  simp only [go_sem, Nat.reduceEqDiff]
  rw [i64_of (by omega) (by omega)]
  refine rdi (ixn27 (X := some ⟨b2, 0, none⟩) (fun _ => rfl) (by omega)) ?_
  refine putH H 1 rfl (by omega) fun w5 H => ?_
  simp only [List.set_cons_zero, List.set_cons_succ] at H
  rw [i64_of (by omega) (by omega)]
  refine hN _ _ hlt ⟨by omega, rfl, ?_⟩
  rw [take_snoc_rgt hlt, tally_snoc]
  exact H
theorem implCountByLong_c {F : Nat → Prop} {w : World} {v : Value} {gm : Gram} {most : Int} (hv : GramV F w v gm) {k : Value → World → Prop}
    (hk : ∀ w' U d, Gr w w' → Own 3 w' w.heap.size U d (countV gm most).1 → k (.tuple #[.slice U (countV gm most).1.length d, .bool (countV gm most).2]) w') :
    CallK Try.prog 80 [v, .int .i64 most] k w := by
  obtain ⟨Y, cy, rfl, hc, hy⟩ := hv
  refine enter80 ?_
  unfold S80
  have H := Apt.nil w
  refine boxH H fun b1 w1 H => ?_
  rw [ldB_agg agg26 sz26 rfl (H.box 0 rfl)]
  unfold countV at hk
  refine implShortWords_c (gm := gm) ⟨Y, cy, rfl, hc, hy.gr H.gr⟩ fun w2 U d ps g2 o2 => ?_
  have H := (H.addLss g2 o2).erase 0
  simp only [List.nil_append, List.cons_append, List.eraseIdx_cons_zero] at H
  simp only [go_sem, Nat.reduceEqDiff]
  cases hs : (shortV gm most).2
  · simp only [Bool.not_false, go_sem, Nat.reduceEqDiff]
    rw [hs, if_neg Bool.false_ne_true] at hk
    exact hk _ none 0 H.gr (Row.nil _ _ _ _)
  rw [hs, if_pos rfl] at hk
  dsimp only at hk
  simp only [Bool.not_true, go_sem, Nat.reduceEqDiff]
  have hm : (goodG gm && inB most 0 4) = true := by
    unfold shortV at hs
    split at hs
    · assumption
    · cases hs
  have hS : (shortV gm most).1 = shortW gm (most.toNat + 1) := by
    unfold shortV
    rw [if_pos hm]
  simp only [Bool.and_eq_true] at hm
  have htk := good_toks hm.1
  obtain ⟨most, rfl⟩ : ∃ m' : Nat, most = m' := by
    simp only [inB, Bool.and_eq_true, decide_eq_true_eq] at hm
    exact ⟨most.toNat, by omega⟩
  have hm4 : most ≤ 4 := by
    simp only [inB, Bool.and_eq_true, decide_eq_true_eq] at hm
    omega
  rw [Int.toNat_natCast] at hk hS
  clear o2
  rw [hS] at H hk ⊢
  have hsl := shortW_len (gm := gm) htk.2 (n := most + 1) (by omega)
  have hsm := fun x => @shortW_mem gm (most + 1) x
  generalize shortW gm (most + 1) = ls at *
  rw [i64_of (by omega) (by omega), show ((most : Int) + 1) = ((most + 1 : Nat) : Int) from by omega]
  refine makeH H u27 inf3 (by omega) (by omega) fun b2 w3 H => ?_
  rw [zeros_ints] at H
  simp only [List.nil_append, List.cons_append] at H
  refine loop_to ls.length 0 (fun i f w' => i ≤ ls.length ∧ f 24 = .int .i64 i ∧ Apt w w' [lss U d ls ps, ows (some ⟨b2, 0, none⟩) (most + 1) (tally (most + 1) (ls.take i))])
    ⟨Nat.zero_le _, rfl, by simpa [tally, ows] using H⟩ ?_
  rintro i f w4 N hag ⟨hi, h24, H⟩ hN
  have f22 : f 22 = .slice U ls.length d := hag 22 (by decide)
  have f23 : f 23 = .int .i64 ls.length := hag 23 (by decide)
  have f8 : f 8 = .slice (some ⟨b2, 0, none⟩) (most + 1) (most + 1) := hag 8 (by decide)
  simp only [f22, f23, f8, h24, go_sem, Nat.reduceEqDiff]
  by_cases hlt : i < ls.length
  case neg =>
    simp only [show ¬ ((i : Int) < ls.length) from by omega, decide_false, go_sem, Nat.reduceEqDiff]
    rw [List.take_of_length_le (by omega)] at H
    have := hk _ _ _ H.gr (H.own 1 rfl)
    rw [tally_len] at this
    exact this
  simp only [show ((i : Int) < ls.length) from by omega, decide_true, go_sem, Nat.reduceEqDiff]
  have o := H.lssi 0 rfl
  have hx := hsm _ (rgt_mem hlt)
  have hT := H.own 1 rfl
  have hln := tally_len (most + 1) (ls.take i)
  have hgt := tally_get (most + 1) (ls.take i) (rgt ls i).length
  rw [List.length_take] at hgt
  refine rdi (ixn35 (fun h => o.ptr h) hlt) ?_
  refine rdi (ld27 (o.cell hlt)) ?_
  refine rdi len27 ?_
  refine rdi (ixn27 (X := some ⟨b2, 0, none⟩) (fun _ => rfl) (by omega)) ?_
  refine rdi (ld3 ((Own.ints hT).cell _ (by omega))) ?_
  simp only [go_sem, Nat.reduceEqDiff]
  rw [i64_of (by omega) (by omega)]
  refine rdi (ixn27 (X := some ⟨b2, 0, none⟩) (fun _ => rfl) (by omega)) ?_
  refine putH H 1 rfl (by omega) fun w5 H => ?_
  simp only [List.set_cons_zero, List.set_cons_succ] at H
  rw [i64_of (by omega) (by omega)]
  refine hN _ _ hlt ⟨by omega, rfl, ?_⟩
  rw [take_snoc_rgt hlt, tally_snoc]
  exact H
end Go.Proofs.Ytegcjkhebecgbaa

/- Plain: what the law of Unlike asks of the values. -/
set_option linter.unusedVariables false
set_option linter.unusedSimpArgs false
set_option maxRecDepth 100000
namespace Go.Sh
open Go
theorem lexLess_asymm : ∀ {a b : List Int}, lexLess a b = true → lexLess b a = false := by
  intro a
  induction a with
  | nil => intro b h; rw [lexLess_nil] at h; cases h
  | cons x a ih =>
    intro b h
    cases b with
    | nil => exact lexLess_nil _
    | cons y b =>
      rw [lexLess] at h ⊢
      by_cases e : x = y
      · rw [if_neg (fun h => h e)] at h
        rw [if_neg (fun h => h e.symm)]
        exact ih h
      · rw [if_pos e, decide_eq_true_eq] at h
        rw [if_pos (fun h => e h.symm)]
        exact decide_eq_false (by omega)
theorem lessW_asymm {a b : List Int} (h : lessW a b = true) : lessW b a = false := by
  unfold lessW at h ⊢
  by_cases e : a.length = b.length
  · rw [if_neg (fun h => h e)] at h
    rw [if_neg (fun h => h e.symm)]
    exact lexLess_asymm h
  · rw [if_pos e, decide_eq_true_eq] at h
    rw [if_pos (fun h => e h.symm)]
    exact decide_eq_false (by omega)
theorem lessW_ne {a b : List Int} (h : lessW a b = true) : a ≠ b := fun e => by
  rw [e, lessW_self] at h
  cases h
theorem unlike_xor : ∀ {ls bs : List (List Int)} {x : List Int}, ls.Pairwise (fun a b => lessW a b = true) → bs.Pairwise (fun a b => lessW a b = true) → unlikeL ls bs = some x → (x ∈ ls ∧ x ∉ bs) ∨ (x ∉ ls ∧ x ∈ bs) := by
  intro ls
  induction ls with
  | nil =>
    intro bs x h1 h2 h
    cases bs with
    | nil => cases h
    | cons y bs => rw [unlikeL] at h; exact .inr ⟨by simp, by rw [← Option.some.inj h]; exact List.mem_cons_self ..⟩
  | cons z ls ih =>
    intro bs x h1 h2 h
    cases bs with
    | nil => rw [unlikeL] at h; exact .inl ⟨by rw [← Option.some.inj h]; exact List.mem_cons_self .., by simp⟩
    | cons y bs =>
      rw [unlikeL] at h
      rw [List.pairwise_cons] at h1 h2
      split at h
      · rename_i hl
        obtain rfl := Option.some.inj h
        refine .inl ⟨List.mem_cons_self .., fun hm => ?_⟩
        rcases List.mem_cons.1 hm with e | hm
        · exact lessW_ne hl e
        · have := lessW_asymm (h2.1 _ hm)
          rw [hl] at this
          cases this
      · split at h
        · rename_i hl
          obtain rfl := Option.some.inj h
          refine .inr ⟨fun hm => ?_, List.mem_cons_self ..⟩
          rcases List.mem_cons.1 hm with e | hm
          · exact lessW_ne hl e
          · have := lessW_asymm (h1.1 _ hm)
            rw [hl] at this
            cases this
        · rename_i n1 n2
          have e : z = y := lessW_eq (by simpa using n1) (by simpa using n2)
          subst e
          rcases ih h1.2 h2.2 h with ⟨m1, m2⟩ | ⟨m1, m2⟩
          · refine .inl ⟨List.mem_cons_of_mem _ m1, fun hm => ?_⟩
            rcases List.mem_cons.1 hm with e | hm
            · exact lessW_ne (h1.1 _ m1) e.symm
            · exact m2 hm
          · refine .inr ⟨fun hm => ?_, List.mem_cons_of_mem _ m2⟩
            rcases List.mem_cons.1 hm with e | hm
            · exact lessW_ne (h2.1 _ m2) e.symm
            · exact m1 hm
theorem lexLess_app {a b : List Int} (h : lexLess a b = true) (c d : List Int) : lexLess (a ++ c) (b ++ d) = true := by
  induction a generalizing b with
  | nil => rw [lexLess_nil] at h; cases h
  | cons x a ih =>
    cases b with
    | nil => rw [lexLess] at h; cases h; intros; simp_all
    | cons y b =>
      rw [List.cons_append, List.cons_append, lexLess]
      rw [lexLess] at h
      by_cases e : x = y
      · rw [if_neg (fun h => h e)] at h ⊢
        exact ih h
      · rw [if_pos e] at h ⊢
        exact h
theorem lexLess_last (a : List Int) {s t : Int} (h : s < t) : lexLess (a ++ [s]) (a ++ [t]) = true := by
  induction a with
  | nil =>
    rw [List.nil_append, List.nil_append, lexLess, if_pos (by omega)]
    exact decide_eq_true h
  | cons x a ih =>
    rw [List.cons_append, List.cons_append, lexLess, if_neg (fun h => h rfl)]
    exact ih
theorem wordsN_lex (toks n : Nat) : (wordsN toks n).Pairwise fun a b => lexLess a b = true := by
  induction n with
  | zero => simp [wordsN]
  | succ n ih =>
    rw [wordsN, List.pairwise_flatMap]
    refine ⟨fun a ha => ?_, ih.imp fun {a b} h x hx y hy => ?_⟩
    · unfold extW
      rw [List.pairwise_map]
      exact List.pairwise_lt_range.imp fun h => lexLess_last a (by omega)
    · unfold extW at hx hy
      obtain ⟨s, _, rfl⟩ := List.mem_map.1 hx
      obtain ⟨t, _, rfl⟩ := List.mem_map.1 hy
      exact lexLess_app h _ _
theorem shortW_less (gm : Gram) (n : Nat) : (shortW gm n).Pairwise fun a b => lessW a b = true := by
  induction n with
  | zero => simp [shortW]
  | succ n ih =>
    rw [shortW_succ, List.pairwise_append]
    refine ⟨ih, ?_, fun a ha b hb => ?_⟩
    · have h1 := ((wordsN_lex gm.toks.toNat n).filter (inL gm.rules))
      refine h1.imp_of_mem fun {a b} ha hb h => ?_
      have l1 := (wordsN_mem (List.mem_filter.1 ha).1).1
      have l2 := (wordsN_mem (List.mem_filter.1 hb).1).1
      unfold lessW
      rw [if_neg (by omega)]
      exact h
    · have h1 := (shortW_mem ha).1
      have h2 := (wordsN_mem (List.mem_filter.1 hb).1).1
      unfold lessW
      rw [if_pos (by omega)]
      exact decide_eq_true (by omega)
theorem shortV_less (gm : Gram) (most : Int) : (shortV gm most).1.Pairwise fun a b => lessW a b = true := by
  unfold shortV
  split
  · exact shortW_less _ _
  · exact .nil
theorem wordsN_all {toks : Nat} (x : List Int) (h : ∀ t ∈ x, 0 ≤ t ∧ t < toks) : x ∈ wordsN toks x.length := by
  obtain ⟨y, rfl⟩ : ∃ y, x = y.reverse := ⟨x.reverse, by simp⟩
  induction y with
  | nil => simp [wordsN]
  | cons a y ih =>
    rw [List.reverse_cons] at h ⊢
    rw [List.length_append, List.length_singleton, wordsN, List.mem_flatMap]
    refine ⟨_, ih fun t ht => h t (by simp at ht ⊢; exact .inl ht), ?_⟩
    unfold extW
    have ha := h a (by simp)
    rw [List.mem_map]
    exact ⟨a.toNat, List.mem_range.2 (by omega), by rw [Int.toNat_of_nonneg ha.1]⟩
theorem shortV_true {gm : Gram} {most : Int} (h : (shortV gm most).2 = true) : goodG gm = true ∧ 0 ≤ most ∧ most ≤ 4 ∧ shortV gm most = (shortW gm (most.toNat + 1), true) := by
  unfold shortV at h ⊢
  split at h
  · rename_i hc
    rw [if_pos hc]
    simp only [Bool.and_eq_true, inB, decide_eq_true_eq] at hc
    exact ⟨hc.1, hc.2.1, hc.2.2, rfl⟩
  · cases h
theorem shortV_in {gm : Gram} {most : Int} (h : (shortV gm most).2 = true) {x : List Int} (hx : ∀ t ∈ x, 0 ≤ t ∧ t < gm.toks.toNat) (hl : (x.length : Int) ≤ most) : x ∈ (shortV gm most).1 ↔ inL gm.rules x = true := by
  obtain ⟨hg, h0, h4, e⟩ := shortV_true h
  rw [e]
  dsimp only
  unfold shortW
  rw [List.mem_flatMap]
  constructor
  · rintro ⟨m, _, hm⟩
    exact (List.mem_filter.1 hm).2
  · intro hi
    exact ⟨x.length, List.mem_range.2 (by omega), List.mem_filter.2 ⟨wordsN_all x hx, hi⟩⟩
theorem unlike_true {a b : Gram} {most : Int} {x : List Int} (h : firstV a b most = (x, true)) : ∃ p q : Bool, inLV a x = (p, true) ∧ inLV b x = (q, true) ∧ p ≠ q ∧ (x.length : Int) ≤ most := by
  unfold firstV at h
  split at h
  · rename_i hc
    obtain ⟨ha, hb, ht⟩ := hc
    obtain ⟨hga, h0, h4, ea⟩ := shortV_true ha
    obtain ⟨hgb, _, _, eb⟩ := shortV_true hb
    have hts : a.toks = b.toks := by
      simp only [twoB, Bool.and_eq_true, decide_eq_true_eq] at ht
      exact ht.2
    have hu : unlikeL (shortV a most).1 (shortV b most).1 = some x := by
      unfold unlikeR at h
      split at h
      · rename_i y hy
        rw [hy, (Prod.mk.inj h).1]
      · cases h
    have hwd : (∀ t ∈ x, 0 ≤ t ∧ t < a.toks.toNat) ∧ (x.length : Int) ≤ most := by
      rcases unlike_mem hu with hm | hm
      · rw [ea] at hm
        have := shortW_mem hm
        exact ⟨this.2, by omega⟩
      · rw [eb] at hm
        have := shortW_mem hm
        rw [hts]
        exact ⟨this.2, by omega⟩
    have h1 := shortV_in ha hwd.1 hwd.2
    have h2 := shortV_in hb (hts ▸ hwd.1) hwd.2
    have hta := good_toks hga
    have hwa : wordB a.toks x = true := by
      simp only [wordB, allB, inB, Bool.and_eq_true, decide_eq_true_eq, List.all_eq_true]
      exact ⟨by have := hwd.2; omega, fun t htx => by have := hwd.1 t htx; omega⟩
    have hwb : wordB b.toks x = true := hts ▸ hwa
    refine ⟨inL a.rules x, inL b.rules x, inLV_of hga hwa, inLV_of hgb hwb, fun e => ?_, hwd.2⟩
    rw [Bool.eq_iff_iff, ← h1, ← h2] at e
    rcases unlike_xor (shortV_less a most) (shortV_less b most) hu with ⟨m1, m2⟩ | ⟨m1, m2⟩
    · exact m2 (e.1 m1)
    · exact m1 (e.2 m2)
  · cases h
theorem same_first {a b : Gram} {most : Int} {s ok one : Bool} {x : List Int} (h : sameV a b most = (s, ok)) (h1 : firstV a b most = (x, one)) : one = (ok && !s) := by
  unfold sameV at h
  unfold firstV at h1
  split at h
  · rename_i hc
    rw [if_pos hc] at h1
    have e := unlikeR_same (shortV a most).1 (shortV b most).1
    rw [h1] at e
    rw [← (Prod.mk.inj h).1, ← (Prod.mk.inj h).2, Bool.true_and]
    exact e
  · rename_i hc
    rw [if_neg hc] at h1
    rw [← (Prod.mk.inj h).2, ← (Prod.mk.inj h1).2]
    rfl
theorem sum_set : ∀ {acc : List Int} {j : Nat} {x : Int}, j < acc.length → (acc.set j x).sum = acc.sum - acc.getD j 0 + x := by
  intro acc
  induction acc with
  | nil => intro j x h; simp at h
  | cons a acc ih =>
    intro j x h
    cases j with
    | zero => simp; omega
    | succ j =>
      have := ih (j := j) (x := x) (by simpa using h)
      simp only [List.set_cons_succ, List.sum_cons, List.getD_cons_succ, this]
      omega
theorem tally_sum : ∀ (ls : List (List Int)) (acc : List Int), (∀ x ∈ ls, x.length < acc.length) → (ls.foldl tallyS acc).sum = acc.sum + ls.length := by
  intro ls
  induction ls with
  | nil => intro acc _; simp
  | cons l ls ih =>
    intro acc h
    have hl := h l (List.mem_cons_self ..)
    rw [List.foldl_cons, ih]
    · unfold tallyS
      rw [sum_set hl, List.length_cons]
      omega
    · intro x hx
      unfold tallyS
      rw [List.length_set]
      exact h x (List.mem_cons_of_mem _ hx)
theorem sum_take {c : List Int} (h : ∀ x ∈ c, 0 ≤ x) (i : Nat) : 0 ≤ (c.take i).sum ∧ (c.take i).sum ≤ c.sum := by
  induction c generalizing i with
  | nil => simp
  | cons a c ih =>
    have ha := h a (List.mem_cons_self ..)
    have ihc := fun i => ih (fun x hx => h x (List.mem_cons_of_mem _ hx)) i
    cases i with
    | zero =>
      have := ihc 0
      simp at this ⊢
      omega
    | succ i =>
      have := ihc i
      rw [List.take_succ_cons, List.sum_cons, List.sum_cons]
      omega
theorem count_true {gm : Gram} {most : Int} {c : List Int} (h : countV gm most = (c, true)) : goodG gm = true ∧ (shortV gm most).2 = true ∧ c.sum = (shortV gm most).1.length ∧ (c.length : Int) = most + 1 ∧ (∀ x ∈ c, 0 ≤ x) ∧ (shortV gm most).1.length ≤ 6144 ∧ most ≤ 4 := by
  unfold countV at h
  split at h
  · rename_i hs
    obtain ⟨hg, h0, h4, e⟩ := shortV_true hs
    have ec := (Prod.mk.inj h).1
    subst ec
    have hm : ∀ x ∈ (shortV gm most).1, x.length < (List.replicate (most.toNat + 1) (0 : Int)).length := fun x hx => by
      rw [e] at hx
      have := (shortW_mem hx).1
      rw [List.length_replicate]
      exact this
    refine ⟨hg, hs, ?_, ?_, fun x hx => ?_, ?_, h4⟩
    · unfold tally
      rw [tally_sum _ _ hm]
      simp
    · rw [tally_len]
      omega
    · obtain ⟨j, hj, rfl⟩ := List.getElem_of_mem hx
      have := (tally_get (most.toNat + 1) (shortV gm most).1 j).1
      rwa [List.getD_eq_getElem?_getD, List.getElem?_eq_getElem hj] at this
    · rw [e]
      have := shortW_len (gm := gm) (n := most.toNat + 1) (good_toks hg).2 (by omega)
      dsimp only
      omega
  · cases h
theorem same_useful {gm : Gram} {most : Int} (h : (shortV gm most).2 = true) : sameV gm (usefulG gm) most = (true, true) := by
  obtain ⟨hg, h0, h4, e⟩ := shortV_true h
  have hg' := good_useful hg
  have e2 : shortV (usefulG gm) most = (shortW (usefulG gm) (most.toNat + 1), true) := by
    unfold shortV
    rw [if_pos (by simp [hg', inB]; omega)]
  have e3 : shortW (usefulG gm) (most.toNat + 1) = shortW gm (most.toNat + 1) := by
    unfold shortW
    have ht : (usefulG gm).toks = gm.toks := rfl
    rw [ht, List.flatMap_def, List.flatMap_def]
    congr 1
    refine List.map_congr_left fun m hm => ?_
    rw [List.mem_range] at hm
    refine List.filter_congr fun x hx => ?_
    have hl := (wordsN_mem hx).1
    rw [Bool.eq_iff_iff, inL_yi hg (by omega), inL_yi hg' (by omega)]
    exact useful_yi
  unfold sameV
  rw [if_pos ⟨h, by rw [e2], by simp [twoB, hg, hg']; rfl⟩, e, e2, e3]
  simp
end Go.Sh
